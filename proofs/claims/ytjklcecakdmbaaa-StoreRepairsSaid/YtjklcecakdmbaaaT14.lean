/-
  The law StoreRepairs, plain.
-/
import Derived.Test.YtjklcecakdmbaaaT13
namespace Go.Proofs.Ytjklcecakdmbaaa
open Go.RowKit

/-! ## How many numbers a set holds -/
theorem countP_or {α : Type} (p q : α → Bool) (h : ∀ x, ¬ (p x = true ∧ q x = true)) : ∀ l : List α, l.countP (fun x => p x || q x) = l.countP p + l.countP q
  | [] => rfl
  | x :: r => by
    rw [List.countP_cons, List.countP_cons, List.countP_cons, countP_or p q h r]
    have := h x
    cases hp : p x <;> cases hq : q x <;> simp [hp, hq] at * <;> omega
theorem count_below (b : Int) (hb : 0 ≤ b) : ∀ N : Nat, (((List.range N).countP fun x : Nat => decide ((x : Int) < b) : Nat) : Int) = min b N
  | 0 => by simp; omega
  | N + 1 => by
    rw [List.range_succ, List.countP_append, List.countP_singleton]
    have := count_below b hb N
    by_cases h : (N : Int) < b
    · simp only [h, decide_true, if_true]; omega
    · simp only [h, decide_false]; simp; omega
theorem count_between {a b : Int} (ha : 0 ≤ a) (hab : a ≤ b) (hb : b ≤ 16384) : ((cntN fun x : Nat => decide (a ≤ (x : Int) ∧ (x : Int) < b) : Nat) : Int) = b - a := by
  have h1 := count_below a ha 16384
  have h2 := count_below b (by omega) 16384
  have h3 := countP_or (fun x : Nat => decide ((x : Int) < a)) (fun x : Nat => decide (a ≤ (x : Int) ∧ (x : Int) < b)) (fun x => by simp; omega) (List.range 16384)
  have h4 : (fun x : Nat => decide ((x : Int) < a) || decide (a ≤ (x : Int) ∧ (x : Int) < b)) = fun x : Nat => decide ((x : Int) < b) := by
    funext x
    rw [Bool.eq_iff_iff]
    simp
    omega
  rw [h4] at h3
  unfold cntN
  omega
theorem total_cnt : ∀ {l : List (Int × Int)}, Wf l → total l = ((cntN fun x => hasB l x : Nat) : Int)
  | [], _ => by
    rw [cntN_small (m := 0) (by decide) (fun x h => by cases h)]
    rfl
  | x :: r, h => by
    have hx := h.each x (by simp)
    have hr : Wf r := ⟨fun y hy => h.each y (by simp [hy]), (List.pairwise_cons.1 h.apart).2⟩
    have ha := (List.pairwise_cons.1 h.apart).1
    have h1 := total_cnt hr
    have h2 := count_between hx.1 (by omega) hx.2.2
    have h3 := countP_or (fun n : Nat => decide (x.1 ≤ (n : Int) ∧ (n : Int) < x.2)) (fun n : Nat => hasB r n) (fun n => by
      rintro ⟨h4, h5⟩
      simp at h4
      obtain ⟨z, hz, h6, h7⟩ := (hasB_iff _ _).1 h5
      have := ha z hz
      omega) (List.range 16384)
    have h4 : (fun n : Nat => hasB (x :: r) n) = fun n : Nat => decide (x.1 ≤ (n : Int) ∧ (n : Int) < x.2) || hasB r n := by
      funext n
      rw [Bool.eq_iff_iff]
      simp [hasB]
    rw [total, h4]
    unfold cntN at *
    omega

/-! ## The store of the law -/
structure Filled (s : SS) (hold : Int) (j : Nat) : Prop where
  room : s.room = 64
  hold : s.hold = hold
  order : s.order = (List.range j).map fun i : Nat => (i : Int)
  txt : ∀ k, s.txt k = if 0 ≤ k ∧ k < j then some [k] else none
  l : s.l = []
  rp : ∀ k, s.rp k = none
theorem Filled.init (hold : Int) : Filled (SS.init 64 hold) hold 0 :=
  ⟨rfl, rfl, rfl, fun k => by rw [if_neg (by omega)]; rfl, rfl, fun _ => rfl⟩
theorem Filled.put {s : SS} {hold : Int} {j : Nat} (h : Filled s hold j) (hj : j < 64) : Filled (s.put j [(j : Int)]).1 hold (j + 1) := by
  have hni : (j : Int) ∉ s.order := by
    rw [h.order]
    intro e
    obtain ⟨i, hi, e⟩ := List.mem_map.1 e
    have := List.mem_range.1 hi
    omega
  have ho : (s.add j [(j : Int)]).order = (List.range (j + 1)).map fun i : Nat => (i : Int) := by
    show (if (j : Int) ∈ s.order then s.order else s.order ++ [(j : Int)]) = _
    rw [if_neg hni, h.order, List.range_succ, List.map_append]
    rfl
  have hp : s.put j [(j : Int)] = (s.add j [(j : Int)], -1) := by
    rcases put_cases s j [(j : Int)] with ⟨_, h2⟩ | ⟨h1, _⟩ | h1
    · exact h2
    · rw [ho, h.room] at h1; simp at h1; omega
    · exact absurd h1 (add_ne s _ _)
  rw [hp]
  refine ⟨h.room, h.hold, ho, fun k => ?_, h.l, h.rp⟩
  show upd s.txt j (some [(j : Int)]) k = _
  unfold upd
  by_cases e : k = j
  · subst e
    rw [if_pos rfl, if_pos (by omega)]
  · rw [if_neg e, h.txt]
    by_cases e2 : 0 ≤ k ∧ k < j
    · rw [if_pos e2, if_pos (by omega)]
    · rw [if_neg e2, if_neg (by omega)]
/-- What is taken. -/
def takeB (L : List (Int × Int)) (n : Int) : Bool := hasL L n && decide (0 ≤ n ∧ n < 64)
/-- Those that are told once it is at `y`. -/
def tells (L : List (Int × Int)) (now y n : Int) : Option Int := if takeB L n = true ∧ n ≤ y then some now else none
/-- How many are taken up to `y`. -/
def cntB (L : List (Int × Int)) (y : Int) : Nat := (List.range 64).countP fun x : Nat => hasL L x && decide ((x : Int) ≤ y)
def cntA (L : List (Int × Int)) : Nat := (List.range 64).countP fun x : Nat => hasL L x
theorem cntA_le (L : List (Int × Int)) : cntA L ≤ 64 := by
  have := List.countP_le_length (p := fun x : Nat => hasL L x) (l := List.range 64)
  rw [List.length_range] at this
  exact this
theorem cntB_le (L : List (Int × Int)) (y : Int) : cntB L y ≤ 64 := by
  have := List.countP_le_length (p := fun x : Nat => hasL L x && decide ((x : Int) ≤ y)) (l := List.range 64)
  rw [List.length_range] at this
  exact this
theorem cntB_neg (L : List (Int × Int)) : cntB L (-1) = 0 := by
  unfold cntB
  rw [List.countP_eq_zero]
  intro x _
  simp
  omega
theorem cntB_all {L : List (Int × Int)} {y : Int} (h : ∀ n, takeB L n = true → n ≤ y) : cntB L y = cntA L := by
  unfold cntB cntA
  refine List.countP_congr fun x hx => ?_
  have hx := List.mem_range.1 hx
  simp only [Bool.and_eq_true, decide_eq_true_eq]
  constructor
  · exact fun h => h.1
  · exact fun h1 => ⟨h1, h x (by unfold takeB; rw [h1]; simp; omega)⟩
theorem cntB_next {L : List (Int × Int)} {y x : Int} (hx : takeB L x = true) (hy : y < x) (hl : ∀ n, takeB L n = true → y < n → x ≤ n) : cntB L x = cntB L y + 1 := by
  have hx2 := hx
  unfold takeB at hx2
  simp only [Bool.and_eq_true, decide_eq_true_eq] at hx2
  obtain ⟨h1, h2, h3⟩ := hx2
  have h4 := countP_or (fun n : Nat => hasL L n && decide ((n : Int) ≤ y)) (fun n : Nat => decide ((n : Int) = x)) (fun n => by simp; omega) (List.range 64)
  have h5 : (List.range 64).countP (fun n : Nat => decide ((n : Int) = x)) = 1 := by
    have h6 : (fun n : Nat => decide ((n : Int) = x)) = fun n : Nat => n == x.toNat := by
      funext n
      rw [Bool.eq_iff_iff]
      simp
      omega
    rw [h6]
    show (List.range 64).count x.toNat = 1
    rw [List.nodup_range.count]
    rw [if_pos (List.mem_range.2 (by omega))]
  have h6 : cntB L x = (List.range 64).countP (fun n : Nat => (hasL L n && decide ((n : Int) ≤ y)) || decide ((n : Int) = x)) := by
    unfold cntB
    refine List.countP_congr fun n hn => ?_
    have hn := List.mem_range.1 hn
    simp only [Bool.and_eq_true, Bool.or_eq_true, decide_eq_true_eq]
    constructor
    · rintro ⟨h7, h8⟩
      by_cases h9 : (n : Int) ≤ y
      · exact .inl ⟨h7, h9⟩
      · have := hl n (by unfold takeB; rw [h7]; simp; omega) (by omega)
        exact .inr (by omega)
    · rintro (⟨h7, h8⟩ | rfl)
      · exact ⟨h7, by omega⟩
      · exact ⟨h1, by omega⟩
  rw [h6, h4, h5]
  rfl
section
variable {s : SS} {hold now : Int} {L : List (Int × Int)}
theorem Filled.may0 (h : Filled s hold 64) (n : Int) : mayTake s now n = decide (0 ≤ n ∧ n < 64) := by
  unfold mayTake freshB
  rw [h.rp, h.txt]
  by_cases e : 0 ≤ n ∧ n < 64
  · have e' : 0 ≤ n ∧ n < ((64 : Nat) : Int) := e
    rw [if_pos e']; simp [e]
  · have e' : ¬ (0 ≤ n ∧ n < ((64 : Nat) : Int)) := e
    rw [if_neg e']; simp [e]
theorem cntN_take {Q : Nat → Bool} (h : ∀ x : Nat, Q x = takeB L x) : cntN Q = cntA L := by
  rw [cntN_small (m := 64) (by decide) (fun x hx => by rw [h x] at hx; unfold takeB at hx; simp at hx; omega)]
  unfold cntA
  refine List.countP_congr fun x hx => ?_
  have hx := List.mem_range.1 hx
  rw [h x]
  unfold takeB
  simp
  omega
theorem cntN_none {Q : Nat → Bool} (h : ∀ x : Nat, Q x = false) : cntN Q = 0 := by
  rw [cntN_small (m := 0) (by decide) (fun x hx => by rw [h x] at hx; cases hx)]
  rfl
end
end Go.Proofs.Ytjklcecakdmbaaa
