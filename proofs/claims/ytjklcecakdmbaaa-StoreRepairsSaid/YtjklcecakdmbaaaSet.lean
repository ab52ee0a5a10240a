/-
  Plain laws: sets of numbers as rising stretches of which no two touch.
-/
import Derived.Test.YtjklcecakdmbaaaLib
namespace Go.Proofs.Ytjklcecakdmbaaa
open Go.RowKit

def flat (l : List (Int × Int)) : List Value := l.flatMap fun x => [Value.int .i64 x.1, Value.int .i64 x.2]
@[simp] theorem flat_nil : flat [] = [] := rfl
theorem flat_cons (x : Int × Int) (l : List (Int × Int)) : flat (x :: l) = [Value.int .i64 x.1, Value.int .i64 x.2] ++ flat l := rfl
theorem flat_append (a b : List (Int × Int)) : flat (a ++ b) = flat a ++ flat b := by simp [flat]
theorem flat_length (l : List (Int × Int)) : (flat l).length = l.length * 2 := by
  induction l with
  | nil => rfl
  | cons x l ih => rw [flat_cons, List.length_append, ih]; simp; omega
theorem flat_take (l : List (Int × Int)) (k : Nat) : (flat l).take (k * 2) = flat (l.take k) := by
  induction l generalizing k with
  | nil => simp
  | cons x l ih =>
    cases k with
    | zero => simp
    | succ k =>
      rw [List.take_succ_cons, flat_cons, flat_cons, ← ih k, show (k + 1) * 2 = k * 2 + 2 by omega]
      simp
theorem flat_drop (l : List (Int × Int)) (k : Nat) : (flat l).drop (k * 2) = flat (l.drop k) := by
  induction l generalizing k with
  | nil => simp
  | cons x l ih =>
    cases k with
    | zero => simp
    | succ k =>
      rw [List.drop_succ_cons, flat_cons, ← ih k, show (k + 1) * 2 = k * 2 + 2 by omega]
      simp
theorem flat_one (l : List (Int × Int)) : ∀ u ∈ flat l, u.oneCell' = true := by
  intro u hu
  simp only [flat, List.mem_flatMap] at hu
  obtain ⟨x, _, hx⟩ := hu
  simp at hx
  rcases hx with rfl | rfl <;> rfl
theorem flat_get0 {l : List (Int × Int)} {k : Nat} {x : Int × Int} (h : l[k]? = some x) : (flat l)[k * 2]? = some (.int .i64 x.1) := by
  induction l generalizing k with
  | nil => simp at h
  | cons y l ih =>
    cases k with
    | zero => simp at h; subst h; rfl
    | succ k =>
      rw [List.getElem?_cons_succ] at h
      rw [flat_cons, show (k + 1) * 2 = k * 2 + 2 by omega, List.getElem?_append_right (by simp)]
      simpa using ih h
theorem flat_get1 {l : List (Int × Int)} {k : Nat} {x : Int × Int} (h : l[k]? = some x) : (flat l)[k * 2 + 1]? = some (.int .i64 x.2) := by
  induction l generalizing k with
  | nil => simp at h
  | cons y l ih =>
    cases k with
    | zero => simp at h; subst h; rfl
    | succ k =>
      rw [List.getElem?_cons_succ] at h
      rw [flat_cons, show (k + 1) * 2 + 1 = k * 2 + 1 + 2 by omega, List.getElem?_append_right (by simp)]
      simpa using ih h

def total : List (Int × Int) → Int
  | [] => 0
  | x :: r => x.2 - x.1 + total r
theorem total_append (a b : List (Int × Int)) : total (a ++ b) = total a + total b := by
  induction a with
  | nil => simp [total]
  | cons x a ih => simp only [List.cons_append, total, ih]; omega

/-- Is a number in it? -/
def inS (l : List (Int × Int)) (n : Int) : Prop := ∃ x ∈ l, x.1 ≤ n ∧ n < x.2
theorem inS_append (a b : List (Int × Int)) (n : Int) : inS (a ++ b) n ↔ inS a n ∨ inS b n := by
  simp only [inS, List.mem_append]
  constructor
  · rintro ⟨x, hx | hx, h⟩
    · exact .inl ⟨x, hx, h⟩
    · exact .inr ⟨x, hx, h⟩
  · rintro (⟨x, hx, h⟩ | ⟨x, hx, h⟩)
    · exact ⟨x, .inl hx, h⟩
    · exact ⟨x, .inr hx, h⟩
theorem inS_nil (n : Int) : ¬ inS [] n := by rintro ⟨x, hx, _⟩; cases hx
theorem inS_cons (x : Int × Int) (l : List (Int × Int)) (n : Int) : inS (x :: l) n ↔ (x.1 ≤ n ∧ n < x.2) ∨ inS l n := by
  simp only [inS, List.mem_cons]
  constructor
  · rintro ⟨y, rfl | hy, h⟩
    · exact .inl h
    · exact .inr ⟨y, hy, h⟩
  · rintro (h | ⟨y, hy, h⟩)
    · exact ⟨x, .inl rfl, h⟩
    · exact ⟨y, .inr hy, h⟩

/-- Right stretches, rising, of which no two touch. -/
structure Wf (l : List (Int × Int)) : Prop where
  each : ∀ x ∈ l, 0 ≤ x.1 ∧ x.1 < x.2 ∧ x.2 ≤ 16384
  apart : l.Pairwise fun x y => x.2 < y.1
theorem Wf.nil : Wf [] := ⟨by simp, .nil⟩
theorem Wf.at {l : List (Int × Int)} (h : Wf l) {k : Nat} {x : Int × Int} (hx : l[k]? = some x) : 0 ≤ x.1 ∧ x.1 < x.2 ∧ x.2 ≤ 16384 := h.each x (List.mem_of_getElem? hx)
theorem Wf.lt {l : List (Int × Int)} (h : Wf l) {k k' : Nat} {x x' : Int × Int} (hk : k < k') (hx : l[k]? = some x) (hx' : l[k']? = some x') : x.2 < x'.1 := by
  obtain ⟨h1, e1⟩ := List.getElem?_eq_some_iff.1 hx
  obtain ⟨h2, e2⟩ := List.getElem?_eq_some_iff.1 hx'
  have := List.pairwise_iff_getElem.1 h.apart k k' h1 h2 hk
  rwa [e1, e2] at this
theorem Wf.append {a b : List (Int × Int)} (ha : Wf a) (hb : Wf b) (h : ∀ x ∈ a, ∀ y ∈ b, x.2 < y.1) : Wf (a ++ b) :=
  ⟨fun x hx => (List.mem_append.1 hx).elim (ha.each x) (hb.each x), List.pairwise_append.2 ⟨ha.apart, hb.apart, h⟩⟩
theorem Wf.one {a b : Int} (h0 : 0 ≤ a) (h : a < b) (h1 : b ≤ 16384) : Wf [(a, b)] := ⟨by simp; omega, List.pairwise_singleton _ _⟩
theorem Wf.take {l : List (Int × Int)} (h : Wf l) (k : Nat) : Wf (l.take k) := ⟨fun x hx => h.each x (List.mem_of_mem_take hx), h.apart.sublist (List.take_sublist _ _)⟩
theorem Wf.drop {l : List (Int × Int)} (h : Wf l) (k : Nat) : Wf (l.drop k) := ⟨fun x hx => h.each x (List.mem_of_mem_drop hx), h.apart.sublist (List.drop_sublist _ _)⟩
theorem mem_take_iff' {l : List (Int × Int)} {k : Nat} {x : Int × Int} : x ∈ l.take k ↔ ∃ i, i < k ∧ l[i]? = some x := by
  rw [List.mem_iff_getElem?]
  constructor
  · rintro ⟨i, hi⟩
    rw [List.getElem?_take] at hi
    split at hi
    · exact ⟨i, by assumption, hi⟩
    · cases hi
  · rintro ⟨i, hi, h⟩
    exact ⟨i, by rw [List.getElem?_take, if_pos hi]; exact h⟩
theorem mem_drop_iff' {l : List (Int × Int)} {k : Nat} {x : Int × Int} : x ∈ l.drop k ↔ ∃ i, k ≤ i ∧ l[i]? = some x := by
  rw [List.mem_iff_getElem?]
  constructor
  · rintro ⟨i, hi⟩
    rw [List.getElem?_drop] at hi
    exact ⟨k + i, by omega, hi⟩
  · rintro ⟨i, hi, h⟩
    exact ⟨i - k, by rw [List.getElem?_drop, show k + (i - k) = i by omega]; exact h⟩

/-- A well formed set's stretches end at most at 16384, and there are at most so many. -/
theorem total_bound : ∀ (l : List (Int × Int)) (lo : Int), lo ≤ 16384 → (∀ x ∈ l, lo ≤ x.1) → Wf l → 0 ≤ total l ∧ total l ≤ 16384 - lo ∧ (l.length : Int) ≤ total l := by
  intro l
  induction l with
  | nil => intro lo h _ _; simp [total]; omega
  | cons x l ih =>
    intro lo hlo hx hw
    have h1 := hw.each x (by simp)
    have hp := List.pairwise_cons.1 hw.apart
    have h2 := ih x.2 h1.2.2 (fun y hy => Int.le_of_lt (hp.1 y hy)) ⟨fun y hy => hw.each y (by simp [hy]), hp.2⟩
    have h3 := hx x (by simp)
    simp only [total, List.length_cons]
    omega
theorem Wf.total {l : List (Int × Int)} (h : Wf l) : 0 ≤ total l ∧ Ytjklcecakdmbaaa.total l ≤ 16384 ∧ (l.length : Int) ≤ Ytjklcecakdmbaaa.total l := by
  have := total_bound l 0 (by omega) (fun x hx => (h.each x hx).1) h
  omega
theorem Wf.len {l : List (Int × Int)} (h : Wf l) : l.length ≤ 16384 := by have := h.total; omega

/-! ## Where a search ends -/
def BRel (l : List (Int × Int)) (n : Int) (a b : Nat) : Prop := a ≤ b ∧ b ≤ l.length ∧ (∀ k x, k < a → l[k]? = some x → x.2 < n) ∧ (∀ k x, b ≤ k → l[k]? = some x → n ≤ x.2)
def Mono2 (l : List (Int × Int)) : Prop := ∀ (k k' : Nat) x x', k ≤ k' → l[k]? = some x → l[k']? = some x' → x.2 ≤ x'.2
theorem Wf.mono2 {l : List (Int × Int)} (h : Wf l) : Mono2 l := by
  intro k k' x x' hk hx hx'
  rcases Nat.eq_or_lt_of_le hk with rfl | hlt
  · rw [hx] at hx'; cases hx'; exact Int.le_refl _
  · have := h.lt hlt hx hx'
    have := h.at hx'
    omega
theorem brel_up {l : List (Int × Int)} {n : Int} {a b : Nat} {x y : Int} (hm : Mono2 l) (h : BRel l n a b) (hab : a < b) (hx : l[(a + b) / 2]? = some (x, y)) (hy : y < n) : BRel l n ((a + b) / 2 + 1) b := by
  refine ⟨by omega, h.2.1, ?_, h.2.2.2⟩
  intro k z hk hz
  have := hm k _ _ _ (by omega) hz hx
  simp at this
  omega
theorem brel_down {l : List (Int × Int)} {n : Int} {a b : Nat} {x y : Int} (hm : Mono2 l) (h : BRel l n a b) (hab : a < b) (hx : l[(a + b) / 2]? = some (x, y)) (hy : n ≤ y) : BRel l n a ((a + b) / 2) := by
  obtain ⟨h1, h2, h3, h4⟩ := h
  refine ⟨by omega, by omega, h3, ?_⟩
  intro k z hk hz
  have := hm _ k _ _ hk hx hz
  simp at this
  omega

/-- The first stretch that ends behind n decides. -/
theorem inS_at {l : List (Int × Int)} {n : Int} {i : Nat} (hw : Wf l) (h1 : ∀ k x, k < i → l[k]? = some x → x.2 ≤ n) (h2 : ∀ x, l[i]? = some x → n < x.2) : inS l n ↔ ∃ x, l[i]? = some x ∧ x.1 ≤ n := by
  constructor
  · rintro ⟨x, hx, ha, hb⟩
    obtain ⟨k, hk⟩ := List.mem_iff_getElem?.1 hx
    have hki : i ≤ k := by
      rcases Nat.lt_or_ge k i with h | h
      · have := h1 k x h hk; omega
      · exact h
    rcases Nat.eq_or_lt_of_le hki with rfl | hlt
    · exact ⟨x, hk, ha⟩
    · have hil : i < l.length := Nat.lt_trans hlt (List.getElem?_eq_some_iff.1 hk).1
      have hy : l[i]? = some l[i] := List.getElem?_eq_getElem hil
      have := hw.lt hlt hy hk
      have := h2 _ hy
      omega
  · rintro ⟨x, hx, h⟩
    exact ⟨x, List.mem_of_getElem? hx, h, h2 x hx⟩

/-! ## Add -/
/-- Behind some rounds: the stretch [a, b), the stretches from i up to t taken in, is [a', b'). -/
structure Taken (l : List (Int × Int)) (a b : Int) (i t : Nat) (a' b' : Int) : Prop where
  it : i ≤ t
  tl : t ≤ l.length
  lo : 0 ≤ a' ∧ a' ≤ a
  hi : b ≤ b' ∧ b' ≤ 16384
  low : ∀ k x, k < i → l[k]? = some x → x.2 < a'
  mem : ∀ n, (a' ≤ n ∧ n < b') ↔ ((a ≤ n ∧ n < b) ∨ ∃ k x, i ≤ k ∧ k < t ∧ l[k]? = some x ∧ x.1 ≤ n ∧ n < x.2)
theorem Taken.start {l : List (Int × Int)} {a b : Int} {i : Nat} (h : BRel l a i i) (h0 : 0 ≤ a) (h1 : b ≤ 16384) : Taken l a b i i a b :=
  ⟨Nat.le_refl _, h.2.1, ⟨h0, Int.le_refl _⟩, ⟨Int.le_refl _, h1⟩, h.2.2.1, fun n => ⟨fun h => .inl h, fun h => h.elim id (by rintro ⟨k, x, h1, h2, _⟩; omega)⟩⟩
theorem Taken.next {l : List (Int × Int)} {a b a' b' : Int} {i t : Nat} {x : Int × Int} (hw : Wf l) (hb : BRel l a i i) (h : Taken l a b i t a' b') (hx : l[t]? = some x) (hle : x.1 ≤ b') : Taken l a b i (t + 1) (min a' x.1) (max b' x.2) := by
  have hxx := hw.at hx
  have hax := hb.2.2.2 t x h.it hx
  have hlt : t < l.length := (List.getElem?_eq_some_iff.1 hx).1
  have h1 := h.lo
  have h2 := h.hi
  refine ⟨by have := h.it; omega, hlt, by omega, by omega, ?_, ?_⟩
  · intro k y hk hy
    have := h.low k y hk hy
    have := hw.lt (Nat.lt_of_lt_of_le hk h.it) hy hx
    omega
  · intro n
    have hm := h.mem n
    constructor
    · intro hn
      by_cases hin : a' ≤ n ∧ n < b'
      · rcases hm.1 hin with h | ⟨k, y, h1, h2, h3⟩
        · exact .inl h
        · exact .inr ⟨k, y, h1, by omega, h3⟩
      · exact .inr ⟨t, x, h.it, by omega, hx, by omega, by omega⟩
    · rintro (hn | ⟨k, y, hk1, hk2, hy, hn⟩)
      · have := hm.2 (.inl hn); omega
      · rcases Nat.eq_or_lt_of_le (Nat.le_of_lt_succ hk2) with rfl | hlt2
        · rw [hx] at hy; cases hy; omega
        · have := hm.2 (.inr ⟨k, y, hk1, hlt2, hy, hn⟩); omega
theorem Taken.wf {l : List (Int × Int)} {a b a' b' : Int} {i t : Nat} (hw : Wf l) (hab : a < b) (h : Taken l a b i t a' b') (hend : ∀ x, l[t]? = some x → b' < x.1) : Wf (l.take i ++ [(a', b')] ++ l.drop t) := by
  have h1 := h.lo
  have h2 := h.hi
  have hhi : ∀ y ∈ l.drop t, b' < y.1 := by
    intro y hy
    obtain ⟨k, hk, e⟩ := mem_drop_iff'.1 hy
    rcases Nat.eq_or_lt_of_le hk with rfl | hlt
    · exact hend y e
    · have hl : t < l.length := Nat.lt_trans hlt (List.getElem?_eq_some_iff.1 e).1
      have hx : l[t]? = some l[t] := List.getElem?_eq_getElem hl
      have := hend _ hx
      have := hw.lt hlt hx e
      have := hw.at hx
      omega
  refine ((hw.take i).append (Wf.one (by omega) (by omega) (by omega)) ?_).append (hw.drop t) ?_
  · intro x hx y hy
    obtain ⟨k, hk, e⟩ := mem_take_iff'.1 hx
    simp at hy; subst hy
    exact h.low k x hk e
  · intro x hx y hy
    have hy' := hhi y hy
    rcases List.mem_append.1 hx with hx | hx
    · obtain ⟨k, hk, e⟩ := mem_take_iff'.1 hx
      have := h.low k x hk e
      omega
    · simp at hx; subst hx
      exact hy'
theorem Taken.inS {l : List (Int × Int)} {a b a' b' : Int} {i t : Nat} (h : Taken l a b i t a' b') (n : Int) : inS (l.take i ++ [(a', b')] ++ l.drop t) n ↔ inS l n ∨ (a ≤ n ∧ n < b) := by
  rw [inS_append, inS_append]
  constructor
  · rintro ((⟨x, hx, hn⟩ | ⟨x, hx, hn⟩) | ⟨x, hx, hn⟩)
    · exact .inl ⟨x, List.mem_of_mem_take hx, hn⟩
    · simp at hx; subst hx
      rcases (h.mem n).1 hn with hn | ⟨k, y, _, _, hy, hn⟩
      · exact .inr hn
      · exact .inl ⟨y, List.mem_of_getElem? hy, hn⟩
    · exact .inl ⟨x, List.mem_of_mem_drop hx, hn⟩
  · rintro (⟨x, hx, hn⟩ | hn)
    · obtain ⟨k, hk⟩ := List.mem_iff_getElem?.1 hx
      by_cases h1 : k < i
      · exact .inl (.inl ⟨x, mem_take_iff'.2 ⟨k, h1, hk⟩, hn⟩)
      · by_cases h2 : k < t
        · exact .inl (.inr ⟨(a', b'), by simp, (h.mem n).2 (.inr ⟨k, x, by omega, h2, hk, hn⟩)⟩)
        · exact .inr ⟨x, mem_drop_iff'.2 ⟨k, by omega, hk⟩, hn⟩
    · exact .inl (.inr ⟨(a', b'), by simp, (h.mem n).2 (.inl hn)⟩)

/-! ## Cut -/
/-- What is left of the stretches from i up to t without [a, b). -/
structure Left (l : List (Int × Int)) (a b : Int) (i t : Nat) (left : List (Int × Int)) : Prop where
  it : i ≤ t
  tl : t ≤ l.length
  len : left.length ≤ 2 * (t - i)
  wf : Wf left
  low : ∀ x ∈ left, ∀ k y, k < i → l[k]? = some y → y.2 < x.1
  high : ∀ x ∈ left, ∀ k y, t ≤ k → l[k]? = some y → x.2 < y.1
  starts : ∀ k y, i ≤ k → k < t → l[k]? = some y → y.1 < b
  mem : ∀ n, inS left n ↔ (¬ (a ≤ n ∧ n < b) ∧ ∃ k x, i ≤ k ∧ k < t ∧ l[k]? = some x ∧ x.1 ≤ n ∧ n < x.2)
def pieces (x : Int × Int) (a b : Int) : List (Int × Int) := (if x.1 < min x.2 a then [(x.1, min x.2 a)] else []) ++ (if max x.1 b < x.2 then [(max x.1 b, x.2)] else [])
theorem Left.start {l : List (Int × Int)} {a b : Int} {i : Nat} (hi : i ≤ l.length) : Left l a b i i [] :=
  ⟨Nat.le_refl _, hi, by simp, Wf.nil, by simp, by simp, by intros; omega, fun n => ⟨fun h => (inS_nil n h).elim, by rintro ⟨_, k, x, h1, h2, _⟩; omega⟩⟩
theorem pieces_mem (x : Int × Int) (a b n : Int) (hab : a < b) : inS (pieces x a b) n ↔ ¬ (a ≤ n ∧ n < b) ∧ x.1 ≤ n ∧ n < x.2 := by
  obtain ⟨M, hM⟩ : ∃ M, M = max x.1 b := ⟨_, rfl⟩
  obtain ⟨m, hm⟩ : ∃ m, m = min x.2 a := ⟨_, rfl⟩
  unfold pieces
  rw [← hM, ← hm]
  have h1 : (x.1 ≤ M ∧ b ≤ M) ∧ (M = x.1 ∨ M = b) := by omega
  have h2 : (m ≤ x.2 ∧ m ≤ a) ∧ (m = x.2 ∨ m = a) := by omega
  clear hM hm
  rw [inS_append]
  obtain ⟨⟨h3, h4⟩, h5⟩ := h1
  obtain ⟨⟨h6, h7⟩, h8⟩ := h2
  split <;> split <;> simp only [inS_cons, inS_nil, or_false, false_or, false_iff, not_and] <;> rcases h5 with h5 | h5 <;> rcases h8 with h8 | h8 <;> subst h5 <;> subst h8 <;> omega
theorem pieces_wf {x : Int × Int} {a b : Int} (hab : a < b) (hx : 0 ≤ x.1 ∧ x.1 < x.2 ∧ x.2 ≤ 16384) : Wf (pieces x a b) := by
  unfold pieces
  have h1 : Wf (if x.1 < min x.2 a then [(x.1, min x.2 a)] else []) := by
    split
    · exact Wf.one (by omega) (by omega) (by omega)
    · exact Wf.nil
  have h2 : Wf (if max x.1 b < x.2 then [(max x.1 b, x.2)] else []) := by
    split
    · exact Wf.one (by omega) (by omega) (by omega)
    · exact Wf.nil
  refine h1.append h2 ?_
  intro y hy z hz
  split at hy
  · split at hz
    · simp at hy hz; subst hy; subst hz; simp; omega
    · cases hz
  · cases hy
theorem pieces_in {x y : Int × Int} {a b : Int} (h : y ∈ pieces x a b) : x.1 ≤ y.1 ∧ y.2 ≤ x.2 := by
  unfold pieces at h
  rcases List.mem_append.1 h with h | h
  · split at h
    · simp at h; subst h; simp; omega
    · cases h
  · split at h
    · simp at h; subst h; simp; omega
    · cases h
theorem Left.next {l left : List (Int × Int)} {a b : Int} {i t : Nat} {x : Int × Int} (hw : Wf l) (hab : a < b) (h : Left l a b i t left) (hx : l[t]? = some x) (hle : x.1 < b) : Left l a b i (t + 1) (left ++ pieces x a b) := by
  have hxx := hw.at hx
  have hlt : t < l.length := (List.getElem?_eq_some_iff.1 hx).1
  refine ⟨by have := h.it; omega, hlt, ?_, ?_, ?_, ?_, ?_, ?_⟩
  · have := h.len
    have := h.it
    have : (pieces x a b).length ≤ 2 := by unfold pieces; split <;> split <;> simp
    rw [List.length_append]; omega
  · refine h.wf.append (pieces_wf hab hxx) ?_
    intro y hy z hz
    have := h.high y hy t x (Nat.le_refl _) hx
    have := pieces_in hz
    omega
  · intro y hy k z hk hz
    rcases List.mem_append.1 hy with hy | hy
    · exact h.low y hy k z hk hz
    · have := pieces_in hy
      have := hw.lt (Nat.lt_of_lt_of_le hk h.it) hz hx
      omega
  · intro y hy k z hk hz
    rcases List.mem_append.1 hy with hy | hy
    · exact h.high y hy k z (by omega) hz
    · have := pieces_in hy
      have := hw.lt (show t < k by omega) hx hz
      omega
  · intro k y hk1 hk2 hy
    rcases Nat.eq_or_lt_of_le (Nat.le_of_lt_succ hk2) with rfl | hlt2
    · rw [hx] at hy; cases hy; exact hle
    · exact h.starts k y hk1 hlt2 hy
  · intro n
    rw [inS_append, h.mem n, pieces_mem x a b n hab]
    constructor
    · rintro (⟨h1, k, y, hk1, hk2, hk3⟩ | ⟨h1, h2⟩)
      · exact ⟨h1, k, y, hk1, by omega, hk3⟩
      · exact ⟨h1, t, x, h.it, by omega, hx, h2⟩
    · rintro ⟨h1, k, y, hk1, hk2, hy, h2⟩
      rcases Nat.eq_or_lt_of_le (Nat.le_of_lt_succ hk2) with rfl | hlt2
      · rw [hx] at hy; cases hy; exact .inr ⟨h1, h2⟩
      · exact .inl ⟨h1, k, y, hk1, hlt2, hy, h2⟩
theorem Left.wfAll {l left : List (Int × Int)} {a b : Int} {i t : Nat} (hw : Wf l) (h : Left l a b i t left) : Wf (l.take i ++ left ++ l.drop t) := by
  refine ((hw.take i).append h.wf ?_).append (hw.drop t) ?_
  · intro x hx y hy
    obtain ⟨k, hk, e⟩ := mem_take_iff'.1 hx
    exact h.low y hy k x hk e
  · intro x hx y hy
    obtain ⟨k', hk', e'⟩ := mem_drop_iff'.1 hy
    rcases List.mem_append.1 hx with hx | hx
    · obtain ⟨k, hk, e⟩ := mem_take_iff'.1 hx
      exact hw.lt (by have := h.it; omega) e e'
    · exact h.high x hx k' y hk' e'
theorem Left.inS {l left : List (Int × Int)} {a b : Int} {i t : Nat} (hw : Wf l) (hb : BRel l a i i) (h : Left l a b i t left) (hend : ∀ x, l[t]? = some x → b ≤ x.1) (n : Int) : inS (l.take i ++ left ++ l.drop t) n ↔ inS l n ∧ ¬ (a ≤ n ∧ n < b) := by
  rw [inS_append, inS_append, h.mem n]
  constructor
  · rintro ((⟨x, hx, hn⟩ | ⟨h1, k, x, _, _, hx, hn⟩) | ⟨x, hx, hn⟩)
    · obtain ⟨k, hk, e⟩ := mem_take_iff'.1 hx
      have := hb.2.2.1 k x hk e
      exact ⟨⟨x, List.mem_of_mem_take hx, hn⟩, by omega⟩
    · exact ⟨⟨x, List.mem_of_getElem? hx, hn⟩, h1⟩
    · obtain ⟨k, hk, e⟩ := mem_drop_iff'.1 hx
      have hbx : b ≤ x.1 := by
        rcases Nat.eq_or_lt_of_le hk with rfl | hlt
        · exact hend x e
        · have hl : t < l.length := Nat.lt_trans hlt (List.getElem?_eq_some_iff.1 e).1
          have hx' : l[t]? = some l[t] := List.getElem?_eq_getElem hl
          have := hend _ hx'
          have := hw.lt hlt hx' e
          have := hw.at hx'
          omega
      exact ⟨⟨x, List.mem_of_mem_drop hx, hn⟩, by omega⟩
  · rintro ⟨⟨x, hx, hn⟩, hno⟩
    obtain ⟨k, hk⟩ := List.mem_iff_getElem?.1 hx
    by_cases h1 : k < i
    · exact .inl (.inl ⟨x, mem_take_iff'.2 ⟨k, h1, hk⟩, hn⟩)
    · by_cases h2 : k < t
      · exact .inl (.inr ⟨hno, k, x, by omega, h2, hk, hn⟩)
      · exact .inr ⟨x, mem_drop_iff'.2 ⟨k, by omega, hk⟩, hn⟩

/-- A set is told by its numbers. -/
theorem Wf.ext : ∀ {l l' : List (Int × Int)}, Wf l → Wf l' → (∀ n, Ytjklcecakdmbaaa.inS l n ↔ Ytjklcecakdmbaaa.inS l' n) → l = l' := by
  intro l
  induction l with
  | nil =>
    intro l' _ h' h
    cases l' with
    | nil => rfl
    | cons y r =>
      have hy := h'.each y (by simp)
      exact absurd ((h y.1).2 ⟨y, by simp, by omega, by omega⟩) (inS_nil _)
  | cons x l ih =>
    intro l' hl hl' h
    have hx := hl.each x (by simp)
    have hp := List.pairwise_cons.1 hl.apart
    cases l' with
    | nil => exact absurd ((h x.1).1 ⟨x, by simp, by omega, by omega⟩) (inS_nil _)
    | cons y r =>
      have hy := hl'.each y (by simp)
      have hp' := List.pairwise_cons.1 hl'.apart
      -- the least numbers are the same
      have e1 : x.1 = y.1 := by
        obtain ⟨z, hz, h1, h2⟩ := (h x.1).1 ⟨x, by simp, by omega, by omega⟩
        obtain ⟨u, hu, h3, h4⟩ := (h y.1).2 ⟨y, by simp, by omega, by omega⟩
        have hzy : y.1 ≤ z.1 := by
          rcases List.mem_cons.1 hz with rfl | hz
          · omega
          · have := hp'.1 z hz; omega
        have hux : x.1 ≤ u.1 := by
          rcases List.mem_cons.1 hu with rfl | hu
          · omega
          · have := hp.1 u hu; omega
        omega
      have e2 : x.2 = y.2 := by
        rcases Int.lt_trichotomy x.2 y.2 with hlt | heq | hgt
        · exfalso
          obtain ⟨z, hz, h1, h2⟩ := (h x.2).2 ⟨y, by simp, by omega, by omega⟩
          rcases List.mem_cons.1 hz with rfl | hz
          · omega
          · have := hp.1 z hz; omega
        · exact heq
        · exfalso
          obtain ⟨z, hz, h1, h2⟩ := (h y.2).1 ⟨x, by simp, by omega, by omega⟩
          rcases List.mem_cons.1 hz with rfl | hz
          · omega
          · have := hp'.1 z hz; omega
      have exy : x = y := Prod.ext e1 e2
      subst exy
      congr 1
      refine ih ⟨fun z hz => hl.each z (by simp [hz]), hp.2⟩ ⟨fun z hz => hl'.each z (by simp [hz]), hp'.2⟩ fun n => ?_
      have hn := h n
      rw [inS_cons, inS_cons] at hn
      by_cases hin : x.1 ≤ n ∧ n < x.2
      · constructor
        · rintro ⟨z, hz, h1, h2⟩; have := hp.1 z hz; omega
        · rintro ⟨z, hz, h1, h2⟩; have := hp'.1 z hz; omega
      · constructor
        · intro hh; exact (hn.1 (.inr hh)).resolve_left hin
        · intro hh; exact (hn.2 (.inr hh)).resolve_left hin
end Go.Proofs.Ytjklcecakdmbaaa
