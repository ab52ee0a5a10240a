/-
  The law BuildPlays, plain: what a build's state and the reference's tell alike.
-/
import Derived.Test.YtjklcecakdmbaaaP3
import Derived.Test.YtjklcecakdmbaaaP4
namespace Go.Proofs.Ytjklcecakdmbaaa
open Go.RowKit

/-- The bytes that came, of both. -/
structure Tie (s : BS) (F : Nat → Int) : Prop where
  len : s.T.length = s.S
  byte : ∀ x ∈ s.T, 0 ≤ x ∧ x ≤ 255
  zero : ∀ x, x < s.S → ¬ inS s.l (x / s.B : Nat) → s.T.getD x 0 = 0
  eq : ∀ x, x < s.S → F x = if hasB s.l (x / s.B : Nat) then s.T.getD x 0 else -1

theorem tget {l : List Int} (h : ∀ x ∈ l, 0 ≤ x ∧ x ≤ 255) (x : Nat) : 0 ≤ l.getD x 0 ∧ l.getD x 0 ≤ 255 := by
  rw [List.getD_eq_getElem?_getD]
  cases e : l[x]? with
  | none => simp
  | some v => simpa using h v (List.mem_of_getElem? e)
theorem Tie.init (S B L : Nat) : Tie (BS.init S B L) (fun _ => -1) := by
  refine ⟨by simp [BS.init], ?_, ?_, ?_⟩
  · intro x hx
    have hx : x ∈ List.replicate S (0 : Int) := hx
    rw [List.mem_replicate] at hx; omega
  · intro x hx _
    show (List.replicate S (0 : Int)).getD x 0 = 0
    rw [List.getD_eq_getElem?_getD, List.getElem?_replicate]
    split <;> rfl
  · intro x hx
    show -1 = if hasB [] _ then _ else _
    rw [hasB_false (inS_nil _)]; rfl
theorem Tie.neg {s : BS} {F : Nat → Int} (h : Tie s F) {x : Nat} (hx : x < s.S) : F x < 0 ↔ ¬ inS s.l (x / s.B : Nat) := by
  rw [h.eq x hx]
  by_cases hh : inS s.l (x / s.B : Nat)
  · rw [if_pos ((hasB_iff _ _).2 hh)]
    have := (tget h.byte x).1
    simp only [hh, not_true, iff_false]
    omega
  · rw [hasB_false hh]
    simp only [Bool.false_eq_true, if_false]
    exact ⟨fun _ => hh, fun _ => by decide⟩
theorem Tie.max {s : BS} {F : Nat → Int} (h : Tie s F) {x : Nat} (hx : x < s.S) : s.T.getD x 0 = max (F x) 0 := by
  rw [h.eq x hx]
  by_cases hh : inS s.l (x / s.B : Nat)
  · rw [if_pos ((hasB_iff _ _).2 hh)]
    have := (tget h.byte x).1
    omega
  · rw [hasB_false hh, h.zero x hx hh]
    rfl
theorem Tie.has {s : BS} {F : Nat → Int} (h : Tie s F) (hS : s.S ≤ 400) (hB : 1 ≤ s.B) {b : Nat} (hb : b < nblk s.S s.B) : hasB s.l b = decide (0 ≤ F (b * s.B)) := by
  have h1 := h.neg (from_lt hS hB hb).1
  rw [Nat.mul_div_cancel _ (by omega)] at h1
  by_cases hh : inS s.l b
  · rw [(hasB_iff _ _).2 hh]
    have : ¬ F (b * s.B) < 0 := fun e => h1.1 e hh
    simp; omega
  · rw [hasB_false hh]
    have := h1.2 hh
    simp; omega
/-- Both tell the same error. -/
theorem Tie.code {s : BS} {F : Nat → Int} (h : Tie s F) (hS : s.S ≤ 400) (hB : 1 ≤ s.B) (b : Int) (n : Nat) (t : Int) : putCode s b n t = refCode s.S s.B s.over F b n t := by
  unfold putCode refCode
  by_cases ho : s.over
  · rw [if_pos ho, if_pos ho]
  rw [if_neg ho, if_neg ho]
  by_cases h1 : ¬ (0 ≤ b ∧ b < (nblk s.S s.B : Nat)) ∨ ¬ (0 ≤ t ∧ t ≤ 1099511627776)
  · rw [if_pos h1, if_pos h1]
  rw [if_neg h1, if_neg h1]
  have h2 : b.toNat < nblk s.S s.B := by omega
  have e1 : s.to b.toNat = min ((b.toNat + 1) * s.B) s.S := rfl
  rw [e1]
  by_cases h3 : (n : Int) ≠ (min ((b.toNat + 1) * s.B) s.S - b.toNat * s.B : Nat)
  · rw [if_pos h3, if_pos h3]
  rw [if_neg h3, if_neg h3]
  have h4 := h.has hS hB h2
  rw [show ((b.toNat : Nat) : Int) = b by omega] at h4
  rw [h4]
  by_cases h5 : 0 ≤ F (b.toNat * s.B)
  · rw [if_pos h5]; simp [h5]
  · rw [if_neg h5]; simp [h5]
theorem div_in {B b x : Nat} (hB : 1 ≤ B) : x / B = b ↔ b * B ≤ x ∧ x < b * B + B := by
  rw [Nat.div_eq_iff (by omega)]
  omega
/-- A block that is taken. -/
theorem Tie.put {s : BS} {F : Nat → Int} (h : Tie s F) (hS : s.S ≤ 400) (hB : 1 ≤ s.B) {b : Nat} (hb : b < nblk s.S s.B) {tb : List Int} {t : Int} {l' : List (Int × Int)} (htb : tb.length = min (b * s.B + s.B) s.S - b * s.B) (ht8 : ∀ x ∈ tb, 0 ≤ x ∧ x ≤ 255) (hin : ∀ n, inS l' n ↔ inS s.l n ∨ n = b) :
    Tie (s.put b tb t l') (newF s.S s.B b tb F) := by
  have hbS := (from_lt hS hB hb).1
  have hto : s.to b = min (b * s.B + s.B) s.S := by unfold BS.to; rw [Nat.add_mul, Nat.one_mul]
  have hT : (s.put b tb t l').T = s.T.take (b * s.B) ++ tb ++ s.T.drop (s.to b) := rfl
  have hget : ∀ x, x < s.S → (s.T.take (b * s.B) ++ tb ++ s.T.drop (s.to b)).getD x 0 = if b * s.B ≤ x ∧ x < min (b * s.B + s.B) s.S then tb.getD (x - b * s.B) 0 else s.T.getD x 0 := by
    intro x hx
    have hl1 : (s.T.take (b * s.B)).length = b * s.B := by rw [List.length_take, h.len]; omega
    rw [List.getD_eq_getElem?_getD]
    by_cases h1 : x < b * s.B
    · rw [if_neg (by omega), List.append_assoc, List.getElem?_append_left (by omega), List.getElem?_take_of_lt h1, List.getD_eq_getElem?_getD]
    · by_cases h2 : x < min (b * s.B + s.B) s.S
      · rw [if_pos ⟨by omega, h2⟩, List.getElem?_append_left (by rw [List.length_append, hl1]; omega), List.getElem?_append_right (by omega), hl1, List.getD_eq_getElem?_getD]
      · rw [if_neg (by omega), List.getElem?_append_right (by rw [List.length_append, hl1]; omega), List.getElem?_drop, List.length_append, hl1, htb, hto, List.getD_eq_getElem?_getD]
        congr 2
        omega
  refine ⟨?_, ?_, ?_, ?_⟩
  · rw [hT]
    show _ = s.S
    simp only [List.length_append, List.length_take, List.length_drop, h.len, htb, hto]
    omega
  · intro x hx
    rw [hT] at hx
    rcases List.mem_append.1 hx with hx | hx
    · rcases List.mem_append.1 hx with hx | hx
      · exact h.byte x (List.mem_of_mem_take hx)
      · exact ht8 x hx
    · exact h.byte x (List.mem_of_mem_drop hx)
  · intro x hx hn
    have hx : x < s.S := hx
    have hn : ¬ inS l' (x / s.B : Nat) := hn
    rw [hin] at hn
    have hne : x / s.B ≠ b := fun e => hn (.inr (by rw [e]))
    have hb2 : ¬ (b * s.B ≤ x ∧ x < b * s.B + s.B) := fun e => hne ((div_in hB).2 e)
    rw [hT, hget x hx, if_neg (by omega)]
    exact h.zero x hx (fun e => hn (.inl e))
  · intro x hx
    have hx : x < s.S := hx
    rw [hT, hget x hx]
    show newF s.S s.B b tb F x = if hasB l' (x / s.B : Nat) then _ else -1
    unfold newF
    by_cases h1 : b * s.B ≤ x ∧ x < min (b * s.B + s.B) s.S
    · rw [if_pos h1, if_pos h1]
      have : x / s.B = b := (div_in hB).2 ⟨h1.1, by omega⟩
      rw [if_pos ((hasB_iff _ _).2 ((hin _).2 (.inr (by rw [this]))))]
    · rw [if_neg h1, if_neg h1, h.eq x hx]
      have hne : x / s.B ≠ b := fun e => h1 (by have := (div_in hB).1 e; omega)
      have : inS l' (x / s.B : Nat) ↔ inS s.l (x / s.B : Nat) := by
        rw [hin]
        constructor
        · rintro (h | h)
          · exact h
          · exact absurd (by exact_mod_cast h) hne
        · exact .inl
      by_cases hh : inS s.l (x / s.B : Nat)
      · rw [(hasB_iff _ _).2 hh, (hasB_iff _ _).2 (this.2 hh)]
      · rw [hasB_false hh, hasB_false (fun e => hh (this.1 e))]

theorem Tie.over {s : BS} {F : Nat → Int} (h : Tie s F) (ov : Bool) : Tie { s with over := ov } F := ⟨h.len, h.byte, h.zero, h.eq⟩

/-! ## What is lacking, as stretches of bytes -/
theorem span_bd {s : BS} {k : Int} {m : List (Int × Int)} (h : IsMiss s k m) {x : Int × Int} (hx : x ∈ m) : 0 ≤ x.1 ∧ x.1 < x.2 ∧ x.2 ≤ (nblk s.S s.B : Nat) := by
  obtain ⟨j, hj⟩ := List.getElem?_of_mem hx
  obtain ⟨a, c, h1, h2, h3, h4⟩ := h.at hj
  omega
theorem mem_mul {B x b : Int} (hB : 1 ≤ B) : x / B < b ↔ x < b * B := Int.ediv_lt_iff_lt_mul (by omega)
theorem mem_mul2 {B x b : Int} (hB : 1 ≤ B) : b ≤ x / B ↔ b * B ≤ x := Int.le_ediv_iff_mul_le (by omega)
theorem span_mem {s : BS} {m : List (Int × Int)} (hB : 1 ≤ s.B) (n : Int) : inS (m.map (spanOf s)) n ↔ n < s.S ∧ inS m (n / s.B) := by
  constructor
  · rintro ⟨y, hy, h1, h2⟩
    obtain ⟨x, hx, rfl⟩ := List.mem_map.1 hy
    unfold spanOf at h1 h2
    simp only at h1 h2
    exact ⟨by omega, x, hx, (mem_mul2 (by omega)).2 h1, (mem_mul (by omega)).2 (by omega)⟩
  · rintro ⟨h0, x, hx, h1, h2⟩
    refine ⟨_, List.mem_map.2 ⟨x, hx, rfl⟩, ?_, ?_⟩
    · exact (mem_mul2 (by omega)).1 h1
    · have := (mem_mul (by omega)).1 h2
      show n < min (x.2 * s.B) s.S
      omega
theorem span_wf {s : BS} {k : Int} {m : List (Int × Int)} (h : IsMiss s k m) (hS : s.S ≤ 400) (hB : 1 ≤ s.B) : Wf (m.map (spanOf s)) := by
  have hlt : ∀ b : Int, 0 ≤ b → b < (nblk s.S s.B : Nat) → b * s.B < s.S := fun b h0 h1 => by
    obtain ⟨b, rfl⟩ : ∃ b' : Nat, b = b' := ⟨b.toNat, by omega⟩
    have := (from_lt hS hB (b := b) (by omega)).1
    rw [← Int.natCast_mul]; omega
  have hstep : ∀ b c : Int, b < c → b * s.B < c * s.B := fun b c hbc => Int.mul_lt_mul_of_pos_right hbc (by omega)
  refine ⟨fun y hy => ?_, ?_⟩
  · obtain ⟨x, hx, rfl⟩ := List.mem_map.1 hy
    obtain ⟨h1, h2, h3⟩ := span_bd h hx
    have := hlt x.1 h1 (by omega)
    have := hstep _ _ h2
    have h5 : 0 ≤ x.1 * s.B := Int.mul_nonneg h1 (by omega)
    unfold spanOf
    simp only
    omega
  · rw [List.pairwise_map]
    refine List.Pairwise.imp_of_mem ?_ h.wf.apart
    intro a c ha hc hac
    obtain ⟨h1, h2, h3⟩ := span_bd h hc
    have := hlt c.1 h1 (by omega)
    have := hstep _ _ hac
    unfold spanOf
    simp only
    omega
theorem Tie.lack {s : BS} {F : Nat → Int} (h : Tie s F) (hS : s.S ≤ 400) (hB : 1 ≤ s.B) {k : Int} {m l : List (Int × Int)} (hm : IsMiss s k m) (hl : WantTo l (lackP s.B s.L F k) s.S) : m.map (spanOf s) = l := by
  refine Wf.ext (span_wf hm hS hB) hl.wf fun n => ?_
  rw [span_mem hB, hl.mem, hm.mem]
  unfold missP lackP
  constructor
  · rintro ⟨h1, h2, h3, h4, h5⟩
    have hn0 : 0 ≤ n := by
      have := (mem_mul2 (B := s.B) (x := n) (b := 0) (by omega)).1 h2
      omega
    obtain ⟨n, rfl⟩ : ∃ n' : Nat, n = n' := ⟨n.toNat, by omega⟩
    rw [← Int.natCast_ediv, Int.toNat_natCast] at h4
    rw [← Int.natCast_ediv] at h5
    exact ⟨⟨by omega, (h.neg (by omega)).2 (by rw [Int.toNat_natCast]; exact h5), by rw [Int.toNat_natCast]; exact h4⟩, h1⟩
  · rintro ⟨⟨h1, h2, h3⟩, h4⟩
    obtain ⟨n, rfl⟩ : ∃ n' : Nat, n = n' := ⟨n.toNat, by omega⟩
    rw [Int.toNat_natCast] at h2 h3
    rw [← Int.natCast_ediv, Int.toNat_natCast]
    have h5 : n / s.B < nblk s.S s.B := (nblk_lt_iff hB).2 (Nat.lt_of_le_of_lt (Nat.div_mul_le_self _ _) (by omega))
    exact ⟨h4, Int.natCast_nonneg _, Int.ofNat_lt.2 h5, h3, (h.neg (by omega)).1 h2⟩
theorem layer_le (b L : Nat) (hL : 1 ≤ L) (hL8 : L ≤ 8) : layerN b L ≤ L := by
  unfold layerN
  rcases Nat.eq_zero_or_pos (b % 2 ^ (L - 1)) with h | h
  · rw [h]; exact Nat.le_trans (by decide : Lib.bitLen 0 ≤ 0) (Nat.zero_le _)
  · refine Nat.le_trans (Lib.bitLen_le _ (L - 1) ?_ ?_) (by omega)
    all_goals first | exact Nat.mod_lt _ (Nat.two_pow_pos _) | omega
/-- How many of the first bytes came. -/
def PrefIs (S : Nat) (F : Nat → Int) (i p : Nat) : Prop := (p = S ∧ ∀ y, y < i → 0 ≤ F y) ∨ (p < i ∧ F p < 0 ∧ ∀ y, y < p → 0 ≤ F y)
def prefOf (s : BS) : List (Int × Int) → Int
  | [] => s.S
  | x :: _ => (spanOf s x).1
theorem Tie.pref {s : BS} {F : Nat → Int} (h : Tie s F) (hS : s.S ≤ 400) (hB : 1 ≤ s.B) (hL : 1 ≤ s.L) (hL8 : s.L ≤ 8) {m : List (Int × Int)} (hm : IsMiss s s.L m) {p : Nat} (hp : PrefIs s.S F s.S p) :
    prefOf s m = (p : Int) := by
  have hw := span_wf hm hS hB
  have hin : ∀ x : Nat, x < s.S → (inS (m.map (spanOf s)) x ↔ F x < 0) := fun x hx => by
    rw [span_mem hB, hm.mem, h.neg hx, ← Int.natCast_ediv]
    unfold missP
    rw [Int.toNat_natCast]
    have h5 : x / s.B < nblk s.S s.B := (nblk_lt_iff hB).2 (Nat.lt_of_le_of_lt (Nat.div_mul_le_self _ _) (by omega))
    have h6 := layer_le (x / s.B) s.L hL hL8
    constructor
    · rintro ⟨_, _, _, _, e⟩; exact e
    · intro e; exact ⟨Int.ofNat_lt.2 hx, Int.natCast_nonneg _, Int.ofNat_lt.2 h5, Int.ofNat_le.2 h6, e⟩
  cases m with
  | nil =>
    rcases hp with ⟨rfl, _⟩ | ⟨h1, h2, _⟩
    · rfl
    · exact absurd ((hin p h1).2 h2) (inS_nil _)
  | cons x r =>
    have hx := hw.each (spanOf s x) (by simp)
    have hx2 := span_bd hm (x := x) (by simp)
    have hle : (spanOf s x).2 ≤ s.S := by unfold spanOf; simp only; omega
    obtain ⟨a, ha⟩ : ∃ a : Nat, (spanOf s x).1 = a := ⟨(spanOf s x).1.toNat, by omega⟩
    show (spanOf s x).1 = (p : Int)
    have haS : a < s.S := by omega
    have haF : F a < 0 := (hin a haS).1 ⟨_, List.mem_map.2 ⟨x, by simp, rfl⟩, by omega, by omega⟩
    have hlow : ∀ y : Nat, y < a → 0 ≤ F y := fun y hy => by
      rcases Int.lt_or_le (F y) 0 with e | e
      · obtain ⟨z, hz, h1, h2⟩ := (hin y (by omega)).2 e
        rw [List.map_cons] at hz
        rcases List.mem_cons.1 hz with rfl | hz
        · omega
        · have h9 := hw.apart
          rw [List.map_cons] at h9
          have := (List.pairwise_cons.1 h9).1 z hz
          omega
      · exact e
    rcases hp with ⟨rfl, h1⟩ | ⟨h1, h2, h3⟩
    · have := h1 a haS; omega
    · rcases Nat.lt_trichotomy a p with e | e | e
      · have := h3 a e; omega
      · omega
      · have := hlow p e; omega
end Go.Proofs.Ytjklcecakdmbaaa
