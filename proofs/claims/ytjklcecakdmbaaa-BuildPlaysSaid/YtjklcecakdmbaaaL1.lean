/-
  The law BuildLog: what was given out; the count of bytes.
-/
import Derived.Test.YtjklcecakdmbaaaM1
namespace Go.Proofs.Ytjklcecakdmbaaa
open Go.RowKit

/-- What a build's log says of its set. -/
structure Inv (s : BS) : Prop where
  mem : ∀ n, inS s.l n ↔ ∃ g ∈ s.G, g.1 = n
  form : ∀ g ∈ s.G, ∃ b' : Nat, g.1 = b' ∧ g.2.1 = (b' * s.B : Nat) ∧ g.2.2.1 = (s.to b' : Nat) ∧ b' < nblk s.S s.B
  nodup : s.G.Pairwise fun a b => a.1 ≠ b.1
theorem Inv.init (S B L : Nat) : Inv (BS.init S B L) := ⟨fun n => ⟨fun h => absurd h (inS_nil n), fun ⟨_, h, _⟩ => (by cases h)⟩, fun _ h => (by cases h), List.Pairwise.nil⟩
theorem Inv.put {s : BS} {b' : Nat} {tb : List Int} {t : Int} {n : Nat} {l' : List (Int × Int)} (h : Inv s) (hc : putCode s b' n t = 0) (hin : ∀ n, inS l' n ↔ inS s.l n ∨ n = b') : Inv (s.put b' tb t l') := by
  have hc2 : hasB s.l b' = false ∧ b' < nblk s.S s.B := by
    unfold putCode at hc
    split at hc
    · cases hc
    split at hc
    · cases hc
    split at hc
    · cases hc
    split at hc
    · cases hc
    rename_i h1 h2 h3 h4
    exact ⟨by simpa using h4, by omega⟩
  have hnot : ∀ g ∈ s.G, g.1 ≠ (b' : Int) := fun g hg e => by
    have := (hasB_iff s.l b').2 ((h.mem b').2 ⟨g, hg, e⟩)
    rw [hc2.1] at this
    cases this
  refine ⟨fun n => ?_, fun g hg => ?_, ?_⟩
  · show inS l' n ↔ ∃ g ∈ s.G ++ [((b' : Int), ((b' * s.B : Nat) : Int), ((s.to b' : Nat) : Int), t)], g.1 = n
    rw [hin n, h.mem n]
    constructor
    · rintro (⟨g, hg, e⟩ | rfl)
      · exact ⟨g, by simp [hg], e⟩
      · exact ⟨_, List.mem_append.2 (.inr (List.mem_singleton.2 rfl)), rfl⟩
    · rintro ⟨g, hg, e⟩
      rcases List.mem_append.1 hg with hg | hg
      · exact .inl ⟨g, hg, e⟩
      · obtain rfl := List.mem_singleton.1 hg
        exact .inr e.symm
  · rcases List.mem_append.1 hg with hg | hg
    · exact h.form g hg
    · obtain rfl := List.mem_singleton.1 hg
      exact ⟨b', rfl, rfl, rfl, hc2.2⟩
  · refine List.pairwise_append.2 ⟨h.nodup, List.pairwise_singleton .., fun x hx y hy => ?_⟩
    obtain rfl := List.mem_singleton.1 hy
    exact hnot x hx
def covers (g : Int × Int × Int × Int) (x : Nat) : Prop := g.2.1 ≤ x ∧ (x : Int) < g.2.2.1
theorem Inv.block {s : BS} (h : Inv s) (hB : 1 ≤ s.B) {g : Int × Int × Int × Int} (hg : g ∈ s.G) {x : Nat} (hx : covers g x) : g.1 = ((x / s.B : Nat) : Int) := by
  obtain ⟨b', h1, h2, h3, _⟩ := h.form g hg
  unfold covers at hx
  rw [h2, h3] at hx
  unfold BS.to at hx
  rw [h1]
  have h4 : b' * s.B ≤ x := by omega
  have h5 : x < (b' + 1) * s.B := by omega
  have h6 : b' = x / s.B := ((Nat.div_eq_iff (by omega)).2 ⟨by omega, by rw [Nat.add_mul] at h5; omega⟩).symm
  rw [← h6]
theorem Inv.apart {s : BS} (h : Inv s) (hB : 1 ≤ s.B) {i j : Nat} {g g' : Int × Int × Int × Int} (hi : s.G[i]? = some g) (hj : s.G[j]? = some g') (hij : j < i) {x : Nat} (hx : covers g x) : ¬ covers g' x := by
  intro hx'
  have e1 := h.block hB (List.mem_of_getElem? hi) hx
  have e2 := h.block hB (List.mem_of_getElem? hj) hx'
  obtain ⟨hi1, hi2⟩ := List.getElem?_eq_some_iff.1 hi
  obtain ⟨hj1, hj2⟩ := List.getElem?_eq_some_iff.1 hj
  have := List.pairwise_iff_getElem.1 h.nodup j i hj1 hi1 hij
  rw [hi2, hj2, e1, e2] at this
  exact this rfl
/-- How often a byte was counted, of the log's first i. -/
noncomputable def cv (G : List (Int × Int × Int × Int)) (i x : Nat) : Int := by
  classical exact if ∃ j g, j < i ∧ G[j]? = some g ∧ covers g x then 1 else 0
theorem cv_zero (G : List (Int × Int × Int × Int)) (x : Nat) : cv G 0 x = 0 := by unfold cv; rw [if_neg (by rintro ⟨j, g, h, _⟩; omega)]
theorem cv_new {s : BS} (h : Inv s) (hB : 1 ≤ s.B) {i : Nat} {g : Int × Int × Int × Int} (hi : s.G[i]? = some g) {x : Nat} (hx : covers g x) : cv s.G i x = 0 ∧ cv s.G (i + 1) x = 1 := by
  unfold cv
  rw [if_neg (by rintro ⟨j, g', h1, h2, h3⟩; exact h.apart hB hi h2 h1 hx h3), if_pos ⟨i, g, by omega, hi, hx⟩]
  exact ⟨rfl, rfl⟩
theorem cv_old {G : List (Int × Int × Int × Int)} {i : Nat} {g : Int × Int × Int × Int} (hi : G[i]? = some g) {x : Nat} (hx : ¬ covers g x) : cv G (i + 1) x = cv G i x := by
  unfold cv
  have : (∃ j g, j < i + 1 ∧ G[j]? = some g ∧ covers g x) ↔ ∃ j g, j < i ∧ G[j]? = some g ∧ covers g x := by
    constructor
    · rintro ⟨j, g', h1, h2, h3⟩
      refine ⟨j, g', ?_, h2, h3⟩
      rcases Nat.lt_or_ge j i with h | h
      · exact h
      · obtain rfl : j = i := by omega
        rw [hi] at h2; cases h2; exact absurd h3 hx
    · rintro ⟨j, g', h1, h2, h3⟩
      exact ⟨j, g', by omega, h2, h3⟩
  classical
  by_cases hq : ∃ j g, j < i ∧ G[j]? = some g ∧ covers g x
  · rw [if_pos (this.2 hq), if_pos hq]
  · rw [if_neg (fun h => hq (this.1 h)), if_neg hq]
theorem cv_has {s : BS} (h : Inv s) (hB : 1 ≤ s.B) (hS : s.S ≤ 16384) {b : Nat} (hb : b < nblk s.S s.B) : ((cv s.G s.G.length (b * s.B)) == 1) = hasB s.l b := by
  have hlt := (nblk_bound hS hB).2 b hb
  have key : (∃ j g, j < s.G.length ∧ s.G[j]? = some g ∧ covers g (b * s.B)) ↔ inS s.l b := by
    rw [h.mem]
    constructor
    · rintro ⟨j, g, h1, h2, h3⟩
      refine ⟨g, List.mem_of_getElem? h2, ?_⟩
      rw [h.block hB (List.mem_of_getElem? h2) h3, Nat.mul_div_cancel _ (by omega)]
    · rintro ⟨g, hg, e⟩
      obtain ⟨j, hj, e2⟩ := List.getElem_of_mem hg
      refine ⟨j, g, hj, by rw [List.getElem?_eq_getElem hj, e2], ?_⟩
      obtain ⟨b', h1, h2, h3, h4⟩ := h.form g hg
      obtain rfl : b' = b := by omega
      unfold covers
      rw [h2, h3]
      unfold BS.to
      rw [Nat.add_mul]
      omega
  unfold cv
  by_cases hh : inS s.l b
  · rw [if_pos (key.2 hh), (hasB_iff _ _).2 hh]; rfl
  · rw [if_neg (fun h => hh (key.1 h)), has_false _ _ hh]; rfl

/-- A row of numbers, by its index. -/
def nrow (S : Nat) (F : Nat → Int) : List Value := (List.range S).map fun x => .int .i64 (F x)
theorem nrow_len (S : Nat) (F : Nat → Int) : (nrow S F).length = S := by simp [nrow]
theorem nrow_get {S : Nat} {F : Nat → Int} {x : Nat} (h : x < S) : (nrow S F)[x]? = some (.int .i64 (F x)) := by simp [nrow, h]
theorem nrow_set {S : Nat} {F : Nat → Int} {k : Nat} {v : Int} : (nrow S F).set k (.int .i64 v) = nrow S (fun x => if x = k then v else F x) := by
  apply List.ext_getElem
  · simp [nrow]
  · intro i h1 h2
    simp only [nrow, List.getElem_set, List.getElem_map, List.getElem_range]
    by_cases h : k = i
    · simp [h]
    · simp [h, Ne.symm h]
theorem nrow_cell {w : World} {base g cap S : Nat} {F : Nat → Int} (h : w.ownsRow base 3 1 (.slice (some ⟨g, 0, none⟩) S cap) S (nrow S F)) {x : Nat} (hx : x < S) : w.cell? ⟨g, x, none⟩ = some (.int .i64 (F x)) ∧ w.frozen? ⟨g, x, none⟩ = false := by
  obtain ⟨tail, hg, _⟩ := ownsRow_open (ownsRow_base h (Nat.zero_le _))
  refine ⟨?_, frozen_blk hg _⟩
  rw [cell_blk hg, List.getElem?_toArray, List.getElem?_append_left (by rw [nrow_len]; exact hx), nrow_get hx]
theorem nrow_store {w : World} {base g cap S : Nat} {F : Nat → Int} (h : w.ownsRow base 3 1 (.slice (some ⟨g, 0, none⟩) S cap) S (nrow S F)) {k : Nat} (hk : k < S) (v : Int) :
    (w.setCell ⟨g, k, none⟩ (.int .i64 v)).ownsRow base 3 1 (.slice (some ⟨g, 0, none⟩) S cap) S (nrow S (fun x => if x = k then v else F x)) := by
  have hb := (h.lt g rfl).1
  obtain ⟨tail, hg, h1, h2, h3, h4⟩ := ownsRow_open (ownsRow_base h (Nat.zero_le _))
  refine own_raise ?_ hb
  have hset : (nrow S F ++ tail).set k (.int .i64 v) = nrow S (fun x => if x = k then v else F x) ++ tail := by
    rw [List.set_append_left _ _ (by rw [nrow_len]; exact hk), nrow_set]
  have hg2 : (w.setCell ⟨g, k, none⟩ (.int .i64 v)).heap[g]? = some (.cells (nrow S (fun x => if x = k then v else F x) ++ tail).toArray 3 (0, 0)) := by
    rw [heap_setCell_same w g _ _ 3 _ hg, ← hset]
    congr 2
    apply Array.ext'
    simp
  refine ownsRow_shut hg2 ?_ ?_ h3 h4
  · rw [List.length_append] at h1 ⊢; rw [nrow_len] at h1 ⊢; exact h1
  · rw [nrow_len]; simp
end Go.Proofs.Ytjklcecakdmbaaa
