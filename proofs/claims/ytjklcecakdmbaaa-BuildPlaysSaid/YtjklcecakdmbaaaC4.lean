/-
  The law BuildMissing: the walk of the calls that a case lists.
-/
import Derived.Test.YtjklcecakdmbaaaC3
import Derived.StillTailTactics
namespace Go.Proofs.Ytjklcecakdmbaaa
open Go.RowKit

/-! ## The list of what is wanted, block by block -/
structure WantTo (m : List (Int × Int)) (P : Int → Prop) (j : Nat) : Prop where
  wf : Wf m
  mem : ∀ n, inS m n ↔ P n ∧ n < j
theorem WantTo.le {m : List (Int × Int)} {P : Int → Prop} {j : Nat} (h : WantTo m P j) {x : Int × Int} (hx : x ∈ m) : x.2 ≤ j := by
  have := h.wf.each x hx
  have := ((h.mem (x.2 - 1)).1 ⟨x, hx, by omega, by omega⟩).2
  omega
theorem WantTo.skip {m : List (Int × Int)} {P : Int → Prop} {j : Nat} (h : WantTo m P j) (hp : ¬ P j) : WantTo m P (j + 1) := by
  refine ⟨h.wf, fun n => ?_⟩
  rw [h.mem n]
  refine ⟨fun ⟨a, b⟩ => ⟨a, by omega⟩, fun ⟨a, b⟩ => ⟨a, ?_⟩⟩
  rcases Int.lt_or_eq_of_le (show n ≤ j by omega) with h | rfl
  · exact h
  · exact absurd a hp
theorem WantTo.new {m : List (Int × Int)} {P : Int → Prop} {j : Nat} (h : WantTo m P j) (hp : P j) (hj : j < 16384) (hne : ∀ x, m.getLast? = some x → x.2 ≠ j) : WantTo (m ++ [((j : Int), (j : Int) + 1)]) P (j + 1) := by
  refine ⟨⟨fun x hx => ?_, ?_⟩, fun n => ?_⟩
  · rcases List.mem_append.1 hx with hx | hx
    · exact h.wf.each x hx
    · obtain rfl := List.mem_singleton.1 hx; simp; omega
  · refine List.pairwise_append.2 ⟨h.wf.apart, List.pairwise_singleton .., fun x hx y hy => ?_⟩
    obtain rfl := List.mem_singleton.1 hy
    simp only
    have hle := h.le hx
    obtain ⟨i, hi, e⟩ := List.getElem_of_mem hx
    by_cases hl : i + 1 = m.length
    · have := hne x (by rw [List.getLast?_eq_getElem?, show m.length - 1 = i by omega, List.getElem?_eq_getElem hi, e])
      omega
    · have hlast : m.length - 1 < m.length := by omega
      have h2 := h.wf.lt (k := i) (k' := m.length - 1) (x := x) (x' := m[m.length - 1]) (by omega) (by rw [List.getElem?_eq_getElem hi, e]) (List.getElem?_eq_getElem hlast)
      have h3 := h.le (List.getElem_mem hlast)
      have h4 := h.wf.each _ (List.getElem_mem hlast)
      omega
  · rw [inS_append, h.mem n]
    have : inS [((j : Int), (j : Int) + 1)] n ↔ n = j := by simp [inS]; omega
    rw [this]
    constructor
    · rintro (⟨a, b⟩ | rfl)
      · exact ⟨a, by omega⟩
      · exact ⟨hp, by omega⟩
    · rintro ⟨a, b⟩
      rcases Int.lt_or_eq_of_le (show n ≤ j by omega) with h | rfl
      · exact .inl ⟨a, h⟩
      · exact .inr rfl
theorem WantTo.ext {m : List (Int × Int)} {P : Int → Prop} {j : Nat} {a : Int} (h : WantTo (m ++ [(a, (j : Int))]) P j) (hp : P j) (hj : j < 16384) : WantTo (m ++ [(a, (j : Int) + 1)]) P (j + 1) := by
  have ha := h.wf.each (a, (j : Int)) (by simp)
  have hpw := List.pairwise_append.1 h.wf.apart
  refine ⟨⟨fun x hx => ?_, ?_⟩, fun n => ?_⟩
  · rcases List.mem_append.1 hx with hx | hx
    · exact h.wf.each x (by simp [hx])
    · obtain rfl := List.mem_singleton.1 hx; simp at ha ⊢; omega
  · refine List.pairwise_append.2 ⟨hpw.1, List.pairwise_singleton .., fun x hx y hy => ?_⟩
    obtain rfl := List.mem_singleton.1 hy
    exact hpw.2.2 x hx (a, (j : Int)) (by simp)
  · have h1 := h.mem n
    rw [inS_append] at h1 ⊢
    have e1 : inS [(a, (j : Int))] n ↔ a ≤ n ∧ n < j := by simp [inS]
    have e2 : inS [(a, (j : Int) + 1)] n ↔ (a ≤ n ∧ n < j) ∨ n = j := by simp [inS] at ha ⊢; omega
    rw [e1] at h1
    rw [e2, ← or_assoc, h1]
    constructor
    · rintro (⟨x, y⟩ | rfl)
      · exact ⟨x, by omega⟩
      · exact ⟨hp, by omega⟩
    · rintro ⟨x, y⟩
      rcases Int.lt_or_eq_of_le (show n ≤ j by omega) with h | rfl
      · exact .inl ⟨x, h⟩
      · exact .inr rfl

/-! ## A case's build, at some point of the calls -/
structure Run (w0 wr : World) (b : Nat) (β : BI) (s : BS) (S B L j : Nat) : Prop where
  at_ : BuildAt wr β s
  b : β.b = b
  foot : ∀ k, β.foot k → w0.heap.size ≤ k
  below : Below w0.heap.size w0 wr
  S : s.S = S
  B : s.B = B
  L : s.L = L
  over : s.over = false
  G : s.G.length ≤ j
theorem Run.quiet {w0 wr w' : World} {b : Nat} {β : BI} {s : BS} {S B L j : Nat} (h : Run w0 wr b β s S B L j) (hb : Below wr.heap.size wr w') : Run w0 w' b β s S B L j :=
  ⟨h.at_.below hb, h.b, h.foot, h.below.trans (hb.mono h.below.size), h.S, h.B, h.L, h.over, h.G⟩
theorem Run.more {w0 wr : World} {b : Nat} {β : BI} {s : BS} {S B L j j' : Nat} (h : Run w0 wr b β s S B L j) (hj : j ≤ j') : Run w0 wr b β s S B L j' := ⟨h.at_, h.b, h.foot, h.below, h.S, h.B, h.L, h.over, by have := h.G; omega⟩
theorem Run.put {w0 wr w' : World} {b : Nat} {β : BI} {s : BS} {S B L j : Nat} {bl t : Int} {n : Nat} {tb : List Int} {e : Ending} (h : Run w0 wr b β s S B L j) (hp : PutAny wr β s bl t n tb e w') :
    ∃ (c : Int) (β' : BI) (s' : BS), e = .returned (.int .i64 c) ∧ c = putCode s bl n t ∧ Run w0 w' b β' s' S B L (j + 1) ∧ ((c ≠ 0 ∧ s' = s) ∨ (c = 0 ∧ ∃ (b' : Nat) (l' : List (Int × Int)), bl = b' ∧ s' = s.put b' tb t l' ∧ ∀ n, inS l' n ↔ inS s.l n ∨ n = b')) := by
  rcases hp with ⟨hc, rfl, hbel⟩ | ⟨hc, b', rfl, β', l', rfl, hin, hb', hk, hbb, hf⟩
  · exact ⟨_, β, s, rfl, rfl, (h.quiet hbel).more (Nat.le_succ _), .inl ⟨hc, rfl⟩⟩
  · refine ⟨0, β', _, rfl, hc.symm, ⟨hb', by rw [hbb, h.b], fun k e => (hf k e).elim (h.foot k) (fun e => Nat.le_trans h.below.size e), h.below.trans (hk.below h.below.size fun i hi e => ?_), h.S, h.B, h.L, h.over, ?_⟩, .inr ⟨rfl, b', l', rfl, rfl, hin⟩⟩
    · have := h.foot i e; omega
    · have := h.G; simp [BS.put]; omega
end Go.Proofs.Ytjklcecakdmbaaa
