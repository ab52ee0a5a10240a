/-
  Contracts of package ranges: Stretches, lay.
-/
import Derived.Test.YtjklcecakdmbaaaRng2
import Derived.Deep.LoopGhost
namespace Go.Proofs.Ytjklcecakdmbaaa
open Go.RowKit

theorem ownsRow_base {w : World} {base base' : Nat} {e : TypeId} {size n : Nat} {v : Value} {xs : List Value} (h : w.ownsRow base e size v n xs) (hb : base' ≤ base) : w.ownsRow base' e size v n xs := by
  obtain ⟨h1, h2⟩ := h
  refine ⟨h1, ?_⟩
  rcases h2 with h2 | ⟨g, cap, cur, rfl, h3, r⟩
  · exact .inl h2
  · exact .inr ⟨g, cap, cur, rfl, by omega, r⟩

/-- A result that is a fresh row. -/
def FreshPost (e0 : TypeId) (size : Nat) (w : World) (n : Nat) (xs : List Value) (e : Ending) (w' : World) : Prop :=
  ∃ v', e = .returned v' ∧ w'.ownsRow w.heap.size e0 size v' n xs ∧ Below w.heap.size w w'

set_option maxHeartbeats 400000 in
set_option maxRecDepth 100000 in
theorem clone_any (v : Value) (n : Nat) (xs : List Value) (w : World) (hn : n ≤ 100000) (ho : w.ownsRow 0 58 2 v n xs) (h1 : ∀ u ∈ xs, u.oneCell' = true) :
    Calls Try.prog 80 #[v] w (FreshPost 58 2 w n xs) := by
  rcases ownsRow_formN ho with ⟨rfl, rfl, rfl⟩ | ⟨g, cap, rfl, hg, hcap, hcm⟩
  · have hnil := fun W => Lib.run_eql_slice_nil (P := Try.prog) W 22 58 none 0 0 0 0 Try.underlying22
    go_enter Try.func80, Try.ntmps80
    go_wp2
    go_ret
    exact ⟨_, rfl, World.ownsRow_nil _ _ _ _, Below.refl _ _⟩
  · have hnil := fun W => Lib.run_eql_slice_nil (P := Try.prog) W 22 58 (some ⟨g, 0, none⟩) n cap 0 0 Try.underlying22
    obtain ⟨tail, hgg, hcl, hxl, _, _⟩ := ownsRow_open ho
    have Q := Lib.hid (zero_cells (w1 := w.alloc (.cells #[] 58)) (heap_alloc_old (h := hg) ..) hgg)
    have HXL := Lib.hid hxl
    obtain ⟨i0, hi0, hi1, hi2, hi3⟩ := info_parts Try.info58
    have HI0 := Lib.hid hi0
    have HI1 := Lib.hid hi1
    have HI2 := Lib.hid hi2
    have HI3 := Lib.hid hi3
    have HE := Lib.hid (World.ownsRow_lit (base := w.heap.size) (e := 58) (size := 2) w #[] 0 (Nat.le_refl _) (by simp) (by simp))
    have HB1 : 0 + n ≤ maxLen := by simp only [maxLen]; omega
    have HB2 : (0 + n) * 16 ≤ 140737488355328 := by omega
    clear hgg hcl hxl hi0 hi1 hi2 hi3 ho
    go_enter Try.func80, Try.ntmps80
    go_wp2_with ((with_reducible refine wpList_append_own _ rfl (.tmp 5) (.tmp 6) 22 rfl w.heap.size 58 i0 _ 2 16 Try.underlying22 HI0.out HI1.out HI2.out HI3.out ?_ (by decide) _ 0 [] ?_ HE.out ⟨g, 0, none⟩ n cap xs ?_ HXL.out Q.out h1 HB1 HB2 ?_ ?_); rfl; rfl; rfl; simp; intro v' w1 hown1 hgr1 _; have HO1 := Lib.hid hown1; clear hown1)
    go_ret
    refine ⟨_, rfl, by simpa using HO1.out, ?_⟩
    exact ((Below.refl _ _).alloc (Nat.le_refl _) _).grown hgr1 (by simp) (fun k hk => by cases hk; exact Nat.le_refl _)

theorem stretches_any (b : Nat) (v : Value) (l : List (Int × Int)) (w : World) (hs : IsSet w b v l) :
    Calls Try.prog 57 #[.pointer (some ⟨b, 0, none⟩)] w (FreshPost 58 2 w l.length (flat l)) := by
  have c0 : w.cell? ⟨b, 0, none⟩ = some v := by rw [cell_blk hs.blk]; rfl
  have HC := Lib.hid (clone_any v l.length (flat l) w (by have := hs.wf.len; omega) hs.own (flat_one l))
  go_enter Try.func57, Try.ntmps57
  go_wp2_with fail
  refine HC.out.mono ?_
  rintro e w' ⟨v', rfl, ho, hb⟩
  go_wp2_with fail
  go_ret
  exact ⟨v', rfl, ho, hb⟩
end Go.Proofs.Ytjklcecakdmbaaa
