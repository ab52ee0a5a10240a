/-
  Contracts of package build: Complete, span, Lacking, Prefix, Has, Plan.
-/
import Derived.Test.YtjklcecakdmbaaaB1
namespace Go.Proofs.Ytjklcecakdmbaaa
open Go.RowKit

theorem plan_any (β : BI) (s : BS) (w : World) (hb : BuildAt w β s) :
    Calls Try.prog 22 #[.pointer (some ⟨β.b, 0, none⟩)] w fun e w' => e = .returned (.pointer (some ⟨β.p, 0, none⟩)) ∧ w = w' := by
  obtain ⟨bb, hbb⟩ : ∃ bb, bb = β.b := ⟨_, rfl⟩
  have hblk := hb.blk
  rw [← hbb] at hblk
  rw [← hbb]
  have c0 : w.cell? ⟨bb, 0, none⟩ = some (.pointer (some ⟨β.p, 0, none⟩)) := by rw [cell_blk hblk]; rfl
  clear hb hbb hblk
  go_enter Try.func22, Try.ntmps22
  go_wp2
  go_ret
  exact ⟨rfl, rfl⟩

theorem bhas_any (β : BI) (s : BS) (n : Int) (w : World) (hb : BuildAt w β s) (hn : 0 ≤ n) (hn' : n ≤ 16384) :
    Calls Try.prog 20 #[.pointer (some ⟨β.b, 0, none⟩), .int .i64 n] w fun e w' => e = .returned (.bool (hasB s.l n)) ∧ Below w.heap.size w w' := by
  obtain ⟨bb, hbb⟩ : ∃ bb, bb = β.b := ⟨_, rfl⟩
  obtain ⟨h, hh⟩ : ∃ h, h = β.h := ⟨_, rfl⟩
  have hblk := hb.blk
  rw [← hbb, ← hh] at hblk
  rw [← hbb]
  have c1 : w.cell? ⟨bb, 1, none⟩ = some (.pointer (some ⟨h, 0, none⟩)) := by rw [cell_blk hblk]; rfl
  have HS := Lib.hid (has_any h β.hv s.l n w (by rw [hh]; exact hb.set) hn hn')
  obtain ⟨r, hr⟩ : ∃ r, r = hasB s.l n := ⟨_, rfl⟩
  rw [← hr] at HS ⊢
  clear hb hbb hblk hh hr
  go_enter Try.func20, Try.ntmps20
  go_wp2_with fail
  refine HS.out.mono ?_
  rintro e w' ⟨rfl, hb⟩
  go_wp2_with fail
  go_ret
  exact ⟨rfl, hb⟩

def CompPost (w : World) (s : BS) (k : Int) (e : Ending) (w' : World) : Prop :=
  ∃ m : List (Int × Int), IsMiss s k m ∧ e = .returned (.bool (decide (m.length = 0))) ∧ Below w.heap.size w w'
theorem complete_any (β : BI) (s : BS) (k : Int) (w : World) (hb : BuildAt w β s) :
    Calls Try.prog 29 #[.pointer (some ⟨β.b, 0, none⟩), .int .i64 k] w (CompPost w s k) := by
  have HM := Lib.hid (missing_any β s k w hb)
  obtain ⟨POST, hPOST⟩ : ∃ POST, POST = CompPost w s k := ⟨_, rfl⟩
  rw [← hPOST]
  have HPOST := Lib.hid hPOST
  obtain ⟨bb, hbb⟩ : ∃ bb, bb = β.b := ⟨_, rfl⟩
  rw [← hbb] at HM ⊢
  clear hb hbb hPOST
  go_enter Try.func29, Try.ntmps29
  go_wp2_with fail
  refine HM.out.mono ?_
  rintro e w' ⟨m, v', rfl, hm, hown, hb⟩
  have hp : ∀ r, r = decide (m.length = 0) → POST (.returned (.bool r)) w' := fun r hr => by
    rw [HPOST.out]
    exact ⟨m, hm, by rw [hr], hb⟩
  have HP := Lib.hid hp
  have hform := ownsRow_formN (ownsRow_base hown (Nat.zero_le _))
  clear hp hm hown hb
  obtain ⟨len, hlen⟩ : ∃ len, len = m.length := ⟨_, rfl⟩
  rw [← hlen] at HP hform
  clear hlen
  rcases hform with ⟨rfl, rfl, _⟩ | ⟨g, cap, rfl, _, _, _⟩
  · go_wp2_with fail
    exact HP.out _ rfl
  · go_wp2_with fail
    exact HP.out ((len : Int) == 0) (by rw [Bool.eq_iff_iff]; simp)

/-- A stretch of blocks, as bytes. -/
def spanOf (s : BS) (x : Int × Int) : Int × Int := (x.1 * s.B, min (x.2 * s.B) s.S)

theorem bytes_q (p S B L b : Nat) (w : World) (hp : PlanAt w p S B L) (hb : b < nblk S B) :
    Calls Try.prog 54 #[.pointer (some ⟨p, 0, none⟩), .int .i64 b] w fun e w' => e = .returned (.tuple #[.int .i64 (b * B : Nat), .int .i64 (min ((b + 1) * B) S : Nat), .int .i64 0]) ∧ ∃ m, w' = w.drewN m :=
  (bytes_yes p S B L b w hp hb).mono fun _ _ h => h

set_option maxHeartbeats 800000 in
set_option maxRecDepth 100000 in
theorem span_any (β : BI) (s : BS) (x y : Nat) (w : World) (hb : BuildAt w β s) (hxy : x < y) (hy : y ≤ nblk s.S s.B) :
    Calls Try.prog 77 #[.pointer (some ⟨β.b, 0, none⟩), .agg #[.int .i64 x, .int .i64 y]] w fun e w' => e = .returned (.agg #[.int .i64 (spanOf s (x, y)).1, .int .i64 (spanOf s (x, y)).2]) ∧ Below w.heap.size w w' := by
  obtain ⟨bb, hbb⟩ : ∃ bb, bb = β.b := ⟨_, rfl⟩
  obtain ⟨p, hp⟩ : ∃ p, p = β.p := ⟨_, rfl⟩
  have hblk := hb.blk
  rw [← hbb, ← hp] at hblk
  rw [← hbb]
  have hlt : bb < w.heap.size := lt_blk hblk
  have c0 : w.cell? ⟨bb, 0, none⟩ = some (.pointer (some ⟨p, 0, none⟩)) := by rw [cell_blk hblk]; rfl
  have hplan : PlanAt w p s.S s.B s.L := by rw [hp]; exact hb.plan
  have hpl := lt_blk hplan.blk
  have hbd := (nblk_bound hb.plan.s hb.plan.b.1).1
  have HPL := Lib.hid hplan
  have hx1 : x ≤ 16384 := by omega
  have hy1 : y ≤ 16384 := by omega
  have hy2 : 1 ≤ y := by omega
  have HX := Lib.hid (show x < nblk s.S s.B by omega)
  have HY := Lib.hid (show y - 1 < nblk s.S s.B by omega)
  clear hb hbb hp hblk hplan hbd
  go_enter Try.func77, Try.ntmps77
  go_wp2_with fail
  obtain ⟨N, hN⟩ : ∃ N, N = w.heap.size := ⟨_, rfl⟩
  obtain ⟨W, hW⟩ : ∃ W, W = (w.alloc (.cells #[.int .i64 x, .int .i64 y] 58)).alloc (.cells #[.int .i64 0, .int .i64 0] 58) := ⟨_, rfl⟩
  have q0 : W.cell? ⟨bb, 0, none⟩ = some (.pointer (some ⟨p, 0, none⟩)) := by rw [hW, World.cell?_alloc_lt (h := by simp; omega), World.cell?_alloc_lt (h := hlt)]; exact c0
  have q1 : W.cell? ⟨N, 0, none⟩ = some (.int .i64 x) := by rw [hW, hN, World.cell?_alloc2_first]; rfl
  have q2 : W.cell? ⟨N, 1, none⟩ = some (.int .i64 y) := by rw [hW, hN, World.cell?_alloc2_first]; rfl
  have hbw : Below w.heap.size w W := by rw [hW]; exact ((Below.refl _ _).alloc (Nat.le_refl _) _).alloc (by simp) _
  have hres : W.heap[N + 1]? = some (.cells #[.int .i64 0, .int .i64 0] 58 (0, 0)) := by rw [hW, hN]; exact heap_alloc2_new w _ _
  have HRES := Lib.hid hres
  have HPW := Lib.hid (HPL.out.below hbw)
  rw [← hN, ← hW]
  have HN := Lib.hid hN
  clear hW hres c0 hN
  have hw1 : IntKind.i64.wrap ((y : Int) - 1) = ((y - 1 : Nat) : Int) := by rw [IntKind.wrap_i64]; omega
  have HW1 := Lib.hid hw1
  clear hw1
  go_quiet ((go_at_call 54; refine Calls.quiet_of (bytes_q p s.S s.B s.L x _ ?_ HX.out); exact ⟨HPW.out.blk, HPW.out.s, HPW.out.b, HPW.out.l⟩))
  go_wp2_with fail
  obtain ⟨W2, hW2⟩ : ∃ W2, W2 = W.drewN nq := ⟨_, rfl⟩
  have r0 : W2.cell? ⟨bb, 0, none⟩ = some (.pointer (some ⟨p, 0, none⟩)) := by rw [hW2]; exact q0
  have r2 : W2.cell? ⟨N, 1, none⟩ = some (.int .i64 y) := by rw [hW2]; exact q2
  have hbw2 : Below w.heap.size w W2 := by rw [hW2]; exact below_drewN hbw _
  have HRES2 := Lib.hid (show W2.heap[N + 1]? = some (.cells #[.int .i64 0, .int .i64 0] 58 (0, 0)) by rw [hW2]; exact HRES.out)
  have HPW2 := Lib.hid (show PlanAt W2 p s.S s.B s.L by rw [hW2]; exact ⟨HPW.out.blk, HPW.out.s, HPW.out.b, HPW.out.l⟩)
  rw [← hW2]
  clear hW2 q0 q1 q2
  have hw1 := HW1.out
  go_quiet ((go_at_call 54; refine Calls.quiet_of (bytes_q p s.S s.B s.L (y - 1) _ ?_ HY.out); exact ⟨HPW2.out.blk, HPW2.out.s, HPW2.out.b, HPW2.out.l⟩))
  clear hw1
  have t0 : W2.cell? ⟨N + 1, 0, none⟩ = some (.int .i64 0) := by rw [cell_blk HRES2.out]; rfl
  have t1 : W2.cell? ⟨N + 1, 1, none⟩ = some (.int .i64 0) := by rw [cell_blk HRES2.out]; rfl
  have t2 : W2.frozen? ⟨N + 1, 0, none⟩ = false := frozen_blk HRES2.out _
  have t3 : W2.frozen? ⟨N + 1, 1, none⟩ = false := frozen_blk HRES2.out _
  go_wp2_with fail
  obtain ⟨A, hA⟩ : ∃ A : Int, A = (x : Int) * s.B := ⟨_, rfl⟩
  obtain ⟨C, hC⟩ : ∃ C : Int, C = ((min (y * s.B) s.S : Nat) : Int) := ⟨_, rfl⟩
  have u0 := blk_set0 (x' := .int .i64 A) (show (W2.drewN nq).heap[N + 1]? = _ from HRES2.out)
  have u1 := blk_set1 (y' := .int .i64 C) u0
  have v0 : (((W2.drewN nq).setCell ⟨N + 1, 0, none⟩ (.int .i64 A)).setCell ⟨N + 1, 1, none⟩ (.int .i64 C)).cell? ⟨N + 1, 0, none⟩ = some (.int .i64 A) := by rw [cell_blk u1]; rfl
  have v1 : (((W2.drewN nq).setCell ⟨N + 1, 0, none⟩ (.int .i64 A)).setCell ⟨N + 1, 1, none⟩ (.int .i64 C)).cell? ⟨N + 1, 1, none⟩ = some (.int .i64 C) := by rw [cell_blk u1]; rfl
  rw [← hA, ← hC]
  obtain ⟨W3, hW3⟩ : ∃ W3, W3 = (((W2.drewN nq).setCell ⟨N + 1, 0, none⟩ (.int .i64 A)).setCell ⟨N + 1, 1, none⟩ (.int .i64 C)) := ⟨_, rfl⟩
  have hb3 : Below w.heap.size w W3 := by
    rw [hW3]
    exact ((below_drewN hbw2 _).setCell (p := ⟨N + 1, 0, none⟩) (by have := HN.out; simp; omega) _).setCell (p := ⟨N + 1, 1, none⟩) (by have := HN.out; simp; omega) _
  rw [← hW3] at v0 v1 ⊢
  clear hW3 u0 u1
  refine bodyPost_ret (v := .agg #[.int .i64 A, .int .i64 C]) ?_ rfl ⟨?_, hb3⟩
  · simp [results, Try.results77, go_sem, v0, v1]
  · rw [hA, hC]
    have e1 : ((min (y * s.B) s.S : Nat) : Int) = min ((y : Int) * s.B) s.S := by omega
    rw [e1]; rfl
end Go.Proofs.Ytjklcecakdmbaaa
