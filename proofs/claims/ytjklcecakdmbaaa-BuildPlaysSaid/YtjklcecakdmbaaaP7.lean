/-
  The law BuildPlays: one call of both.
-/
import Derived.Test.YtjklcecakdmbaaaP6
namespace Go.Proofs.Ytjklcecakdmbaaa
open Go.RowKit

/-- The world in which a step begins. -/
def W3 (w : World) (S B L : Nat) (rv : Value) (ov : Bool) (k bl t : Int) (ao : Option Addr) (n cap : Nat) : World := ((w.alloc (.cells #[.int .i64 S, .int .i64 B, .int .i64 L, rv, .bool ov] 65)).alloc (.cells #[.int .i64 k, .int .i64 bl, .int .i64 t, .slice ao n cap] 48)).alloc (.cells #[.int .i64 0, .int .i64 0, .int .i64 0, .slice none 0 0, .bool false] 65)
theorem W3_at (w : World) (S B L : Nat) (rv : Value) (ov : Bool) (k bl t : Int) (ao : Option Addr) (n cap : Nat) : StBlk (W3 w S B L rv ov k bl t ao n cap) w.heap.size S B L rv ov ∧ (W3 w S B L rv ov k bl t ao n cap).heap[w.heap.size + 1]? = some (.cells #[.int .i64 k, .int .i64 bl, .int .i64 t, .slice ao n cap] 48 (0, 0)) ∧ StBlk (W3 w S B L rv ov k bl t ao n cap) (w.heap.size + 2) 0 0 0 (.slice none 0 0) false ∧ Below w.heap.size w (W3 w S B L rv ov k bl t ao n cap) ∧ (W3 w S B L rv ov k bl t ao n cap).heap.size = w.heap.size + 3 := by
  have s1 : (w.alloc (.cells #[.int .i64 S, .int .i64 B, .int .i64 L, rv, .bool ov] 65)).heap.size = w.heap.size + 1 := by simp
  have s2 : ((w.alloc (.cells #[.int .i64 S, .int .i64 B, .int .i64 L, rv, .bool ov] 65)).alloc (.cells #[.int .i64 k, .int .i64 bl, .int .i64 t, .slice ao n cap] 48)).heap.size = w.heap.size + 2 := by simp
  refine ⟨?_, ?_, ?_, ?_, ?_⟩
  · unfold W3 StBlk
    exact (heap_alloc_old (h := by simp; omega) ..).trans ((heap_alloc_old (w := w.alloc _) (h := by simp) ..).trans (heap_alloc_new w _))
  · unfold W3
    refine (heap_alloc_old (h := by simp) ..).trans ?_
    have := heap_alloc_new (w.alloc (.cells #[.int .i64 S, .int .i64 B, .int .i64 L, rv, .bool ov] 65)) (.cells #[.int .i64 k, .int .i64 bl, .int .i64 t, .slice ao n cap] 48)
    rwa [s1] at this
  · unfold W3 StBlk
    have := heap_alloc_new ((w.alloc (.cells #[.int .i64 S, .int .i64 B, .int .i64 L, rv, .bool ov] 65)).alloc (.cells #[.int .i64 k, .int .i64 bl, .int .i64 t, .slice ao n cap] 48)) (.cells #[.int .i64 0, .int .i64 0, .int .i64 0, .slice none 0 0, .bool false] 65)
    rwa [s2] at this
  · exact (((Below.refl _ _).alloc (Nat.le_refl _) _).alloc (by simp) _).alloc (by simp; omega) _
  · simp [W3]
theorem op_at {w : World} {q : Nat} {k bl t : Int} {sv : Value} (h : w.heap[q]? = some (.cells #[.int .i64 k, .int .i64 bl, .int .i64 t, sv] 48 (0, 0))) : w.cell? ⟨q, 0, none⟩ = some (.int .i64 k) ∧ w.cell? ⟨q, 1, none⟩ = some (.int .i64 bl) ∧ w.cell? ⟨q, 2, none⟩ = some (.int .i64 t) ∧ w.cell? ⟨q, 3, none⟩ = some sv :=
  ⟨by rw [cell_blk h]; rfl, by rw [cell_blk h]; rfl, by rw [cell_blk h]; rfl, by rw [cell_blk h]; rfl⟩

theorem step_kept {w0 wr w' : World} {b : Nat} {β : BI} {s : BS} {S B L j : Nat} {rv : Value} {F : Nat → Int} (h : Pl w0 wr b β s S B L j rv F) (hk : Keeps β.foot wr w') {q : Nat} {cs : Array Value} {t : TypeId} (hq : wr.heap[q]? = some (.cells cs t (0, 0))) (ht : t ≠ 105 ∧ t ≠ 131 ∧ t ≠ 58 ∧ t ≠ 5 ∧ t ≠ 51) : w'.heap[q]? = some (.cells cs t (0, 0)) :=
  (hk.block q (lt_blk hq) (h.at_.foot_ne ⟨_, hq⟩ ht)).trans hq

/-- The end of a step. -/
theorem step_end {w0 w wm w5 W : World} {b : Nat} {β β5 : BI} {s5 : BS} {S B L j q : Nat} {rv1 : Value} {F1 : Nat → Int} {ov : Bool} (hb : Below w.heap.size w wm) (hk5 : Keeps β.foot wm w5) (h : Pl w0 w5 b β5 s5 S B L (j + 1) rv1 F1) (hov : s5.over = ov) (hq : tyAt w5 q 65) (hqn : w.heap.size ≤ q) (h0 : w0.heap.size ≤ w.heap.size) (hkw : Keeps (fun x => x = q) w5 W) :
    StepPost w0 w b β S B L j (.returned (.tuple #[sAgg S B L rv1 ov, .bool true])) W := by
  refine ⟨β5, s5, rv1, F1, by rw [hov], h.kept hkw (fun k e => ?_), ?_⟩
  · subst e; exact ⟨by omega, 65, hq, .inl rfl⟩
  · exact ((Keeps.of_below (S := β.foot) hb).trans hk5 (fun _ _ e => e) (fun _ _ e => e)).trans hkw (fun _ _ e => e) (fun i hi e => by subst e; omega)

set_option maxHeartbeats 1600000 in
set_option maxRecDepth 100000 in
theorem step_one (w0 w : World) (b : Nat) (β : BI) (s : BS) (S B L j : Nat) (rv : Value) (F : Nat → Int) (bl t : Int) (ao : Option Addr) (n cap : Nat) (tb : List Int) (hpl : Pl w0 w b β s S B L j rv F) (hS : S ≤ 400) (hj : j ≤ 60) (htx : TextAt w ao n tb) (ht8 : ∀ x ∈ tb, 0 ≤ x ∧ x ≤ 255) (hn : n ≤ 9223372036854775807) (hap : ∀ ad, ao = some ad → 0 < n → ad.block < w0.heap.size) :
    Calls Try.prog 31 #[.pointer (some ⟨b, 0, none⟩), sAgg S B L rv s.over, .agg #[.int .i64 1, .int .i64 bl, .int .i64 t, .slice ao n cap]] w (StepPost w0 w b β S B L j) := by
  obtain ⟨POST, hPOST⟩ : ∃ POST, POST = StepPost w0 w b β S B L j := ⟨_, rfl⟩
  rw [← hPOST]
  have HPOST := Lib.hid hPOST
  have HPL := Lib.hid hpl
  have hB1 : 1 ≤ B := by rw [← hpl.B]; exact hpl.at_.plan.b.1
  have hB2 : B ≤ 64 := by rw [← hpl.B]; exact hpl.at_.plan.b.2
  obtain ⟨rp, rc, rfl, _, _⟩ := own_slice hpl.row
  obtain ⟨ov, hov⟩ : ∃ ov, ov = s.over := ⟨_, rfl⟩
  rw [← hov]
  have HOV := Lib.hid hov
  obtain ⟨hst0, hop0, hzr0, hbw0, hsz0⟩ := W3_at w S B L (.slice rp S rc) ov 1 bl t ao n cap
  have HW := Lib.hid (show W3 w S B L (.slice rp S rc) ov 1 bl t ao n cap = _ from rfl)
  have HREF := Lib.hid (refPut_any S B L (.slice rp S rc) ov F bl t ao n cap tb (W3 w S B L (.slice rp S rc) ov 1 bl t ao n cap) hS hB1 hB2 (own_below hpl.row hbw0) (htx.keeps (T := fun _ => False) (Keeps.of_below hbw0) (fun _ _ e => e)) ht8 hn)
  have HTX := Lib.hid htx
  have HST := Lib.hid hst0
  have HOP := Lib.hid hop0
  have HZR := Lib.hid hzr0
  have HBW := Lib.hid hbw0
  have HSZ := Lib.hid hsz0
  have HAP := Lib.hid hap
  have HT8 := Lib.hid ht8
  obtain ⟨c, hc⟩ : ∃ c, c = refCode S B ov F bl n t := ⟨_, rfl⟩
  have HC := Lib.hid hc
  unfold W3 sAgg at HREF
  clear hPOST hpl hov hst0 hop0 hzr0 hbw0 hsz0 htx hap ht8 hc HW
  unfold sAgg
  go_enter Try.func31, Try.ntmps31
  go_wp2_with fail
  refine HREF.out.mono ?_
  rintro e w1 ⟨rv1, F1, rfl, hrow1, hbel1, hcase⟩
  rw [← HC.out] at hcase ⊢
  unfold sAgg
  obtain ⟨p1, c1, rfl, _, _⟩ := own_slice hrow1
  have hbel1' : Below (W3 w S B L (.slice rp S rc) ov 1 bl t ao n cap).heap.size (W3 w S B L (.slice rp S rc) ov 1 bl t ao n cap) w1 := hbel1
  have hpl1 := (HPL.out.quiet HBW.out).quiet hbel1'
  have hop1 := (hbel1'.block (w.heap.size + 1) (lt_blk HOP.out)).trans HOP.out
  have hzr1 : StBlk w1 (w.heap.size + 2) 0 0 0 (.slice none 0 0) false := (hbel1'.block (w.heap.size + 2) (lt_blk HZR.out)).trans HZR.out
  obtain ⟨q0, q1, q2, q3⟩ := op_at hop1
  have HPL1 := Lib.hid hpl1
  have HOP1 := Lib.hid hop1
  have HZR1 := Lib.hid hzr1
  have HROW1 := Lib.hid hrow1
  have HCASE := Lib.hid hcase
  have HBEL1 := Lib.hid hbel1'
  clear HREF hrow1 hbel1 hcase hbel1' hpl1 hop1 hzr1
  go_wp2_with fail
  obtain ⟨W4, hW4⟩ : ∃ W4, W4 = w1.alloc (.cells #[.int .i64 S, .int .i64 B, .int .i64 L, .slice p1 S c1, .bool ov] 65) := ⟨_, rfl⟩
  have hb4 : Below w1.heap.size w1 W4 := by rw [hW4]; exact (Below.refl _ _).alloc (Nat.le_refl _) _
  have hst4 : StBlk W4 w1.heap.size S B L (.slice p1 S c1) ov := by rw [hW4]; exact heap_alloc_new w1 _
  rw [← hW4]
  clear hW4 q0 q1 q2 q3
  have hop4 := (hb4.block (w.heap.size + 1) (lt_blk HOP1.out)).trans HOP1.out
  have hzr4 : StBlk W4 (w.heap.size + 2) 0 0 0 (.slice none 0 0) false := (hb4.block (w.heap.size + 2) (lt_blk HZR1.out)).trans HZR1.out
  obtain ⟨q0, q1, q2, q3⟩ := op_at hop4
  obtain ⟨a0, a1, a2, a3, a4⟩ := hst4.at_
  have hpl4 := (HPL1.out.quiet hb4).quiet (show Below W4.heap.size W4 W4.drew from (Below.refl _ W4).drew)
  have hrow4 := own_below (own_below HROW1.out hb4) (show Below W4.heap.size W4 W4.drew from (Below.refl _ W4).drew)
  have htx4 : TextAt W4.drew ao n tb := by
    refine (((HTX.out.keeps (T := fun _ => False) (Keeps.of_below HBW.out) (fun _ _ e => e)).keeps (T := fun _ => False) (Keeps.of_below HBEL1.out) (fun _ _ e => e)).keeps (T := fun _ => False) (Keeps.of_below hb4) (fun _ _ e => e)).keeps (T := fun _ => False) (Keeps.of_below (show Below W4.heap.size W4 W4.drew from (Below.refl _ W4).drew)) (fun _ _ e => e)
  have HPUT := Lib.hid (put_any β s bl t ao n cap tb W4.drew hpl4.at_ hn htx4 (fun ad e h0 hf => by have := HAP.out ad e h0; have := HPL.out.foot _ hf; omega) (by have := HPL.out.G; omega))
  rw [HPL.out.b] at HPUT
  have HST4 := Lib.hid (show StBlk W4.drew w1.heap.size S B L (.slice p1 S c1) ov from hst4)
  have HZR4 := Lib.hid (show StBlk W4.drew (w.heap.size + 2) 0 0 0 (.slice none 0 0) false from hzr4)
  have HB4 := Lib.hid (show Below w.heap.size w W4.drew from ((HBW.out.trans (HBEL1.out.mono (by have := HSZ.out; omega))).trans (hb4.mono (HBW.out.trans (HBEL1.out.mono (by have := HSZ.out; omega))).size)).drew)
  have HPL4 := Lib.hid hpl4
  have HROW4 := Lib.hid hrow4
  clear hb4 hst4 hop4 hzr4 hpl4 hrow4 htx4
  go_region_with (go_at_call 18; refine HPUT.out.mono ?_; intro e w5 hp5; obtain ⟨β5, s5, he5, hov5, hpl5, hk5⟩ := HPL4.out.put hS hB1 hp5 HTX.out.len HT8.out HROW4.out (by rw [← HOV.out, ← HC.out]; exact HCASE.out); rw [← HOV.out, ← HC.out] at he5; subst he5; have hm5 := step_kept HPL4.out hk5 HST4.out (by decide); have hz5 := step_kept HPL4.out hk5 HZR4.out (by decide); obtain ⟨d0, d1, d2, d3, d4⟩ := StBlk.at_ hm5; obtain ⟨y0, y1, y2, y3, y4⟩ := StBlk.at_ hz5; have fy0 := StBlk.free hz5 0; have fy1 := StBlk.free hz5 1; have fy2 := StBlk.free hz5 2; have fy3 := StBlk.free hz5 3; have fy4 := StBlk.free hz5 4; have HZ5 := Lib.hid hz5; have HPL5 := Lib.hid hpl5; have HK5 := Lib.hid hk5; have HOV5 := Lib.hid hov5; clear hm5 hz5 hpl5 hk5 hov5 hp5)
  all_goals
    go_wp2_with fail
    obtain ⟨W, hW, hst, hkw⟩ : ∃ W, W = put5 w5 (w.heap.size + 1 + 1) (.int .i64 S) (.int .i64 B) (.int .i64 L) (.slice p1 S c1) (.bool ov) ∧ StBlk W (w.heap.size + 1 + 1) S B L (.slice p1 S c1) ov ∧ Keeps (fun x => x = w.heap.size + 1 + 1) w5 W := ⟨_, rfl, put5_st HZ5.out S B L (.slice p1 S c1) ov, put5_keeps _ _ _ _ _ _ _⟩
    unfold put5 at hW
    rw [← hW]
    obtain ⟨v0, v1, v2, v3, v4⟩ := hst.at_
    clear hW
    refine bodyPost_ret (v := .tuple #[sAgg S B L (.slice p1 S c1) ov, .bool true]) ?_ rfl ?_
    · simp [results, Try.results31, go_sem, sAgg, v0, v1, v2, v3, v4]
    · rw [HPOST.out]
      exact step_end HB4.out HK5.out HPL5.out (HOV5.out.trans HOV.out.symm) ⟨_, HZ5.out⟩ (by omega) HPL.out.below.size hkw
end Go.Proofs.Ytjklcecakdmbaaa
