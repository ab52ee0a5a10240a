/-
  The law BuildPlays: GiveUp of both; a call that does nothing.
-/
import Derived.Test.YtjklcecakdmbaaaP7
namespace Go.Proofs.Ytjklcecakdmbaaa
open Go.RowKit

theorem Pl.give {w0 wr w' : World} {b : Nat} {β : BI} {s : BS} {S B L j : Nat} {rv : Value} {F : Nat → Int} (h : Pl w0 wr b β s S B L j rv F) (hb : BuildAt w' β { s with over := true }) (hk : Keeps (fun x => x = β.b) wr w') : Pl w0 w' b β { s with over := true } S B L j rv F :=
  ⟨hb, ownsRow_keeps h.row hk (fun k e e2 => h.at_.foot_ne (own_ty h.row e) (by decide) (.inl e2)), h.tie.over true, h.foot, h.below.trans (hk.below h.below.size fun i hi e => by have := h.foot i (.inl e); omega), h.b, h.S, h.B, h.L, h.G⟩

/-- The end of a step, whatever of its own it has written. -/
theorem step_end2 {w0 w w5 W : World} {b : Nat} {β β5 : BI} {s5 : BS} {S B L j q : Nat} {rv1 : Value} {F1 : Nat → Int} {ov : Bool} (hk5 : Keeps (fun k => β.foot k ∨ w.heap.size ≤ k) w w5) (h : Pl w0 w5 b β5 s5 S B L (j + 1) rv1 F1) (hov : s5.over = ov) (hq : tyAt w5 q 65) (hqn : w.heap.size ≤ q) (h0 : w0.heap.size ≤ w.heap.size) (hkw : Keeps (fun x => x = q) w5 W) :
    StepPost w0 w b β S B L j (.returned (.tuple #[sAgg S B L rv1 ov, .bool true])) W := by
  refine ⟨β5, s5, rv1, F1, by rw [hov], h.kept hkw (fun k e => ?_), ?_⟩
  · subst e; exact ⟨by omega, 65, hq, .inl rfl⟩
  · refine (hk5.mono (T := β.foot) (fun i hi e => e.elim id (fun e => by omega))).trans hkw (fun _ _ e => e) (fun i hi e => by subst e; omega)

set_option maxHeartbeats 1600000 in
set_option maxRecDepth 100000 in
theorem step_two (w0 w : World) (b : Nat) (β : BI) (s : BS) (S B L j : Nat) (rv : Value) (F : Nat → Int) (bl t : Int) (ao : Option Addr) (n cap : Nat) (hpl : Pl w0 w b β s S B L j rv F) (hS : S ≤ 400) :
    Calls Try.prog 31 #[.pointer (some ⟨b, 0, none⟩), sAgg S B L rv s.over, .agg #[.int .i64 2, .int .i64 bl, .int .i64 t, .slice ao n cap]] w (StepPost w0 w b β S B L j) := by
  obtain ⟨POST, hPOST⟩ : ∃ POST, POST = StepPost w0 w b β S B L j := ⟨_, rfl⟩
  rw [← hPOST]
  have HPOST := Lib.hid hPOST
  have HPL := Lib.hid hpl
  have hB1 : 1 ≤ B := by rw [← hpl.B]; exact hpl.at_.plan.b.1
  have hB2 : B ≤ 64 := by rw [← hpl.B]; exact hpl.at_.plan.b.2
  have hL1 : 1 ≤ L := by rw [← hpl.L]; exact hpl.at_.plan.l.1
  have hL2 : L ≤ 8 := by rw [← hpl.L]; exact hpl.at_.plan.l.2
  obtain ⟨rp, rc, rfl, _, _⟩ := own_slice hpl.row
  obtain ⟨ov, hov⟩ : ∃ ov, ov = s.over := ⟨_, rfl⟩
  rw [← hov]
  have HOV := Lib.hid hov
  obtain ⟨hst0, hop0, hzr0, hbw0, hsz0⟩ := W3_at w S B L (.slice rp S rc) ov 2 bl t ao n cap
  have HREF := Lib.hid (refLacking_any S B L (.slice rp S rc) ov F bl (W3 w S B L (.slice rp S rc) ov 2 bl t ao n cap) hS hB1 hB2 hL1 hL2 (own_below hpl.row hbw0))
  have HST := Lib.hid hst0
  have HOP := Lib.hid hop0
  have HZR := Lib.hid hzr0
  have HBW := Lib.hid hbw0
  have HSZ := Lib.hid hsz0
  unfold W3 sAgg at HREF
  clear hPOST hpl hov hst0 hop0 hzr0 hbw0 hsz0
  unfold sAgg
  go_enter Try.func31, Try.ntmps31
  go_wp2_with fail
  refine HREF.out.mono ?_
  rintro e w1 ⟨l, lv, rfl, hl, hlown, hbel1⟩
  have hbel1' : Below (W3 w S B L (.slice rp S rc) ov 2 bl t ao n cap).heap.size (W3 w S B L (.slice rp S rc) ov 2 bl t ao n cap) w1 := hbel1
  have hpl1 := (HPL.out.quiet HBW.out).quiet hbel1'
  have hop1 := (hbel1'.block (w.heap.size + 1) (lt_blk HOP.out)).trans HOP.out
  have hzr1 : StBlk w1 (w.heap.size + 2) 0 0 0 (.slice none 0 0) false := (hbel1'.block (w.heap.size + 2) (lt_blk HZR.out)).trans HZR.out
  have hst1 : StBlk w1 w.heap.size S B L (.slice rp S rc) ov := (hbel1'.block w.heap.size (lt_blk HST.out)).trans HST.out
  obtain ⟨q0, q1, q2, q3⟩ := op_at hop1
  have HGU := Lib.hid (giveup_any β s bl w1 hpl1.at_)
  rw [HPL.out.b] at HGU
  have HB1 := Lib.hid (show Below w.heap.size w w1 from HBW.out.trans (hbel1'.mono (by have := HSZ.out; omega)))
  have HPL1 := Lib.hid hpl1
  have HZR1 := Lib.hid hzr1
  have HST1 := Lib.hid hst1
  have HL := Lib.hid hl
  have HLO := Lib.hid hlown
  have hl16 := hl.wf.len
  obtain ⟨lp, lc, rfl, hlc, _⟩ := own_slice hlown
  clear HREF hbel1 hbel1' hpl1 hop1 hzr1 hst1 hl hlown
  go_wp2_with fail
  refine HGU.out.mono ?_
  rintro e w2 (⟨hno, rfl, hb2⟩ | ⟨hovf, m, mv, rfl, hmne, hm, hmown, hba2, hk2⟩)
  · have hpl2 := HPL1.out.quiet hb2
    have hzr2 : StBlk w2 (w.heap.size + 1 + 1) 0 0 0 (.slice none 0 0) false := (hb2.block (w.heap.size + 2) (lt_blk HZR1.out)).trans HZR1.out
    have hst2 : StBlk w2 w.heap.size S B L (.slice rp S rc) ov := (hb2.block w.heap.size (lt_blk HST1.out)).trans HST1.out
    obtain ⟨c0, c1, c2, c3, c4⟩ := hst2.at_
    obtain ⟨y0, y1, y2, y3, y4⟩ := hzr2.at_
    have fy0 := hzr2.free 0
    have fy1 := hzr2.free 1
    have fy2 := hzr2.free 2
    have fy3 := hzr2.free 3
    have fy4 := hzr2.free 4
    have HB2 := Lib.hid (HB1.out.trans (hb2.mono HB1.out.size))
    have HPL2 := Lib.hid hpl2
    have HZ2 := Lib.hid hzr2
    have HLZ := Lib.hid (show ov = false → l.length = 0 from fun e => by
      rcases hno with h | h
      · rw [← HOV.out, e] at h; cases h
      · have h9 := HPL.out.tie.lack (by rw [HPL.out.S]; exact hS) (by rw [HPL.out.B]; exact hB1) h (by rw [HPL.out.S, HPL.out.B, HPL.out.L]; exact HL.out)
        rw [← h9]; rfl)
    obtain ⟨LEN, hLEN⟩ : ∃ LEN, LEN = l.length := ⟨_, rfl⟩
    rw [← hLEN] at HLZ hlc hl16 ⊢
    clear hb2 hpl2 hzr2 hst2 hno hLEN
    cases ov with
    | true =>
      go_wp2_with fail
      obtain ⟨W, hW, hst, hkw⟩ : ∃ W, W = put5 w2 (w.heap.size + 1 + 1) (.int .i64 S) (.int .i64 B) (.int .i64 L) (.slice rp S rc) (.bool true) ∧ StBlk W (w.heap.size + 1 + 1) S B L (.slice rp S rc) true ∧ Keeps (fun x => x = w.heap.size + 1 + 1) w2 W := ⟨_, rfl, put5_st HZ2.out S B L (.slice rp S rc) true, put5_keeps _ _ _ _ _ _ _⟩
      unfold put5 at hW
      rw [← hW]
      obtain ⟨v0, v1, v2, v3, v4⟩ := hst.at_
      clear hW
      refine bodyPost_ret (v := .tuple #[sAgg S B L (.slice rp S rc) true, .bool true]) ?_ rfl ?_
      · simp [results, Try.results31, go_sem, sAgg, v0, v1, v2, v3, v4]
      · rw [HPOST.out]
        exact step_end HB2.out (Keeps.refl _ _) (HPL2.out.more (Nat.le_succ _)) HOV.out.symm ⟨_, HZ2.out⟩ (by omega) HPL.out.below.size hkw
    | false =>
      obtain rfl : LEN = 0 := HLZ.out rfl
      go_wp2_with fail
      obtain ⟨W, hW, hst, hkw⟩ : ∃ W, W = put5 w2 (w.heap.size + 1 + 1) (.int .i64 S) (.int .i64 B) (.int .i64 L) (.slice rp S rc) (.bool false) ∧ StBlk W (w.heap.size + 1 + 1) S B L (.slice rp S rc) false ∧ Keeps (fun x => x = w.heap.size + 1 + 1) w2 W := ⟨_, rfl, put5_st HZ2.out S B L (.slice rp S rc) false, put5_keeps _ _ _ _ _ _ _⟩
      unfold put5 at hW
      rw [← hW]
      obtain ⟨v0, v1, v2, v3, v4⟩ := hst.at_
      clear hW
      refine bodyPost_ret (v := .tuple #[sAgg S B L (.slice rp S rc) false, .bool true]) ?_ rfl ?_
      · simp [results, Try.results31, go_sem, sAgg, v0, v1, v2, v3, v4]
      · rw [HPOST.out]
        exact step_end HB2.out (Keeps.refl _ _) (HPL2.out.more (Nat.le_succ _)) HOV.out.symm ⟨_, HZ2.out⟩ (by omega) HPL.out.below.size hkw
  · have hov2 : ov = false := HOV.out.trans hovf
    subst hov2
    have heq : m.map (spanOf s) = l := HPL.out.tie.lack (by rw [HPL.out.S]; exact hS) (by rw [HPL.out.B]; exact hB1) hm (by rw [HPL.out.S, HPL.out.B, HPL.out.L]; exact HL.out)
    have hpos : 0 < l.length := by
      rw [← heq, List.length_map]
      exact List.length_pos_iff.2 hmne
    have hpl2 := HPL1.out.give hba2 hk2
    have hne : ∀ {q : Nat} {cs : Array Value} {t : TypeId}, w1.heap[q]? = some (.cells cs t (0, 0)) → t ≠ 105 → w2.heap[q]? = some (.cells cs t (0, 0)) := fun hq ht => (hk2.block _ (lt_blk hq) (fun e => tyAt.ne ⟨_, hq⟩ ⟨_, HPL1.out.at_.blk⟩ ht e)).trans hq
    have hzr2 : StBlk w2 (w.heap.size + 1 + 1) 0 0 0 (.slice none 0 0) false := hne HZR1.out (by decide)
    have hst2 : StBlk w2 w.heap.size S B L (.slice rp S rc) false := hne HST1.out (by decide)
    have hlo2 : w2.ownsRow 0 58 2 (.slice lp l.length lc) l.length (flat l) := ownsRow_keeps (ownsRow_base HLO.out (Nat.zero_le _)) hk2 (fun k e e2 => (own_ty HLO.out e).ne ⟨_, HPL1.out.at_.blk⟩ (by decide) e2)
    obtain ⟨c0, c1, c2, c3, c4⟩ := hst2.at_
    have f4 := hst2.free 4
    have HPL2 := Lib.hid hpl2
    have HZR2 := Lib.hid hzr2
    have HST2 := Lib.hid hst2
    have HMO := Lib.hid (ownsRow_base hmown (Nat.zero_le _))
    have HLO2 := Lib.hid hlo2
    have HEQ := Lib.hid heq
    have HK2 := Lib.hid hk2
    have HMN := Lib.hid (show (m.map (spanOf s)).length = m.length from List.length_map _)
    obtain ⟨LEN, hLEN⟩ : ∃ LEN, LEN = l.length := ⟨_, rfl⟩
    have HLEN := Lib.hid hLEN
    rw [← hLEN] at hlc hl16 hpos ⊢
    have hd1 : ((LEN : Int) == 0) = false := by rw [beq_eq_false_iff_ne]; omega
    clear hLEN hpl2 hzr2 hst2 hlo2 heq hk2 hm hmown hba2 hmne hovf hne
    go_wp2_with fail
    obtain ⟨w3, hw3⟩ : ∃ w3, w3 = w2.setCell ⟨w.heap.size, 4, none⟩ (.bool true) := ⟨_, rfl⟩
    have hk3 : Keeps (fun x => x = w.heap.size) w2 w3 := by rw [hw3]; exact (Keeps.refl (fun x => x = w.heap.size) w2).setCell _ _ (fun _ => rfl)
    have hst3 : StBlk w3 w.heap.size S B L (.slice rp S rc) true := by rw [hw3]; exact blk_set4 HST2.out
    have hzr3 : StBlk w3 (w.heap.size + 1 + 1) 0 0 0 (.slice none 0 0) false := (hk3.block _ (lt_blk HZR2.out) (by omega)).trans HZR2.out
    have hpl3 := (HPL2.out.kept hk3 (fun k e => by subst e; exact ⟨HPL.out.below.size, 65, ⟨_, HST2.out⟩, .inl rfl⟩)).quiet (show Below w3.heap.size w3 w3.drew from (Below.refl _ w3).drew)
    have hmo3 := ownsRow_keeps HMO.out hk3 (fun k e e2 => (own_ty HMO.out e).ne ⟨_, HST2.out⟩ (by decide) e2)
    have hlo3 := ownsRow_keeps HLO2.out hk3 (fun k e e2 => (own_ty HLO2.out e).ne ⟨_, HST2.out⟩ (by decide) e2)
    rw [← hw3]
    have HPA := Lib.hid (pairs_eq mv (.slice lp l.length lc) (m.map (spanOf s)) l w3.drew HEQ.out (by rw [HMN.out]; exact own_below hmo3 (show Below w3.heap.size w3 w3.drew from (Below.refl _ w3).drew)) (own_below hlo3 (show Below w3.heap.size w3 w3.drew from (Below.refl _ w3).drew)) (by rw [HEQ.out, ← HLEN.out]; omega))
    rw [← HLEN.out] at HPA
    obtain ⟨d0, d1, d2, d3, d4⟩ := hst3.at_
    have HST3 := Lib.hid (show StBlk w3.drew w.heap.size S B L (.slice rp S rc) true from hst3)
    have HZR3 := Lib.hid (show StBlk w3.drew (w.heap.size + 1 + 1) 0 0 0 (.slice none 0 0) false from hzr3)
    have HPL3 := Lib.hid hpl3
    have HK3 := Lib.hid (show Keeps (fun k => β.foot k ∨ w.heap.size ≤ k) w w3.drew from (((Keeps.of_below (S := fun k => β.foot k ∨ w.heap.size ≤ k) HB1.out).trans HK2.out (fun _ _ e => e) (fun i _ e => .inl (.inl e))).trans hk3 (fun _ _ e => e) (fun i _ e => .inr (by omega))).drew)
    clear hw3 hk3 hst3 hzr3 hpl3 hmo3 hlo3 c0 c1 c2 c3 c4 f4
    go_region_with (go_at_call 25; refine HPA.out.mono ?_; rintro e w5 ⟨rfl, hb5⟩; have hm5 : StBlk w5 w.heap.size S B L (.slice rp S rc) true := (hb5.block _ (lt_blk HST3.out)).trans HST3.out; have hz5 : StBlk w5 (w.heap.size + 1 + 1) 0 0 0 (.slice none 0 0) false := (hb5.block _ (lt_blk HZR3.out)).trans HZR3.out; obtain ⟨g0, g1, g2, g3, g4⟩ := hm5.at_; obtain ⟨y0, y1, y2, y3, y4⟩ := hz5.at_; have fy0 := hz5.free 0; have fy1 := hz5.free 1; have fy2 := hz5.free 2; have fy3 := hz5.free 3; have fy4 := hz5.free 4; have HZ5 := Lib.hid hz5; have HPL5 := Lib.hid (HPL3.out.quiet hb5); have HK5 := Lib.hid (HK3.out.trans (Keeps.of_below (S := fun k => β.foot k ∨ w.heap.size ≤ k) hb5) (fun _ _ e => e) (fun _ _ e => e)); clear hm5 hz5 hb5)
    all_goals
      go_wp2_with fail
      obtain ⟨W, hW, hst, hkw⟩ : ∃ W, W = put5 w5 (w.heap.size + 1 + 1) (.int .i64 S) (.int .i64 B) (.int .i64 L) (.slice rp S rc) (.bool true) ∧ StBlk W (w.heap.size + 1 + 1) S B L (.slice rp S rc) true ∧ Keeps (fun x => x = w.heap.size + 1 + 1) w5 W := ⟨_, rfl, put5_st HZ5.out S B L (.slice rp S rc) true, put5_keeps _ _ _ _ _ _ _⟩
      unfold put5 at hW
      rw [← hW]
      obtain ⟨v0, v1, v2, v3, v4⟩ := hst.at_
      clear hW
      refine bodyPost_ret (v := .tuple #[sAgg S B L (.slice rp S rc) true, .bool true]) ?_ rfl ?_
      · simp [results, Try.results31, go_sem, sAgg, v0, v1, v2, v3, v4]
      · rw [HPOST.out]
        exact step_end2 HK5.out (HPL5.out.more (Nat.le_succ _)) rfl ⟨_, HZ5.out⟩ (by omega) HPL.out.below.size hkw

set_option maxHeartbeats 1600000 in
set_option maxRecDepth 100000 in
theorem step_none (w0 w : World) (b : Nat) (β : BI) (s : BS) (S B L j : Nat) (rv : Value) (F : Nat → Int) (k bl t : Int) (ao : Option Addr) (n cap : Nat) (hpl : Pl w0 w b β s S B L j rv F) (h1 : k ≠ 1) (h2 : k ≠ 2) :
    Calls Try.prog 31 #[.pointer (some ⟨b, 0, none⟩), sAgg S B L rv s.over, .agg #[.int .i64 k, .int .i64 bl, .int .i64 t, .slice ao n cap]] w (StepPost w0 w b β S B L j) := by
  obtain ⟨POST, hPOST⟩ : ∃ POST, POST = StepPost w0 w b β S B L j := ⟨_, rfl⟩
  rw [← hPOST]
  have HPOST := Lib.hid hPOST
  have HPL := Lib.hid hpl
  obtain ⟨rp, rc, rfl, _, _⟩ := own_slice hpl.row
  obtain ⟨ov, hov⟩ : ∃ ov, ov = s.over := ⟨_, rfl⟩
  rw [← hov]
  have HOV := Lib.hid hov
  clear hPOST hpl hov
  unfold sAgg
  go_enter Try.func31, Try.ntmps31
  go_wp2_with fail
  obtain ⟨W, hW⟩ : ∃ W, W = (((w.alloc (.cells #[.int .i64 S, .int .i64 B, .int .i64 L, .slice rp S rc, .bool ov] 65)).alloc (.cells #[.int .i64 k, .int .i64 bl, .int .i64 t, .slice ao n cap] 48)).alloc (.cells #[.int .i64 S, .int .i64 B, .int .i64 L, .slice rp S rc, .bool ov] 65)) := ⟨_, rfl⟩
  have hbw : Below w.heap.size w W := by rw [hW]; exact (((Below.refl _ _).alloc (Nat.le_refl _) _).alloc (by simp) _).alloc (by simp; omega) _
  have hst : StBlk W (w.heap.size + 1 + 1) S B L (.slice rp S rc) ov := by
    rw [hW]
    have := heap_alloc_new ((w.alloc (.cells #[.int .i64 S, .int .i64 B, .int .i64 L, .slice rp S rc, .bool ov] 65)).alloc (.cells #[.int .i64 k, .int .i64 bl, .int .i64 t, .slice ao n cap] 48)) (.cells #[.int .i64 S, .int .i64 B, .int .i64 L, .slice rp S rc, .bool ov] 65)
    rwa [show ((w.alloc (.cells #[.int .i64 S, .int .i64 B, .int .i64 L, .slice rp S rc, .bool ov] 65)).alloc (.cells #[.int .i64 k, .int .i64 bl, .int .i64 t, .slice ao n cap] 48)).heap.size = w.heap.size + 1 + 1 by simp] at this
  rw [← hW]
  obtain ⟨v0, v1, v2, v3, v4⟩ := hst.at_
  clear hW
  refine bodyPost_ret (v := .tuple #[sAgg S B L (.slice rp S rc) ov, .bool true]) ?_ rfl ?_
  · simp [results, Try.results31, go_sem, sAgg, v0, v1, v2, v3, v4]
  · rw [HPOST.out]
    exact ⟨β, s, _, F, by rw [HOV.out], (HPL.out.quiet hbw).more (Nat.le_succ _), Keeps.of_below hbw⟩

/-- One call of both. -/
theorem step_any (w0 w : World) (b : Nat) (β : BI) (s : BS) (S B L j : Nat) (rv : Value) (F : Nat → Int) (k bl t : Int) (ao : Option Addr) (n cap : Nat) (tb : List Int) (hpl : Pl w0 w b β s S B L j rv F) (hS : S ≤ 400) (hj : j ≤ 60) (htx : TextAt w ao n tb) (ht8 : ∀ x ∈ tb, 0 ≤ x ∧ x ≤ 255) (hn : n ≤ 9223372036854775807) (hap : ∀ ad, ao = some ad → 0 < n → ad.block < w0.heap.size) :
    Calls Try.prog 31 #[.pointer (some ⟨b, 0, none⟩), sAgg S B L rv s.over, .agg #[.int .i64 k, .int .i64 bl, .int .i64 t, .slice ao n cap]] w (StepPost w0 w b β S B L j) := by
  by_cases h1 : k = 1
  · subst h1
    exact step_one w0 w b β s S B L j rv F bl t ao n cap tb hpl hS hj htx ht8 hn hap
  · by_cases h2 : k = 2
    · subst h2
      exact step_two w0 w b β s S B L j rv F bl t ao n cap hpl hS
    · exact step_none w0 w b β s S B L j rv F k bl t ao n cap hpl h1 h2
end Go.Proofs.Ytjklcecakdmbaaa
