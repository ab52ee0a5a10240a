/-
  The law BuildPlays: the walk of the law's own function.
-/
import Derived.Test.YtjklcecakdmbaaaP8
import Derived.Test.YtjklcecakdmbaaaP9
namespace Go.Proofs.Ytjklcecakdmbaaa
open Go.RowKit

set_option maxHeartbeats 1600000 in
set_option maxRecDepth 100000 in
theorem plays_yes (S B L : Nat) (k : Int) (p : Option Addr) (n cap : Nat) (ops : List OpD) (w : World) (hops : OpsAt w p ops) (hl : ops.length = n) (hn : n ≤ cap) (hr : rightZ S B L n) :
    Calls Try.prog 7 #[zAgg S B L (.slice p n cap), .int .i64 k] w fun e w' => e = .returned (.bool true) ∧ Below w.heap.size w w' := by
  obtain ⟨POST, hPOST⟩ : ∃ POST : Ending → World → Prop, POST = fun e w' => e = .returned (.bool true) ∧ Below w.heap.size w w' := ⟨_, rfl⟩
  rw [← hPOST]
  have HPOST := Lib.hid hPOST
  have hrp : rightPlan S B L := by unfold rightZ at hr; unfold rightPlan; omega
  have hn60 : n ≤ 60 := hr.2.2.2.2.2.2
  have hS400 : S ≤ 400 := by have := hr.2.1; omega
  have HR := Lib.hid (fun w' => right26_any S B L p n cap w' (by omega))
  have HNEW := Lib.hid (fun w' => new_yes S B L w' hrp)
  have HRN := Lib.hid (fun w' => refNew_any S B L w' hS400)
  have hd : decide (rightZ S B L n) = true := by simp [hr]
  rw [hd] at HR
  have HOPS := Lib.hid hops
  have HL := Lib.hid hl
  have HAW := Lib.hid (fun w' => awake_any w')
  clear hPOST hops hl hd hr hrp
  unfold zAgg at HR ⊢
  go_enter Try.func7, Try.ntmps7
  go_wp2_with fail
  refine (HR.out _).mono ?_
  rintro e w1 ⟨rfl, hb1⟩
  obtain ⟨zb, hzb⟩ : ∃ zb, zb = w.heap.size := ⟨_, rfl⟩
  have hz : w1.heap[zb]? = some (.cells #[.int .i64 S, .int .i64 B, .int .i64 L, .slice p n cap] 41 (0, 0)) := by rw [hzb]; exact (hb1.block _ (by simp)).trans (heap_alloc_new w _)
  have hbw1 : Below w.heap.size w w1 := ((Below.refl _ _).alloc (Nat.le_refl _) _).trans (hb1.mono (by simp))
  rw [← hzb]
  have z0 : w1.cell? ⟨zb, 0, none⟩ = some (.int .i64 S) := by rw [cell_blk hz]; rfl
  have z1 : w1.cell? ⟨zb, 1, none⟩ = some (.int .i64 B) := by rw [cell_blk hz]; rfl
  have z2 : w1.cell? ⟨zb, 2, none⟩ = some (.int .i64 L) := by rw [cell_blk hz]; rfl
  have HZ := Lib.hid hz
  have HZB := Lib.hid hzb
  have HNEW1 := Lib.hid (HNEW.out w1)
  clear hz hzb hb1
  go_wp2_with fail
  refine HNEW1.out.mono ?_
  rintro e w2 ⟨β, rfl, hb2, hbel2, hf2⟩
  obtain ⟨b, hbb⟩ : ∃ b, b = β.b := ⟨_, rfl⟩
  have hz2 := (hbel2.block zb (lt_blk HZ.out)).trans HZ.out
  have y0 : w2.cell? ⟨zb, 0, none⟩ = some (.int .i64 S) := by rw [cell_blk hz2]; rfl
  have y1 : w2.cell? ⟨zb, 1, none⟩ = some (.int .i64 B) := by rw [cell_blk hz2]; rfl
  have y2 : w2.cell? ⟨zb, 2, none⟩ = some (.int .i64 L) := by rw [cell_blk hz2]; rfl
  have HRN2 := Lib.hid (HRN.out w2)
  have HB2 := Lib.hid hb2
  have HBEL2 := Lib.hid hbel2
  have HF2 := Lib.hid hf2
  have HBB := Lib.hid hbb
  have HZ2 := Lib.hid hz2
  rw [← hbb]
  clear hbb hb2 hf2 hbel2 hz2 z0 z1 z2
  go_wp2_with fail
  refine HRN2.out.mono ?_
  rintro e w3 ⟨rv, rfl, hrow3, hbel3⟩
  have hpl3 : Pl w1 w3 b β (BS.init S B L) S B L 0 rv (fun _ => -1) :=
    ⟨HB2.out.below hbel3, ownsRow_base hrow3 (Nat.zero_le _), Tie.init S B L, HF2.out, HBEL2.out.trans (hbel3.mono HBEL2.out.size), HBB.out.symm, rfl, rfl, rfl, Nat.le_refl _⟩
  obtain ⟨rp, rc, rfl, _, _⟩ := own_slice hrow3
  have hz3 := (hbel3.block zb (lt_blk HZ2.out)).trans HZ2.out
  have x3 : w3.cell? ⟨zb, 3, none⟩ = some (.slice p n cap) := by rw [cell_blk hz3]; rfl
  have hzlt := lt_blk hz3
  have HPL3 := Lib.hid hpl3
  have HZ3 := Lib.hid hz3
  clear hrow3 hbel3 hpl3 hz3 y0 y1 y2
  unfold sAgg
  go_wp2_with fail
  obtain ⟨W3, hW3⟩ : ∃ W3, W3 = w3.alloc (.cells #[.int .i64 S, .int .i64 B, .int .i64 L, .slice rp S rc, .bool false] 65) := ⟨_, rfl⟩
  obtain ⟨q7, hq7⟩ : ∃ q7, q7 = w3.heap.size := ⟨_, rfl⟩
  have hst3 : StBlk W3 q7 S B L (.slice rp S rc) false := by rw [hW3, hq7]; exact heap_alloc_new w3 _
  have hplW := HPL3.out.quiet (show Below w3.heap.size w3 W3 by rw [hW3]; exact (Below.refl _ _).alloc (Nat.le_refl _) _)
  have hq7n : w1.heap.size ≤ q7 := by rw [hq7]; exact HPL3.out.below.size
  rw [← hW3, ← hq7]
  have HST3 := Lib.hid hst3
  have HPLW := Lib.hid hplW
  clear hW3 hq7 hst3 hplW x3 hzlt
  go_loopg [41] n (fun gk x wr => ∃ (j : Nat) (β : BI) (s : BS) (rv : Value) (F : Nat → Int), x = .int .i64 j ∧ gk + j = n ∧ j ≤ n ∧ Pl w1 wr b β s S B L j rv F ∧ StBlk wr q7 S B L rv s.over)
  case atStart => exact ⟨0, _, _, _, _, rfl, by omega, by omega, HPLW.out, HST3.out⟩
  case round =>
    obtain ⟨j, β', s', rv', F', rfl, hgk, hj, hpl, hst⟩ := hrel
    obtain ⟨rp, rc, rfl, _, _⟩ := own_slice hpl.row
    have HGK := Lib.hid hgk
    have HPL := Lib.hid hpl
    have HST := Lib.hid hst
    obtain ⟨ov, hov⟩ : ∃ ov, ov = s'.over := ⟨_, rfl⟩
    rw [← hov] at hst
    obtain ⟨c0, c1, c2, c3, c4⟩ := hst.at_
    have HOV := Lib.hid hov
    have hqlt := lt_blk hst
    clear hgk hpl hst hov
    by_cases hlt : j < n
    · obtain ⟨o, ho⟩ : ∃ o, ops[j]? = some o := ⟨_, List.getElem?_eq_getElem (by have := HL.out; omega)⟩
      obtain ⟨a, rfl⟩ : ∃ a, p = some a := by
        cases hp : p with
        | none => have h1 := HOPS.out.nil hp; rw [h1] at ho; cases ho
        | some a => exact ⟨a, rfl⟩
      obtain ⟨h1, h2, h3, h4, h5, h6, h7, h8, h9, _, _, _, h13⟩ := HOPS.out.at_ a rfl j o ho
      obtain ⟨ab, aoff, asp⟩ := a
      simp only at h1 h2 h3 h4 h5 h6
      subst h1
      obtain ⟨ok, ob, ot, oao, on, ocap, otb⟩ := o
      simp only at h3 h4 h5 h6 h7 h8 h9 h13
      have hbr : Below w.heap.size w wr := hbw1.trans (HPL.out.below.mono hbw1.size)
      have k0 := (hbr.cell (p := ⟨ab, aoff + j * 4, none⟩) h2).trans h3
      have k1 := (hbr.cell (p := ⟨ab, aoff + j * 4 + 1, none⟩) h2).trans h4
      have k2 := (hbr.cell (p := ⟨ab, aoff + j * 4 + 2, none⟩) h2).trans h5
      have k3 := (hbr.cell (p := ⟨ab, aoff + j * 4 + 3, none⟩) h2).trans h6
      obtain ⟨OB, hOB⟩ : ∃ OB : Obj, OB = .cells #[.int .i64 ok, .int .i64 ob, .int .i64 ot, .slice oao on ocap] 48 := ⟨_, rfl⟩
      have hqb : Below wr.heap.size wr (wr.alloc OB) := (Below.refl _ _).alloc (Nat.le_refl _) _
      have hplO := HPL.out.quiet hqb
      have HSTEP := Lib.hid (step_any w1 (wr.alloc OB) b β' s' S B L j (.slice rp S rc) F' ok ob ot oao on ocap otb hplO hS400 (by omega) (h7.keeps (T := fun _ => False) (Keeps.of_below (show Below w.heap.size w _ from hbr.alloc hbr.size _)) (fun _ _ e => e)) (fun x hx => by
        have h14 : IntKind.u8.min ≤ x ∧ x ≤ IntKind.u8.max := by simpa [Lit.wf] using h13 x hx
        exact h14) (by simp only [maxLen] at h9; omega) (fun ad e hp => by
        rw [e] at h7
        have h11 := h7.lt hp
        have h12 := hbw1.size
        omega))
      rw [← HOV.out, hOB] at HSTEP
      unfold sAgg at HSTEP
      have HSTO := Lib.hid (show StBlk (wr.alloc OB) q7 S B L (.slice rp S rc) s'.over from (hqb.block q7 hqlt).trans HST.out)
      have HPLO := Lib.hid hplO
      have HOB := Lib.hid hOB
      clear h3 h4 h5 h6 h7 h13 ho hqb hplO hOB
      go_wp2_with fail
      refine HSTEP.out.mono ?_
      rintro e w5 ⟨β5, s5, rv5, F5, rfl, hpl5, hk5⟩
      obtain ⟨rp5, rc5, rfl, _, _⟩ := own_slice hpl5.row
      obtain ⟨ov5, hov5⟩ : ∃ ov5, ov5 = s5.over := ⟨_, rfl⟩
      have hst5 : StBlk w5 q7 S B L (.slice rp S rc) s'.over := step_kept HPLO.out (w' := w5) (by rw [HOB.out]; exact hk5) HSTO.out (by decide)
      obtain ⟨d0, d1, d2, d3, d4⟩ := hst5.at_
      have fd0 := hst5.free 0
      have fd1 := hst5.free 1
      have fd2 := hst5.free 2
      have fd3 := hst5.free 3
      have fd4 := hst5.free 4
      obtain ⟨W5, hW5, hstW, hkW⟩ : ∃ W5, W5 = put5 w5 q7 (.int .i64 S) (.int .i64 B) (.int .i64 L) (.slice rp5 S rc5) (.bool ov5) ∧ StBlk W5 q7 S B L (.slice rp5 S rc5) ov5 ∧ Keeps (fun x => x = q7) w5 W5 := ⟨_, rfl, put5_st hst5 S B L (.slice rp5 S rc5) ov5, put5_keeps _ _ _ _ _ _ _⟩
      have hplW := hpl5.kept hkW (fun kk e => by subst e; exact ⟨hq7n, 65, ⟨_, hst5⟩, .inl rfl⟩)
      have HSAME := Lib.hid (same_any w1 W5 b β5 s5 S B L (j + 1) (.slice rp5 S rc5) F5 k hplW hS400)
      rw [← hov5] at HSAME ⊢
      unfold put5 at hW5
      unfold sAgg at HSAME ⊢
      have HW5 := Lib.hid hW5
      have HSTW := Lib.hid hstW
      have HPLW5 := Lib.hid hplW
      have HOV5 := Lib.hid hov5
      clear hpl5 hk5 hov5 hst5 hW5 hstW hkW hplW c0 c1 c2 c3 c4 k0 k1 k2 k3
      go_wp2_with fail
      rw [← HW5.out]
      refine HSAME.out.mono ?_
      rintro e w6 ⟨rfl, hb6⟩
      go_wp2_with fail
      go_roundg (n - (j + 1))
      case measure => have := HGK.out; omega
      case rel => exact ⟨j + 1, β5, s5, _, F5, by go_num, by omega, by omega, HPLW5.out.quiet hb6, by rw [← HOV5.out]; exact (hb6.block q7 (lt_blk HSTW.out)).trans HSTW.out⟩
    · obtain rfl : j = n := by omega
      have HSAME := Lib.hid (same_any w1 wr b β' s' S B L j (.slice rp S rc) F' k HPL.out hS400)
      rw [← HOV.out] at HSAME
      unfold sAgg at HSAME
      go_wp2_with fail
      refine HSAME.out.mono ?_
      rintro e w6 ⟨rfl, hb6⟩
      have h6 := (hbw1.trans (HPL.out.below.mono hbw1.size)).trans (hb6.mono (hbw1.trans (HPL.out.below.mono hbw1.size)).size)
      have HA := Lib.hid (HAW.out w6)
      go_wp2_with fail
      refine HA.out.mono ?_
      rintro e w8 ⟨rfl, hb8⟩
      have hp : POST (.returned (.bool true)) w8 := by
        rw [HPOST.out]
        exact ⟨rfl, h6.trans (hb8.mono h6.size)⟩
      have HP := Lib.hid hp
      clear hp
      go_wp2_with fail
      exact HP.out
end Go.Proofs.Ytjklcecakdmbaaa
