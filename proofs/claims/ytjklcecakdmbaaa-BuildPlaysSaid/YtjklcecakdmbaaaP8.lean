/-
  The law BuildPlays: do both tell the same?
-/
import Derived.Test.YtjklcecakdmbaaaP6
namespace Go.Proofs.Ytjklcecakdmbaaa
open Go.RowKit

/-- A build's bytes, one by one. -/
theorem text_at {w : World} {base S : Nat} {v : Value} {T : List Int} (h : w.ownsRow base 5 1 v S (T.map (Value.int .u8))) (hT : T.length = S) : ∃ p c, v = .slice p S c ∧ S ≤ c ∧ (0 < S → ∃ g, p = some ⟨g, 0, none⟩ ∧ ∀ x, x < S → w.cell? ⟨g, x, none⟩ = some (.int .u8 (T.getD x 0))) := by
  obtain ⟨p, c, rfl, hc, hp⟩ := own_slice h
  refine ⟨p, c, rfl, hc, fun h0 => ?_⟩
  obtain ⟨g, rfl⟩ := hp h0
  refine ⟨g, rfl, fun x hx => ?_⟩
  obtain ⟨tail, hg, _⟩ := ownsRow_open (ownsRow_base h (Nat.zero_le _))
  rw [cell_blk hg, List.getElem?_toArray, List.getElem?_append_left (by rw [List.length_map, hT]; exact hx), List.getElem?_map, List.getD_eq_getElem?_getD, List.getElem?_eq_getElem (by rw [hT]; exact hx)]
  rfl
theorem pref_zero (S : Nat) (F : Nat → Int) : PrefIs S F 0 S := .inl ⟨rfl, fun y hy => by omega⟩
theorem pref_pos {S i p : Nat} {F : Nat → Int} (h : PrefIs S F i p) (hF : 0 ≤ F i) : PrefIs S F (i + 1) p := by
  rcases h with ⟨rfl, h⟩ | ⟨h1, h2, h3⟩
  · exact .inl ⟨rfl, fun y hy => by
      rcases Nat.lt_or_eq_of_le (show y ≤ i by omega) with e | rfl
      · exact h y e
      · exact hF⟩
  · exact .inr ⟨by omega, h2, h3⟩
theorem pref_neg {S i p : Nat} {F : Nat → Int} (h : PrefIs S F i p) (hi : i < S) (hF : F i < 0) : PrefIs S F (i + 1) (min p i) := by
  rcases h with ⟨rfl, h⟩ | ⟨h1, h2, h3⟩
  · rw [Nat.min_eq_right (by omega)]
    exact .inr ⟨by omega, hF, h⟩
  · rw [Nat.min_eq_left (by omega)]
    exact .inr ⟨by omega, h2, h3⟩
theorem pref_le {S i p : Nat} {F : Nat → Int} (h : PrefIs S F i p) (hi : i ≤ S) : p ≤ S := by
  rcases h with ⟨rfl, _⟩ | ⟨h1, _⟩ <;> omega

set_option maxHeartbeats 1600000 in
set_option maxRecDepth 100000 in
theorem same_any (w0 w : World) (b : Nat) (β : BI) (s : BS) (S B L j : Nat) (rv : Value) (F : Nat → Int) (k : Int) (hpl : Pl w0 w b β s S B L j rv F) (hS : S ≤ 400) :
    Calls Try.prog 32 #[.pointer (some ⟨b, 0, none⟩), sAgg S B L rv s.over, .int .i64 k] w fun e w' => e = .returned (.bool true) ∧ Below w.heap.size w w' := by
  obtain ⟨POST, hPOST⟩ : ∃ POST : Ending → World → Prop, POST = fun e w' => e = .returned (.bool true) ∧ Below w.heap.size w w' := ⟨_, rfl⟩
  rw [← hPOST]
  have HPOST := Lib.hid hPOST
  have HPL := Lib.hid hpl
  have hB1 : 1 ≤ B := by rw [← hpl.B]; exact hpl.at_.plan.b.1
  have hB2 : B ≤ 64 := by rw [← hpl.B]; exact hpl.at_.plan.b.2
  have hL1 : 1 ≤ L := by rw [← hpl.L]; exact hpl.at_.plan.l.1
  have hL2 : L ≤ 8 := by rw [← hpl.L]; exact hpl.at_.plan.l.2
  obtain ⟨rp, rc, rfl, hrc, hrp⟩ := own_slice hpl.row
  have hrcm : rc ≤ maxLen := by
    rcases Nat.eq_zero_or_pos S with h0 | h0
    · rcases hpl.row.2 with ⟨e, _⟩ | ⟨g, cap, cur, e, _, _, _, h, _⟩
      · cases e; exact Nat.zero_le _
      · cases e; exact h
    · obtain ⟨g, gc, e, _, h, _⟩ := row_form hpl.row h0
      cases e; exact h
  simp only [maxLen] at hrcm
  have HRP := Lib.hid hrp
  obtain ⟨ov, hov⟩ : ∃ ov, ov = s.over := ⟨_, rfl⟩
  rw [← hov]
  obtain ⟨W1, hW1⟩ : ∃ W1, W1 = w.alloc (.cells #[.int .i64 S, .int .i64 B, .int .i64 L, .slice rp S rc, .bool ov] 65) := ⟨_, rfl⟩
  have hst1 : StBlk W1 w.heap.size S B L (.slice rp S rc) ov := by rw [hW1]; exact heap_alloc_new w _
  have hbw1 : Below w.heap.size w W1 := by rw [hW1]; exact (Below.refl _ _).alloc (Nat.le_refl _) _
  have hpl1 := hpl.quiet hbw1
  have HBY := Lib.hid (bytesOf_any β s W1 hpl1.at_)
  rw [hpl.b, hpl.S] at HBY
  have HST1 := Lib.hid hst1
  have HB1 := Lib.hid hbw1
  have HPL1 := Lib.hid hpl1
  have HW1 := Lib.hid hW1
  clear hPOST hpl hrp hov hst1 hbw1 hpl1 hW1
  unfold sAgg
  go_enter Try.func32, Try.ntmps32
  go_wp2_with fail
  rw [← HW1.out]
  refine HBY.out.mono ?_
  rintro e w2 ⟨tv, rfl, htown, hbel2⟩
  obtain ⟨tp, tc, rfl, htc, htp⟩ := text_at htown (HPL.out.tie.len.trans HPL.out.S)
  have hpl2 := HPL1.out.quiet hbel2
  have hst2 : StBlk w2 w.heap.size S B L (.slice rp S rc) ov := (hbel2.block _ (lt_blk HST1.out)).trans HST1.out
  obtain ⟨c0, c1, c2, c3, c4⟩ := hst2.at_
  have HPL2 := Lib.hid hpl2
  have HST2 := Lib.hid hst2
  have HTP := Lib.hid htp
  have HB2 := Lib.hid (HB1.out.trans (hbel2.mono (show w.heap.size ≤ W1.heap.size from HB1.out.size)))
  have hne : ((S : Int) != (S : Int)) = false := by simp
  clear htown hbel2 htp hpl2 hst2
  have HRL := Lib.hid (refLacking_any S B L (.slice rp S rc) ov F k w2 hS hB1 hB2 hL1 hL2 HPL2.out.row)
  unfold sAgg at HRL
  go_wp2_with fail
  go_loopg [8, 24] S (fun gk y z wr => ∃ (i p : Nat), z = .int .i64 i ∧ y = .int .i64 p ∧ gk + i = S ∧ i ≤ S ∧ PrefIs S F i p ∧ w2 = wr)
  case atStart => exact ⟨0, S, rfl, rfl, by omega, by omega, pref_zero S F, rfl⟩
  case round =>
    obtain ⟨i, p, rfl, rfl, hgk, hi, hpi, rfl⟩ := hrel
    have HGK := Lib.hid hgk
    have HPI := Lib.hid hpi
    have hpS := pref_le hpi hi
    clear hgk hpi
    by_cases hlt : i < S
    · obtain ⟨g, gc, hge, _, _, _, hg3, hgx⟩ := row_form HPL2.out.row (by omega)
      cases hge
      obtain ⟨tg, rfl, htx⟩ := HTP.out (by omega)
      have ki := hgx i hlt
      have kt := htx i hlt
      have hmax := HPL.out.tie.max (x := i) (by rw [HPL.out.S]; exact hlt)
      have hbyte := (tget HPL.out.tie.byte i).2
      rw [hmax] at kt hbyte
      obtain ⟨fi, hfi⟩ : ∃ fi, fi = F i := ⟨_, rfl⟩
      rw [← hfi] at ki kt hbyte
      have HFI := Lib.hid hfi
      clear hgx htx hmax hfi
      by_cases hneg : fi < 0
      · have hm0 : max fi 0 = 0 := by omega
        rw [hm0] at kt
        clear hbyte
        go_wp2_with fail
        go_roundg (S - (i + 1))
        case measure => have := HGK.out; omega
        case rel => exact ⟨i + 1, min p i, by go_num, by show Value.int .i64 (min (p : Int) i) = Value.int .i64 ((min p i : Nat) : Int); congr 1; omega, by omega, by omega, pref_neg HPI.out hlt (by rw [← HFI.out]; exact hneg), rfl⟩
      · have hm0 : max fi 0 = fi := by omega
        rw [hm0] at kt hbyte
        have h0 : 0 ≤ fi := by omega
        clear hneg
        go_wp2_with fail
        go_roundg (S - (i + 1))
        case measure => have := HGK.out; omega
        case rel => exact ⟨i + 1, p, by go_num, rfl, by omega, by omega, pref_pos HPI.out (by rw [← HFI.out]; exact h0), rfl⟩
    · obtain rfl : i = S := by omega
      go_wp2_with fail
      refine HRL.out.mono ?_
      rintro e w3 ⟨l, lv, rfl, hl, hlown, hb3⟩
      have hpl3 := HPL2.out.quiet hb3
      have HPF := Lib.hid (show Calls Try.prog 28 #[.pointer (some ⟨β.b, 0, none⟩)] w3 fun e w' => e = .returned (.int .i64 p) ∧ Below w3.heap.size w3 w' from (prefix_any β s w3 hpl3.at_).mono fun e w' h => by
        obtain ⟨m, hm, rfl, hb⟩ := h
        have h9 := HPL.out.tie.pref (by rw [HPL.out.S]; exact hS) (by rw [HPL.out.B]; exact hB1) (by rw [HPL.out.L]; exact hL1) (by rw [HPL.out.L]; exact hL2) hm (p := p) (by rw [HPL.out.S]; exact HPI.out)
        cases m with
        | nil => exact ⟨by rw [← h9]; rfl, hb⟩
        | cons x r => exact ⟨by rw [← h9]; rfl, hb⟩)
      rw [HPL.out.b] at HPF
      have HPL3 := Lib.hid hpl3
      have HL := Lib.hid hl
      have HLO := Lib.hid hlown
      have HB3 := Lib.hid hb3
      clear hl hlown hb3 hpl3
      go_wp2_with fail
      refine HPF.out.mono ?_
      rintro e w4 ⟨rfl, hb4⟩
      have hpl4 := HPL3.out.quiet hb4
      have HLA := Lib.hid (lacking_any β s k w4 hpl4.at_)
      rw [HPL.out.b] at HLA
      have HPL4 := Lib.hid hpl4
      have HLO4 := Lib.hid (own_below HLO.out hb4)
      have HB4 := Lib.hid hb4
      clear hpl4 hb4
      go_wp2_with fail
      refine HLA.out.mono ?_
      rintro e w5 ⟨m5, mv, rfl, hm5, hmown, hb5⟩
      have hpl5 := HPL4.out.quiet hb5
      have heq : m5.map (spanOf s) = l := HPL.out.tie.lack (by rw [HPL.out.S]; exact hS) (by rw [HPL.out.B]; exact hB1) hm5 (by rw [HPL.out.S, HPL.out.B, HPL.out.L]; exact HL.out)
      have hlen5 : l.length = m5.length := by rw [← heq]; simp
      have hl16 := HL.out.wf.len
      have HPA := Lib.hid (pairs_eq mv lv (m5.map (spanOf s)) l w5 heq (ownsRow_base (by rw [List.length_map]; exact hmown) (Nat.zero_le _)) (ownsRow_base (own_below HLO4.out hb5) (Nat.zero_le _)) (by rw [heq]; omega))
      obtain ⟨lp, lc, rfl, hlc, _⟩ := own_slice HLO.out
      have HPL5 := Lib.hid hpl5
      have HB5 := Lib.hid hb5
      have HLEN5 := Lib.hid hlen5
      clear hm5 hmown hb5 heq hpl5 hlen5
      go_wp2_with fail
      refine HPA.out.mono ?_
      rintro e w6 ⟨rfl, hb6⟩
      have hpl6 := HPL5.out.quiet hb6
      have HCO := Lib.hid (complete_any β s k w6 hpl6.at_)
      rw [HPL.out.b] at HCO
      have HB6 := Lib.hid hb6
      clear hb6 hpl6
      go_wp2_with fail
      refine HCO.out.mono ?_
      rintro e w7 ⟨m7, hm7, rfl, hb7⟩
      have heq7 : l.length = m7.length := by
        have h9 : m7.map (spanOf s) = l := HPL.out.tie.lack (by rw [HPL.out.S]; exact hS) (by rw [HPL.out.B]; exact hB1) hm7 (by rw [HPL.out.S, HPL.out.B, HPL.out.L]; exact HL.out)
        rw [← h9]; simp
      rw [← heq7]
      have hp : POST (.returned (.bool true)) w7 := by
        rw [HPOST.out]
        have h3 := HB2.out.trans (HB3.out.mono HB2.out.size)
        have h4 := h3.trans (HB4.out.mono h3.size)
        have h5 := h4.trans (HB5.out.mono h4.size)
        have h6 := h5.trans (HB6.out.mono h5.size)
        exact ⟨rfl, h6.trans (hb7.mono h6.size)⟩
      have HP := Lib.hid hp
      clear hp hm7 heq7 hb7 HLO HLO4 HL HLEN5 HPA HLA HCO
      obtain ⟨LEN, hLEN⟩ : ∃ LEN, LEN = l.length := ⟨_, rfl⟩
      rw [← hLEN] at hl16 hlc ⊢
      clear hLEN
      rcases Nat.eq_zero_or_pos LEN with rfl | hpos
      · have hd : decide (0 = 0) = true := rfl
        rw [hd]
        clear hd
        go_wp2_with fail
        exact HP.out
      · have hd : decide (LEN = 0) = false := by simp; omega
        have he : ((LEN : Int) == 0) = false := by rw [beq_eq_false_iff_ne]; omega
        rw [hd]
        clear hd
        go_wp2_with fail
        exact HP.out
end Go.Proofs.Ytjklcecakdmbaaa
