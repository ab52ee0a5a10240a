/-
  The law BuildPlays: the reference's Put, where it takes.
-/
import Derived.Test.YtjklcecakdmbaaaP2
namespace Go.Proofs.Ytjklcecakdmbaaa
open Go.RowKit

/-- The bytes behind a Put. -/
def newF (S B b : Nat) (tb : List Int) (F : Nat → Int) (x : Nat) : Int := if b * B ≤ x ∧ x < min (b * B + B) S then tb.getD (x - b * B) 0 else F x
def RefOk (w : World) (S B L : Nat) (F : Nat → Int) (ov : Bool) (e : Ending) (w' : World) : Prop :=
  ∃ rv, e = .returned (.tuple #[sAgg S B L rv ov, .int .i64 0]) ∧ w'.ownsRow w.heap.size 3 1 rv S (nrow S F) ∧ Below w.heap.size w w'
theorem ref_code0 {S B : Nat} {ov : Bool} {F : Nat → Int} {b : Int} {n : Nat} {t : Int} (hc : refCode S B ov F b n t = 0) :
    ov = false ∧ ∃ b' : Nat, b = b' ∧ b' < nblk S B ∧ 0 ≤ t ∧ t ≤ 1099511627776 ∧ n = min (b' * B + B) S - b' * B ∧ F (b' * B) < 0 := by
  unfold refCode at hc
  split at hc
  · cases hc
  split at hc
  · cases hc
  split at hc
  · cases hc
  split at hc
  · cases hc
  rename_i h1 h2 h3 h4
  obtain ⟨b', rfl⟩ : ∃ b' : Nat, b = b' := ⟨b.toNat, by omega⟩
  rw [Int.toNat_natCast] at h3 h4
  rw [Nat.add_mul, Nat.one_mul] at h3
  exact ⟨by simpa using h1, b', rfl, by omega, by omega, by omega, by omega, by omega⟩
theorem text_form {w : World} {ao : Option Addr} {n : Nat} {tb : List Int} (h : TextAt w ao n tb) (h0 : 0 < n) : ∃ tg toff, ao = some ⟨tg, toff, none⟩ ∧ tg < w.heap.size ∧ ∀ j, j < n → w.cell? ⟨tg, toff + j, none⟩ = some (.int .u8 (tb.getD j 0)) := by
  cases ao with
  | none => have := h.nil rfl; omega
  | some ad =>
    obtain ⟨tg, toff, sp⟩ := ad
    have hget : ∀ j, j < n → tb[j]? = some (tb.getD j 0) := fun j hj => by
      have hl : j < tb.length := by rw [h.len]; exact hj
      rw [List.getD_eq_getElem?_getD, List.getElem?_eq_getElem hl]; rfl
    have h1 := h.cells _ rfl 0 _ (hget 0 h0)
    have h2 := cell_lt h1
    have hsp : sp = none := by simpa [Addr.add] using h2.2
    subst hsp
    refine ⟨tg, toff, rfl, by simpa [Addr.add] using h2.1, fun j hj => ?_⟩
    have h3 := h.cells _ rfl j _ (hget j hj)
    have hadd : (⟨tg, toff, none⟩ : Addr).add j = ⟨tg, toff + j, none⟩ := by
      unfold Addr.add; split
      · subst j; rfl
      · rfl
    rwa [hadd] at h3

set_option maxHeartbeats 1600000 in
set_option maxRecDepth 100000 in
theorem refPut_ok (S B L : Nat) (rv : Value) (F : Nat → Int) (b : Nat) (t : Int) (ao : Option Addr) (n cap : Nat) (tb : List Int) (w : World) (hS : S ≤ 400) (hB1 : 1 ≤ B) (hB2 : B ≤ 64) (hrow : w.ownsRow 0 3 1 rv S (nrow S F)) (htx : TextAt w ao n tb) (ht8 : ∀ x ∈ tb, 0 ≤ x ∧ x ≤ 255)
    (hbn : b < nblk S B) (ht1 : 0 ≤ t) (ht2 : t ≤ 1099511627776) (hnn : n = min (b * B + B) S - b * B) (hF : F (b * B) < 0) :
    Calls Try.prog 60 #[sAgg S B L rv false, .int .i64 b, .slice ao n cap, .int .i64 t] w (RefOk w S B L (newF S B b tb F) false) := by
  obtain ⟨POST, hPOST⟩ : ∃ POST, POST = RefOk w S B L (newF S B b tb F) false := ⟨_, rfl⟩
  rw [← hPOST]
  have HPOST := Lib.hid hPOST
  have HROW := Lib.hid hrow
  have HBL := Lib.hid (fun w' => refBlocks_any S B w' (by omega) hB1 hB2)
  clear hPOST hrow
  obtain ⟨hbS, hb16⟩ := from_lt hS hB1 hbn
  obtain ⟨g, gc, rfl, hg1, hg2, _, hg3, hgx⟩ := row_form HROW.out (by omega)
  have hn0 : 0 < n := by omega
  obtain ⟨tg, toff, rfl, htg, htx'⟩ := text_form htx hn0
  have HTX := Lib.hid htx'
  have HTB := Lib.hid (show ∀ j, j < n → 0 ≤ tb.getD j 0 ∧ tb.getD j 0 ≤ 255 from fun j hj => by
    have hl : j < tb.length := by rw [htx.len]; exact hj
    rw [List.getD_eq_getElem?_getD, List.getElem?_eq_getElem hl]
    exact ht8 _ (List.getElem_mem hl))
  have HGX := Lib.hid hgx
  simp only [maxLen] at hg2
  obtain ⟨m, hm⟩ : ∃ m, m = b * B := ⟨_, rfl⟩
  have HNF := Lib.hid (show ∀ x, newF S B b tb F x = if m ≤ x ∧ x < min (m + B) S then tb.getD (x - m) 0 else F x from fun x => by unfold newF; rw [hm])
  have k0 := hgx m (by rw [hm]; exact hbS)
  obtain ⟨fm, hfm⟩ : ∃ fm, fm = F m := ⟨_, rfl⟩
  rw [← hfm] at k0
  rw [← hm] at hnn hF hbS
  rw [← hfm] at hF
  have hw1 : IntKind.i64.wrap ((b : Int) * (B : Int)) = (m : Int) := by rw [IntKind.wrap_i64, ← Int.natCast_mul, hm]; omega
  have hmm : (b : Int) * (B : Int) = (m : Int) := by rw [hm, Int.natCast_mul]
  obtain ⟨T, hT⟩ : ∃ T, T = m + B := ⟨_, rfl⟩
  have HT := Lib.hid hT
  have hT1 : m < T ∧ T ≤ 1000 := by omega
  have hw2 : IntKind.i64.wrap ((m : Int) + (B : Int)) = (T : Int) := by rw [IntKind.wrap_i64, hT]; omega
  have hmB : (m : Int) + (B : Int) = (T : Int) := by rw [hT]; omega
  obtain ⟨N, hN⟩ : ∃ N, N = nblk S B := ⟨_, rfl⟩
  rw [← hN] at HBL hbn
  obtain ⟨E, hE⟩ : ∃ E, E = min T S := ⟨_, rfl⟩
  have HNF2 := Lib.hid (show ∀ x, newF S B b tb F x = if m ≤ x ∧ x < E then tb.getD (x - m) 0 else F x from fun x => by rw [HNF.out x, hE, hT])
  have hEm : m < E ∧ E ≤ S := by omega
  have hnE : n = E - m := by rw [hnn, hE, hT]
  have HE := Lib.hid hE
  have HNE := Lib.hid hnE
  have hnl : (n : Int) = (E : Int) - (m : Int) := by omega
  have hne2 : ((n : Int) != (E : Int) - (m : Int)) = false := by rw [bne_eq_false_iff_eq]; exact hnl
  have hn9 : n ≤ 400 := by omega
  have HNL := Lib.hid hnl
  have hz1 : decide ((b : Int) < 0) = false := by simp
  have hz2 : decide (t < 0) = false := by simpa using ht1
  have hz3 : decide (1099511627776 < t) = false := by simpa using ht2
  have hz4 : decide ((0 : Int) ≤ fm) = false := by simpa using hF
  have hz5 : decide (N ≤ b) = false := by simp; omega
  unfold sAgg
  clear hm hfm hT hN hE hnE hnl hnn HNF htx htx' hgx
  by_cases h6 : S < T
  · obtain rfl : S = E := by rw [HE.out]; omega
    go_enter Try.func60, Try.ntmps60
    go_wp2_with fail
    refine (HBL.out _).mono ?_
    rintro e w' ⟨rfl, rfl⟩
    go_wp2_with fail
    rw [show (w.alloc (.cells #[.int .i64 S, .int .i64 B, .int .i64 L, .slice (some ⟨g, 0, none⟩) S gc, .bool false] 65)).alloc (.cells #[.int .i64 0, .int .i64 0, .int .i64 0, .slice none 0 0, .bool false] 65) = W2 w S B L (.slice (some ⟨g, 0, none⟩) S gc) false from rfl]
    obtain ⟨hst0, hzr0, hbw0, hsz0⟩ := W2_at w S B L (.slice (some ⟨g, 0, none⟩) S gc) false
    obtain ⟨Wd, hWd⟩ : ∃ Wd, Wd = W2 w S B L (.slice (some ⟨g, 0, none⟩) S gc) false := ⟨_, rfl⟩
    rw [← hWd] at hst0 hzr0 hbw0 hsz0 ⊢
    have HST := Lib.hid hst0
    have HZR := Lib.hid hzr0
    have HBW := Lib.hid hbw0
    have HSZ := Lib.hid hsz0
    clear hWd hst0 hzr0 hbw0 hsz0 k0 hz1 hz2 hz3 hz4 hz5 hw1 hmm hw2 hmB hne2
    go_loopg [12, 13] S (fun gk v y wr => ∃ (i : Nat), y = .int .i64 i ∧ gk + i = S ∧ i ≤ S ∧ wr.ownsRow Wd.heap.size 3 1 v i (nrow i (newF S B b tb F)) ∧ Below Wd.heap.size Wd wr)
    case atStart => exact ⟨0, rfl, by omega, by omega, World.ownsRow_nil _ _ _ _, Below.refl _ _⟩
    case round =>
      obtain ⟨i, rfl, hgk, hi, hown, hbel⟩ := hrel
      obtain ⟨p5, c5, rfl, hc5, hp5⟩ := own_slice hown
      have HGK := Lib.hid hgk
      have HOWN := Lib.hid hown
      have HBEL := Lib.hid hbel
      have hst : StBlk wr w.heap.size S B L (.slice (some ⟨g, 0, none⟩) S gc) false := (hbel.block _ (lt_blk HST.out)).trans HST.out
      have hbw : Below w.heap.size w wr := HBW.out.trans (hbel.mono (by have := HSZ.out; omega))
      obtain ⟨c0, c1, c2, c3, c4⟩ := hst.at_
      have HS := Lib.hid hst
      have HBR := Lib.hid hbw
      clear hgk hown hbel hst hp5
      by_cases hlt : i < S
      · obtain ⟨i0, hi0, hi1, hi2, hi3⟩ := info_parts (show (Try.prog.info? 3).map (fun i => (i.zero, i.size, i.bytes)) = some (some (.int .i64 0), 1, 8) by kernel_rfl)
        have HI0 := Lib.hid hi0
        have HI1 := Lib.hid hi1
        have HI2 := Lib.hid hi2
        have HIZ := Lib.hid hi3
        clear hi0 hi1 hi2 hi3
        have ki : wr.cell? ⟨g, i, none⟩ = some (.int .i64 (F i)) := (hbw.cell (p := ⟨g, i, none⟩) hg3).trans (HGX.out i hlt)
        obtain ⟨fi, hfi⟩ : ∃ fi, fi = F i := ⟨_, rfl⟩
        rw [← hfi] at ki
        have HFI := Lib.hid hfi
        clear hfi hbw
        by_cases hin : m ≤ i ∧ i < S
        · obtain ⟨hin1, hin2⟩ := hin
          obtain ⟨J, hJ⟩ : ∃ J, J = i - m := ⟨_, rfl⟩
          have hJn : J < n := by have := HNL.out; omega
          have kt : wr.cell? ⟨tg, toff + J, none⟩ = some (.int .u8 (tb.getD J 0)) := (HBR.out.cell (p := ⟨tg, toff + J, none⟩) htg).trans (HTX.out J hJn)
          have hJi : (i : Int) - (m : Int) = (J : Int) := by omega
          have htv := HTB.out J hJn
          obtain ⟨tv, htv2⟩ : ∃ tv, tv = tb.getD J 0 := ⟨_, rfl⟩
          rw [← htv2] at kt htv
          obtain ⟨htv3, htv4⟩ := htv
          have HV := Lib.hid (show newF S B b tb F i = tv by rw [HNF2.out i, if_pos ⟨hin1, hin2⟩, ← hJ, ← htv2])
          clear hJ htv2
          go_wp2_with ((with_reducible refine wpList_append_ownF _ rfl (.tmp 92) (.tmp 94) 53 rfl Wd.heap.size 3 i0 _ 1 8 Try.underlying53 HI0.out HI1.out HI2.out HIZ.out ?_ (.slice p5 i c5) i (nrow i (newF S B b tb F)) ?_ (HOWN.out.alloc _) ⟨wr.heap.size, 0, none⟩ 1 1 [.int .i64 tv] ?_ rfl (news0 _ _ _) ?_ (by decide) ?_ ?_ ?_ ?_); rfl; rfl; rfl; (intro u hu; simp at hu; rcases hu with rfl; rfl); (simp only [maxLen]; omega); omega; (have := HBEL.out.size; simp; omega); intro lg cap6 w6 ho6 hg6 hf6; have HO6 := Lib.hid ho6; have HG6 := Lib.hid hg6; clear ho6 hg6 hf6)
          go_roundg (S - (i + 1))
          case measure => have := HGK.out; omega
          case rel =>
            refine ⟨i + 1, by go_num, by omega, by omega, ?_, ?_⟩
            · rw [← nrow_snoc, HV.out]; exact HO6.out
            · exact (HBEL.out.alloc HBEL.out.size _).grown HG6.out (by have := HBEL.out.size; simp; omega) (fun k e => (HOWN.out.lt k e).1)
        · have HV := Lib.hid (show newF S B b tb F i = fi by rw [HNF2.out i, if_neg hin, HFI.out])
          by_cases hm1 : m ≤ i
          · exfalso
            omega
          · clear hin
            go_wp2_with ((with_reducible refine wpList_append_ownF _ rfl (.tmp 92) (.tmp 94) 53 rfl Wd.heap.size 3 i0 _ 1 8 Try.underlying53 HI0.out HI1.out HI2.out HIZ.out ?_ (.slice p5 i c5) i (nrow i (newF S B b tb F)) ?_ (HOWN.out.alloc _) ⟨wr.heap.size, 0, none⟩ 1 1 [.int .i64 fi] ?_ rfl (news0 _ _ _) ?_ (by decide) ?_ ?_ ?_ ?_); rfl; rfl; rfl; (intro u hu; simp at hu; rcases hu with rfl; rfl); (simp only [maxLen]; omega); omega; (have := HBEL.out.size; simp; omega); intro lg cap6 w6 ho6 hg6 hf6; have HO6 := Lib.hid ho6; have HG6 := Lib.hid hg6; clear ho6 hg6 hf6)
            go_roundg (S - (i + 1))
            case measure => have := HGK.out; omega
            case rel =>
              refine ⟨i + 1, by go_num, by omega, by omega, ?_, ?_⟩
              · rw [← nrow_snoc, HV.out]; exact HO6.out
              · exact (HBEL.out.alloc HBEL.out.size _).grown HG6.out (by have := HBEL.out.size; simp; omega) (fun k e => (HOWN.out.lt k e).1)
      · obtain rfl : i = S := by omega
        have hzr : StBlk wr (w.heap.size + 1) 0 0 0 (.slice none 0 0) false := (HBEL.out.block _ (lt_blk HZR.out)).trans HZR.out
        obtain ⟨a0, a1, a2, a3, a4⟩ := hzr.at_
        have fa0 := hzr.free 0
        have fa1 := hzr.free 1
        have fa2 := hzr.free 2
        have fa3 := hzr.free 3
        have fa4 := hzr.free 4
        have fb3 := HS.out.free 3
        have HZ2 := Lib.hid hzr
        clear hzr hbw
        go_wp2_with fail
        have hs2 : StBlk (wr.setCell ⟨w.heap.size, 3, none⟩ (.slice p5 i c5)) (w.heap.size + 1) 0 0 0 (.slice none 0 0) false := (heap_setCell_other _ _ _ _ (by simp)).trans HZ2.out
        obtain ⟨W, hW, hst, hbel, hk⟩ := put5_end hs2 (HBR.out.setCell (p := ⟨w.heap.size, 3, none⟩) (Nat.le_refl _) _) (Nat.le_succ _) i B L (.slice p5 i c5) false
        have hown := ownsRow_base (ownsRow_keeps (ownsRow_keeps (S := (· = w.heap.size)) HOWN.out ((Keeps.refl (· = w.heap.size) wr).setCell ⟨w.heap.size, 3, none⟩ (.slice p5 i c5) (fun _ => rfl)) (fun k e h => by have := (HOWN.out.lt k e).1; have := HSZ.out; omega)) hk (fun k e h => by have := (HOWN.out.lt k e).1; have := HSZ.out; omega)) (show w.heap.size ≤ Wd.heap.size by have := HSZ.out; omega)
        obtain ⟨v0, v1, v2, v3, v4⟩ := hst.at_
        unfold put5 at hW
        rw [← hW]
        clear hW hk
        refine bodyPost_ret (v := .tuple #[sAgg i B L (.slice p5 i c5) false, .int .i64 0]) ?_ rfl ?_
        · simp [results, Try.results60, go_sem, sAgg, v0, v1, v2, v3, v4]
        · rw [HPOST.out]
          exact ⟨_, rfl, hown, hbel⟩
  · obtain rfl : T = E := by rw [HE.out]; omega
    go_enter Try.func60, Try.ntmps60
    go_wp2_with fail
    refine (HBL.out _).mono ?_
    rintro e w' ⟨rfl, rfl⟩
    go_wp2_with fail
    rw [show (w.alloc (.cells #[.int .i64 S, .int .i64 B, .int .i64 L, .slice (some ⟨g, 0, none⟩) S gc, .bool false] 65)).alloc (.cells #[.int .i64 0, .int .i64 0, .int .i64 0, .slice none 0 0, .bool false] 65) = W2 w S B L (.slice (some ⟨g, 0, none⟩) S gc) false from rfl]
    obtain ⟨hst0, hzr0, hbw0, hsz0⟩ := W2_at w S B L (.slice (some ⟨g, 0, none⟩) S gc) false
    obtain ⟨Wd, hWd⟩ : ∃ Wd, Wd = W2 w S B L (.slice (some ⟨g, 0, none⟩) S gc) false := ⟨_, rfl⟩
    rw [← hWd] at hst0 hzr0 hbw0 hsz0 ⊢
    have HST := Lib.hid hst0
    have HZR := Lib.hid hzr0
    have HBW := Lib.hid hbw0
    have HSZ := Lib.hid hsz0
    clear hWd hst0 hzr0 hbw0 hsz0 k0 hz1 hz2 hz3 hz4 hz5 hw1 hmm hw2 hmB hne2
    go_loopg [12, 13] S (fun gk v y wr => ∃ (i : Nat), y = .int .i64 i ∧ gk + i = S ∧ i ≤ S ∧ wr.ownsRow Wd.heap.size 3 1 v i (nrow i (newF S B b tb F)) ∧ Below Wd.heap.size Wd wr)
    case atStart => exact ⟨0, rfl, by omega, by omega, World.ownsRow_nil _ _ _ _, Below.refl _ _⟩
    case round =>
      obtain ⟨i, rfl, hgk, hi, hown, hbel⟩ := hrel
      obtain ⟨p5, c5, rfl, hc5, hp5⟩ := own_slice hown
      have HGK := Lib.hid hgk
      have HOWN := Lib.hid hown
      have HBEL := Lib.hid hbel
      have hst : StBlk wr w.heap.size S B L (.slice (some ⟨g, 0, none⟩) S gc) false := (hbel.block _ (lt_blk HST.out)).trans HST.out
      have hbw : Below w.heap.size w wr := HBW.out.trans (hbel.mono (by have := HSZ.out; omega))
      obtain ⟨c0, c1, c2, c3, c4⟩ := hst.at_
      have HS := Lib.hid hst
      have HBR := Lib.hid hbw
      clear hgk hown hbel hst hp5
      by_cases hlt : i < S
      · obtain ⟨i0, hi0, hi1, hi2, hi3⟩ := info_parts (show (Try.prog.info? 3).map (fun i => (i.zero, i.size, i.bytes)) = some (some (.int .i64 0), 1, 8) by kernel_rfl)
        have HI0 := Lib.hid hi0
        have HI1 := Lib.hid hi1
        have HI2 := Lib.hid hi2
        have HIZ := Lib.hid hi3
        clear hi0 hi1 hi2 hi3
        have ki : wr.cell? ⟨g, i, none⟩ = some (.int .i64 (F i)) := (hbw.cell (p := ⟨g, i, none⟩) hg3).trans (HGX.out i hlt)
        obtain ⟨fi, hfi⟩ : ∃ fi, fi = F i := ⟨_, rfl⟩
        rw [← hfi] at ki
        have HFI := Lib.hid hfi
        clear hfi hbw
        by_cases hin : m ≤ i ∧ i < T
        · obtain ⟨hin1, hin2⟩ := hin
          obtain ⟨J, hJ⟩ : ∃ J, J = i - m := ⟨_, rfl⟩
          have hJn : J < n := by have := HNL.out; omega
          have kt : wr.cell? ⟨tg, toff + J, none⟩ = some (.int .u8 (tb.getD J 0)) := (HBR.out.cell (p := ⟨tg, toff + J, none⟩) htg).trans (HTX.out J hJn)
          have hJi : (i : Int) - (m : Int) = (J : Int) := by omega
          have htv := HTB.out J hJn
          obtain ⟨tv, htv2⟩ : ∃ tv, tv = tb.getD J 0 := ⟨_, rfl⟩
          rw [← htv2] at kt htv
          obtain ⟨htv3, htv4⟩ := htv
          have HV := Lib.hid (show newF S B b tb F i = tv by rw [HNF2.out i, if_pos ⟨hin1, hin2⟩, ← hJ, ← htv2])
          clear hJ htv2
          go_wp2_with ((with_reducible refine wpList_append_ownF _ rfl (.tmp 92) (.tmp 94) 53 rfl Wd.heap.size 3 i0 _ 1 8 Try.underlying53 HI0.out HI1.out HI2.out HIZ.out ?_ (.slice p5 i c5) i (nrow i (newF S B b tb F)) ?_ (HOWN.out.alloc _) ⟨wr.heap.size, 0, none⟩ 1 1 [.int .i64 tv] ?_ rfl (news0 _ _ _) ?_ (by decide) ?_ ?_ ?_ ?_); rfl; rfl; rfl; (intro u hu; simp at hu; rcases hu with rfl; rfl); (simp only [maxLen]; omega); omega; (have := HBEL.out.size; simp; omega); intro lg cap6 w6 ho6 hg6 hf6; have HO6 := Lib.hid ho6; have HG6 := Lib.hid hg6; clear ho6 hg6 hf6)
          go_roundg (S - (i + 1))
          case measure => have := HGK.out; omega
          case rel =>
            refine ⟨i + 1, by go_num, by omega, by omega, ?_, ?_⟩
            · rw [← nrow_snoc, HV.out]; exact HO6.out
            · exact (HBEL.out.alloc HBEL.out.size _).grown HG6.out (by have := HBEL.out.size; simp; omega) (fun k e => (HOWN.out.lt k e).1)
        · have HV := Lib.hid (show newF S B b tb F i = fi by rw [HNF2.out i, if_neg hin, HFI.out])
          by_cases hm1 : m ≤ i
          · have hm2 : ¬ i < T := fun h => hin ⟨hm1, h⟩
            clear hin
            go_wp2_with ((with_reducible refine wpList_append_ownF _ rfl (.tmp 92) (.tmp 94) 53 rfl Wd.heap.size 3 i0 _ 1 8 Try.underlying53 HI0.out HI1.out HI2.out HIZ.out ?_ (.slice p5 i c5) i (nrow i (newF S B b tb F)) ?_ (HOWN.out.alloc _) ⟨wr.heap.size, 0, none⟩ 1 1 [.int .i64 fi] ?_ rfl (news0 _ _ _) ?_ (by decide) ?_ ?_ ?_ ?_); rfl; rfl; rfl; (intro u hu; simp at hu; rcases hu with rfl; rfl); (simp only [maxLen]; omega); omega; (have := HBEL.out.size; simp; omega); intro lg cap6 w6 ho6 hg6 hf6; have HO6 := Lib.hid ho6; have HG6 := Lib.hid hg6; clear ho6 hg6 hf6)
            go_roundg (S - (i + 1))
            case measure => have := HGK.out; omega
            case rel =>
              refine ⟨i + 1, by go_num, by omega, by omega, ?_, ?_⟩
              · rw [← nrow_snoc, HV.out]; exact HO6.out
              · exact (HBEL.out.alloc HBEL.out.size _).grown HG6.out (by have := HBEL.out.size; simp; omega) (fun k e => (HOWN.out.lt k e).1)
          · clear hin
            go_wp2_with ((with_reducible refine wpList_append_ownF _ rfl (.tmp 92) (.tmp 94) 53 rfl Wd.heap.size 3 i0 _ 1 8 Try.underlying53 HI0.out HI1.out HI2.out HIZ.out ?_ (.slice p5 i c5) i (nrow i (newF S B b tb F)) ?_ (HOWN.out.alloc _) ⟨wr.heap.size, 0, none⟩ 1 1 [.int .i64 fi] ?_ rfl (news0 _ _ _) ?_ (by decide) ?_ ?_ ?_ ?_); rfl; rfl; rfl; (intro u hu; simp at hu; rcases hu with rfl; rfl); (simp only [maxLen]; omega); omega; (have := HBEL.out.size; simp; omega); intro lg cap6 w6 ho6 hg6 hf6; have HO6 := Lib.hid ho6; have HG6 := Lib.hid hg6; clear ho6 hg6 hf6)
            go_roundg (S - (i + 1))
            case measure => have := HGK.out; omega
            case rel =>
              refine ⟨i + 1, by go_num, by omega, by omega, ?_, ?_⟩
              · rw [← nrow_snoc, HV.out]; exact HO6.out
              · exact (HBEL.out.alloc HBEL.out.size _).grown HG6.out (by have := HBEL.out.size; simp; omega) (fun k e => (HOWN.out.lt k e).1)
      · obtain rfl : i = S := by omega
        have hzr : StBlk wr (w.heap.size + 1) 0 0 0 (.slice none 0 0) false := (HBEL.out.block _ (lt_blk HZR.out)).trans HZR.out
        obtain ⟨a0, a1, a2, a3, a4⟩ := hzr.at_
        have fa0 := hzr.free 0
        have fa1 := hzr.free 1
        have fa2 := hzr.free 2
        have fa3 := hzr.free 3
        have fa4 := hzr.free 4
        have fb3 := HS.out.free 3
        have HZ2 := Lib.hid hzr
        clear hzr hbw
        go_wp2_with fail
        have hs2 : StBlk (wr.setCell ⟨w.heap.size, 3, none⟩ (.slice p5 i c5)) (w.heap.size + 1) 0 0 0 (.slice none 0 0) false := (heap_setCell_other _ _ _ _ (by simp)).trans HZ2.out
        obtain ⟨W, hW, hst, hbel, hk⟩ := put5_end hs2 (HBR.out.setCell (p := ⟨w.heap.size, 3, none⟩) (Nat.le_refl _) _) (Nat.le_succ _) i B L (.slice p5 i c5) false
        have hown := ownsRow_base (ownsRow_keeps (ownsRow_keeps (S := (· = w.heap.size)) HOWN.out ((Keeps.refl (· = w.heap.size) wr).setCell ⟨w.heap.size, 3, none⟩ (.slice p5 i c5) (fun _ => rfl)) (fun k e h => by have := (HOWN.out.lt k e).1; have := HSZ.out; omega)) hk (fun k e h => by have := (HOWN.out.lt k e).1; have := HSZ.out; omega)) (show w.heap.size ≤ Wd.heap.size by have := HSZ.out; omega)
        obtain ⟨v0, v1, v2, v3, v4⟩ := hst.at_
        unfold put5 at hW
        rw [← hW]
        clear hW hk
        refine bodyPost_ret (v := .tuple #[sAgg i B L (.slice p5 i c5) false, .int .i64 0]) ?_ rfl ?_
        · simp [results, Try.results60, go_sem, sAgg, v0, v1, v2, v3, v4]
        · rw [HPOST.out]
          exact ⟨_, rfl, hown, hbel⟩
end Go.Proofs.Ytjklcecakdmbaaa
