/-
  Package store: Put.
-/
import Derived.Test.YtjklcecakdmbaaaT7
import Derived.Deep.RegionWith
namespace Go.Proofs.Ytjklcecakdmbaaa
open Go.RowKit

theorem blk_gr {wr w6 : World} {o : Obj} {b : Nat} {ob : Obj} {row : Option Nat} (h : wr.heap[b]? = some ob) (hg : (wr.alloc o).grownBy w6 row) (hn : row ≠ some b) : w6.heap[b]? = some ob :=
  (hg.block b (by have := lt_blk h; simp; omega) (fun e => hn e.symm)).trans ((heap_alloc_old (h := lt_blk h) ..).trans h)
theorem sto_set2 {w : World} {b : Nat} {x0 x1 x2 x3 x4 x5 y : Value} {t : TypeId} (h : w.heap[b]? = some (.cells #[x0, x1, x2, x3, x4, x5] t (0, 0))) : (w.setCell ⟨b, 2, none⟩ y).heap[b]? = some (.cells #[x0, x1, y, x3, x4, x5] t (0, 0)) := by
  rw [heap_setCell_same w b 2 _ t _ h]; rfl
theorem put25_no (σ : SI) (b : Int) (ao : Option Addr) (n cap : Nat) (w : World) (hn : n ≤ 9223372036854775807) (h : ¬ (0 ≤ b ∧ b < 16384 ∧ 1 ≤ n ∧ n ≤ 64)) :
    Calls Try.prog 11 #[.pointer (some ⟨σ.b, 0, none⟩), .int .i64 b, .slice ao n cap] w fun e w' => e = .returned (.tuple #[.int .i64 0, .int .i64 11]) ∧ w = w' := by
  have HM := Lib.hid (may_any b w)
  by_cases h0 : 0 ≤ b ∧ b < 16384
  · rw [show decide (0 ≤ b ∧ b < 16384) = true by simp [h0]] at HM
    by_cases h1 : n = 0
    · subst h1
      clear h h0
      go_enter Try.func11, Try.ntmps11
      go_wp2_with fail
      refine HM.out.mono ?_
      rintro e w' ⟨rfl, rfl⟩
      go_wp2_with fail
      go_ret2
      exact ⟨rfl, rfl⟩
    · have h2 : 64 < n := by omega
      have hz : ((n : Int) == 0) = false := by rw [beq_eq_false_iff_ne]; omega
      clear h h0 h1
      go_enter Try.func11, Try.ntmps11
      go_wp2_with fail
      refine HM.out.mono ?_
      rintro e w' ⟨rfl, rfl⟩
      go_wp2_with fail
      go_ret2
      exact ⟨rfl, rfl⟩
  · rw [show decide (0 ≤ b ∧ b < 16384) = false by simpa using h0] at HM
    clear h h0
    go_enter Try.func11, Try.ntmps11
    go_wp2_with fail
    refine HM.out.mono ?_
    rintro e w' ⟨rfl, rfl⟩
    go_wp2_with fail
    go_ret2
    exact ⟨rfl, rfl⟩

/-- What Put leaves. -/
def Put25 (w : World) (σ : SI) (s : SS) (nb : Nat) (b : Int) (tb : List Int) (e : Ending) (w' : World) : Prop :=
  ∃ σ' : SI, e = .returned (.tuple #[.int .i64 (s.put b tb).2, .int .i64 0]) ∧ StoAt w' σ' (s.put b tb).1 (nb + 1) ∧ Keeps σ.foot w w' ∧ σ'.b = σ.b ∧ σ'.a = σ.a ∧ (∀ k, σ'.foot k → σ.foot k ∨ w.heap.size ≤ k)

set_option maxHeartbeats 1600000 in
set_option maxRecDepth 100000 in
theorem put25_ok (σ : SI) (s : SS) (nb : Nat) (b : Int) (tg toff n cap : Nat) (tb : List Int) (w : World) (h : StoAt w σ s nb) (hi : SInv s) (hnb : nb ≤ 100000) (hb : 0 ≤ b ∧ b < 16384) (hn : 1 ≤ n ∧ n ≤ 64) (hl : tb.length = n) (htg : tg < w.heap.size) (htf : ¬ σ.foot tg)
    (hc : ∀ j v, tb[j]? = some v → w.cell? ⟨tg, toff + j, none⟩ = some (.int .u8 v)) :
    Calls Try.prog 11 #[.pointer (some ⟨σ.b, 0, none⟩), .int .i64 b, .slice (some ⟨tg, toff, none⟩) n cap] w (Put25 w σ s nb b tb) := by
  obtain ⟨POST, hPOST⟩ : ∃ POST, POST = Put25 w σ s nb b tb := ⟨_, rfl⟩
  rw [← hPOST]
  have HPOST := Lib.hid hPOST
  have HM := Lib.hid (may_any b w)
  rw [show decide (0 ≤ b ∧ b < 16384) = true by simp [hb]] at HM
  obtain ⟨sb, hsb⟩ : ∃ sb, sb = σ.b := ⟨_, rfl⟩
  obtain ⟨m, hm⟩ : ∃ m, m = σ.m := ⟨_, rfl⟩
  have hblk := h.blk
  rw [← hsb, ← hm] at hblk
  have hmap := h.map
  rw [← hm] at hmap
  have hk : iKey b := iKey_of (by omega) (by omega)
  have HS := Lib.hid h
  have HI := Lib.hid hi
  have HSB := Lib.hid hsb
  have HMM := Lib.hid hm
  have HBLK := Lib.hid hblk
  have HKEY := Lib.hid hk
  have HCELL := Lib.hid hc
  have HL := Lib.hid hl
  have hord := h.ord
  obtain ⟨op, oc, hov, hoc, hocm, hop⟩ := own_sl hord
  obtain ⟨LEN, hLEN⟩ : ∃ LEN, LEN = s.order.length := ⟨_, rfl⟩
  have hlen16 : LEN ≤ 16384 := by have := hi.len; have := hi.room; omega
  rw [hov] at hblk hord
  rw [← hLEN] at hblk hord hoc
  obtain ⟨c0, c1, c2, c3, c4, c5⟩ := sto_at hblk
  have fb2 := frozen_blk hblk 2
  have HORD := Lib.hid hord
  have HOV := Lib.hid hov
  have HLEN := Lib.hid hLEN
  have hz : ((n : Int) == 0) = false := by rw [beq_eq_false_iff_ne]; omega
  obtain ⟨hb0, hb1⟩ := hb
  obtain ⟨hn0, hn1⟩ := hn
  simp only [maxLen] at hocm
  obtain ⟨room, hroom⟩ : ∃ room, room = s.room := ⟨_, rfl⟩
  rw [← hroom] at c0
  have HROOM := Lib.hid hroom
  have hrm := hi.room
  rw [← hroom] at hrm
  obtain ⟨hrm0, hrm1⟩ := hrm
  rw [← hsb]
  have HNE := Lib.hid (show (Value.slice op LEN oc).ownBlock ≠ some sb from fun e => (own_ty hord e).ne ⟨_, hblk⟩ (by decide) rfl)
  by_cases hin : s.txt b = none
  · have hlk : σ.f b = none := by
      rcases h.txt b hk with ⟨e, _⟩ | ⟨g, n, c, tx, _, e, _⟩
      · exact e
      · rw [hin] at e; cases e
    have hlook := hmap.look_no hk hlk
    have HIN := Lib.hid hin
    clear hPOST hblk hmap h hi hsb hm hk hc hl hord hov hLEN hlk hroom hop hin
    obtain ⟨i0, hi0, hi1, hi2, hi3⟩ := info_parts (show (Try.prog.info? 3).map (fun i => (i.zero, i.size, i.bytes)) = some (some (.int .i64 0), 1, 8) by kernel_rfl)
    have HI0 := Lib.hid hi0
    have HI1 := Lib.hid hi1
    have HI2 := Lib.hid hi2
    have HIZ := Lib.hid hi3
    clear hi0 hi1 hi2 hi3
    go_enter Try.func11, Try.ntmps11
    go_wp2_with fail
    refine HM.out.mono ?_
    rintro e w' ⟨rfl, rfl⟩
    go_wp2_with ((with_reducible refine wpList_append_ownF _ rfl (.tmp 39) (.tmp 41) 53 rfl 0 3 i0 _ 1 8 Try.underlying53 HI0.out HI1.out HI2.out HIZ.out ?_ (.slice op LEN oc) LEN (s.order.map (Value.int .i64)) ?_ (HORD.out.alloc _) ⟨w.heap.size, 0, none⟩ 1 1 [.int .i64 b] ?_ rfl ?_ ?_ (by decide) ?_ ?_ ?_ ?_); rfl; rfl; rfl; (exact fun j u hj => by rw [show (⟨w.heap.size, 0, none⟩ : Addr).add j = ⟨w.heap.size, j, none⟩ by unfold Addr.add; split <;> simp_all, cell_blk (heap_alloc_new w _)]; simpa using hj); (intro u hu; simp at hu; rcases hu with rfl; rfl); (simp only [maxLen]; omega); omega; (simp); intro lg cap6 w6 ho6 hg6 hf6; have HO6 := Lib.hid ho6; have HG6 := Lib.hid hg6; have HF6 := Lib.hid hf6; have HB6 := Lib.hid (blk_gr HBLK.out hg6 HNE.out); obtain ⟨_, _, d2, _, _, _⟩ := sto_at HB6.out; have f6 := frozen_blk HB6.out 2; clear ho6 hg6 hf6)
    obtain ⟨W7, hW7⟩ : ∃ W7, W7 = w6.setCell ⟨sb, 2, none⟩ (.slice (some ⟨lg, 0, none⟩) (LEN + 1) cap6) := ⟨_, rfl⟩
    have hk6 : Keeps (fun k => k = sb ∨ (Value.slice op LEN oc).ownBlock = some k) w w6 := ((Keeps.refl (fun _ => False) w).alloc _).trans (Keeps.of_grown (S := fun k => (Value.slice op LEN oc).ownBlock = some k) HG6.out (fun k e => e)) (fun _ _ e => e.elim) (fun _ _ e => .inr e)
    have hk7 : Keeps (fun k => k = sb ∨ (Value.slice op LEN oc).ownBlock = some k) w W7 := by rw [hW7]; exact hk6.setCell _ _ (fun _ => .inl rfl)
    have hb7 : W7.heap[sb]? = some (.cells #[.int .i64 room, .int .i64 s.hold, .slice (some ⟨lg, 0, none⟩) (LEN + 1) cap6, .map (some m), .pointer (some ⟨σ.a, 0, none⟩), .map (some σ.r)] 89 (0, 0)) := by rw [hW7, HROOM.out]; exact sto_set2 HB6.out
    have ho7 : W7.ownsRow 0 3 1 (.slice (some ⟨lg, 0, none⟩) (LEN + 1) cap6) (LEN + 1) (s.order.map (Value.int .i64) ++ [.int .i64 b]) := by
      rw [hW7]
      exact ownsRow_keeps HO6.out ((Keeps.refl (fun k => k = sb) w6).setCell ⟨sb, 2, none⟩ _ (fun _ => rfl)) (fun k e e2 => (own_ty HO6.out e).ne ⟨_, HB6.out⟩ (by decide) e2)
    have hO1 : (s.add b tb).order = s.order ++ [b] := by
      show (if b ∈ s.order then s.order else s.order ++ [b]) = _
      rw [if_neg (fun hb => (HI.out.dom b).2 hb HIN.out)]
    obtain ⟨L1, hL1⟩ : ∃ L1, L1 = LEN + 1 := ⟨_, rfl⟩
    obtain ⟨oc1, hoc1⟩ : ∃ oc1, oc1 = cap6 := ⟨_, rfl⟩
    obtain ⟨g1, hg1⟩ : ∃ g1, g1 = lg := ⟨_, rfl⟩
    have h7 : StoAt W7 { σ with ov := .slice (some ⟨g1, 0, none⟩) L1 oc1 } { s with order := (s.add b tb).order } nb := by
      have hlen1 : (s.add b tb).order.length = L1 := by rw [hO1, hL1, HLEN.out]; simp
      refine HS.out.order hk7 (fun k e => ?_) ?_ ?_
      · rw [← HSB.out, HOV.out, ← HLEN.out]; exact e
      · rw [← HSB.out, ← HMM.out, ← HROOM.out, hL1, hoc1, hg1]; exact hb7
      · rw [hlen1, hO1, hL1, hoc1, hg1, List.map_append]; exact ho7
    have hlen1 : (s.add b tb).order.length = L1 := by rw [hO1, hL1, HLEN.out]; simp
    have hkf : Keeps σ.foot w W7 := hk7.mono (fun i _ e => e.elim (fun e => .inl (by rw [e]; exact HSB.out)) (fun e => .inr (.inr (.inr (.inr (.inl (by rw [HOV.out, ← HLEN.out]; exact e)))))))
    have hof : σ.ov.ownBlock = some g1 ∨ w.heap.size ≤ g1 := by
      rcases HF6.out with h | h
      · exact .inl (by rw [HOV.out, ← HLEN.out, hg1]; exact h)
      · rw [hg1]; simp at h; exact .inr (by omega)
    have hL1b : 1 ≤ L1 ∧ L1 ≤ 16385 := by omega
    have hoc1b : L1 ≤ oc1 ∧ oc1 ≤ 9223372036854775807 := by
      obtain ⟨_, _, _, _, h1, h2⟩ := ownsRow_open HO6.out
      rw [hL1, hoc1]
      simp only [maxLen] at h2
      exact ⟨h1, by omega⟩
    rw [← hW7, ← hL1, ← hoc1, ← hg1]
    rw [← hL1, ← hoc1, ← hg1] at hb7
    clear hW7 hk6 hk7 ho7 hO1 hL1 hoc1 hg1 d2 f6 HF6 HO6 HG6 HB6 c0 c1 c2 c3 c4 c5 fb2 hlook
    have H7 := Lib.hid h7
    have HKF := Lib.hid hkf
    have HOF := Lib.hid hof
    have HL1 := Lib.hid hlen1
    obtain ⟨hL1a, hL1b⟩ := hL1b
    obtain ⟨hoc1a, hoc1b⟩ := hoc1b
    have hd7 : Below W7.heap.size W7 W7.drew := (Below.refl _ W7).drew
    have HCL := Lib.hid (tclone_any tg toff n cap tb W7.drew (by omega) HL.out (fun j v hj => (hkf.cell (p := ⟨tg, toff + j, none⟩) htg htf).trans (HCELL.out j v hj)) (Nat.lt_of_lt_of_le htg hkf.size))
    have H7D := Lib.hid (h7.below hd7)
    have HB7 := Lib.hid (show W7.drew.heap[sb]? = _ from hb7)
    obtain ⟨e0, e1, e2, e3, e4, e5⟩ := sto_at hb7
    have hmsb : m ≠ sb := fun e => map_no_ty (b := m) (t := 89) (w := W7) (by rw [HMM.out]; exact h7.map) (by rw [e]; exact ⟨_, hb7⟩)
    clear h7 hkf hof hlen1 hd7 hb7
    go_region_with (go_at_call 40; refine HCL.out.mono ?_; rintro e w8 ⟨tv, rfl, hown8, hb8⟩; obtain ⟨tp, tc, rfl, _, _, htp⟩ := own_sl hown8; obtain ⟨g8, rfl⟩ := htp (by omega); have h8 := H7D.out.below hb8; obtain ⟨w9, hrun0, hm9, hg9, hz9⟩ := h8.map.put (by omega) HKEY.out g8 n tc; have hrun : (Instr.mapUpdate 84 (.map (some m)) (.int .i64 b) (.slice (some ⟨g8, 0, none⟩) n tc)).run Try.prog w8 = .ok () w9 := (by rw [HMM.out]; exact hrun0); have hb8' := (hb8.block sb (lt_blk HB7.out)).trans HB7.out; obtain ⟨i0, i1, i2, i3, i4, i5⟩ := sto_at hb8'; have H9 := Lib.hid (h8.txtPut HL.out (ownsRow_base hown8 (Nat.zero_le _)) hm9 hg9); have HB9 := Lib.hid ((hg9.block sb (lt_blk hb8') (fun e => hmsb (by rw [HMM.out]; exact (Option.some.inj e).symm))).trans hb8'); have HK9 := Lib.hid ((HKF.out.drew.trans (Keeps.of_below (S := σ.foot) hb8) (fun _ _ e => e) (fun _ _ e => e)).trans (Keeps.of_grown (S := σ.foot) hg9 (fun k e => by cases e; exact .inr (.inl rfl))) (fun _ _ e => e) (fun _ _ e => e)); clear hown8 hb8 h8 hrun0 hm9 hg9 hz9 hb8' htp)
    all_goals
      obtain ⟨j0, j1, j2, j3, j4, j5⟩ := sto_at HB9.out
      clear hrun i0 i1 i2 i3 i4 i5
      go_wp2_with fail
      go_quiet (fail)
      by_cases hfull : (L1 : Int) ≤ room
      · have hp : POST (.returned (.tuple #[.int .i64 (-1), .int .i64 0])) (w9.drewN nq) := by
          rw [HPOST.out]
          have hput : s.put b tb = (s.add b tb, -1) := by
            rcases put_cases s b tb with ⟨_, h2⟩ | ⟨h1, _⟩ | h1
            · exact h2
            · rw [HL1.out, ← HROOM.out] at h1; omega
            · exact absurd h1 (add_ne s b tb)
          refine ⟨{ σ with ov := .slice (some ⟨g1, 0, none⟩) L1 oc1, f := upd σ.f b (some (g8, n, tc)) }, by rw [hput], by rw [hput]; exact H9.out.below (below_drewN (Below.refl _ _) nq), HK9.out.drewN nq, rfl, rfl, ?_⟩
          rintro k (e | e | e | e | e | e)
          · exact .inl (.inl e)
          · exact .inl (.inr (.inl e))
          · exact .inl (.inr (.inr (.inl e)))
          · exact .inl (.inr (.inr (.inr (.inl e))))
          · have e2 : g1 = k := Option.some.inj e
            subst e2
            rcases HOF.out with h | h
            · exact .inl (.inr (.inr (.inr (.inr (.inl h)))))
            · exact .inr h
          · exact .inl (.inr (.inr (.inr (.inr (.inr e)))))
        have HP := Lib.hid hp
        clear hp
        go_wp2_with fail
        exact HP.out
      · obtain ⟨old, rest, hord2⟩ : ∃ old rest, (s.add b tb).order = old :: rest := by
          cases ho : (s.add b tb).order with
          | nil => exact absurd ho (add_ne s b tb)
          | cons x r => exact ⟨x, r, rfl⟩
        obtain ⟨n1, rfl⟩ : ∃ n1, L1 = n1 + 1 := ⟨L1 - 1, by omega⟩
        have hrl : rest.length = n1 := by have := HL1.out; rw [hord2] at this; simpa using this
        have hput : s.put b tb = ({ s.add b tb with order := rest, txt := upd (s.add b tb).txt old none }, old) := by
          rcases put_cases s b tb with ⟨h1, _⟩ | ⟨_, o2, r2, h2, h3⟩ | h1
          · rw [HL1.out, ← HROOM.out] at h1; omega
          · rw [hord2] at h2; cases h2; exact h3
          · exact absurd h1 (add_ne s b tb)
        have hobd : 0 ≤ old ∧ old < 16384 := by
          have hm : old ∈ (s.add b tb).order := by rw [hord2]; simp
          rcases mem_add.1 hm with h | h
          · exact HI.out.bd old h
          · omega
        obtain ⟨WA, hWA⟩ : ∃ WA, WA = w9.drewN nq := ⟨_, rfl⟩
        have h9 := H9.out.below (below_drewN (Below.refl _ _) nq)
        have hkA := HK9.out.drewN nq
        have hbA : (w9.drewN nq).heap[sb]? = _ := HB9.out
        rw [← hWA] at h9 hkA hbA ⊢
        have hor := h9.ord
        rw [show ({ s with order := (s.add b tb).order, txt := upd s.txt b (some tb) } : SS).order = old :: rest from hord2, show (old :: rest).length = n1 + 1 by simp [hrl]] at hor
        have hor : WA.ownsRow 0 3 1 (.slice (some ⟨g1, 0, none⟩) (n1 + 1) oc1) (n1 + 1) ((old :: rest).map (Value.int .i64)) := hor
        have k0 : WA.cell? ⟨g1, 0, none⟩ = some (.int .i64 old) := by
          obtain ⟨tail, hg, _⟩ := ownsRow_open hor
          rw [cell_blk hg]; simp
        obtain ⟨a0, a1, a2, a3, a4, a5⟩ := sto_at hbA
        have HDEL := Lib.hid (del1_any g1 n1 oc1 old rest WA hrl hor)
        have H9A := Lib.hid h9
        have HKA := Lib.hid hkA
        have HBA := Lib.hid hbA
        have HOR := Lib.hid hor
        have HPUT := Lib.hid hput
        have HRL := Lib.hid hrl
        have HO2 := Lib.hid hord2
        clear hWA h9 hkA hbA hor hput hrl hord2 j0 j1 j2 j3 j4 j5
        go_wp2_with fail
        refine HDEL.out.mono ?_
        rintro e wB ⟨rfl, hoB, hkB, hzB⟩
        have hgs : g1 ≠ sb := fun e => (own_ty HOR.out rfl).ne ⟨_, HBA.out⟩ (by decide) e
        have hbB := (hkB.block sb (lt_blk HBA.out) (fun e => hgs e.symm)).trans HBA.out
        obtain ⟨b0, b1, b2, b3, b4, b5⟩ := sto_at hbB
        have fB2 := frozen_blk hbB 2
        obtain ⟨WC, hWC⟩ : ∃ WC, WC = wB.setCell ⟨sb, 2, none⟩ (.slice (some ⟨g1, 0, none⟩) n1 oc1) := ⟨_, rfl⟩
        have hkC : Keeps (fun k => k = sb ∨ k = g1) WA WC := by
          rw [hWC]
          exact (hkB.mono (fun i _ e => .inr e)).setCell _ _ (fun _ => .inl rfl)
        have hbC := sto_set2 (y := .slice (some ⟨g1, 0, none⟩) n1 oc1) hbB
        rw [← hWC] at hbC
        have hoC : WC.ownsRow 0 3 1 (.slice (some ⟨g1, 0, none⟩) n1 oc1) n1 (rest.map (Value.int .i64)) := by
          rw [hWC]
          exact ownsRow_keeps hoB ((Keeps.refl (fun k => k = sb) wB).setCell ⟨sb, 2, none⟩ _ (fun _ => rfl)) (fun k e e2 => hgs ((Option.some.inj e).trans e2))
        have hC : StoAt WC { σ with ov := .slice (some ⟨g1, 0, none⟩) n1 oc1, f := upd σ.f b (some (g8, n, tc)) } { s.add b tb with order := rest } (nb + 1) := by
          have h10 := H9A.out.order (order' := rest) (ov' := .slice (some ⟨g1, 0, none⟩) n1 oc1) hkC (fun k e => e.elim (fun e => .inl (by rw [e]; exact HSB.out)) (fun e => .inr (by rw [e]; rfl))) (by rw [← HSB.out, ← HMM.out, ← HROOM.out]; exact hbC) (by rw [HRL.out]; exact hoC)
          exact h10
        obtain ⟨wD, hdel0, hmD, hgD, _⟩ := hC.map.del (iKey_of (k := old) (by omega) (by omega)) 0
        have hdel : (Builtin.delete_ #[84, 3] 0 #[.map (some m), .int .i64 old]).run Try.prog (wB.setCell ⟨sb, 2, none⟩ (.slice (some ⟨g1, 0, none⟩) n1 oc1)) = .ok (.tuple #[]) wD := by rw [HMM.out, ← hWC]; exact hdel0
        have hp : POST (.returned (.tuple #[.int .i64 old, .int .i64 0])) wD := by
          rw [HPOST.out]
          refine ⟨{ σ with ov := .slice (some ⟨g1, 0, none⟩) n1 oc1, f := upd (upd σ.f b (some (g8, n, tc))) old none }, by rw [HPUT.out], by rw [HPUT.out]; exact hC.txtDel hmD hgD, ?_, rfl, rfl, ?_⟩
          · refine (HKA.out.trans hkC (fun _ _ e => e) (fun i hi e => e.elim (fun e => .inl (by rw [e]; exact HSB.out)) (fun e => ?_))).trans (Keeps.of_grown (S := σ.foot) hgD (fun k e => by cases e; exact .inr (.inl rfl))) (fun _ _ e => e) (fun _ _ e => e)
            subst e
            rcases HOF.out with h | h
            · exact .inr (.inr (.inr (.inr (.inl h))))
            · omega
          · rintro k (e | e | e | e | e | e)
            · exact .inl (.inl e)
            · exact .inl (.inr (.inl e))
            · exact .inl (.inr (.inr (.inl e)))
            · exact .inl (.inr (.inr (.inr (.inl e))))
            · have e2 : g1 = k := Option.some.inj e
              subst e2
              rcases HOF.out with h | h
              · exact .inl (.inr (.inr (.inr (.inr (.inl h)))))
              · exact .inr h
            · exact .inl (.inr (.inr (.inr (.inr (.inr e)))))
        have HP := Lib.hid hp
        clear hp hC hmD hgD hdel0 hbC hoC hkC hkB hoB hbB a0 a1 a2 a3 a4 a5 hWC
        go_wp2_with fail
        exact HP.out
  · obtain ⟨tx, htx⟩ : ∃ tx, s.txt b = some tx := by
      cases hh : s.txt b with
      | none => exact absurd hh hin
      | some tx => exact ⟨tx, rfl⟩
    obtain ⟨g0, n0, cc0, hlk⟩ : ∃ g n c, σ.f b = some (g, n, c) := by
      rcases h.txt b hk with ⟨_, e⟩ | ⟨g, n, c, tx, e, _⟩
      · rw [htx] at e; cases e
      · exact ⟨g, n, c, e⟩
    have hlook := hmap.look_yes hk hlk
    have hmem : b ∈ s.order := (hi.dom b).1 hin
    have hpos : 0 < s.order.length := List.length_pos_of_mem hmem
    obtain ⟨g1, rfl⟩ := hop hpos
    have hO1 : (s.add b tb).order = s.order := by
      show (if b ∈ s.order then s.order else s.order ++ [b]) = _
      rw [if_pos hmem]
    obtain ⟨L1, hL1⟩ : ∃ L1, L1 = LEN := ⟨_, rfl⟩
    obtain ⟨oc1, hoc1⟩ : ∃ oc1, oc1 = oc := ⟨_, rfl⟩
    obtain ⟨W7, hW7⟩ : ∃ W7, W7 = w := ⟨_, rfl⟩
    have h7 : StoAt W7 { σ with ov := .slice (some ⟨g1, 0, none⟩) L1 oc1 } { s with order := (s.add b tb).order } nb := by
      have e1 : ({ σ with ov := .slice (some ⟨g1, 0, none⟩) L1 oc1 } : SI) = σ := by rw [hL1, hLEN, hoc1, ← hov]
      have e2 : ({ s with order := (s.add b tb).order } : SS) = s := by rw [hO1]
      rw [e1, e2, hW7]
      exact h
    have hlen1 : (s.add b tb).order.length = L1 := by rw [hO1, hL1, hLEN]
    have hb7 : W7.heap[sb]? = some (.cells #[.int .i64 room, .int .i64 s.hold, .slice (some ⟨g1, 0, none⟩) L1 oc1, .map (some m), .pointer (some ⟨σ.a, 0, none⟩), .map (some σ.r)] 89 (0, 0)) := by rw [hW7, hroom, hL1, hoc1]; exact hblk
    have hkf : Keeps σ.foot w W7 := by rw [hW7]; exact Keeps.refl _ _
    have hof : σ.ov.ownBlock = some g1 ∨ w.heap.size ≤ g1 := .inl (by rw [hov]; rfl)
    have hL1b : 1 ≤ L1 ∧ L1 ≤ 16385 := by omega
    have hoc1b : L1 ≤ oc1 ∧ oc1 ≤ 9223372036854775807 := by omega
    have hw7 : W7 = w := hW7
    clear hPOST hblk hmap h hi hsb hm hk hc hl hord hov hLEN hlk hroom hop hin htx hmem hpos hO1
    go_enter Try.func11, Try.ntmps11
    go_wp2_with fail
    refine HM.out.mono ?_
    rintro e w' ⟨rfl, rfl⟩
    go_wp2_with fail
    rw [← hW7]
    clear hL1 hoc1 c0 c1 c2 c3 c4 c5 fb2 hlook hw7 hW7
    have H7 := Lib.hid h7
    have HKF := Lib.hid hkf
    have HOF := Lib.hid hof
    have HL1 := Lib.hid hlen1
    obtain ⟨hL1a, hL1b⟩ := hL1b
    obtain ⟨hoc1a, hoc1b⟩ := hoc1b
    have hd7 : Below W7.heap.size W7 W7.drew := (Below.refl _ W7).drew
    have HCL := Lib.hid (tclone_any tg toff n cap tb W7.drew (by omega) HL.out (fun j v hj => (hkf.cell (p := ⟨tg, toff + j, none⟩) htg htf).trans (HCELL.out j v hj)) (Nat.lt_of_lt_of_le htg hkf.size))
    have H7D := Lib.hid (h7.below hd7)
    have HB7 := Lib.hid (show W7.drew.heap[sb]? = _ from hb7)
    obtain ⟨e0, e1, e2, e3, e4, e5⟩ := sto_at hb7
    have hmsb : m ≠ sb := fun e => map_no_ty (b := m) (t := 89) (w := W7) (by rw [HMM.out]; exact h7.map) (by rw [e]; exact ⟨_, hb7⟩)
    clear h7 hkf hof hlen1 hd7 hb7
    go_region_with (go_at_call 40; refine HCL.out.mono ?_; rintro e w8 ⟨tv, rfl, hown8, hb8⟩; obtain ⟨tp, tc, rfl, _, _, htp⟩ := own_sl hown8; obtain ⟨g8, rfl⟩ := htp (by omega); have h8 := H7D.out.below hb8; obtain ⟨w9, hrun0, hm9, hg9, hz9⟩ := h8.map.put (by omega) HKEY.out g8 n tc; have hrun : (Instr.mapUpdate 84 (.map (some m)) (.int .i64 b) (.slice (some ⟨g8, 0, none⟩) n tc)).run Try.prog w8 = .ok () w9 := (by rw [HMM.out]; exact hrun0); have hb8' := (hb8.block sb (lt_blk HB7.out)).trans HB7.out; obtain ⟨i0, i1, i2, i3, i4, i5⟩ := sto_at hb8'; have H9 := Lib.hid (h8.txtPut HL.out (ownsRow_base hown8 (Nat.zero_le _)) hm9 hg9); have HB9 := Lib.hid ((hg9.block sb (lt_blk hb8') (fun e => hmsb (by rw [HMM.out]; exact (Option.some.inj e).symm))).trans hb8'); have HK9 := Lib.hid ((HKF.out.drew.trans (Keeps.of_below (S := σ.foot) hb8) (fun _ _ e => e) (fun _ _ e => e)).trans (Keeps.of_grown (S := σ.foot) hg9 (fun k e => by cases e; exact .inr (.inl rfl))) (fun _ _ e => e) (fun _ _ e => e)); clear hown8 hb8 h8 hrun0 hm9 hg9 hz9 hb8' htp)
    all_goals
      obtain ⟨j0, j1, j2, j3, j4, j5⟩ := sto_at HB9.out
      clear hrun i0 i1 i2 i3 i4 i5
      go_wp2_with fail
      go_quiet (fail)
      by_cases hfull : (L1 : Int) ≤ room
      · have hp : POST (.returned (.tuple #[.int .i64 (-1), .int .i64 0])) (w9.drewN nq) := by
          rw [HPOST.out]
          have hput : s.put b tb = (s.add b tb, -1) := by
            rcases put_cases s b tb with ⟨_, h2⟩ | ⟨h1, _⟩ | h1
            · exact h2
            · rw [HL1.out, ← HROOM.out] at h1; omega
            · exact absurd h1 (add_ne s b tb)
          refine ⟨{ σ with ov := .slice (some ⟨g1, 0, none⟩) L1 oc1, f := upd σ.f b (some (g8, n, tc)) }, by rw [hput], by rw [hput]; exact H9.out.below (below_drewN (Below.refl _ _) nq), HK9.out.drewN nq, rfl, rfl, ?_⟩
          rintro k (e | e | e | e | e | e)
          · exact .inl (.inl e)
          · exact .inl (.inr (.inl e))
          · exact .inl (.inr (.inr (.inl e)))
          · exact .inl (.inr (.inr (.inr (.inl e))))
          · have e2 : g1 = k := Option.some.inj e
            subst e2
            rcases HOF.out with h | h
            · exact .inl (.inr (.inr (.inr (.inr (.inl h)))))
            · exact .inr h
          · exact .inl (.inr (.inr (.inr (.inr (.inr e)))))
        have HP := Lib.hid hp
        clear hp
        go_wp2_with fail
        exact HP.out
      · obtain ⟨old, rest, hord2⟩ : ∃ old rest, (s.add b tb).order = old :: rest := by
          cases ho : (s.add b tb).order with
          | nil => exact absurd ho (add_ne s b tb)
          | cons x r => exact ⟨x, r, rfl⟩
        obtain ⟨n1, rfl⟩ : ∃ n1, L1 = n1 + 1 := ⟨L1 - 1, by omega⟩
        have hrl : rest.length = n1 := by have := HL1.out; rw [hord2] at this; simpa using this
        have hput : s.put b tb = ({ s.add b tb with order := rest, txt := upd (s.add b tb).txt old none }, old) := by
          rcases put_cases s b tb with ⟨h1, _⟩ | ⟨_, o2, r2, h2, h3⟩ | h1
          · rw [HL1.out, ← HROOM.out] at h1; omega
          · rw [hord2] at h2; cases h2; exact h3
          · exact absurd h1 (add_ne s b tb)
        have hobd : 0 ≤ old ∧ old < 16384 := by
          have hm : old ∈ (s.add b tb).order := by rw [hord2]; simp
          rcases mem_add.1 hm with h | h
          · exact HI.out.bd old h
          · omega
        obtain ⟨WA, hWA⟩ : ∃ WA, WA = w9.drewN nq := ⟨_, rfl⟩
        have h9 := H9.out.below (below_drewN (Below.refl _ _) nq)
        have hkA := HK9.out.drewN nq
        have hbA : (w9.drewN nq).heap[sb]? = _ := HB9.out
        rw [← hWA] at h9 hkA hbA ⊢
        have hor := h9.ord
        rw [show ({ s with order := (s.add b tb).order, txt := upd s.txt b (some tb) } : SS).order = old :: rest from hord2, show (old :: rest).length = n1 + 1 by simp [hrl]] at hor
        have hor : WA.ownsRow 0 3 1 (.slice (some ⟨g1, 0, none⟩) (n1 + 1) oc1) (n1 + 1) ((old :: rest).map (Value.int .i64)) := hor
        have k0 : WA.cell? ⟨g1, 0, none⟩ = some (.int .i64 old) := by
          obtain ⟨tail, hg, _⟩ := ownsRow_open hor
          rw [cell_blk hg]; simp
        obtain ⟨a0, a1, a2, a3, a4, a5⟩ := sto_at hbA
        have HDEL := Lib.hid (del1_any g1 n1 oc1 old rest WA hrl hor)
        have H9A := Lib.hid h9
        have HKA := Lib.hid hkA
        have HBA := Lib.hid hbA
        have HOR := Lib.hid hor
        have HPUT := Lib.hid hput
        have HRL := Lib.hid hrl
        have HO2 := Lib.hid hord2
        clear hWA h9 hkA hbA hor hput hrl hord2 j0 j1 j2 j3 j4 j5
        go_wp2_with fail
        refine HDEL.out.mono ?_
        rintro e wB ⟨rfl, hoB, hkB, hzB⟩
        have hgs : g1 ≠ sb := fun e => (own_ty HOR.out rfl).ne ⟨_, HBA.out⟩ (by decide) e
        have hbB := (hkB.block sb (lt_blk HBA.out) (fun e => hgs e.symm)).trans HBA.out
        obtain ⟨b0, b1, b2, b3, b4, b5⟩ := sto_at hbB
        have fB2 := frozen_blk hbB 2
        obtain ⟨WC, hWC⟩ : ∃ WC, WC = wB.setCell ⟨sb, 2, none⟩ (.slice (some ⟨g1, 0, none⟩) n1 oc1) := ⟨_, rfl⟩
        have hkC : Keeps (fun k => k = sb ∨ k = g1) WA WC := by
          rw [hWC]
          exact (hkB.mono (fun i _ e => .inr e)).setCell _ _ (fun _ => .inl rfl)
        have hbC := sto_set2 (y := .slice (some ⟨g1, 0, none⟩) n1 oc1) hbB
        rw [← hWC] at hbC
        have hoC : WC.ownsRow 0 3 1 (.slice (some ⟨g1, 0, none⟩) n1 oc1) n1 (rest.map (Value.int .i64)) := by
          rw [hWC]
          exact ownsRow_keeps hoB ((Keeps.refl (fun k => k = sb) wB).setCell ⟨sb, 2, none⟩ _ (fun _ => rfl)) (fun k e e2 => hgs ((Option.some.inj e).trans e2))
        have hC : StoAt WC { σ with ov := .slice (some ⟨g1, 0, none⟩) n1 oc1, f := upd σ.f b (some (g8, n, tc)) } { s.add b tb with order := rest } (nb + 1) := by
          have h10 := H9A.out.order (order' := rest) (ov' := .slice (some ⟨g1, 0, none⟩) n1 oc1) hkC (fun k e => e.elim (fun e => .inl (by rw [e]; exact HSB.out)) (fun e => .inr (by rw [e]; rfl))) (by rw [← HSB.out, ← HMM.out, ← HROOM.out]; exact hbC) (by rw [HRL.out]; exact hoC)
          exact h10
        obtain ⟨wD, hdel0, hmD, hgD, _⟩ := hC.map.del (iKey_of (k := old) (by omega) (by omega)) 0
        have hdel : (Builtin.delete_ #[84, 3] 0 #[.map (some m), .int .i64 old]).run Try.prog (wB.setCell ⟨sb, 2, none⟩ (.slice (some ⟨g1, 0, none⟩) n1 oc1)) = .ok (.tuple #[]) wD := by rw [HMM.out, ← hWC]; exact hdel0
        have hp : POST (.returned (.tuple #[.int .i64 old, .int .i64 0])) wD := by
          rw [HPOST.out]
          refine ⟨{ σ with ov := .slice (some ⟨g1, 0, none⟩) n1 oc1, f := upd (upd σ.f b (some (g8, n, tc))) old none }, by rw [HPUT.out], by rw [HPUT.out]; exact hC.txtDel hmD hgD, ?_, rfl, rfl, ?_⟩
          · refine (HKA.out.trans hkC (fun _ _ e => e) (fun i hi e => e.elim (fun e => .inl (by rw [e]; exact HSB.out)) (fun e => ?_))).trans (Keeps.of_grown (S := σ.foot) hgD (fun k e => by cases e; exact .inr (.inl rfl))) (fun _ _ e => e) (fun _ _ e => e)
            subst e
            rcases HOF.out with h | h
            · exact .inr (.inr (.inr (.inr (.inl h))))
            · omega
          · rintro k (e | e | e | e | e | e)
            · exact .inl (.inl e)
            · exact .inl (.inr (.inl e))
            · exact .inl (.inr (.inr (.inl e)))
            · exact .inl (.inr (.inr (.inr (.inl e))))
            · have e2 : g1 = k := Option.some.inj e
              subst e2
              rcases HOF.out with h | h
              · exact .inl (.inr (.inr (.inr (.inr (.inl h)))))
              · exact .inr h
            · exact .inl (.inr (.inr (.inr (.inr (.inr e)))))
        have HP := Lib.hid hp
        clear hp hC hmD hgD hdel0 hbC hoC hkC hkB hoB hbB a0 a1 a2 a3 a4 a5 hWC
        go_wp2_with fail
        exact HP.out
end Go.Proofs.Ytjklcecakdmbaaa
