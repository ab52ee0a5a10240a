/-
  The law BuildPlays: the reference's Lacking.
-/
import Derived.Test.YtjklcecakdmbaaaP1
import Derived.BigQuiet
namespace Go.Proofs.Ytjklcecakdmbaaa
open Go.RowKit

/-- Is a byte lacking? -/
def lackP (B L : Nat) (F : Nat → Int) (k n : Int) : Prop := 0 ≤ n ∧ F n.toNat < 0 ∧ ((layerN (n.toNat / B) L : Nat) : Int) ≤ k
def RefLack (w : World) (S B L : Nat) (F : Nat → Int) (k : Int) (e : Ending) (w' : World) : Prop :=
  ∃ (l : List (Int × Int)) (v : Value), e = .returned v ∧ WantTo l (lackP B L F k) S ∧ w'.ownsRow w.heap.size 58 2 v l.length (flat l) ∧ Below w.heap.size w w'
set_option maxHeartbeats 1600000 in
set_option maxRecDepth 100000 in
theorem refLacking_any (S B L : Nat) (rv : Value) (ov : Bool) (F : Nat → Int) (k : Int) (w : World) (hS : S ≤ 400) (hB1 : 1 ≤ B) (hB2 : B ≤ 64) (hL1 : 1 ≤ L) (hL2 : L ≤ 8) (hrow : w.ownsRow 0 3 1 rv S (nrow S F)) :
    Calls Try.prog 61 #[sAgg S B L rv ov, .int .i64 k] w (RefLack w S B L F k) := by
  obtain ⟨POST, hPOST⟩ : ∃ POST, POST = RefLack w S B L F k := ⟨_, rfl⟩
  rw [← hPOST]
  have HPOST := Lib.hid hPOST
  have HROW := Lib.hid hrow
  have HLAY := Lib.hid (show ∀ (b : Nat) w', Calls Try.prog 24 #[.int .i64 b, .int .i64 L] w' fun e w'' => e = .returned (.int .i64 (layerN b L : Nat)) ∧ w'' = w' from fun b w' => (refLayer_any b L w' hL1 hL2).mono fun _ _ h => ⟨h.1, h.2.symm⟩)
  clear hPOST hrow
  unfold sAgg
  go_enter Try.func61, Try.ntmps61
  go_wp2_with fail
  obtain ⟨W1, hW1⟩ : ∃ W1, W1 = w.alloc (.cells #[.int .i64 S, .int .i64 B, .int .i64 L, rv, .bool ov] 65) := ⟨_, rfl⟩
  have hst : StBlk W1 w.heap.size S B L rv ov := by rw [hW1]; exact heap_alloc_new w _
  have hb1 : Below w.heap.size w W1 := by rw [hW1]; exact (Below.refl _ _).alloc (Nat.le_refl _) _
  have hz1 : W1.heap.size = w.heap.size + 1 := by rw [hW1]; simp
  rw [← hW1]
  have HST := Lib.hid hst
  have HB1 := Lib.hid hb1
  have HZ1 := Lib.hid hz1
  obtain ⟨N, hN⟩ : ∃ N, N = w.heap.size := ⟨_, rfl⟩
  rw [← hN] at HST ⊢
  have HN := Lib.hid hN
  clear hW1 hst hb1 hz1 hN
  go_loopg [5, 6] S (fun gk v x wr => ∃ (i : Nat) (m : List (Int × Int)), x = .int .i64 i ∧ gk + i = S ∧ i ≤ S ∧ wr.ownsRow W1.heap.size 58 2 v m.length (flat m) ∧ WantTo m (lackP B L F k) i ∧ Below W1.heap.size W1 wr)
  case atStart => exact ⟨0, [], rfl, by omega, by omega, World.ownsRow_nil _ _ _ _, ⟨Wf.nil, fun n => ⟨fun h => absurd h (inS_nil n), fun ⟨h1, h2⟩ => by have := h1.1; omega⟩⟩, Below.refl _ _⟩
  case round =>
    obtain ⟨q, m, rfl, hgk, hq, hown, hwant, hbel⟩ := hrel
    obtain ⟨p5, c5, rfl, hc5, hp5⟩ := own_slice hown
    obtain ⟨LEN, hLEN⟩ : ∃ LEN, LEN = m.length := ⟨_, rfl⟩
    have HLEN := Lib.hid hLEN
    have HP5 := Lib.hid hp5
    have hlen16 : LEN ≤ 16384 := by rw [hLEN]; exact hwant.wf.len
    rw [← hLEN] at hown HP5 hc5 ⊢
    clear hLEN hp5
    have HGK := Lib.hid hgk
    have HOWN := Lib.hid hown
    have HWANT := Lib.hid hwant
    have HBEL := Lib.hid hbel
    have hst : StBlk wr N S B L rv ov := (hbel.block N (lt_blk HST.out)).trans HST.out
    obtain ⟨c0, c1, c2, c3, c4⟩ := hst.at_
    clear hgk hown hwant hst
    by_cases hlt : q < S
    · obtain ⟨g, gc, rfl, hg1, hg2, _, hg3, hgx⟩ := row_form HROW.out (by omega)
      have k0 : wr.cell? ⟨g, q, none⟩ = some (.int .i64 (F q)) := (hbel.cell (p := ⟨g, q, none⟩) (by have := HZ1.out; show g < _; omega)).trans ((HB1.out.cell (p := ⟨g, q, none⟩) hg3).trans (hgx q hlt))
      simp only [maxLen] at hg2
      obtain ⟨fq, hfq⟩ : ∃ fq, fq = F q := ⟨_, rfl⟩
      rw [← hfq] at k0
      obtain ⟨D, hD⟩ : ∃ D, D = q / B := ⟨_, rfl⟩
      have hdiv : ((q : Int)).tdiv (B : Int) = (D : Int) := by rw [hD]; rfl
      have hDq : D ≤ 400 := by rw [hD]; exact Nat.le_trans (Nat.div_le_self _ _) (by omega)
      have hne : ((B : Int) == 0) = false := by rw [beq_eq_false_iff_ne]; omega
      have hne2 : ¬ ((B : Int) = 0) := by omega
      obtain ⟨lay, hlay⟩ : ∃ lay, lay = layerN D L := ⟨_, rfl⟩
      have HP := Lib.hid (show lackP B L F k q ↔ fq < 0 ∧ (lay : Int) ≤ k by unfold lackP; rw [Int.toNat_natCast, hfq, hlay, hD]; omega)
      have HLQ := Lib.hid (fun w' => HLAY.out D w')
      rw [← hlay] at HLQ
      clear hgx hfq hlay hbel hD
      by_cases hf : 0 ≤ fq
      · have HNP := Lib.hid (show ¬ lackP B L F k q from fun h => by have := (HP.out.1 h).1; omega)
        have hd : decide (0 ≤ fq) = true := by simpa using hf
        go_wp2_with fail
        go_quiet (fail)
        go_wp2_with fail
        go_roundg (S - (q + 1))
        case measure => have := HGK.out; omega
        case rel => exact ⟨q + 1, m, by go_num, by omega, by omega, by rw [← HLEN.out]; exact own_below HOWN.out (below_drewN (Below.refl _ _) _), HWANT.out.skip HNP.out, below_drewN HBEL.out _⟩
      · have hd : decide (0 ≤ fq) = false := by simpa using hf
        by_cases hk : k < (lay : Int)
        · have HNP := Lib.hid (show ¬ lackP B L F k q from fun h => by have := (HP.out.1 h).2; omega)
          go_wp2_with fail
          go_quiet ((go_at_call 24; exact Calls.quiet_of_same (HLQ.out _)))
          go_wp2_with fail
          go_roundg (S - (q + 1))
          case measure => have := HGK.out; omega
          case rel => exact ⟨q + 1, m, by go_num, by omega, by omega, by rw [← HLEN.out]; exact own_below HOWN.out (below_drewN (Below.refl _ _) _), HWANT.out.skip HNP.out, below_drewN HBEL.out _⟩
        · have HYP := Lib.hid (HP.out.2 ⟨by omega, by omega⟩)
          go_wp2_with fail
          go_quiet ((go_at_call 24; exact Calls.quiet_of_same (HLQ.out _)))
          have hown5 := own_below HOWN.out (below_drewN (Below.refl _ wr) nq)
          have hb5' := below_drewN HBEL.out nq
          rcases Nat.eq_zero_or_pos LEN with rfl | hpos
          · have hm0 : m = [] := List.eq_nil_of_length_eq_zero HLEN.out.symm
            have HNE := Lib.hid (show ∀ x, m.getLast? = some x → x.2 ≠ (q : Int) from fun x hx => by rw [hm0] at hx; cases hx)
            clear hm0
            obtain ⟨i0, hi0, hi1, hi2, hi3⟩ := info_parts Try.info58
            have HI0 := Lib.hid hi0
            have HI1 := Lib.hid hi1
            have HI2 := Lib.hid hi2
            have HI3 := Lib.hid hi3
            clear hi0 hi1 hi2 hi3
            have HO5 := Lib.hid hown5
            clear hown5
            go_wp2_with ((with_reducible refine wpList_append_ownF _ rfl (.tmp 52) (.tmp 57) 22 rfl W1.heap.size 58 i0 _ 2 16 Try.underlying22 HI0.out HI1.out HI2.out HI3.out ?_ (.slice p5 0 c5) _ (flat m) ?_ (HO5.out.alloc _) ⟨wr.heap.size, 0, none⟩ 1 1 [.int .i64 q, .int .i64 ((q : Int) + 1)] ?_ rfl (news1 _ _ _ _) ?_ (by decide) ?_ ?_ ?_ ?_); rfl; rfl; rfl; (intro u hu; simp at hu; rcases hu with rfl | rfl <;> rfl); (simp only [maxLen]; omega); omega; (have := HBEL.out.size; simp; omega); intro g3 cap3 w6 hown3 hgr3 _; have HO3 := Lib.hid hown3; have HG3 := Lib.hid hgr3; clear hown3 hgr3)
            go_roundg (S - (q + 1))
            case measure => have := HGK.out; omega
            case rel =>
              refine ⟨q + 1, m ++ [((q : Int), (q : Int) + 1)], by go_num, by omega, by omega, ?_, HWANT.out.new HYP.out (by omega) HNE.out, ?_⟩
              · have h8 := HO3.out
                rw [List.length_append, flat_append, ← HLEN.out]
                exact h8
              · exact (hb5'.alloc hb5'.size _).grown HG3.out (by have := HBEL.out.size; simp; omega) (fun kk hk => (HO5.out.lt kk hk).1)
          · obtain ⟨m', ⟨a, x⟩, rfl⟩ : ∃ m' y, m = m' ++ [y] := by
              have : m ≠ [] := by intro e; have := HLEN.out; rw [e] at this; simp at this; omega
              exact ⟨m.dropLast, m.getLast this, (List.dropLast_concat_getLast this).symm⟩
            have hLM : LEN = m'.length + 1 := by rw [HLEN.out]; simp
            obtain ⟨M, hM⟩ : ∃ M, M = m'.length := ⟨_, rfl⟩
            obtain rfl : LEN = M + 1 := by omega
            have HM := Lib.hid hM
            obtain ⟨g5, rfl⟩ := HP5.out hpos
            obtain ⟨kx, kf⟩ := want_last HOWN.out (by omega)
            rw [← hM] at kx kf
            have hM1 : ((M + 1 : Nat) : Int) - 1 = (M : Int) := by omega
            clear hLM hM
            by_cases hxq : x = (q : Int)
            · subst hxq
              have HO5 := Lib.hid hown5
              clear hown5
              go_wp2_with fail
              go_roundg (S - (q + 1))
              case measure => have := HGK.out; omega
              case rel =>
                refine ⟨q + 1, m' ++ [(a, (q : Int) + 1)], by go_num, by omega, by omega, ?_, HWANT.out.ext HYP.out (by omega), ?_⟩
                · have h8 := HO5.out
                  rw [HM.out] at h8 ⊢
                  have h9 := want_set (y := (q : Int) + 1) h8
                  have e9 : (m' ++ [(a, (q : Int) + 1)]).length = m'.length + 1 := by simp
                  rw [e9]
                  exact h9
                · exact hb5'.setCell (HO5.out.lt g5 rfl).1 _
            · have HNE := Lib.hid (show ∀ y, (m' ++ [(a, x)]).getLast? = some y → y.2 ≠ (q : Int) from fun y hy => by simp at hy; subst hy; exact hxq)
              obtain ⟨i0, hi0, hi1, hi2, hi3⟩ := info_parts Try.info58
              have HI0 := Lib.hid hi0
              have HI1 := Lib.hid hi1
              have HI2 := Lib.hid hi2
              have HI3 := Lib.hid hi3
              clear hi0 hi1 hi2 hi3
              have HO5 := Lib.hid hown5
              clear hown5
              go_wp2_with ((with_reducible refine wpList_append_ownF _ rfl (.tmp 52) (.tmp 57) 22 rfl W1.heap.size 58 i0 _ 2 16 Try.underlying22 HI0.out HI1.out HI2.out HI3.out ?_ (.slice (some ⟨g5, 0, none⟩) (M + 1) c5) _ (flat (m' ++ [(a, x)])) ?_ (HO5.out.alloc _) ⟨wr.heap.size, 0, none⟩ 1 1 [.int .i64 q, .int .i64 ((q : Int) + 1)] ?_ rfl (news1 _ _ _ _) ?_ (by decide) ?_ ?_ ?_ ?_); rfl; rfl; rfl; (intro u hu; simp at hu; rcases hu with rfl | rfl <;> rfl); (simp only [maxLen]; omega); omega; (have := HBEL.out.size; simp; omega); intro g3 cap3 w6 hown3 hgr3 _; have HO3 := Lib.hid hown3; have HG3 := Lib.hid hgr3; clear hown3 hgr3)
              go_roundg (S - (q + 1))
              case measure => have := HGK.out; omega
              case rel =>
                refine ⟨q + 1, (m' ++ [(a, x)]) ++ [((q : Int), (q : Int) + 1)], by go_num, by omega, by omega, ?_, HWANT.out.new HYP.out (by omega) HNE.out, ?_⟩
                · have h8 := HO3.out
                  rw [List.length_append, flat_append, ← HLEN.out]
                  exact h8
                · exact (hb5'.alloc hb5'.size _).grown HG3.out (by have := HBEL.out.size; simp; omega) (fun kk hk => (HO5.out.lt kk hk).1)
    · obtain rfl : q = S := by omega
      have hp : POST (.returned (.slice p5 LEN c5)) wr := by
        rw [HPOST.out]
        exact ⟨m, _, rfl, HWANT.out, by rw [← HLEN.out]; exact ownsRow_base HOWN.out (by have := HZ1.out; omega), HB1.out.trans (HBEL.out.mono (by have := HZ1.out; omega))⟩
      have HPP := Lib.hid hp
      clear hp
      go_wp2_with fail
      exact HPP.out
end Go.Proofs.Ytjklcecakdmbaaa
