/-
  Contracts of package build: Lacking, Prefix.
-/
import Derived.Test.YtjklcecakdmbaaaB2
namespace Go.Proofs.Ytjklcecakdmbaaa
open Go.RowKit

def LackPost (w : World) (s : BS) (k : Int) (e : Ending) (w' : World) : Prop :=
  ∃ (m : List (Int × Int)) (v' : Value), e = .returned v' ∧ IsMiss s k m ∧ w'.ownsRow w.heap.size 58 2 v' m.length (flat (m.map (spanOf s))) ∧ Below w.heap.size w w'

theorem news1 (w : World) (p q : Value) (t : TypeId) : ∀ j u, [p, q][j]? = some u → (w.alloc (.cells #[p, q] t)).cell? ((⟨w.heap.size, 0, none⟩ : Addr).add j) = some u := by
  intro j u hj
  have hadd : (⟨w.heap.size, 0, none⟩ : Addr).add j = ⟨w.heap.size, j, none⟩ := by unfold Addr.add; split <;> simp_all
  rw [hadd, cell_blk (heap_alloc_new w _)]
  simpa using hj

theorem IsMiss.at {s : BS} {k : Int} {m : List (Int × Int)} (h : IsMiss s k m) {j : Nat} {x y : Int} (hx : m[j]? = some (x, y)) : ∃ x' y' : Nat, x = x' ∧ y = y' ∧ x' < y' ∧ y' ≤ nblk s.S s.B := by
  have h1 := h.wf.at hx
  simp only at h1
  have h2 := (h.mem (y - 1)).1 ⟨(x, y), List.mem_of_getElem? hx, by simp only; omega, by simp only; omega⟩
  unfold missP at h2
  exact ⟨x.toNat, y.toNat, by omega, by omega, by omega, by omega⟩

set_option maxHeartbeats 1600000 in
set_option maxRecDepth 100000 in
theorem lacking_any (β : BI) (s : BS) (k : Int) (w : World) (hb : BuildAt w β s) :
    Calls Try.prog 52 #[.pointer (some ⟨β.b, 0, none⟩), .int .i64 k] w (LackPost w s k) := by
  have HM := Lib.hid (missing_any β s k w hb)
  have HBA := Lib.hid hb
  have HSP := Lib.hid (fun x y w' hb2 h1 h2 => span_any β s x y w' hb2 h1 h2)
  obtain ⟨POST, hPOST⟩ : ∃ POST, POST = LackPost w s k := ⟨_, rfl⟩
  rw [← hPOST]
  have HPOST := Lib.hid hPOST
  obtain ⟨bb, hbb⟩ : ∃ bb, bb = β.b := ⟨_, rfl⟩
  rw [← hbb] at HM HSP ⊢
  obtain ⟨i0, hi0, hi1, hi2, hi3⟩ := info_parts Try.info58
  have HI0 := Lib.hid hi0
  have HI1 := Lib.hid hi1
  have HI2 := Lib.hid hi2
  have HI3 := Lib.hid hi3
  clear hb hbb hPOST hi0 hi1 hi2 hi3
  go_enter Try.func52, Try.ntmps52
  go_wp2_with fail
  refine HM.out.mono ?_
  rintro e w1 ⟨m, rv, rfl, hm, hown, hb1⟩
  have hform := ownsRow_formN (ownsRow_base hown (Nat.zero_le _))
  have HMM := Lib.hid hm
  have HRO := Lib.hid hown
  clear hm hown
  obtain ⟨len, hlen⟩ : ∃ len, len = m.length := ⟨_, rfl⟩
  rw [← hlen] at hform
  have HLEN := Lib.hid hlen
  clear hlen
  rcases hform with ⟨rfl, hz, _⟩ | ⟨g, cap, rfl, hg, hcap, hcm⟩
  · have hmn : m = [] := List.eq_nil_of_length_eq_zero (by rw [← HLEN.out]; exact hz)
    have hp : POST (.returned (.slice none 0 0)) w1 := by
      rw [HPOST.out]
      exact ⟨m, _, rfl, HMM.out, by rw [hmn]; exact World.ownsRow_nil _ _ _ _, hb1⟩
    have HP := Lib.hid hp
    clear hp hmn hz
    go_wp2_with fail
    refine wp_loop_rounds 1 ?_
    rw [rounds_succ]
    go_wp2_with fail
    exact HP.out
  · have hlen16 : len ≤ 16384 := by rw [HLEN.out]; exact HMM.out.wf.len
    have hgb : w.heap.size ≤ g := (HRO.out.lt g rfl).1
    go_wp2_with fail
    go_loopg [5, 12] len (fun gk vq i wr => ∃ (j : Nat), i = .int .i64 j ∧ gk + j = len ∧ j ≤ len ∧ wr.ownsRow w.heap.size 58 2 vq j (flat ((m.take j).map (spanOf s))) ∧ (∀ i, vq.ownBlock = some i → i ≠ g) ∧
        Below w.heap.size w wr ∧ wr.ownsRow 0 58 2 (.slice (some ⟨g, 0, none⟩) len cap) len (flat m))
    case atStart =>
      refine ⟨0, rfl, rfl, by omega, World.ownsRow_nil _ _ _ _, (fun i e => by cases e), hb1, ?_⟩
      have := ownsRow_base HRO.out (Nat.zero_le _)
      rw [← HLEN.out] at this
      exact this
    case round =>
      obtain ⟨j, rfl, hgk, hj, hvo, hvg, hbel, hmo⟩ := hrel
      have HGK := Lib.hid hgk
      have HVO := Lib.hid hvo
      have HVG := Lib.hid hvg
      have HMO := Lib.hid hmo
      clear hgk hvo hvg hmo
      by_cases hlt2 : j < len
      · obtain ⟨⟨x, y⟩, hx⟩ : ∃ x, m[j]? = some x := ⟨_, List.getElem?_eq_getElem (by have := HLEN.out; omega)⟩
        obtain ⟨x', y', rfl, rfl, hxy, hyn⟩ := HMM.out.at hx
        have hcc := cells_of_own HMO.out
        have k0 : wr.cell? ⟨g, j * 2, none⟩ = some (.int .i64 x') := (hcc j _ hx).1
        have k1 : wr.cell? ⟨g, j * 2 + 1, none⟩ = some (.int .i64 y') := (hcc j _ hx).2
        have HX := Lib.hid hx
        have hbl : Below w.heap.size w (wr.alloc (.cells #[.int .i64 x', .int .i64 y'] 58)) := hbel.alloc hbel.size _
        have HC := Lib.hid (HSP.out x' y' (wr.alloc (.cells #[.int .i64 x', .int .i64 y'] 58)) (HBA.out.below hbl) hxy hyn)
        obtain ⟨A, hA⟩ : ∃ A, A = (spanOf s (↑x', ↑y')).1 := ⟨_, rfl⟩
        obtain ⟨C, hC⟩ : ∃ C, C = (spanOf s (↑x', ↑y')).2 := ⟨_, rfl⟩
        rw [← hA, ← hC] at HC
        have HA := Lib.hid hA
        have HCC := Lib.hid hC
        clear hx hcc hA hC hxy hyn
        go_wp2_with fail
        refine HC.out.mono ?_
        rintro e w4 ⟨rfl, hb4⟩
        have ho4 : w4.ownsRow w.heap.size 58 2 u5 j (flat ((m.take j).map (spanOf s))) := ownsRow_keeps (S := fun _ => False) (HVO.out.alloc _) (Keeps.of_below hb4) (fun _ _ e => e)
        have hm4 : w4.ownsRow 0 58 2 (.slice (some ⟨g, 0, none⟩) len cap) len (flat m) := ownsRow_keeps (S := fun _ => False) (HMO.out.alloc _) (Keeps.of_below hb4) (fun _ _ e => e)
        have hbl4 : Below w.heap.size w w4 := hbl.trans (hb4.mono hbl.size)
        have HO4 := Lib.hid ho4
        have HM4 := Lib.hid hm4
        have HSZ := Lib.hid (lt_blk (ownsRow_open hm4).choose_spec.1)
        clear ho4 hm4
        go_wp2_with ((with_reducible refine wpList_append_ownF _ rfl (.tmp 16) (.tmp 20) 22 rfl w.heap.size 58 i0 _ 2 16 Try.underlying22 HI0.out HI1.out HI2.out HI3.out ?_ _ _ _ ?_ (HO4.out.alloc _) ⟨w4.heap.size, 0, none⟩ 1 1 [.int .i64 A, .int .i64 C] ?_ rfl (news1 _ _ _ _) ?_ (by decide) ?_ ?_ ?_ ?_); rfl; rfl; rfl; (intro u hu; simp at hu; rcases hu with rfl | rfl <;> rfl); (simp only [maxLen]; omega); omega; (have := hbl4.size; simp; omega); intro g3 cap3 w3 hown3 hgr3 hor3; have HO3 := Lib.hid hown3; have HG3 := Lib.hid hgr3; have HR3 := Lib.hid hor3; clear hown3 hgr3 hor3)
        go_roundg (len - (j + 1))
        case measure => have := HGK.out; omega
        case rel =>
          refine ⟨j + 1, by go_num, by omega, by omega, ?_, ?_, ?_, ?_⟩
          · have h8 := HO3.out
            have e1 : flat ((m.take (j + 1)).map (spanOf s)) = flat ((m.take j).map (spanOf s)) ++ [.int .i64 A, .int .i64 C] := by
              obtain ⟨hjl, ej⟩ := List.getElem?_eq_some_iff.1 HX.out
              rw [List.take_succ_eq_append_getElem hjl, List.map_append, flat_append, ej, HA.out, HCC.out]
              rfl
            rw [e1]
            exact h8
          · intro i e
            cases e
            show g3 ≠ g
            rcases HR3.out with h | h
            · exact HVG.out g3 h
            · have := HSZ.out; simp at h; omega
          · exact (hbl4.alloc hbl4.size _).grown HG3.out (by have := hbl4.size; simp; omega) (fun i e => (HO4.out.lt i e).1)
          · refine ownsRow_keeps (S := fun i => u5.ownBlock = some i) (HM4.out.alloc _) (Keeps.of_grown HG3.out (fun i e => e)) ?_
            intro i e e2
            cases e
            exact HVG.out g e2 rfl
      · obtain rfl : j = len := by omega
        have hp : POST (.returned u5) wr := by
          rw [HPOST.out]
          refine ⟨m, _, rfl, HMM.out, ?_, hbel⟩
          have := HVO.out
          rw [List.take_of_length_le (by rw [HLEN.out]; exact Nat.le_refl _)] at this
          rw [← HLEN.out]
          exact this
        have HP := Lib.hid hp
        clear hp
        go_wp2_with fail
        exact HP.out

def PrefPost (w : World) (s : BS) (e : Ending) (w' : World) : Prop :=
  ∃ m : List (Int × Int), IsMiss s s.L m ∧ e = .returned (.int .i64 (match m with | [] => (s.S : Int) | x :: _ => (spanOf s x).1)) ∧ Below w.heap.size w w'

set_option maxHeartbeats 800000 in
theorem prefix_any (β : BI) (s : BS) (w : World) (hb : BuildAt w β s) :
    Calls Try.prog 28 #[.pointer (some ⟨β.b, 0, none⟩)] w (PrefPost w s) := by
  have HM := Lib.hid (lacking_any β s s.L w hb)
  have HBA := Lib.hid hb
  obtain ⟨POST, hPOST⟩ : ∃ POST, POST = PrefPost w s := ⟨_, rfl⟩
  rw [← hPOST]
  have HPOST := Lib.hid hPOST
  obtain ⟨bb, hbb⟩ : ∃ bb, bb = β.b := ⟨_, rfl⟩
  obtain ⟨p, hp⟩ : ∃ p, p = β.p := ⟨_, rfl⟩
  have hblk := hb.blk
  rw [← hbb, ← hp] at hblk
  rw [← hbb] at HM ⊢
  have hlt : bb < w.heap.size := lt_blk hblk
  have c0 : w.cell? ⟨bb, 0, none⟩ = some (.pointer (some ⟨p, 0, none⟩)) := by rw [cell_blk hblk]; rfl
  have HPL := Lib.hid (show PlanAt w p s.S s.B s.L by rw [hp]; exact hb.plan)
  clear hb hbb hp hblk hPOST
  go_enter Try.func28, Try.ntmps28
  go_wp2_with fail
  refine (layers_any p s.S s.B s.L w HPL.out).mono ?_
  rintro e w0 ⟨rfl, rfl⟩
  go_wp2_with fail
  refine HM.out.mono ?_
  rintro e w1 ⟨m, rv, rfl, hm, hown, hb1⟩
  have HMM := Lib.hid hm
  have d0 : w1.cell? ⟨bb, 0, none⟩ = some (.pointer (some ⟨p, 0, none⟩)) := (hb1.cell (p := ⟨bb, 0, none⟩) hlt).trans c0
  have hform := ownsRow_formN (ownsRow_base hown (Nat.zero_le _))
  have HPL1 := Lib.hid (HPL.out.below hb1)
  have HRO := Lib.hid hown
  clear hm hown
  cases m with
  | nil =>
    have hp : POST (.returned (.int .i64 s.S)) w1 := by
      rw [HPOST.out]
      exact ⟨[], HMM.out, rfl, hb1⟩
    have HP := Lib.hid hp
    clear hp
    rcases hform with ⟨rfl, _, _⟩ | ⟨g, cap, rfl, _, hcap, _⟩
    · go_wp2_with fail
      refine (size_any p s.S s.B s.L w1 HPL1.out).mono ?_
      rintro e w2 ⟨rfl, rfl⟩
      go_wp2_with fail
      exact HP.out
    · go_wp2_with fail
      refine (size_any p s.S s.B s.L w1 HPL1.out).mono ?_
      rintro e w2 ⟨rfl, rfl⟩
      go_wp2_with fail
      exact HP.out
  | cons x r =>
    have hp : POST (.returned (.int .i64 (spanOf s x).1)) w1 := by
      rw [HPOST.out]
      exact ⟨x :: r, HMM.out, rfl, hb1⟩
    have HP := Lib.hid hp
    clear hp
    rcases hform with ⟨rfl, hz, _⟩ | ⟨g, cap, rfl, _, hcap, hcm⟩
    · simp at hz
    · have hro : w1.ownsRow 0 58 2 (.slice (some ⟨g, 0, none⟩) (x :: r).length cap) (x :: r).length (flat ((x :: r).map (spanOf s))) := ownsRow_base HRO.out (Nat.zero_le _)
      have k0 : w1.cell? ⟨g, 0, none⟩ = some (.int .i64 (spanOf s x).1) := (cells_of_own hro 0 _ rfl).1
      obtain ⟨A, hA⟩ : ∃ A, A = (spanOf s x).1 := ⟨_, rfl⟩
      rw [← hA] at k0 HP
      obtain ⟨len, hlen⟩ : ∃ len, len = r.length := ⟨_, rfl⟩
      have e1 : (x :: r).length = len + 1 := by rw [hlen]; rfl
      rw [e1] at hcap ⊢
      clear hro hA hlen e1
      have hz1 : (((len + 1 : Nat) : Int) == 0) = false := by simp; omega
      have hz2 : (0 : Int) < ((len + 1 : Nat) : Int) := by omega
      go_wp2_with fail
      exact HP.out
end Go.Proofs.Ytjklcecakdmbaaa
