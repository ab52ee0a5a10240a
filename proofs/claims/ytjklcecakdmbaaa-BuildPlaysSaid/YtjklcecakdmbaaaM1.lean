/-
  The law BuildMissing: the walk of the law's own function.
-/
import Derived.Test.YtjklcecakdmbaaaC4
import Derived.Test.YtjklcecakdmbaaaOwn
import Derived.StillTailTactics
namespace Go.Proofs.Ytjklcecakdmbaaa
open Go.RowKit

theorem own_below {w w' : World} {base e size n : Nat} {v : Value} {xs : List Value} (h : w.ownsRow base e size v n xs) (hb : Below w.heap.size w w') : w'.ownsRow base e size v n xs :=
  ownsRow_keeps (S := fun _ => False) h (Keeps.of_below hb) (fun _ _ e => e)
theorem own_raise {w : World} {base e size g n cap : Nat} {xs : List Value} (h : w.ownsRow 0 e size (.slice (some ⟨g, 0, none⟩) n cap) n xs) (hb : base ≤ g) : w.ownsRow base e size (.slice (some ⟨g, 0, none⟩) n cap) n xs := by
  obtain ⟨h1, h2⟩ := h
  refine ⟨h1, ?_⟩
  rcases h2 with ⟨h2, _⟩ | ⟨g', cap', cur, hv, _, r⟩
  · cases h2
  · cases hv; exact .inr ⟨g, cap, cur, rfl, hb, r⟩
theorem want_set {w : World} {base g cap : Nat} {m : List (Int × Int)} {a x y : Int} (h : w.ownsRow base 58 2 (.slice (some ⟨g, 0, none⟩) (m.length + 1) cap) (m.length + 1) (flat (m ++ [(a, x)]))) :
    (w.setCell ⟨g, m.length * 2 + 1, none⟩ (.int .i64 y)).ownsRow base 58 2 (.slice (some ⟨g, 0, none⟩) (m.length + 1) cap) (m.length + 1) (flat (m ++ [(a, y)])) := by
  have hb := (h.lt g rfl).1
  obtain ⟨tail, hg, h1, h2, h3, h4⟩ := ownsRow_open (ownsRow_base h (Nat.zero_le _))
  refine own_raise ?_ hb
  have hl : (flat m).length = m.length * 2 := by rw [flat_length]
  have hset : (flat (m ++ [(a, x)]) ++ tail).set (m.length * 2 + 1) (.int .i64 y) = flat (m ++ [(a, y)]) ++ tail := by
    rw [flat_append, flat_append]
    have e1 : flat m ++ flat [(a, x)] ++ tail = flat m ++ (.int .i64 a :: .int .i64 x :: tail) := by simp [flat]
    have e2 : flat m ++ flat [(a, y)] ++ tail = flat m ++ (.int .i64 a :: .int .i64 y :: tail) := by simp [flat]
    rw [e1, e2, List.set_append_right _ _ (by omega)]
    congr 1
    rw [show m.length * 2 + 1 - (flat m).length = 1 by omega]
    rfl
  have hg2 : (w.setCell ⟨g, m.length * 2 + 1, none⟩ (.int .i64 y)).heap[g]? = some (.cells (flat (m ++ [(a, y)]) ++ tail).toArray 58 (0, 0)) := by
    rw [heap_setCell_same w g _ _ 58 _ hg, ← hset]
    congr 2
    apply Array.ext'
    simp
  refine ownsRow_shut hg2 ?_ ?_ h3 h4
  · rw [List.length_append] at h1 ⊢; rw [flat_length] at h1 ⊢; simpa using h1
  · rw [flat_length]; simp
theorem want_last {w : World} {base g cap n : Nat} {m : List (Int × Int)} {a x : Int} (h : w.ownsRow base 58 2 (.slice (some ⟨g, 0, none⟩) n cap) n (flat (m ++ [(a, x)]))) (hn : n = m.length + 1) :
    w.cell? ⟨g, m.length * 2 + 1, none⟩ = some (.int .i64 x) ∧ w.frozen? ⟨g, m.length * 2 + 1, none⟩ = false := by
  subst hn
  obtain ⟨tail, hg, _⟩ := ownsRow_open (ownsRow_base h (Nat.zero_le _))
  refine ⟨?_, frozen_blk hg _⟩
  have := (cells_of_own (l := m ++ [(a, x)]) (ownsRow_base h (Nat.zero_le _))) m.length (a, x) (by simp)
  exact this.2

set_option maxHeartbeats 1600000 in
set_option maxRecDepth 100000 in
theorem missing_yes (S B L : Nat) (k : Int) (p : Option Addr) (n cap : Nat) (ops : List OpD) (w : World) (hops : OpsAt w p ops) (hl : ops.length = n) (hn : n ≤ cap) (_hcap : cap ≤ 9223372036854775807) (hr : rightZ S B L n) :
    Calls Try.prog 5 #[zAgg S B L (.slice p n cap), .int .i64 k] w fun e w' => e = .returned (.bool true) ∧ Below w.heap.size w w' := by
  obtain ⟨POST, hPOST⟩ : ∃ POST : Ending → World → Prop, POST = fun e w' => e = .returned (.bool true) ∧ Below w.heap.size w w' := ⟨_, rfl⟩
  rw [← hPOST]
  have HPOST := Lib.hid hPOST
  have hrp : rightPlan S B L := by unfold rightZ at hr; unfold rightPlan; omega
  have hn60 : n ≤ 60 := hr.2.2.2.2.2.2
  have HR := Lib.hid (fun w' => right26_any S B L p n cap w' (by omega))
  have HNEW := Lib.hid (fun w' => new_yes S B L w' hrp)
  have hd : decide (rightZ S B L n) = true := by simp [hr]
  rw [hd] at HR
  have HOPS := Lib.hid hops
  have HL := Lib.hid hl
  clear hPOST hops hl hd hr hrp
  unfold zAgg at HR ⊢
  go_enter Try.func5, Try.ntmps5
  go_wp2_with fail
  refine (HR.out _).mono ?_
  rintro e w1 ⟨rfl, hb1⟩
  obtain ⟨zb, hzb⟩ : ∃ zb, zb = w.heap.size := ⟨_, rfl⟩
  have hz : w1.heap[zb]? = some (.cells #[.int .i64 S, .int .i64 B, .int .i64 L, .slice p n cap] 41 (0, 0)) := by rw [hzb]; exact (hb1.block _ (by simp)).trans (heap_alloc_new w _)
  have hbw1 : Below w.heap.size w w1 := ((Below.refl _ _).alloc (Nat.le_refl _) _).trans (hb1.mono (by simp))
  rw [← hzb]
  have z0 : w1.cell? ⟨zb, 0, none⟩ = some (.int .i64 S) := by rw [cell_blk hz]; rfl
  have z1 : w1.cell? ⟨zb, 1, none⟩ = some (.int .i64 B) := by rw [cell_blk hz]; rfl
  have z2 : w1.cell? ⟨zb, 2, none⟩ = some (.int .i64 L) := by rw [cell_blk hz]; rfl
  have HZ := Lib.hid hz
  have HZB := Lib.hid hzb
  have HNEW1 := Lib.hid (HNEW.out w1)
  clear hz hzb hb1
  go_wp2_with fail
  refine HNEW1.out.mono ?_
  rintro e w2 ⟨β, rfl, hb2, hbel2, hf2⟩
  obtain ⟨b, hbb⟩ : ∃ b, b = β.b := ⟨_, rfl⟩
  have HRUN2 := Lib.hid (show Run w1 w2 b β (BS.init S B L) S B L 0 from ⟨hb2, hbb.symm, hf2, hbel2, rfl, rfl, rfl, rfl, Nat.le_refl _⟩)
  have HPLAN := Lib.hid (plan_any β _ w2 hb2)
  rw [← hbb] at HPLAN ⊢
  obtain ⟨pp, hpp⟩ : ∃ pp, pp = β.p := ⟨_, rfl⟩
  rw [← hpp] at HPLAN
  clear hbb hb2 hf2 hpp
  have y3 : w2.cell? ⟨zb, 3, none⟩ = some (.slice p n cap) := (hbel2.cell (p := ⟨zb, _, none⟩) (lt_blk HZ.out)).trans (by rw [cell_blk HZ.out]; rfl)
  clear z0 z1 z2
  go_wp2_with fail
  refine HPLAN.out.mono ?_
  rintro e w2' ⟨rfl, rfl⟩
  go_wp2_with fail
  go_loopg [40] n (fun gk x wr => ∃ (j : Nat) (β : BI) (s : BS), x = .int .i64 j ∧ gk + j = n ∧ j ≤ n ∧ Run w1 wr b β s S B L j)
  case atStart => exact ⟨0, _, _, rfl, by omega, by omega, HRUN2.out⟩
  case round =>
    obtain ⟨j, β', s', rfl, hgk, hj, hrun⟩ := hrel
    have HGK := Lib.hid hgk
    have HRUN := Lib.hid hrun
    clear hgk hrun
    by_cases hlt : j < n
    · obtain ⟨o, ho⟩ : ∃ o, ops[j]? = some o := ⟨_, List.getElem?_eq_getElem (by have := HL.out; omega)⟩
      obtain ⟨a, rfl⟩ : ∃ a, p = some a := by
        cases hp : p with
        | none => have h1 := HOPS.out.nil hp; rw [h1] at ho; cases ho
        | some a => exact ⟨a, rfl⟩
      obtain ⟨h1, h2, h3, h4, h5, h6, h7, h8, h9, _⟩ := HOPS.out.at_ a rfl j o ho
      obtain ⟨ab, aoff, asp⟩ := a
      simp only at h1 h2 h3 h4 h5 h6
      subst h1
      obtain ⟨ok, ob, ot, oao, on, ocap, otb⟩ := o
      simp only at h3 h4 h5 h6 h7 h8 h9
      have hbr : Below w.heap.size w wr := hbw1.trans (HRUN.out.below.mono hbw1.size)
      have k0 := (hbr.cell (p := ⟨ab, aoff + j * 4, none⟩) h2).trans h3
      have k1 := (hbr.cell (p := ⟨ab, aoff + j * 4 + 1, none⟩) h2).trans h4
      have k2 := (hbr.cell (p := ⟨ab, aoff + j * 4 + 2, none⟩) h2).trans h5
      have k3 := (hbr.cell (p := ⟨ab, aoff + j * 4 + 3, none⟩) h2).trans h6
      have HT := Lib.hid h7
      clear h3 h4 h5 h6 h7 ho
      by_cases hk1 : ok = 1
      · subst hk1
        have hrunW := HRUN.out.quiet ((Below.refl _ _).alloc (Nat.le_refl _) (.cells #[.int .i64 1, .int .i64 ob, .int .i64 ot, .slice oao on ocap] 48))
        have HPUT := Lib.hid (put_any β' s' ob ot oao on ocap otb _ hrunW.at_ (by simp only [maxLen] at h9; omega) (HT.out.keeps (T := fun _ => False) (Keeps.of_below (show Below w.heap.size w _ from hbr.alloc hbr.size _)) (fun _ _ e => e)) (fun ad e hp hf => by
          have h10 := hrunW.foot _ hf
          rw [e] at HT
          have h11 := HT.out.lt hp
          have h12 := hbw1.size
          omega) (by have := hrunW.G; omega))
        rw [hrunW.b] at HPUT
        have HRW := Lib.hid hrunW
        clear hrunW
        go_wp2_with fail
        refine HPUT.out.mono ?_
        intro e w3 hp3
        obtain ⟨c, β3, s3, rfl, _, hrun3, _⟩ := HRW.out.put hp3
        have HRUN3 := Lib.hid hrun3
        clear hrun3 hp3
        go_wp2_with fail
        go_roundg (n - (j + 1))
        case measure => have := HGK.out; omega
        case rel => exact ⟨j + 1, β3, s3, by go_num, by omega, by omega, HRUN3.out⟩
      · have hrunW := HRUN.out.quiet ((Below.refl _ _).alloc (Nat.le_refl _) (.cells #[.int .i64 ok, .int .i64 ob, .int .i64 ot, .slice oao on ocap] 48))
        have HRW := Lib.hid hrunW
        clear hrunW
        go_wp2_with fail
        go_roundg (n - (j + 1))
        case measure => have := HGK.out; omega
        case rel => exact ⟨j + 1, β', s', by go_num, by omega, by omega, HRW.out.more (Nat.le_succ _)⟩
    · obtain rfl : j = n := by omega
      obtain ⟨wo, rfl⟩ : ∃ wo : World, wo = wr := ⟨_, rfl⟩
      obtain ⟨go, rfl⟩ : ∃ go : Nat, go = gk := ⟨_, rfl⟩
      have hba := HRUN.out.at_
      have hbo : Below w.heap.size w wo := hbw1.trans (HRUN.out.below.mono hbw1.size)
      have HPL2 := Lib.hid (plan_any β' s' wo hba)
      have hbn := HRUN.out.b
      obtain ⟨p2, hp2⟩ : ∃ p2, p2 = β'.p := ⟨_, rfl⟩
      have hplan := hba.plan
      rw [HRUN.out.S, HRUN.out.B, HRUN.out.L, ← hp2] at hplan
      have HBL := Lib.hid (blocks_any p2 S B L wo hplan)
      rw [hbn, ← hp2] at HPL2
      have hNb := (nblk_bound hplan.s hplan.b.1).1
      obtain ⟨N, hN⟩ : ∃ N, N = nblk S B := ⟨_, rfl⟩
      have HN := Lib.hid hN
      have HBA := Lib.hid hba
      rw [← hN] at HBL hNb
      have HHAS := Lib.hid (fun (q : Nat) w' h hq => bhas_any β' s' q w' h (by omega) hq)
      rw [hbn] at HHAS
      have HLAY := Lib.hid (fun (q : Nat) w' => refLayer_any q L w' hplan.l.1 hplan.l.2)
      have HMISS := Lib.hid (fun w' h => missing_any β' s' k w' h)
      rw [hbn] at HMISS
      have HPK := Lib.hid (show ∀ q : Nat, q < N → (missP s' k q ↔ hasB s'.l q = false ∧ ((layerN q L : Nat) : Int) ≤ k) from fun q hq => by
        unfold missP
        rw [HRUN.out.S, HRUN.out.B, HRUN.out.L, ← HN.out, ← hasB_iff]
        simp
        constructor
        · rintro ⟨_, h2, h3⟩; exact ⟨h3, h2⟩
        · rintro ⟨h1, h2⟩; exact ⟨hq, h2, h1⟩)
      clear hba hplan hp2 hN hbn
      go_wp2_with fail
      refine HPL2.out.mono ?_
      rintro e wo' ⟨rfl, rfl⟩
      go_wp2_with fail
      refine HBL.out.mono ?_
      rintro e wp ⟨rfl, hd⟩
      have hbp := hd.below
      clear hd
      go_wp2_with fail
      go_loopg [59, 9] N (fun gk x v wr => ∃ (j : Nat) (m : List (Int × Int)), x = .int .i64 j ∧ gk + j = N ∧ j ≤ N ∧ wr.ownsRow wo.heap.size 58 2 v m.length (flat m) ∧ WantTo m (missP s' k) j ∧ Below wo.heap.size wo wr)
      case atStart => exact ⟨0, [], rfl, by omega, by omega, World.ownsRow_nil _ _ _ _, ⟨Wf.nil, fun n => ⟨fun h => absurd h (inS_nil n), fun ⟨h1, h2⟩ => by have := h1.1; omega⟩⟩, hbp⟩
      case round =>
        obtain ⟨q, m, rfl, hgk, hq, hown, hwant, hbel⟩ := hrel
        have HGK2 := Lib.hid hgk
        have HOWN := Lib.hid hown
        have HWANT := Lib.hid hwant
        have HBQ := Lib.hid (HBA.out.below hbel)
        clear hgk hown hwant
        by_cases hltq : q < N
        · have HHQ := Lib.hid (HHAS.out q wr HBQ.out (by omega))
          have z2 : wr.cell? ⟨zb, 2, none⟩ = some (.int .i64 L) := by
            refine ((hbel.cell (p := ⟨zb, _, none⟩) ?_).trans (HRUN.out.below.cell (p := ⟨zb, _, none⟩) (lt_blk HZ.out))).trans (by rw [cell_blk HZ.out]; rfl)
            exact Nat.lt_of_lt_of_le (lt_blk HZ.out) HRUN.out.below.size
          cases hhas : hasB s'.l q with
          | true =>
            rw [hhas] at HHQ
            have hnp : ¬ missP s' k q := fun h => by rw [(HPK.out q hltq).1 h |>.1] at hhas; cases hhas
            have HNP := Lib.hid hnp
            clear hnp hhas
            go_wp2_with fail
            refine HHQ.out.mono ?_
            rintro e w5 ⟨rfl, hb5⟩
            go_wp2_with fail
            go_roundg (N - (q + 1))
            case measure => have := HGK2.out; omega
            case rel => exact ⟨q + 1, m, by go_num, by omega, by omega, own_below HOWN.out hb5, HWANT.out.skip HNP.out, hbel.trans (hb5.mono hbel.size)⟩
          | false =>
            rw [hhas] at HHQ
            obtain ⟨lay, hlay⟩ : ∃ lay, lay = layerN q L := ⟨_, rfl⟩
            have HLQ := Lib.hid (fun w' => HLAY.out q w')
            rw [← hlay] at HLQ
            by_cases hgt : k < (lay : Int)
            · have hnp : ¬ missP s' k q := fun h => by have := ((HPK.out q hltq).1 h).2; rw [← hlay] at this; omega
              have HNP := Lib.hid hnp
              clear hnp hhas hlay
              go_wp2_with fail
              refine HHQ.out.mono ?_
              rintro e w5 ⟨rfl, hb5⟩
              have z2' : w5.cell? ⟨zb, 2, none⟩ = some (.int .i64 L) := (hb5.cell (p := ⟨zb, _, none⟩) (cell_lt z2).1).trans z2
              go_wp2_with fail
              refine (HLQ.out _).mono ?_
              rintro e w5' ⟨rfl, rfl⟩
              go_wp2_with fail
              go_roundg (N - (q + 1))
              case measure => have := HGK2.out; omega
              case rel => exact ⟨q + 1, m, by go_num, by omega, by omega, own_below HOWN.out hb5, HWANT.out.skip HNP.out, hbel.trans (hb5.mono hbel.size)⟩
            · have hyp : missP s' k q := (HPK.out q hltq).2 ⟨hhas, by rw [← hlay]; omega⟩
              have HYP := Lib.hid hyp
              clear hyp hhas hlay
              go_wp2_with fail
              refine HHQ.out.mono ?_
              rintro e w5 ⟨rfl, hb5⟩
              have z2' : w5.cell? ⟨zb, 2, none⟩ = some (.int .i64 L) := (hb5.cell (p := ⟨zb, _, none⟩) (cell_lt z2).1).trans z2
              have hown5 := own_below HOWN.out hb5
              have hb5' := hbel.trans (hb5.mono hbel.size)
              go_wp2_with fail
              refine (HLQ.out _).mono ?_
              rintro e w5' ⟨rfl, rfl⟩
              obtain ⟨LEN, hLEN⟩ : ∃ LEN, LEN = m.length := ⟨_, rfl⟩
              have HLEN := Lib.hid hLEN
              rw [← hLEN] at hown5
              have hlen16 : LEN ≤ 16384 := by rw [hLEN]; exact HWANT.out.wf.len
              clear hLEN
              rcases ownsRow_formN (ownsRow_base hown5 (Nat.zero_le _)) with ⟨rfl, rfl, _⟩ | ⟨g, cp, rfl, hg, hgc, hgm⟩
              · have hm0 : m = [] := List.eq_nil_of_length_eq_zero HLEN.out.symm
                have HNE := Lib.hid (show ∀ x, m.getLast? = some x → x.2 ≠ (q : Int) from fun x hx => by rw [hm0] at hx; cases hx)
                clear hm0
                obtain ⟨i0, hi0, hi1, hi2, hi3⟩ := info_parts Try.info58
                have HI0 := Lib.hid hi0
                have HI1 := Lib.hid hi1
                have HI2 := Lib.hid hi2
                have HI3 := Lib.hid hi3
                have HO5 := Lib.hid hown5
                clear hown5 hi0 hi1 hi2 hi3
                go_wp2_with ((with_reducible refine wpList_append_ownF _ rfl (.tmp 96) (.tmp 101) 22 rfl wo.heap.size 58 i0 _ 2 16 Try.underlying22 HI0.out HI1.out HI2.out HI3.out ?_ (.slice none 0 0) _ (flat m) ?_ (HO5.out.alloc _) ⟨w5.heap.size, 0, none⟩ 1 1 [.int .i64 q, .int .i64 ((q : Int) + 1)] ?_ rfl (news1 _ _ _ _) ?_ (by decide) ?_ ?_ ?_ ?_); rfl; rfl; rfl; (intro u hu; simp at hu; rcases hu with rfl | rfl <;> rfl); (simp only [maxLen]; omega); omega; (have := hb5'.size; simp; omega); intro g3 cap3 w6 hown3 hgr3 _; have HO3 := Lib.hid hown3; have HG3 := Lib.hid hgr3; clear hown3 hgr3)
                go_roundg (N - (q + 1))
                case measure => have := HGK2.out; omega
                case rel =>
                  refine ⟨q + 1, m ++ [((q : Int), (q : Int) + 1)], by go_num, by omega, by omega, ?_, HWANT.out.new HYP.out (by omega) HNE.out, ?_⟩
                  · have h8 := HO3.out
                    rw [List.length_append, flat_append, ← HLEN.out]
                    exact h8
                  · exact (hb5'.alloc hb5'.size _).grown HG3.out (by have := hb5'.size; simp; omega) (fun kk hk => (HO5.out.lt kk hk).1)
              · rcases Nat.eq_zero_or_pos LEN with rfl | hpos
                · have hm0 : m = [] := List.eq_nil_of_length_eq_zero HLEN.out.symm
                  have HNE := Lib.hid (show ∀ x, m.getLast? = some x → x.2 ≠ (q : Int) from fun x hx => by rw [hm0] at hx; cases hx)
                  clear hm0
                  obtain ⟨i0, hi0, hi1, hi2, hi3⟩ := info_parts Try.info58
                  have HI0 := Lib.hid hi0
                  have HI1 := Lib.hid hi1
                  have HI2 := Lib.hid hi2
                  have HI3 := Lib.hid hi3
                  have HO5 := Lib.hid hown5
                  clear hown5 hi0 hi1 hi2 hi3
                  go_wp2_with ((with_reducible refine wpList_append_ownF _ rfl (.tmp 96) (.tmp 101) 22 rfl wo.heap.size 58 i0 _ 2 16 Try.underlying22 HI0.out HI1.out HI2.out HI3.out ?_ (.slice (some ⟨g, 0, none⟩) 0 cp) _ (flat m) ?_ (HO5.out.alloc _) ⟨w5.heap.size, 0, none⟩ 1 1 [.int .i64 q, .int .i64 ((q : Int) + 1)] ?_ rfl (news1 _ _ _ _) ?_ (by decide) ?_ ?_ ?_ ?_); rfl; rfl; rfl; (intro u hu; simp at hu; rcases hu with rfl | rfl <;> rfl); (simp only [maxLen]; omega); omega; (have := hb5'.size; simp; omega); intro g3 cap3 w6 hown3 hgr3 _; have HO3 := Lib.hid hown3; have HG3 := Lib.hid hgr3; clear hown3 hgr3)
                  go_roundg (N - (q + 1))
                  case measure => have := HGK2.out; omega
                  case rel =>
                    refine ⟨q + 1, m ++ [((q : Int), (q : Int) + 1)], by go_num, by omega, by omega, ?_, HWANT.out.new HYP.out (by omega) HNE.out, ?_⟩
                    · have h8 := HO3.out
                      rw [List.length_append, flat_append, ← HLEN.out]
                      exact h8
                    · exact (hb5'.alloc hb5'.size _).grown HG3.out (by have := hb5'.size; simp; omega) (fun kk hk => (HO5.out.lt kk hk).1)
                · obtain ⟨m', ⟨a, x⟩, rfl⟩ : ∃ m' y, m = m' ++ [y] := by
                    have : m ≠ [] := by intro e; have := HLEN.out; rw [e] at this; simp at this; omega
                    exact ⟨m.dropLast, m.getLast this, (List.dropLast_concat_getLast this).symm⟩
                  have hLM : LEN = m'.length + 1 := by rw [HLEN.out]; simp
                  obtain ⟨M, hM⟩ : ∃ M, M = m'.length := ⟨_, rfl⟩
                  obtain rfl : LEN = M + 1 := by omega
                  have HM := Lib.hid hM
                  obtain ⟨kx, kf⟩ := want_last hown5 (by omega)
                  rw [← hM] at kx kf
                  have hM1 : ((M + 1 : Nat) : Int) - 1 = (M : Int) := by omega
                  clear hLM hM
                  by_cases hxq : x = (q : Int)
                  · subst hxq
                    have HO5 := Lib.hid hown5
                    clear hown5
                    go_wp2_with fail
                    go_region
                    go_wp2_with fail
                    go_roundg (N - (q + 1))
                    case measure => have := HGK2.out; omega
                    case rel =>
                      refine ⟨q + 1, m' ++ [(a, (q : Int) + 1)], by go_num, by omega, by omega, ?_, HWANT.out.ext HYP.out (by omega), ?_⟩
                      · have h8 := HO5.out
                        rw [HM.out] at h8 ⊢
                        have h9 := want_set (y := (q : Int) + 1) h8
                        have e9 : (m' ++ [(a, (q : Int) + 1)]).length = m'.length + 1 := by simp
                        rw [e9]
                        exact h9
                      · exact (hb5'.setCell (HO5.out.lt g rfl).1 _).drew
                  · have HNE := Lib.hid (show ∀ y, (m' ++ [(a, x)]).getLast? = some y → y.2 ≠ (q : Int) from fun y hy => by simp at hy; subst hy; exact hxq)
                    obtain ⟨i0, hi0, hi1, hi2, hi3⟩ := info_parts Try.info58
                    have HI0 := Lib.hid hi0
                    have HI1 := Lib.hid hi1
                    have HI2 := Lib.hid hi2
                    have HI3 := Lib.hid hi3
                    have HO5 := Lib.hid hown5
                    clear hown5 hi0 hi1 hi2 hi3
                    go_wp2_with ((with_reducible refine wpList_append_ownF _ rfl (.tmp 96) (.tmp 101) 22 rfl wo.heap.size 58 i0 _ 2 16 Try.underlying22 HI0.out HI1.out HI2.out HI3.out ?_ (.slice (some ⟨g, 0, none⟩) (M + 1) cp) _ (flat (m' ++ [(a, x)])) ?_ (HO5.out.alloc _) ⟨w5.heap.size, 0, none⟩ 1 1 [.int .i64 q, .int .i64 ((q : Int) + 1)] ?_ rfl (news1 _ _ _ _) ?_ (by decide) ?_ ?_ ?_ ?_); rfl; rfl; rfl; (intro u hu; simp at hu; rcases hu with rfl | rfl <;> rfl); (simp only [maxLen]; omega); omega; (have := hb5'.size; simp; omega); intro g3 cap3 w6 hown3 hgr3 _; have HO3 := Lib.hid hown3; have HG3 := Lib.hid hgr3; clear hown3 hgr3)
                    go_roundg (N - (q + 1))
                    case measure => have := HGK2.out; omega
                    case rel =>
                      refine ⟨q + 1, (m' ++ [(a, x)]) ++ [((q : Int), (q : Int) + 1)], by go_num, by omega, by omega, ?_, HWANT.out.new HYP.out (by omega) HNE.out, ?_⟩
                      · have h8 := HO3.out
                        rw [List.length_append, flat_append, ← HLEN.out]
                        exact h8
                      · exact (hb5'.alloc hb5'.size _).grown HG3.out (by have := hb5'.size; simp; omega) (fun kk hk => (HO5.out.lt kk hk).1)
        · obtain rfl : q = N := by omega
          have HM2 := Lib.hid (HMISS.out wr HBQ.out)
          go_wp2_with fail
          refine HM2.out.mono ?_
          rintro e w6 ⟨mm, mv, rfl, hmm, hmo, hb6⟩
          have hmeq : mm = m := Wf.ext hmm.wf HWANT.out.wf (fun n => by
            rw [hmm.mem n, HWANT.out.mem n]
            refine ⟨fun h => ⟨h, ?_⟩, fun h => h.1⟩
            have := h.2.1
            rw [HRUN.out.S, HRUN.out.B, ← HN.out] at this
            exact this)
          have HPA := Lib.hid (pairs_eq mv _ mm m w6 hmeq (ownsRow_base hmo (Nat.zero_le _)) (ownsRow_base (own_below HOWN.out hb6) (Nat.zero_le _)) (by have := hmm.wf.len; omega))
          have HAW := Lib.hid (fun w' => awake_any w')
          have hb6' := hbo.trans ((hbel.trans (hb6.mono hbel.size)).mono hbo.size)
          clear hmm hmo hmeq
          go_wp2_with fail
          refine HPA.out.mono ?_
          rintro e w7 ⟨rfl, hb7⟩
          have hb7' := hb6'.trans (hb7.mono hb6'.size)
          go_wp2_with fail
          refine (HAW.out _).mono ?_
          rintro e w8 ⟨rfl, hb8⟩
          have hp : POST (.returned (.bool true)) w8 := by
            rw [HPOST.out]
            exact ⟨rfl, hb7'.trans (hb8.mono hb7'.size)⟩
          have HP := Lib.hid hp
          clear hp
          go_wp2_with fail
          exact HP.out
end Go.Proofs.Ytjklcecakdmbaaa
