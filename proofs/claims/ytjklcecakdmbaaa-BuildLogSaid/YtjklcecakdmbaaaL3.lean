/-
  The law BuildLog: the walk of the law's own function.
-/
import Derived.Test.YtjklcecakdmbaaaL2
import Derived.Deep.RegionWith
import Derived.Deep.OwnRows
namespace Go.Proofs.Ytjklcecakdmbaaa
open Go.RowKit

theorem cv_val (G : List (Int × Int × Int × Int)) (i x : Nat) : cv G i x = 0 ∨ cv G i x = 1 := by
  unfold cv
  split
  · exact .inr rfl
  · exact .inl rfl
theorem Run.kept {T : Nat → Prop} {w0 wr w' : World} {b : Nat} {β : BI} {s : BS} {S B L j : Nat} (h : Run w0 wr b β s S B L j) (hk : Keeps T wr w') (hf : ∀ k, β.foot k → ¬ T k) (hp : ¬ T β.p) (h0 : ∀ k, T k → w0.heap.size ≤ k) : Run w0 w' b β s S B L j :=
  ⟨h.at_.keeps hk hf hp, h.b, h.foot, h.below.trans (hk.below h.below.size fun i hi e => by have := h0 i e; omega), h.S, h.B, h.L, h.over, h.G⟩
theorem Run.put2 {w0 wr w' : World} {b : Nat} {β : BI} {s : BS} {S B L j : Nat} {bl t : Int} {n : Nat} {tb : List Int} {e : Ending} (h : Run w0 wr b β s S B L j) (hi : Inv s) (hp : PutAny wr β s bl t n tb e w') :
    ∃ (c : Int) (β' : BI) (s' : BS), e = .returned (.int .i64 c) ∧ Run w0 w' b β' s' S B L (j + 1) ∧ Inv s' ∧ Keeps β.foot wr w' ∧ (∀ k, β'.foot k → β.foot k ∨ wr.heap.size ≤ k) ∧
      ((c ≠ 0 ∧ s' = s) ∨ (c = 0 ∧ ∃ b' : Nat, bl = b' ∧ b' < 16384 ∧ s'.G = s.G ++ [((b' : Int), ((b' * s.B : Nat) : Int), ((s.to b' : Nat) : Int), t)])) := by
  rcases hp with ⟨hc, rfl, hbel⟩ | ⟨hc, b', rfl, β', l', rfl, hin, hb', hk, hbb, hf⟩
  · exact ⟨_, β, s, rfl, (h.quiet hbel).more (Nat.le_succ _), hi, Keeps.of_below hbel, fun k e => .inl e, .inl ⟨hc, rfl⟩⟩
  · have hinv := hi.put (tb := tb) (t := t) hc hin
    have hb16 : b' < 16384 := by
      obtain ⟨q, h1, _, _, h4⟩ := hinv.form ((b' : Int), ((b' * s.B : Nat) : Int), ((s.to b' : Nat) : Int), t) (by show _ ∈ s.G ++ [_]; exact List.mem_append.2 (.inr (List.mem_singleton.2 rfl)))
      have h5 := (nblk_bound h.at_.plan.s h.at_.plan.b.1).1
      have h6 : q < nblk s.S s.B := h4
      have h7 : (b' : Int) = q := h1
      omega
    refine ⟨0, β', _, rfl, ⟨hb', by rw [hbb, h.b], fun k e => (hf k e).elim (h.foot k) (fun e => Nat.le_trans h.below.size e), h.below.trans (hk.below h.below.size fun i hi e => ?_), h.S, h.B, h.L, h.over, ?_⟩, hinv, hk, hf, .inr ⟨rfl, b', rfl, hb16, rfl⟩⟩
    · have := h.foot i e; omega
    · have := h.G; simp [BS.put]; omega

set_option maxHeartbeats 1600000 in
set_option maxRecDepth 100000 in
theorem log_yes (S B L : Nat) (p : Option Addr) (n cap : Nat) (ops : List OpD) (w : World) (hops : OpsAt w p ops) (hl : ops.length = n) (hn : n ≤ cap) (hr : rightZ S B L n) :
    Calls Try.prog 4 #[zAgg S B L (.slice p n cap)] w fun e w' => e = .returned (.bool true) ∧ Below w.heap.size w w' := by
  obtain ⟨POST, hPOST⟩ : ∃ POST : Ending → World → Prop, POST = fun e w' => e = .returned (.bool true) ∧ Below w.heap.size w w' := ⟨_, rfl⟩
  rw [← hPOST]
  have HPOST := Lib.hid hPOST
  have hrp : rightPlan S B L := by unfold rightZ at hr; unfold rightPlan; omega
  have hn60 : n ≤ 60 := hr.2.2.2.2.2.2
  have hS400 : S ≤ 400 := by have := hr.2.1; omega
  have hB64 : B ≤ 64 := by have := hr.2.2.2.1; omega
  have hB1 : 1 ≤ B := by have := hr.2.2.1; omega
  have HR := Lib.hid (fun w' => right26_any S B L p n cap w' (by omega))
  have HNEW := Lib.hid (fun w' => new_yes S B L w' hrp)
  have hd : decide (rightZ S B L n) = true := by simp [hr]
  rw [hd] at HR
  have HOPS := Lib.hid hops
  have HL := Lib.hid hl
  clear hPOST hops hl hd hr hrp
  unfold zAgg at HR ⊢
  go_enter Try.func4, Try.ntmps4
  go_wp2_with fail
  refine (HR.out _).mono ?_
  rintro e w1 ⟨rfl, hb1⟩
  obtain ⟨zb, hzb⟩ : ∃ zb, zb = w.heap.size := ⟨_, rfl⟩
  have hz : w1.heap[zb]? = some (.cells #[.int .i64 S, .int .i64 B, .int .i64 L, .slice p n cap] 41 (0, 0)) := by rw [hzb]; exact (hb1.block _ (by simp)).trans (heap_alloc_new w _)
  have hbw1 : Below w.heap.size w w1 := ((Below.refl _ _).alloc (Nat.le_refl _) _).trans (hb1.mono (by simp))
  rw [← hzb]
  have z0 : w1.cell? ⟨zb, 0, none⟩ = some (.int .i64 S) := by rw [cell_blk hz]; rfl
  have z1 : w1.cell? ⟨zb, 1, none⟩ = some (.int .i64 B) := by rw [cell_blk hz]; rfl
  have z2 : w1.cell? ⟨zb, 2, none⟩ = some (.int .i64 L) := by rw [cell_blk hz]; rfl
  have HZ := Lib.hid hz
  have HZB := Lib.hid hzb
  have HNEW1 := Lib.hid (HNEW.out w1)
  clear hz hzb hb1
  go_wp2_with fail
  refine HNEW1.out.mono ?_
  rintro e w2 ⟨β, rfl, hb2, hbel2, hf2⟩
  obtain ⟨b, hbb⟩ : ∃ b, b = β.b := ⟨_, rfl⟩
  have HRUN2 := Lib.hid (show Run w1 w2 b β (BS.init S B L) S B L 0 from ⟨hb2, hbb.symm, hf2, hbel2, rfl, rfl, rfl, rfl, Nat.le_refl _⟩)
  rw [← hbb]
  clear hbb hb2 hf2
  have y3 : w2.cell? ⟨zb, 3, none⟩ = some (.slice p n cap) := (hbel2.cell (p := ⟨zb, _, none⟩) (lt_blk HZ.out)).trans (by rw [cell_blk HZ.out]; rfl)
  clear z0 z1 z2
  go_wp2_with fail
  go_loopg [37, 5] n (fun gk x v wr => ∃ (j : Nat) (β : BI) (s : BS), x = .int .i64 j ∧ gk + j = n ∧ j ≤ n ∧ Run w1 wr b β s S B L j ∧ Inv s ∧ wr.ownsRow w1.heap.size 51 4 v s.G.length (gflat s.G) ∧ (∀ kk, v.ownBlock = some kk → ¬ β.foot kk))
  case atStart => exact ⟨0, _, _, rfl, by omega, by omega, HRUN2.out, Inv.init S B L, World.ownsRow_nil _ _ _ _, fun kk e => by cases e⟩
  case round =>
    obtain ⟨j, β', s', rfl, hgk, hj, hrun, hinv, hwant, hsep⟩ := hrel
    have HGK := Lib.hid hgk
    have HRUN := Lib.hid hrun
    have HINV := Lib.hid hinv
    have HWANT := Lib.hid hwant
    have HSEP := Lib.hid hsep
    clear hgk hrun hinv hwant hsep
    by_cases hlt : j < n
    · obtain ⟨o, ho⟩ : ∃ o, ops[j]? = some o := ⟨_, List.getElem?_eq_getElem (by have := HL.out; omega)⟩
      obtain ⟨a, rfl⟩ : ∃ a, p = some a := by
        cases hp : p with
        | none => have h1 := HOPS.out.nil hp; rw [h1] at ho; cases ho
        | some a => exact ⟨a, rfl⟩
      obtain ⟨h1, h2, h3, h4, h5, h6, h7, h8, h9, _⟩ := HOPS.out.at_ a rfl j o ho
      obtain ⟨ab, aoff, asp⟩ := a
      simp only at h1 h2 h3 h4 h5 h6
      subst h1
      obtain ⟨ok, ob, ot, oao, on, ocap, otb⟩ := o
      simp only at h3 h4 h5 h6 h7 h8 h9
      have hbr : Below w.heap.size w wr := hbw1.trans (HRUN.out.below.mono hbw1.size)
      have k0 := (hbr.cell (p := ⟨ab, aoff + j * 4, none⟩) h2).trans h3
      have k1 := (hbr.cell (p := ⟨ab, aoff + j * 4 + 1, none⟩) h2).trans h4
      have k2 := (hbr.cell (p := ⟨ab, aoff + j * 4 + 2, none⟩) h2).trans h5
      have k3 := (hbr.cell (p := ⟨ab, aoff + j * 4 + 3, none⟩) h2).trans h6
      have HT := Lib.hid h7
      clear h3 h4 h5 h6 h7 ho
      by_cases hk1 : ok = 1
      · subst hk1
        obtain ⟨OB, hOB⟩ : ∃ OB : Obj, OB = .cells #[.int .i64 1, .int .i64 ob, .int .i64 ot, .slice oao on ocap] 48 := ⟨_, rfl⟩
        have HOB := Lib.hid hOB
        have hqb : Below wr.heap.size wr (wr.alloc OB) := (Below.refl _ _).alloc (Nat.le_refl _) _
        have hrunW := HRUN.out.quiet hqb
        have HPUT := Lib.hid (put_any β' s' ob ot oao on ocap otb _ hrunW.at_ (by simp only [maxLen] at h9; omega) (HT.out.keeps (T := fun _ => False) (Keeps.of_below (show Below w.heap.size w _ from hbr.alloc hbr.size _)) (fun _ _ e => e)) (fun ad e hp hf => by
          have h10 := hrunW.foot _ hf
          rw [e] at HT
          have h11 := HT.out.lt hp
          have h12 := hbw1.size
          omega) (by have := hrunW.G; omega))
        rw [hrunW.b, hOB] at HPUT
        have HRW := Lib.hid hrunW
        rw [hOB] at HRW
        have HQB := Lib.hid hqb
        clear hrunW hqb hOB
        go_wp2_with fail
        refine HPUT.out.mono ?_
        intro e w3 hp3
        obtain ⟨c, β3, s3, rfl, hrun3, hinv3, hk3, hf3, hcc⟩ := HRW.out.put2 HINV.out hp3
        have hltf := HRUN.out.at_.lt
        have hw3 := own_below HWANT.out HQB.out
        rw [HOB.out] at hw3
        have hw3 := ownsRow_keeps hw3 hk3 (fun kk e => HSEP.out kk e)
        have hsep3 : ∀ kk, u5.ownBlock = some kk → ¬ β3.foot kk := fun kk e hf => by
          rcases hf3 kk hf with h | h
          · exact HSEP.out kk e h
          · have h1 := (HWANT.out.lt kk e).2
            simp at h
            omega
        have HR3 := Lib.hid hrun3
        have HI3 := Lib.hid hinv3
        have HW3 := Lib.hid hw3
        have HSEP3 := Lib.hid hsep3
        have HF3 := Lib.hid hf3
        have HK3 := Lib.hid hk3
        clear hrun3 hinv3 hw3 hsep3 hf3 hp3
        rcases hcc with ⟨hc, rfl⟩ | ⟨rfl, b', rfl, hb16, hG3⟩
        · have hce : (c == 0) = false := by rw [beq_eq_false_iff_ne]; exact hc
          clear hk3
          go_wp2_with fail
          go_roundg (n - (j + 1))
          case measure => have := HGK.out; omega
          case rel => exact ⟨j + 1, β3, s3, by go_num, by omega, by omega, HR3.out, HI3.out, HW3.out, HSEP3.out⟩
        · have hnf : ¬ β'.foot wr.heap.size := fun e => by have := hltf _ e; omega
          have hob3 : w3.heap[wr.heap.size]? = some OB := by
            rw [hk3.block _ (by simp) hnf, HOB.out]
            exact heap_alloc_new wr _
          rw [HOB.out] at hob3
          have q1 : w3.cell? ⟨wr.heap.size, 1, none⟩ = some (.int .i64 b') := by rw [cell_blk hob3]; rfl
          have q2 : w3.cell? ⟨wr.heap.size, 2, none⟩ = some (.int .i64 ot) := by rw [cell_blk hob3]; rfl
          have hz3 := (HR3.out.below.block zb (lt_blk HZ.out)).trans HZ.out
          have z0 : w3.cell? ⟨zb, 0, none⟩ = some (.int .i64 S) := by rw [cell_blk hz3]; rfl
          have z1 : w3.cell? ⟨zb, 1, none⟩ = some (.int .i64 B) := by rw [cell_blk hz3]; rfl
          have hmul1 : b' * B ≤ 16384 * 64 := Nat.mul_le_mul (by omega) hB64
          have hmul2 : (b' + 1) * B ≤ 16384 * 64 := Nat.mul_le_mul (by omega) hB64
          have hw1 : IntKind.i64.wrap ((b' : Int) * (B : Int)) = ((b' * B : Nat) : Int) := by rw [IntKind.wrap_i64, ← Int.natCast_mul]; omega
          have hw2 : IntKind.i64.wrap (((b' : Int) + 1) * (B : Int)) = (((b' + 1) * B : Nat) : Int) := by
            have : ((b' : Int) + 1) * (B : Int) = (((b' + 1) * B : Nat) : Int) := by rw [Int.natCast_mul]; rfl
            rw [IntKind.wrap_i64, this]; omega
          clear hk3 hob3 hz3 hmul1 hmul2
          have HG3 := Lib.hid hG3
          have HWG := Lib.hid (show gflat s3.G = gflat s'.G ++ [.int .i64 b', .int .i64 ((b' : Int) * (B : Int)), .int .i64 (min (((b' : Int) + 1) * (B : Int)) (S : Int)), .int .i64 ot] by
            rw [hG3, gflat_append]
            have e1 : ((s'.to b' : Nat) : Int) = min (((b' : Int) + 1) * (B : Int)) (S : Int) := by
              unfold BS.to
              rw [HRUN.out.B, HRUN.out.S]
              have : ((b' : Int) + 1) * (B : Int) = (((b' + 1) * B : Nat) : Int) := by rw [Int.natCast_mul]; rfl
              rw [this]; omega
            have e2 : ((b' * s'.B : Nat) : Int) = (b' : Int) * (B : Int) := by rw [HRUN.out.B, Int.natCast_mul]
            rw [e1, e2]
            rfl)
          have hG60 : s'.G.length ≤ 60 := by have := HRUN.out.G; omega
          clear hG3
          obtain ⟨i0, hi0, hi1, hi2, hi3⟩ := info_parts Try.info51
          have HI0 := Lib.hid hi0
          have HI1 := Lib.hid hi1
          have HI2 := Lib.hid hi2
          have HIZ := Lib.hid hi3
          clear hi0 hi1 hi2 hi3
          go_wp2_with ((with_reducible refine wpList_append_ownF _ rfl (.tmp 55) (.tmp 75) 46 rfl w1.heap.size 51 i0 _ 4 32 Try.underlying46 HI0.out HI1.out HI2.out HIZ.out ?_ u5 s'.G.length (gflat s'.G) ?_ (HW3.out.alloc _) ⟨w3.heap.size, 0, none⟩ 1 1 [.int .i64 b', .int .i64 ((b' : Int) * (B : Int)), .int .i64 (min (((b' : Int) + 1) * (B : Int)) (S : Int)), .int .i64 ot] ?_ rfl (news4 _ _ _ _ _ _) ?_ (by decide) ?_ ?_ ?_ ?_); rfl; rfl; rfl; (intro u hu; simp at hu; rcases hu with rfl | rfl | rfl | rfl <;> rfl); (simp only [maxLen]; omega); omega; (have := HR3.out.below.size; simp; omega); intro lg cap6 w6 ho6 hg6 hf6; have HO6 := Lib.hid ho6; have HG6 := Lib.hid hg6; have HF6 := Lib.hid hf6; clear ho6 hg6 hf6)
          go_roundg (n - (j + 1))
          case measure => have := HGK.out; omega
          case rel =>
            have hk6 : Keeps (fun k => u5.ownBlock = some k) w3 w6 := ((Keeps.refl (fun _ => False) w3).alloc _).trans (Keeps.of_grown (S := fun k => u5.ownBlock = some k) HG6.out (fun k e => e)) (fun _ _ e => e.elim) (fun _ _ e => e)
            have hpn : u5.ownBlock ≠ some β3.p := fun e => (own_ty HW3.out e).ne ⟨_, HR3.out.at_.plan.blk⟩ (by decide) rfl
            have hrun6 := HR3.out.kept hk6 (fun k e e2 => HSEP3.out k e2 e) hpn (fun k e => (HW3.out.lt k e).1)
            have hlen3 : s3.G.length = s'.G.length + 1 := by rw [HG3.out]; simp
            refine ⟨j + 1, β3, s3, by go_num, by omega, by omega, hrun6, HI3.out, ?_, fun kk e hf => ?_⟩
            · rw [HWG.out, hlen3]; exact HO6.out
            · cases e
              rcases HF6.out with h | h
              · exact HSEP3.out _ h hf
              · have h1 := HR3.out.at_.lt _ hf
                simp at h h1
                omega
      · have hrunW := HRUN.out.quiet ((Below.refl _ _).alloc (Nat.le_refl _) (.cells #[.int .i64 ok, .int .i64 ob, .int .i64 ot, .slice oao on ocap] 48))
        have hwW := own_below HWANT.out ((Below.refl _ _).alloc (Nat.le_refl _) (.cells #[.int .i64 ok, .int .i64 ob, .int .i64 ot, .slice oao on ocap] 48))
        have HRW := Lib.hid hrunW
        have HWW := Lib.hid hwW
        clear hrunW hwW
        go_wp2_with fail
        go_roundg (n - (j + 1))
        case measure => have := HGK.out; omega
        case rel => exact ⟨j + 1, β', s', by go_num, by omega, by omega, HRW.out.more (Nat.le_succ _), HINV.out, HWW.out, HSEP.out⟩
    · obtain rfl : j = n := by omega
      obtain ⟨wo, rfl⟩ : ∃ wo : World, wo = wr := ⟨_, rfl⟩
      obtain ⟨go, rfl⟩ : ∃ go : Nat, go = gk := ⟨_, rfl⟩
      obtain ⟨pw, cw, hwv, hcw, hpw⟩ := own_slice HWANT.out
      rw [hwv] at HWANT HSEP
      have hG60 : s'.G.length ≤ 60 := by have := HRUN.out.G; omega
      have HLOG := Lib.hid (logOf_any β' s' wo HRUN.out.at_ (by omega))
      rw [HRUN.out.b] at HLOG
      obtain ⟨GL, hGL⟩ : ∃ GL, GL = s'.G.length := ⟨_, rfl⟩
      have HGL := Lib.hid hGL
      rw [← hGL] at HWANT HLOG hwv hcw hpw hG60
      subst hwv
      clear hGL
      have hmk := run_make_row' (P := Try.prog) 53 3 (.int .i64 0) 8 Try.underlying53 (by kernel_rfl) rfl .i64 .i64 S (by omega) (by omega)
      have HBLOCKS := Lib.hid (fun w' => refBlocks_any S B w' (by omega) hB1 hB64)
      go_wp2_with fail
      refine HLOG.out.mono ?_
      rintro e w4 ⟨lv, rfl, hlog, hb4⟩
      have hbo4 := HRUN.out.below.trans (hb4.mono HRUN.out.below.size)
      obtain ⟨pl, cl, rfl, hcl, hpl⟩ := own_slice hlog
      have HLROW := Lib.hid hlog
      have z0 : w4.cell? ⟨zb, 0, none⟩ = some (.int .i64 S) := (hbo4.cell (p := ⟨zb, _, none⟩) (lt_blk HZ.out)).trans (by rw [cell_blk HZ.out]; rfl)
      clear hlog
      have hrun4 := HRUN.out.quiet hb4
      have hw4 := own_below HWANT.out hb4
      have hl4 := HLROW.out
      obtain ⟨w5, hw5⟩ : ∃ w5, w5 = w4.alloc (.cells (madeCells #[.int .i64 0] S) 3) := ⟨_, rfl⟩
      obtain ⟨cb, hcb⟩ : ∃ cb, cb = w4.heap.size := ⟨_, rfl⟩
      have hb5 : Below w4.heap.size w4 w5 := by rw [hw5]; exact (Below.refl _ _).alloc (Nat.le_refl _) _
      have HR5 := Lib.hid (hrun4.quiet hb5)
      have HW5 := Lib.hid (own_below hw4 hb5)
      have HL5 := Lib.hid (own_below hl4 hb5)
      have hc5 : w5.ownsRow cb 3 1 (.slice (some ⟨cb, 0, none⟩) S S) S (nrow S (fun _ => 0)) := by
        have h1 : w5.heap[cb]? = some (.cells (nrow S (fun _ => 0) ++ []).toArray 3 (0, 0)) := by
          rw [hw5, hcb, heap_alloc_new]
          congr 2
          apply Array.ext'
          rw [toList_madeCells_one]
          simp [nrow, List.map_const']
        exact own_raise (ownsRow_shut h1 (by rw [List.append_nil, nrow_len]; omega) (by rw [nrow_len]; omega) (Nat.le_refl _) (by simp only [maxLen]; omega)) (Nat.le_refl _)
      have HC5 := Lib.hid hc5
      have hncb : ∀ kk, β'.foot kk → kk ≠ cb := fun kk hf e => by have := hrun4.at_.lt kk hf; omega
      have hnp : β'.p ≠ cb := fun e => by have := lt_blk hrun4.at_.plan.blk; omega
      have hnw : ∀ kk, (Value.slice pw GL cw).ownBlock = some kk → kk ≠ cb := fun kk hf e => by have := (hw4.lt kk hf).2; omega
      have hnl : ∀ kk, (Value.slice pl GL cl).ownBlock = some kk → kk ≠ cb := fun kk hf e => by have := (hl4.lt kk hf).2; omega
      have hcb1 : w1.heap.size ≤ cb := by have := hrun4.below.size; omega
      have HNCB := Lib.hid hncb
      have HNP := Lib.hid hnp
      have HNW := Lib.hid hnw
      have HNL := Lib.hid hnl
      have HAW := Lib.hid (fun w' => awake_any w')
      go_wp2_with fail
      rw [← hw5, ← hcb]
      clear hw5 hcb hb5 hc5 hncb hnp hnw hnl hrun4 hw4 hl4 hmk z0
      go_loopg [90] GL (fun gk x wr => ∃ (i : Nat) (F : Nat → Int), x = .int .i64 i ∧ gk + i = GL ∧ i ≤ GL ∧ wr.ownsRow cb 3 1 (.slice (some ⟨cb, 0, none⟩) S S) S (nrow S F) ∧ (∀ y, y < S → F y = cv s'.G i y) ∧ Keeps (· = cb) w5 wr)
      case atStart => exact ⟨0, fun _ => 0, rfl, by omega, by omega, HC5.out, fun y _ => (cv_zero _ _).symm, Keeps.refl _ _⟩
      case round =>
        obtain ⟨i, F, rfl, hgk, hi, hcnt, hF, hk⟩ := hrel
        have HGK2 := Lib.hid hgk
        have HCNT := Lib.hid hcnt
        have HF := Lib.hid hF
        have HK := Lib.hid hk
        have hrunr := HR5.out.kept (T := (· = cb)) hk HNCB.out HNP.out (fun kk e => by subst e; exact hcb1)
        have hwr := ownsRow_keeps HW5.out hk HNW.out
        have hlr := ownsRow_keeps HL5.out hk HNL.out
        clear hgk hcnt hF hk
        by_cases hlt2 : i < GL
        · obtain ⟨⟨g1, g2, g3, g4⟩, hg⟩ : ∃ g, s'.G[i]? = some g := ⟨_, List.getElem?_eq_getElem (by rw [← HGL.out]; exact hlt2)⟩
          obtain ⟨lg, rfl⟩ := hpl (by omega)
          obtain ⟨wg, rfl⟩ := hpw (by omega)
          obtain ⟨l0, l1, l2, l3⟩ := glog_cell hlr hg
          obtain ⟨m0, m1, m2, m3⟩ := glog_cell hwr hg
          simp only at l0 l1 l2 l3 m0 m1 m2 m3
          have hmem := List.mem_of_getElem? hg
          have hhas : hasB s'.l g1 = true := (hasB_iff _ _).2 ((HINV.out.mem g1).2 ⟨_, hmem, rfl⟩)
          obtain ⟨bl, e1, e2, e3, e4⟩ := HINV.out.form _ hmem
          simp only at e1 e2 e3
          have hbd := nblk_bound hrunr.at_.plan.s hrunr.at_.plan.b.1
          have hHAS := bhas_any β' s' g1 (wr.alloc (.cells #[.int .i64 g1, .int .i64 g2, .int .i64 g3, .int .i64 g4] 51)).drew (hrunr.at_.below ((Below.refl _ _).alloc (Nat.le_refl _) _).drew) (by omega) (by have := hbd.1; omega)
          rw [hhas, hrunr.b] at hHAS
          have HHAS := Lib.hid hHAS
          have HG := Lib.hid hg
          have he51 := fun W => eq51 g1 g2 g3 g4 W
          have hBL : ∃ f t : Nat, g2 = f ∧ g3 = t ∧ f ≤ t ∧ t ≤ S := by
            refine ⟨bl * B, min ((bl + 1) * B) S, by rw [e2, hrunr.B], by rw [e3]; unfold BS.to; rw [hrunr.B, hrunr.S], ?_, by omega⟩
            have := hbd.2 bl e4
            rw [hrunr.B, hrunr.S] at this
            rw [Nat.add_mul]; omega
          have hgneg : ∀ W : World, W.heap.size ≤ wr.heap.size → True := fun _ _ => trivial
          clear hHAS hhas hmem e1 e2 e3 e4 hbd hlr hwr hrunr hg hgneg
          obtain ⟨f, t, rfl, rfl, hft, htS⟩ := hBL
          obtain ⟨wq, hwq⟩ : ∃ wq, wq = wr.alloc (.cells #[.int .i64 g1, .int .i64 f, .int .i64 t, .int .i64 g4] 51) := ⟨_, rfl⟩
          obtain ⟨qb, hqb⟩ : ∃ qb, qb = wr.heap.size := ⟨_, rfl⟩
          have hbq : Below wr.heap.size wr wq := by rw [hwq]; exact (Below.refl _ _).alloc (Nat.le_refl _) _
          have hq : wq.heap[qb]? = some (.cells #[.int .i64 g1, .int .i64 f, .int .i64 t, .int .i64 g4] 51 (0, 0)) := by rw [hwq, hqb]; exact heap_alloc_new wr _
          have c0 : wq.cell? ⟨qb, 0, none⟩ = some (.int .i64 g1) := by rw [cell_blk hq]; rfl
          have c1 : wq.cell? ⟨qb, 1, none⟩ = some (.int .i64 f) := by rw [cell_blk hq]; rfl
          have c2 : wq.cell? ⟨qb, 2, none⟩ = some (.int .i64 t) := by rw [cell_blk hq]; rfl
          have c3 : wq.cell? ⟨qb, 3, none⟩ = some (.int .i64 g4) := by rw [cell_blk hq]; rfl
          have n0 := (hbq.cell (p := ⟨wg, i * 4, none⟩) (cell_lt m0).1).trans m0
          have n1 := (hbq.cell (p := ⟨wg, i * 4 + 1, none⟩) (cell_lt m1).1).trans m1
          have n2 := (hbq.cell (p := ⟨wg, i * 4 + 2, none⟩) (cell_lt m2).1).trans m2
          have n3 := (hbq.cell (p := ⟨wg, i * 4 + 3, none⟩) (cell_lt m3).1).trans m3
          have HQ := Lib.hid hq
          have HBQ := Lib.hid hbq
          clear m0 m1 m2 m3 hbq hq
          go_wp2_with fail
          rw [← hwq, ← hqb]
          rw [← hwq] at HHAS
          have HWQ := Lib.hid hwq
          have HQB := Lib.hid hqb
          clear hwq hqb l0 l1 l2 l3
          go_region_with (go_at_call 20; refine HHAS.out.mono ?_; rintro e wx ⟨rfl, hbx⟩)
          all_goals
            have hqs : wq.drew.heap.size = wq.heap.size := rfl
            have hqx : wx.heap[qb]? = some (.cells #[.int .i64 g1, .int .i64 f, .int .i64 t, .int .i64 g4] 51 (0, 0)) := (hbx.block qb (lt_blk HQ.out)).trans HQ.out
            have x1 : wx.cell? ⟨qb, 1, none⟩ = some (.int .i64 f) := by rw [cell_blk hqx]; rfl
            have hrowx := own_below (own_below HCNT.out HBQ.out) (show Below wq.heap.size wq wx from (Below.refl _ wq).drew.trans hbx)
            have HROWX := Lib.hid hrowx
            have HQX := Lib.hid hqx
            have hkx : Keeps (· = cb) w5 wx := HK.out.trans (Keeps.of_below (S := fun _ => False) (HBQ.out.trans (show Below wr.heap.size wq wx from ((Below.refl _ wq).drew.trans hbx).mono HBQ.out.size))) (fun _ _ e => e) (fun _ _ e => e.elim)
            have HKX := Lib.hid hkx
            have hcq : cb ≠ qb := by rw [HQB.out]; have := (HCNT.out.lt cb rfl).2; omega
            clear hqx hrowx hkx c0 c1 c2 c3 n0 n1 n2 n3
            go_wp2_with fail
            obtain ⟨wa, rfl⟩ : ∃ wa : World, wa = wr := ⟨_, rfl⟩
            obtain ⟨ga, rfl⟩ : ∃ ga : Nat, ga = gk := ⟨_, rfl⟩
            go_loopg [12] (t - f) (fun gk x wr => ∃ (k : Nat) (F' : Nat → Int), x = .int .i64 k ∧ gk + k = t ∧ f ≤ k ∧ k ≤ t ∧ wr.ownsRow cb 3 1 (.slice (some ⟨cb, 0, none⟩) S S) S (nrow S F') ∧ (∀ y, y < S → F' y = if f ≤ y ∧ y < k then 1 else cv s'.G i y) ∧ Keeps (· = cb) wx wr)
            case atStart => exact ⟨f, F, rfl, by omega, by omega, by omega, HROWX.out, fun y hy => by rw [if_neg (by omega)]; exact HF.out y hy, Keeps.refl _ _⟩
            case round =>
              obtain ⟨k, F', rfl, hgk3, hk1, hk2, hrow, hF', hkk⟩ := hrel
              have HGK3 := Lib.hid hgk3
              have HROW := Lib.hid hrow
              have HF' := Lib.hid hF'
              have HKK := Lib.hid hkk
              have y2 : wr.cell? ⟨qb, 2, none⟩ = some (.int .i64 t) := (hkk.cell (p := ⟨qb, 2, none⟩) (lt_blk HQX.out) (fun e => hcq e.symm)).trans (by rw [cell_blk HQX.out]; rfl)
              clear hgk3 hrow hF' hkk
              by_cases hlt3 : k < t
              · obtain ⟨kc, kf⟩ := nrow_cell HROW.out (x := k) (by omega)
                have hval : F' k = 0 := by
                  rw [HF'.out k (by omega), if_neg (by omega)]
                  exact (cv_new HINV.out HR5.out.at_.plan.b.1 HG.out ⟨by show (f : Int) ≤ k; omega, by show (k : Int) < t; omega⟩).1
                rw [hval] at kc
                clear hval
                go_wp2_with fail
                go_roundg (t - (k + 1))
                case measure => have := HGK3.out; omega
                case rel =>
                  refine ⟨k + 1, fun y => if y = k then 1 else F' y, by go_num, by omega, by omega, by omega, nrow_store HROW.out (by omega) 1, fun y hy => ?_, HKK.out.setCell _ _ (fun _ => rfl)⟩
                  by_cases hyk : y = k
                  · subst hyk; simp only [if_true]; rw [if_pos (by omega)]
                  · simp only [hyk, if_false]
                    rw [HF'.out y hy]
                    by_cases hin : f ≤ y ∧ y < k
                    · rw [if_pos hin, if_pos (by omega)]
                    · rw [if_neg hin, if_neg (by omega)]
              · obtain rfl : k = t := by omega
                go_wp2_with fail
                go_roundg (GL - (i + 1))
                case measure => have := HGK2.out; omega
                case rel =>
                  refine ⟨i + 1, F', by go_num, by omega, by omega, HROW.out, fun y hy => ?_, HKX.out.trans HKK.out (fun _ _ e => e) (fun _ _ e => e)⟩
                  rw [HF'.out y hy]
                  by_cases hin : f ≤ y ∧ y < k
                  · rw [if_pos hin]
                    exact (cv_new HINV.out HR5.out.at_.plan.b.1 HG.out ⟨by show (f : Int) ≤ y; omega, by show (y : Int) < k; omega⟩).2.symm
                  · rw [if_neg hin]
                    exact (cv_old HG.out (fun ⟨h1, h2⟩ => hin ⟨by have : (f : Int) ≤ y := h1; omega, by have : (y : Int) < k := h2; omega⟩)).symm
        · obtain rfl : i = GL := by omega
          have hzc : zb ≠ cb := by have := lt_blk HZ.out; omega
          have hkz : wr.heap[zb]? = some (.cells #[.int .i64 S, .int .i64 B, .int .i64 L, .slice p j cap] 41 (0, 0)) := (HK.out.block zb (Nat.lt_of_lt_of_le (lt_blk HZ.out) HR5.out.below.size) hzc).trans ((HR5.out.below.block zb (lt_blk HZ.out)).trans HZ.out)
          have z0 : wr.cell? ⟨zb, 0, none⟩ = some (.int .i64 S) := by rw [cell_blk hkz]; rfl
          have z1 : wr.cell? ⟨zb, 1, none⟩ = some (.int .i64 B) := by rw [cell_blk hkz]; rfl
          have HKZ := Lib.hid hkz
          have hrunr := HR5.out.kept (T := (· = cb)) HK.out HNCB.out HNP.out (fun kk e => by subst e; exact hcb1)
          have HRR := Lib.hid hrunr
          clear hkz hrunr
          go_wp2_with fail
          refine (HBLOCKS.out wr).mono ?_
          rintro e wr' ⟨rfl, rfl⟩
          obtain ⟨N, hN⟩ : ∃ N, N = nblk S B := ⟨_, rfl⟩
          rw [← hN]
          have HN := Lib.hid hN
          have hNb : N ≤ 16384 := by rw [hN]; exact (nblk_bound (by omega) hB1).1
          clear hN
          go_wp2_with fail
          obtain ⟨wa, rfl⟩ : ∃ wa : World, wa = wr := ⟨_, rfl⟩
          obtain ⟨ga, rfl⟩ : ∃ ga : Nat, ga = gk := ⟨_, rfl⟩
          go_loopg [133] N (fun gk x wr => ∃ q : Nat, x = .int .i64 q ∧ gk + q = N ∧ q ≤ N ∧ Below wa.heap.size wa wr)
          case atStart => exact ⟨0, rfl, by omega, by omega, Below.refl _ _⟩
          case round =>
            obtain ⟨q, rfl, hgk3, hq, hbel⟩ := hrel
            have HGK3 := Lib.hid hgk3
            have HBEL := Lib.hid hbel
            clear hgk3 hbel
            by_cases hlt3 : q < N
            · have hqn : q < nblk S B := by rw [← HN.out]; exact hlt3
              have hms := (nblk_bound (by omega : S ≤ 16384) hB1).2 q hqn
              have hcvh := cv_has HINV.out (by rw [HRR.out.B]; exact hB1) (by rw [HRR.out.S]; omega) (b := q) (by rw [HRR.out.S, HRR.out.B]; exact hqn)
              rw [HRR.out.B, ← HGL.out] at hcvh
              have hcv01 := cv_val s'.G i (q * B)
              rw [← HF.out (q * B) hms] at hcvh hcv01
              have hmul1 : q * B ≤ 16384 * 64 := Nat.mul_le_mul (by omega) hB64
              obtain ⟨kc, _⟩ := nrow_cell (own_below HCNT.out HBEL.out) hms
              obtain ⟨m, hm⟩ : ∃ m, m = q * B := ⟨_, rfl⟩
              have hw1 : IntKind.i64.wrap ((q : Int) * (B : Int)) = (m : Int) := by rw [IntKind.wrap_i64, ← Int.natCast_mul, hm]; omega
              have hwm : IntKind.i64.wrap (m : Int) = (m : Int) := by rw [IntKind.wrap_i64]; omega
              rw [← hm] at kc hms hcvh hcv01
              obtain ⟨fm, hfm⟩ : ∃ fm, fm = F m := ⟨_, rfl⟩
              rw [← hfm] at kc hcvh hcv01
              have HHW := bhas_any β' s' q wr.drew (HRR.out.at_.below (show Below wa.heap.size wa wr.drew from HBEL.out.drew)) (by omega) (by omega)
              rw [HRR.out.b] at HHW
              have hkz := (HBEL.out.block zb (lt_blk HKZ.out)).trans HKZ.out
              have z1' : wr.cell? ⟨zb, 1, none⟩ = some (.int .i64 B) := by rw [cell_blk hkz]; rfl
              have HHQ := Lib.hid HHW
              clear HHW hkz hm hfm hmul1 hqn z0 z1
              rcases hcv01 with rfl | rfl
              all_goals
                rw [← hcvh] at HHQ
                clear hcvh
                go_wp2_with fail
                go_region_with (go_at_call 20; refine HHQ.out.mono ?_; rintro e wx ⟨rfl, hbx⟩; have kx := (hbx.cell (p := ⟨cb, m, none⟩) (cell_lt kc).1).trans kc; have zx := (hbx.cell (p := ⟨zb, 1, none⟩) (cell_lt z1').1).trans z1')
                all_goals
                  go_wp2_with fail
                  go_roundg (N - (q + 1))
                  case measure => have := HGK3.out; omega
                  case rel => exact ⟨q + 1, by go_num, by omega, by omega, HBEL.out.trans ((show Below wr.heap.size wr wx from (Below.refl _ wr).drew.trans hbx).mono HBEL.out.size)⟩
            · obtain rfl : q = N := by omega
              have hbw := hbw1.trans (HRR.out.below.mono hbw1.size)
              have hbw' := hbw.trans (HBEL.out.mono hbw.size)
              have HA := Lib.hid (HAW.out wr)
              go_wp2_with fail
              refine HA.out.mono ?_
              rintro e w8 ⟨rfl, hb8⟩
              have hp : POST (.returned (.bool true)) w8 := by
                rw [HPOST.out]
                exact ⟨rfl, hbw'.trans (hb8.mono hbw'.size)⟩
              have HP := Lib.hid hp
              clear hp
              go_wp2_with fail
              exact HP.out
end Go.Proofs.Ytjklcecakdmbaaa
