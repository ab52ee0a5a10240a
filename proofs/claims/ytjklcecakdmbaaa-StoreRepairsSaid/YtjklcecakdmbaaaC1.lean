/-
  The laws' own functions: awake.
-/
import Derived.Test.YtjklcecakdmbaaaB7
import Derived.Laws.BytesArg
import Derived.Lib.SlBytesConst
namespace Go.Proofs.Ytjklcecakdmbaaa
open Go.RowKit

theorem BuildAt.lt {w : World} {β : BI} {s : BS} (h : BuildAt w β s) : ∀ k, β.foot k → k < w.heap.size := by
  rintro k (e | e | e | e | e)
  · rw [e]; exact lt_blk h.blk
  · rw [e]; exact lt_blk h.set.blk
  · exact h.set.lt.2 k e
  · exact (h.txt.lt k e).2
  · exact (h.log.lt k e).2
/-- The states of awake's build. -/
def aw0 : BS := BS.init 5 2 1
def aw1 (l : List (Int × Int)) : BS := aw0.put 0 [97, 98] 1 l
def aw2 (l l' : List (Int × Int)) : BS := (aw1 l).put 2 [101] 2 l'
theorem hasB_false {l : List (Int × Int)} {n : Int} (h : ¬ inS l n) : hasB l n = false := has_false l n h
theorem aw_code0 : putCode aw0 0 2 1 = 0 := by decide
theorem aw_code1 {l : List (Int × Int)} (h : ∀ n, inS l n ↔ inS [] n ∨ n = (0 : Nat)) : putCode (aw1 l) 2 1 2 = 0 := by
  have hh : hasB (aw1 l).l 2 = false := hasB_false (l := l) (by rw [h]; simp [inS_nil])
  unfold putCode
  rw [hh]
  show (if false = true then 24 else if ¬((0:Int) ≤ 2 ∧ (2:Int) < (nblk 5 2 : Nat)) ∨ ¬((0:Int) ≤ 2 ∧ (2:Int) ≤ 1099511627776) then 11 else if ((1:Nat):Int) ≠ (min ((2+1)*2) 5 - 2*2 : Nat) then 10 else if false = true then 13 else 0) = _
  decide
theorem aw_code2 {l l' : List (Int × Int)} (h : ∀ n, inS l' n ↔ inS l n ∨ n = (2 : Nat)) : putCode (aw2 l l') 2 1 2 = 13 := by
  have hh : hasB (aw2 l l').l 2 = true := (hasB_iff l' 2).2 (by rw [h]; right; rfl)
  unfold putCode
  rw [hh]
  show (if false = true then 24 else if ¬((0:Int) ≤ 2 ∧ (2:Int) < (nblk 5 2 : Nat)) ∨ ¬((0:Int) ≤ 2 ∧ (2:Int) ≤ 1099511627776) then 11 else if ((1:Nat):Int) ≠ (min ((2+1)*2) 5 - 2*2 : Nat) then 10 else if true = true then 13 else 0) = _
  decide
theorem aw_miss {l l' m : List (Int × Int)} (h : ∀ n, inS l n ↔ inS [] n ∨ n = (0 : Nat)) (h' : ∀ n, inS l' n ↔ inS l n ∨ n = (2 : Nat)) {k : Int} (hk : 0 ≤ k) (hm : IsMiss (aw2 l l') k m) : m = [(1, 2)] := by
  refine Wf.ext hm.wf ⟨by simp, by simp⟩ fun n => ?_
  rw [hm.mem n]
  have hN : nblk (aw2 l l').S (aw2 l l').B = 3 := show nblk 5 2 = 3 by decide
  have hL : layerN n.toNat (aw2 l l').L = 0 := by
    show Lib.bitLen (n.toNat % 2 ^ (1 - 1)) = 0
    rw [Nat.mod_one]; decide
  unfold missP
  rw [hN, hL]
  have : inS (aw2 l l').l n ↔ n = 0 ∨ n = 2 := by
    show inS l' n ↔ _
    rw [h', h]; simp [inS_nil]
  rw [this]
  simp [inS]
  omega
theorem aw_text (l l' : List (Int × Int)) : (aw2 l l').T = [97, 98, 0, 0, 101] := rfl
theorem aw_span (l l' : List (Int × Int)) : spanOf (aw2 l l') (1, 2) = (2, 4) := rfl

theorem eq58 (a b c d : Int) (w : World) : (Op.equalIn 10000 58 (.agg #[.int .i64 a, .int .i64 b]) (.agg #[.int .i64 c, .int .i64 d])).run Try.prog w = .ok (a == c && b == d) w := by
  have u3 := Try.underlying3
  have a3 := Try.isAgg3
  have z3 := Try.sizeOf3
  rw [show (10000 : Nat) = 9999 + 1 from rfl, Op.equalIn]
  simp only [Sem.run_bind, run_underlying Try.underlying58, Result.andThen_ok]
  simp only [Std.Legacy.Range.forIn_eq_forIn_range', Std.Legacy.Range.size, Nat.sub_zero, Nat.add_sub_cancel, Nat.div_one, List.range'_succ, List.range'_zero, List.forIn_cons, List.forIn_nil]
  go_simp
  by_cases h1 : a = c <;> by_cases h2 : b = d <;> simp [h1, h2]
theorem lit_text (w : World) (tb : List Int) (fz : Nat × Nat) : TextAt (w.alloc (.cells (tb.map (Value.int .u8)).toArray 5 fz)) (some ⟨w.heap.size, 0, none⟩) tb.length tb := by
  refine ⟨rfl, fun e => (by cases e), fun ad e j v hj => ?_⟩
  cases e
  have hadd : (⟨w.heap.size, 0, none⟩ : Addr).add j = ⟨w.heap.size, j, none⟩ := by unfold Addr.add; split <;> simp_all
  rw [hadd]
  have h1 := heap_alloc_new w (.cells (tb.map (Value.int .u8)).toArray 5 fz)
  unfold World.cell?
  simp only [h1]
  simp [hj]
theorem put_lit (fz : Nat × Nat) (β : BI) (s : BS) (b : Nat) (t : Int) (tb : List Int) (cap : Nat) (w : World) (hb : BuildAt w β s) (hg : s.G.length ≤ 100000) (hc : putCode s b tb.length t = 0) :
    Calls Try.prog 18 #[.pointer (some ⟨β.b, 0, none⟩), .int .i64 b, .slice (some ⟨w.heap.size, 0, none⟩) tb.length cap, .int .i64 t] (w.alloc (.cells (tb.map (Value.int .u8)).toArray 5 fz)) (PutPost (w.alloc (.cells (tb.map (Value.int .u8)).toArray 5 fz)) β s b tb t) := by
  obtain ⟨b', e, h⟩ := put_ok β s b t ⟨w.heap.size, 0, none⟩ tb.length cap tb _ (hb.below ((Below.refl _ _).alloc (Nat.le_refl _) _)) (lit_text w tb fz) (fun h => by have := hb.lt _ h; simp at this) hg hc
  obtain rfl : b' = b := by omega
  exact h

set_option maxHeartbeats 1600000 in
set_option maxRecDepth 100000 in
theorem awake_any (w : World) : Calls Try.prog 16 #[] w fun e w' => e = .returned (.bool true) ∧ Below w.heap.size w w' := by
  obtain ⟨POST, hPOST⟩ : ∃ POST : Ending → World → Prop, POST = fun e w' => e = .returned (.bool true) ∧ Below w.heap.size w w' := ⟨_, rfl⟩
  rw [← hPOST]
  have HPOST := Lib.hid hPOST
  clear hPOST
  have hcv := fun (W : World) (C : Array Value) (n c : Nat) => Lib.run_convert_bytes_const (P := Try.prog) W 32 5 C n c Try.underlying32 Try.underlying5
  have HNEW := Lib.hid (show Calls Try.prog 17 #[.int .i64 5, .int .i64 2, .int .i64 1] w _ from new_yes 5 2 1 w (by unfold rightPlan; decide))
  go_enter Try.func16, Try.ntmps16
  go_wp2_with fail
  refine HNEW.out.mono ?_
  rintro e w1 ⟨β, rfl, hb1, hbel1, hf1⟩
  obtain ⟨b, hbb⟩ : ∃ b, b = β.b := ⟨_, rfl⟩
  have HP1 := Lib.hid (put_lit (2, 3) β aw0 0 1 [97, 98] 2 w1 hb1 (by decide) aw_code0)
  rw [← hbb] at HP1 ⊢
  have HB1 := Lib.hid hb1
  have HF1 := Lib.hid hf1
  have HBB := Lib.hid hbb
  clear hb1 hf1 hbb
  go_wp2_with fail
  refine HP1.out.mono ?_
  rintro e w2 ⟨β2, l2, rfl, hi2, hb2, hk2, hbb2, hf2⟩
  have HP2 := Lib.hid (put_lit (1, 2) β2 (aw1 l2) 2 2 [101] 1 w2 hb2 (by show 1 ≤ _; decide) (aw_code1 hi2))
  rw [hbb2, ← HBB.out] at HP2
  have HI2 := Lib.hid hi2
  have HB2 := Lib.hid hb2
  have HK2 := Lib.hid hk2
  have HBB2 := Lib.hid hbb2
  have HF2 := Lib.hid hf2
  clear hi2 hb2 hk2 hbb2 hf2
  go_wp2_with fail
  refine HP2.out.mono ?_
  rintro e w3 ⟨β3, l3, rfl, hi3', hb3, hk3, hbb3, hf3⟩
  have hi3 : ∀ n, inS l3 n ↔ inS l2 n ∨ n = (2 : Nat) := hi3'
  clear hi3'
  have HP3 := Lib.hid (put_err β3 (aw2 l2 l3) 2 2 (some ⟨w3.heap.size, 0, none⟩) 1 1 (w3.alloc (.cells #[.int .u8 101] 5 (1, 2))) (hb3.below ((Below.refl _ _).alloc (Nat.le_refl _) _)) (by decide) (by rw [aw_code2 hi3]; decide))
  rw [aw_code2 hi3, hbb3, HBB2.out, ← HBB.out] at HP3
  have HI3 := Lib.hid hi3
  have HB3 := Lib.hid hb3
  have HK3 := Lib.hid hk3
  have HBB3 := Lib.hid hbb3
  have HF3 := Lib.hid hf3
  clear hi3 hb3 hk3 hbb3 hf3
  go_wp2_with fail
  refine HP3.out.mono ?_
  rintro e w4 ⟨rfl, hbel4⟩
  have hb4 : BuildAt w4 β3 (aw2 l2 l3) := (HB3.out.below ((Below.refl _ _).alloc (Nat.le_refl _) _)).below hbel4
  clear HP1 HP2 HP3 HNEW
  have HLA := Lib.hid (lacking_any β3 (aw2 l2 l3) 0 w4 hb4)
  rw [HBB3.out, HBB2.out, ← HBB.out] at HLA
  have HB4 := Lib.hid hb4
  clear hb4
  go_wp2_with fail
  refine HLA.out.mono ?_
  rintro e w5 ⟨m, lv, rfl, hm, hown, hbel5⟩
  rw [aw_miss HI2.out HI3.out (by decide) hm] at hown
  have hform := ownsRow_formN (ownsRow_base hown (Nat.zero_le _))
  rcases hform with ⟨_, hz, _⟩ | ⟨g, cap, rfl, hg, hcap, hcm⟩
  · cases hz
  have hcc := cells_of_own (l := [(2, 4)]) (n := 1) (ownsRow_base hown (Nat.zero_le _)) 0 (2, 4) rfl
  have k0 : w5.cell? ⟨g, 0, none⟩ = some (.int .i64 2) := hcc.1
  have k1 : w5.cell? ⟨g, 1, none⟩ = some (.int .i64 4) := hcc.2
  have heq := eq58 2 4 2 4 w5
  have HNO := Lib.hid (new_no 5 0 1 w5 (by unfold rightPlan; decide))
  have hb5 := HB4.out.below hbel5
  have HPR := Lib.hid (prefix_any β3 (aw2 l2 l3) w5 hb5)
  rw [HBB3.out, HBB2.out, ← HBB.out] at HPR
  have HB5 := Lib.hid hb5
  clear hown hcc hb5 hm HLA
  go_wp2_with fail
  refine HNO.out.mono ?_
  rintro e w5' ⟨rfl, rfl⟩
  go_wp2_with fail
  refine HPR.out.mono ?_
  rintro e w6 ⟨m, hm, rfl, hbel6⟩
  rw [aw_miss HI2.out HI3.out (show (0 : Int) ≤ ((1 : Nat) : Int) by decide) hm]
  have hb6 := HB5.out.below hbel6
  have HCO := Lib.hid (complete_any β3 (aw2 l2 l3) 0 w6 hb6)
  rw [HBB3.out, HBB2.out, ← HBB.out] at HCO
  have HB6 := Lib.hid hb6
  clear hb6 hm HPR
  dsimp only
  rw [aw_span]
  dsimp only
  go_wp2_with fail
  refine HCO.out.mono ?_
  rintro e w7 ⟨m, hm, rfl, hbel7⟩
  rw [aw_miss HI2.out HI3.out (by decide) hm]
  have hb7 := HB6.out.below hbel7
  have HBY := Lib.hid (bytesOf_any β3 (aw2 l2 l3) w7 hb7)
  rw [HBB3.out, HBB2.out, ← HBB.out] at HBY
  have hd : decide ([((1 : Int), (2 : Int))].length = 0) = false := rfl
  rw [hd]
  clear hb7 hm HCO hd
  go_wp2_with fail
  refine HBY.out.mono ?_
  rintro e w8 ⟨v, rfl, hown0, hbel8⟩
  rw [aw_text] at hown0
  have hown : w8.ownsRow w7.heap.size 5 1 v 5 ([97, 98, 0, 0, 101].map (Value.int .u8)) := hown0
  clear hown0
  rcases ownsRow_formN (ownsRow_base hown (Nat.zero_le _)) with ⟨_, hz, _⟩ | ⟨g8, cap8, rfl, hg8, hcap8, hcm8⟩
  · cases hz
  obtain ⟨tail, hg0, _, _, _, _⟩ := ownsRow_open (ownsRow_base hown (Nat.zero_le _))
  have hstr := run_convert_bytes_arg (P := Try.prog) w8 32 5 Try.underlying32 Try.underlying5 g8 0 5 cap8 [97, 98, 0, 0, 101] rfl (fun i hi => by
    rw [cell_blk hg0]
    match i, hi with
    | 0, _ => rfl
    | 1, _ => rfl
    | 2, _ => rfl
    | 3, _ => rfl
    | 4, _ => rfl) 9 Try.underlying9
  rw [show strOfNums [97, 98, 0, 0, 101] = ⟨#[97, 98, 0, 0, 101]⟩ from rfl] at hstr
  have hp : POST (.returned (.bool true)) w8 := by
    rw [HPOST.out]
    refine ⟨rfl, ?_⟩
    have hk2 := HK2.out
    have hk3 := HK3.out
    have hs1 := hbel1.size
    have hf1 := HF1.out
    have hk2' : Keeps (fun k => w.heap.size ≤ k) w w2 := ((Keeps.of_below_ge hbel1).alloc _).trans hk2 (fun _ _ e => e) (fun k _ e => hf1 k e)
    have hk3' : Keeps (fun k => w.heap.size ≤ k) w w3 := (hk2'.alloc _).trans hk3 (fun _ _ e => e) (fun k _ e => (HF2.out k e).elim (fun e => hf1 k e) (fun e => by simp at e; omega))
    have h3 : Below w.heap.size w w3 := hk3'.below (Nat.le_refl _) (fun i hi e => by omega)
    have h4 : Below w.heap.size w w4 := (h3.alloc h3.size _).trans (hbel4.mono (by have := h3.size; simp; omega))
    have h5 := h4.trans (hbel5.mono h4.size)
    have h6 := h5.trans (hbel6.mono h5.size)
    have h7 := h6.trans (hbel7.mono h6.size)
    exact h7.trans (hbel8.mono h7.size)
  have HP := Lib.hid hp
  clear hp hown hg0
  go_wp2_with fail
  exact HP.out
end Go.Proofs.Ytjklcecakdmbaaa
