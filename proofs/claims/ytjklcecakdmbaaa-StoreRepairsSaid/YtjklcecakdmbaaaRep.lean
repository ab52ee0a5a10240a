/-
  The contract of slices.Insert and slices.Replace at [][2]int, for rows that the call itself made.
-/
import Derived.Test.YtjklcecakdmbaaaLib
import Derived.Lib.Overlaps
import Derived.Laws.Externs
import Derived.Deep.RegionLaw
namespace Go.Proofs.Ytjklcecakdmbaaa
open Go.RowKit

theorem Try.info58 : (Try.prog.info? 58).map (fun i => (i.zero, i.size, i.bytes)) = some (some (.agg #[.int .i64 0, .int .i64 0]), 2, 16) := by kernel_rfl
theorem Try.size58 : (Try.prog.info? 58).map (·.size) = some 2 := by kernel_rfl
theorem Try.sizeOf58 (w : World) : (Go.sizeOf 58).run Try.prog w = .ok 2 w := by kernel_rfl
theorem Try.zero58 (w : World) : (zeroValue 58).run Try.prog w = .ok (.agg #[.int .i64 0, .int .i64 0]) w := by kernel_rfl

theorem overlaps_run (w : World) (g h oh o m cu lb cb kA kB : Nat) (hne : h ≠ g) (hA : w.shape? h = some (58, kA)) (hB : w.shape? g = some (58, kB)) (hk : kB ≠ 0) (f1 : w.frozen? ⟨h, oh, none⟩ = false) (f2 : w.frozen? ⟨h, kA, none⟩ = false) :
    (callFunc 90 #[.slice (some ⟨h, oh, none⟩) m cu, .slice (some ⟨g, o, none⟩) lb cb]).run Try.prog w = .ok (.value (.bool false)) w := by
  rw [run_callFunc_extern Try.func90 (by kernel_rfl) (by kernel_rfl) (by kernel_rfl) (e := Extern.SlicesOverlaps.overlaps #[22, 22] #[4]) (by kernel_rfl),
    Lib.run_overlaps_apart w 22 4 58 Try.underlying22 2 Try.sizeOf58 ⟨h, oh, none⟩ ⟨g, o, none⟩ m cu lb cb hne 58 58 kA kB hA hB hk f1 f2]
  rfl

def RowPost (w : World) (v : Value) (n' : Nat) (xs' : List Value) (e : Ending) (w' : World) : Prop :=
  ∃ v', e = .returned v' ∧ w'.ownsRow 0 58 2 v' n' xs' ∧ w.grownBy w' v.ownBlock ∧ (v'.ownBlock = v.ownBlock ∨ ∀ k, v'.ownBlock = some k → w.heap.size ≤ k)

set_option maxHeartbeats 400000 in
set_option maxRecDepth 100000 in
theorem insert_room (g h n i m cap cu : Nat) (w : World) (xs ys : List Value) (hi : i < n) (_hn : n ≤ 100000) (hm : 0 < m) (hm' : m ≤ 100000) (hroom : n + m ≤ cap) (hgh : h ≠ g)
    (hown : w.ownsRow 0 58 2 (.slice (some ⟨g, 0, none⟩) n cap) n xs) (hown2 : w.ownsRow 0 58 2 (.slice (some ⟨h, 0, none⟩) m cu) m ys) (h1x : ∀ u ∈ xs, u.oneCell' = true) (h1y : ∀ u ∈ ys, u.oneCell' = true) :
    Calls Try.prog 89 #[.slice (some ⟨g, 0, none⟩) n cap, .int .i64 i, .slice (some ⟨h, 0, none⟩) m cu] w (RowPost w (.slice (some ⟨g, 0, none⟩) n cap) (n + m) (xs.take (i * 2) ++ ys ++ xs.drop (i * 2))) := by
  obtain ⟨tail, hg, hcl, hxl, hnc, hcm⟩ := ownsRow_open hown
  obtain ⟨tail2, hh, hcl2, hyl, hnc2, hcm2⟩ := ownsRow_open hown2
  unfold maxLen at hcm hcm2
  have hz1 : ((m : Int) == 0) = false := by simp; omega
  have hz2 : ((i : Int) == (n : Int)) = false := by simp; omega
  have hz3 : ¬ (cap : Int) < (n : Int) + (m : Int) := by omega
  have hz4 : ¬ cap = i + m := by omega
  have hz5 : ¬ cap = i := by omega
  have hov : ∀ lb cb, (callFunc 90 #[.slice (some ⟨h, 0, none⟩) m cu, .slice (some ⟨g, (i + m) * 2, none⟩) lb cb]).run Try.prog w = .ok (.value (.bool false)) w := fun lb cb =>
    overlaps_run w g h 0 ((i + m) * 2) m cu lb cb _ _ hgh (shape_blk hh) (shape_blk hg) (by rw [List.size_toArray, hcl]; omega) (frozen_blk hh _) (frozen_blk hh _)
  have Q1 := Lib.hid (show (xs.drop (i * 2)).length = Nat.min (n + m - i) (n + m - (i + m)) * 2 by rw [List.length_drop, minEq]; omega)
  have Q2 := Lib.hid (drop_cells (k := i * 2) hg)
  have Q3 := Lib.hid (show (i + m) * 2 + (xs.drop (i * 2)).length ≤ (xs ++ tail).length by rw [List.length_drop]; omega)
  have Q4 := Lib.hid (show ∀ v ∈ xs.drop (i * 2), v.oneCell' = true from fun v hv => h1x v (List.mem_of_mem_drop hv))
  have HXL := Lib.hid hxl
  have HYL := Lib.hid hyl
  have HG := Lib.hid hg
  have HH := Lib.hid hh
  have HCL := Lib.hid hcl
  clear hxl hyl hg hh hcl hcl2 hown hown2
  go_enter Try.func89, Try.ntmps89
  go_wp2_with (simp only [hov])
  have hw1 : IntKind.i64.wrap ((i : Int) + (m : Int)) = (i : Int) + (m : Int) := by rw [IntKind.wrap_i64]; omega
  have hb1 : (0 : Int) ≤ (i : Int) + (m : Int) := by omega
  have htn : ((i : Int) + (m : Int)).toNat = i + m := by omega
  have hb3 : (i : Int) + (m : Int) ≤ (n : Int) + (m : Int) := by omega
  have hb4 : (i : Int) ≤ (n : Int) + (m : Int) := by omega
  go_region_law (refine step_copyN rfl _ _ 22 22 rfl 58 2 Try.underlying22 Try.size58 g ((i + m) * 2) (n + m - (i + m)) (cap - (i + m)) ⟨g, i * 2, none⟩ (n + m - i) (cap - i) (by simp [Act.eval, Act.put]) (by simp [Act.eval, Act.put]) (xs ++ tail) 58 HG.out (xs.drop (i * 2)) Q1.out Q2.out Q3.out Q4.out ?_; intro w1 hg1 hgr1 hs1)
  clear hw1 htn hb1 hb3 hb4
  have HG1 := hg1
  clear hg1
  have Q5 := Lib.hid (show ys.length = Nat.min m (n + m - i) * 2 by rw [minEq, HYL.out]; omega)
  have Q6 := Lib.hid (zero_cells (hgr1.block h (lt_blk HH.out) (by simpa using hgh)) HH.out)
  have Q7 := Lib.hid (show i * 2 + ys.length ≤ (splice (xs ++ tail) ((i + m) * 2) (xs.drop (i * 2))).length by rw [length_splice _ _ _ Q3.out, HYL.out, HCL.out]; omega)
  go_wp2_with ((with_reducible refine wpList_copyN rfl (.tmp 80) (.tmp 81) 22 22 rfl 58 2 Try.underlying22 Try.size58 g (i * 2) (n + m - i) (cap - i) ⟨h, 0, none⟩ m cu ?_ ?_ (splice (xs ++ tail) ((i + m) * 2) (xs.drop (i * 2))) 58 HG1.out ys Q5.out Q6.out Q7.out h1y ?_); rfl; rfl; intro w2 hg2 hgr2 hs2)
  go_ret
  have e := splice_ins xs ys tail (i * 2) (m * 2) (by have := HXL.out; omega) HYL.out (by have := HCL.out; have := HXL.out; rw [List.length_append] at *; omega)
  rw [Nat.add_mul, e] at hg2
  have hl2 := length_splice (splice (xs ++ tail) ((i + m) * 2) (xs.drop (i * 2))) (i * 2) ys Q7.out
  rw [length_splice _ _ _ Q3.out, HCL.out, Nat.add_mul, e] at hl2
  refine ⟨_, rfl, ownsRow_shut hg2 hl2 ?_ hroom (by unfold maxLen; omega), ?_, .inl rfl⟩
  · have := HXL.out; have := HYL.out
    simp only [List.length_append, List.length_take, List.length_drop]; omega
  · exact ⟨hgr2.os.trans hgr1.os, hgr2.tape.trans hgr1.tape, hgr2.output.trans hgr1.output, Nat.le_trans hgr1.size hgr2.size, fun k hk hne => (hgr2.block k (Nat.lt_of_lt_of_le hk hgr1.size) hne).trans (hgr1.block k hk hne)⟩
theorem grown_trans {w w1 w2 : World} {B : Nat} {row : Option Nat} (h1 : w.grownBy w1 none) (h2 : w1.grownBy w2 (some B)) (hB : w.heap.size ≤ B) : w.grownBy w2 row :=
  ⟨h2.os.trans h1.os, h2.tape.trans h1.tape, h2.output.trans h1.output, Nat.le_trans h1.size h2.size, fun k hk _ => (h2.block k (Nat.lt_of_lt_of_le hk h1.size) (by intro e; cases e; omega)).trans (h1.block k hk (by simp))⟩

theorem grown_undrew {w w' : World} {r : Option Nat} (h : w.drew.grownBy w' r) : w.grownBy w' r := ⟨h.os, h.tape, h.output, h.size, h.block⟩
theorem grown_trans2 {w w1 w2 : World} {B : Option Nat} (h1 : w.grownBy w1 B) (h2 : w1.grownBy w2 B) : w.grownBy w2 B :=
  ⟨h2.os.trans h1.os, h2.tape.trans h1.tape, h2.output.trans h1.output, Nat.le_trans h1.size h2.size, fun k hk hne => (h2.block k (Nat.lt_of_lt_of_le hk h1.size) hne).trans (h1.block k hk hne)⟩

set_option maxHeartbeats 400000 in
set_option maxRecDepth 100000 in
theorem insert_grow (g h n i m cap cu : Nat) (w : World) (xs ys : List Value) (hi : i < n) (_hn : n ≤ 100000) (hm : 0 < m) (hm' : m ≤ 100000) (hroom : cap < n + m)
    (hown : w.ownsRow 0 58 2 (.slice (some ⟨g, 0, none⟩) n cap) n xs) (hown2 : w.ownsRow 0 58 2 (.slice (some ⟨h, 0, none⟩) m cu) m ys) (h1x : ∀ u ∈ xs, u.oneCell' = true) (h1y : ∀ u ∈ ys, u.oneCell' = true) :
    Calls Try.prog 89 #[.slice (some ⟨g, 0, none⟩) n cap, .int .i64 i, .slice (some ⟨h, 0, none⟩) m cu] w (RowPost w (.slice (some ⟨g, 0, none⟩) n cap) (n + m) (xs.take (i * 2) ++ ys ++ xs.drop (i * 2))) := by
  obtain ⟨tail, hg, hcl, hxl, hnc, hcm⟩ := ownsRow_open hown
  obtain ⟨tail2, hh, hcl2, hyl, hnc2, hcm2⟩ := ownsRow_open hown2
  unfold maxLen at hcm hcm2
  have hz1 : ((m : Int) == 0) = false := by simp; omega
  have hz2 : ((i : Int) == (n : Int)) = false := by simp; omega
  have hz3 : (cap : Int) < (n : Int) + (m : Int) := by omega
  have hz5 : ¬ cap = i := by omega
  obtain ⟨i0, hi0, hi1, hi2, hi3⟩ := info_parts Try.info58
  have Q4 := Lib.hid (show ∀ v ∈ xs.drop (i * 2), v.oneCell' = true from fun v hv => h1x v (List.mem_of_mem_drop hv))
  have HXL := Lib.hid hxl
  have HYL := Lib.hid hyl
  have HG := Lib.hid hg
  have HH := Lib.hid hh
  have HI0 := Lib.hid hi0
  have HI1 := Lib.hid hi1
  have HI2 := Lib.hid hi2
  have HI3 := Lib.hid hi3
  have Q0 := Lib.hid (show (xs.take (i * 2)).length = i * 2 by rw [List.length_take]; omega)
  have Q00 := Lib.hid (show ∀ j u, (xs.take (i * 2))[j]? = some u → w.cell? ⟨g, j, none⟩ = some u from fun j u hj => by
    rw [cell_blk hg]
    rw [List.getElem?_take] at hj
    split at hj
    · have hlt : j < xs.length := (List.getElem?_eq_some_iff.1 hj).1
      simpa [List.getElem?_append_left hlt] using hj
    · cases hj)
  have QN := Lib.hid (show (n : Int) + (m : Int) - (i : Int) = ((n + m - i : Nat) : Int) by omega)
  have QR := Lib.hid (show n + m = i + (n + m - i) by omega)
  have QR2 : cap < i + (n + m - i) := by omega
  have QR3 : (i + (n + m - i)) * 16 ≤ 140737488355328 := by omega
  have QR4 : 0 < n + m - i := by omega
  clear hxl hyl hg hh hcl hcl2 hown hown2 hi0 hi1 hi2 hi3
  go_enter Try.func89, Try.ntmps89
  go_wp2_with (first
    | ((with_reducible refine wpList_append_zerosN _ rfl (.tmp 34) (.tmp 39) 22 3 rfl 58 i0 _ .i64 .i64 2 16 Try.underlying22 Try.underlying3 HI0.out HI1.out HI2.out HI3.out ?_ (by decide) g i cap (xs.take (i * 2)) ?_ Q0.out Q00.out (n + m - i) (n + m) QR.out _ QN.out ?_ QR4 QR2 (by decide) QR3 ?_); rfl; rfl; rfl; intro w1 c' tl hg1 hl1 hc1 hcm1 hgr1 hs1; have HG1 := Lib.hid hg1; clear hg1; have HL1 := Lib.hid hl1; clear hl1; have hz6 : ¬ c' = i := by omega
       unfold maxLen at hcm1
       have Q5 := Lib.hid (show ys.length = Nat.min m (n + m - i) * 2 by rw [minEq, HYL.out]; omega)
       have Q6 := Lib.hid (zero_cells (hgr1.block h (lt_blk HH.out) (by simp)) HH.out)
       have Q7 := Lib.hid (show i * 2 + ys.length ≤ (xs.take (i * 2) ++ tl).length by rw [HL1.out, HYL.out]; omega))
    | ((with_reducible refine wpList_copyN rfl (.tmp 43) (.tmp 44) 22 22 rfl 58 2 Try.underlying22 Try.size58 w.heap.size (i * 2) (n + m - i) (c' - i) ⟨h, 0, none⟩ m cu ?_ ?_ (xs.take (i * 2) ++ tl) 58 HG1.out ys Q5.out Q6.out Q7.out h1y ?_); rfl; rfl; intro w2 hg2 hgr2 hs2; have HG2 := Lib.hid hg2; clear hg2))
  have hz7 : ¬ c' = i + m := by omega
  have Q8 := Lib.hid (show (xs.drop (i * 2)).length = Nat.min (n - i) (n + m - (i + m)) * 2 by rw [List.length_drop, minEq, HXL.out]; omega)
  have Q9 := Lib.hid (drop_cells (k := i * 2) ((((hgr2.block g (Nat.lt_of_lt_of_le (lt_blk HG.out) hgr1.size) (by intro e; cases e; exact absurd (lt_blk HG.out) (Nat.lt_irrefl _))).trans (hgr1.block g (lt_blk HG.out) (by simp))).trans HG.out)))
  have Q10 := Lib.hid (show (i + m) * 2 + (xs.drop (i * 2)).length ≤ (splice (xs.take (i * 2) ++ tl) (i * 2) ys).length by rw [length_splice _ _ _ Q7.out, HL1.out, List.length_drop, HXL.out]; omega)
  have hw1 : IntKind.i64.wrap ((i : Int) + (m : Int)) = (i : Int) + (m : Int) := by rw [IntKind.wrap_i64]; omega
  have hb1 : (0 : Int) ≤ (i : Int) + (m : Int) := by omega
  have htn : ((i : Int) + (m : Int)).toNat = i + m := by omega
  have hb3 : (i : Int) + (m : Int) ≤ (n : Int) + (m : Int) := by omega
  have hb4 : (i : Int) ≤ (n : Int) := by omega
  go_region_law (refine step_copyN rfl _ _ 22 22 rfl 58 2 Try.underlying22 Try.size58 w.heap.size ((i + m) * 2) (n + m - (i + m)) (c' - (i + m)) ⟨g, i * 2, none⟩ (n - i) (cap - i) (by simp [Act.eval, Act.put]) (by simp [Act.eval, Act.put]) (splice (xs.take (i * 2) ++ tl) (i * 2) ys) 58 HG2.out (xs.drop (i * 2)) Q8.out Q9.out Q10.out Q4.out ?_; intro w3 hg3 hgr3 hs3)
  clear hw1 htn hb1 hb3 hb4
  go_wp2_with fail
  go_ret
  have hg3 := hg3.out
  have e := splice_grow (xs.take (i * 2)) tl ys (xs.drop (i * 2)) (i * 2) (m * 2) Q0.out HYL.out (by have := HL1.out; have := Q0.out; have := HXL.out; rw [List.length_append] at *; rw [List.length_drop]; omega)
  rw [Nat.add_mul, e] at hg3
  have hl2 := length_splice (splice (xs.take (i * 2) ++ tl) (i * 2) ys) ((i + m) * 2) (xs.drop (i * 2)) Q10.out
  rw [length_splice _ _ _ Q7.out, HL1.out, Nat.add_mul, e] at hl2
  refine ⟨_, rfl, ownsRow_shut hg3 hl2 ?_ hc1 (by unfold maxLen; omega), grown_trans hgr1 (grown_trans2 hgr2 (grown_undrew hgr3)) (Nat.le_refl _), .inr fun k hk => by cases hk; exact Nat.le_refl _⟩
  have := HXL.out; have := HYL.out
  simp only [List.length_append, List.length_take, List.length_drop]; omega
end Go.Proofs.Ytjklcecakdmbaaa
