/-
  The contract of slices.Replace at [][2]int, road by road.
-/
import Derived.Test.YtjklcecakdmbaaaRep
import Derived.Deep.QuietTactic
import Derived.BigQuiet
namespace Go.Proofs.Ytjklcecakdmbaaa
open Go.RowKit

/-- What is laid in: nil, or a row of the call's own in another block. -/
def Usrc (w : World) (g h : Nat) (up : Option Addr) (m cu : Nat) (ys : List Value) : Prop :=
  (up = none ∧ m = 0 ∧ cu = 0 ∧ ys = []) ∨ (up = some ⟨h, 0, none⟩ ∧ h ≠ g ∧ ∃ tail, w.heap[h]? = some (.cells (ys ++ tail).toArray 58 (0, 0)))
theorem Usrc.cells {w w1 : World} {g h : Nat} {up : Option Addr} {m cu : Nat} {ys : List Value} (h0 : Usrc w g h up m cu ys) (hk : ∀ k, k < w.heap.size → k ≠ g → w1.heap[k]? = w.heap[k]?) :
    ∀ ad, up = some ad → ∀ j v, ys[j]? = some v → w1.cell? (ad.add j) = some v := by
  intro ad hu
  rcases h0 with ⟨rfl, _⟩ | ⟨rfl, hne, tail, hh⟩
  · cases hu
  · cases hu
    exact zero_cells (hk h (lt_blk hh) hne) hh
theorem Usrc.nil {w : World} {g h : Nat} {up : Option Addr} {m cu : Nat} {ys : List Value} (h0 : Usrc w g h up m cu ys) : up = none → ys = [] := by
  rcases h0 with ⟨_, _, _, h⟩ | ⟨h, _⟩
  · exact fun _ => h
  · intro e; rw [h] at e; cases e
theorem Usrc.nil2 {w : World} {g h : Nat} {up : Option Addr} {m cu : Nat} {ys : List Value} (h0 : Usrc w g h up m cu ys) : up = none → m = 0 ∧ cu = 0 := by
  rcases h0 with ⟨_, h1, h2, _⟩ | ⟨h, _⟩
  · exact fun _ => ⟨h1, h2⟩
  · intro e; rw [h] at e; cases e
theorem Usrc.some {w : World} {g h : Nat} {up : Option Addr} {m cu : Nat} {ys : List Value} (h0 : Usrc w g h up m cu ys) (hm : 0 < m) : up = some ⟨h, 0, none⟩ ∧ h ≠ g ∧ ∃ tail, w.heap[h]? = some (.cells (ys ++ tail).toArray 58 (0, 0)) := by
  rcases h0 with ⟨_, h1, _⟩ | h
  · omega
  · exact h

theorem splice_get_ge {α : Type} (L cs : List α) (o k : Nat) (ho : o ≤ L.length) (hk : o + cs.length ≤ k) : (splice L o cs)[k]? = L[k]? := by
  unfold splice
  rw [← List.append_assoc, List.getElem?_append_right (by simp; omega), List.getElem?_drop]
  congr 1
  simp
  omega
theorem splice_prefix {α : Type} (A B cs : List α) (o : Nat) (hA : A.length = o) : splice (A ++ B) o cs = A ++ splice B 0 cs := by
  subst hA
  unfold splice
  simp
theorem drop_cells2 {w : World} {g k o : Nat} {xs ys tail : List Value} {t : TypeId} (h : w.heap[g]? = some (.cells (splice (xs ++ tail) o ys).toArray t (0, 0))) (ho : o ≤ (xs ++ tail).length) (hk : o + ys.length ≤ k) : ∀ j v, (xs.drop k)[j]? = some v → w.cell? ((⟨g, k, none⟩ : Addr).add j) = some v := by
  intro j v hj
  have hadd : (⟨g, k, none⟩ : Addr).add j = ⟨g, k + j, none⟩ := by unfold Addr.add; split <;> simp_all
  rw [hadd, cell_blk h, List.getElem?_toArray, splice_get_ge _ _ _ _ ho (by omega)]
  rw [List.getElem?_drop] at hj
  have hlt : k + j < xs.length := (List.getElem?_eq_some_iff.1 hj).1
  rw [List.getElem?_append_left hlt]
  exact hj

theorem zero58_cells : ∀ n, ∀ v ∈ (Builtin.zeroCells (Value.agg #[.int .i64 0, .int .i64 0]).cells n).toList, v.oneCell' = true := by
  intro n v hv
  simp [Builtin.zeroCells, Value.cells] at hv
  obtain ⟨k, hk, rfl⟩ := hv
  have : k % 2 < 2 := Nat.mod_lt _ (by omega)
  match h : k % 2, this with
  | 0, _ => simp; rfl
  | 1, _ => simp; rfl

set_option maxHeartbeats 800000 in
set_option maxRecDepth 100000 in
theorem replace_easy (g h n i j m cap cu T : Nat) (up : Option Addr) (w : World) (xs ys res : List Value) (hres : res = xs.take (i * 2) ++ ys ++ xs.drop (j * 2)) (hT : T = i + m + (n - j)) (hij : i < j) (hj : j < n) (hn : n ≤ 100000) (hm' : m ≤ 100000) (hle : i + m ≤ j)
    (hown : w.ownsRow 0 58 2 (.slice (some ⟨g, 0, none⟩) n cap) n xs) (hu : Usrc w g h up m cu ys) (hyl : ys.length = m * 2) (h1x : ∀ u ∈ xs, u.oneCell' = true) (h1y : ∀ u ∈ ys, u.oneCell' = true) :
    Calls Try.prog 87 #[.slice (some ⟨g, 0, none⟩) n cap, .int .i64 i, .int .i64 j, .slice up m cu] w (RowPost w (.slice (some ⟨g, 0, none⟩) n cap) T res) := by
  obtain ⟨tail, hg, hcl, hxl, hnc, hcm⟩ := ownsRow_open hown
  have HRES := Lib.hid hres
  clear hres
  unfold maxLen at hcm
  have hz1 : ((i : Int) == (j : Int)) = false := by simp; omega
  have hz2 : ((j : Int) == (n : Int)) = false := by simp; omega
  have hz5 : ¬ cap = i := by omega
  have hz6 : ¬ cap = j := by omega
  have hz7 : ¬ cap = i + m := by omega
  have hb0 : T ≤ 300000 := by omega
  have hb1 : T ≤ n := by omega
  have hb2 : i ≤ T := by omega
  have hb3 : i + m ≤ T := by omega
  have QT : T - (i + m) = n - j := by omega
  have HXL := Lib.hid hxl
  have HYL := Lib.hid hyl
  have HG := Lib.hid hg
  have HCL := Lib.hid hcl
  have HU := Lib.hid hu
  have HT := Lib.hid hT
  have HQT := Lib.hid QT
  have Q1 := Lib.hid (show ys.length = Nat.min m (T - i) * 2 by rw [minEq, hyl]; omega)
  have Q2 := Lib.hid (hu.cells (w1 := w) (fun _ _ _ => rfl))
  have Q3 := Lib.hid hu.nil
  have Q4 := Lib.hid (show i * 2 + ys.length ≤ (xs ++ tail).length by rw [hcl, hyl]; omega)
  have Q5 := Lib.hid (show (xs.drop (j * 2)).length = Nat.min (n - j) (T - (i + m)) * 2 by rw [List.length_drop, minEq, hxl]; omega)
  have Q6 := Lib.hid (show (i + m) * 2 + (xs.drop (j * 2)).length ≤ (splice (xs ++ tail) (i * 2) ys).length by rw [length_splice _ _ _ Q4.out, hcl, List.length_drop, hxl]; omega)
  have Q7 := Lib.hid (show ∀ v ∈ xs.drop (j * 2), v.oneCell' = true from fun v hv => h1x v (List.mem_of_mem_drop hv))
  clear hxl hyl hg hcl hown hu hT QT
  go_enter Try.func87, Try.ntmps87
  go_wp2_with fail
  have hw1 : IntKind.i64.wrap ((i : Int) + (m : Int)) = (i : Int) + (m : Int) := by rw [IntKind.wrap_i64]; omega
  have hw2 : IntKind.i64.wrap ((i : Int) + (m : Int) + ((n - j : Nat) : Int)) = (T : Int) := by rw [IntKind.wrap_i64, HT.out]; omega
  go_quiet (fail)
  clear hw1 hw2
  obtain ⟨w0, hw0⟩ : ∃ w0, w0 = w.drewN nq := ⟨_, rfl⟩
  have HG0 := Lib.hid (show w0.heap[g]? = some (.cells (xs ++ tail).toArray 58 (0, 0)) by rw [hw0]; exact HG.out)
  have Q20 := Lib.hid (show ∀ ad, up = some ad → ∀ j v, ys[j]? = some v → w0.cell? (ad.add j) = some v by rw [hw0]; exact Q2.out)
  have HGR0 := Lib.hid (show w.grownBy w0 none by rw [hw0]; exact ⟨rfl, rfl, rfl, Nat.le_refl _, fun _ _ _ => rfl⟩)
  rw [← hw0]
  clear hw0
  go_wp2_with ((with_reducible refine wpList_copyO rfl (.tmp 95) (.tmp 96) 22 22 rfl 58 2 Try.underlying22 Try.size58 g (i * 2) (T - i) (cap - i) up m cu ?_ ?_ (xs ++ tail) 58 HG0.out ys Q1.out Q20.out Q3.out Q4.out h1y ?_); rfl; rfl; intro w1 hg1 hgr1 hs1; have HG1 := Lib.hid hg1; clear hg1)
  have hw1 : IntKind.i64.wrap ((i : Int) + (m : Int)) = (i : Int) + (m : Int) := by rw [IntKind.wrap_i64]; omega
  have hb4 : (0 : Int) ≤ (i : Int) + (m : Int) := by omega
  have htn : ((i : Int) + (m : Int)).toNat = i + m := by omega
  have hb5 : (i : Int) + (m : Int) ≤ (T : Int) := by omega
  have hb6 : (j : Int) ≤ (n : Int) := by omega
  have Q8 := Lib.hid (drop_cells2 (k := j * 2) HG1.out (by rw [HCL.out]; omega) (by rw [HYL.out]; omega))
  go_region_law (refine step_copyN rfl _ _ 22 22 rfl 58 2 Try.underlying22 Try.size58 g ((i + m) * 2) (T - (i + m)) (cap - (i + m)) ⟨g, j * 2, none⟩ (n - j) (cap - j) (by simp [Act.eval, Act.put]) (by simp [Act.eval, Act.put]) (splice (xs ++ tail) (i * 2) ys) 58 HG1.out (xs.drop (j * 2)) Q5.out Q8.out Q6.out Q7.out ?_; intro w2 hg2 hgr2 hs2)
  clear hw1 htn hb4 hb5 hb6
  have hfin : (splice (splice (xs ++ tail) (i * 2) ys) ((i + m) * 2) (xs.drop (j * 2))) = res ++ (xs ++ tail).drop ((i + m) * 2 + (xs.length - j * 2)) := by
    rw [Nat.add_mul, HRES.out]
    exact splice_rep xs ys tail (i * 2) (j * 2) (m * 2) (by omega) (by rw [HXL.out]; omega) HYL.out
  have hlen2 := length_splice (splice (xs ++ tail) (i * 2) ys) ((i + m) * 2) (xs.drop (j * 2)) Q6.out
  rw [length_splice _ _ _ Q4.out, HCL.out] at hlen2
  have HFIN := Lib.hid hfin
  have HLEN2 := Lib.hid hlen2
  clear hfin hlen2
  have hxsl : res.length = T * 2 := by
    rw [HRES.out]
    have := HXL.out; have := HYL.out; have := HT.out
    simp only [List.length_append, List.length_take, List.length_drop]; omega
  have HXSL := Lib.hid hxsl
  clear hxsl
  have hgr02 : w.grownBy w2 (some g) := grown_trans2 (grown_trans2 ⟨HGR0.out.os, HGR0.out.tape, HGR0.out.output, HGR0.out.size, fun k hk _ => HGR0.out.block k hk (by simp)⟩ hgr1) (grown_undrew hgr2)
  by_cases hTn : T < n
  · have hz8 : ¬ cap = T := by omega
    obtain ⟨w3, cs, hcl, hcs, hg3, hgr3, hs3⟩ := run_clearN w2 22 58 _ Try.underlying22 Try.zero58 zero58_cells g (T * 2) (n - T) (cap - T) (by omega) _ 58 hg2.out (by rw [HLEN2.out]; show T * 2 + (n - T) * 2 ≤ cap * 2; omega)
    have HG3 := Lib.hid hg3
    have HCS := Lib.hid hcs
    have HGR3 := Lib.hid hgr3
    clear hg3 hcs hgr3 hs3
    go_wp2_with fail
    go_ret
    have hg3 := HG3.out
    have hl3 := length_splice _ (T * 2) cs (show _ ≤ (splice (splice (xs ++ tail) (i * 2) ys) ((i + m) * 2) (xs.drop (j * 2))).length by rw [HLEN2.out, HCS.out]; show T * 2 + (n - T) * 2 ≤ cap * 2; omega)
    rw [HLEN2.out, HFIN.out, splice_prefix _ _ _ _ HXSL.out] at hl3
    rw [HFIN.out, splice_prefix _ _ _ _ HXSL.out] at hg3
    exact ⟨_, rfl, ownsRow_shut hg3 hl3 HXSL.out (by omega) (by unfold maxLen; omega), grown_trans2 hgr02 HGR3.out, .inl rfl⟩
  · obtain rfl : T = n := by omega
    have hcl := fun ty dp dc => run_clear0 (P := Try.prog) w2 22 ty 58 Try.underlying22 dp dc
    have hnn : T - T = 0 := Nat.sub_self T
    have hg3 := hg2.out
    rw [HFIN.out] at hg3
    have hl3 := HLEN2.out
    rw [HFIN.out] at hl3
    have HEND := Lib.hid (ownsRow_shut hg3 hl3 HXSL.out (by omega) (by unfold maxLen; omega))
    clear hg3 hl3 hg2 hs2 HFIN HLEN2
    by_cases hct : cap = T
    · subst hct
      go_wp2_with fail
      go_ret
      exact ⟨_, rfl, HEND.out, hgr02, .inl rfl⟩
    · go_wp2_with fail
      go_ret
      exact ⟨_, rfl, HEND.out, hgr02, .inl rfl⟩

set_option maxHeartbeats 800000 in
set_option maxRecDepth 100000 in
theorem replace_exp (g h n i j m cap cu T : Nat) (w : World) (xs ys res : List Value) (hres : res = xs.take (i * 2) ++ ys ++ xs.drop (j * 2)) (hT : T = i + m + (n - j)) (hij : i < j) (hj : j < n) (hn : n ≤ 100000) (hm' : m ≤ 100000) (hle : j < i + m) (hroom : T ≤ cap)
    (hown : w.ownsRow 0 58 2 (.slice (some ⟨g, 0, none⟩) n cap) n xs) (hown2 : w.ownsRow 0 58 2 (.slice (some ⟨h, 0, none⟩) m cu) m ys) (hgh : h ≠ g) (h1x : ∀ u ∈ xs, u.oneCell' = true) (h1y : ∀ u ∈ ys, u.oneCell' = true) :
    Calls Try.prog 87 #[.slice (some ⟨g, 0, none⟩) n cap, .int .i64 i, .int .i64 j, .slice (some ⟨h, 0, none⟩) m cu] w (RowPost w (.slice (some ⟨g, 0, none⟩) n cap) T res) := by
  obtain ⟨tail, hg, hcl, hxl, hnc, hcm⟩ := ownsRow_open hown
  obtain ⟨tail2, hh, hcl2, hyl, hnc2, hcm2⟩ := ownsRow_open hown2
  have HRES := Lib.hid hres
  clear hres
  unfold maxLen at hcm hcm2
  have hz1 : ((i : Int) == (j : Int)) = false := by simp; omega
  have hz2 : ((j : Int) == (n : Int)) = false := by simp; omega
  have hz5 : ¬ cap = i := by omega
  have hz6 : ¬ cap = j := by omega
  have hz7 : ¬ cap = i + m := by omega
  have hz8 : ¬ ((i : Int) + (m : Int) ≤ (j : Int)) := by omega
  have hb0 : T ≤ 300000 := by omega
  have hb2 : i ≤ T := by omega
  have hb3 : i + m ≤ T := by omega
  have QT : T - (i + m) = n - j := by omega
  have HXL := Lib.hid hxl
  have HYL := Lib.hid hyl
  have HG := Lib.hid hg
  have HH := Lib.hid hh
  have HCL := Lib.hid hcl
  have HCL2 := Lib.hid hcl2
  have HT := Lib.hid hT
  have HQT := Lib.hid QT
  have Q5 := Lib.hid (show (xs.drop (j * 2)).length = Nat.min (n - j) (T - (i + m)) * 2 by rw [List.length_drop, minEq, hxl]; omega)
  have Q6 := Lib.hid (show (i + m) * 2 + (xs.drop (j * 2)).length ≤ (xs ++ tail).length by rw [hcl, List.length_drop, hxl]; omega)
  have Q7 := Lib.hid (show ∀ v ∈ xs.drop (j * 2), v.oneCell' = true from fun v hv => h1x v (List.mem_of_mem_drop hv))
  have Q1 := Lib.hid (show ys.length = Nat.min m (T - i) * 2 by rw [minEq, hyl]; omega)
  have Q4 := Lib.hid (show i * 2 + ys.length ≤ (splice (xs ++ tail) ((i + m) * 2) (xs.drop (j * 2))).length by rw [length_splice _ _ _ Q6.out, hcl, hyl]; omega)
  clear hxl hyl hg hh hcl hcl2 hown hown2 hT QT
  go_enter Try.func87, Try.ntmps87
  go_wp2_with fail
  have hw1 : IntKind.i64.wrap ((i : Int) + (m : Int)) = (i : Int) + (m : Int) := by rw [IntKind.wrap_i64]; omega
  have hw2 : IntKind.i64.wrap ((i : Int) + (m : Int) + ((n - j : Nat) : Int)) = (T : Int) := by rw [IntKind.wrap_i64, HT.out]; omega
  go_quiet (fail)
  clear hw1 hw2
  obtain ⟨w0, hw0⟩ : ∃ w0, w0 = w.drewN nq := ⟨_, rfl⟩
  have HG0 := Lib.hid (show w0.heap[g]? = some (.cells (xs ++ tail).toArray 58 (0, 0)) by rw [hw0]; exact HG.out)
  have HH0 := Lib.hid (show w0.heap[h]? = some (.cells (ys ++ tail2).toArray 58 (0, 0)) by rw [hw0]; exact HH.out)
  have HGR0 := Lib.hid (show w.grownBy w0 none by rw [hw0]; exact ⟨rfl, rfl, rfl, Nat.le_refl _, fun _ _ _ => rfl⟩)
  rw [← hw0]
  clear hw0
  have hov : ∀ lb cb, (callFunc 90 #[.slice (some ⟨g, (i + m) * 2, none⟩) lb cb, .slice (some ⟨h, 0, none⟩) m cu]).run Try.prog w0 = .ok (.value (.bool false)) w0 := fun lb cb =>
    overlaps_run w0 h g ((i + m) * 2) 0 lb cb m cu _ _ (fun e => hgh e.symm) (shape_blk HG0.out) (shape_blk HH0.out) (by rw [List.size_toArray, HCL2.out]; omega) (frozen_blk HG0.out _) (frozen_blk HG0.out _)
  go_wp2_with (simp only [hov])
  clear hov
  have hw1 : IntKind.i64.wrap ((i : Int) + (m : Int)) = (i : Int) + (m : Int) := by rw [IntKind.wrap_i64]; omega
  have hb4 : (0 : Int) ≤ (i : Int) + (m : Int) := by omega
  have htn : ((i : Int) + (m : Int)).toNat = i + m := by omega
  have hb5 : (i : Int) + (m : Int) ≤ (T : Int) := by omega
  have hb6 : (j : Int) ≤ (n : Int) := by omega
  have Q8 := Lib.hid (drop_cells (k := j * 2) HG0.out)
  go_region_law (refine step_copyN rfl _ _ 22 22 rfl 58 2 Try.underlying22 Try.size58 g ((i + m) * 2) (T - (i + m)) (cap - (i + m)) ⟨g, j * 2, none⟩ (n - j) (cap - j) (by simp [Act.eval, Act.put]) (by simp [Act.eval, Act.put]) (xs ++ tail) 58 HG0.out (xs.drop (j * 2)) Q5.out Q8.out Q6.out Q7.out ?_; intro w1 hg1 hgr1 hs1)
  clear hw1 htn hb4 hb5 hb6
  have Q2 := Lib.hid (zero_cells (hgr1.block h (lt_blk HH0.out) (by simpa using hgh)) HH0.out)
  go_wp2_with ((with_reducible refine wpList_copyN rfl (.tmp 133) (.tmp 134) 22 22 rfl 58 2 Try.underlying22 Try.size58 g (i * 2) (T - i) (cap - i) ⟨h, 0, none⟩ m cu ?_ ?_ (splice (xs ++ tail) ((i + m) * 2) (xs.drop (j * 2))) 58 hg1.out ys Q1.out Q2.out Q4.out h1y ?_); rfl; rfl; intro w2 hg2 hgr2 hs2; have HG2 := Lib.hid hg2; clear hg2)
  go_ret
  have hfin : (splice (splice (xs ++ tail) ((i + m) * 2) (xs.drop (j * 2))) (i * 2) ys) = res ++ (xs ++ tail).drop ((i + m) * 2 + (xs.length - j * 2)) := by
    rw [Nat.add_mul, HRES.out]
    exact splice_exp xs ys tail (i * 2) (j * 2) (m * 2) (by omega) (by rw [HXL.out]; omega) HYL.out (by have := Q6.out; rw [List.length_drop] at this; omega)
  have hlen2 := length_splice (splice (xs ++ tail) ((i + m) * 2) (xs.drop (j * 2))) (i * 2) ys Q4.out
  rw [length_splice _ _ _ Q6.out, HCL.out, hfin] at hlen2
  have hxsl : res.length = T * 2 := by
    rw [HRES.out]
    have := HXL.out; have := HYL.out; have := HT.out
    simp only [List.length_append, List.length_take, List.length_drop]; omega
  have hg3 := HG2.out
  rw [hfin] at hg3
  have hgr02 : w.grownBy w2 (some g) := grown_trans2 (grown_trans2 ⟨HGR0.out.os, HGR0.out.tape, HGR0.out.output, HGR0.out.size, fun k hk _ => HGR0.out.block k hk (by simp)⟩ (grown_undrew hgr1)) hgr2
  exact ⟨_, rfl, ownsRow_shut hg3 hlen2 hxsl (by omega) (by unfold maxLen; omega), hgr02, .inl rfl⟩

set_option maxHeartbeats 800000 in
set_option maxRecDepth 100000 in
theorem replace_grow (g h n i j m cap cu T : Nat) (w : World) (xs ys res : List Value) (hres : res = xs.take (i * 2) ++ ys ++ xs.drop (j * 2)) (hT : T = i + m + (n - j)) (hij : i < j) (hj : j < n) (hn : n ≤ 100000) (hm' : m ≤ 100000) (hroom : cap < T)
    (hown : w.ownsRow 0 58 2 (.slice (some ⟨g, 0, none⟩) n cap) n xs) (hown2 : w.ownsRow 0 58 2 (.slice (some ⟨h, 0, none⟩) m cu) m ys) (h1x : ∀ u ∈ xs, u.oneCell' = true) (h1y : ∀ u ∈ ys, u.oneCell' = true) :
    Calls Try.prog 87 #[.slice (some ⟨g, 0, none⟩) n cap, .int .i64 i, .int .i64 j, .slice (some ⟨h, 0, none⟩) m cu] w (RowPost w (.slice (some ⟨g, 0, none⟩) n cap) T res) := by
  obtain ⟨tail, hg, hcl, hxl, hnc, hcm⟩ := ownsRow_open hown
  obtain ⟨tail2, hh, hcl2, hyl, hnc2, hcm2⟩ := ownsRow_open hown2
  have HRES := Lib.hid hres
  clear hres
  unfold maxLen at hcm hcm2
  have hz1 : ((i : Int) == (j : Int)) = false := by simp; omega
  have hz2 : ((j : Int) == (n : Int)) = false := by simp; omega
  have hz5 : ¬ cap = i := by omega
  have hz6 : ¬ cap = j := by omega
  have hb0 : T ≤ 300000 := by omega
  have hb2 : i ≤ T := by omega
  have hb3 : i + m ≤ T := by omega
  have hb33 : i + m < T := by omega
  have QT : T - (i + m) = n - j := by omega
  obtain ⟨i0, hi0, hi1, hi2, hi3⟩ := info_parts Try.info58
  have HXL := Lib.hid hxl
  have HYL := Lib.hid hyl
  have HG := Lib.hid hg
  have HH := Lib.hid hh
  have HT := Lib.hid hT
  have HQT := Lib.hid QT
  have HI0 := Lib.hid hi0
  have HI1 := Lib.hid hi1
  have HI2 := Lib.hid hi2
  have HI3 := Lib.hid hi3
  have Q0 := Lib.hid (show (xs.take (i * 2)).length = i * 2 by rw [List.length_take]; omega)
  have Q5 := Lib.hid (show (xs.drop (j * 2)).length = Nat.min (n - j) (T - (i + m)) * 2 by rw [List.length_drop, minEq, hxl]; omega)
  have Q7 := Lib.hid (show ∀ v ∈ xs.drop (j * 2), v.oneCell' = true from fun v hv => h1x v (List.mem_of_mem_drop hv))
  have Q1 := Lib.hid (show ys.length = Nat.min m (T - i) * 2 by rw [minEq, hyl]; omega)
  have QN := Lib.hid (show (T : Int) - (i : Int) = ((T - i : Nat) : Int) by omega)
  have QR := Lib.hid (show T = i + (T - i) by omega)
  have QR2 : cap < i + (T - i) := by omega
  have QR3 : (i + (T - i)) * 16 ≤ 140737488355328 := by omega
  have QR4 : 0 < T - i := by omega
  clear hxl hyl hg hh hcl hcl2 hown hown2 hT QT hi0 hi1 hi2 hi3
  go_enter Try.func87, Try.ntmps87
  go_wp2_with fail
  have hw1 : IntKind.i64.wrap ((i : Int) + (m : Int)) = (i : Int) + (m : Int) := by rw [IntKind.wrap_i64]; omega
  have hw2 : IntKind.i64.wrap ((i : Int) + (m : Int) + ((n - j : Nat) : Int)) = (T : Int) := by rw [IntKind.wrap_i64, HT.out]; omega
  go_quiet (fail)
  clear hw1 hw2
  obtain ⟨w0, hw0⟩ : ∃ w0, w0 = w.drewN nq := ⟨_, rfl⟩
  have HG0 := Lib.hid (show w0.heap[g]? = some (.cells (xs ++ tail).toArray 58 (0, 0)) by rw [hw0]; exact HG.out)
  have HH0 := Lib.hid (show w0.heap[h]? = some (.cells (ys ++ tail2).toArray 58 (0, 0)) by rw [hw0]; exact HH.out)
  have HGR0 := Lib.hid (show w.grownBy w0 none by rw [hw0]; exact ⟨rfl, rfl, rfl, Nat.le_refl _, fun _ _ _ => rfl⟩)
  have HSZ0 := Lib.hid (show w0.heap.size = w.heap.size by rw [hw0]; rfl)
  rw [← hw0]
  clear hw0
  have Q00 := Lib.hid (show ∀ j u, (xs.take (i * 2))[j]? = some u → w0.cell? ⟨g, j, none⟩ = some u from fun j u hj => by
    rw [cell_blk HG0.out]
    rw [List.getElem?_take] at hj
    split at hj
    · have hlt : j < xs.length := (List.getElem?_eq_some_iff.1 hj).1
      simpa [List.getElem?_append_left hlt] using hj
    · cases hj)
  go_wp2_with (first
    | ((with_reducible refine wpList_append_zerosN _ rfl (.tmp 63) (.tmp 66) 22 3 rfl 58 i0 _ .i64 .i64 2 16 Try.underlying22 Try.underlying3 HI0.out HI1.out HI2.out HI3.out ?_ (by decide) g i cap (xs.take (i * 2)) ?_ Q0.out Q00.out (T - i) T QR.out _ QN.out ?_ QR4 QR2 (by decide) QR3 ?_); rfl; rfl; rfl; intro w1 c' tl hg1 hl1 hc1 hcm1 hgr1 hs1; have HG1 := Lib.hid hg1; clear hg1; have HL1 := Lib.hid hl1; clear hl1; have hz8 : ¬ c' = i := by omega
       unfold maxLen at hcm1
       have Q6 := Lib.hid (zero_cells (hgr1.block h (lt_blk HH0.out) (by simp)) HH0.out)
       have Q9 := Lib.hid (show i * 2 + ys.length ≤ (xs.take (i * 2) ++ tl).length by rw [HL1.out, HYL.out]; omega))
    | ((with_reducible refine wpList_copyN rfl (.tmp 70) (.tmp 71) 22 22 rfl 58 2 Try.underlying22 Try.size58 w0.heap.size (i * 2) (T - i) (c' - i) ⟨h, 0, none⟩ m cu ?_ ?_ (xs.take (i * 2) ++ tl) 58 HG1.out ys Q1.out Q6.out Q9.out h1y ?_); rfl; rfl; intro w2 hg2 hgr2 hs2; have HG2 := Lib.hid hg2; clear hg2))
  have hz9 : ¬ c' = i + m := by omega
  have Q10 := Lib.hid (drop_cells (k := j * 2) ((((hgr2.block g (Nat.lt_of_lt_of_le (lt_blk HG0.out) hgr1.size) (by intro e; cases e; exact absurd (lt_blk HG0.out) (Nat.lt_irrefl _))).trans (hgr1.block g (lt_blk HG0.out) (by simp))).trans HG0.out)))
  have Q11 := Lib.hid (show (i + m) * 2 + (xs.drop (j * 2)).length ≤ (splice (xs.take (i * 2) ++ tl) (i * 2) ys).length by have := HT.out; rw [length_splice _ _ _ Q9.out, HL1.out, List.length_drop, HXL.out]; omega)
  have hw1 : IntKind.i64.wrap ((i : Int) + (m : Int)) = (i : Int) + (m : Int) := by rw [IntKind.wrap_i64]; omega
  have hb1 : (0 : Int) ≤ (i : Int) + (m : Int) := by omega
  have htn : ((i : Int) + (m : Int)).toNat = i + m := by omega
  have hb5 : (i : Int) + (m : Int) ≤ (T : Int) := by omega
  have hb6 : (j : Int) ≤ (n : Int) := by omega
  go_region_law (refine step_copyN rfl _ _ 22 22 rfl 58 2 Try.underlying22 Try.size58 w0.heap.size ((i + m) * 2) (T - (i + m)) (c' - (i + m)) ⟨g, j * 2, none⟩ (n - j) (cap - j) (by simp [Act.eval, Act.put]) (by simp [Act.eval, Act.put]) (splice (xs.take (i * 2) ++ tl) (i * 2) ys) 58 HG2.out (xs.drop (j * 2)) Q5.out Q10.out Q11.out Q7.out ?_; intro w3 hg3 hgr3 hs3)
  clear hw1 htn hb1 hb5 hb6
  go_wp2_with fail
  go_ret
  have hg3 := hg3.out
  have e := splice_grow (xs.take (i * 2)) tl ys (xs.drop (j * 2)) (i * 2) (m * 2) Q0.out HYL.out (by have := HL1.out; have := Q0.out; have := HXL.out; have := HT.out; rw [List.length_append] at *; rw [List.length_drop]; omega)
  rw [Nat.add_mul, e, ← HRES.out] at hg3
  have hl2 := length_splice (splice (xs.take (i * 2) ++ tl) (i * 2) ys) ((i + m) * 2) (xs.drop (j * 2)) Q11.out
  rw [length_splice _ _ _ Q9.out, HL1.out, Nat.add_mul, e, ← HRES.out] at hl2
  have hxsl : res.length = T * 2 := by
    rw [HRES.out]
    have := HXL.out; have := HYL.out; have := HT.out
    simp only [List.length_append, List.length_take, List.length_drop]; omega
  have hfr : w0.grownBy w3 (some g) := grown_trans hgr1 (grown_trans2 hgr2 (grown_undrew hgr3)) (Nat.le_refl _)
  refine ⟨_, rfl, ownsRow_shut hg3 hl2 hxsl hc1 (by unfold maxLen; omega), ?_, .inr fun k hk => by cases hk; rw [HSZ0.out]; exact Nat.le_refl _⟩
  exact grown_trans2 ⟨HGR0.out.os, HGR0.out.tape, HGR0.out.output, HGR0.out.size, fun k hk _ => HGR0.out.block k hk (by simp)⟩ hfr

set_option maxHeartbeats 400000 in
set_option maxRecDepth 100000 in
theorem insert_none (ao : Option Addr) (n i cap cu : Nat) (up : Option Addr) (w : World) (hi : i ≤ n) (_hnc : n ≤ cap) (_hcm : cap ≤ 9223372036854775807) (ha : ao = none ∨ ∃ g, ao = some ⟨g, 0, none⟩) :
    Calls Try.prog 89 #[.slice ao n cap, .int .i64 i, .slice up 0 cu] w (fun e w' => e = .returned (.slice ao n cap) ∧ w = w') := by
  rcases ha with rfl | ⟨g, rfl⟩
  · go_enter Try.func89, Try.ntmps89
    go_wp2_with fail
    go_ret
    exact ⟨rfl, rfl⟩
  · go_enter Try.func89, Try.ntmps89
    go_wp2_with fail
    all_goals (go_ret; exact ⟨rfl, rfl⟩)

set_option maxHeartbeats 400000 in
set_option maxRecDepth 100000 in
theorem insert_end_nil (h m cu : Nat) (w : World) (ys : List Value) (hm : 0 < m) (hm' : m ≤ 100000)
    (hown2 : w.ownsRow 0 58 2 (.slice (some ⟨h, 0, none⟩) m cu) m ys) :
    Calls Try.prog 89 #[.slice none 0 0, .int .i64 0, .slice (some ⟨h, 0, none⟩) m cu] w (RowPost w (.slice none 0 0) m ys) := by
  obtain ⟨tail2, hh, hcl2, hyl, hnc2, hcm2⟩ := ownsRow_open hown2
  unfold maxLen at hcm2
  have hz1 : ((m : Int) == 0) = false := by simp; omega
  obtain ⟨i0, hi0, hi1, hi2, hi3⟩ := info_parts Try.info58
  have HYL := Lib.hid hyl
  have HI0 := Lib.hid hi0
  have HI1 := Lib.hid hi1
  have HI2 := Lib.hid hi2
  have HI3 := Lib.hid hi3
  have Q0 := Lib.hid (zero_cells (w1 := w) rfl hh)
  have QB : m * 16 ≤ 140737488355328 := by omega
  clear hyl hh hcl2 hown2 hi0 hi1 hi2 hi3
  go_enter Try.func89, Try.ntmps89
  go_wp2_with ((with_reducible refine wpList_append_nilN _ rfl (.tmp 23) (.tmp 24) 22 rfl 58 i0 _ 2 16 Try.underlying22 HI0.out HI1.out HI2.out HI3.out ?_ ?_ ⟨h, 0, none⟩ m cu ys ?_ HYL.out Q0.out hm (by decide) QB ?_); rfl; rfl; rfl; intro w1 c' tl hg1 hl1 hc1 hcm1 hgr1 hs1)
  go_ret
  exact ⟨_, rfl, ownsRow_shut hg1 hl1 HYL.out hc1 hcm1, ⟨hgr1.os, hgr1.tape, hgr1.output, hgr1.size, fun k hk _ => hgr1.block k hk (by simp)⟩, .inr fun k hk => by cases hk; exact Nat.le_refl _⟩

set_option maxHeartbeats 400000 in
set_option maxRecDepth 100000 in
theorem insert_end (g h n m cap cu : Nat) (w : World) (xs ys res : List Value) (hres : res = xs ++ ys) (hn : n ≤ 100000) (hm : 0 < m) (hm' : m ≤ 100000)
    (hown : w.ownsRow 0 58 2 (.slice (some ⟨g, 0, none⟩) n cap) n xs) (hown2 : w.ownsRow 0 58 2 (.slice (some ⟨h, 0, none⟩) m cu) m ys) (h1y : ∀ u ∈ ys, u.oneCell' = true) :
    Calls Try.prog 89 #[.slice (some ⟨g, 0, none⟩) n cap, .int .i64 n, .slice (some ⟨h, 0, none⟩) m cu] w (RowPost w (.slice (some ⟨g, 0, none⟩) n cap) (n + m) res) := by
  obtain ⟨tail, hg, hcl, hxl, hnc, hcm⟩ := ownsRow_open hown
  obtain ⟨tail2, hh, hcl2, hyl, hnc2, hcm2⟩ := ownsRow_open hown2
  have HRES := Lib.hid hres
  clear hres
  unfold maxLen at hcm hcm2
  have hz1 : ((m : Int) == 0) = false := by simp; omega
  obtain ⟨i0, hi0, hi1, hi2, hi3⟩ := info_parts Try.info58
  have HXL := Lib.hid hxl
  have HYL := Lib.hid hyl
  have HI0 := Lib.hid hi0
  have HI1 := Lib.hid hi1
  have HI2 := Lib.hid hi2
  have HI3 := Lib.hid hi3
  have Q0 := Lib.hid (zero_cells (w1 := w) rfl hh)
  have Q1 := Lib.hid (zero_cells (w1 := w) rfl hg)
  have Q2 := Lib.hid (show ∀ j u, xs[j]? = some u → w.cell? ⟨g, j, none⟩ = some u from fun j u hj => by
    have := Q1.out j u hj
    have hadd : (⟨g, 0, none⟩ : Addr).add j = ⟨g, j, none⟩ := by unfold Addr.add; split <;> simp_all
    rwa [hadd] at this)
  have HO := Lib.hid hown
  clear hyl hh hcl hcl2 hown hown2 hi0 hi1 hi2 hi3 hg hxl
  by_cases hroom : n + m ≤ cap
  · go_enter Try.func89, Try.ntmps89
    by_cases hcn : cap = n
    · exfalso; omega
    · go_wp2_with ((with_reducible refine wpList_append_fits _ rfl (.tmp 23) (.tmp 24) 22 rfl 0 58 i0 2 Try.underlying22 HI0.out HI2.out g n cap xs ?_ HO.out ⟨h, 0, none⟩ m cu ys ?_ HYL.out Q0.out h1y hroom ?_); rfl; rfl; intro w1 hown1 hgr1; have HO1 := Lib.hid hown1; clear hown1)
      go_ret
      exact ⟨_, rfl, by rw [HRES.out]; exact HO1.out, hgr1, .inl rfl⟩
  · have QB : (n + m) * 16 ≤ 140737488355328 := by omega
    have QC : cap < n + m := by omega
    go_enter Try.func89, Try.ntmps89
    by_cases hcn : cap = n
    · subst hcn
      go_wp2_with ((with_reducible refine wpList_append_growN _ rfl (.tmp 23) (.tmp 24) 22 rfl 58 i0 _ 2 16 Try.underlying22 HI0.out HI1.out HI2.out HI3.out ?_ (by decide) g cap cap xs ?_ HXL.out Q2.out ⟨h, 0, none⟩ m cu (cap + m) rfl ys ?_ HYL.out Q0.out QC (by decide) QB ?_); rfl; rfl; rfl; intro w1 c' tl hg1 hl1 hc1 hcm1 hgr1 hs1; have HG1 := Lib.hid hg1; clear hg1; have HL1 := Lib.hid hl1; clear hl1)
      go_ret
      refine ⟨_, rfl, ownsRow_shut (xs := res) (by rw [HRES.out]; exact HG1.out) (by rw [HRES.out]; exact HL1.out) ?_ hc1 hcm1, ⟨hgr1.os, hgr1.tape, hgr1.output, hgr1.size, fun k hk _ => hgr1.block k hk (by simp)⟩, .inr fun k hk => by cases hk; exact Nat.le_refl _⟩
      rw [HRES.out, List.length_append, HXL.out, HYL.out, Nat.add_mul]
    · go_wp2_with ((with_reducible refine wpList_append_growN _ rfl (.tmp 23) (.tmp 24) 22 rfl 58 i0 _ 2 16 Try.underlying22 HI0.out HI1.out HI2.out HI3.out ?_ (by decide) g n cap xs ?_ HXL.out Q2.out ⟨h, 0, none⟩ m cu (n + m) rfl ys ?_ HYL.out Q0.out QC (by decide) QB ?_); rfl; rfl; rfl; intro w1 c' tl hg1 hl1 hc1 hcm1 hgr1 hs1; have HG1 := Lib.hid hg1; clear hg1; have HL1 := Lib.hid hl1; clear hl1)
      go_ret
      refine ⟨_, rfl, ownsRow_shut (xs := res) (by rw [HRES.out]; exact HG1.out) (by rw [HRES.out]; exact HL1.out) ?_ hc1 hcm1, ⟨hgr1.os, hgr1.tape, hgr1.output, hgr1.size, fun k hk _ => hgr1.block k hk (by simp)⟩, .inr fun k hk => by cases hk; exact Nat.le_refl _⟩
      rw [HRES.out, List.length_append, HXL.out, HYL.out, Nat.add_mul]

set_option maxHeartbeats 800000 in
set_option maxRecDepth 100000 in
theorem replace_end_room (g h n i m cap cu : Nat) (up : Option Addr) (w : World) (xs ys res : List Value) (hres : res = xs.take (i * 2) ++ ys) (hin : i < n) (_hn : n ≤ 100000) (hm' : m ≤ 100000) (hroom : i + m ≤ cap)
    (hown : w.ownsRow 0 58 2 (.slice (some ⟨g, 0, none⟩) n cap) n xs) (hu : Usrc w g h up m cu ys) (hyl : ys.length = m * 2) (h1y : ∀ u ∈ ys, u.oneCell' = true) :
    Calls Try.prog 87 #[.slice (some ⟨g, 0, none⟩) n cap, .int .i64 i, .int .i64 n, .slice up m cu] w (RowPost w (.slice (some ⟨g, 0, none⟩) n cap) (i + m) res) := by
  obtain ⟨tail, hg, hcl, hxl, hnc, hcm⟩ := ownsRow_open hown
  unfold maxLen at hcm
  have HRES := Lib.hid hres
  clear hres
  have hz1 : ((i : Int) == (n : Int)) = false := by simp; omega
  have hz5 : ¬ cap = i := by omega
  obtain ⟨i0, hi0, hi1, hi2, hi3⟩ := info_parts Try.info58
  have HYL := Lib.hid hyl
  have HI0 := Lib.hid hi0
  have HI2 := Lib.hid hi2
  have Q2 := Lib.hid (hu.cells (w1 := w) (fun _ _ _ => rfl))
  have Q3 := Lib.hid hu.nil2
  have HO := Lib.hid (ownsRow_prefix hown i (by omega))
  clear hyl hg hcl hxl hown hu hi0 hi1 hi2 hi3
  by_cases hlt : i + m < n
  · have hz6 : ¬ cap = i + m := by omega
    go_enter Try.func87, Try.ntmps87
    go_wp2_with ((with_reducible refine wpList_append_fits_any _ rfl (.tmp 32) (.tmp 33) 22 rfl 0 58 i0 2 Try.underlying22 HI0.out HI2.out g i cap (xs.take (i * 2)) ?_ HO.out up m cu ys ?_ HYL.out Q3.out Q2.out h1y hroom ?_); rfl; rfl; intro w1 hown1 hgr1; have HO1 := Lib.hid hown1; clear hown1; obtain ⟨tail1, hg1, hcl1, hxl1, _, _⟩ := ownsRow_open HO1.out; obtain ⟨w3, cs, hcl3, hcs, hg3, hgr3, hs3⟩ := run_clearN w1 22 58 _ Try.underlying22 Try.zero58 zero58_cells g ((i + m) * 2) (n - (i + m)) (cap - (i + m)) (by omega) _ 58 hg1 (by rw [hcl1]; show (i + m) * 2 + (n - (i + m)) * 2 ≤ cap * 2; omega); have HG3 := Lib.hid hg3; have HCS := Lib.hid hcs; have HGR3 := Lib.hid hgr3; have HCL1 := Lib.hid hcl1; have HXL1 := Lib.hid hxl1; clear hg3 hcs hgr3 hs3 hg1 hcl1 hxl1)
    go_ret
    have hl3 := length_splice (xs.take (i * 2) ++ ys ++ tail1) ((i + m) * 2) cs (by rw [HCL1.out, HCS.out]; show (i + m) * 2 + (n - (i + m)) * 2 ≤ cap * 2; omega)
    have hg3 := HG3.out
    rw [splice_prefix _ _ _ _ HXL1.out] at hl3 hg3
    rw [HCL1.out] at hl3
    refine ⟨_, rfl, ownsRow_shut (xs := res) (by rw [HRES.out]; exact hg3) (by rw [HRES.out]; exact hl3) (by rw [HRES.out]; exact HXL1.out) hroom (by unfold maxLen; omega), grown_trans2 hgr1 HGR3.out, .inl rfl⟩
  · go_enter Try.func87, Try.ntmps87
    go_wp2_with ((with_reducible refine wpList_append_fits_any _ rfl (.tmp 32) (.tmp 33) 22 rfl 0 58 i0 2 Try.underlying22 HI0.out HI2.out g i cap (xs.take (i * 2)) ?_ HO.out up m cu ys ?_ HYL.out Q3.out Q2.out h1y hroom ?_); rfl; rfl; intro w1 hown1 hgr1; have HO1 := Lib.hid hown1; clear hown1)
    go_ret
    exact ⟨_, rfl, by rw [HRES.out]; exact HO1.out, hgr1, .inl rfl⟩

set_option maxHeartbeats 800000 in
set_option maxRecDepth 100000 in
theorem replace_end_grow (g h n i m cap cu : Nat) (w : World) (xs ys res : List Value) (hres : res = xs.take (i * 2) ++ ys) (hin : i < n) (hn : n ≤ 100000) (hm' : m ≤ 100000) (hroom : cap < i + m)
    (hown : w.ownsRow 0 58 2 (.slice (some ⟨g, 0, none⟩) n cap) n xs) (hown2 : w.ownsRow 0 58 2 (.slice (some ⟨h, 0, none⟩) m cu) m ys) :
    Calls Try.prog 87 #[.slice (some ⟨g, 0, none⟩) n cap, .int .i64 i, .int .i64 n, .slice (some ⟨h, 0, none⟩) m cu] w (RowPost w (.slice (some ⟨g, 0, none⟩) n cap) (i + m) res) := by
  obtain ⟨tail, hg, hcl, hxl, hnc, hcm⟩ := ownsRow_open hown
  obtain ⟨tail2, hh, hcl2, hyl, hnc2, hcm2⟩ := ownsRow_open hown2
  unfold maxLen at hcm hcm2
  have HRES := Lib.hid hres
  clear hres
  have hz1 : ((i : Int) == (n : Int)) = false := by simp; omega
  have hz5 : ¬ cap = i := by omega
  have hz6 : ¬ (i + m < n) := by omega
  obtain ⟨i0, hi0, hi1, hi2, hi3⟩ := info_parts Try.info58
  have HYL := Lib.hid hyl
  have HI0 := Lib.hid hi0
  have HI1 := Lib.hid hi1
  have HI2 := Lib.hid hi2
  have HI3 := Lib.hid hi3
  have Q0 := Lib.hid (zero_cells (w1 := w) rfl hh)
  have Q3 := Lib.hid (show (xs.take (i * 2)).length = i * 2 by rw [List.length_take]; omega)
  have Q2 := Lib.hid (show ∀ j u, (xs.take (i * 2))[j]? = some u → w.cell? ⟨g, j, none⟩ = some u from fun j u hj => by
    rw [cell_blk hg]
    rw [List.getElem?_take] at hj
    split at hj
    · have hlt : j < xs.length := (List.getElem?_eq_some_iff.1 hj).1
      simpa [List.getElem?_append_left hlt] using hj
    · cases hj)
  have QB : (i + m) * 16 ≤ 140737488355328 := by omega
  clear hyl hh hcl hcl2 hown hown2 hi0 hi1 hi2 hi3 hg hxl
  go_enter Try.func87, Try.ntmps87
  go_wp2_with ((with_reducible refine wpList_append_growN _ rfl (.tmp 32) (.tmp 33) 22 rfl 58 i0 _ 2 16 Try.underlying22 HI0.out HI1.out HI2.out HI3.out ?_ (by decide) g i cap (xs.take (i * 2)) ?_ Q3.out Q2.out ⟨h, 0, none⟩ m cu (i + m) rfl ys ?_ HYL.out Q0.out hroom (by decide) QB ?_); rfl; rfl; rfl; intro w1 c' tl hg1 hl1 hc1 hcm1 hgr1 hs1; have HG1 := Lib.hid hg1; clear hg1; have HL1 := Lib.hid hl1; clear hl1)
  go_ret
  refine ⟨_, rfl, ownsRow_shut (xs := res) (by rw [HRES.out]; exact HG1.out) (by rw [HRES.out]; exact HL1.out) ?_ hc1 hcm1, ⟨hgr1.os, hgr1.tape, hgr1.output, hgr1.size, fun k hk _ => hgr1.block k hk (by simp)⟩, .inr fun k hk => by cases hk; exact Nat.le_refl _⟩
  rw [HRES.out, List.length_append, Q3.out, HYL.out, Nat.add_mul]

/-! ## All roads together -/
theorem ownsRow_form {w : World} {v : Value} {n : Nat} {xs : List Value} (h : w.ownsRow 0 58 2 v n xs) : (v = .slice none 0 0 ∧ n = 0 ∧ xs = []) ∨ ∃ g cap, v = .slice (some ⟨g, 0, none⟩) n cap := by
  rcases h.2 with ⟨h1, h2⟩ | ⟨g, cap, _, h1, _⟩
  · subst h2
    exact .inl ⟨h1, rfl, List.eq_nil_of_length_eq_zero (by simpa using h.1)⟩
  · exact .inr ⟨g, cap, h1⟩

theorem rowPost_same {w : World} {v : Value} {n : Nat} {xs : List Value} (h : w.ownsRow 0 58 2 v n xs) : ∀ e w', (e = Ending.returned v ∧ w = w') → RowPost w v n xs e w' := by
  rintro e w' ⟨rfl, rfl⟩
  exact ⟨v, rfl, h, ⟨rfl, rfl, rfl, Nat.le_refl _, fun _ _ _ => rfl⟩, .inl rfl⟩

theorem insert_any (w : World) (v u : Value) (n i m : Nat) (xs ys : List Value) (hi : i ≤ n) (hn : n ≤ 100000) (hm : m ≤ 100000)
    (hv : w.ownsRow 0 58 2 v n xs) (hu : w.ownsRow 0 58 2 u m ys) (hm0 : m = 0 → u = .slice none 0 0) (hne : ∀ k, v.ownBlock = some k → u.ownBlock ≠ some k) (h1x : ∀ a ∈ xs, a.oneCell' = true) (h1y : ∀ a ∈ ys, a.oneCell' = true) :
    Calls Try.prog 89 #[v, .int .i64 i, u] w (RowPost w v (n + m) (xs.take (i * 2) ++ ys ++ xs.drop (i * 2))) := by
  rcases ownsRow_form hu with ⟨rfl, rfl, rfl⟩ | ⟨h, cu, rfl⟩
  · have e : xs.take (i * 2) ++ [] ++ xs.drop (i * 2) = xs := by simp
    rw [e, Nat.add_zero]
    rcases ownsRow_form hv with ⟨rfl, rfl, rfl⟩ | ⟨g, cap, rfl⟩
    · obtain rfl : i = 0 := by omega
      exact (insert_none none 0 0 0 0 none w (by omega) (by omega) (by omega) (.inl rfl)).mono (rowPost_same hv)
    · obtain ⟨_, _, _, _, hnc, hcm⟩ := ownsRow_open hv
      exact (insert_none (some ⟨g, 0, none⟩) n i cap 0 none w hi hnc (by simpa [maxLen] using hcm) (.inr ⟨g, rfl⟩)).mono (rowPost_same hv)
  · have hpos : 0 < m := by
      rcases Nat.eq_zero_or_pos m with h0 | h0
      · have := hm0 h0; cases this
      · exact h0
    rcases ownsRow_form hv with ⟨rfl, rfl, rfl⟩ | ⟨g, cap, rfl⟩
    · obtain rfl : i = 0 := by omega
      have := insert_end_nil h m cu w ys hpos hm hu
      simpa using this
    · have hgh : h ≠ g := fun e => hne g rfl (by rw [e]; rfl)
      rcases Nat.lt_or_ge i n with hlt | hge
      · rcases Nat.lt_or_ge cap (n + m) with hc | hc
        · exact insert_grow g h n i m cap cu w xs ys hlt hn hpos hm hc hv hu h1x h1y
        · exact insert_room g h n i m cap cu w xs ys hlt hn hpos hm hc hgh hv hu h1x h1y
      · obtain rfl : i = n := by omega
        refine insert_end g h i m cap cu w xs ys _ ?_ hn hpos hm hv hu h1y
        have := hv.1
        rw [List.take_of_length_le (by omega), List.drop_eq_nil_of_le (by omega)]; simp

set_option maxHeartbeats 400000 in
set_option maxRecDepth 100000 in
theorem replace_same (v u : Value) (n i n' : Nat) (xs' : List Value) (w : World) (hi : i ≤ n) (hn : n ≤ 100000) (hv : (v = .slice none 0 0 ∧ n = 0) ∨ ∃ g cap, v = .slice (some ⟨g, 0, none⟩) n cap ∧ n ≤ cap) (h : Calls Try.prog 89 #[v, .int .i64 i, u] w (RowPost w v n' xs')) :
    Calls Try.prog 87 #[v, .int .i64 i, .int .i64 i, u] w (RowPost w v n' xs') := by
  have H := Lib.hid h
  clear h
  have hii : i - i = 0 := Nat.sub_self i
  rcases hv with ⟨rfl, rfl⟩ | ⟨g, cap, rfl, hc⟩
  · obtain rfl : i = 0 := by omega
    go_enter Try.func87, Try.ntmps87
    go_wp2_with fail
    refine H.out.mono ?_
    rintro e w' ⟨v', rfl, h1, h2, h3⟩
    go_wp2_with fail
    go_ret
    exact ⟨v', rfl, h1, h2, h3⟩
  · by_cases hci : cap = i
    · subst hci
      go_enter Try.func87, Try.ntmps87
      go_wp2_with fail
      refine H.out.mono ?_
      rintro e w' ⟨v', rfl, h1, h2, h3⟩
      go_wp2_with fail
      go_ret
      exact ⟨v', rfl, h1, h2, h3⟩
    · go_enter Try.func87, Try.ntmps87
      go_wp2_with fail
      refine H.out.mono ?_
      rintro e w' ⟨v', rfl, h1, h2, h3⟩
      go_wp2_with fail
      go_ret
      exact ⟨v', rfl, h1, h2, h3⟩

theorem replace_any (w : World) (v u : Value) (n i j m : Nat) (xs ys : List Value) (hij : i ≤ j) (hj : j ≤ n) (hn : n ≤ 100000) (hm : m ≤ 100000)
    (hv : w.ownsRow 0 58 2 v n xs) (hu : w.ownsRow 0 58 2 u m ys) (hm0 : m = 0 → u = .slice none 0 0) (hne : ∀ k, v.ownBlock = some k → u.ownBlock ≠ some k) (h1x : ∀ a ∈ xs, a.oneCell' = true) (h1y : ∀ a ∈ ys, a.oneCell' = true) :
    Calls Try.prog 87 #[v, .int .i64 i, .int .i64 j, u] w (RowPost w v (i + m + (n - j)) (xs.take (i * 2) ++ ys ++ xs.drop (j * 2))) := by
  rcases Nat.eq_or_lt_of_le hij with rfl | hlt
  · have hI := insert_any w v u n i m xs ys hj hn hm hv hu hm0 hne h1x h1y
    rw [show i + m + (n - i) = n + m by omega]
    refine replace_same v u n i (n + m) _ w hj hn ?_ hI
    rcases ownsRow_form hv with ⟨rfl, rfl, rfl⟩ | ⟨g, cap, rfl⟩
    · exact .inl ⟨rfl, rfl⟩
    · obtain ⟨_, _, _, _, hnc, _⟩ := ownsRow_open hv
      exact .inr ⟨g, cap, rfl, hnc⟩
  · rcases ownsRow_form hv with ⟨rfl, rfl, rfl⟩ | ⟨g, cap, rfl⟩
    · omega
    · have husrc : ∃ h up cu, u = .slice up m cu ∧ Usrc w g h up m cu ys := by
        rcases ownsRow_form hu with ⟨rfl, rfl, rfl⟩ | ⟨h, cu, rfl⟩
        · exact ⟨0, none, 0, rfl, .inl ⟨rfl, rfl, rfl, rfl⟩⟩
        · obtain ⟨tail, hh, _⟩ := ownsRow_open hu
          exact ⟨h, _, cu, rfl, .inr ⟨rfl, fun e => hne g rfl (by rw [e]; rfl), tail, hh⟩⟩
      obtain ⟨h, up, cu, rfl, hus⟩ := husrc
      rcases Nat.eq_or_lt_of_le hj with rfl | hjn
      · have e0 : xs.drop (j * 2) = [] := List.drop_eq_nil_of_le (by rw [hv.1]; exact Nat.le_refl _)
        rw [e0, List.append_nil, Nat.sub_self, Nat.add_zero]
        rcases Nat.lt_or_ge cap (i + m) with hc | hc
        · have hpos : 0 < m := by obtain ⟨_, _, _, _, hnc, _⟩ := ownsRow_open hv; omega
          obtain ⟨rfl, _, _⟩ := hus.some hpos
          exact replace_end_grow g h j i m cap cu w xs ys _ rfl hlt hn hm hc hv hu
        · exact replace_end_room g h j i m cap cu up w xs ys _ rfl hlt hn hm hc hv hus hu.1 h1y
      · rcases Nat.lt_or_ge j (i + m) with hc | hc
        · have hpos : 0 < m := by omega
          obtain ⟨rfl, hgh, _⟩ := hus.some hpos
          rcases Nat.lt_or_ge cap (i + m + (n - j)) with hc2 | hc2
          · exact replace_grow g h n i j m cap cu _ w xs ys _ rfl rfl hlt hjn hn hm hc2 hv hu h1x h1y
          · exact replace_exp g h n i j m cap cu _ w xs ys _ rfl rfl hlt hjn hn hm hc hc2 hv hu hgh h1x h1y
        · exact replace_easy g h n i j m cap cu _ up w xs ys _ rfl rfl hlt hjn hn hm hc hv hus hu.1 h1x h1y
end Go.Proofs.Ytjklcecakdmbaaa
