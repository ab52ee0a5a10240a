/-
  Package ranges: what All hands out is all numbers of the set, rising.
-/
import Derived.Test.YtjklcecakdmbaaaT1
import Derived.RangeFuncNested
import Derived.RangeFuncBound
import Derived.RangeFuncCalls
import Derived.RangeFuncLeaves
import Derived.Shelf.Abstract
import Derived.Shelf.RegionOpen
import Derived.WalkKit
import Derived.OwnWalkIn
import Derived.TacticsInMore
import Derived.LoopNIn
import Derived.LoopIn
namespace Go.Proofs.Ytjklcecakdmbaaa
open Go.RowKit Go.Shelf
attribute [local go_sem] Oper.semAt_some

/-- The block of a set's row. -/
def rowIs (a : Nat) (W : World) (k : Nat) : Prop := ∃ v c, W.heap[a]? = some (.cells #[v, c] 131 (0, 0)) ∧ v.ownBlock = some k
/-- What a round keeps: all pairs, but those of one set's row. -/
structure Kp (a : Nat) (W W' : World) : Prop where
  size : W.heap.size ≤ W'.heap.size
  same : ∀ k cs, W.heap[k]? = some (.cells cs 58 (0, 0)) → ¬ rowIs a W k → W'.heap[k]? = some (.cells cs 58 (0, 0))
  row : ∀ k, rowIs a W' k → rowIs a W k ∨ (W.heap.size ≤ k ∧ k < W'.heap.size)
theorem Kp.trans {a : Nat} {A B C : World} (h : Kp a A B) (k : Kp a B C) : Kp a A C := by
  refine ⟨Nat.le_trans h.size k.size, fun i cs hi hn => ?_, fun i hi => ?_⟩
  · refine k.same i cs (h.same i cs hi hn) fun hr => ?_
    rcases h.row i hr with h1 | h1
    · exact hn h1
    · have := lt_blk hi; omega
  · rcases k.row i hi with h1 | h1
    · rcases h.row i h1 with h2 | h2
      · exact .inl h2
      · exact .inr ⟨h2.1, Nat.lt_of_lt_of_le h2.2 k.size⟩
    · exact .inr ⟨Nat.le_trans h.size h1.1, h1.2⟩
theorem Kp.of_row {a : Nat} {A B : World} (hs : A.heap.size ≤ B.heap.size) (hsame : ∀ (k : Nat) (cs : Array Value) (t : TypeId), A.heap[k]? = some (.cells cs t (0, 0)) → B.heap[k]? = some (.cells cs t (0, 0))) (ha : B.heap[a]? = A.heap[a]?) : Kp a A B :=
  ⟨hs, fun k cs h _ => hsame k cs 58 h, fun k ⟨v, c, h1, h2⟩ => .inl ⟨v, c, by rw [← ha]; exact h1, h2⟩⟩
theorem Kp.putObj {a : Nat} {w : World} (ha : a < w.heap.size) (W : World) (l : Nat) (o o' : Obj) (hl : w.heap.size ≤ l) (h : W.heap[l]? = some o) (hc : o.isCells = false) (_ : o.isWalk = false) : Kp a W (W.putObj l o') := by
  refine Kp.of_row (by simp) (fun k cs t hk => ?_) (World.putObj_heap_other (by omega))
  rw [World.putObj_heap_other]
  · exact hk
  · intro e
    subst e
    rw [h] at hk
    cases hk
    cases hc
theorem Kp.alloc {a : Nat} {W : World} (ha : a < W.heap.size) (o : Obj) : Kp a W (W.alloc o) :=
  Kp.of_row (by simp) (fun k cs t hk => (heap_alloc_old (h := lt_blk hk) ..).trans hk) (heap_alloc_old (h := ha) ..)

set_option maxHeartbeats 1000000 in
theorem all_in (F : Fence) (n : Nat) (h44 : F.fn 44) (hro : F.round = none) (us : Nat) (w : World) :
    CallsIn F n Try.prog 44 #[.pointer (some ⟨us, 0, none⟩)] w fun e w' => e = .returned (.func (.func 73) #[] #[.pointer (some ⟨w.heap.size, 0, none⟩)]) ∧ w.alloc (.cells #[.pointer (some ⟨us, 0, none⟩)] 85) = w' := by
  refine callsIn_of_wp Try.func44 rfl h44 ?_ hro
  simp only [Try.ntmps44, List.size_toArray, List.length_cons, List.length_nil, Nat.reduceAdd, Nat.reduceSub, Array.replicate_succ, Array.replicate_zero, List.push_toArray, List.append_toArray, List.nil_append, List.cons_append]
  gi_wp2
  go_ret
  exact ⟨rfl, rfl⟩

/-- The inner loop's numbers. -/
def Bnd (U : List (Int × Int)) (j : Nat) (e : Nat) : Prop := (∀ x y, U[j]? = some (x, y) → (e : Int) ≤ x ∧ ∀ n : Nat, e ≤ n → (n : Int) < x → ¬ inS U n) ∧ (U.length ≤ j → ∀ n : Nat, e ≤ n → ¬ inS U n)
theorem Bnd.zero {U : List (Int × Int)} (h : Wf U) : Bnd U 0 0 := by
  refine ⟨fun x y hx => ⟨(h.at hx).1, fun n _ hn => ?_⟩, fun hl n _ => ?_⟩
  · rintro ⟨z, hz, h1, h2⟩
    obtain ⟨i, hi⟩ := List.getElem?_of_mem hz
    rcases Nat.eq_zero_or_pos i with rfl | hp
    · rw [hx] at hi; cases hi; simp only at h1; omega
    · have := h.lt hp hx hi
      have := h.at hx
      simp only at this
      omega
  · obtain rfl : U = [] := List.eq_nil_of_length_eq_zero (by omega)
    exact inS_nil _
theorem Bnd.next {U : List (Int × Int)} (h : Wf U) {j e : Nat} {x : Int} (hj : U[j]? = some (x, (e : Int))) : Bnd U (j + 1) e := by
  have hjj := h.at hj
  simp only at hjj
  refine ⟨fun x2 y2 hx => ⟨by have := h.lt (Nat.lt_succ_self j) hj hx; simp only at this; omega, fun n h1 hn => ?_⟩, fun hl n h1 => ?_⟩
  · rintro ⟨z, hz, h3, h4⟩
    obtain ⟨i, hi⟩ := List.getElem?_of_mem hz
    rcases Nat.lt_trichotomy i j with hp | rfl | hp
    · have := h.lt hp hi hj; simp only at this; have := h.at hi; omega
    · rw [hj] at hi; cases hi; simp only at h4; omega
    · rcases Nat.lt_or_eq_of_le (show j + 1 ≤ i by omega) with h5 | rfl
      · have := h.lt h5 hx hi; simp only at this; have := h.at hx; simp only at this; omega
      · rw [hx] at hi; cases hi; simp only at h3; omega
  · rintro ⟨z, hz, h3, h4⟩
    obtain ⟨i, hi⟩ := List.getElem?_of_mem hz
    have hil := (List.getElem?_eq_some_iff.1 hi).1
    rcases Nat.lt_or_eq_of_le (show i ≤ j by omega) with hp | rfl
    · have := h.lt hp hi hj; simp only at this; have := h.at hi; omega
    · rw [hj] at hi; cases hi; simp only at h4; omega

set_option maxHeartbeats 1600000 in
set_option maxRecDepth 100000 in
theorem all_stops (F : Fence) (n : Nat) (h73 : F.fn 73) (hro : F.round = none) (hn : 1 ≤ n) (Bx us a : Nat) (uv : Value) (U : List (Int × Int)) (w : World) (hbx : w.heap[Bx]? = some (.cells #[.pointer (some ⟨us, 0, none⟩)] 85 (0, 0))) (hs : IsSet w us uv U) (haw : a < w.heap.size) (ha : ∀ k, rowIs a w k → k < w.heap.size ∧ uv.ownBlock ≠ some k) :
    SeqStopsK F n Try.prog 73 #[.pointer (some ⟨Bx, 0, none⟩)] encN (Kp a) (fun xs => xs = uptoU U 16384) (fun _ => True) 16385 w := by
  intro l J Jx W hW hJ hJx hY h0
  have hbx' := (hW.block Bx (lt_blk hbx)).trans hbx
  have hsW : IsSet W us uv U := by
    refine ⟨(hW.block us (lt_blk hs.blk)).trans hs.blk, ownsRow_keeps (S := fun _ => False) hs.own (Keeps.of_below hW) (fun _ _ e => e), hs.wf⟩
  have c0 : W.cell? ⟨Bx, 0, none⟩ = some (.pointer (some ⟨us, 0, none⟩)) := by rw [cell_blk hbx']; rfl
  have s0 : W.cell? ⟨us, 0, none⟩ = some uv := by rw [cell_blk hsW.blk]; rfl
  have haW : a < W.heap.size := Nat.lt_of_lt_of_le haw hW.size
  have HRO := Lib.hid (show ∀ k, rowIs a W k → k < W.heap.size ∧ uv.ownBlock ≠ some k from fun k hk => by
    obtain ⟨v, c, h1, h2⟩ := hk
    rw [hW.block a haw] at h1
    have := ha k ⟨v, c, h1, h2⟩
    exact ⟨Nat.lt_of_lt_of_le this.1 hW.size, this.2⟩)
  have HY := Lib.hid hY
  have HJ := Lib.hid hJ
  have HS := Lib.hid hsW
  have H0 := Lib.hid h0
  have hlen16 := hs.wf.len
  obtain ⟨p, c, rfl, hc, hcm, hp⟩ := own_sl hs.own
  simp only [maxLen] at hcm
  have HP := Lib.hid hp
  clear hY hJ hsW h0 hbx hbx' hs hp hW ha
  refine callsIn_of_wp Try.func73 rfl h73 ?_ hro
  simp only [Try.ntmps73, List.size_toArray, List.length_cons, List.length_nil, Nat.reduceAdd, Nat.reduceSub, Array.replicate_succ, Array.replicate_zero, List.push_toArray, List.append_toArray, List.nil_append, List.cons_append]
  gi_wp2
  obtain ⟨LN, hLN⟩ : ∃ LN, LN = U.length := ⟨_, rfl⟩
  have HLN := Lib.hid hLN
  have HRW := Lib.hid (show W.ownsRow 0 58 2 (.slice p LN c) LN (flat U) by rw [hLN]; exact HS.out.own)
  rw [← hLN] at HP HRO hlen16 hc ⊢
  clear hLN c0 s0
  gi_loopw [11] (fun x wr => ∃ (j e : Nat), x = .int .i64 j ∧ j ≤ LN ∧ e ≤ 16384 ∧ Bnd U j e ∧ J (uptoU U e) wr ∧ wr.ownsRow 0 58 2 (.slice p LN c) LN (flat U) ∧ (∀ k, rowIs a wr k → k < wr.heap.size ∧ (Value.slice p LN c).ownBlock ≠ some k) ∧ a < wr.heap.size ∧ W.heap.size ≤ wr.heap.size)
    (fun x _ => LN - (intOf x).toNat)
  case atStart => exact ⟨0, 0, rfl, by omega, by omega, Bnd.zero HS.out.wf, H0.out, HRW.out, HRO.out, haW, Nat.le_refl _⟩
  case round =>
    obtain ⟨j, e, rfl, hj, he, hbnd, hJs, hrw, hro2, haw2, hsz⟩ := hrel
    have HB := Lib.hid hbnd
    have HJs := Lib.hid hJs
    have HR := Lib.hid hrw
    have HR2 := Lib.hid hro2
    clear hbnd hJs hrw hro2
    by_cases hlt : j < LN
    · obtain ⟨⟨x, y⟩, hx⟩ : ∃ x, U[j]? = some x := ⟨_, List.getElem?_eq_getElem (by have := HLN.out; omega)⟩
      have hxy := HS.out.wf.at hx
      simp only at hxy
      obtain ⟨x, rfl⟩ : ∃ x' : Nat, x = x' := ⟨x.toNat, by omega⟩
      obtain ⟨y, rfl⟩ : ∃ y' : Nat, y = y' := ⟨y.toNat, by omega⟩
      obtain ⟨g, rfl⟩ := HP.out (by omega)
      have hcc := cells_of_own HR.out j _ hx
      have k0 : wr.cell? ⟨g, j * 2, none⟩ = some (.int .i64 x) := hcc.1
      have k1 : wr.cell? ⟨g, j * 2 + 1, none⟩ = some (.int .i64 y) := hcc.2
      have hgap := (HB.out.1 _ _ hx)
      have HX := Lib.hid hx
      have HGAP := Lib.hid (show uptoU U x = uptoU U e from uptoU_gap (by omega) (fun n h1 h2 => hgap.2 n h1 (by omega)))
      obtain ⟨hxy0, hxy1, hxy2⟩ := hxy
      clear hx hcc hgap
      gi_wp2
      obtain ⟨X, hX⟩ : ∃ X, X = wr.alloc (.cells #[.int .i64 x, .int .i64 y] 58) := ⟨_, rfl⟩
      obtain ⟨q, hq⟩ : ∃ q, q = wr.heap.size := ⟨_, rfl⟩
      have hqX : X.heap[q]? = some (.cells #[.int .i64 x, .int .i64 y] 58 (0, 0)) := by rw [hX, hq]; exact heap_alloc_new wr _
      have hXs : X.heap.size = wr.heap.size + 1 := by rw [hX]; simp
      have hJX : J (uptoU U x) X := by rw [hX, HGAP.out]; exact HJ.out _ wr _ none HJs.out (World.grownBy_alloc wr _ none) (fun r e => by cases e)
      have hRX : X.ownsRow 0 58 2 (.slice (some ⟨g, 0, none⟩) LN c) LN (flat U) := by rw [hX]; exact HR.out.alloc _
      have hRO : ∀ k, rowIs a X k → k < X.heap.size ∧ (Value.slice (some ⟨g, 0, none⟩) LN c).ownBlock ≠ some k ∧ k ≠ q := fun k hk => by
        obtain ⟨v, cc, h1, h2⟩ := hk
        rw [hX, heap_alloc_old (h := haw2)] at h1
        have := HR2.out k ⟨v, cc, h1, h2⟩
        exact ⟨by omega, this.2, by omega⟩
      rw [← hX, ← hq]
      have HQX := Lib.hid hqX
      have HJX := Lib.hid hJX
      have HRX := Lib.hid hRX
      have HROX := Lib.hid hRO
      have hXw : W.heap.size ≤ X.heap.size := by omega
      have haX : a < X.heap.size := by omega
      clear hX hq hqX hJX hRX hRO hXs k0 k1 HR HR2 HJs hsz haw2
      obtain ⟨wo, rfl⟩ : ∃ wo : World, wo = wr := ⟨_, rfl⟩
      gi_loopw [5] (fun z wi => ∃ n : Nat, z = .int .i64 n ∧ x ≤ n ∧ n ≤ y ∧ J (uptoU U n) wi ∧ wi.ownsRow 0 58 2 (.slice (some ⟨g, 0, none⟩) LN c) LN (flat U) ∧ wi.heap[q]? = some (.cells #[.int .i64 x, .int .i64 y] 58 (0, 0)) ∧ (∀ k, rowIs a wi k → k < wi.heap.size ∧ (Value.slice (some ⟨g, 0, none⟩) LN c).ownBlock ≠ some k ∧ k ≠ q) ∧ a < wi.heap.size ∧ W.heap.size ≤ wi.heap.size)
        (fun z _ => y - (intOf z).toNat)
      case atStart => exact ⟨x, rfl, by omega, by omega, HJX.out, HRX.out, HQX.out, HROX.out, haX, hXw⟩
      case round =>
        obtain ⟨m, rfl, hm1, hm2, hJm, hRm, hQm, hROm, ham, hWm⟩ := hrel
        have q1 : wr.cell? ⟨q, 1, none⟩ = some (.int .i64 y) := by rw [cell_blk hQm]; rfl
        have HJm := Lib.hid hJm
        have HRm := Lib.hid hRm
        have HQm := Lib.hid hQm
        have HROm := Lib.hid hROm
        clear hJm hRm hQm hROm
        by_cases hlt2 : m < y
        · have hm16 : m < 16384 := by omega
          obtain ⟨fn, tmps, assign, body, hy, hR⟩ := HY.out (uptoU U m) ⟨m, hm16⟩ wr HJm.out (by have := uptoU_len U m; omega)
          dsimp only [encN] at hy
          gi_wp2
          refine hR.mono ?_
          rintro e W3 (⟨rfl, hJ3, hk3⟩ | ⟨rfl, hJx3⟩)
          · have hnr : ∀ k, rowIs a wr k → k ≠ g ∧ k ≠ q := fun k hk => ⟨fun e => (HROm.out k hk).2.1 (by rw [e]; rfl), (HROm.out k hk).2.2⟩
            have hR3 : W3.ownsRow 0 58 2 (.slice (some ⟨g, 0, none⟩) LN c) LN (flat U) := by
              obtain ⟨tail, hg, h1, h2, h3, h4⟩ := ownsRow_open HRm.out
              exact ownsRow_shut (hk3.same g _ hg (fun h => (hnr g h).1 rfl)) h1 h2 h3 h4
            have hQ3 := hk3.same q _ HQm.out (fun h => (hnr q h).2 rfl)
            have hq1 : W3.cell? ⟨q, 1, none⟩ = some (.int .i64 y) := by rw [cell_blk hQ3]; rfl
            have hRO3 : ∀ k, rowIs a W3 k → k < W3.heap.size ∧ (Value.slice (some ⟨g, 0, none⟩) LN c).ownBlock ≠ some k ∧ k ≠ q := fun k hk => by
              rcases hk3.row k hk with h | h
              · have := HROm.out k h
                exact ⟨Nat.lt_of_lt_of_le this.1 hk3.size, this.2⟩
              · have h1 := (HRm.out.lt g rfl).2
                have h2 := lt_blk HQm.out
                exact ⟨h.2, fun e => by have e2 : g = k := Option.some.inj e; omega, by omega⟩
            have hin : inS U m := ⟨_, List.mem_of_getElem? HX.out, by simp only; omega, by simp only; omega⟩
            have HUP := Lib.hid (uptoU_in hm16 hin)
            have hsz3 := hk3.size
            have HR3 := Lib.hid hR3
            have HQ3 := Lib.hid hQ3
            have HRO3 := Lib.hid hRO3
            clear hR hy hk3 hR3 hQ3 hRO3 hin hnr q1
            gi_wp2
            go_roundw
            case rel => exact ⟨m + 1, by go_num, by omega, by omega, by rw [HUP.out]; exact hJ3, HR3.out, HQ3.out, HRO3.out, by omega, by omega⟩
            case measure => simp [intOf]; omega
          · gi_wp2
            refine bodyPost_ret (results_none rfl _ _ _) rfl ?_
            exact ⟨⟨_, rfl⟩, .inr ⟨_, trivial, hJx3⟩⟩
        · obtain rfl : m = y := by omega
          gi_wp2
          go_roundw
          case rel => exact ⟨j + 1, m, by go_num, by omega, by omega, Bnd.next HS.out.wf HX.out, HJm.out, HRm.out, fun k hk => ⟨(HROm.out k hk).1, (HROm.out k hk).2.1⟩, ham, hWm⟩
          case measure => simp [intOf]; omega
    · obtain rfl : j = LN := by omega
      have hfin : J (uptoU U 16384) wr := by
        rw [uptoU_gap he (fun n h1 _ => HB.out.2 (by rw [← HLN.out]; exact Nat.le_refl _) n h1)]
        exact HJs.out
      have HF := Lib.hid hfin
      clear hfin
      gi_wp2
      go_end0
      exact ⟨⟨_, rfl⟩, .inl ⟨_, rfl, HF.out⟩⟩
end Go.Proofs.Ytjklcecakdmbaaa
