/-
  The law StoreRepairs: the statement. The frame follows the shell that proof-skeleton.mjs prints.
-/
import Derived.Test.YtjklcecakdmbaaaRows
import Derived.Test.YtjklcecakdmbaaaPost
import Derived.Test.YtjklcecakdmbaaaT16
namespace Go.Proofs.Ytjklcecakdmbaaa.storeRepairs
open Go.ChangeShapes Go.WideShapes Go.ChangeAt Go.RowKit Go.Deep Go.Joins

theorem own : ownKnob Try.prog.godebug = none := by kernel_rfl

section
variable {H : Type} {enc : TypeId × Value → H} {w : World}
set_option maxRecDepth 100000 in
theorem open_pairs {fuel : Nat} {v : Value} {x : DataW H × List MemPlace} (h : DataW.trod enc Try.prog w 0 (fun _ => true) true fuel 22 [v] = some x) :
    ∃ (p : Option Addr) (n cap : Nat) (L : List (Int × Int)), v = .slice p n cap ∧ n ≤ cap ∧ cap ≤ maxLen ∧ PairsAt w p n L := by
  rcases open_slice Try.underlying22 h with ⟨h1, _⟩ | ⟨a, len, cap, m, n, D, Pl, h1, _, h3, h4, h5, _, h7⟩
  · cases h1
    exact ⟨none, 0, 0, [], rfl, Nat.le_refl _, Nat.zero_le _, rfl, fun _ => rfl, fun _ e => (by cases e)⟩
  · cases h1
    simp only [if_true] at h5
    have hc58 : Try.prog.cellsOf 58 = 2 := by kernel_rfl
    have hc3 : Try.prog.cellsOf 3 = 1 := by kernel_rfl
    have each : ∀ i, i < len → ∃ o : Int × Int, a.spot = none ∧ a.block < w.heap.size ∧ w.cell? ⟨a.block, a.off + i * 2, none⟩ = some (.int .i64 o.1) ∧ w.cell? ⟨a.block, a.off + i * 2 + 1, none⟩ = some (.int .i64 o.2) := by
      intro i hi
      obtain ⟨cs', g1, g2⟩ := h7 i (by omega)
      rw [hc58] at g1
      obtain ⟨_, hlen, hcell⟩ := World.cells?_some g1
      obtain ⟨xs, kk, hk, hxy, _, hxl, hf⟩ := DataW.trod_array Try.underlying58 g2
      match xs, hxl, cs', hlen with
      | [y0, y1], _, [v0, v1], _ =>
        have f0 := hf 0 (by omega)
        have f1 := hf 1 (by omega)
        simp [hc3] at f0 f1
        obtain ⟨k, e0, _, w0⟩ := DataW.trod_int Try.underlying3 f0
        obtain ⟨b, e1, _, w1⟩ := DataW.trod_int Try.underlying3 f1
        simp at e0 e1
        subst e0 e1
        have e0 := hcell 0 (by omega)
        have e1 := hcell 1 (by omega)
        rw [add_add] at e0 e1
        have c0 := cell_lt e0
        have hsp : a.spot = none := by
          obtain ⟨cs0, g0, _⟩ := h7 0 (by omega)
          rw [hc58] at g0
          obtain ⟨_, hl0, hc0⟩ := World.cells?_some g0
          have h00 := hc0 0 (by omega)
          rw [List.getElem?_eq_getElem (by omega)] at h00
          have := (cell_lt h00).2
          simpa [Addr.add] using this
        have hadd : ∀ j, a.add j = ⟨a.block, a.off + j, none⟩ := fun j => by
          unfold Addr.add
          split
          · subst j; cases a; simp_all
          · rfl
        rw [hadd] at e0 e1 c0
        exact ⟨(k, b), hsp, c0.1, by simpa using e0, by simpa [Nat.add_assoc] using e1⟩
    obtain ⟨O, hO⟩ := choose_lt each
    refine ⟨some a, len, cap, (List.range len).map O, rfl, h3, h4, by simp, fun e => (by cases e), fun a' e j o ho => ?_⟩
    cases e
    have hj : j < len := by have := (List.getElem?_eq_some_iff.1 ho).1; simpa using this
    have : o = O j := by simp [List.getElem?_range hj] at ho; exact ho.symm
    subst this
    exact hO j hj
set_option maxRecDepth 100000 in
theorem open_rep {r : Reach} {b0 : Nat} {v : Value} {d : DataW H} {ps : List MemPlace} (hv : Value.okWide Try.prog w r b0 24 v) (h : DataW.Trod enc Try.prog w 0 (fun _ => true) true 24 v d ps) :
    ∃ (p : Option Addr) (n cap : Nat) (L : List (Int × Int)) (hold now by_ : Int), v = .agg #[.slice p n cap, .int .i64 hold, .int .i64 now, .int .i64 by_] ∧ n ≤ cap ∧ cap ≤ maxLen ∧ PairsAt w p n L := by
  obtain ⟨v0, v1, v2, v3, y0, y1, y2, y3, n, rfl, _, _, h0, h1, h2, h3⟩ := open_agg4 Try.underlying24 (by kernel_rfl) (by kernel_rfl) hv h
  obtain ⟨p, n, cap, L, rfl, ho1, ho2, ho3⟩ := open_pairs h0
  obtain ⟨S, e0, _, w0⟩ := DataW.trod_int Try.underlying3 h1
  obtain ⟨B, e1, _, w1⟩ := DataW.trod_int Try.underlying3 h2
  obtain ⟨L2, e2, _, w2⟩ := DataW.trod_int Try.underlying3 h3
  cases e0; cases e1; cases e2
  exact ⟨p, n, cap, L, S, B, L2, rfl, ho1, ho2, ho3⟩
theorem rep_stays {W W' : World} {v : Value} {d : DataW H} {ps before : List MemPlace} {sp : Nat → Bool} (h : DataW.Trod enc Try.prog W 0 (fun _ => true) true 24 v d ps) (hb : Below W.heap.size W W') (hlt : ∀ x ∈ ps, x.block < W.heap.size) (hsub : ∀ x ∈ ps, x ∈ before) (hsp : ∀ x ∈ before, sp x.block = true) :
    DataW.Trod enc Try.prog W' 0 sp true 24 v d ps :=
  WideElems.Trod_stays (by kernel_rfl) (by kernel_rfl) (of_decide_eq_true (by kernel_rfl)) h (fun x hx => hb.same (hlt x hx)) (fun x hx => hsp x (hsub x hx))
end

set_option maxRecDepth 100000 in
theorem walk (p : Option Addr) (n cap : Nat) (hold now by_ : Int) (L : List (Int × Int)) (w : World) (hp : PairsAt w p n L) (hn : n ≤ cap) (hcap : cap ≤ 9223372036854775807) :
    Calls Try.prog 3 #[.agg #[.slice p n cap, .int .i64 hold, .int .i64 now, .int .i64 by_]] w fun e w' => e = .returned (.bool true) ∧ Below w.heap.size w w' := by
  by_cases h : rightR n hold now by_
  · exact repairs_yes p n cap hold now by_ L w hp h
  · exact repairs_no p n cap hold now by_ w (by omega) h

set_option maxRecDepth 100000 in
theorem lifted (os : Os) (started : os.Started) (H : Type) (enc : TypeId × Value → H) :
    ReturnsInHanded {} Try.checked os 3 .any (Rows.storeRepairsSpec.pre6 enc Try.prog Try.f3 Rows.storeRepairsRow.domain false) (Rows.storeRepairsSpec.post enc Try.prog Try.f3 false true false false) := by
  refine returnsInHanded_of_change (C := Try.checked) own started (by kernel_rfl) Try.func3
    (ChangeSpec.witness6 (enc := enc) (C := Try.checked) false ⟨#[], #[.agg #[.slice none 0 0, .int .i64 0, .int .i64 0, .int .i64 0]], []⟩ 8 (by kernel_rfl) (by kernel_rfl) (by kernel_rfl) (by kernel_rfl)) ?_
  intro W base args ds gs before hval0 hW hcnd _
  have hval : ∀ (j : Nat) t v, Try.f3.params[j]? = some t → args[j]? = some v → Value.okWide Try.prog W .any base t v := hval0
  have hW' := hW
  obtain ⟨p, q, hA0, hV, rfl, hfz, hnd⟩ := hW
  have hA : DataW.TrodAll enc Try.prog W 0 (fun _ => true) true Try.f3.params.toList args.toList ds p := hA0
  rw [Try.params3] at hA hval
  obtain ⟨v0, vs0, d0, ds0, p0, q0, hargs, rfl, rfl, h0, r0⟩ := trodAll_cons hA
  obtain ⟨rfl, rfl, rfl⟩ := trodAll_nil r0
  obtain rfl : args = #[v0] := by cases args; simp_all
  obtain ⟨rfl, rfl⟩ := trodVars_none hV
  obtain ⟨op, n, cap, L, hold, now, by_, rfl, ho2, ho3, ho4⟩ := open_rep (hval 0 24 v0 rfl rfl) h0
  clear hA0 hval0
  simp only [List.append_nil] at hW'
  have hlt : ∀ x ∈ p0, x.block < W.heap.size := fun x hx => hW'.lt x hx
  refine (walk op n cap hold now by_ L W ho4 ho2 (by simpa [maxLen] using ho3)).mono fun e W' ⟨he, hg⟩ => ?_
  subst he
  exact ⟨_, rfl, post_of_below (pa := p0 ++ []) (pv := []) hW' (fun _ _ _ => (trodAll_cons_mk (shut_bool Try.underlying4 _) trodAll_mk0)) (fun sp hsp => (trodAll_cons_mk (rep_stays h0 hg hlt (fun _ h => h) hsp) trodAll_mk0)) (fun _ _ => rfl) (by simp)
    hg (ok_one (by kernel_rfl) rfl (okWide_bool_mk Try.underlying4 _))⟩

theorem over : Rows.storeRepairsRow.holds Try.pinned (OpenSpec.ofChange Rows.storeRepairsSpec) :=
  OpenClaim.holds_of_wide 3 Try.f3 rfl rfl rfl rfl rfl rfl rfl ⟨rfl, rfl, rfl, rfl, rfl⟩ rfl rfl rfl rfl rfl (by kernel_rfl) Try.func3 (by kernel_rfl)
    (of_decide_eq_true (by kernel_rfl)) (by unfold Func.isWrapper; first | (rw [if_pos (by decide +kernel)]; kernel_rfl) | (rw [if_neg (by decide +kernel)]; exact ⟨rfl, rfl⟩))
    (fun os started H enc _ => lifted os started H enc)

theorem proved : Rows.StoreRepairsSaid :=
  over
#print axioms proved
end Go.Proofs.Ytjklcecakdmbaaa.storeRepairs
