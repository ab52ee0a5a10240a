/-
  The law BuildPlays: the statement. The frame follows the shell that proof-skeleton.mjs prints.
-/
import Derived.Test.YtjklcecakdmbaaaRows
import Derived.Test.YtjklcecakdmbaaaPost
import Derived.Test.YtjklcecakdmbaaaP10
namespace Go.Proofs.Ytjklcecakdmbaaa.buildPlays
open Go.ChangeShapes Go.WideShapes Go.ChangeAt Go.RowKit

theorem own : ownKnob Try.prog.godebug = none := by kernel_rfl

set_option maxHeartbeats 800000 in
set_option maxRecDepth 100000 in
theorem plays_no (S B L k : Int) (p : Option Addr) (n cap : Nat) (w : World) (hn : n ≤ 9223372036854775807) (h : ¬ rightZ S B L n) :
    Calls Try.prog 7 #[zAgg S B L (.slice p n cap), .int .i64 k] w fun e w' => e = .returned (.bool true) ∧ Below w.heap.size w w' := by
  obtain ⟨POST, hPOST⟩ : ∃ POST : Ending → World → Prop, POST = fun e w' => e = .returned (.bool true) ∧ Below w.heap.size w w' := ⟨_, rfl⟩
  rw [← hPOST]
  have HPOST := Lib.hid hPOST
  have HR := Lib.hid (fun w' => right26_any S B L p n cap w' hn)
  have hd : decide (rightZ S B L n) = false := by simp [h]
  rw [hd] at HR
  clear hPOST h hd
  unfold zAgg at HR ⊢
  go_enter Try.func7, Try.ntmps7
  go_wp2_with fail
  refine (HR.out _).mono ?_
  rintro e w1 ⟨rfl, hb1⟩
  have hbw1 : Below w.heap.size w w1 := ((Below.refl _ _).alloc (Nat.le_refl _) _).trans (hb1.mono (by simp))
  clear hb1
  have HA := Lib.hid (awake_any w1)
  go_wp2_with fail
  refine HA.out.mono ?_
  rintro e w2 ⟨rfl, hb2⟩
  have hp : POST (.returned (.bool true)) w2 := by rw [HPOST.out]; exact ⟨rfl, hbw1.trans (hb2.mono hbw1.size)⟩
  have HP := Lib.hid hp
  clear hp
  go_wp2_with fail
  exact HP.out

theorem walk (S B L k : Int) (p : Option Addr) (n cap : Nat) (ops : List OpD) (w : World) (hops : OpsAt w p ops) (hl : ops.length = n) (hn : n ≤ cap) (hcap : cap ≤ 9223372036854775807) :
    Calls Try.prog 7 #[zAgg S B L (.slice p n cap), .int .i64 k] w fun e w' => e = .returned (.bool true) ∧ Below w.heap.size w w' := by
  by_cases h : rightZ S B L n
  · obtain ⟨S, rfl⟩ : ∃ S' : Nat, S = S' := ⟨S.toNat, by have := h.1; omega⟩
    obtain ⟨B, rfl⟩ : ∃ B' : Nat, B = B' := ⟨B.toNat, by have := h.2.2.1; omega⟩
    obtain ⟨L, rfl⟩ : ∃ L' : Nat, L = L' := ⟨L.toNat, by have := h.2.2.2.2.1; omega⟩
    exact plays_yes S B L k p n cap ops w hops hl hn h
  · exact plays_no S B L k p n cap w (by omega) h

set_option maxRecDepth 100000 in
theorem lifted (os : Os) (started : os.Started) (H : Type) (enc : TypeId × Value → H) :
    ReturnsInHanded {} Try.checked os 7 .any (Rows.buildPlaysSpec.pre6 enc Try.prog Try.f7 Rows.buildPlaysRow.domain false) (Rows.buildPlaysSpec.post enc Try.prog Try.f7 false true false false) := by
  refine returnsInHanded_of_change (C := Try.checked) own started (by kernel_rfl) Try.func7
    (ChangeSpec.witness6 (enc := enc) (C := Try.checked) false ⟨#[], #[.agg #[.int .i64 0, .int .i64 0, .int .i64 0, .slice none 0 0], .int .i64 0], []⟩ 8 (by kernel_rfl) (by kernel_rfl) (by kernel_rfl) (by kernel_rfl)) ?_
  intro W base args ds gs before hval0 hW hcnd _
  have hval : ∀ (j : Nat) t v, Try.f7.params[j]? = some t → args[j]? = some v → Value.okWide Try.prog W .any base t v := hval0
  have hW' := hW
  obtain ⟨p, q, hA0, hV, rfl, hfz, hnd⟩ := hW
  have hA : DataW.TrodAll enc Try.prog W 0 (fun _ => true) true Try.f7.params.toList args.toList ds p := hA0
  rw [Try.params7] at hA hval
  obtain ⟨v0, vs0, d0, ds0, p0, q0, hargs, rfl, rfl, h0, r0⟩ := trodAll_cons hA
  obtain ⟨v1, vs1, d1, ds1, p1, q1, rfl, rfl, rfl, h1, r1⟩ := trodAll_cons r0
  obtain ⟨rfl, rfl, rfl⟩ := trodAll_nil r1
  obtain rfl : args = #[v0, v1] := by cases args; simp_all
  obtain ⟨rfl, rfl⟩ := trodVars_none hV
  obtain ⟨S, B, L, op, n, cap, ops, rfl, ho1, ho2, ho3, ho4, _⟩ := open_case (hval 0 41 v0 rfl rfl) h0
  obtain ⟨a1, rfl, rfl, rfl, w1⟩ := open_int Try.underlying3 (hval 1 3 v1 rfl rfl) h1
  clear hA0 hval0
  simp only [List.append_nil] at hW'
  have hlt : ∀ x ∈ p0, x.block < W.heap.size := fun x hx => hW'.lt x hx
  refine (walk S B L a1 op n cap ops W ho4 ho1 ho2 (by simpa [maxLen] using ho3)).mono fun e W' ⟨he, hg⟩ => ?_
  subst he
  exact ⟨_, rfl, post_of_below (pa := p0 ++ ([] ++ [])) (pv := []) hW' (fun _ _ _ => (trodAll_cons_mk (shut_bool Try.underlying4 _) trodAll_mk0)) (fun sp hsp => (trodAll_cons_mk (case_stays h0 hg hlt (fun _ h => h) hsp) (trodAll_cons_mk (shut_int Try.underlying3 w1) trodAll_mk0))) (fun _ _ => rfl) (by simp)
    hg (ok_one (by kernel_rfl) rfl (okWide_bool_mk Try.underlying4 _))⟩

theorem over : Rows.buildPlaysRow.holds Try.pinned (OpenSpec.ofChange Rows.buildPlaysSpec) :=
  OpenClaim.holds_of_wide 7 Try.f7 rfl rfl rfl rfl rfl rfl rfl ⟨rfl, rfl, rfl, rfl, rfl⟩ rfl rfl rfl rfl rfl (by kernel_rfl) Try.func7 (by kernel_rfl)
    (of_decide_eq_true (by kernel_rfl)) (by unfold Func.isWrapper; first | (rw [if_pos (by decide +kernel)]; kernel_rfl) | (rw [if_neg (by decide +kernel)]; exact ⟨rfl, rfl⟩))
    (fun os started H enc _ => lifted os started H enc)

theorem proved : Rows.BuildPlaysSaid :=
  over
#print axioms proved
end Go.Proofs.Ytjklcecakdmbaaa.buildPlays
