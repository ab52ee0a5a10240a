/-
  The law BuildNew: the walk of the law's own function, and the statement. The frame began as the shell that proof-skeleton.mjs prints.
-/
import Derived.Test.YtjklcecakdmbaaaRows
import Derived.WalkKit
import Derived.ProofKit
import Derived.OpenShut
import Derived.Test.YtjklcecakdmbaaaC1
namespace Go.Proofs.Ytjklcecakdmbaaa.buildNew
open Go.ChangeShapes Go.WideShapes Go.ChangeAt Go.RowKit
set_option linter.unusedVariables false      -- a walk need not use every 'w<i>' (that an integer argument fits its kind)

theorem own : ownKnob Try.prog.godebug = none := by kernel_rfl

/-! ### STEP 1: THE WALK: the Go text returns true. 'Grown w w'': the world has at most new blocks (Derived/RowKit3.lean). Part the cases AHEAD of 'go_enter' where a test parts the walk; take each callee by a contract of your own. -/
theorem init_hit {S B L : Nat} {m : List (Int × Int)} {k : Int} (hm : IsMiss (BS.init S B L) k m) (hS : 0 < S) (hB : 1 ≤ B) (hk : 0 ≤ k) : ∃ x r, m = x :: r ∧ x.1 = 0 := by
  have h0 : inS m 0 := by
    rw [hm.mem 0]
    refine ⟨by omega, ?_, ?_, inS_nil 0⟩
    · have : 0 < nblk S B := (nblk_lt_iff hB).2 (by omega)
      show (0 : Int) < (nblk S B : Nat); omega
    · show ((layerN 0 L : Nat) : Int) ≤ k
      have : layerN 0 L = 0 := by unfold layerN; rw [Nat.zero_mod]; decide
      rw [this]; exact hk
  obtain ⟨y, hy, h1, h2⟩ := h0
  cases m with
  | nil => cases hy
  | cons x r =>
    refine ⟨x, r, rfl, ?_⟩
    have hx := hm.wf.each x (by simp)
    rcases List.mem_cons.1 hy with rfl | hr
    · omega
    · have := (List.pairwise_cons.1 hm.wf.apart).1 y hr
      omega
theorem init_none {S B L : Nat} {m : List (Int × Int)} {k : Int} (hm : IsMiss (BS.init S B L) k m) (h : S = 0 ∨ k < 0) (hB : 1 ≤ B) : m = [] := by
  cases m with
  | nil => rfl
  | cons x r =>
    have hx := hm.wf.each x (by simp)
    obtain ⟨h1, h2, h3, _⟩ := (hm.mem x.1).1 ⟨x, by simp, by omega, by omega⟩
    rcases h with rfl | h
    · have : nblk 0 B = 0 := by unfold nblk; exact Nat.div_eq_of_lt (by omega)
      have h4 : x.1 < (nblk 0 B : Nat) := h2
      rw [this] at h4
      omega
    · omega
theorem init_pref {S B L : Nat} {m : List (Int × Int)} (hm : IsMiss (BS.init S B L) L m) (hB : 1 ≤ B) : (match m with | [] => (S : Int) | x :: _ => (spanOf (BS.init S B L) x).1) = 0 := by
  rcases Nat.eq_zero_or_pos S with rfl | hS
  · rw [init_none hm (.inl rfl) hB]; rfl
  · obtain ⟨x, r, rfl, hx⟩ := init_hit hm hS hB (by omega)
    show x.1 * (B : Int) = 0
    rw [hx]; simp
theorem init_comp {S B L : Nat} {m : List (Int × Int)} (hm : IsMiss (BS.init S B L) 0 m) (hB : 1 ≤ B) : (decide (m.length = 0) == ((S : Int) == 0)) = true := by
  rcases Nat.eq_zero_or_pos S with rfl | hS
  · rw [init_none hm (.inl rfl) hB]; rfl
  · obtain ⟨x, r, rfl, hx⟩ := init_hit hm hS hB (by omega)
    have : ((S : Int) == 0) = false := by rw [beq_eq_false_iff_ne]; omega
    rw [this]; simp
theorem pref_init (β : BI) (S B L : Nat) (w : World) (hb : BuildAt w β (BS.init S B L)) (hB : 1 ≤ B) :
    Calls Try.prog 28 #[.pointer (some ⟨β.b, 0, none⟩)] w fun e w' => e = .returned (.int .i64 0) ∧ Below w.heap.size w w' :=
  (prefix_any β _ w hb).mono fun e w' ⟨m, hm, he, hbel⟩ => ⟨he.trans (congrArg (fun z => Ending.returned (.int .i64 z)) (init_pref hm hB)), hbel⟩
theorem comp_init0 (β : BI) (S B L : Nat) (w : World) (hb : BuildAt w β (BS.init S B L)) (hB : 1 ≤ B) :
    Calls Try.prog 29 #[.pointer (some ⟨β.b, 0, none⟩), .int .i64 0] w fun e w' => e = .returned (.bool ((S : Int) == 0)) ∧ Below w.heap.size w w' :=
  (complete_any β _ 0 w hb).mono fun e w' ⟨m, hm, he, hbel⟩ => ⟨he.trans (congrArg (fun z => Ending.returned (.bool z)) (by simpa using init_comp hm hB)), hbel⟩
theorem comp_init1 (β : BI) (S B L : Nat) (w : World) (hb : BuildAt w β (BS.init S B L)) (hB : 1 ≤ B) :
    Calls Try.prog 29 #[.pointer (some ⟨β.b, 0, none⟩), .int .i64 (-1)] w fun e w' => e = .returned (.bool true) ∧ Below w.heap.size w w' :=
  (complete_any β _ (-1) w hb).mono fun e w' ⟨m, hm, he, hbel⟩ => ⟨by rw [he, init_none hm (.inr (by decide)) hB]; rfl, hbel⟩
section
variable {H : Type} {enc : TypeId × Value → H} {P : Program}
/-- What a law's call leaves, by 'Below': the arguments read as they did. -/
theorem post_of_below {f : Func} {s : ChangeSpec} {apart fresh handsOn again : Bool} {W W' : World} {args : Array Value} {v : Value} {ds gs : List (DataW H)} {before pa pv : List MemPlace}
    (hW : DataW.Whole enc P f.params.toList s.vars apart W args.toList ds gs before)
    (hres : ∀ (b : Nat) (sp : Nat → Bool) (hd : Bool), DataW.TrodAll enc P W' b sp hd f.resultTypes.toList (v.resultList f.resultTypes.size) (s.fn H (ds ++ gs)).results [])
    (hargs : ∀ sp : Nat → Bool, (∀ p ∈ before, sp p.block = true) → DataW.TrodAll enc P W' 0 sp true f.params.toList args.toList (s.fn H (ds ++ gs)).args pa)
    (hvars : ∀ sp : Nat → Bool, (∀ p ∈ before, sp p.block = true) → DataW.TrodVars enc P W' sp s.vars (s.fn H (ds ++ gs)).vars pv)
    (hps : before = pa ++ pv) (hb : Below W.heap.size W W')
    (hok : ∀ (j : Nat) (t : TypeId) (r : Value), f.resultTypes[j]? = some t → (v.resultList f.resultTypes.size)[j]? = some r → Value.okWide P W' .any 0 t r) :
    s.post enc P f apart fresh handsOn again W args v W' := by
  have hlt : ∀ p ∈ before, p.block < W.heap.size := fun p hp => hW.lt p hp
  have hold : ∀ p ∈ before, (fun b => decide (b < W.heap.size)) p.block = true := fun p hp => by simpa using hW.lt p hp
  refine ⟨ds, gs, before, [], pa, pv, hW, hres _ _ _, hargs _ hold, hvars _ hold, World.keptBut_mono (fun p hp => ⟨hp, ?_⟩) (hb.frame (· ∈ before)), fun _ => ?_⟩
  · rw [hps, List.mem_append] at hp
    exact Or.inr hp
  · obtain ⟨_, _, _, _, _, hz, hn⟩ := hW
    refine ⟨hok, _, _, ([] ++ pa) ++ pv, ⟨[] ++ pa, pv, trodAll_append (hargs _ (fun _ _ => rfl)) (hres _ _ _), hvars _ (fun _ _ => rfl), rfl, ?_, ?_⟩, ?_⟩
    · intro b off hp
      have hp' : (.cell b off : MemPlace) ∈ before := by rw [hps]; simpa using hp
      have h1 := hb.frozen (p := ⟨b, off, none⟩) (hlt _ hp')
      rw [h1]
      exact hz b off hp'
    · intro ha
      have := hn ha
      rw [hps] at this
      simpa using this
    · intro p hp _
      rw [hps]
      simpa using hp
end

set_option maxHeartbeats 1600000 in
set_option maxRecDepth 100000 in
theorem walk_no (a0 a1 a2 : Int) (w : World) (h : ¬ rightPlan a0 a1 a2) :
    Calls Try.prog 6 #[.int .i64 a0, .int .i64 a1, .int .i64 a2] w fun e w' => e = .returned (.bool true) ∧ Below w.heap.size w w' := by
  have HN := Lib.hid (new_no a0 a1 a2 w h)
  have HA := Lib.hid (awake_any w)
  have hc : a0 < 0 ∨ (¬ a0 < 0 ∧ 16384 < a0) ∨ (¬ a0 < 0 ∧ ¬ 16384 < a0 ∧ a1 < 1) ∨ (¬ a0 < 0 ∧ ¬ 16384 < a0 ∧ ¬ a1 < 1 ∧ 64 < a1) ∨ (¬ a0 < 0 ∧ ¬ 16384 < a0 ∧ ¬ a1 < 1 ∧ ¬ 64 < a1 ∧ a2 < 1) ∨ (¬ a0 < 0 ∧ ¬ 16384 < a0 ∧ ¬ a1 < 1 ∧ ¬ 64 < a1 ∧ ¬ a2 < 1 ∧ 8 < a2) := by
    unfold rightPlan at h; omega
  obtain ⟨POST, hPOST⟩ : ∃ POST : Ending → World → Prop, POST = fun e w' => e = .returned (.bool true) ∧ Below w.heap.size w w' := ⟨_, rfl⟩
  rw [← hPOST] at HA ⊢
  have HPOST := Lib.hid hPOST
  clear hPOST h
  rcases hc with h | ⟨h, h1⟩ | ⟨h, h1, h2⟩ | ⟨h, h1, h2, h3⟩ | ⟨h, h1, h2, h3, h4⟩ | ⟨h, h1, h2, h3, h4, h5⟩
  all_goals
    go_enter Try.func6, Try.ntmps6
    go_wp2_with fail
    refine HN.out.mono ?_
    rintro e w' ⟨rfl, rfl⟩
    go_wp2_with fail
    refine HA.out.mono ?_
    intro e w1 hp
    have hp2 := hp
    rw [HPOST.out] at hp2
    obtain ⟨rfl, _⟩ := hp2
    have HP := Lib.hid hp
    clear hp
    go_wp2_with fail
    exact HP.out

set_option maxHeartbeats 1600000 in
set_option maxRecDepth 100000 in
theorem walk_yes (S B L : Nat) (w : World) (h : rightPlan S B L) :
    Calls Try.prog 6 #[.int .i64 S, .int .i64 B, .int .i64 L] w fun e w' => e = .returned (.bool true) ∧ Below w.heap.size w w' := by
  have HN := Lib.hid (new_yes S B L w h)
  obtain ⟨POST, hPOST⟩ : ∃ POST : Ending → World → Prop, POST = fun e w' => e = .returned (.bool true) ∧ Below w.heap.size w w' := ⟨_, rfl⟩
  rw [← hPOST]
  have HPOST := Lib.hid hPOST
  obtain ⟨r1, r2, r3, r4, r5, r6⟩ := h
  have hB1 : 1 ≤ B := by omega
  clear hPOST
  go_enter Try.func6, Try.ntmps6
  go_wp2_with fail
  refine HN.out.mono ?_
  rintro e w1 ⟨β, rfl, hb1, hbel1, hf1⟩
  obtain ⟨b, hbb⟩ : ∃ b, b = β.b := ⟨_, rfl⟩
  have HBB := Lib.hid hbb
  have HB1 := Lib.hid hb1
  have HBY := Lib.hid (bytesOf_any β (BS.init S B L) w1 hb1)
  rw [← hbb] at HBY ⊢
  clear hb1 hf1 hbb
  go_wp2_with fail
  refine HBY.out.mono ?_
  rintro e w2 ⟨v2, rfl, hown2, hbel2⟩
  have hb2 := HB1.out.below hbel2
  have hbw2 := hbel1.trans (hbel2.mono hbel1.size)
  have HLO := Lib.hid (logOf_any β (BS.init S B L) w2 hb2 (by show 0 ≤ _; omega))
  have HPR := Lib.hid (fun w' h => pref_init β S B L w' h hB1)
  have HC0 := Lib.hid (fun w' h => comp_init0 β S B L w' h hB1)
  have HC1 := Lib.hid (fun w' h => comp_init1 β S B L w' h hB1)
  rw [← HBB.out] at HLO HPR HC0 HC1
  have hown2' : w2.ownsRow 0 5 1 v2 S (List.map (Value.int IntKind.u8) (BS.init S B L).T) := ownsRow_base hown2 (Nat.zero_le _)
  have HB2 := Lib.hid hb2
  clear hown2 hb2 HBY HN HB1
  rcases ownsRow_formN hown2' with ⟨rfl, rfl, _⟩ | ⟨g, cap, rfl, hg, hcap, hcm⟩
  all_goals
    clear hown2'
    go_wp2_with fail
    refine HLO.out.mono ?_
    rintro e w3 ⟨v3, rfl, hown3, hbel3⟩
    have hb3 := HB2.out.below hbel3
    have hbw3 := hbw2.trans (hbel3.mono hbw2.size)
    have HPR2 := Lib.hid (HPR.out w3 hb3)
    have hown3' : w3.ownsRow 0 51 4 v3 0 [] := ownsRow_base hown3 (Nat.zero_le _)
    have HB3 := Lib.hid hb3
    clear hown3 hb3
    rcases ownsRow_formN hown3' with ⟨rfl, _, _⟩ | ⟨g3, cap3, rfl, hg3, hcap3, hcm3⟩
    all_goals
      clear hown3'
      go_wp2_with fail
      refine HPR2.out.mono ?_
      rintro e w4 ⟨rfl, hbel4⟩
      have hb4 := HB3.out.below hbel4
      have hbw4 := hbw3.trans (hbel4.mono hbw3.size)
      have HC02 := Lib.hid (HC0.out w4 hb4)
      have HB4 := Lib.hid hb4
      clear hb4
      go_wp2_with fail
      refine HC02.out.mono ?_
      rintro e w5 ⟨rfl, hbel5⟩
      have hb5 := HB4.out.below hbel5
      have hbw5 := hbw4.trans (hbel5.mono hbw4.size)
      have HC12 := Lib.hid (HC1.out w5 hb5)
      clear hb5
      go_wp2_with fail
      refine HC12.out.mono ?_
      rintro e w6 ⟨rfl, hbel6⟩
      have hbw6 := hbw5.trans (hbel6.mono hbw5.size)
      have HA := Lib.hid (awake_any w6)
      go_wp2_with fail
      refine HA.out.mono ?_
      rintro e w7 ⟨rfl, hbel7⟩
      have hp : POST (.returned (.bool true)) w7 := by
        rw [HPOST.out]
        exact ⟨rfl, hbw6.trans (hbel7.mono hbw6.size)⟩
      have HP := Lib.hid hp
      clear hp
      go_wp2_with fail
      exact HP.out

theorem walk (a0 : Int) (a1 : Int) (a2 : Int) (w0 : (Lit.int .i64 a0).wf = true) (w1 : (Lit.int .i64 a1).wf = true) (w2 : (Lit.int .i64 a2).wf = true) (w : World) :
    Calls Try.prog 6 #[.int .i64 a0, .int .i64 a1, .int .i64 a2] w fun e w' => e = .returned (.bool true) ∧ Below w.heap.size w w' := by
  by_cases h : rightPlan a0 a1 a2
  · obtain ⟨S, rfl⟩ : ∃ S : Nat, a0 = S := ⟨a0.toNat, by have := h.1; omega⟩
    obtain ⟨B, rfl⟩ : ∃ B : Nat, a1 = B := ⟨a1.toNat, by have := h.2.2.1; omega⟩
    obtain ⟨L, rfl⟩ : ∃ L : Nat, a2 = L := ⟨a2.toNat, by have := h.2.2.2.2.1; omega⟩
    exact walk_yes S B L w h
  · exact walk_no a0 a1 a2 w h

/-! ### THE ROW's STEP: WRITTEN OUT: LEAVE IT -/
set_option maxRecDepth 100000 in
theorem lifted (os : Os) (started : os.Started) (H : Type) (enc : TypeId × Value → H) :
    ReturnsInHanded {} Try.checked os 6 .any (Rows.buildNewSpec.pre6 enc Try.prog Try.f6 Rows.buildNewRow.domain false) (Rows.buildNewSpec.post enc Try.prog Try.f6 false true false false) := by
  refine returnsInHanded_of_change (C := Try.checked) own started (by kernel_rfl) Try.func6
    (ChangeSpec.witness6 (enc := enc) (C := Try.checked) false ⟨#[], #[.int .i64 0, .int .i64 0, .int .i64 0], []⟩ 8 (by kernel_rfl) (by kernel_rfl) (by kernel_rfl) (by kernel_rfl)) ?_
  intro W base args ds gs before hval0 hW hcnd _
  have hval : ∀ (j : Nat) t v, Try.f6.params[j]? = some t → args[j]? = some v → Value.okWide Try.prog W .any base t v := hval0
  have hW' := hW
  obtain ⟨p, q, hA0, hV, rfl, hfz, hnd⟩ := hW
  have hA : DataW.TrodAll enc Try.prog W 0 (fun _ => true) true Try.f6.params.toList args.toList ds p := hA0
  rw [Try.params6] at hA hval
  obtain ⟨v0, vs0, d0, ds0, p0, q0, hargs, rfl, rfl, h0, r0⟩ := trodAll_cons hA
  obtain ⟨v1, vs1, d1, ds1, p1, q1, rfl, rfl, rfl, h1, r1⟩ := trodAll_cons r0
  obtain ⟨v2, vs2, d2, ds2, p2, q2, rfl, rfl, rfl, h2, r2⟩ := trodAll_cons r1
  obtain ⟨rfl, rfl, rfl⟩ := trodAll_nil r2
  obtain rfl : args = #[v0, v1, v2] := by cases args; simp_all
  obtain ⟨rfl, rfl⟩ := trodVars_none hV
  obtain ⟨a0, rfl, rfl, rfl, w0⟩ := open_int Try.underlying3 (hval 0 3 v0 rfl rfl) h0
  obtain ⟨a1, rfl, rfl, rfl, w1⟩ := open_int Try.underlying3 (hval 1 3 v1 rfl rfl) h1
  obtain ⟨a2, rfl, rfl, rfl, w2⟩ := open_int Try.underlying3 (hval 2 3 v2 rfl rfl) h2
  clear hA0 hval0
  simp only [List.append_nil] at hW'
  refine (walk a0 a1 a2 w0 w1 w2 W).mono fun e W' ⟨he, hg⟩ => ?_
  subst he
  exact ⟨_, rfl, post_of_below (pa := []) (pv := []) hW' (fun _ _ _ => (trodAll_cons_mk (shut_bool Try.underlying4 _) trodAll_mk0)) (fun sp _ => (trodAll_cons_mk (shut_int Try.underlying3 w0) (trodAll_cons_mk (shut_int Try.underlying3 w1) (trodAll_cons_mk (shut_int Try.underlying3 w2) trodAll_mk0)))) (fun _ _ => rfl) rfl
    hg (ok_one (by kernel_rfl) rfl (okWide_bool_mk Try.underlying4 _))⟩

theorem over : Rows.buildNewRow.holds Try.pinned (OpenSpec.ofChange Rows.buildNewSpec) :=
  OpenClaim.holds_of_wide 6 Try.f6 rfl rfl rfl rfl rfl rfl rfl ⟨rfl, rfl, rfl, rfl, rfl⟩ rfl rfl rfl rfl rfl (by kernel_rfl) Try.func6 (by kernel_rfl)
    (of_decide_eq_true (by kernel_rfl)) (by unfold Func.isWrapper; first | (rw [if_pos (by decide +kernel)]; kernel_rfl) | (rw [if_neg (by decide +kernel)]; exact ⟨rfl, rfl⟩))
    (fun os started H enc _ => lifted os started H enc)

/-- ████ THE STATEMENT ████ -/
theorem proved : Rows.BuildNewSaid :=
  over
#print axioms proved
end Go.Proofs.Ytjklcecakdmbaaa.buildNew
