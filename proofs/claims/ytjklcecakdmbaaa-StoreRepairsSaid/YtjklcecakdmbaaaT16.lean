/-
  The law StoreRepairs: the walk, a case that may be gone through.
-/
import Derived.Test.YtjklcecakdmbaaaT15
namespace Go.Proofs.Ytjklcecakdmbaaa
open Go.RowKit

section
variable {w W : World} {b nb : Nat} {s : SS} {hold now : Int} {L : List (Int × Int)}
theorem takeB_iff (L : List (Int × Int)) (n : Int) : takeB L n = true ↔ inL L n ∧ 0 ≤ n ∧ n < 64 := by
  unfold takeB
  rw [Bool.and_eq_true, hasL_iff, decide_eq_true_eq]
theorem ask_first (hO : Own25 w W b s nb) (hF : Filled s hold 64) (p : Option Addr) (n cap : Nat) (hp : PairsAt W p n L) (hn : n ≤ 100000) (ht : 0 ≤ now ∧ now ≤ 1099511627776) :
    ∃ G : Int, Calls Try.prog 12 #[.pointer (some ⟨b, 0, none⟩), .slice p n cap, .int .i64 now] W fun e W' => ∃ l', e = .returned (.tuple #[.int .i64 (cntA L : Nat), .int .i64 G]) ∧ Own25 w W' b { s with l := l' } nb ∧ ∀ n, inS l' n ↔ takeB L n = true := by
  refine ⟨((cntN fun x => hasL L x && !(s.txt x).isSome : Nat) : Int), (own_ask hO now p n cap L hp hn ht).mono ?_⟩
  rintro e W' ⟨l', rfl, h1, h2⟩
  rw [cntN_take (L := L) (fun x => by rw [hF.may0, hF.l]; unfold takeB; simp [hasB])]
  refine ⟨l', rfl, h1, fun n => ?_⟩
  rw [h2 n, hF.l, hF.may0, takeB_iff, decide_eq_true_eq]
  exact ⟨fun h => h.resolve_left (inS_nil n), .inr⟩
theorem ask_again {l : List (Int × Int)} (hO : Own25 w W b { s with l := l } nb) (hF : Filled s hold 64) (hl : ∀ n, inS l n ↔ takeB L n = true) (p : Option Addr) (n cap : Nat) (hp : PairsAt W p n L) (hn : n ≤ 100000) (ht : 0 ≤ now ∧ now ≤ 1099511627776) :
    ∃ G : Int, Calls Try.prog 12 #[.pointer (some ⟨b, 0, none⟩), .slice p n cap, .int .i64 now] W fun e W' => ∃ l', e = .returned (.tuple #[.int .i64 0, .int .i64 G]) ∧ Own25 w W' b { s with l := l' } nb ∧ ∀ n, inS l' n ↔ takeB L n = true := by
  have hmay : ∀ n, mayTake { s with l := l } now n = decide (0 ≤ n ∧ n < 64) := fun n => hF.may0 n
  refine ⟨((cntN fun x => hasL L x && !(s.txt x).isSome : Nat) : Int), (own_ask hO now p n cap L hp hn ht).mono ?_⟩
  rintro e W' ⟨l', rfl, h1, h2⟩
  rw [cntN_none (fun x => ?_)]
  · refine ⟨l', rfl, h1, fun n => ?_⟩
    rw [h2 n]
    show inS l n ∨ _ ↔ _
    rw [hl n, hmay, takeB_iff, decide_eq_true_eq]
    exact ⟨fun h => h.elim id id, .inr⟩
  · rw [hmay]
    show (hasL L x && (decide (0 ≤ (x : Int) ∧ (x : Int) < 64) && !hasB l x)) = false
    cases h : takeB L x with
    | true => rw [(hasB_iff _ _).2 ((hl x).2 h)]; simp
    | false => unfold takeB at h; rw [← Bool.and_assoc, h]; rfl
theorem ask_last {l : List (Int × Int)} {rp : Int → Option Int} {by_ : Int} (hO : Own25 w W b { s with l := l, rp := rp } nb) (hF : Filled s hold 64) (hl : ∀ n, ¬ inS l n) (hr : ∀ n, rp n = if takeB L n = true then some now else none) (p : Option Addr) (n cap : Nat) (hp : PairsAt W p n L) (hn : n ≤ 100000) (ht : 0 ≤ now + by_ ∧ now + by_ ≤ 1099511627776) :
    ∃ G : Int, Calls Try.prog 12 #[.pointer (some ⟨b, 0, none⟩), .slice p n cap, .int .i64 (now + by_)] W fun e W' => ∃ l', e = .returned (.tuple #[.int .i64 (if by_ ≤ hold then 0 else (cntA L : Nat)), .int .i64 G]) ∧ Own25 w W' b { s with l := l', rp := rp } nb ∧ total l' = (if by_ ≤ hold then 0 else ((cntA L : Nat) : Int)) := by
  have hmay : ∀ n, hasL L n = true → mayTake { s with l := l, rp := rp } (now + by_) n = (decide (0 ≤ n ∧ n < 64) && !decide (by_ ≤ hold)) := fun n hn => by
    unfold mayTake freshB
    show ((s.txt n).isSome && !(match rp n with | none => false | some at_ => decide (now + by_ - at_ ≤ s.hold))) = _
    rw [hr n, hF.txt, hF.hold]
    by_cases h : 0 ≤ n ∧ n < 64
    · have h2 : takeB L n = true := by unfold takeB; rw [hn]; simp [h]
      have h' : 0 ≤ n ∧ n < ((64 : Nat) : Int) := h
      rw [if_pos h2, if_pos h']
      have h3 : decide (now + by_ - now ≤ hold) = decide (by_ ≤ hold) := by
        rw [show now + by_ - now = by_ by omega]
      simp [h, h3]
    · have h' : ¬ (0 ≤ n ∧ n < ((64 : Nat) : Int)) := h
      rw [if_neg h']
      simp [h]
  have hlf : ∀ x, hasB l x = false := fun x => has_false l x (hl x)
  refine ⟨((cntN fun x => hasL L x && !(s.txt x).isSome : Nat) : Int), (own_ask hO (now + by_) p n cap L hp hn ht).mono ?_⟩
  rintro e W' ⟨l', rfl, h1, h2⟩
  have hwf : Wf l' := by
    obtain ⟨σ, _, g, _⟩ := h1
    exact g.set.wf
  have hm : ∀ n, inS l' n ↔ takeB L n = true ∧ ¬ by_ ≤ hold := fun n => by
    rw [h2 n, takeB_iff]
    show (inS l n ∨ _) ↔ _
    constructor
    · rintro (h | ⟨h3, h4⟩)
      · exact (hl n h).elim
      · rw [hmay n ((hasL_iff _ _).2 h3)] at h4
        simp at h4
        exact ⟨⟨h3, h4.1⟩, by omega⟩
    · rintro ⟨⟨h3, h4⟩, h5⟩
      refine .inr ⟨h3, ?_⟩
      rw [hmay n ((hasL_iff _ _).2 h3)]
      simp
      omega
  by_cases hb : by_ ≤ hold
  · rw [if_pos hb]
    have ht0 : total l' = 0 := by
      rw [total_cnt hwf, cntN_none (fun x => has_false l' x (fun h => ((hm x).1 h).2 hb))]
      rfl
    rw [cntN_none (fun x => ?_)]
    · exact ⟨l', rfl, h1, ht0⟩
    · cases h : hasL L x with
      | false => rfl
      | true => rw [hmay x h]; simp [hb]
  · rw [if_neg hb]
    have ht0 : total l' = (cntA L : Nat) := by
      rw [total_cnt hwf, cntN_take (L := L) (fun x => ?_)]
      rw [Bool.eq_iff_iff, hasB_iff, hm x]
      exact ⟨fun h => h.1, fun h => ⟨h, hb⟩⟩
    rw [cntN_take (L := L) (fun x => ?_)]
    · exact ⟨l', rfl, h1, ht0⟩
    · show (hasL L x && (mayTake { s with l := l, rp := rp } (now + by_) x && !hasB l x)) = takeB L x
      rw [hlf]
      cases h : hasL L x with
      | false => unfold takeB; rw [h]; rfl
      | true => rw [hmay x h]; unfold takeB; rw [h]; simp [hb]
end

set_option maxHeartbeats 4000000 in
set_option maxRecDepth 100000 in
theorem repairs_yes (p : Option Addr) (n cap : Nat) (hold now by_ : Int) (L : List (Int × Int)) (w : World) (hp : PairsAt w p n L) (h : rightR n hold now by_) :
    Calls Try.prog 3 #[.agg #[.slice p n cap, .int .i64 hold, .int .i64 now, .int .i64 by_]] w fun e w' => e = .returned (.bool true) ∧ Below w.heap.size w w' := by
  obtain ⟨POST, hPOST⟩ : ∃ POST : Ending → World → Prop, POST = fun e w' => e = .returned (.bool true) ∧ Below w.heap.size w w' := ⟨_, rfl⟩
  rw [← hPOST]
  have HPOST := Lib.hid hPOST
  obtain ⟨h1, h2, h3, h4, h5, h6, h7⟩ := h
  have HPA := Lib.hid (fun W (hW : Below w.heap.size w W) => hp.below hW)
  have HNEW := Lib.hid (fun W (hW : Below w.heap.size w W) => own_new (w := w) 64 hold W ⟨by decide, by decide, h2, h3⟩ hW)
  have g1 : ¬ 20 < n := by omega
  have g1 : ¬ (20 : Int) < n := by omega
  have g2 : ¬ hold < 0 := by omega
  have g3 : ¬ 65536 < hold := by omega
  have g4 : ¬ now < 0 := by omega
  have g5 : ¬ 549755813888 < now := by omega
  have g6 : ¬ by_ < 0 := by omega
  have g7 : ¬ 131072 < by_ := by omega
  clear hPOST hp
  go_enter Try.func3, Try.ntmps3
  go_wp2_with fail
  go_quiet (fail)
  go_wp2_with fail
  have d1 : decide ((20 : Int) < n) = false := by simp; omega
  have d2 : decide (hold < 0) = false := by simp; omega
  have d3 : decide (65536 < hold) = false := by simp; omega
  have d4 : decide (now < 0) = false := by simp; omega
  have d5 : decide (549755813888 < now) = false := by simp; omega
  have d6 : decide (by_ < 0) = false := by simp; omega
  have d7 : decide (131072 < by_) = false := by simp; omega
  simp only [d1, d2, d3, d4, d5, d6, d7, Bool.or_false]
  clear d1 d2 d3 d4 d5 d6 d7 g1 g2 g3 g4 g5 g6 g7
  refine (HNEW.out _ (below_box w _ _)).mono ?_
  rintro e w1 ⟨b, rfl, hO⟩
  have HO := Lib.hid hO
  clear hO
  go_wp2_with fail
  go_loopg [69] 64 (fun gk i wr => ∃ (j : Nat) (s : SS), i = .int .i64 j ∧ gk + j = 64 ∧ j ≤ 64 ∧ Own25 w wr b s j ∧ Filled s hold j)
  case atStart => exact ⟨0, _, rfl, rfl, by omega, HO.out, Filled.init hold⟩
  case round =>
    obtain ⟨j, s, rfl, hgk, hj, hO, hF⟩ := hrel
    have HF := Lib.hid hF
    have HO := Lib.hid hO
    clear hO hF
    by_cases hlt : j < 64
    · have HP1 := Lib.hid (own_put1 HO.out (by omega) (x := j) (by omega) j (by omega) (0, 0))
      go_wp2_with fail
      refine HP1.out.mono ?_
      rintro e w2 ⟨rfl, hO2⟩
      have HO2 := Lib.hid hO2
      clear hO2 HP1
      go_wp2_with fail
      go_roundg (64 - (j + 1))
      case measure => omega
      case rel => exact ⟨j + 1, _, by go_num, by omega, by omega, HO2.out, HF.out.put hlt⟩
    · obtain rfl : j = 64 := by omega
      obtain ⟨G1, hA1⟩ := ask_first HO.out HF.out p n cap (HPA.out _ HO.out.below) (by omega) (now := now) (by omega)
      have HA1 := Lib.hid hA1
      clear hA1
      go_wp2_with fail
      refine HA1.out.mono ?_
      rintro e w2 ⟨l1, rfl, hO1, hm1⟩
      obtain ⟨G2, hA2⟩ := ask_again hO1 HF.out hm1 p n cap (HPA.out _ hO1.below) (by omega) (now := now) (by omega)
      have HA2 := Lib.hid hA2
      obtain ⟨M, hM⟩ : ∃ M, M = cntA L := ⟨_, rfl⟩
      have HM := Lib.hid hM
      rw [← hM]
      clear hA2 hO1 hm1 hM HA1
      go_wp2_with fail
      refine HA2.out.mono ?_
      rintro e w3 ⟨l2, rfl, hO2, hm2⟩
      have hst := own_step (y := -1) (now := now) (L := L) (rp := s.rp) (l := l2) hO2 HF.out (fun n => by rw [hm2 n]; exact ⟨fun h => ⟨h, by have := ((takeB_iff L n).1 h).2; omega⟩, fun h => h.1⟩) (fun n => by
        rw [HF.out.rp]; unfold tells; rw [if_neg]; rintro ⟨h, h'⟩; have := ((takeB_iff L n).1 h).2; omega) (by omega) (by omega)
      have HST := Lib.hid hst
      clear hst hO2 hm2 HA2
      go_wp2_with fail
      refine HST.out.mono ?_
      rintro e w4 ⟨l3, rp3, X, v, ok, rfl, hO3, hS3⟩
      have HO3 := Lib.hid hO3
      have HS3 := Lib.hid hS3
      have HNB := Lib.hid (cntB_neg L)
      clear hO3 hS3 HST
      go_wp2_with fail
      go_loopg [14, 15, 16, 17, 18] 64 (fun gk a1 a2 a3 a4 a5 wr => ∃ (y : Int) (td : Nat) (l' : List (Int × Int)) (rp' : Int → Option Int) (X : Int) (v : Value) (ok : Bool), a1 = .int .i64 y ∧ a2 = .int .i64 td ∧ a3 = .int .i64 X ∧ a4 = v ∧ a5 = .bool ok ∧ (-1 ≤ y ∧ y < 64) ∧ gk + td = 64 ∧ td = cntB L y ∧ Own25 w wr b { s with l := l', rp := rp' } (65 + td) ∧ StepIs w L now y l' rp' X v ok wr)
      case atStart => exact ⟨-1, 0, l3, rp3, X, v, ok, rfl, rfl, rfl, rfl, rfl, by omega, rfl, HNB.out.symm, HO3.out, HS3.out⟩
      case round =>
        clear HO3 HS3 HNB
        obtain ⟨y, td, l', rp', X', v', ok', rfl, rfl, rfl, rfl, rfl, ⟨hy0, hy1⟩, hgk, htd, hO, hS⟩ := hrel
        rcases hS with ⟨rfl, hX, hyX, hle, hown, hl', hrp'⟩ | ⟨rfl, hall, hl', hrp'⟩
        · have hXb := ((takeB_iff L X').1 hX).2
          obtain ⟨pp, cc, rfl, hcc, hcm, hpp⟩ := own_sl hown
          obtain ⟨g, rfl⟩ := hpp (by omega)
          obtain ⟨tail, hg0, _, _, _, _⟩ := ownsRow_open hown
          have kg : wr.cell? ⟨g, 0, none⟩ = some (.int .u8 X') := by rw [cell_blk hg0]; rfl
          have htd1 : cntB L X' = td + 1 := by rw [cntB_next hX hyX hle, htd]
          have htd2 : td + 1 ≤ 64 := by rw [← htd1]; exact cntB_le L X'
          have HST := Lib.hid (own_step (y := X') (now := now) (L := L) hO HF.out hl' hrp' (by omega) (by omega))
          have HTD := Lib.hid htd1
          obtain ⟨hX0, hX1⟩ := hXb
          clear hO hX hle hown hl' hrp' hg0 htd htd1 hpp
          go_wp2_with fail
          refine HST.out.mono ?_
          rintro e w5 ⟨l4, rp4, X4, v4, ok4, rfl, hO4, hS4⟩
          have HO4 := Lib.hid hO4
          have HS4 := Lib.hid hS4
          clear hO4 hS4 HST
          go_wp2_with fail
          go_roundg (64 - (td + 1))
          case measure => omega
          case rel => exact ⟨X', td + 1, l4, rp4, X4, v4, ok4, by go_num, by go_num, rfl, rfl, rfl, by omega, by omega, HTD.out.symm, HO4.out, HS4.out⟩
        · have htm : td = M := by rw [htd, HM.out]; exact cntB_all hall
          subst htm
          obtain ⟨G3, hA3⟩ := ask_last (by_ := by_) hO HF.out hl' (fun n => by
            rw [hrp' n]
            unfold tells
            by_cases h : takeB L n = true
            · rw [if_pos ⟨h, hall n h⟩, if_pos h]
            · rw [if_neg h, if_neg (fun h2 => h h2.1)]) p n cap (HPA.out _ hO.below) (by omega) (now := now) (by omega)
          rw [← HM.out] at hA3
          have hA3 := Lib.hid hA3
          clear hO hall hl' hrp' htd
          by_cases hbh : by_ ≤ hold
          · simp only [hbh, if_true] at hA3
            go_wp2_with fail
            refine hA3.out.mono ?_
            rintro e w5 ⟨l5, rfl, hO5, ht5⟩
            have hAS := own_asked hO5
            rw [show ({ s with l := l5, rp := rp' } : SS).l = l5 from rfl, ht5] at hAS
            have HAS := Lib.hid hAS
            have HAW := Lib.hid (awake25_any w w5 hO5.below)
            clear hO5 ht5 hAS hA3
            go_wp2_with fail
            refine HAS.out.mono ?_
            rintro e w6 ⟨rfl, rfl⟩
            go_wp2_with fail
            refine HAW.out.mono ?_
            rintro e w7 ⟨rfl, hb7⟩
            have hpp : POST (.returned (.bool true)) w7 := by rw [HPOST.out]; exact ⟨rfl, hb7⟩
            have HPP := Lib.hid hpp
            clear hpp hb7
            go_wp2_with fail
            exact HPP.out
          · simp only [hbh, if_false] at hA3
            go_wp2_with fail
            refine hA3.out.mono ?_
            rintro e w5 ⟨l5, rfl, hO5, ht5⟩
            have hAS := own_asked hO5
            rw [show ({ s with l := l5, rp := rp' } : SS).l = l5 from rfl, ht5] at hAS
            have HAS := Lib.hid hAS
            have HAW := Lib.hid (awake25_any w w5 hO5.below)
            clear hO5 ht5 hAS hA3
            go_wp2_with fail
            refine HAS.out.mono ?_
            rintro e w6 ⟨rfl, rfl⟩
            go_wp2_with fail
            refine HAW.out.mono ?_
            rintro e w7 ⟨rfl, hb7⟩
            have hpp : POST (.returned (.bool true)) w7 := by rw [HPOST.out]; exact ⟨rfl, hb7⟩
            have HPP := Lib.hid hpp
            clear hpp hb7
            go_wp2_with fail
            exact HPP.out
end Go.Proofs.Ytjklcecakdmbaaa
