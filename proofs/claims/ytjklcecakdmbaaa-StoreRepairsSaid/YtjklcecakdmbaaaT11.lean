/-
  Package store: Next.
-/
import Derived.Test.YtjklcecakdmbaaaT10
namespace Go.Proofs.Ytjklcecakdmbaaa
open Go.RowKit

/-- What Next tells and leaves. -/
def NextPost (w : World) (σ : SI) (s : SS) (nb : Nat) (now : Int) (e : Ending) (w' : World) : Prop :=
  ∃ av' l' rp' , StoAt w' { σ with av := av' } { s with l := l', rp := rp' } (nb + 1) ∧ Keeps (fun k => k = σ.a ∨ k = σ.r ∨ σ.av.ownBlock = some k) w w' ∧ (av'.ownBlock = σ.av.ownBlock ∨ ∀ k, av'.ownBlock = some k → w.heap.size ≤ k) ∧
    ((e = .returned (.tuple #[.int .i64 0, .slice none 0 0, .bool false]) ∧ rp' = s.rp ∧ (∀ n, ¬ inS l' n) ∧ (∀ n, inS s.l n → s.txt n = none)) ∨
      ∃ x tx v', e = .returned (.tuple #[.int .i64 x, v', .bool true]) ∧ inS s.l x ∧ s.txt x = some tx ∧ w'.ownsRow w.heap.size 5 1 v' tx.length (tx.map (Value.int .u8)) ∧ (∀ n, inS s.l n → n < x → s.txt n = none) ∧ rp' = upd s.rp x (some now) ∧ (∀ n, inS l' n ↔ inS s.l n ∧ x < n))

theorem inS_bd {l : List (Int × Int)} (h : Wf l) {n : Int} (hn : inS l n) : 0 ≤ n ∧ n < 16384 := by
  obtain ⟨z, hz, h1, h2⟩ := hn
  have := h.each z hz
  omega
theorem inS_first {x : Int × Int} {r : List (Int × Int)} (h : Wf (x :: r)) : inS (x :: r) x.1 ∧ (∀ n, inS (x :: r) n → x.1 ≤ n) ∧ 0 ≤ x.1 ∧ x.1 < 16384 := by
  have hx := h.each x (by simp)
  refine ⟨⟨x, by simp, by omega, by omega⟩, fun n hn => ?_, by omega, by omega⟩
  obtain ⟨z, hz, h1, h2⟩ := hn
  obtain ⟨i, hi⟩ := List.getElem?_of_mem hz
  rcases Nat.eq_zero_or_pos i with rfl | hp
  · cases hi; omega
  · have := h.lt hp (show (x :: r)[0]? = some (x.1, x.2) from rfl) hi
    have := h.at (show (x :: r)[0]? = some (x.1, x.2) from rfl)
    simp only at *
    omega

set_option maxHeartbeats 2000000 in
set_option maxRecDepth 100000 in
theorem next_any (σ : SI) (s : SS) (nb : Nat) (now : Int) (w : World) (h : StoAt w σ s nb) (hi : SInv s) (hn : 0 ≤ now ∧ now ≤ 1099511627776) (hnb : nb < 900000) :
    Calls Try.prog 13 #[.pointer (some ⟨σ.b, 0, none⟩), .int .i64 now] w (NextPost w σ s nb now) := by
  obtain ⟨POST, hPOST⟩ : ∃ POST, POST = NextPost w σ s nb now := ⟨_, rfl⟩
  rw [← hPOST]
  have HPOST := Lib.hid hPOST
  have H := Lib.hid h
  have HI := Lib.hid hi
  have HN := Lib.hid hn
  obtain ⟨sb, hsb⟩ : ∃ sb, sb = σ.b := ⟨_, rfl⟩
  obtain ⟨a, ha⟩ : ∃ a, a = σ.a := ⟨_, rfl⟩
  obtain ⟨r, hr⟩ : ∃ r, r = σ.r := ⟨_, rfl⟩
  have HSB := Lib.hid hsb
  have HA := Lib.hid ha
  have HR := Lib.hid hr
  rw [← hsb]
  clear hPOST h hi hn hsb ha hr
  go_enter Try.func13, Try.ntmps13
  go_wp2_with fail
  go_loopg [7] 16384 (fun gk _ wr => ∃ (m : Int) (av' : Value) (l' : List (Int × Int)), (0 ≤ m ∧ m ≤ 16384) ∧ (gk : Int) + m = 16384 ∧ StoAt wr { σ with av := av' } { s with l := l' } nb ∧ (∀ n, inS l' n ↔ inS s.l n ∧ m ≤ n) ∧ (∀ n, inS s.l n → n < m → s.txt n = none) ∧ Keeps (fun k => k = σ.a ∨ k = σ.r ∨ σ.av.ownBlock = some k) w wr ∧ (av'.ownBlock = σ.av.ownBlock ∨ ∀ k, av'.ownBlock = some k → w.heap.size ≤ k))
  case atStart =>
    refine ⟨0, σ.av, s.l, ⟨by omega, by omega⟩, by omega, H.out, fun n => ⟨fun h => ⟨h, ?_⟩, fun h => h.1⟩, fun n h1 h2 => ?_, Keeps.refl _ _, .inl rfl⟩
    · exact (inS_bd H.out.set.wf h).1
    · have := (inS_bd H.out.set.wf h1).1; omega
  case round =>
    obtain ⟨m, av', l', ⟨hm0, hm1⟩, hgk, hst, hml, hnone, hkp, hvo⟩ := hrel
    obtain ⟨_, _, _, _, s4, _⟩ := sto_at hst.blk
    dsimp only at s4
    rw [← HSB.out, ← HA.out] at s4
    have HF := Lib.hid (setFirst_any σ.a av' l' wr hst.set)
    rw [← HA.out] at HF
    have HST := Lib.hid hst
    have HML := Lib.hid hml
    have HNO := Lib.hid hnone
    have HKP := Lib.hid hkp
    have HVO := Lib.hid hvo
    clear hst hml hnone hkp hvo
    go_wp2_with fail
    refine HF.out.mono ?_
    rintro e w1 ⟨hb1, ⟨rfl, rfl⟩ | ⟨⟨X, Y⟩, rr, rfl, rfl⟩⟩
    · have hpp : POST (.returned (.tuple #[.int .i64 0, .slice none 0 0, .bool false])) w1 := by
        rw [HPOST.out]
        refine ⟨av', [], s.rp, (HST.out.below hb1).mono (Nat.le_succ _), HKP.out.trans (T := fun _ => False) (Keeps.of_below hb1) (fun _ _ e => e) (fun _ _ e => e.elim), HVO.out, .inl ⟨rfl, rfl, inS_nil, fun n hn => ?_⟩⟩
        by_cases hm : n < m
        · exact HNO.out n hn hm
        · exact ((inS_nil n) ((HML.out n).2 ⟨hn, by omega⟩)).elim
      have HPP := Lib.hid hpp
      clear hpp hb1
      go_wp2_with fail
      refine bodyPost_ret (results_tmp3 rfl _ _ _) rfl ?_
      exact HPP.out
    · obtain ⟨hX, hXl, hX0, hX1⟩ := inS_first HST.out.set.wf
      dsimp only at hX hXl hX0 hX1
      have hXm := (HML.out X).1 hX
      have hst1 := HST.out.below hb1
      obtain ⟨_, _, _, _, s4', _⟩ := sto_at hst1.blk
      dsimp only at s4'
      rw [← HSB.out, ← HA.out] at s4'
      have HC := Lib.hid (cut_any σ.a av' ((X, Y) :: rr) X (X + 1) w1 hst1.set hX0 (by omega) (by omega))
      rw [← HA.out] at HC
      have HX := Lib.hid hX
      have HXM := Lib.hid hXm
      have HXL := Lib.hid hXl
      have HB1 := Lib.hid hb1
      have HST1 := Lib.hid hst1
      clear hX hXl hst1 s4 hXm hb1
      have hmX := HXM.out.2
      go_wp2_with fail
      refine HC.out.mono ?_
      rintro e w2 ⟨r2, v2, l2, rfl, hs2, hm2, hk2, hv2⟩
      rw [HA.out] at hs2 hk2
      have hst2 : StoAt w2 { σ with av := v2 } { s with l := l2 } nb := HST1.out.setPut hs2 hk2
      have hkp2 : Keeps (fun k => k = σ.a ∨ k = σ.r ∨ σ.av.ownBlock = some k) w w2 := by
        refine HKP.out.trans ((Keeps.of_below (S := fun _ => False) HB1.out).trans (U := fun k => k = σ.a ∨ av'.ownBlock = some k) hk2 (fun _ _ e => e.elim) (fun _ _ e => e)) (fun _ _ e => e) (fun i hi e => ?_)
        rcases e with e | e
        · exact .inl e
        · rcases HVO.out with e2 | e2
          · exact .inr (.inr (by rw [← e2]; exact e))
          · have := e2 i e; omega
      have hvo2 : v2.ownBlock = σ.av.ownBlock ∨ ∀ k, v2.ownBlock = some k → w.heap.size ≤ k := by
        rcases hv2 with e | e
        · rw [e]; exact HVO.out
        · exact .inr fun k hk => by have := e k hk; have := HKP.out.size; have := HB1.out.size; omega
      have hml2 : ∀ n, inS l2 n ↔ inS s.l n ∧ X < n := fun n => by
        rw [hm2 n]
        show (inS ((X, Y) :: rr) n ∧ ¬(X ≤ n ∧ n < X + 1)) ↔ _
        rw [HML.out n]
        constructor
        · rintro ⟨⟨h1, h2⟩, h3⟩
          have := HXL.out n ((HML.out n).2 ⟨h1, h2⟩)
          exact ⟨h1, by omega⟩
        · rintro ⟨h1, h2⟩
          exact ⟨⟨h1, by omega⟩, by omega⟩
      have hno2 : ∀ n, inS s.l n → n < X → s.txt n = none := fun n h1 h2 => by
        by_cases hm : n < m
        · exact HNO.out n h1 hm
        · have := HXL.out n ((HML.out n).2 ⟨h1, by omega⟩); omega
      have hkX : iKey X := iKey_of (by omega) (by omega)
      have hG : Calls Try.prog 50 #[.pointer (some ⟨σ.b, 0, none⟩), .int .i64 X] w2 (GetPost w2 s X) := get_any { σ with av := v2 } { s with l := l2 } nb X w2 hst2 (HI.out.setl l2) hkX
      rw [← HSB.out] at hG
      have HG := Lib.hid hG
      have hsz2 := hk2.size
      have HST2 := Lib.hid hst2
      have HKP2 := Lib.hid hkp2
      have HVO2 := Lib.hid hvo2
      have HML2 := Lib.hid hml2
      have HNO2 := Lib.hid hno2
      have hkX := Lib.hid hkX
      clear hs2 hm2 hk2 hv2 hst2 hkp2 hvo2 hml2 hno2 hG s4'
      go_wp2_with fail
      refine HG.out.mono ?_
      rintro e w3 ⟨v3, rfl, hown3, hb3⟩
      have hst3 := HST2.out.below hb3
      have hkp3 : Keeps (fun k => k = σ.a ∨ k = σ.r ∨ σ.av.ownBlock = some k) w w3 := HKP2.out.trans (T := fun _ => False) (Keeps.of_below hb3) (fun _ _ e => e) (fun _ _ e => e.elim)
      have HST3 := Lib.hid hst3
      have HKP3 := Lib.hid hkp3
      cases htx : s.txt X with
      | none =>
        clear hown3 hb3 hst3 hkp3
        have hno3 : ∀ n, inS s.l n → n < X + 1 → s.txt n = none := fun n h1 h2 => by
          rcases Int.lt_or_eq_of_le (show n ≤ X by omega) with h | rfl
          · exact HNO2.out n h1 h
          · exact htx
        have HNO3 := Lib.hid hno3
        clear hno3 htx
        go_wp2_with fail
        go_roundg (16384 - (X + 1)).toNat
        case measure => omega
        case rel =>
          exact ⟨X + 1, v2, l2, ⟨by omega, by omega⟩, by omega, HST3.out, fun n => (HML2.out n).trans ⟨fun h => ⟨h.1, by omega⟩, fun h => ⟨h.1, by omega⟩⟩, HNO3.out, HKP3.out, HVO2.out⟩
      | some tx =>
        rw [htx] at hown3
        obtain ⟨w4, hrun, him, hg4, hs4⟩ := hst3.rep.put (by omega) hkX.out (iKey_of (k := now) (by have := HN.out; omega) (by have := HN.out; omega))
        dsimp only at hrun him
        rw [← HR.out] at hrun
        obtain ⟨_, _, _, _, _, s5⟩ := sto_at hst3.blk
        dsimp only at s5
        rw [← HSB.out, ← HR.out] at s5
        have hpp : POST (.returned (.tuple #[.int .i64 X, v3, .bool true])) w4 := by
          rw [HPOST.out]
          refine ⟨v2, l2, upd s.rp X (some now), HST3.out.repPut him hg4, HKP3.out.trans (T := fun k => k = σ.r) (Keeps.of_grown hg4 (fun k e => by cases e; rfl)) (fun _ _ e => e) (fun i _ e => .inr (.inl e)), HVO2.out, .inr ⟨X, tx, v3, rfl, HXM.out.1, htx, ?_, HNO2.out, rfl, HML2.out⟩⟩
          refine ownsRow_base (ownsRow_keeps hown3 (S := fun k => k = σ.r) (Keeps.of_grown hg4 (fun k e => by cases e; rfl)) (fun k e e2 => ?_)) (Nat.le_trans HKP.out.size (Nat.le_trans HB1.out.size ?_))
          · subst e2
            exact imap_no_ty HST3.out.rep (own_ty hown3 e)
          · exact hsz2
        have HPP := Lib.hid hpp
        clear hpp hown3 hb3 hst3 hkp3 him hg4 hs4 htx
        go_wp2_with fail
        refine bodyPost_ret (results_tmp3 rfl _ _ _) rfl ?_
        exact HPP.out
end Go.Proofs.Ytjklcecakdmbaaa
