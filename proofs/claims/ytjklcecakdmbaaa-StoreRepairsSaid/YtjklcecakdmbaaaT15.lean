/-
  The law StoreRepairs: the walk.
-/
import Derived.Test.YtjklcecakdmbaaaT14
import Derived.BigQuiet
namespace Go.Proofs.Ytjklcecakdmbaaa
open Go.RowKit

/-- What one Next of the law tells. -/
def StepIs (w : World) (L : List (Int × Int)) (now y : Int) (l' : List (Int × Int)) (rp' : Int → Option Int) (X : Int) (v : Value) (ok : Bool) (W' : World) : Prop :=
  (ok = true ∧ takeB L X = true ∧ y < X ∧ (∀ n, takeB L n = true → y < n → X ≤ n) ∧ W'.ownsRow w.heap.size 5 1 v 1 [.int .u8 X] ∧ (∀ n, inS l' n ↔ takeB L n = true ∧ X < n) ∧ ∀ n, rp' n = tells L now X n) ∨
  (ok = false ∧ (∀ n, takeB L n = true → n ≤ y) ∧ (∀ n, ¬ inS l' n) ∧ ∀ n, rp' n = tells L now y n)
theorem own_step {w W : World} {b nb : Nat} {s : SS} {hold now y : Int} {L l : List (Int × Int)} {rp : Int → Option Int} (h : Own25 w W b { s with l := l, rp := rp } nb) (hf : Filled s hold 64) (hl : ∀ n, inS l n ↔ takeB L n = true ∧ y < n) (hr : ∀ n, rp n = tells L now y n) (ht : 0 ≤ now ∧ now ≤ 1099511627776) (hnb : nb < 900000) :
    Calls Try.prog 13 #[.pointer (some ⟨b, 0, none⟩), .int .i64 now] W fun e W' => ∃ l' rp' X v ok, e = .returned (.tuple #[.int .i64 X, v, .bool ok]) ∧ Own25 w W' b { s with l := l', rp := rp' } (nb + 1) ∧ StepIs w L now y l' rp' X v ok W' := by
  refine (own_next h now ht hnb).mono ?_
  rintro e W' ⟨l', rp', h1, h2⟩
  have htx : ∀ n, takeB L n = true → s.txt n = some [n] := fun n hn => by
    unfold takeB at hn
    simp only [Bool.and_eq_true, decide_eq_true_eq] at hn
    rw [hf.txt]
    exact if_pos hn.2
  rcases h2 with ⟨rfl, h3, h4, h5⟩ | ⟨x, tx, v, rfl, h3, h4, h5, h6, h7, h8⟩
  · refine ⟨l', rp', 0, .slice none 0 0, false, rfl, h1, .inr ⟨rfl, fun n hn => ?_, h4, fun n => by rw [h3]; exact hr n⟩⟩
    by_cases hy : n ≤ y
    · exact hy
    · have := h5 n ((hl n).2 ⟨hn, by omega⟩)
      have h6 : s.txt n = none := this
      rw [htx n hn] at h6
      cases h6
  · have hx := (hl x).1 h3
    have h4 : s.txt x = some tx := h4
    rw [htx x hx.1] at h4
    cases h4
    have hle : ∀ n, takeB L n = true → y < n → x ≤ n := fun n hn hy => by
      by_cases hxn : x ≤ n
      · exact hxn
      · have h9 : s.txt n = none := h6 n ((hl n).2 ⟨hn, hy⟩) (by omega)
        rw [htx n hn] at h9
        cases h9
    refine ⟨l', rp', x, v, true, rfl, h1, .inl ⟨rfl, hx.1, hx.2, hle, h5, fun n => ?_, fun n => ?_⟩⟩
    · rw [h8 n]
      show inS l n ∧ x < n ↔ _
      rw [hl n]
      exact ⟨fun h => ⟨h.1.1, h.2⟩, fun h => ⟨⟨h.1, by have := hx.2; omega⟩, h.2⟩⟩
    · rw [h7]
      show upd rp x (some now) n = _
      unfold upd
      by_cases e : n = x
      · subst e
        rw [if_pos rfl]
        unfold tells
        rw [if_pos ⟨hx.1, Int.le_refl _⟩]
      · rw [if_neg e, hr n]
        unfold tells
        by_cases e2 : takeB L n = true ∧ n ≤ y
        · rw [if_pos e2, if_pos ⟨e2.1, by have := hx.2; omega⟩]
        · rw [if_neg e2, if_neg]
          rintro ⟨e3, e4⟩
          by_cases e5 : n ≤ y
          · exact e2 ⟨e3, e5⟩
          · have := hle n e3 (by omega); omega

theorem below_box (w : World) (o : Obj) (q : Nat) : Below w.heap.size w ((w.alloc o).drewN q) :=
  have h := (Below.refl w.heap.size w).alloc (Nat.le_refl _) o
  ⟨h.os, h.tape, h.output, h.size, h.block⟩
def rightR (n : Nat) (hold now by_ : Int) : Prop := n ≤ 20 ∧ 0 ≤ hold ∧ hold ≤ 65536 ∧ 0 ≤ now ∧ now ≤ 549755813888 ∧ 0 ≤ by_ ∧ by_ ≤ 131072

set_option maxHeartbeats 1600000 in
set_option maxRecDepth 100000 in
theorem repairs_no (p : Option Addr) (n cap : Nat) (hold now by_ : Int) (w : World) (hn : n ≤ 9223372036854775807) (h : ¬ rightR n hold now by_) :
    Calls Try.prog 3 #[.agg #[.slice p n cap, .int .i64 hold, .int .i64 now, .int .i64 by_]] w fun e w' => e = .returned (.bool true) ∧ Below w.heap.size w w' := by
  obtain ⟨POST, hPOST⟩ : ∃ POST : Ending → World → Prop, POST = fun e w' => e = .returned (.bool true) ∧ Below w.heap.size w w' := ⟨_, rfl⟩
  rw [← hPOST]
  have HPOST := Lib.hid hPOST
  have HA := Lib.hid (fun W hW => awake25_any w W hW)
  have hp : ∀ W, Below w.heap.size w W → POST (.returned (.bool true)) W := fun W hW => by rw [HPOST.out]; exact ⟨rfl, hW⟩
  have HP := Lib.hid hp
  clear hPOST hp
  have hc : 20 < n ∨ (¬ 20 < n ∧ hold < 0) ∨ (¬ 20 < n ∧ ¬ hold < 0 ∧ 65536 < hold) ∨ (¬ 20 < n ∧ ¬ hold < 0 ∧ ¬ 65536 < hold ∧ now < 0) ∨ (¬ 20 < n ∧ ¬ hold < 0 ∧ ¬ 65536 < hold ∧ ¬ now < 0 ∧ 549755813888 < now) ∨
      (¬ 20 < n ∧ ¬ hold < 0 ∧ ¬ 65536 < hold ∧ ¬ now < 0 ∧ ¬ 549755813888 < now ∧ by_ < 0) ∨ (¬ 20 < n ∧ ¬ hold < 0 ∧ ¬ 65536 < hold ∧ ¬ now < 0 ∧ ¬ 549755813888 < now ∧ ¬ by_ < 0 ∧ 131072 < by_) := by
    unfold rightR at h
    omega
  clear h
  rcases hc with h1 | ⟨h1, h2⟩ | ⟨h1, h2, h3⟩ | ⟨h1, h2, h3, h4⟩ | ⟨h1, h2, h3, h4, h5⟩ | ⟨h1, h2, h3, h4, h5, h6⟩ | ⟨h1, h2, h3, h4, h5, h6, h7⟩
  all_goals
    go_enter Try.func3, Try.ntmps3
    go_wp2_with fail
    go_quiet (fail)
    go_wp2_with fail
    refine (HA.out _ (below_box w _ _)).mono ?_
    rintro e w2 ⟨rfl, hb2⟩
    have hpp := Lib.hid (HP.out w2 hb2)
    clear hb2
    go_wp2_with fail
    exact hpp.out

end Go.Proofs.Ytjklcecakdmbaaa
