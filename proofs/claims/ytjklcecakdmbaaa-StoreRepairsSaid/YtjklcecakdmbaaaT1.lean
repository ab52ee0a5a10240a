/-
  Package ranges: Len, First; what All hands out.
-/
import Derived.Test.YtjklcecakdmbaaaCut
import Derived.Test.YtjklcecakdmbaaaAdd
import Derived.Test.YtjklcecakdmbaaaRng3
import Derived.Test.YtjklcecakdmbaaaOwn
namespace Go.Proofs.Ytjklcecakdmbaaa
open Go.RowKit

theorem own_sl {w : World} {base e size n : Nat} {v : Value} {xs : List Value} (h : w.ownsRow base e size v n xs) : ∃ p c, v = .slice p n c ∧ n ≤ c ∧ c ≤ maxLen ∧ (0 < n → ∃ g, p = some ⟨g, 0, none⟩) := by
  rcases h.2 with ⟨rfl, rfl⟩ | ⟨g, c, cur, rfl, _, _, hc, hm, _⟩
  · exact ⟨none, 0, rfl, Nat.le_refl _, Nat.zero_le _, fun h => by omega⟩
  · exact ⟨some ⟨g, 0, none⟩, c, rfl, hc, hm, fun _ => ⟨g, rfl⟩⟩
theorem setLen_any (b : Nat) (v : Value) (l : List (Int × Int)) (w : World) (h : IsSet w b v l) :
    Calls Try.prog 51 #[.pointer (some ⟨b, 0, none⟩)] w fun e w' => e = .returned (.int .i64 (total l)) ∧ w = w' := by
  obtain ⟨T, hT⟩ : ∃ T, T = total l := ⟨_, rfl⟩
  have c1 : w.cell? ⟨b, 1, none⟩ = some (.int .i64 T) := by rw [cell_blk h.blk, hT]; rfl
  rw [← hT]
  clear hT h
  go_enter Try.func51, Try.ntmps51
  go_wp2_with fail
  go_ret
  exact ⟨rfl, rfl⟩

/-- What First tells. -/
def FirstPost (w : World) (l : List (Int × Int)) (e : Ending) (w' : World) : Prop :=
  Below w.heap.size w w' ∧ ((l = [] ∧ e = .returned (.tuple #[.int .i64 0, .bool false])) ∨ ∃ x r, l = x :: r ∧ e = .returned (.tuple #[.int .i64 x.1, .bool true]))
set_option maxHeartbeats 800000 in
theorem setFirst_any (b : Nat) (v : Value) (l : List (Int × Int)) (w : World) (h : IsSet w b v l) :
    Calls Try.prog 48 #[.pointer (some ⟨b, 0, none⟩), .int .i64 0] w (FirstPost w l) := by
  obtain ⟨POST, hPOST⟩ : ∃ POST, POST = FirstPost w l := ⟨_, rfl⟩
  rw [← hPOST]
  have HPOST := Lib.hid hPOST
  have c0 : w.cell? ⟨b, 0, none⟩ = some v := by rw [cell_blk h.blk]; rfl
  have HS := Lib.hid h
  have h16 := h.wf.len
  obtain ⟨p, c, rfl, hc, hcm, hp⟩ := own_sl h.own
  simp only [maxLen] at hcm
  clear hPOST h
  cases l with
  | nil =>
    have hp0 : POST (.returned (.tuple #[.int .i64 0, .bool false])) w := by
      rw [HPOST.out]; exact ⟨Below.refl _ _, .inl ⟨rfl, rfl⟩⟩
    have HP := Lib.hid hp0
    clear hp hp0
    rw [show ([] : List (Int × Int)).length = 0 from rfl] at c0
    go_enter Try.func48, Try.ntmps48
    go_wp2_with fail
    refine wp_loop_rounds 1 ?_
    rw [rounds_succ]
    go_wp2_with fail
    exact HP.out
  | cons x r =>
    obtain ⟨g, rfl⟩ := hp (by simp)
    have hcc := cells_of_own (l := x :: r) HS.out.own 0 x rfl
    have k0 : w.cell? ⟨g, 0, none⟩ = some (.int .i64 x.1) := hcc.1
    have k1 : w.cell? ⟨g, 1, none⟩ = some (.int .i64 x.2) := hcc.2
    have hx := HS.out.wf.each x (by simp)
    obtain ⟨a, hi⟩ := x
    simp only at k0 k1 hx
    obtain ⟨len, hlen⟩ : ∃ len, len = r.length := ⟨_, rfl⟩
    have e1 : ((a, hi) :: r).length = len + 1 := by rw [hlen]; rfl
    rw [e1] at c0 hc h16
    have hm : max a 0 = a := by omega
    have hp0 : POST (.returned (.tuple #[.int .i64 a, .bool true])) (w.alloc (.cells #[.int .i64 a, .int .i64 hi] 58)) := by
      rw [HPOST.out]; exact ⟨(Below.refl _ _).alloc (Nat.le_refl _) _, .inr ⟨(a, hi), r, rfl, rfl⟩⟩
    have HP := Lib.hid hp0
    obtain ⟨h0, h1, h2⟩ := hx
    clear hcc hlen e1 hp hp0
    go_enter Try.func48, Try.ntmps48
    go_wp2_with fail
    refine wp_loop_rounds 1 ?_
    rw [rounds_succ]
    go_wp2_with fail
    exact HP.out

/-! ## A set's numbers, rising -/
abbrev N16 := Fin 16384
def encN (x : N16) : Array Value := #[.int .i64 (x.1 : Int)]
def uptoU (U : List (Int × Int)) : Nat → List N16
  | 0 => []
  | n + 1 => uptoU U n ++ if h : n < 16384 then (if hasB U n then [⟨n, h⟩] else []) else []
theorem uptoU_in {U : List (Int × Int)} {n : Nat} (hn : n < 16384) (h : inS U n) : uptoU U (n + 1) = uptoU U n ++ [⟨n, hn⟩] := by
  unfold uptoU
  rw [dif_pos hn, if_pos ((hasB_iff _ _).2 h)]
  cases n <;> rfl
theorem uptoU_out {U : List (Int × Int)} {n : Nat} (h : ¬ inS U n) : uptoU U (n + 1) = uptoU U n := by
  rw [uptoU]
  split
  · rw [has_false _ _ h]; simp
  · simp
theorem uptoU_gap {U : List (Int × Int)} {a b : Nat} (hab : a ≤ b) (h : ∀ n : Nat, a ≤ n → n < b → ¬ inS U n) : uptoU U b = uptoU U a := by
  obtain ⟨d, rfl⟩ : ∃ d, b = a + d := ⟨b - a, by omega⟩
  clear hab
  induction d with
  | zero => rfl
  | succ d ih =>
    rw [show a + (d + 1) = (a + d) + 1 by omega, uptoU_out (h _ (by omega) (by omega))]
    exact ih fun n h1 h2 => h n h1 (by omega)
theorem mem_uptoU {U : List (Int × Int)} {n : Nat} {x : N16} : x ∈ uptoU U n ↔ x.1 < n ∧ inS U x.1 := by
  induction n with
  | zero => simp [uptoU]
  | succ n ih =>
    rw [uptoU, List.mem_append, ih]
    by_cases hn : n < 16384
    · rw [dif_pos hn]
      by_cases hh : inS U n
      · rw [if_pos ((hasB_iff _ _).2 hh)]
        simp only [List.mem_singleton]
        constructor
        · rintro (⟨h1, h2⟩ | rfl)
          · exact ⟨by omega, h2⟩
          · exact ⟨by simp, hh⟩
        · rintro ⟨h1, h2⟩
          rcases Nat.lt_or_eq_of_le (show x.1 ≤ n by omega) with h | h
          · exact .inl ⟨h, h2⟩
          · exact .inr (Fin.ext h)
      · rw [has_false _ _ hh]
        simp only [Bool.false_eq_true, if_false, List.not_mem_nil, or_false]
        constructor
        · rintro ⟨h1, h2⟩; exact ⟨by omega, h2⟩
        · rintro ⟨h1, h2⟩
          rcases Nat.lt_or_eq_of_le (show x.1 ≤ n by omega) with h | h
          · exact ⟨h, h2⟩
          · rw [h] at h2; exact absurd h2 hh
    · rw [dif_neg hn]
      simp only [List.not_mem_nil, or_false]
      have := x.2
      constructor
      · rintro ⟨h1, h2⟩; exact ⟨by omega, h2⟩
      · rintro ⟨h1, h2⟩; exact ⟨by omega, h2⟩
theorem uptoU_sorted (U : List (Int × Int)) (n : Nat) : (uptoU U n).Pairwise fun x y => x.1 < y.1 := by
  induction n with
  | zero => exact List.Pairwise.nil
  | succ n ih =>
    rw [uptoU]
    refine List.pairwise_append.2 ⟨ih, ?_, ?_⟩
    · split
      · split
        · exact List.pairwise_singleton _ _
        · exact List.Pairwise.nil
      · exact List.Pairwise.nil
    · intro x hx y hy
      have h1 := (mem_uptoU.1 hx).1
      split at hy
      · split at hy
        · rw [List.mem_singleton] at hy; subst hy; exact h1
        · cases hy
      · cases hy
theorem uptoU_len (U : List (Int × Int)) (n : Nat) : (uptoU U n).length ≤ n := by
  induction n with
  | zero => exact Nat.le_refl _
  | succ n ih =>
    rw [uptoU, List.length_append]
    have : ∀ (l : List N16), l = (if h : n < 16384 then (if hasB U n then [(⟨n, h⟩ : N16)] else []) else []) → l.length ≤ 1 := by
      rintro l rfl
      split
      · split <;> simp
      · simp
    have := this _ rfl
    omega
end Go.Proofs.Ytjklcecakdmbaaa
