/-
  The law BuildPlays: the reference's Put.
-/
import Derived.Test.YtjklcecakdmbaaaP1
namespace Go.Proofs.Ytjklcecakdmbaaa
open Go.RowKit

/-- The world in which a call gives back its state as it came. -/
def W2x (w : World) (S B L : Nat) (rv : Value) (ov : Bool) : World := (w.alloc (.cells #[.int .i64 S, .int .i64 B, .int .i64 L, rv, .bool ov] 65)).alloc (.cells #[.int .i64 S, .int .i64 B, .int .i64 L, rv, .bool ov] 65)
theorem W2x_at (w : World) (S B L : Nat) (rv : Value) (ov : Bool) : StBlk (W2x w S B L rv ov) (w.heap.size + 1) S B L rv ov ∧ Below w.heap.size w (W2x w S B L rv ov) := by
  refine ⟨?_, ?_⟩
  · unfold W2x StBlk
    have := heap_alloc_new (w.alloc (.cells #[.int .i64 S, .int .i64 B, .int .i64 L, rv, .bool ov] 65)) (.cells #[.int .i64 S, .int .i64 B, .int .i64 L, rv, .bool ov] 65)
    rwa [show (w.alloc (.cells #[.int .i64 S, .int .i64 B, .int .i64 L, rv, .bool ov] 65)).heap.size = w.heap.size + 1 by simp] at this
  · exact ((Below.refl _ _).alloc (Nat.le_refl _) _).alloc (by simp) _
/-- The error that the reference's Put tells. -/
def refCode (S B : Nat) (ov : Bool) (F : Nat → Int) (b : Int) (n : Nat) (t : Int) : Int :=
  if ov then 24 else if ¬ (0 ≤ b ∧ b < (nblk S B : Nat)) ∨ ¬ (0 ≤ t ∧ t ≤ 1099511627776) then 11 else if (n : Int) ≠ (min ((b.toNat + 1) * B) S - b.toNat * B : Nat) then 10 else if 0 ≤ F (b.toNat * B) then 13 else 0
def RefErr (w : World) (S B L : Nat) (rv : Value) (ov : Bool) (c : Int) (e : Ending) (w' : World) : Prop :=
  e = .returned (.tuple #[sAgg S B L rv ov, .int .i64 c]) ∧ Below w.heap.size w w'
theorem from_lt {S B b : Nat} (hS : S ≤ 400) (hB : 1 ≤ B) (hb : b < nblk S B) : b * B < S ∧ b ≤ 16384 := by
  have h1 := nblk_bound (S := S) (B := B) (by omega) hB
  have := h1.2 b hb
  have := h1.1
  omega


set_option maxHeartbeats 800000 in
set_option maxRecDepth 100000 in
theorem refPut_err (S B L : Nat) (rv : Value) (ov : Bool) (F : Nat → Int) (b t : Int) (ao : Option Addr) (n cap : Nat) (w : World) (hS : S ≤ 400) (hB1 : 1 ≤ B) (hB2 : B ≤ 64) (hrow : w.ownsRow 0 3 1 rv S (nrow S F)) (hn : n ≤ 9223372036854775807) (hc : refCode S B ov F b n t ≠ 0) :
    Calls Try.prog 60 #[sAgg S B L rv ov, .int .i64 b, .slice ao n cap, .int .i64 t] w (RefErr w S B L rv ov (refCode S B ov F b n t)) := by
  obtain ⟨POST, hPOST⟩ : ∃ POST, POST = RefErr w S B L rv ov (refCode S B ov F b n t) := ⟨_, rfl⟩
  rw [← hPOST]
  have HPOST := Lib.hid hPOST
  have HCODE := Lib.hid hc
  have HROW := Lib.hid hrow
  have HFIN := Lib.hid (show ∀ w', Below w.heap.size w w' → ∀ c, refCode S B ov F b n t = c → POST (.returned (.tuple #[sAgg S B L rv ov, .int .i64 c])) w' from fun w' hb' c hc' => by
    rw [HPOST.out]; exact ⟨by rw [hc'], hb'⟩)
  have HBL := Lib.hid (fun w' => refBlocks_any S B w' (by omega) hB1 hB2)
  clear hPOST hc hrow
  obtain ⟨rp, rc, rfl, _, _⟩ := own_slice HROW.out
  unfold sAgg
  cases ov with
  | true =>
      have HC := Lib.hid (show refCode S B true F b n t = 24 from rfl)
      go_enter Try.func60, Try.ntmps60
      go_wp2_with fail
      rw [show (w.alloc (.cells #[.int .i64 S, .int .i64 B, .int .i64 L, .slice rp S rc, .bool true] 65)).alloc (.cells #[.int .i64 S, .int .i64 B, .int .i64 L, .slice rp S rc, .bool true] 65) = W2x w S B L (.slice rp S rc) true from rfl]
      obtain ⟨hst, hbW⟩ := W2x_at w S B L (.slice rp S rc) true
      obtain ⟨v0, v1, v2, v3, v4⟩ := hst.at_
      obtain ⟨W, hW⟩ : ∃ W, W = W2x w S B L (.slice rp S rc) true := ⟨_, rfl⟩
      rw [← hW] at v0 v1 v2 v3 v4 hbW ⊢
      clear hW hst
      refine bodyPost_ret (v := .tuple #[sAgg S B L (.slice rp S rc) true, .int .i64 24]) ?_ rfl ?_
      · simp [results, Try.results60, go_sem, sAgg, v0, v1, v2, v3, v4]
      · exact HFIN.out W hbW _ HC.out
  | false =>
    by_cases h0 : b < 0
    · have HC := Lib.hid (show refCode S B false F b n t = 11 by unfold refCode; rw [if_neg (by simp), if_pos (by omega)])
      go_enter Try.func60, Try.ntmps60
      go_wp2_with fail
      rw [show (w.alloc (.cells #[.int .i64 S, .int .i64 B, .int .i64 L, .slice rp S rc, .bool false] 65)).alloc (.cells #[.int .i64 S, .int .i64 B, .int .i64 L, .slice rp S rc, .bool false] 65) = W2x w S B L (.slice rp S rc) false from rfl]
      obtain ⟨hst, hbW⟩ := W2x_at w S B L (.slice rp S rc) false
      obtain ⟨v0, v1, v2, v3, v4⟩ := hst.at_
      obtain ⟨W, hW⟩ : ∃ W, W = W2x w S B L (.slice rp S rc) false := ⟨_, rfl⟩
      rw [← hW] at v0 v1 v2 v3 v4 hbW ⊢
      clear hW hst
      refine bodyPost_ret (v := .tuple #[sAgg S B L (.slice rp S rc) false, .int .i64 11]) ?_ rfl ?_
      · simp [results, Try.results60, go_sem, sAgg, v0, v1, v2, v3, v4]
      · exact HFIN.out W hbW _ HC.out
    obtain ⟨b, rfl⟩ : ∃ b' : Nat, b = b' := ⟨b.toNat, by omega⟩
    clear h0
    obtain ⟨N, hN⟩ : ∃ N, N = nblk S B := ⟨_, rfl⟩
    rw [← hN] at HBL
    have HN := Lib.hid hN
    clear hN
    by_cases h1 : N ≤ b
    · have HC := Lib.hid (show refCode S B false F b n t = 11 by unfold refCode; rw [← HN.out, if_neg (by simp), if_pos (by omega)])
      go_enter Try.func60, Try.ntmps60
      go_wp2_with fail
      refine (HBL.out _).mono ?_
      rintro e w' ⟨rfl, rfl⟩
      go_wp2_with fail
      rw [show (w.alloc (.cells #[.int .i64 S, .int .i64 B, .int .i64 L, .slice rp S rc, .bool false] 65)).alloc (.cells #[.int .i64 S, .int .i64 B, .int .i64 L, .slice rp S rc, .bool false] 65) = W2x w S B L (.slice rp S rc) false from rfl]
      obtain ⟨hst, hbW⟩ := W2x_at w S B L (.slice rp S rc) false
      obtain ⟨v0, v1, v2, v3, v4⟩ := hst.at_
      obtain ⟨W, hW⟩ : ∃ W, W = W2x w S B L (.slice rp S rc) false := ⟨_, rfl⟩
      rw [← hW] at v0 v1 v2 v3 v4 hbW ⊢
      clear hW hst
      refine bodyPost_ret (v := .tuple #[sAgg S B L (.slice rp S rc) false, .int .i64 11]) ?_ rfl ?_
      · simp [results, Try.results60, go_sem, sAgg, v0, v1, v2, v3, v4]
      · exact HFIN.out W hbW _ HC.out
    by_cases h2 : t < 0
    · have HC := Lib.hid (show refCode S B false F b n t = 11 by unfold refCode; rw [← HN.out, if_neg (by simp), if_pos (by omega)])
      go_enter Try.func60, Try.ntmps60
      go_wp2_with fail
      refine (HBL.out _).mono ?_
      rintro e w' ⟨rfl, rfl⟩
      go_wp2_with fail
      rw [show (w.alloc (.cells #[.int .i64 S, .int .i64 B, .int .i64 L, .slice rp S rc, .bool false] 65)).alloc (.cells #[.int .i64 S, .int .i64 B, .int .i64 L, .slice rp S rc, .bool false] 65) = W2x w S B L (.slice rp S rc) false from rfl]
      obtain ⟨hst, hbW⟩ := W2x_at w S B L (.slice rp S rc) false
      obtain ⟨v0, v1, v2, v3, v4⟩ := hst.at_
      obtain ⟨W, hW⟩ : ∃ W, W = W2x w S B L (.slice rp S rc) false := ⟨_, rfl⟩
      rw [← hW] at v0 v1 v2 v3 v4 hbW ⊢
      clear hW hst
      refine bodyPost_ret (v := .tuple #[sAgg S B L (.slice rp S rc) false, .int .i64 11]) ?_ rfl ?_
      · simp [results, Try.results60, go_sem, sAgg, v0, v1, v2, v3, v4]
      · exact HFIN.out W hbW _ HC.out
    by_cases h3 : 1099511627776 < t
    · have HC := Lib.hid (show refCode S B false F b n t = 11 by unfold refCode; rw [← HN.out, if_neg (by simp), if_pos (by omega)])
      go_enter Try.func60, Try.ntmps60
      go_wp2_with fail
      refine (HBL.out _).mono ?_
      rintro e w' ⟨rfl, rfl⟩
      go_wp2_with fail
      rw [show (w.alloc (.cells #[.int .i64 S, .int .i64 B, .int .i64 L, .slice rp S rc, .bool false] 65)).alloc (.cells #[.int .i64 S, .int .i64 B, .int .i64 L, .slice rp S rc, .bool false] 65) = W2x w S B L (.slice rp S rc) false from rfl]
      obtain ⟨hst, hbW⟩ := W2x_at w S B L (.slice rp S rc) false
      obtain ⟨v0, v1, v2, v3, v4⟩ := hst.at_
      obtain ⟨W, hW⟩ : ∃ W, W = W2x w S B L (.slice rp S rc) false := ⟨_, rfl⟩
      rw [← hW] at v0 v1 v2 v3 v4 hbW ⊢
      clear hW hst
      refine bodyPost_ret (v := .tuple #[sAgg S B L (.slice rp S rc) false, .int .i64 11]) ?_ rfl ?_
      · simp [results, Try.results60, go_sem, sAgg, v0, v1, v2, v3, v4]
      · exact HFIN.out W hbW _ HC.out
    obtain ⟨hbS, hb16⟩ := from_lt hS hB1 (show b < nblk S B by rw [← HN.out]; omega)
    obtain ⟨m, hm⟩ : ∃ m, m = b * B := ⟨_, rfl⟩
    have hw1 : IntKind.i64.wrap ((b : Int) * (B : Int)) = (m : Int) := by rw [IntKind.wrap_i64, ← Int.natCast_mul, hm]; omega
    have hmm : (b : Int) * (B : Int) = (m : Int) := by rw [hm, Int.natCast_mul]
    have hmS : m < S := by rw [hm]; exact hbS
    obtain ⟨E, hE⟩ : ∃ E, E = min (m + B) S := ⟨_, rfl⟩
    have HCOD := Lib.hid (show refCode S B false F b n t = if (n : Int) ≠ (E - m : Nat) then 10 else if 0 ≤ F m then 13 else 0 by
      unfold refCode
      rw [← HN.out, if_neg (by simp), if_neg (by omega), Int.toNat_natCast, Nat.add_mul, Nat.one_mul, ← hm, ← hE])
    have hEm : m < E ∧ E ≤ S := by omega
    have HE := Lib.hid hE
    have HM := Lib.hid hm
    clear hE hm hbS
    by_cases h4 : (n : Int) = (E : Int) - (m : Int)
    · by_cases h5 : 0 ≤ F m
      · have HC := Lib.hid (show refCode S B false F b n t = 13 by rw [HCOD.out, if_neg (by omega), if_pos h5])
        obtain ⟨g, gc, hge, hg1, hg2, _, hg3, hgx⟩ := row_form HROW.out (by omega)
        cases hge
        have k0 := hgx m hmS
        have hnn2 : ((n : Int) != (E : Int) - (m : Int)) = false := by rw [bne_eq_false_iff_eq]; omega
        obtain ⟨fm, hfm⟩ : ∃ fm, fm = F m := ⟨_, rfl⟩
        rw [← hfm] at k0 h5
        simp only [maxLen] at hg2
        clear h4 hgx hfm
        by_cases h6 : S < m + B
        · obtain rfl : S = E := by rw [HE.out]; omega
          go_enter Try.func60, Try.ntmps60
          go_wp2_with fail
          refine (HBL.out _).mono ?_
          rintro e w' ⟨rfl, rfl⟩
          go_wp2_with fail
          rw [show (w.alloc (.cells #[.int .i64 S, .int .i64 B, .int .i64 L, .slice (some ⟨g, 0, none⟩) S rc, .bool false] 65)).alloc (.cells #[.int .i64 S, .int .i64 B, .int .i64 L, .slice (some ⟨g, 0, none⟩) S rc, .bool false] 65) = W2x w S B L (.slice (some ⟨g, 0, none⟩) S rc) false from rfl]
          obtain ⟨hst, hbW⟩ := W2x_at w S B L (.slice (some ⟨g, 0, none⟩) S rc) false
          obtain ⟨v0, v1, v2, v3, v4⟩ := hst.at_
          obtain ⟨W, hW⟩ : ∃ W, W = W2x w S B L (.slice (some ⟨g, 0, none⟩) S rc) false := ⟨_, rfl⟩
          rw [← hW] at v0 v1 v2 v3 v4 hbW ⊢
          clear hW hst
          refine bodyPost_ret (v := .tuple #[sAgg S B L (.slice (some ⟨g, 0, none⟩) S rc) false, .int .i64 13]) ?_ rfl ?_
          · simp [results, Try.results60, go_sem, sAgg, v0, v1, v2, v3, v4]
          · exact HFIN.out W hbW _ HC.out
        · obtain rfl : E = m + B := by rw [HE.out]; omega
          have hnn3 : ((n : Int) != (m : Int) + (B : Int) - (m : Int)) = false := by rw [bne_eq_false_iff_eq]; have := bne_eq_false_iff_eq.1 hnn2; omega
          clear hnn2
          go_enter Try.func60, Try.ntmps60
          go_wp2_with fail
          refine (HBL.out _).mono ?_
          rintro e w' ⟨rfl, rfl⟩
          go_wp2_with fail
          rw [show (w.alloc (.cells #[.int .i64 S, .int .i64 B, .int .i64 L, .slice (some ⟨g, 0, none⟩) S rc, .bool false] 65)).alloc (.cells #[.int .i64 S, .int .i64 B, .int .i64 L, .slice (some ⟨g, 0, none⟩) S rc, .bool false] 65) = W2x w S B L (.slice (some ⟨g, 0, none⟩) S rc) false from rfl]
          obtain ⟨hst, hbW⟩ := W2x_at w S B L (.slice (some ⟨g, 0, none⟩) S rc) false
          obtain ⟨v0, v1, v2, v3, v4⟩ := hst.at_
          obtain ⟨W, hW⟩ : ∃ W, W = W2x w S B L (.slice (some ⟨g, 0, none⟩) S rc) false := ⟨_, rfl⟩
          rw [← hW] at v0 v1 v2 v3 v4 hbW ⊢
          clear hW hst
          refine bodyPost_ret (v := .tuple #[sAgg S B L (.slice (some ⟨g, 0, none⟩) S rc) false, .int .i64 13]) ?_ rfl ?_
          · simp [results, Try.results60, go_sem, sAgg, v0, v1, v2, v3, v4]
          · exact HFIN.out W hbW _ HC.out
      · exfalso
        exact HCODE.out (by rw [HCOD.out, if_neg (by omega), if_neg h5])
    · have HC := Lib.hid (show refCode S B false F b n t = 10 by rw [HCOD.out, if_pos (by omega)])
      have hnn2 : ((n : Int) != (E : Int) - (m : Int)) = true := by rw [bne_iff_ne]; exact h4
      clear h4
      by_cases h6 : S < m + B
      · obtain rfl : S = E := by rw [HE.out]; omega
        go_enter Try.func60, Try.ntmps60
        go_wp2_with fail
        refine (HBL.out _).mono ?_
        rintro e w' ⟨rfl, rfl⟩
        go_wp2_with fail
        rw [show (w.alloc (.cells #[.int .i64 S, .int .i64 B, .int .i64 L, .slice rp S rc, .bool false] 65)).alloc (.cells #[.int .i64 S, .int .i64 B, .int .i64 L, .slice rp S rc, .bool false] 65) = W2x w S B L (.slice rp S rc) false from rfl]
        obtain ⟨hst, hbW⟩ := W2x_at w S B L (.slice rp S rc) false
        obtain ⟨v0, v1, v2, v3, v4⟩ := hst.at_
        obtain ⟨W, hW⟩ : ∃ W, W = W2x w S B L (.slice rp S rc) false := ⟨_, rfl⟩
        rw [← hW] at v0 v1 v2 v3 v4 hbW ⊢
        clear hW hst
        refine bodyPost_ret (v := .tuple #[sAgg S B L (.slice rp S rc) false, .int .i64 10]) ?_ rfl ?_
        · simp [results, Try.results60, go_sem, sAgg, v0, v1, v2, v3, v4]
        · exact HFIN.out W hbW _ HC.out
      · obtain rfl : E = m + B := by rw [HE.out]; omega
        have hnn3 : ((n : Int) != (m : Int) + (B : Int) - (m : Int)) = true := by rw [bne_iff_ne] at hnn2 ⊢; omega
        clear hnn2
        go_enter Try.func60, Try.ntmps60
        go_wp2_with fail
        refine (HBL.out _).mono ?_
        rintro e w' ⟨rfl, rfl⟩
        go_wp2_with fail
        rw [show (w.alloc (.cells #[.int .i64 S, .int .i64 B, .int .i64 L, .slice rp S rc, .bool false] 65)).alloc (.cells #[.int .i64 S, .int .i64 B, .int .i64 L, .slice rp S rc, .bool false] 65) = W2x w S B L (.slice rp S rc) false from rfl]
        obtain ⟨hst, hbW⟩ := W2x_at w S B L (.slice rp S rc) false
        obtain ⟨v0, v1, v2, v3, v4⟩ := hst.at_
        obtain ⟨W, hW⟩ : ∃ W, W = W2x w S B L (.slice rp S rc) false := ⟨_, rfl⟩
        rw [← hW] at v0 v1 v2 v3 v4 hbW ⊢
        clear hW hst
        refine bodyPost_ret (v := .tuple #[sAgg S B L (.slice rp S rc) false, .int .i64 10]) ?_ rfl ?_
        · simp [results, Try.results60, go_sem, sAgg, v0, v1, v2, v3, v4]
        · exact HFIN.out W hbW _ HC.out
end Go.Proofs.Ytjklcecakdmbaaa
