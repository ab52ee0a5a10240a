/-
  Contracts of package stripe: the plan.
-/
import Derived.Test.YtjklcecakdmbaaaLib
import Derived.Test.YtjklcecakdmbaaaBits
import Derived.Deep.QuietTactic
import Derived.BigQuiet
namespace Go.Proofs.Ytjklcecakdmbaaa
open Go.RowKit

/-- A plan lies in memory. -/
structure PlanAt (w : World) (p : Nat) (S B L : Nat) : Prop where
  blk : w.heap[p]? = some (.cells #[.int .i64 S, .int .i64 B, .int .i64 L] 110 (0, 0))
  s : S ≤ 16384
  b : 1 ≤ B ∧ B ≤ 64
  l : 1 ≤ L ∧ L ≤ 8
theorem PlanAt.keeps {T : Nat → Prop} {w w' : World} {p S B L : Nat} (h : PlanAt w p S B L) (hk : Keeps T w w') (hn : ¬ T p) : PlanAt w' p S B L := ⟨(hk.block p (lt_blk h.blk) hn).trans h.blk, h.s, h.b, h.l⟩
theorem PlanAt.below {w w' : World} {p S B L : Nat} (h : PlanAt w p S B L) (hk : Below w.heap.size w w') : PlanAt w' p S B L := ⟨(hk.block p (lt_blk h.blk)).trans h.blk, h.s, h.b, h.l⟩

def nblk (S B : Nat) : Nat := (S + B - 1) / B
def layerN (b L : Nat) : Nat := Lib.bitLen (b % 2 ^ (L - 1))

/-- Nothing but draws. -/
def Drew (w w' : World) : Prop := ∃ n, w' = w.drewN n
theorem Drew.below {w w' : World} (h : Drew w w') : Below w.heap.size w w' := by obtain ⟨n, rfl⟩ := h; exact ⟨rfl, rfl, rfl, Nat.le_refl _, fun _ _ => rfl⟩
theorem Drew.refl (w : World) : Drew w w := ⟨0, rfl⟩
theorem Drew.trans {a b c : World} (h : Drew a b) (k : Drew b c) : Drew a c := by
  obtain ⟨n, rfl⟩ := h
  obtain ⟨m, rfl⟩ := k
  exact ⟨n + m, by simp only [World.drewN, Nat.add_assoc]⟩
theorem Drew.drewN (w : World) (n : Nat) : Drew w (w.drewN n) := ⟨n, rfl⟩
theorem below_drewN {B : Nat} {a w : World} (h : Below B a w) (n : Nat) : Below B a (w.drewN n) := ⟨h.os, h.tape, h.output, h.size, h.block⟩

set_option maxHeartbeats 400000 in
theorem blocks_any (p S B L : Nat) (w : World) (hp : PlanAt w p S B L) :
    Calls Try.prog 23 #[.pointer (some ⟨p, 0, none⟩)] w fun e w' => e = .returned (.int .i64 (nblk S B : Nat)) ∧ Drew w w' := by
  have c0 : w.cell? ⟨p, 0, none⟩ = some (.int .i64 S) := by rw [cell_blk hp.blk]; rfl
  have c1 : w.cell? ⟨p, 1, none⟩ = some (.int .i64 B) := by rw [cell_blk hp.blk]; rfl
  have hS := hp.s
  have hB := hp.b
  obtain ⟨hB1, hB2⟩ := hB
  clear hp
  have hz : ((B : Int) == 0) = false := by simp; omega
  have hw1 : IntKind.i64.wrap ((S : Int) + (B : Int)) = (S : Int) + (B : Int) := by rw [IntKind.wrap_i64]; omega
  have hw2 : IntKind.i64.wrap ((S : Int) + (B : Int) - 1) = (S : Int) + (B : Int) - 1 := by rw [IntKind.wrap_i64]; omega
  go_enter Try.func23, Try.ntmps23
  go_wp2_with fail
  go_quiet (fail)
  clear hw1 hw2
  go_wp2_with fail
  go_ret
  refine ⟨congrArg Ending.returned (congrArg (Value.int IntKind.i64) ?_), Drew.drewN _ _⟩
  have e : ((S + B - 1 : Nat) : Int) = (S : Int) + (B : Int) - 1 := by omega
  show ((S : Int) + (B : Int) - 1) / (B : Int) = ((nblk S B : Nat) : Int)
  rw [← e, nblk, Int.natCast_ediv]

theorem nblk_bound {S B : Nat} (hS : S ≤ 16384) (hB : 1 ≤ B) : nblk S B ≤ 16384 ∧ ∀ b, b < nblk S B → b * B < S := by
  unfold nblk
  constructor
  · rcases Nat.eq_zero_or_pos S with rfl | h
    · rw [Nat.div_eq_of_lt (by omega)]; omega
    · have h1 : (S + B - 1) / B ≤ S := by
        rw [Nat.div_le_iff_le_mul_add_pred (by omega)]
        have : S ≤ S * B := Nat.le_mul_of_pos_right _ (by omega)
        rw [Nat.mul_comm] at this
        omega
      omega
  · intro b hb
    have h1 : (b + 1) * B ≤ S + B - 1 := by
      have := (Nat.le_div_iff_mul_le (by omega : 0 < B)).1 (show b + 1 ≤ (S + B - 1) / B from hb)
      exact this
    rw [Nat.add_mul] at h1
    omega
theorem nblk_lt_iff {S B b : Nat} (hB : 1 ≤ B) : b < nblk S B ↔ b * B < S := by
  unfold nblk
  rw [Nat.lt_iff_add_one_le, Nat.le_div_iff_mul_le (by omega), Nat.add_mul]
  omega

set_option maxHeartbeats 400000 in
theorem hasB_any (p S B L : Nat) (b : Int) (w : World) (hp : PlanAt w p S B L) :
    Calls Try.prog 78 #[.pointer (some ⟨p, 0, none⟩), .int .i64 b] w fun e w' => e = .returned (.bool (decide (0 ≤ b ∧ b < (nblk S B : Nat)))) ∧ Drew w w' := by
  have HB := Lib.hid (blocks_any p S B L w hp)
  obtain ⟨nb, hnb⟩ : ∃ nb, nb = nblk S B := ⟨_, rfl⟩
  rw [← hnb] at HB ⊢
  clear hnb
  by_cases h0 : 0 ≤ b
  · go_enter Try.func78, Try.ntmps78
    go_wp2_with fail
    refine HB.out.mono ?_
    rintro e w' ⟨rfl, hb⟩
    go_wp2_with fail
    go_ret
    exact ⟨by simp [h0], hb⟩
  · go_enter Try.func78, Try.ntmps78
    go_wp2_with fail
    go_ret
    exact ⟨by simp; omega, Drew.refl _⟩

theorem size_any (p S B L : Nat) (w : World) (hp : PlanAt w p S B L) :
    Calls Try.prog 59 #[.pointer (some ⟨p, 0, none⟩)] w fun e w' => e = .returned (.int .i64 S) ∧ w = w' := by
  have c0 : w.cell? ⟨p, 0, none⟩ = some (.int .i64 S) := by rw [cell_blk hp.blk]; rfl
  go_enter Try.func59, Try.ntmps59
  go_wp2
  go_ret
  exact ⟨rfl, rfl⟩
theorem layers_any (p S B L : Nat) (w : World) (hp : PlanAt w p S B L) :
    Calls Try.prog 58 #[.pointer (some ⟨p, 0, none⟩)] w fun e w' => e = .returned (.int .i64 L) ∧ w = w' := by
  have c0 : w.cell? ⟨p, 2, none⟩ = some (.int .i64 L) := by rw [cell_blk hp.blk]; rfl
  go_enter Try.func58, Try.ntmps58
  go_wp2
  go_ret
  exact ⟨rfl, rfl⟩

set_option maxHeartbeats 400000 in
theorem bytes_no (p S B L : Nat) (b : Int) (w : World) (hp : PlanAt w p S B L) (hb : ¬ (0 ≤ b ∧ b < (nblk S B : Nat))) :
    Calls Try.prog 54 #[.pointer (some ⟨p, 0, none⟩), .int .i64 b] w fun e w' => e = .returned (.tuple #[.int .i64 0, .int .i64 0, .int .i64 11]) ∧ Drew w w' := by
  have HB := Lib.hid (hasB_any p S B L b w hp)
  have HD := Lib.hid (show decide (0 ≤ b ∧ b < (nblk S B : Nat)) = false by simpa using hb)
  clear hb
  go_enter Try.func54, Try.ntmps54
  go_wp2_with fail
  refine HB.out.mono ?_
  rintro e w' ⟨rfl, hb⟩
  rw [HD.out]
  go_wp2_with fail
  go_ret3
  exact ⟨rfl, hb⟩

set_option maxHeartbeats 400000 in
theorem bytes_yes (p S B L b : Nat) (w : World) (hp : PlanAt w p S B L) (hb : b < nblk S B) :
    Calls Try.prog 54 #[.pointer (some ⟨p, 0, none⟩), .int .i64 b] w fun e w' => e = .returned (.tuple #[.int .i64 (b * B : Nat), .int .i64 (min ((b + 1) * B) S : Nat), .int .i64 0]) ∧ Drew w w' := by
  have HB := Lib.hid (hasB_any p S B L b w hp)
  have HD := Lib.hid (show decide ((0 : Int) ≤ (b : Int) ∧ (b : Int) < (nblk S B : Nat)) = true by simp; omega)
  have hlt := lt_blk hp.blk
  have hS := hp.s
  obtain ⟨hB1, hB2⟩ := hp.b
  have hbb := nblk_bound hS hB1
  have h1 := hbb.2 b hb
  have h2 : b ≤ 16384 := by omega
  obtain ⟨m, hm⟩ : ∃ m : Nat, m = b * B := ⟨_, rfl⟩
  have hm1 : (b : Int) * (B : Int) = (m : Int) := by rw [hm]; simp
  have hm2 : ((b : Int) + 1) * (B : Int) = (m : Int) + (B : Int) := by rw [Int.add_mul, hm1]; omega
  have hm3 : m < S := by omega
  have hw1 : IntKind.i64.wrap ((b : Int) * (B : Int)) = (m : Int) := by rw [hm1, IntKind.wrap_i64]; omega
  have hw2 : IntKind.i64.wrap ((b : Int) + 1) = (b : Int) + 1 := by rw [IntKind.wrap_i64]; omega
  have hw3 : IntKind.i64.wrap (((b : Int) + 1) * (B : Int)) = (m : Int) + (B : Int) := by rw [hm2, IntKind.wrap_i64]; omega
  have HP := Lib.hid hp
  have HM := Lib.hid hm
  have HW1 := Lib.hid hw1
  have HW2 := Lib.hid hw2
  have HW3 := Lib.hid hw3
  clear hp hb hbb h1 hm hm1 hm2 hw1 hw2 hw3
  go_enter Try.func54, Try.ntmps54
  go_wp2_with fail
  refine HB.out.mono ?_
  rintro e w' ⟨rfl, hb⟩
  rw [HD.out]
  have c0 : w'.cell? ⟨p, 0, none⟩ = some (.int .i64 S) := (hb.below.cell (p := ⟨p, 0, none⟩) hlt).trans (by rw [cell_blk HP.out.blk]; rfl)
  have c1 : w'.cell? ⟨p, 1, none⟩ = some (.int .i64 B) := (hb.below.cell (p := ⟨p, 1, none⟩) hlt).trans (by rw [cell_blk HP.out.blk]; rfl)
  go_wp2_with fail
  have hw1 := HW1.out
  have hw2 := HW2.out
  have hw3 := HW3.out
  go_quiet (fail)
  clear hw1 hw2 hw3
  go_wp2_with fail
  go_ret3
  refine ⟨?_, hb.trans (Drew.drewN _ _)⟩
  show Ending.returned (.tuple #[.int .i64 (m : Int), .int .i64 (min ((m : Int) + B) S), .int .i64 0]) = _
  have e1 : ((min ((b + 1) * B) S : Nat) : Int) = min ((m : Int) + B) S := by have := HM.out; rw [Nat.add_mul]; omega
  rw [e1, ← HM.out]

/-! ## layer -/
theorem i64_mask (n : Int) (M k : Nat) (hM : (BitVec.ofInt 64 (M : Int)).toNat = 2 ^ k - 1) (hk : 2 ^ k ≤ 128) (hd : ((2 ^ k : Nat) : Int) ∣ 18446744073709551616) : bits .and .i64 n (M : Int) = n % ((2 ^ k : Nat) : Int) := by
  have hp : 0 < 2 ^ k := Nat.two_pow_pos k
  have key : (BitVec.ofInt 64 n &&& BitVec.ofInt 64 (M : Int)).toNat = (n % ((2 ^ 64 : Nat) : Int)).toNat % 2 ^ k := by
    rw [BitVec.toNat_and, BitVec.toNat_ofInt, hM, Nat.and_two_pow_sub_one_eq_mod]
  show IntKind.i64.wrap ((BitVec.ofInt 64 n &&& BitVec.ofInt 64 (M : Int)).toNat : Nat) = n % ((2 ^ k : Nat) : Int)
  rw [key, IntKind.wrap_i64]
  have h1 : (((n % ((2 ^ 64 : Nat) : Int)).toNat % 2 ^ k : Nat) : Int) = n % ((2 ^ k : Nat) : Int) := by
    rw [Int.natCast_emod, Int.toNat_of_nonneg (Int.emod_nonneg _ (by decide))]
    exact Int.emod_emod_of_dvd n (by simpa using hd)
  rw [h1]
  have h2 := Int.emod_nonneg n (show ((2 ^ k : Nat) : Int) ≠ 0 by omega)
  have h3 := Int.emod_lt_of_pos n (show (0 : Int) < ((2 ^ k : Nat) : Int) by omega)
  omega
theorem mask_val (b M k : Nat) (hM : (BitVec.ofInt 64 (M : Int)).toNat = 2 ^ k - 1) (hk : 2 ^ k ≤ 128) (hd : ((2 ^ k : Nat) : Int) ∣ 18446744073709551616) : IntKind.u64.wrap (bits .and .i64 (b : Int) (M : Int)) = ((b % 2 ^ k : Nat) : Int) := by
  have hp : 0 < 2 ^ k := Nat.two_pow_pos k
  rw [i64_mask _ M k hM hk hd, ← Int.natCast_emod, IntKind.wrap_u64]
  have := Nat.mod_lt b hp
  omega

theorem mask_bd (b k : Nat) (hk : 2 ^ k ≤ 128) : (0 : Int) ≤ ((b % 2 ^ k : Nat) : Int) ∧ ((b % 2 ^ k : Nat) : Int) ≤ 18446744073709551615 := by
  have := Nat.mod_lt b (Nat.two_pow_pos k)
  omega
theorem layer_fin {b k z : Nat} (h : z = b % 2 ^ k) : Ending.returned (.int .i64 ((Lib.bitLen z : Nat) : Int)) = .returned (.int .i64 ((layerN b (k + 1) : Nat) : Int)) := by
  rw [h]; rfl

set_option maxHeartbeats 800000 in
set_option maxRecDepth 100000 in
theorem layer_any (p S B L b : Nat) (w : World) (hp : PlanAt w p S B L) :
    Calls Try.prog 79 #[.pointer (some ⟨p, 0, none⟩), .int .i64 b] w fun e w' => e = .returned (.int .i64 (layerN b L : Nat)) ∧ w = w' := by
  have c0 : w.cell? ⟨p, 2, none⟩ = some (.int .i64 L) := by rw [cell_blk hp.blk]; rfl
  obtain ⟨hL1, hL2⟩ := hp.l
  clear hp
  have hcases : L = 1 ∨ L = 2 ∨ L = 3 ∨ L = 4 ∨ L = 5 ∨ L = 6 ∨ L = 7 ∨ L = 8 := by omega
  rcases hcases with rfl | rfl | rfl | rfl | rfl | rfl | rfl | rfl
  · have hm := mask_val b 0 0 (by decide) (by decide) (by decide)
    have hx := mask_bd b 0 (by decide)
    obtain ⟨z, hz⟩ : ∃ z, z = b % 2 ^ 0 := ⟨_, rfl⟩
    rw [← hz] at hm hx
    have HM := Lib.hid hm
    have HX := Lib.hid hx
    have HZ := Lib.hid hz
    clear hm hx hz
    go_enter Try.func79, Try.ntmps79
    go_wp2_with fail
    rw [show IntKind.u64.wrap (bits BinOp.and IntKind.i64 (b : Int) 0) = (z : Int) from HM.out]
    refine (Try.bits_Len _ _ HX.out.1 HX.out.2).mono ?_
    rintro e w' ⟨rfl, rfl⟩
    go_wp2_with fail
    go_ret
    exact ⟨layer_fin HZ.out, rfl⟩
  · have hm := mask_val b 1 1 (by decide) (by decide) (by decide)
    have hx := mask_bd b 1 (by decide)
    obtain ⟨z, hz⟩ : ∃ z, z = b % 2 ^ 1 := ⟨_, rfl⟩
    rw [← hz] at hm hx
    have HM := Lib.hid hm
    have HX := Lib.hid hx
    have HZ := Lib.hid hz
    clear hm hx hz
    go_enter Try.func79, Try.ntmps79
    go_wp2_with fail
    rw [show IntKind.u64.wrap (bits BinOp.and IntKind.i64 (b : Int) 1) = (z : Int) from HM.out]
    refine (Try.bits_Len _ _ HX.out.1 HX.out.2).mono ?_
    rintro e w' ⟨rfl, rfl⟩
    go_wp2_with fail
    go_ret
    exact ⟨layer_fin HZ.out, rfl⟩
  · have hm := mask_val b 3 2 (by decide) (by decide) (by decide)
    have hx := mask_bd b 2 (by decide)
    obtain ⟨z, hz⟩ : ∃ z, z = b % 2 ^ 2 := ⟨_, rfl⟩
    rw [← hz] at hm hx
    have HM := Lib.hid hm
    have HX := Lib.hid hx
    have HZ := Lib.hid hz
    clear hm hx hz
    go_enter Try.func79, Try.ntmps79
    go_wp2_with fail
    rw [show IntKind.u64.wrap (bits BinOp.and IntKind.i64 (b : Int) 3) = (z : Int) from HM.out]
    refine (Try.bits_Len _ _ HX.out.1 HX.out.2).mono ?_
    rintro e w' ⟨rfl, rfl⟩
    go_wp2_with fail
    go_ret
    exact ⟨layer_fin HZ.out, rfl⟩
  · have hm := mask_val b 7 3 (by decide) (by decide) (by decide)
    have hx := mask_bd b 3 (by decide)
    obtain ⟨z, hz⟩ : ∃ z, z = b % 2 ^ 3 := ⟨_, rfl⟩
    rw [← hz] at hm hx
    have HM := Lib.hid hm
    have HX := Lib.hid hx
    have HZ := Lib.hid hz
    clear hm hx hz
    go_enter Try.func79, Try.ntmps79
    go_wp2_with fail
    rw [show IntKind.u64.wrap (bits BinOp.and IntKind.i64 (b : Int) 7) = (z : Int) from HM.out]
    refine (Try.bits_Len _ _ HX.out.1 HX.out.2).mono ?_
    rintro e w' ⟨rfl, rfl⟩
    go_wp2_with fail
    go_ret
    exact ⟨layer_fin HZ.out, rfl⟩
  · have hm := mask_val b 15 4 (by decide) (by decide) (by decide)
    have hx := mask_bd b 4 (by decide)
    obtain ⟨z, hz⟩ : ∃ z, z = b % 2 ^ 4 := ⟨_, rfl⟩
    rw [← hz] at hm hx
    have HM := Lib.hid hm
    have HX := Lib.hid hx
    have HZ := Lib.hid hz
    clear hm hx hz
    go_enter Try.func79, Try.ntmps79
    go_wp2_with fail
    rw [show IntKind.u64.wrap (bits BinOp.and IntKind.i64 (b : Int) 15) = (z : Int) from HM.out]
    refine (Try.bits_Len _ _ HX.out.1 HX.out.2).mono ?_
    rintro e w' ⟨rfl, rfl⟩
    go_wp2_with fail
    go_ret
    exact ⟨layer_fin HZ.out, rfl⟩
  · have hm := mask_val b 31 5 (by decide) (by decide) (by decide)
    have hx := mask_bd b 5 (by decide)
    obtain ⟨z, hz⟩ : ∃ z, z = b % 2 ^ 5 := ⟨_, rfl⟩
    rw [← hz] at hm hx
    have HM := Lib.hid hm
    have HX := Lib.hid hx
    have HZ := Lib.hid hz
    clear hm hx hz
    go_enter Try.func79, Try.ntmps79
    go_wp2_with fail
    rw [show IntKind.u64.wrap (bits BinOp.and IntKind.i64 (b : Int) 31) = (z : Int) from HM.out]
    refine (Try.bits_Len _ _ HX.out.1 HX.out.2).mono ?_
    rintro e w' ⟨rfl, rfl⟩
    go_wp2_with fail
    go_ret
    exact ⟨layer_fin HZ.out, rfl⟩
  · have hm := mask_val b 63 6 (by decide) (by decide) (by decide)
    have hx := mask_bd b 6 (by decide)
    obtain ⟨z, hz⟩ : ∃ z, z = b % 2 ^ 6 := ⟨_, rfl⟩
    rw [← hz] at hm hx
    have HM := Lib.hid hm
    have HX := Lib.hid hx
    have HZ := Lib.hid hz
    clear hm hx hz
    go_enter Try.func79, Try.ntmps79
    go_wp2_with fail
    rw [show IntKind.u64.wrap (bits BinOp.and IntKind.i64 (b : Int) 63) = (z : Int) from HM.out]
    refine (Try.bits_Len _ _ HX.out.1 HX.out.2).mono ?_
    rintro e w' ⟨rfl, rfl⟩
    go_wp2_with fail
    go_ret
    exact ⟨layer_fin HZ.out, rfl⟩
  · have hm := mask_val b 127 7 (by decide) (by decide) (by decide)
    have hx := mask_bd b 7 (by decide)
    obtain ⟨z, hz⟩ : ∃ z, z = b % 2 ^ 7 := ⟨_, rfl⟩
    rw [← hz] at hm hx
    have HM := Lib.hid hm
    have HX := Lib.hid hx
    have HZ := Lib.hid hz
    clear hm hx hz
    go_enter Try.func79, Try.ntmps79
    go_wp2_with fail
    rw [show IntKind.u64.wrap (bits BinOp.and IntKind.i64 (b : Int) 127) = (z : Int) from HM.out]
    refine (Try.bits_Len _ _ HX.out.1 HX.out.2).mono ?_
    rintro e w' ⟨rfl, rfl⟩
    go_wp2_with fail
    go_ret
    exact ⟨layer_fin HZ.out, rfl⟩

/-! ## New -/
def rightPlan (s b l : Int) : Prop := 0 ≤ s ∧ s ≤ 16384 ∧ 1 ≤ b ∧ b ≤ 64 ∧ 1 ≤ l ∧ l ≤ 8

set_option maxHeartbeats 800000 in
theorem stripeNew_no (s b l : Int) (w : World) (h : ¬ rightPlan s b l) :
    Calls Try.prog 53 #[.int .i64 s, .int .i64 b, .int .i64 l] w fun e w' => e = .returned (.tuple #[.pointer none, .int .i64 11]) ∧ w = w' := by
  unfold rightPlan at h
  by_cases h1 : s < 0
  · go_enter Try.func53, Try.ntmps53
    go_wp2
    go_ret2
    exact ⟨rfl, rfl⟩
  by_cases h2 : 16384 < s
  · go_enter Try.func53, Try.ntmps53
    go_wp2
    go_ret2
    exact ⟨rfl, rfl⟩
  by_cases h3 : b < 1
  · clear h
    go_enter Try.func53, Try.ntmps53
    go_wp2
    go_ret2
    exact ⟨rfl, rfl⟩
  by_cases h4 : 64 < b
  · clear h
    go_enter Try.func53, Try.ntmps53
    go_wp2
    go_ret2
    exact ⟨rfl, rfl⟩
  by_cases h5 : l < 1
  · clear h
    go_enter Try.func53, Try.ntmps53
    go_wp2
    go_ret2
    exact ⟨rfl, rfl⟩
  by_cases h6 : 8 < l
  · clear h
    go_enter Try.func53, Try.ntmps53
    go_wp2
    go_ret2
    exact ⟨rfl, rfl⟩
  · exfalso; omega

set_option maxHeartbeats 800000 in
theorem stripeNew_yes (s b l : Nat) (w : World) (h : rightPlan s b l) :
    Calls Try.prog 53 #[.int .i64 s, .int .i64 b, .int .i64 l] w fun e w' => e = .returned (.tuple #[.pointer (some ⟨w.heap.size, 0, none⟩), .int .i64 0]) ∧ w.alloc (.cells #[.int .i64 s, .int .i64 b, .int .i64 l] 110) = w' := by
  obtain ⟨h1, h2, h3, h4, h5, h6⟩ := h
  go_enter Try.func53, Try.ntmps53
  go_wp2
  go_ret2
  exact ⟨rfl, rfl⟩
theorem PlanAt.new {s b l : Nat} {w : World} (h : rightPlan s b l) : PlanAt (w.alloc (.cells #[.int .i64 s, .int .i64 b, .int .i64 l] 110)) w.heap.size s b l := by
  obtain ⟨h1, h2, h3, h4, h5, h6⟩ := h
  exact ⟨heap_alloc_new w _, by omega, by omega, by omega⟩
end Go.Proofs.Ytjklcecakdmbaaa
