/-
  The law BuildLog: the reference's Blocks; what the walk of the count needs.
-/
import Derived.Test.YtjklcecakdmbaaaL1
namespace Go.Proofs.Ytjklcecakdmbaaa
open Go.RowKit

set_option maxHeartbeats 800000 in
set_option maxRecDepth 100000 in
theorem refBlocks_any (S B : Nat) (w : World) (hS : S ≤ 16384) (hB1 : 1 ≤ B) (hB2 : B ≤ 64) :
    Calls Try.prog 21 #[.int .i64 S, .int .i64 B] w fun e w' => e = .returned (.int .i64 (nblk S B : Nat)) ∧ w = w' := by
  obtain ⟨N, hN⟩ : ∃ N, N = nblk S B := ⟨_, rfl⟩
  have hN1 : N ≤ 16384 := by rw [hN]; exact (nblk_bound hS hB1).1
  have HI := Lib.hid (fun b => show b < N ↔ b * B < S by rw [hN]; exact nblk_lt_iff hB1)
  rw [← hN]
  clear hN
  go_enter Try.func21, Try.ntmps21
  go_wp2_with fail
  go_loopg [5] N (fun gk x wr => ∃ b : Nat, x = .int .i64 b ∧ gk + b = N ∧ b ≤ N ∧ w = wr)
  case atStart => exact ⟨0, rfl, by omega, by omega, rfl⟩
  case round =>
    obtain ⟨b, rfl, hgk, hb, rfl⟩ := hrel
    have HGK := Lib.hid hgk
    clear hgk
    have hm : b * B ≤ 16384 * 64 := Nat.mul_le_mul (by omega) hB2
    obtain ⟨m, hm2⟩ : ∃ m, m = b * B := ⟨_, rfl⟩
    have hw1 : IntKind.i64.wrap ((b : Int) * (B : Int)) = (m : Int) := by rw [IntKind.wrap_i64, ← Int.natCast_mul, hm2]; omega
    rw [← hm2] at hm
    by_cases hlt : b < N
    · have hms : m < S := by rw [hm2]; exact (HI.out b).1 hlt
      have hmm : (b : Int) * (B : Int) = (m : Int) := by rw [hm2, Int.natCast_mul]
      clear hm2
      go_wp2_with fail
      go_roundg (N - (b + 1))
      case measure => have := HGK.out; omega
      case rel => exact ⟨b + 1, by go_num, by omega, by omega, rfl⟩
    · have hms : ¬ m < S := by rw [hm2]; exact fun h => hlt ((HI.out b).2 h)
      obtain rfl : b = N := by omega
      have hmm : (b : Int) * (B : Int) = (m : Int) := by rw [hm2, Int.natCast_mul]
      clear hm2
      go_wp2_with fail
      go_ret
      exact ⟨rfl, rfl⟩

theorem own_slice {w : World} {base e size n : Nat} {v : Value} {xs : List Value} (h : w.ownsRow base e size v n xs) : ∃ p c, v = .slice p n c ∧ n ≤ c ∧ (0 < n → ∃ g, p = some ⟨g, 0, none⟩) := by
  rcases ownsRow_formN (ownsRow_base h (Nat.zero_le _)) with ⟨rfl, rfl, _⟩ | ⟨g, c, rfl, _, hc, _⟩
  · exact ⟨none, 0, rfl, Nat.le_refl _, fun h => by omega⟩
  · exact ⟨some ⟨g, 0, none⟩, c, rfl, hc, fun _ => ⟨g, rfl⟩⟩
theorem gflat_len (G : List (Int × Int × Int × Int)) : (gflat G).length = G.length * 4 := by
  induction G with
  | nil => rfl
  | cons x l ih => show ([_, _, _, _] ++ gflat l).length = _; rw [List.length_append, ih]; simp; omega
theorem gflat_get {G : List (Int × Int × Int × Int)} {i : Nat} {g : Int × Int × Int × Int} (h : G[i]? = some g) : (gflat G)[i * 4]? = some (.int .i64 g.1) ∧ (gflat G)[i * 4 + 1]? = some (.int .i64 g.2.1) ∧ (gflat G)[i * 4 + 2]? = some (.int .i64 g.2.2.1) ∧ (gflat G)[i * 4 + 3]? = some (.int .i64 g.2.2.2) := by
  obtain ⟨hi, e⟩ := List.getElem?_eq_some_iff.1 h
  have hsplit : gflat G = gflat (G.take i) ++ ([.int .i64 g.1, .int .i64 g.2.1, .int .i64 g.2.2.1, .int .i64 g.2.2.2] ++ gflat (G.drop (i + 1))) := by
    have : G = G.take i ++ (g :: G.drop (i + 1)) := by rw [← e, List.getElem_cons_drop, List.take_append_drop]
    conv => lhs; rw [this]
    rw [gflat_append]
    rfl
  have hl : (gflat (G.take i)).length = i * 4 := by rw [gflat_len, List.length_take, Nat.min_eq_left (by omega)]
  rw [hsplit]
  refine ⟨?_, ?_, ?_, ?_⟩ <;> rw [List.getElem?_append_right (by omega), hl]
  · simp
  · rw [show i * 4 + 1 - i * 4 = 1 by omega]; rfl
  · rw [show i * 4 + 2 - i * 4 = 2 by omega]; rfl
  · rw [show i * 4 + 3 - i * 4 = 3 by omega]; rfl
theorem glog_cell {w : World} {base g cap n : Nat} {G : List (Int × Int × Int × Int)} (h : w.ownsRow base 51 4 (.slice (some ⟨g, 0, none⟩) n cap) n (gflat G)) {i : Nat} {x : Int × Int × Int × Int} (hx : G[i]? = some x) :
    w.cell? ⟨g, i * 4, none⟩ = some (.int .i64 x.1) ∧ w.cell? ⟨g, i * 4 + 1, none⟩ = some (.int .i64 x.2.1) ∧ w.cell? ⟨g, i * 4 + 2, none⟩ = some (.int .i64 x.2.2.1) ∧ w.cell? ⟨g, i * 4 + 3, none⟩ = some (.int .i64 x.2.2.2) := by
  obtain ⟨tail, hg, _⟩ := ownsRow_open (ownsRow_base h (Nat.zero_le _))
  obtain ⟨h0, h1, h2, h3⟩ := gflat_get hx
  have hc : ∀ k v, (gflat G)[k]? = some v → w.cell? ⟨g, k, none⟩ = some v := fun k v hv => by
    rw [cell_blk hg, List.getElem?_toArray, List.getElem?_append_left (List.getElem?_eq_some_iff.1 hv).1, hv]
  exact ⟨hc _ _ h0, hc _ _ h1, hc _ _ h2, hc _ _ h3⟩
theorem eq51 (a b c d : Int) (w : World) : (Op.equalIn 10000 51 (.agg #[.int .i64 a, .int .i64 b, .int .i64 c, .int .i64 d]) (.agg #[.int .i64 a, .int .i64 b, .int .i64 c, .int .i64 d])).run Try.prog w = .ok true w := by
  have u3 := Try.underlying3
  have a3 := Try.isAgg3
  have z3 := Try.sizeOf3
  have hS : Try.prog.underlying 51 = some (.struct (Try.prog.fieldsOf 51)) := by kernel_rfl
  have hp : Try.prog.stoodInHeld 51 = false := by kernel_rfl
  rw [show (10000 : Nat) = 9999 + 1 from rfl, run_equalIn_agg w 9999 51 _ _ hS hp]
  simp only [Program.fieldsOf, Try.underlying51]
  go_simp
end Go.Proofs.Ytjklcecakdmbaaa
