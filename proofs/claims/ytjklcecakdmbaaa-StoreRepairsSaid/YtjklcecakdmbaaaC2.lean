/-
  The laws' own functions: the reference's Layer and Blocks; right; pairs.
-/
import Derived.Test.YtjklcecakdmbaaaC1
import Derived.Deep.LoopGhost
import Derived.Deep.QuietTactic
namespace Go.Proofs.Ytjklcecakdmbaaa
open Go.RowKit

theorem half_len {v n N : Nat} (hv : v ≤ 128) (h0 : 0 < v) (h : n + Lib.bitLen v = N) : n + 1 + Lib.bitLen (v / 2) = N := by
  have := Lib.bitLen_half v (by omega) (by omega)
  omega
theorem two_step {q k : Nat} (h : q = 2 ^ k) : q * 2 = 2 ^ (k + 1) := by rw [h, Nat.pow_succ]
theorem two_bd {q k : Nat} (h : q = 2 ^ k) (hk : k ≤ 7) : 1 ≤ q ∧ q ≤ 128 := by
  subst h
  exact ⟨Nat.two_pow_pos k, Nat.pow_le_pow_right (by decide) hk⟩

set_option maxHeartbeats 800000 in
set_option maxRecDepth 100000 in
theorem refLayer_any (b L : Nat) (w : World) (hL1 : 1 ≤ L) (hL2 : L ≤ 8) :
    Calls Try.prog 24 #[.int .i64 b, .int .i64 L] w fun e w' => e = .returned (.int .i64 (layerN b L : Nat)) ∧ w = w' := by
  obtain ⟨POST, hPOST⟩ : ∃ POST : Ending → World → Prop, POST = fun e w' => e = .returned (.int .i64 (layerN b L : Nat)) ∧ w = w' := ⟨_, rfl⟩
  rw [← hPOST]
  have HPOST := Lib.hid hPOST
  clear hPOST
  go_enter Try.func24, Try.ntmps24
  go_wp2_with fail
  go_loopg [5, 6] (L - 1) (fun gk x y wr => ∃ (q i : Nat), x = .int .i64 q ∧ y = .int .i64 i ∧ gk + i = L ∧ 1 ≤ i ∧ i ≤ L ∧ q = 2 ^ (i - 1) ∧ w = wr)
  case atStart => exact ⟨1, 1, rfl, rfl, by omega, by omega, by omega, rfl, rfl⟩
  case round =>
    obtain ⟨q, i, rfl, rfl, hgk, hi1, hi2, hq, rfl⟩ := hrel
    have HQ := Lib.hid hq
    have HGK := Lib.hid hgk
    obtain ⟨hq1, hq2⟩ := two_bd hq (by omega)
    clear hq hgk
    by_cases hlt : i < L
    · go_wp2_with fail
      go_roundg (L - (i + 1))
      case measure => have := HGK.out; omega
      case rel => exact ⟨q * 2, i + 1, by go_num, by go_num, by omega, by omega, by omega, by rw [two_step HQ.out]; congr 1; omega, rfl⟩
    · obtain rfl : i = L := by omega
      have hrem : ((b : Int)).tmod (q : Int) = ((b % q : Nat) : Int) := rfl
      have hml : b % q < q := Nat.mod_lt _ (by omega)
      obtain ⟨v0, hv0⟩ : ∃ v0, v0 = b % q := ⟨_, rfl⟩
      have HV0 := Lib.hid hv0
      rw [← hv0] at hrem hml
      have hne : ((q : Int) == 0) = false := by rw [beq_eq_false_iff_ne]; omega
      have hne2 : ¬ ((q : Int) = 0) := by omega
      clear hv0
      obtain ⟨go, rfl⟩ : ∃ go : Nat, go = gk := ⟨_, rfl⟩
      go_wp2_with fail
      go_loopg [7, 8] v0 (fun gk x y wr => ∃ (v n : Nat), x = .int .i64 v ∧ y = .int .i64 n ∧ gk = v ∧ v ≤ 128 ∧ n ≤ 64 ∧ n + Lib.bitLen v = Lib.bitLen v0 ∧ w = wr)
      case atStart => exact ⟨v0, 0, rfl, rfl, rfl, by omega, by omega, by omega, rfl⟩
      case round =>
        obtain ⟨v, n, rfl, rfl, hgv, hv, hn, hlen, rfl⟩ := hrel
        have HLEN := Lib.hid hlen
        clear hlen
        by_cases hv0 : 0 < v
        · have hdiv : ((v : Int)).tdiv 2 = ((v / 2 : Nat) : Int) := rfl
          have hdl : v / 2 < v := Nat.div_lt_self hv0 (by decide)
          have hnn : n + 1 ≤ 64 := by
            have h1 := half_len hv hv0 HLEN.out
            have h2 := Lib.bitLen_le v0 64 (by omega) (by omega)
            omega
          go_wp2_with fail
          go_roundg (v / 2)
          case measure => omega
          case rel => exact ⟨v / 2, n + 1, rfl, by go_num, rfl, by omega, hnn, half_len hv hv0 HLEN.out, rfl⟩
        · obtain rfl : v = 0 := by omega
          have hp : POST (.returned (.int .i64 n)) w := by
            rw [HPOST.out]
            refine ⟨?_, rfl⟩
            have h1 := HLEN.out
            have h2 : Lib.bitLen 0 = 0 := by decide
            rw [h2, HV0.out, HQ.out] at h1
            have h3 : n = layerN b i := h1
            rw [h3]
          have HP := Lib.hid hp
          clear hp
          go_wp2_with fail
          exact HP.out

theorem pairs_nil (p q : Option Addr) (cp cq : Nat) (w : World) :
    Calls Try.prog 25 #[.slice p 0 cp, .slice q 0 cq] w fun e w' => e = .returned (.bool true) ∧ Below w.heap.size w w' := by
  go_enter Try.func25, Try.ntmps25
  go_wp2_with fail
  refine wp_loop_rounds 1 ?_
  rw [rounds_succ]
  go_wp2_with fail
  go_ret
  exact ⟨rfl, Below.refl _ _⟩

set_option maxHeartbeats 800000 in
set_option maxRecDepth 100000 in
theorem pairs_some (g h ca cb : Nat) (l : List (Int × Int)) (w : World) (ha : CellsP w g l) (hb : CellsP w h l) (hl : l.length ≤ 100000) (hca : l.length ≤ ca) (hcb : l.length ≤ cb) (hg : g < w.heap.size) (hh : h < w.heap.size) :
    Calls Try.prog 25 #[.slice (some ⟨g, 0, none⟩) l.length ca, .slice (some ⟨h, 0, none⟩) l.length cb] w fun e w' => e = .returned (.bool true) ∧ Below w.heap.size w w' := by
  obtain ⟨POST, hPOST⟩ : ∃ POST : Ending → World → Prop, POST = fun e w' => e = .returned (.bool true) ∧ Below w.heap.size w w' := ⟨_, rfl⟩
  rw [← hPOST]
  have HPOST := Lib.hid hPOST
  have HA := Lib.hid ha
  have HB := Lib.hid hb
  obtain ⟨n, hn⟩ : ∃ n, n = l.length := ⟨_, rfl⟩
  have HN := Lib.hid hn
  rw [← hn] at hl hca hcb ⊢
  clear hPOST ha hb hn
  go_enter Try.func25, Try.ntmps25
  go_wp2_with fail
  go_loopg [13] n (fun gk i wr => ∃ j : Nat, i = .int .i64 j ∧ gk + j = n ∧ j ≤ n ∧ Below w.heap.size w wr)
  case atStart => exact ⟨0, rfl, by omega, by omega, Below.refl _ _⟩
  case round =>
    obtain ⟨j, rfl, hgk, hj, hbel⟩ := hrel
    have HGK := Lib.hid hgk
    have HBEL := Lib.hid hbel
    clear hgk hbel
    by_cases hlt : j < n
    · obtain ⟨⟨x, y⟩, hx⟩ : ∃ x, l[j]? = some x := ⟨_, List.getElem?_eq_getElem (by have := HN.out; omega)⟩
      have k0 : wr.cell? ⟨g, j * 2, none⟩ = some (.int .i64 x) := (HBEL.out.cell (p := ⟨g, _, none⟩) hg).trans (HA.out _ _ hx).1
      have k1 : wr.cell? ⟨g, j * 2 + 1, none⟩ = some (.int .i64 y) := (HBEL.out.cell (p := ⟨g, _, none⟩) hg).trans (HA.out _ _ hx).2
      have l0 : wr.cell? ⟨h, j * 2, none⟩ = some (.int .i64 x) := (HBEL.out.cell (p := ⟨h, _, none⟩) hh).trans (HB.out _ _ hx).1
      have l1 : wr.cell? ⟨h, j * 2 + 1, none⟩ = some (.int .i64 y) := (HBEL.out.cell (p := ⟨h, _, none⟩) hh).trans (HB.out _ _ hx).2
      have heq := fun W => eq58 x y x y W
      have hbb : (x == x && y == y) = true := by simp
      clear hx
      go_wp2_with fail
      go_quiet (fail)
      go_wp2_with fail
      go_roundg (n - (j + 1))
      case measure => have := HGK.out; omega
      case rel => exact ⟨j + 1, by go_num, by omega, by omega, ⟨HBEL.out.os, HBEL.out.tape, HBEL.out.output, HBEL.out.size, HBEL.out.block⟩⟩
    · obtain rfl : j = n := by omega
      have hp : POST (.returned (.bool true)) wr := by rw [HPOST.out]; exact ⟨rfl, HBEL.out⟩
      have HP := Lib.hid hp
      clear hp
      go_wp2_with fail
      exact HP.out

theorem pairs_any (va vb : Value) (l : List (Int × Int)) (w : World) (ha : w.ownsRow 0 58 2 va l.length (flat l)) (hb : w.ownsRow 0 58 2 vb l.length (flat l)) (hl : l.length ≤ 100000) :
    Calls Try.prog 25 #[va, vb] w fun e w' => e = .returned (.bool true) ∧ Below w.heap.size w w' := by
  rcases ownsRow_formN ha with ⟨rfl, hz, _⟩ | ⟨g, ca, rfl, hg, hca, _⟩
  · rcases ownsRow_formN hb with ⟨rfl, _, _⟩ | ⟨h, cb, rfl, hh, hcb, _⟩
    · exact pairs_nil _ _ _ _ w
    · rw [hz]; exact pairs_nil _ _ _ _ w
  · rcases ownsRow_formN hb with ⟨rfl, hz, _⟩ | ⟨h, cb, rfl, hh, hcb, _⟩
    · rw [hz]; exact pairs_nil _ _ _ _ w
    · exact pairs_some g h ca cb l w (cells_of_own ha) (cells_of_own hb) hl hca hcb hg hh
theorem pairs_eq (va vb : Value) (l l' : List (Int × Int)) (w : World) (e : l = l') (ha : w.ownsRow 0 58 2 va l.length (flat l)) (hb : w.ownsRow 0 58 2 vb l'.length (flat l')) (hl : l.length ≤ 100000) :
    Calls Try.prog 25 #[va, vb] w fun e w' => e = .returned (.bool true) ∧ Below w.heap.size w w' := by
  subst e; exact pairs_any va vb l w ha hb hl

/-! ## right -/
/-- A case, as it is handed in. -/
def zAgg (S B L : Int) (ov : Value) : Value := .agg #[.int .i64 S, .int .i64 B, .int .i64 L, ov]
def rightZ (S B L : Int) (n : Nat) : Prop := 0 ≤ S ∧ S ≤ 400 ∧ 1 ≤ B ∧ B ≤ 64 ∧ 1 ≤ L ∧ L ≤ 8 ∧ n ≤ 60
instance (S B L : Int) (n : Nat) : Decidable (rightZ S B L n) := by unfold rightZ; infer_instance
set_option maxHeartbeats 800000 in
set_option maxRecDepth 100000 in
theorem right26_any (S B L : Int) (p : Option Addr) (n cap : Nat) (w : World) (hn : n ≤ 9223372036854775807) :
    Calls Try.prog 15 #[zAgg S B L (.slice p n cap)] w fun e w' => e = .returned (.bool (decide (rightZ S B L n))) ∧ Below w.heap.size w w' := by
  obtain ⟨D, hD⟩ : ∃ D, D = decide (rightZ S B L n) := ⟨_, rfl⟩
  rw [← hD]
  have hc : (S < 0 ∧ D = false) ∨ (¬ S < 0 ∧ 400 < S ∧ D = false) ∨ (¬ S < 0 ∧ ¬ 400 < S ∧ B < 1 ∧ D = false) ∨ (¬ S < 0 ∧ ¬ 400 < S ∧ ¬ B < 1 ∧ 64 < B ∧ D = false) ∨ (¬ S < 0 ∧ ¬ 400 < S ∧ ¬ B < 1 ∧ ¬ 64 < B ∧ L < 1 ∧ D = false) ∨
      (¬ S < 0 ∧ ¬ 400 < S ∧ ¬ B < 1 ∧ ¬ 64 < B ∧ ¬ L < 1 ∧ 8 < L ∧ D = false) ∨ (¬ S < 0 ∧ ¬ 400 < S ∧ ¬ B < 1 ∧ ¬ 64 < B ∧ ¬ L < 1 ∧ ¬ 8 < L ∧ 60 < n ∧ D = false) ∨ (¬ S < 0 ∧ ¬ 400 < S ∧ ¬ B < 1 ∧ ¬ 64 < B ∧ ¬ L < 1 ∧ ¬ 8 < L ∧ ¬ 60 < n ∧ D = true) := by
    by_cases h : rightZ S B L n
    · have h2 : D = true := by rw [hD]; simp [h]
      unfold rightZ at h
      rw [h2]
      simp only [and_true, Bool.true_eq_false, and_false, false_or]
      omega
    · have h2 : D = false := by rw [hD]; simp [h]
      unfold rightZ at h
      rw [h2]
      simp only [and_true, Bool.false_eq_true, and_false, or_false]
      omega
  clear hD
  unfold zAgg
  rcases hc with ⟨h0, rfl⟩ | ⟨h0, h1, rfl⟩ | ⟨h0, h1, h2, rfl⟩ | ⟨h0, h1, h2, h3, rfl⟩ | ⟨h0, h1, h2, h3, h4, rfl⟩ | ⟨h0, h1, h2, h3, h4, h5, rfl⟩ | ⟨h0, h1, h2, h3, h4, h5, h6, rfl⟩ | ⟨h0, h1, h2, h3, h4, h5, h6, rfl⟩
  all_goals
    go_enter Try.func15, Try.ntmps15
    go_wp2_with fail
    go_ret
    refine ⟨?_, (Below.refl _ _).alloc (Nat.le_refl _) _⟩
    first | rfl | (simp; omega)
end Go.Proofs.Ytjklcecakdmbaaa
