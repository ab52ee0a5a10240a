/-
  Package store: the blocks of stretches, each once (union).
-/
import Derived.Test.YtjklcecakdmbaaaT2
import Derived.Test.YtjklcecakdmbaaaUpto
namespace Go.Proofs.Ytjklcecakdmbaaa
open Go.RowKit

/-- Stretches that are handed in. -/
structure PairsAt (w : World) (p : Option Addr) (n : Nat) (l : List (Int × Int)) : Prop where
  len : l.length = n
  nil : p = none → l = []
  at_ : ∀ a, p = some a → ∀ j x, l[j]? = some x → a.spot = none ∧ a.block < w.heap.size ∧ w.cell? ⟨a.block, a.off + j * 2, none⟩ = some (.int .i64 x.1) ∧ w.cell? ⟨a.block, a.off + j * 2 + 1, none⟩ = some (.int .i64 x.2)
theorem PairsAt.keeps {T : Nat → Prop} {w w' : World} {p : Option Addr} {n : Nat} {l : List (Int × Int)} (h : PairsAt w p n l) (hk : Keeps T w w') (hn : ∀ a, p = some a → 0 < n → ¬ T a.block) : PairsAt w' p n l := by
  refine ⟨h.len, h.nil, fun a ha j x hx => ?_⟩
  obtain ⟨h1, h2, h3, h4⟩ := h.at_ a ha j x hx
  have hn0 : 0 < n := by rw [← h.len]; exact Nat.lt_of_le_of_lt (Nat.zero_le _) (List.getElem?_eq_some_iff.1 hx).1
  exact ⟨h1, Nat.lt_of_lt_of_le h2 hk.size, (hk.cell (p := ⟨a.block, _, none⟩) h2 (hn a ha hn0)).trans h3, (hk.cell (p := ⟨a.block, _, none⟩) h2 (hn a ha hn0)).trans h4⟩
theorem PairsAt.below {w w' : World} {p : Option Addr} {n : Nat} {l : List (Int × Int)} (h : PairsAt w p n l) (hb : Below w.heap.size w w') : PairsAt w' p n l :=
  h.keeps (T := fun _ => False) (Keeps.of_below hb) (fun _ _ _ e => e)
/-- Is a number in one of them? -/
def inL (l : List (Int × Int)) (n : Int) : Prop := ∃ x ∈ l, max x.1 0 ≤ n ∧ n < min x.2 16384
theorem inL_nil (n : Int) : ¬ inL [] n := by rintro ⟨x, hx, _⟩; cases hx
theorem inL_succ {l : List (Int × Int)} {j : Nat} {x : Int × Int} (h : l[j]? = some x) (n : Int) : inL (l.take (j + 1)) n ↔ inL (l.take j) n ∨ (max x.1 0 ≤ n ∧ n < min x.2 16384) := by
  obtain ⟨hj, rfl⟩ := List.getElem?_eq_some_iff.1 h
  unfold inL
  rw [List.take_succ_eq_append_getElem hj]
  constructor
  · rintro ⟨y, hy, h1⟩
    rcases List.mem_append.1 hy with hy | hy
    · exact .inl ⟨y, hy, h1⟩
    · rw [List.mem_singleton] at hy; subst hy; exact .inr h1
  · rintro (⟨y, hy, h1⟩ | h1)
    · exact ⟨y, List.mem_append.2 (.inl hy), h1⟩
    · exact ⟨_, List.mem_append.2 (.inr (List.mem_singleton.2 rfl)), h1⟩

set_option maxHeartbeats 800000 in
set_option maxRecDepth 100000 in
theorem union_any (p : Option Addr) (n cap : Nat) (l : List (Int × Int)) (w : World) (hp : PairsAt w p n l) (hn : n ≤ 100000) :
    Calls Try.prog 43 #[.slice p n cap] w (NewSet w (inL l)) := by
  obtain ⟨POST, hPOST⟩ : ∃ POST, POST = NewSet w (inL l) := ⟨_, rfl⟩
  rw [← hPOST]
  have HPOST := Lib.hid hPOST
  have HP := Lib.hid hp
  clear hPOST hp
  go_enter Try.func43, Try.ntmps43
  go_wp2_with fail
  refine (new_any _).mono ?_
  rintro e w1 ⟨rfl, hw1⟩
  have hs1 : IsSet w1 w.heap.size (.slice none 0 0) [] := by rw [← hw1]; exact IsSet.new w
  have hb1 : Below w.heap.size w w1 := by rw [← hw1]; exact (Below.refl _ _).alloc (Nat.le_refl _) _
  clear hw1
  have HS1 := Lib.hid hs1
  have HB1 := Lib.hid hb1
  clear hs1 hb1
  go_wp2_with fail
  go_loopg [11] n (fun gk i wr => ∃ (t : Nat) (v : Value) (u : List (Int × Int)), i = .int .i64 t ∧ gk + t = n ∧ t ≤ n ∧ IsSet wr w.heap.size v u ∧ (∀ m, inS u m ↔ inL (l.take t) m) ∧ Below w.heap.size w wr ∧ (∀ j, v.ownBlock = some j → w.heap.size ≤ j))
  case atStart => exact ⟨0, _, _, rfl, by omega, by omega, HS1.out, fun m => ⟨fun h => (inS_nil m h).elim, fun h => (inL_nil m (by simpa using h)).elim⟩, HB1.out, fun j e => by cases e⟩
  case round =>
    obtain ⟨t, v, u, rfl, hgk, ht, hs, hmem, hbel, hv⟩ := hrel
    have HGK := Lib.hid hgk
    have HS := Lib.hid hs
    have HM := Lib.hid hmem
    have HV := Lib.hid hv
    have HBEL := Lib.hid hbel
    clear hgk hs hmem hv hbel
    by_cases hlt : t < n
    · obtain ⟨⟨x, y⟩, hx⟩ : ∃ x, l[t]? = some x := ⟨_, List.getElem?_eq_getElem (by have := HP.out.len; omega)⟩
      obtain ⟨a, rfl⟩ : ∃ a, p = some a := by
        cases hpp : p with
        | none => have h1 := HP.out.nil hpp; rw [h1] at hx; cases hx
        | some a => exact ⟨a, rfl⟩
      obtain ⟨h1, h2, h3, h4⟩ := HP.out.at_ a rfl t _ hx
      obtain ⟨ab, aoff, asp⟩ := a
      simp only at h1 h2 h3 h4
      subst h1
      have k0 := (HBEL.out.cell (p := ⟨ab, aoff + t * 2, none⟩) h2).trans h3
      have k1 := (HBEL.out.cell (p := ⟨ab, aoff + t * 2 + 1, none⟩) h2).trans h4
      have HX := Lib.hid hx
      clear hx h3 h4
      go_wp2_with fail
      obtain ⟨X, hX⟩ : ∃ X, X = wr.alloc (.cells #[.int .i64 x, .int .i64 y] 58) := ⟨_, rfl⟩
      obtain ⟨q, hq⟩ : ∃ q, q = wr.heap.size := ⟨_, rfl⟩
      have hqX : X.heap[q]? = some (.cells #[.int .i64 x, .int .i64 y] 58 (0, 0)) := by rw [hX, hq]; exact heap_alloc_new wr _
      have hbX : Below w.heap.size w X := by rw [hX]; exact HBEL.out.alloc HBEL.out.size _
      have hsX : IsSet X w.heap.size v u := by rw [hX]; exact HS.out.below ((Below.refl _ _).alloc (Nat.le_refl _) _)
      have q0 : X.cell? ⟨q, 0, none⟩ = some (.int .i64 x) := by rw [cell_blk hqX]; rfl
      have q1 : X.cell? ⟨q, 1, none⟩ = some (.int .i64 y) := by rw [cell_blk hqX]; rfl
      rw [← hX, ← hq]
      have HSX := Lib.hid hsX
      have HBX := Lib.hid hbX
      clear hX hq hqX hbX hsX k0 k1
      go_quiet (fail)
      have hb2 := below_drewN HBX.out nq
      have hs2 : IsSet (X.drewN nq) w.heap.size v u := HSX.out.below (below_drewN (Below.refl _ _) nq)
      by_cases hk : max x 0 < min y 16384
      · have HA := Lib.hid (add_any w.heap.size v u (max x 0) (min y 16384) (X.drewN nq) hs2 (by omega) (by omega) (by omega))
        have HB2 := Lib.hid hb2
        clear hb2 hs2 q0 q1
        go_wp2_with fail
        refine HA.out.mono ?_
        rintro e w4 ⟨r, v4, l4, rfl, hs4, hm4, hk4, hf4⟩
        have HS4 := Lib.hid hs4
        have HM4 := Lib.hid hm4
        have HK4 := Lib.hid hk4
        have HF4 := Lib.hid hf4
        clear hs4 hm4 hk4 hf4
        go_wp2_with fail
        go_roundg (n - (t + 1))
        case measure => have := HGK.out; omega
        case rel =>
          refine ⟨t + 1, v4, l4, by go_num, by omega, by omega, HS4.out, ?_, ?_, ?_⟩
          · intro m
            rw [HM4.out m, HM.out m, inL_succ HX.out]
          · refine HB2.out.trans ((HK4.out.below (B := w.heap.size) HB2.out.size ?_))
            intro i hi e
            rcases e with e | e
            · omega
            · have := HV.out i e; omega
          · intro j e
            rcases HF4.out with h | h
            · exact HV.out j (by rw [← h]; exact e)
            · exact Nat.le_trans HB2.out.size (h j e)
      · have HB2 := Lib.hid hb2
        have HS2 := Lib.hid hs2
        clear hb2 hs2 q0 q1
        go_wp2_with fail
        go_roundg (n - (t + 1))
        case measure => have := HGK.out; omega
        case rel =>
          refine ⟨t + 1, v, u, by go_num, by omega, by omega, HS2.out, ?_, HB2.out, HV.out⟩
          intro m
          rw [HM.out m, inL_succ HX.out]
          constructor
          · exact .inl
          · rintro (h | h)
            · exact h
            · simp only at h; omega
    · obtain rfl : t = n := by omega
      have hpp : POST (.returned (.pointer (some ⟨w.heap.size, 0, none⟩))) wr := by
        rw [HPOST.out]
        exact ⟨_, v, u, rfl, HS.out, fun m => by rw [HM.out m, List.take_of_length_le (by rw [HP.out.len]; exact Nat.le_refl _)], HBEL.out, Nat.le_refl _, HV.out⟩
      have HPP := Lib.hid hpp
      clear hpp
      go_wp2_with fail
      exact HPP.out
end Go.Proofs.Ytjklcecakdmbaaa
