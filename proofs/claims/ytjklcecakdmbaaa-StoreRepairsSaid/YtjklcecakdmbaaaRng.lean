/-
  Contracts of package ranges: right, from, Has, New, Stretches.
-/
import Derived.Test.YtjklcecakdmbaaaRep2
import Derived.Test.YtjklcecakdmbaaaSet
namespace Go.Proofs.Ytjklcecakdmbaaa
open Go.RowKit

/-- A set lies in memory: its two fields, and its row of stretches. -/
structure IsSet (w : World) (b : Nat) (v : Value) (l : List (Int × Int)) : Prop where
  blk : w.heap[b]? = some (.cells #[v, .int .i64 (total l)] 131 (0, 0))
  own : w.ownsRow 0 58 2 v l.length (flat l)
  wf : Wf l
theorem IsSet.ne {w : World} {b : Nat} {v : Value} {l : List (Int × Int)} (h : IsSet w b v l) : v.ownBlock ≠ some b := by
  intro e
  rcases h.own.2 with ⟨rfl, _⟩ | ⟨g, cap, cur, rfl, _, hg, _⟩
  · cases e
  · cases e
    rw [h.blk] at hg
    simp at hg
theorem IsSet.lt {w : World} {b : Nat} {v : Value} {l : List (Int × Int)} (h : IsSet w b v l) : b < w.heap.size ∧ ∀ k, v.ownBlock = some k → k < w.heap.size := ⟨lt_blk h.blk, fun k hk => (h.own.lt k hk).2⟩
theorem IsSet.keeps {S : Nat → Prop} {w w' : World} {b : Nat} {v : Value} {l : List (Int × Int)} (h : IsSet w b v l) (hk : Keeps S w w') (hb : ¬ S b) (hv : ∀ k, v.ownBlock = some k → ¬ S k) : IsSet w' b v l :=
  ⟨(hk.block b (lt_blk h.blk) hb).trans h.blk, ownsRow_keeps h.own hk hv, h.wf⟩
theorem IsSet.below {w w' : World} {b : Nat} {v : Value} {l : List (Int × Int)} (h : IsSet w b v l) (hk : Below w.heap.size w w') : IsSet w' b v l :=
  h.keeps (S := fun _ => False) (Keeps.of_below hk) (fun e => e) (fun _ _ e => e)

def CellsP (w : World) (g : Nat) (l : List (Int × Int)) : Prop := ∀ (k : Nat) x, l[k]? = some x → w.cell? ⟨g, k * 2, none⟩ = some (.int .i64 x.1) ∧ w.cell? ⟨g, k * 2 + 1, none⟩ = some (.int .i64 x.2)
theorem cells_of_own {w : World} {g n cap : Nat} {l : List (Int × Int)} (h : w.ownsRow 0 58 2 (.slice (some ⟨g, 0, none⟩) n cap) n (flat l)) : CellsP w g l := by
  obtain ⟨tail, hg, _, hl, _, _⟩ := ownsRow_open h
  intro k x hx
  have h0 := flat_get0 hx
  have h1 := flat_get1 hx
  have l0 := (List.getElem?_eq_some_iff.1 h0).1
  have l1 := (List.getElem?_eq_some_iff.1 h1).1
  rw [cell_blk hg, cell_blk hg, List.getElem?_toArray, List.getElem?_toArray, List.getElem?_append_left l0, List.getElem?_append_left l1]
  exact ⟨h0, h1⟩

theorem ownsRow_formN {w : World} {v : Value} {e : TypeId} {size n : Nat} {xs : List Value} (h : w.ownsRow 0 e size v n xs) : (v = .slice none 0 0 ∧ n = 0 ∧ xs = []) ∨ ∃ g cap, v = .slice (some ⟨g, 0, none⟩) n cap ∧ g < w.heap.size ∧ n ≤ cap ∧ cap ≤ 9223372036854775807 := by
  rcases h.2 with ⟨h1, h2⟩ | ⟨g, cap, _, h1, _, hg, hn, hc, _⟩
  · subst h2
    exact .inl ⟨h1, rfl, List.eq_nil_of_length_eq_zero (by simpa using h.1)⟩
  · exact .inr ⟨g, cap, h1, lt_blk hg, hn, by simpa [maxLen] using hc⟩

theorem right_any (a b : Int) (w : World) :
    Calls Try.prog 75 #[.int .i64 a, .int .i64 b] w fun e w' => e = .returned (.bool (decide (0 ≤ a ∧ b ≤ 16384 ∧ a ≤ b))) ∧ w = w' := by
  by_cases h1 : 0 ≤ a
  · by_cases h2 : b ≤ 16384
    · by_cases h3 : a ≤ b
      · go_enter Try.func75, Try.ntmps75
        go_wp2
        go_ret
        exact ⟨by simp [h1, h2, h3], rfl⟩
      · go_enter Try.func75, Try.ntmps75
        go_wp2
        go_ret
        exact ⟨by simp [h3], rfl⟩
    · go_enter Try.func75, Try.ntmps75
      go_wp2
      go_ret
      exact ⟨by simp; omega, rfl⟩
  · go_enter Try.func75, Try.ntmps75
    go_wp2
    go_ret
    exact ⟨by simp; omega, rfl⟩

theorem cmp_any (x y n : Int) (w : World) (hy : 0 ≤ y) (hy' : y ≤ 16384) (hn : 0 ≤ n) (hn' : n ≤ 16385):
    Calls Try.prog 86 #[.agg #[.int .i64 x, .int .i64 y], .int .i64 n] w fun e w' => e = .returned (.int .i64 (y - n)) ∧ Below w.heap.size w w' := by
  go_enter Try.func86, Try.ntmps86
  go_wp2
  go_ret
  exact ⟨rfl, (Below.refl _ _).alloc (Nat.le_refl _) _⟩

def BPost (l : List (Int × Int)) (n : Int) (w : World) (e : Ending) (w' : World) : Prop := ∃ (i : Nat) (b : Bool), e = .returned (.tuple #[.int .i64 i, .bool b]) ∧ BRel l n i i ∧ Below w.heap.size w w'

set_option maxHeartbeats 400000 in
theorem bsf_any (g len cap : Nat) (l : List (Int × Int)) (n : Int) (w : World) (hl : len = l.length) (hlen : len ≤ 16384)
   (hw : Wf l) (hn : 0 ≤ n) (hn' : n ≤ 16385) (hg : g < w.heap.size) (hc : CellsP w g l) :
    Calls Try.prog 85 #[.slice (some ⟨g, 0, none⟩) len cap, .int .i64 n, .func (.func 86) #[] #[]] w (BPost l n w) := by
  have HL := Lib.hid hl
  clear hl
  go_enter Try.func85, Try.ntmps85
  go_wp2_with fail
  go_loopw [9, 10] (fun i j wr => ∃ a b : Nat, i = .int .i64 a ∧ j = .int .i64 b ∧ a ≤ b ∧ b ≤ len ∧ BRel l n a b ∧ Below w.heap.size w wr) (fun i j _ => (intOf j).toNat - (intOf i).toNat)
  case atStart => exact ⟨0, len, rfl, rfl, Nat.zero_le _, Nat.le_refl _, ⟨Nat.zero_le _, by rw [HL.out]; exact Nat.le_refl _, by intro k x hk; omega, by intro k x hk h; rw [HL.out] at hk; rw [List.getElem?_eq_none hk] at h; cases h⟩, Below.refl _ _⟩
  case round =>
    obtain ⟨a, b, rfl, rfl, hab, hb, hrel, hbel⟩ := hrel
    by_cases hlt : a < b
    · obtain ⟨⟨x, y⟩, hx⟩ : ∃ x, l[(a + b) / 2]? = some x := by
        have : (a + b) / 2 < l.length := by have := HL.out; omega
        exact ⟨_, List.getElem?_eq_getElem this⟩
      have k0 : wr.cell? ⟨g, (a + b) / 2 * 2, none⟩ = some (.int .i64 x) := (hbel.cell (p := ⟨g, _, none⟩) hg).trans (hc _ _ hx).1
      have k1 : wr.cell? ⟨g, (a + b) / 2 * 2 + 1, none⟩ = some (.int .i64 y) := (hbel.cell (p := ⟨g, _, none⟩) hg).trans (hc _ _ hx).2
      have hb16 := hw.at hx
      have hy0 : 0 ≤ y := by have := hb16.1; have := hb16.2.1; simp at *; omega
      have hy1 : y ≤ 16384 := hb16.2.2
      have HX := Lib.hid hx
      clear hx hb16
      go_wp2_with fail
      refine (cmp_any _ _ _ _ hy0 hy1 hn hn').mono ?_
      rintro e w' ⟨rfl, hb2⟩
      by_cases hyn : y < n
      · have ht : decide (y - n < 0) = true := by simp; omega
        go_wp2_with fail
        go_roundw
        case rel => exact ⟨(a + b) / 2 + 1, b, by go_num, rfl, by omega, by omega, brel_up hw.mono2 hrel hlt HX.out hyn, hbel.trans (hb2.mono hbel.size)⟩
        case measure => simp [intOf]; omega
      · have ht : decide (y - n < 0) = false := by simp; omega
        go_wp2_with fail
        go_roundw
        case rel => exact ⟨a, (a + b) / 2, rfl, rfl, by omega, by omega, brel_down hw.mono2 hrel hlt HX.out (by omega), hbel.trans (hb2.mono hbel.size)⟩
        case measure => simp [intOf]; omega
    · obtain rfl : a = b := by omega
      by_cases hal : a < len
      · obtain ⟨⟨x, y⟩, hx⟩ : ∃ x, l[a]? = some x := by
          have : a < l.length := by have := HL.out; omega
          exact ⟨_, List.getElem?_eq_getElem this⟩
        have k0 : wr.cell? ⟨g, a * 2, none⟩ = some (.int .i64 x) := (hbel.cell (p := ⟨g, _, none⟩) hg).trans (hc _ _ hx).1
        have k1 : wr.cell? ⟨g, a * 2 + 1, none⟩ = some (.int .i64 y) := (hbel.cell (p := ⟨g, _, none⟩) hg).trans (hc _ _ hx).2
        have hb16 := hw.at hx
        have hy0 : 0 ≤ y := by have := hb16.1; have := hb16.2.1; simp at *; omega
        have hy1 : y ≤ 16384 := hb16.2.2
        clear hx hb16
        go_wp2_with fail
        refine (cmp_any _ _ _ _ hy0 hy1 hn hn').mono ?_
        rintro e w' ⟨rfl, hb2⟩
        go_wp2_with fail
        go_ret2
        exact ⟨a, _, rfl, hrel, hbel.trans (hb2.mono hbel.size)⟩
      · go_wp2_with fail
        go_ret2
        exact ⟨a, _, rfl, hrel, hbel⟩

theorem bsf_nil (n : Int) (w : World) : Calls Try.prog 85 #[.slice none 0 0, .int .i64 n, .func (.func 86) #[] #[]] w (BPost [] n w) := by
  go_enter Try.func85, Try.ntmps85
  go_wp2_with fail
  refine wp_loop_rounds 1 ?_
  rw [rounds_succ]
  go_wp2_with fail
  go_ret2
  exact ⟨0, _, rfl, ⟨Nat.le_refl _, Nat.le_refl _, by intros; omega, by intro k x _ h; simp at h⟩, Below.refl _ _⟩

theorem bsf_own (v : Value) (l : List (Int × Int)) (n : Int) (w : World) (hw : Wf l) (hn : 0 ≤ n) (hn' : n ≤ 16385) (ho : w.ownsRow 0 58 2 v l.length (flat l)) :
    Calls Try.prog 85 #[v, .int .i64 n, .func (.func 86) #[] #[]] w (BPost l n w) := by
  rcases ownsRow_formN ho with ⟨rfl, h0, _⟩ | ⟨g, cap, rfl, hg, hcap, _⟩
  · obtain rfl : l = [] := List.eq_nil_of_length_eq_zero h0
    exact bsf_nil n w
  · exact bsf_any g l.length cap l n w rfl hw.len hw hn hn' hg (cells_of_own ho)

def FPost (l : List (Int × Int)) (n : Int) (w : World) (e : Ending) (w' : World) : Prop := ∃ i : Nat, e = .returned (.int .i64 i) ∧ BRel l n i i ∧ Below w.heap.size w w'
theorem from_any (b : Nat) (v : Value) (l : List (Int × Int)) (n : Int) (w : World) (hs : IsSet w b v l) (hn : 0 ≤ n) (hn' : n ≤ 16385) :
    Calls Try.prog 74 #[.pointer (some ⟨b, 0, none⟩), .int .i64 n] w (FPost l n w) := by
  have c0 : w.cell? ⟨b, 0, none⟩ = some v := by rw [cell_blk hs.blk]; rfl
  go_enter Try.func74, Try.ntmps74
  go_wp2_with fail
  refine (bsf_own v l n w hs.wf hn hn' hs.own).mono ?_
  rintro e w' ⟨i, bb, rfl, hr, hb⟩
  go_wp2_with fail
  go_ret
  exact ⟨i, rfl, hr, hb⟩

theorem new_any (w : World) : Calls Try.prog 38 #[] w fun e w' => e = .returned (.pointer (some ⟨w.heap.size, 0, none⟩)) ∧ w.alloc (.cells #[.slice none 0 0, .int .i64 0] 131) = w' := by
  go_enter Try.func38, Try.ntmps38
  go_wp2
  go_ret
  exact ⟨rfl, rfl⟩
theorem IsSet.new (w : World) : IsSet (w.alloc (.cells #[.slice none 0 0, .int .i64 0] 131)) w.heap.size (.slice none 0 0) [] :=
  ⟨heap_alloc_new w _, World.ownsRow_nil _ _ _ _, Wf.nil⟩
end Go.Proofs.Ytjklcecakdmbaaa
