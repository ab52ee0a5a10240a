/-
  Contracts of package ranges: Add.
-/
import Derived.Test.YtjklcecakdmbaaaLay
import Derived.Deep.QuietTactic
import Derived.BigQuiet
namespace Go.Proofs.Ytjklcecakdmbaaa
open Go.RowKit

/-- What Add and Cut leave: a set of such numbers, in the same block. -/
def SetPost (w : World) (b : Nat) (v : Value) (P : Int → Prop) (e : Ending) (w' : World) : Prop :=
  ∃ (r : Int) (v' : Value) (l' : List (Int × Int)), e = .returned (.tuple #[.int .i64 r, .int .i64 0]) ∧ IsSet w' b v' l' ∧ (∀ n, inS l' n ↔ P n) ∧ Keeps (fun k => k = b ∨ v.ownBlock = some k) w w' ∧ (v'.ownBlock = v.ownBlock ∨ ∀ k, v'.ownBlock = some k → w.heap.size ≤ k)

theorem one_row (w : World) (a b : Int) : (w.alloc (.cells #[.int .i64 a, .int .i64 b] 58)).ownsRow 0 58 2 (.slice (some ⟨w.heap.size, 0, none⟩) 1 1) [(a, b)].length (flat [(a, b)]) :=
  World.ownsRow_lit (base := 0) (e := 58) (size := 2) w #[.int .i64 a, .int .i64 b] 1 (Nat.zero_le _) (by decide) (by rfl)

theorem Taken.cast {l : List (Int × Int)} {a b a1 b1 a2 b2 : Int} {i t : Nat} (h : Taken l a b i t a1 b1) (ha : a1 = a2) (hb : b1 = b2) : Taken l a b i t a2 b2 := by subst ha; subst hb; exact h

theorem add_end {w wr w' : World} {b i t : Nat} {v : Value} {l : List (Int × Int)} {a bb a' b' : Int} (hbel : Below w.heap.size w wr) (ht : Taken l a bb i t a' b') {e : Ending}
    (h : LayPost (wr.alloc (.cells #[.int .i64 a', .int .i64 b'] 58)) b v (l.take i ++ [(a', b')] ++ l.drop t) e w') : ∃ r : Int, e = .returned (.int .i64 r) ∧ SetPost w b v (fun n => inS l n ∨ (a ≤ n ∧ n < bb)) (.returned (.tuple #[.int .i64 r, .int .i64 0])) w' := by
  obtain ⟨r, v', rfl, hs', hk, hf⟩ := h
  refine ⟨r, rfl, r, v', _, rfl, hs', ht.inS, ?_, ?_⟩
  · exact (Keeps.of_below (S := fun _ => False) (hbel.alloc hbel.size _)).trans hk (fun _ _ e => e.elim) (fun _ _ e => e)
  · rcases hf with h | h
    · exact .inl h
    · exact .inr fun k hk => by have := h k hk; have := hbel.size; simp at *; omega

set_option maxHeartbeats 800000 in
set_option maxRecDepth 100000 in
theorem add_some (b g cap : Nat) (l : List (Int × Int)) (a bb : Int) (w : World) (hs : IsSet w b (.slice (some ⟨g, 0, none⟩) l.length cap) l) (h0 : 0 ≤ a) (hab : a < bb) (h1 : bb ≤ 16384) :
    Calls Try.prog 47 #[.pointer (some ⟨b, 0, none⟩), .int .i64 a, .int .i64 bb] w (SetPost w b (.slice (some ⟨g, 0, none⟩) l.length cap) (fun n => inS l n ∨ (a ≤ n ∧ n < bb))) := by
  have hlt := lt_blk hs.blk
  have hlen := hs.wf.len
  obtain ⟨len, hl⟩ : ∃ len, len = l.length := ⟨_, rfl⟩
  rw [← hl] at hlen
  obtain ⟨V, hV⟩ : ∃ V, V = Value.slice (some ⟨g, 0, none⟩) len cap := ⟨_, rfl⟩
  rw [← hl, ← hV] at hs ⊢
  have hg : g < w.heap.size := (hs.own.lt g (by rw [hV]; rfl)).2
  have hcap : len ≤ cap := by
    have := hs.own
    rw [hV, ← hl] at this
    obtain ⟨_, _, _, _, h, _⟩ := ownsRow_open this
    exact h
  have hcells : CellsP w g l := by
    have := hs.own
    rw [hV, ← hl] at this
    exact cells_of_own this
  have c0 : w.cell? ⟨b, 0, none⟩ = some (.slice (some ⟨g, 0, none⟩) len cap) := by rw [cell_blk hs.blk, hV]; rfl
  have hne : (a == bb) = false := by simp; omega
  have hdec : decide (0 ≤ a ∧ bb ≤ 16384 ∧ a ≤ bb) = true := by simp; omega
  have HR := Lib.hid (right_any a bb)
  have HF := Lib.hid (from_any b V l a w hs h0 (by omega))
  obtain ⟨POST, hPOST⟩ : ∃ POST, POST = SetPost w b V (fun n => inS l n ∨ (a ≤ n ∧ n < bb)) := ⟨_, rfl⟩
  rw [← hPOST]
  have HPOST := Lib.hid hPOST
  have HS := Lib.hid hs
  have HV := Lib.hid hV
  have HL := Lib.hid hl
  have HC := Lib.hid hcells
  have HD := Lib.hid hdec
  clear hs hV hl hcells hPOST hdec
  go_enter Try.func47, Try.ntmps47
  go_wp2_with fail
  refine (HR.out w).mono ?_
  rintro e w0 ⟨rfl, rfl⟩
  rw [HD.out]
  go_wp2_with fail
  refine HF.out.mono ?_
  rintro e w1 ⟨i, rfl, hr, hbel⟩
  have HBR := Lib.hid hr
  have hi : i ≤ len := by rw [HL.out]; exact hr.2.1
  clear hr c0
  go_wp2_with fail
  go_loopg [1, 2, 9] (len - i) (fun gk x y z wr => ∃ (t : Nat) (a' b' : Int), x = .int .i64 a' ∧ y = .int .i64 b' ∧ z = .int .i64 t ∧ gk + t = len ∧ t ≤ len ∧ Taken l a bb i t a' b' ∧ Below w.heap.size w wr)
  case atStart => exact ⟨i, a, bb, rfl, rfl, rfl, by omega, hi, Taken.start HBR.out h0 h1, hbel⟩
  case round =>
    obtain ⟨t, a', b', rfl, rfl, rfl, hgk, ht, htk, hbel2⟩ := hrel
    have HGK := Lib.hid hgk
    clear hgk
    have hlo := htk.lo
    have hhi := htk.hi
    obtain ⟨hlo1, hlo2⟩ := hlo
    obtain ⟨hhi1, hhi2⟩ := hhi
    have d0 : wr.cell? ⟨b, 0, none⟩ = some (.slice (some ⟨g, 0, none⟩) len cap) := (hbel2.cell (p := ⟨b, 0, none⟩) hlt).trans (by rw [cell_blk HS.out.blk, HV.out]; rfl)
    by_cases hlt1 : t < len
    · obtain ⟨⟨x, y⟩, hx⟩ : ∃ x, l[t]? = some x := ⟨_, List.getElem?_eq_getElem (by have := HL.out; omega)⟩
      have k0 : wr.cell? ⟨g, t * 2, none⟩ = some (.int .i64 x) := (hbel2.cell (p := ⟨g, _, none⟩) hg).trans (HC.out _ _ hx).1
      have k1 : wr.cell? ⟨g, t * 2 + 1, none⟩ = some (.int .i64 y) := (hbel2.cell (p := ⟨g, _, none⟩) hg).trans (HC.out _ _ hx).2
      by_cases hle : x ≤ b'
      · go_wp2_with fail
        have hb16 := HS.out.wf.at hx
        have HX := Lib.hid hx
        have HB16 := Lib.hid hb16
        clear hx hb16
        go_quiet (fail)
        go_wp2_with fail
        all_goals
          have hxx := HX.out
          have hlo := htk.next (x := (x, y)) HS.out.wf HBR.out hxx hle
          go_roundg (len - (t + 1))
          case measure => have := HGK.out; omega
          case rel => exact ⟨t + 1, _, _, rfl, rfl, by go_num, by omega, by omega, hlo.cast (by simp only; omega) (by simp only; omega), ⟨hbel2.os, hbel2.tape, hbel2.output, hbel2.size, hbel2.block⟩⟩
      · have hend : ∀ z, l[t]? = some z → b' < z.1 := by intro z hz; rw [hx] at hz; cases hz; simp; omega
        have HLAY := Lib.hid (lay_any b i t V (.slice (some ⟨wr.heap.size, 0, none⟩) 1 1) l [(a', b')] (wr.alloc (.cells #[.int .i64 a', .int .i64 b'] 58)) (HS.out.below (hbel2.alloc hbel2.size _)) htk.it htk.tl (one_row wr a' b') (by simp) (fun k hk e => by cases e; have h3 : wr.heap.size < w.heap.size := HS.out.lt.2 _ hk; have := hbel2.size; omega) (htk.wf HS.out.wf hab hend))
        have HEND := Lib.hid (fun e w' => add_end (b := b) (v := V) (e := e) (w' := w') hbel2 htk)
        clear hend htk
        go_wp2_with fail
        refine HLAY.out.mono ?_
        rintro e w' hpost
        obtain ⟨r, rfl, hp⟩ := HEND.out _ _ hpost
        rw [← HPOST.out] at hp
        have HP := Lib.hid hp
        clear hp hpost
        go_wp2_with fail
        exact HP.out
    · have hend : ∀ z, l[t]? = some z → b' < z.1 := by intro z hz; rw [List.getElem?_eq_none (by rw [← HL.out]; omega)] at hz; cases hz
      have HLAY := Lib.hid (lay_any b i t V (.slice (some ⟨wr.heap.size, 0, none⟩) 1 1) l [(a', b')] (wr.alloc (.cells #[.int .i64 a', .int .i64 b'] 58)) (HS.out.below (hbel2.alloc hbel2.size _)) htk.it htk.tl (one_row wr a' b') (by simp) (fun k hk e => by cases e; have h3 : wr.heap.size < w.heap.size := HS.out.lt.2 _ hk; have := hbel2.size; omega) (htk.wf HS.out.wf hab hend))
      have HEND := Lib.hid (fun e w' => add_end (b := b) (v := V) (e := e) (w' := w') hbel2 htk)
      clear hend htk
      go_wp2_with fail
      refine HLAY.out.mono ?_
      rintro e w' hpost
      obtain ⟨r, rfl, hp⟩ := HEND.out _ _ hpost
      rw [← HPOST.out] at hp
      have HP := Lib.hid hp
      clear hp hpost
      go_wp2_with fail
      exact HP.out

set_option maxHeartbeats 800000 in
set_option maxRecDepth 100000 in
theorem add_nil (b : Nat) (a bb : Int) (w : World) (hs : IsSet w b (.slice none 0 0) []) (h0 : 0 ≤ a) (hab : a < bb) (h1 : bb ≤ 16384) :
    Calls Try.prog 47 #[.pointer (some ⟨b, 0, none⟩), .int .i64 a, .int .i64 bb] w (SetPost w b (.slice none 0 0) (fun n => inS [] n ∨ (a ≤ n ∧ n < bb))) := by
  have hlt := lt_blk hs.blk
  obtain ⟨V, hV⟩ : ∃ V, V = Value.slice none 0 0 := ⟨_, rfl⟩
  rw [← hV] at hs ⊢
  have c0 : w.cell? ⟨b, 0, none⟩ = some (.slice none 0 0) := by rw [cell_blk hs.blk, hV]; rfl
  have hne : (a == bb) = false := by simp; omega
  have hdec : decide (0 ≤ a ∧ bb ≤ 16384 ∧ a ≤ bb) = true := by simp; omega
  have HR := Lib.hid (right_any a bb)
  have HF := Lib.hid (from_any b V [] a w hs h0 (by omega))
  obtain ⟨POST, hPOST⟩ : ∃ POST, POST = SetPost w b V (fun n => inS [] n ∨ (a ≤ n ∧ n < bb)) := ⟨_, rfl⟩
  rw [← hPOST]
  have HPOST := Lib.hid hPOST
  have HS := Lib.hid hs
  have HV := Lib.hid hV
  have HD := Lib.hid hdec
  clear hs hV hPOST hdec
  go_enter Try.func47, Try.ntmps47
  go_wp2_with fail
  refine (HR.out w).mono ?_
  rintro e w0 ⟨rfl, rfl⟩
  rw [HD.out]
  go_wp2_with fail
  refine HF.out.mono ?_
  rintro e wr ⟨i, rfl, hr, hbel2⟩
  obtain rfl : i = 0 := by have := hr.2.1; simp at this; exact this
  have htk := Taken.start hr h0 h1
  have d0 : wr.cell? ⟨b, 0, none⟩ = some (.slice none 0 0) := (hbel2.cell (p := ⟨b, 0, none⟩) hlt).trans c0
  have HLAY := Lib.hid (lay_any b 0 0 V (.slice (some ⟨wr.heap.size, 0, none⟩) 1 1) [] [(a, bb)] (wr.alloc (.cells #[.int .i64 a, .int .i64 bb] 58)) (HS.out.below (hbel2.alloc hbel2.size _)) htk.it htk.tl (one_row wr a bb) (by simp) (fun k hk e => by cases e; have h3 : wr.heap.size < w.heap.size := HS.out.lt.2 _ hk; have := hbel2.size; omega) (htk.wf HS.out.wf hab (by simp)))
  have HEND := Lib.hid (fun e w' => add_end (b := b) (v := V) (e := e) (w' := w') hbel2 htk)
  clear hr c0 htk
  go_wp2_with fail
  refine wp_loop_rounds 1 ?_
  rw [rounds_succ]
  go_wp2_with fail
  refine HLAY.out.mono ?_
  rintro e w' hpost
  obtain ⟨r, rfl, hp⟩ := HEND.out _ _ hpost
  rw [← HPOST.out] at hp
  have HP := Lib.hid hp
  clear hp hpost
  go_wp2_with fail
  exact HP.out

theorem add_any (b : Nat) (v : Value) (l : List (Int × Int)) (a bb : Int) (w : World) (hs : IsSet w b v l) (h0 : 0 ≤ a) (hab : a < bb) (h1 : bb ≤ 16384) :
    Calls Try.prog 47 #[.pointer (some ⟨b, 0, none⟩), .int .i64 a, .int .i64 bb] w (SetPost w b v (fun n => inS l n ∨ (a ≤ n ∧ n < bb))) := by
  rcases ownsRow_formN hs.own with ⟨rfl, h2, _⟩ | ⟨g, cap, rfl, _, _, _⟩
  · obtain rfl : l = [] := List.eq_nil_of_length_eq_zero h2
    exact add_nil b a bb w hs h0 hab h1
  · exact add_some b g cap l a bb w hs h0 hab h1
end Go.Proofs.Ytjklcecakdmbaaa
