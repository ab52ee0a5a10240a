/-
  Contracts of package build: New.
-/
import Derived.Test.YtjklcecakdmbaaaB4
import Derived.Deep.RegionWith
import Derived.Deep.OwnRows
namespace Go.Proofs.Ytjklcecakdmbaaa
open Go.RowKit

def BS.init (S B L : Nat) : BS := ⟨S, B, L, [], List.replicate S 0, [], false⟩
def NewPost (w : World) (S B L : Nat) (e : Ending) (w' : World) : Prop :=
  ∃ β : BI, e = .returned (.tuple #[.pointer (some ⟨β.b, 0, none⟩), .int .i64 0]) ∧ BuildAt w' β (BS.init S B L) ∧ Below w.heap.size w w' ∧ (∀ k, β.foot k → w.heap.size ≤ k)

theorem new_no (s b l : Int) (w : World) (h : ¬ rightPlan s b l) :
    Calls Try.prog 17 #[.int .i64 s, .int .i64 b, .int .i64 l] w fun e w' => e = .returned (.tuple #[.pointer none, .int .i64 11]) ∧ w = w' := by
  have HN := Lib.hid (stripeNew_no s b l w h)
  clear h
  go_enter Try.func17, Try.ntmps17
  go_wp2_with fail
  refine HN.out.mono ?_
  rintro e w' ⟨rfl, rfl⟩
  go_wp2_with fail
  go_ret2
  exact ⟨rfl, rfl⟩

section
variable (w : World) (b c d : Obj)
theorem alloc3_o (k : Nat) (h : k < w.heap.size) : (((w.alloc b).alloc c).alloc d).drew.heap[k]? = w.heap[k]? := by
  refine (heap_alloc_old (w := (w.alloc b).alloc c) (h := by simp; omega) ..).trans ((heap_alloc_old (w := w.alloc b) (h := by simp; omega) ..).trans (heap_alloc_old (h := h) ..))
theorem alloc3_1 : (((w.alloc b).alloc c).alloc d).drew.heap[w.heap.size]? = some b := by
  refine (heap_alloc_old (w := (w.alloc b).alloc c) (h := by simp; omega) ..).trans ((heap_alloc_old (w := w.alloc b) (h := by simp) ..).trans (heap_alloc_new w b))
theorem alloc3_2 : (((w.alloc b).alloc c).alloc d).drew.heap[w.heap.size + 1]? = some c := by
  refine (heap_alloc_old (w := (w.alloc b).alloc c) (h := by simp) ..).trans ?_
  have := heap_alloc_new (w.alloc b) c
  rwa [show (w.alloc b).heap.size = w.heap.size + 1 by simp] at this
theorem alloc3_3 : (((w.alloc b).alloc c).alloc d).drew.heap[w.heap.size + 2]? = some d := by
  have := heap_alloc_new ((w.alloc b).alloc c) d
  rwa [show ((w.alloc b).alloc c).heap.size = w.heap.size + 2 by simp] at this
theorem alloc3_b {w0 : World} (h : Below w0.heap.size w0 w) : Below w0.heap.size w0 (((w.alloc b).alloc c).alloc d).drew :=
  (((h.alloc h.size b).alloc (by have := h.size; simp; omega) c).alloc (by have := h.size; simp; omega) d).drew
end
theorem madeCells_u8 (S : Nat) : (madeCells #[Value.int .u8 0] S) = ((List.replicate S (0 : Int)).map (Value.int .u8)).toArray := by
  apply Array.ext'
  rw [toList_madeCells_one]
  simp
theorem new_end {w W : World} {S B L p h t b : Nat} (hr : rightPlan S B L) (h1 : W.heap[p]? = some (.cells #[.int .i64 S, .int .i64 B, .int .i64 L] 110 (0, 0))) (h2 : W.heap[h]? = some (.cells #[.slice none 0 0, .int .i64 0] 131 (0, 0)))
    (h3 : W.heap[t]? = some (.cells (madeCells #[Value.int .u8 0] S) 5 (0, 0))) (h4 : W.heap[b]? = some (.cells #[.pointer (some ⟨p, 0, none⟩), .pointer (some ⟨h, 0, none⟩), .slice (some ⟨t, 0, none⟩) S S, .slice none 0 0, .bool false] 105 (0, 0)))
    (h5 : Below w.heap.size w W) (h6 : w.heap.size ≤ h ∧ w.heap.size ≤ t ∧ w.heap.size ≤ b) : NewPost w S B L (.returned (.tuple #[.pointer (some ⟨b, 0, none⟩), .int .i64 0])) W := by
  obtain ⟨r1, r2, r3, r4, r5, r6⟩ := hr
  refine ⟨⟨b, p, h, .slice none 0 0, .slice (some ⟨t, 0, none⟩) S S, .slice none 0 0⟩, rfl, ⟨h4, ⟨h1, by show S ≤ 16384; omega, by show 1 ≤ B ∧ B ≤ 64; omega, by show 1 ≤ L ∧ L ≤ 8; omega⟩, ⟨h2, World.ownsRow_nil _ _ _ _, Wf.nil⟩, ?_, World.ownsRow_nil _ _ _ _⟩, h5, ?_⟩
  · have h3' : W.heap[t]? = some (.cells ((List.replicate S (0 : Int)).map (Value.int .u8) ++ []).toArray 5 (0, 0)) := by rw [h3, madeCells_u8]; simp
    exact ownsRow_shut (size := 1) (cap := S) h3' (by simp [BS.init]) (by simp [BS.init]) (Nat.le_refl _) (by simp only [maxLen]; omega)
  · rintro k (e | e | e | e | e)
    · rw [e]; exact h6.2.2
    · rw [e]; exact h6.1
    · cases e
    · cases e; exact h6.2.1
    · cases e

set_option maxHeartbeats 800000 in
set_option maxRecDepth 100000 in
theorem new_yes (S B L : Nat) (w : World) (h : rightPlan S B L) :
    Calls Try.prog 17 #[.int .i64 S, .int .i64 B, .int .i64 L] w (NewPost w S B L) := by
  have HN := Lib.hid (stripeNew_yes S B L w h)
  have hS : S ≤ 16384 := by have := h.2.1; omega
  have hmk := run_make_row' (P := Try.prog) 32 5 (.int .u8 0) 1 Try.underlying32 Try.info5 rfl .i64 .i64 S (by omega) (by omega)
  have H := Lib.hid h
  obtain ⟨POST, hPOST⟩ : ∃ POST, POST = NewPost w S B L := ⟨_, rfl⟩
  rw [← hPOST]
  have HPOST := Lib.hid hPOST
  clear h hPOST
  go_enter Try.func17, Try.ntmps17
  go_wp2_with fail
  refine HN.out.mono ?_
  rintro e w1 ⟨rfl, hw1⟩
  have HW1 := Lib.hid hw1
  clear hw1
  go_wp2_with fail
  go_region_with (go_at_call 38; refine (new_any _).mono ?_; rintro e w2 ⟨rfl, rfl⟩)
  · go_wp2_with fail
    go_ret2
    rw [HPOST.out]
    have hz : w1.heap.size = w.heap.size + 1 := by rw [← HW1.out]; simp
    have hb1 : Below w.heap.size w w1 := by rw [← HW1.out]; exact (Below.refl _ w).alloc (Nat.le_refl _) _
    refine new_end (w := w) (p := w.heap.size) (h := w1.heap.size) (t := w1.heap.size + 1) (b := w1.heap.size + 2) H.out ?_ ?_ ?_ ?_ ?_ (by omega)
    · exact (alloc3_o w1 _ _ _ _ (by omega)).trans (by rw [← HW1.out]; exact heap_alloc_new w _)
    · exact alloc3_1 w1 _ _ _
    · exact alloc3_2 w1 _ _ _
    · exact alloc3_3 w1 _ _ _
    · exact alloc3_b w1 _ _ _ hb1
  · go_wp2_with fail
    go_ret2
    rw [HPOST.out]
    have hz : w1.heap.size = w.heap.size + 1 := by rw [← HW1.out]; simp
    have hb1 : Below w.heap.size w w1 := by rw [← HW1.out]; exact (Below.refl _ w).alloc (Nat.le_refl _) _
    refine new_end (w := w) (p := w.heap.size) (h := w1.heap.size + 1) (t := w1.heap.size) (b := w1.heap.size + 2) H.out ?_ ?_ ?_ ?_ ?_ (by omega)
    · exact (alloc3_o w1 _ _ _ _ (by omega)).trans (by rw [← HW1.out]; exact heap_alloc_new w _)
    · exact alloc3_2 w1 _ _ _
    · exact alloc3_1 w1 _ _ _
    · exact alloc3_3 w1 _ _ _
    · exact alloc3_b w1 _ _ _ hb1
end Go.Proofs.Ytjklcecakdmbaaa
