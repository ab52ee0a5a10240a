/-
  Package store: New; the oldest one struck off its list.
-/
import Derived.Test.YtjklcecakdmbaaaT4
import Derived.Test.YtjklcecakdmbaaaSh
namespace Go.Proofs.Ytjklcecakdmbaaa
open Go.RowKit

theorem setCells_heap {b : Nat} {t : TypeId} : ∀ (vs pre old tail : List Value) (w : World), old.length = vs.length → w.heap[b]? = some (.cells (pre ++ old ++ tail).toArray t (0, 0)) → (w.setCells b pre.length vs).heap[b]? = some (.cells (pre ++ vs ++ tail).toArray t (0, 0))
  | [], pre, old, tail, w, hl, hg => by
    obtain rfl : old = [] := List.eq_nil_of_length_eq_zero hl
    simpa [World.setCells] using hg
  | v :: r, pre, old, tail, w, hl, hg => by
    cases old with
    | nil => simp at hl
    | cons x old' =>
      rw [World.setCells]
      have h1 : (w.setCell ⟨b, pre.length, none⟩ v).heap[b]? = some (.cells ((pre ++ [v]) ++ old' ++ tail).toArray t (0, 0)) := by
        rw [heap_setCell_same w b pre.length _ t _ hg]
        congr 2
        apply Array.ext'
        simp
      have h2 := setCells_heap r (pre ++ [v]) old' tail (w.setCell ⟨b, pre.length, none⟩ v) (by simpa using hl) h1
      rw [show (pre ++ [v]).length = pre.length + 1 by simp] at h2
      rw [h2]
      simp
theorem setCells_keeps {b : Nat} : ∀ (vs : List Value) (o : Nat) (w : World), Keeps (fun k => k = b) w (w.setCells b o vs) ∧ (w.setCells b o vs).heap.size = w.heap.size
  | [], _, w => ⟨Keeps.refl _ _, rfl⟩
  | v :: r, o, w => by
    obtain ⟨h1, h2⟩ := setCells_keeps r (o + 1) (w.setCell ⟨b, o, none⟩ v)
    rw [World.setCells]
    exact ⟨((Keeps.refl (fun k => k = b) w).setCell ⟨b, o, none⟩ v (fun _ => rfl)).trans h1 (fun _ _ e => e) (fun _ _ e => e), by rw [h2]; simp [World.setCell]⟩

/-- What is left where the first of a list is struck. -/
def DelPost (w : World) (g n cap : Nat) (rest : List Int) (e : Ending) (w' : World) : Prop :=
  e = .returned (.slice (some ⟨g, 0, none⟩) n cap) ∧ w'.ownsRow 0 3 1 (.slice (some ⟨g, 0, none⟩) n cap) n (rest.map (Value.int .i64)) ∧ Keeps (fun k => k = g) w w' ∧ w'.heap.size = w.heap.size
theorem del1_any (g n cap : Nat) (x : Int) (rest : List Int) (w : World) (hn : rest.length = n) (h : w.ownsRow 0 3 1 (.slice (some ⟨g, 0, none⟩) (n + 1) cap) (n + 1) ((x :: rest).map (Value.int .i64))) :
    Calls Try.prog 41 #[.slice (some ⟨g, 0, none⟩) (n + 1) cap, .int .i64 0, .int .i64 1] w (DelPost w g n cap rest) := by
  obtain ⟨tail, hg, h1, h2, h3, h4⟩ := ownsRow_open h
  have hcell : ∀ j, j < (x :: rest).length → w.cell? ⟨g, 0 + j, none⟩ = some (.int .i64 ((x :: rest).getD j 0)) := fun j hj => by
    rw [Nat.zero_add, cell_blk hg, List.getElem?_toArray, List.getElem?_append_left (by simpa using hj), List.getElem?_map, List.getD_eq_getElem?_getD, List.getElem?_eq_getElem hj]
    rfl
  have hc := Try.slices_Delete_int_cells g 0 (n + 1) cap 0 1 (x :: rest) w (by simp [hn]) h3 (by simpa [maxLen] using h4) (by omega) (by omega) hcell (fun j _ => frozen_blk hg _)
  refine hc.mono ?_
  rintro e w' ⟨rfl, q, rfl⟩
  have hl : ((((x :: rest).take (n + 1)).take 0 ++ ((x :: rest).take (n + 1)).drop 1 ++ List.replicate (1 - 0) 0).map (Value.int .i64)) = rest.map (Value.int .i64) ++ [.int .i64 0] := by
    simp [List.take_of_length_le (show rest.length ≤ n by omega)]
  rw [hl]
  have h5 := setCells_heap (rest.map (Value.int .i64) ++ [.int .i64 0]) [] ((x :: rest).map (Value.int .i64)) tail (w.drewN q) (by simp) (by simpa using hg)
  obtain ⟨h6, h7⟩ := setCells_keeps (b := g) (rest.map (Value.int .i64) ++ [.int .i64 0]) 0 (w.drewN q)
  refine ⟨rfl, ?_, ⟨h6.os, h6.tape, h6.output, h6.size, h6.block⟩, h7⟩
  refine ownsRow_shut (xs := rest.map (Value.int .i64)) (tail := [.int .i64 0] ++ tail) (by simpa using h5) ?_ (by simp [hn]) (by omega) h4
  simp only [List.length_append, List.length_map, List.length_cons, List.length_nil, Nat.mul_one] at h1 ⊢
  omega

/-! ## New -/
theorem new25_no (room hold : Int) (w : World) (h : ¬ (1 ≤ room ∧ room ≤ 16384 ∧ 0 ≤ hold ∧ hold ≤ 65536)) :
    Calls Try.prog 10 #[.int .i64 room, .int .i64 hold] w fun e w' => e = .returned (.tuple #[.pointer none, .int .i64 11]) ∧ w = w' := by
  by_cases h1 : room < 1
  · clear h
    go_enter Try.func10, Try.ntmps10
    go_wp2_with fail
    go_ret2
    exact ⟨rfl, rfl⟩
  by_cases h2 : 16384 < room
  · clear h
    go_enter Try.func10, Try.ntmps10
    go_wp2_with fail
    go_ret2
    exact ⟨rfl, rfl⟩
  by_cases h3 : hold < 0
  · clear h
    go_enter Try.func10, Try.ntmps10
    go_wp2_with fail
    go_ret2
    exact ⟨rfl, rfl⟩
  · have h4 : 65536 < hold := by omega
    clear h
    go_enter Try.func10, Try.ntmps10
    go_wp2_with fail
    go_ret2
    exact ⟨rfl, rfl⟩
def SS.init (room hold : Int) : SS := ⟨room, hold, [], fun _ => none, [], fun _ => none⟩
def New25 (w : World) (room hold : Int) (e : Ending) (w' : World) : Prop :=
  ∃ σ : SI, e = .returned (.tuple #[.pointer (some ⟨σ.b, 0, none⟩), .int .i64 0]) ∧ StoAt w' σ (SS.init room hold) 0 ∧ Below w.heap.size w w' ∧ ∀ k, σ.foot k → w.heap.size ≤ k
theorem SInv.init {room hold : Int} (h : 1 ≤ room ∧ room ≤ 16384 ∧ 0 ≤ hold ∧ hold ≤ 65536) : SInv (SS.init room hold) :=
  ⟨fun k => ⟨fun h => absurd rfl h, fun h => (nomatch h)⟩, List.nodup_nil, fun k h => (nomatch h), (by show ((0 : Nat) : Int) ≤ room; omega), ⟨h.1, h.2.1⟩, h.2.2, fun k t e => (nomatch e), fun k v e => (nomatch e)⟩
set_option maxHeartbeats 800000 in
theorem new25_yes (room hold : Int) (w : World) (h : 1 ≤ room ∧ room ≤ 16384 ∧ 0 ≤ hold ∧ hold ≤ 65536) :
    Calls Try.prog 10 #[.int .i64 room, .int .i64 hold] w (New25 w room hold) := by
  obtain ⟨POST, hPOST⟩ : ∃ POST, POST = New25 w room hold := ⟨_, rfl⟩
  rw [← hPOST]
  have HPOST := Lib.hid hPOST
  obtain ⟨h1, h2, h3, h4⟩ := h
  have hmm := @run_makeMap Try.prog
  clear hPOST
  go_enter Try.func10, Try.ntmps10
  go_wp2_with fail
  refine (new_any _).mono ?_
  rintro e w1 ⟨rfl, rfl⟩
  go_wp2_with fail
  rw [HPOST.out]
  obtain ⟨W1, hW1⟩ : ∃ W1, W1 = w.alloc (.map #[] 0) := ⟨_, rfl⟩
  obtain ⟨W2, hW2⟩ : ∃ W2, W2 = W1.alloc (.cells #[.slice none 0 0, .int .i64 0] 131) := ⟨_, rfl⟩
  obtain ⟨W3, hW3⟩ : ∃ W3, W3 = W2.alloc (.map #[] 0) := ⟨_, rfl⟩
  obtain ⟨W4, hW4⟩ : ∃ W4, W4 = W3.alloc (.cells #[.int .i64 room, .int .i64 hold, .slice none 0 0, .map (some w.heap.size), .pointer (some ⟨w.heap.size + 1, 0, none⟩), .map (some (w.heap.size + 1 + 1))] 89) := ⟨_, rfl⟩
  have s1 : W1.heap.size = w.heap.size + 1 := by rw [hW1]; simp
  have s2 : W2.heap.size = w.heap.size + 1 + 1 := by rw [hW2]; simp [s1]
  have s3 : W3.heap.size = w.heap.size + 1 + 1 + 1 := by rw [hW3]; simp [s2]
  have b1 : Below w.heap.size w W1 := by rw [hW1]; exact (Below.refl _ _).alloc (Nat.le_refl _) _
  have b2 : Below W1.heap.size W1 W2 := by rw [hW2]; exact (Below.refl _ _).alloc (Nat.le_refl _) _
  have b3 : Below W2.heap.size W2 W3 := by rw [hW3]; exact (Below.refl _ _).alloc (Nat.le_refl _) _
  have b4 : Below W3.heap.size W3 W4 := by rw [hW4]; exact (Below.refl _ _).alloc (Nat.le_refl _) _
  have b24 : Below W2.heap.size W2 W4 := b3.trans (b4.mono (by omega))
  have b14 : Below W1.heap.size W1 W4 := b2.trans (b24.mono (by omega))
  have m1 : Bmap W1 w.heap.size 0 (fun _ => none) := by rw [hW1]; exact Bmap.made w
  have m2 : IsSet W2 (w.heap.size + 1) (.slice none 0 0) [] := by rw [hW2, ← s1]; exact IsSet.new W1
  have m3 : Imap W3 (w.heap.size + 1 + 1) 0 (fun _ => none) := by rw [hW3, ← s2]; exact Imap.made W2
  have m4 : W4.heap[w.heap.size + 1 + 1 + 1]? = some (.cells #[.int .i64 room, .int .i64 hold, .slice none 0 0, .map (some w.heap.size), .pointer (some ⟨w.heap.size + 1, 0, none⟩), .map (some (w.heap.size + 1 + 1))] 89 (0, 0)) := by rw [hW4, ← s3]; exact heap_alloc_new W3 _
  rw [← hW1, ← hW2, ← hW3, ← hW4]
  refine ⟨⟨w.heap.size + 1 + 1 + 1, w.heap.size, w.heap.size + 1, w.heap.size + 1 + 1, .slice none 0 0, .slice none 0 0, fun _ => none⟩, rfl, ⟨m4, World.ownsRow_nil _ _ _ _, ?_, fun k _ => .inl ⟨rfl, rfl⟩, m2.below b24, ?_, (by show w.heap.size ≠ w.heap.size + 1 + 1; omega)⟩, b1.trans (b14.mono (by omega)), ?_⟩
  · exact m1.keeps (T := fun _ => False) (Keeps.of_below b14) (fun e => e)
  · exact m3.keeps (T := fun _ => False) (Keeps.of_below b4) (fun e => e)
  · rintro k (e | e | e | e | e | e)
    · rw [e]; show w.heap.size ≤ w.heap.size + 1 + 1 + 1; omega
    · rw [e]; exact Nat.le_refl _
    · rw [e]; show w.heap.size ≤ w.heap.size + 1; omega
    · rw [e]; show w.heap.size ≤ w.heap.size + 1 + 1; omega
    · cases e
    · cases e
end Go.Proofs.Ytjklcecakdmbaaa
