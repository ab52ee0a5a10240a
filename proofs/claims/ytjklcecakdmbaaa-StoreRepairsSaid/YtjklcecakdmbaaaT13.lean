/-
  Package terracelaw25: awake.
-/
import Derived.Test.YtjklcecakdmbaaaT12
import Derived.Laws.BytesArg
import Derived.Lib.SlBytesConst
namespace Go.Proofs.Ytjklcecakdmbaaa
open Go.RowKit

theorem own_put1 {w W : World} {b nb : Nat} {s : SS} (h : Own25 w W b s nb) (hnb : nb ≤ 100000) {x : Int} (hx : 0 ≤ x ∧ x < 16384) (c : Int) (hc : 0 ≤ c ∧ c ≤ 255) (fr : Nat × Nat) :
    Calls Try.prog 11 #[.pointer (some ⟨b, 0, none⟩), .int .i64 x, .slice (some ⟨W.heap.size, 0, none⟩) 1 1] (W.alloc (.cells #[.int .u8 c] 5 fr)) fun e W' => e = .returned (.tuple #[.int .i64 (s.put x [c]).2, .int .i64 0]) ∧ Own25 w W' b (s.put x [c]).1 (nb + 1) := by
  obtain ⟨σ, rfl, h2, h3, h4, h5⟩ := h
  have hba : Below W.heap.size W (W.alloc (.cells #[.int .u8 c] 5 fr)) := (Below.refl _ _).alloc (Nat.le_refl _) _
  refine (put25_ok σ s nb x W.heap.size 0 1 1 [c] _ (h2.below hba) h3 hnb hx (by decide) rfl (by simp) (fun hf => by have := h2.lt _ hf; omega) (fun j v hj => ?_)).mono ?_
  · cases j with
    | zero => cases hj; simp only [World.cell?, World.alloc_heap_new]; rfl
    | succ j => cases hj
  · rintro e W' ⟨σ', rfl, g1, g2, g3, g4, g5⟩
    have h6 := h5.trans (hba.mono h5.size)
    refine ⟨rfl, σ', g3, g1, h3.put hx (by simp) (by simpa using hc), fun k hk => ?_, h6.trans (g2.below h6.size fun i hi e => ?_)⟩
    · rcases g5 k hk with e | e
      · exact h4 k e
      · exact Nat.le_trans h6.size e
    · have := h4 i e; omega

def s25a : SS := ((SS.init 2 5).put 0 [97]).1
def s25b : SS := (s25a.put 1 [98]).1
def s25c : SS := (s25b.put 2 [99]).1
theorem s25c_put : (s25b.put 2 [99]).2 = 0 := by kernel_rfl
theorem s25c_l : s25c.l = [] := by kernel_rfl
theorem s25c_rp (x : Int) : s25c.rp x = none := by kernel_rfl
theorem s25c_0 : s25c.txt 0 = none := by kernel_rfl
theorem s25c_1 : s25c.txt 1 = some [98] := by kernel_rfl
theorem s25c_2 : s25c.txt 2 = some [99] := by kernel_rfl
theorem hasL03 (x : Int) (h : hasL [(0, 3)] x = true) : 0 ≤ x ∧ x < 3 := by
  rw [hasL_iff] at h
  obtain ⟨y, hy, h1, h2⟩ := h
  rw [List.mem_singleton] at hy
  subst hy
  simp only at h1 h2
  omega
theorem s25c_taken : (cntN fun x => hasL [(0, 3)] x && (mayTake s25c 9 x && !hasB s25c.l x)) = 2 := by
  rw [cntN_small (m := 3) (by decide) (fun x h => ?_)]
  · kernel_rfl
  · simp only [Bool.and_eq_true] at h
    have := hasL03 x h.1
    omega
theorem s25c_gone : (cntN fun x => hasL [(0, 3)] x && !(s25c.txt x).isSome) = 1 := by
  rw [cntN_small (m := 3) (by decide) (fun x h => ?_)]
  · kernel_rfl
  · simp only [Bool.and_eq_true] at h
    have := hasL03 x h.1
    omega
theorem s25c_may (x : Int) (h : mayTake s25c 9 x = true) (hx : 0 ≤ x ∧ x < 3) : x = 1 ∨ x = 2 := by
  rcases (show x = 0 ∨ x = 1 ∨ x = 2 by omega) with rfl | h | h
  · rw [show mayTake s25c 9 0 = false by kernel_rfl] at h; cases h
  · exact .inl h
  · exact .inr h

set_option maxHeartbeats 2000000 in
set_option maxRecDepth 100000 in
theorem awake25_any (w0 w : World) (hw : Below w0.heap.size w0 w) :
    Calls Try.prog 9 #[] w fun e w' => e = .returned (.bool true) ∧ Below w0.heap.size w0 w' := by
  obtain ⟨POST, hPOST⟩ : ∃ POST : Ending → World → Prop, POST = fun e w' => e = .returned (.bool true) ∧ Below w0.heap.size w0 w' := ⟨_, rfl⟩
  rw [← hPOST]
  have HPOST := Lib.hid hPOST
  clear hPOST
  have HN := Lib.hid (own_new (w := w0) 2 5 w (by decide) hw)
  clear hw
  have hcv := fun (W : World) (C : Array Value) (n c : Nat) => Lib.run_convert_bytes_const (P := Try.prog) W 32 5 C n c Try.underlying32 Try.underlying5
  go_enter Try.func9, Try.ntmps9
  go_wp2_with fail
  refine HN.out.mono ?_
  rintro e w1 ⟨b, rfl, h1⟩
  have H1 := Lib.hid (own_put1 h1 (by decide) (x := 0) (by decide) 97 (by decide) (1, 2))
  clear h1
  go_wp2_with fail
  refine H1.out.mono ?_
  rintro e w2 ⟨rfl, h2⟩
  have H2 := Lib.hid (own_put1 h2 (by decide) (x := 1) (by decide) 98 (by decide) (1, 2))
  clear h2
  go_wp2_with fail
  refine H2.out.mono ?_
  rintro e w3 ⟨rfl, h3⟩
  have H3 := Lib.hid (own_put1 h3 (by decide) (x := 2) (by decide) 99 (by decide) (1, 2))
  clear h3
  go_wp2_with fail
  refine H3.out.mono ?_
  rintro e w4 ⟨rfl, h4⟩
  rw [show (((((SS.init 2 5).put 0 [97]).1.put 1 [98]).1.put 2 [99]).2) = 0 from s25c_put]
  have h4 : Own25 w0 w4 b s25c 3 := h4
  have H4 := Lib.hid h4
  clear h4
  have HA := Lib.hid (own_ask (H4.out.next ((Below.refl _ _).alloc (Nat.le_refl _) (.cells #[.int .i64 0, .int .i64 3] 58))) 9 (some ⟨w4.heap.size, 0, none⟩) 1 1 [(0, 3)] (by
    refine ⟨rfl, fun e => (by cases e), fun a e j x hx => ?_⟩
    cases e
    cases j with
    | succ j => cases hx
    | zero =>
      cases hx
      exact ⟨rfl, by simp, by rw [cell_blk (heap_alloc_new w4 _)]; rfl, by rw [cell_blk (heap_alloc_new w4 _)]; rfl⟩) (by decide) (by decide))
  rw [s25c_taken, s25c_gone] at HA
  go_wp2_with fail
  refine HA.out.mono ?_
  rintro e w5 ⟨l5, rfl, h5, hm5⟩
  have hl5 : ∀ n, inS l5 n ↔ n = 1 ∨ n = 2 := fun n => by
    rw [hm5 n, s25c_l]
    constructor
    · rintro (h | ⟨h, hm⟩)
      · exact (inS_nil n h).elim
      · exact s25c_may n hm (hasL03 n ((hasL_iff _ _).2 h))
    · rintro (rfl | rfl)
      · exact .inr ⟨(hasL_iff _ _).1 (by kernel_rfl), by kernel_rfl⟩
      · exact .inr ⟨(hasL_iff _ _).1 (by kernel_rfl), by kernel_rfl⟩
  have HX := Lib.hid (own_next h5 9 (by decide) (by decide))
  have HL5 := Lib.hid hl5
  clear h5 hm5 hl5 HA HN H1 H2 H3
  go_wp2_with fail
  refine HX.out.mono ?_
  rintro e w6 ⟨l6, rp6, h6, hh⟩
  obtain ⟨v6, rfl, hown⟩ : ∃ v6, e = .returned (.tuple #[.int .i64 1, v6, .bool true]) ∧ w6.ownsRow w0.heap.size 5 1 v6 1 ([98].map (Value.int .u8)) := by
    rcases hh with ⟨_, _, _, h⟩ | ⟨x, tx, v6, he, hx, htx, hown, hle, _⟩
    · have := h 1 ((HL5.out 1).2 (.inl rfl))
      rw [show ({ s25c with l := l5 } : SS).txt 1 = s25c.txt 1 from rfl, s25c_1] at this
      cases this
    · have hx1 : x = 1 := by
        rcases (HL5.out x).1 hx with h | rfl
        · exact h
        · have := hle 1 ((HL5.out 1).2 (.inl rfl)) (by decide)
          rw [show ({ s25c with l := l5 } : SS).txt 1 = s25c.txt 1 from rfl, s25c_1] at this
          cases this
      subst hx1
      rw [show ({ s25c with l := l5 } : SS).txt 1 = s25c.txt 1 from rfl, s25c_1] at htx
      cases htx
      exact ⟨v6, he, hown⟩
  rcases ownsRow_formN (ownsRow_base hown (Nat.zero_le _)) with ⟨_, hz, _⟩ | ⟨g8, cap8, rfl, hg8, hcap8, hcm8⟩
  · cases hz
  obtain ⟨tail, hg0, _, _, _, _⟩ := ownsRow_open (ownsRow_base hown (Nat.zero_le _))
  have HNO := Lib.hid (new25_no 0 1 w6 (by decide))
  have hbel6 := Lib.hid h6.below
  have hstr := run_convert_bytes_arg (P := Try.prog) w6 32 5 Try.underlying32 Try.underlying5 g8 0 1 cap8 [98] rfl (fun i hi => by
    rw [cell_blk hg0]
    match i, hi with
    | 0, _ => rfl) 9 Try.underlying9
  rw [show strOfNums [98] = ⟨#[98]⟩ from rfl] at hstr
  clear h6 hh hown hg0 HX HL5
  go_wp2_with fail
  refine HNO.out.mono ?_
  rintro e w7 ⟨rfl, rfl⟩
  have hp : POST (.returned (.bool true)) w6 := by
    rw [HPOST.out]
    exact ⟨rfl, hbel6.out⟩
  have HP := Lib.hid hp
  clear hp
  go_wp2_with fail
  exact HP.out
end Go.Proofs.Ytjklcecakdmbaaa
