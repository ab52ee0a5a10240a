/-
  Contracts of package ranges: Has, Stretches, lay.
-/
import Derived.Test.YtjklcecakdmbaaaRng
import Derived.Deep.LoopGhost
namespace Go.Proofs.Ytjklcecakdmbaaa
open Go.RowKit

/-- Does a set hold a number: as a Bool. -/
def hasB (l : List (Int × Int)) (n : Int) : Bool := l.any fun x => decide (x.1 ≤ n) && decide (n < x.2)
theorem hasB_iff (l : List (Int × Int)) (n : Int) : hasB l n = true ↔ inS l n := by simp [hasB, inS]

theorem has_false (l : List (Int × Int)) (n : Int) (h : ¬ inS l n) : hasB l n = false := by
  rcases h' : hasB l n with _ | _
  · rfl
  · exact absurd ((hasB_iff l n).1 h') h

set_option maxHeartbeats 800000 in
theorem has_any (b : Nat) (v : Value) (l : List (Int × Int)) (n : Int) (w : World) (hs : IsSet w b v l) (hn : 0 ≤ n) (hn' : n ≤ 16384) :
    Calls Try.prog 45 #[.pointer (some ⟨b, 0, none⟩), .int .i64 n] w fun e w' => e = .returned (.bool (hasB l n)) ∧ Below w.heap.size w w' := by
  rcases ownsRow_formN hs.own with ⟨rfl, h0, _⟩ | ⟨g, cap, rfl, hg, hcap, _⟩
  · obtain rfl : l = [] := List.eq_nil_of_length_eq_zero h0
    have hlt := lt_blk hs.blk
    go_enter Try.func45, Try.ntmps45
    go_wp2_with fail
    refine (from_any b _ _ n w hs hn (by omega)).mono ?_
    rintro e w' ⟨i, rfl, hr, hb⟩
    have c1 : w'.cell? ⟨b, 0, none⟩ = some (.slice none 0 0) := (hb.cell (p := ⟨b, 0, none⟩) hlt).trans (by rw [cell_blk hs.blk]; rfl)
    obtain rfl : i = 0 := by have := hr.2.1; simp at this; exact this
    clear hr hs
    go_wp2_with fail
    go_ret
    exact ⟨rfl, hb⟩
  · have hlt := lt_blk hs.blk
    have hcells := cells_of_own hs.own
    have hlen := hs.wf.len
    obtain ⟨len, hl⟩ : ∃ len, len = l.length := ⟨_, rfl⟩
    rw [← hl] at hlen hcap
    have HL := Lib.hid hl
    have HS := Lib.hid hs
    have c00 : w.cell? ⟨b, 0, none⟩ = some (.slice (some ⟨g, 0, none⟩) len cap) := by rw [cell_blk hs.blk, hl]; rfl
    clear hl hs
    go_enter Try.func45, Try.ntmps45
    go_wp2_with fail
    refine (from_any b _ l n w HS.out hn (by omega)).mono ?_
    rintro e w' ⟨i, rfl, hr, hb⟩
    have c1 : w'.cell? ⟨b, 0, none⟩ = some (.slice (some ⟨g, 0, none⟩) len cap) := (hb.cell (p := ⟨b, 0, none⟩) hlt).trans c00
    have hil : i ≤ len := by rw [HL.out]; exact hr.2.1
    have HR := Lib.hid hr
    have hK : ∀ k x, l[k]? = some x → w'.cell? ⟨g, k * 2, none⟩ = some (.int .i64 x.1) ∧ w'.cell? ⟨g, k * 2 + 1, none⟩ = some (.int .i64 x.2) := fun k x hx =>
      ⟨(hb.cell (p := ⟨g, _, none⟩) hg).trans (hcells k x hx).1, (hb.cell (p := ⟨g, _, none⟩) hg).trans (hcells k x hx).2⟩
    have HK := Lib.hid hK
    clear hK hr c00 hcells
    by_cases h1 : i < len
    · obtain ⟨⟨x, y⟩, hx⟩ : ∃ x, l[i]? = some x := ⟨_, List.getElem?_eq_getElem (by rw [← HL.out]; exact h1)⟩
      have k0 := (HK.out i _ hx).1
      have k1 := (HK.out i _ hx).2
      have hny := HR.out.2.2.2 i _ (Nat.le_refl _) hx
      have HX := Lib.hid hx
      simp only at k0 k1 hny
      clear hx
      by_cases h2 : y = n
      · have ht : (y == n) = true := by simp [h2]
        by_cases h3 : i + 1 < len
        · obtain ⟨⟨x2, y2⟩, hx2⟩ : ∃ x, l[i + 1]? = some x := ⟨_, List.getElem?_eq_getElem (by rw [← HL.out]; exact h3)⟩
          have k2 := (HK.out (i + 1) _ hx2).1
          simp only at k2
          have hfin : hasB l n = decide (x2 ≤ n) := by
            rw [Bool.eq_iff_iff, hasB_iff, decide_eq_true_eq]
            have := inS_at (n := n) (i := i + 1) HS.out.wf (by
              intro k z hk hz
              rcases Nat.eq_or_lt_of_le (Nat.le_of_lt_succ hk) with rfl | hlt2
              · rw [HX.out] at hz; cases hz; omega
              · have := HR.out.2.2.1 k z hlt2 hz; omega) (by
              intro z hz
              have e1 := HS.out.wf.lt (Nat.lt_succ_self i) HX.out hz
              have e2 := HS.out.wf.at hz
              simp at e1; omega)
            rw [this, hx2]
            simp
          have HFIN := Lib.hid hfin
          clear hx2 hfin h2
          go_wp2_with fail
          go_ret
          exact ⟨by rw [HFIN.out]; rfl, hb⟩
        · have hfin : hasB l n = false := by
            refine has_false l n fun hin => ?_
            have := inS_at (n := n) (i := i + 1) HS.out.wf (by
              intro k z hk hz
              rcases Nat.eq_or_lt_of_le (Nat.le_of_lt_succ hk) with rfl | hlt2
              · rw [HX.out] at hz; cases hz; omega
              · have := HR.out.2.2.1 k z hlt2 hz; omega) (by
              intro z hz
              have := (List.getElem?_eq_some_iff.1 hz).1
              rw [← HL.out] at this; omega)
            obtain ⟨z, hz, _⟩ := this.1 hin
            have := (List.getElem?_eq_some_iff.1 hz).1
            rw [← HL.out] at this; omega
          have HFIN := Lib.hid hfin
          clear hfin h2
          go_wp2_with fail
          go_ret
          exact ⟨by rw [HFIN.out]; rfl, hb⟩
      · have ht : (y == n) = false := by simp [h2]
        have hfin : hasB l n = decide (x ≤ n) := by
          rw [Bool.eq_iff_iff, hasB_iff, decide_eq_true_eq]
          have := inS_at (n := n) (i := i) HS.out.wf (fun k z hk hz => by have := HR.out.2.2.1 k z hk hz; omega) (by
            intro z hz
            rw [HX.out] at hz; cases hz
            show n < y
            omega)
          rw [this, HX.out]
          simp
        have HFIN := Lib.hid hfin
        clear hfin
        go_wp2_with fail
        go_ret
        exact ⟨by rw [HFIN.out]; rfl, hb⟩
    · have hfin : hasB l n = false := by
        refine has_false l n fun hin => ?_
        have := inS_at (n := n) (i := i) HS.out.wf (fun k z hk hz => by have := HR.out.2.2.1 k z hk hz; omega) (by
          intro z hz
          have := (List.getElem?_eq_some_iff.1 hz).1
          rw [← HL.out] at this; omega)
        obtain ⟨z, hz, _⟩ := this.1 hin
        have := (List.getElem?_eq_some_iff.1 hz).1
        rw [← HL.out] at this; omega
      have HFIN := Lib.hid hfin
      clear hfin
      go_wp2_with fail
      go_ret
      exact ⟨by rw [HFIN.out]; rfl, hb⟩
end Go.Proofs.Ytjklcecakdmbaaa
