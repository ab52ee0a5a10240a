/-
  Contracts of package build: Put.
-/
import Derived.Test.YtjklcecakdmbaaaB5
namespace Go.Proofs.Ytjklcecakdmbaaa
open Go.RowKit

theorem cell_lt {w : World} {a : Addr} {v : Value} (h : w.cell? a = some v) : a.block < w.heap.size ∧ a.spot = none := by
  unfold World.cell? at h
  split at h
  · rename_i hh
    refine ⟨lt_blk hh, ?_⟩
    split at h
    · cases h
    · rename_i h2; cases e : a.spot with
      | none => rfl
      | some x => rw [e] at h2; simp at h2
  · cases h
/-- Bytes that are handed in: a slice, nil or not. -/
structure TextAt (w : World) (ao : Option Addr) (n : Nat) (tb : List Int) : Prop where
  len : tb.length = n
  nil : ao = none → n = 0
  cells : ∀ ad, ao = some ad → ∀ j v, tb[j]? = some v → w.cell? (ad.add j) = some (.int .u8 v)
theorem TextAt.keeps {T : Nat → Prop} {w w' : World} {ao : Option Addr} {n : Nat} {tb : List Int} (h : TextAt w ao n tb) (hk : Keeps T w w') (hn : ∀ ad, ao = some ad → ¬ T ad.block) : TextAt w' ao n tb := by
  refine ⟨h.len, h.nil, fun ad e j v hv => ?_⟩
  have h1 := h.cells ad e j v hv
  have hb : (ad.add j).block = ad.block := by unfold Addr.add; split <;> rfl
  rw [← h1]
  exact hk.cell (cell_lt h1).1 (by rw [hb]; exact hn ad e)

/-- Where a block's bytes begin, and end. -/
def BS.to (s : BS) (b : Nat) : Nat := min ((b + 1) * s.B) s.S
def rightTick (t : Int) : Prop := 0 ≤ t ∧ t ≤ 1099511627776
/-- The error that Put tells. -/
def putCode (s : BS) (b : Int) (n : Nat) (t : Int) : Int :=
  if s.over then 24 else if ¬ (0 ≤ b ∧ b < (nblk s.S s.B : Nat)) ∨ ¬ (0 ≤ t ∧ t ≤ 1099511627776) then 11 else if (n : Int) ≠ (s.to b.toNat - b.toNat * s.B : Nat) then 10 else if hasB s.l b then 13 else 0

def ErrPost (w : World) (c : Int) (e : Ending) (w' : World) : Prop := e = .returned (.int .i64 c) ∧ Below w.heap.size w w'

set_option maxHeartbeats 800000 in
set_option maxRecDepth 100000 in
theorem put_err (β : BI) (s : BS) (b t : Int) (ao : Option Addr) (n cap : Nat) (w : World) (hb : BuildAt w β s) (hn : n ≤ 9223372036854775807) (hc : putCode s b n t ≠ 0) :
    Calls Try.prog 18 #[.pointer (some ⟨β.b, 0, none⟩), .int .i64 b, .slice ao n cap, .int .i64 t] w (ErrPost w (putCode s b n t)) := by
  obtain ⟨bb, hbb⟩ : ∃ bb, bb = β.b := ⟨_, rfl⟩
  obtain ⟨p, hp⟩ : ∃ p, p = β.p := ⟨_, rfl⟩
  obtain ⟨ov, hov⟩ : ∃ ov, ov = s.over := ⟨_, rfl⟩
  have hblk := hb.blk
  rw [← hbb, ← hp, ← hov] at hblk
  have hlt : bb < w.heap.size := lt_blk hblk
  have c0 : w.cell? ⟨bb, 0, none⟩ = some (.pointer (some ⟨p, 0, none⟩)) := by rw [cell_blk hblk]; rfl
  have c4 : w.cell? ⟨bb, 4, none⟩ = some (.bool ov) := by rw [cell_blk hblk]; rfl
  have HPL := Lib.hid (show PlanAt w p s.S s.B s.L by rw [hp]; exact hb.plan)
  have HBH := Lib.hid (fun n w' h h0 h1 => bhas_any β s n w' h h0 h1)
  have HBA := Lib.hid hb
  rw [← hbb] at HBH ⊢
  have hbd := (nblk_bound hb.plan.s hb.plan.b.1).1
  obtain ⟨POST, hPOST⟩ : ∃ POST, POST = ErrPost w (putCode s b n t) := ⟨_, rfl⟩
  rw [← hPOST]
  have HPOST := Lib.hid hPOST
  have HCODE := Lib.hid hc
  obtain ⟨CODE, hCODE⟩ : ∃ CODE, CODE = putCode s b n t := ⟨_, rfl⟩
  have HOV := Lib.hid hov
  have hS := hb.plan.s
  have hB := hb.plan.b
  clear hb hbb hp hblk hPOST hov hc hCODE
  have hfin : ∀ w', Below w.heap.size w w' → ∀ c, putCode s b n t = c → POST (.returned (.int .i64 c)) w' := fun w' hb' c hc' => by
    rw [HPOST.out]; exact ⟨by rw [hc'], hb'⟩
  have HFIN := Lib.hid hfin
  clear hfin
  by_cases hval : 0 ≤ b ∧ b < (nblk s.S s.B : Nat)
  · obtain ⟨b', rfl⟩ : ∃ b' : Nat, b = b' := ⟨b.toNat, by omega⟩
    have hb' : b' < nblk s.S s.B := by omega
    have hb16 : b' ≤ 16384 := by omega
    obtain ⟨F, hF⟩ : ∃ F : Nat, F = b' * s.B := ⟨_, rfl⟩
    obtain ⟨E, hE⟩ : ∃ E : Nat, E = min ((b' + 1) * s.B) s.S := ⟨_, rfl⟩
    have hFE : F ≤ E ∧ E ≤ 16384 := by
      have h1 := (nblk_bound hS hB.1).2 b' hb'
      rw [hF, hE, Nat.add_mul]; omega
    obtain ⟨hFE1, hFE2⟩ := hFE
    have HBY := Lib.hid (bytes_yes p s.S s.B s.L b' w HPL.out hb')
    rw [← hF, ← hE] at HBY
    have hto : s.to b' - b' * s.B = E - F := by rw [hF, hE]; rfl
    have HTO := Lib.hid hto
    have HVAL := Lib.hid hval
    clear hF hE hto hval
    cases ov with
    | true =>
      have hcode : putCode s b' n t = 24 := by unfold putCode; rw [← HOV.out]; rfl
      have HC := Lib.hid hcode
      clear hcode
      go_enter Try.func18, Try.ntmps18
      go_wp2_with fail
      refine HBY.out.mono ?_
      rintro e w1 ⟨rfl, hd⟩
      have hb1 := hd.below
      clear hd
      have d4 : w1.cell? ⟨bb, 4, none⟩ = some (.bool true) := (hb1.cell (p := ⟨bb, 4, none⟩) hlt).trans c4
      have HF := Lib.hid (HFIN.out w1 hb1 _ HC.out)
      go_wp2_with fail
      exact HF.out
    | false =>
      by_cases ht1 : t < 0
      · have hcode : putCode s b' n t = 11 := by
          unfold putCode
          rw [← HOV.out]; rw [if_neg (by simp)]; rw [if_pos (by omega)]
        have HC := Lib.hid hcode
        clear hcode
        go_enter Try.func18, Try.ntmps18
        go_wp2_with fail
        refine HBY.out.mono ?_
        rintro e w1 ⟨rfl, hd⟩
        have hb1 := hd.below
        clear hd
        have d4 : w1.cell? ⟨bb, 4, none⟩ = some (.bool false) := (hb1.cell (p := ⟨bb, 4, none⟩) hlt).trans c4
        have HF := Lib.hid (HFIN.out w1 hb1 _ HC.out)
        go_wp2_with fail
        exact HF.out
      by_cases ht2 : 1099511627776 < t
      · have hcode : putCode s b' n t = 11 := by
          unfold putCode
          rw [← HOV.out]; rw [if_neg (by simp)]; rw [if_pos (by omega)]
        have HC := Lib.hid hcode
        clear hcode
        go_enter Try.func18, Try.ntmps18
        go_wp2_with fail
        refine HBY.out.mono ?_
        rintro e w1 ⟨rfl, hd⟩
        have hb1 := hd.below
        clear hd
        have d4 : w1.cell? ⟨bb, 4, none⟩ = some (.bool false) := (hb1.cell (p := ⟨bb, 4, none⟩) hlt).trans c4
        have HF := Lib.hid (HFIN.out w1 hb1 _ HC.out)
        go_wp2_with fail
        exact HF.out
      by_cases hln : (n : Int) = ((E - F : Nat) : Int)
      · by_cases hhas : hasB s.l b' = true
        · have hcode : putCode s b' n t = 13 := by
            unfold putCode
            rw [← HOV.out]; rw [if_neg (by simp), if_neg (by have := HVAL.out; omega), Int.toNat_natCast, HTO.out, if_neg (by simpa using hln), if_pos hhas]
          have HC := Lib.hid hcode
          have HH := Lib.hid hhas
          have hnn : ((n : Int) == (E : Int) - (F : Int)) = true := by simp; omega
          have hnn2 : ((n : Int) != (E : Int) - (F : Int)) = false := by rw [bne_eq_false_iff_eq]; omega
          clear hcode hhas hln
          go_enter Try.func18, Try.ntmps18
          go_wp2_with fail
          refine HBY.out.mono ?_
          rintro e w1 ⟨rfl, hd⟩
          have hb1 := hd.below
          clear hd
          have d4 : w1.cell? ⟨bb, 4, none⟩ = some (.bool false) := (hb1.cell (p := ⟨bb, 4, none⟩) hlt).trans c4
          have HHAS := Lib.hid (HBH.out b' w1 (HBA.out.below hb1) (by omega) (by omega))
          rw [HH.out] at HHAS
          go_wp2_with fail
          refine HHAS.out.mono ?_
          rintro e w2 ⟨rfl, hb2⟩
          have HF := Lib.hid (HFIN.out w2 (hb1.trans (hb2.mono hb1.size)) _ HC.out)
          go_wp2_with fail
          exact HF.out
        · exfalso
          apply HCODE.out
          unfold putCode
          rw [← HOV.out]; rw [if_neg (by simp), if_neg (by have := HVAL.out; omega), Int.toNat_natCast, HTO.out, if_neg (by simpa using hln), if_neg hhas]
      · have hnn : ((n : Int) == (E : Int) - (F : Int)) = false := by rw [beq_eq_false_iff_ne]; omega
        have hnn2 : ((n : Int) != (E : Int) - (F : Int)) = true := by rw [bne_iff_ne]; omega
        have hcode : putCode s b' n t = 10 := by
          unfold putCode
          rw [← HOV.out]; rw [if_neg (by simp)]; rw [if_neg (by have := HVAL.out; omega), Int.toNat_natCast, HTO.out, if_pos hln]
        have HC := Lib.hid hcode
        clear hcode
        clear hln
        go_enter Try.func18, Try.ntmps18
        go_wp2_with fail
        refine HBY.out.mono ?_
        rintro e w1 ⟨rfl, hd⟩
        have hb1 := hd.below
        clear hd
        have d4 : w1.cell? ⟨bb, 4, none⟩ = some (.bool false) := (hb1.cell (p := ⟨bb, 4, none⟩) hlt).trans c4
        have HF := Lib.hid (HFIN.out w1 hb1 _ HC.out)
        go_wp2_with fail
        exact HF.out
  · have HBN := Lib.hid (bytes_no p s.S s.B s.L b w HPL.out hval)
    cases ov with
    | true =>
      have hcode : putCode s b n t = 24 := by
        unfold putCode
        rw [← HOV.out]; rfl
      have HC := Lib.hid hcode
      clear hcode
      go_enter Try.func18, Try.ntmps18
      go_wp2_with fail
      refine HBN.out.mono ?_
      rintro e w1 ⟨rfl, hd⟩
      have hb1 := hd.below
      clear hd
      have d4 : w1.cell? ⟨bb, 4, none⟩ = some (.bool true) := (hb1.cell (p := ⟨bb, 4, none⟩) hlt).trans c4
      have HF := Lib.hid (HFIN.out w1 hb1 _ HC.out)
      go_wp2_with fail
      exact HF.out
    | false =>
      have hcode : putCode s b n t = 11 := by
        unfold putCode
        rw [← HOV.out]; rw [if_neg (by simp)]; rw [if_pos (.inl hval)]
      have HC := Lib.hid hcode
      clear hcode
      clear hval
      go_enter Try.func18, Try.ntmps18
      go_wp2_with fail
      refine HBN.out.mono ?_
      rintro e w1 ⟨rfl, hd⟩
      have hb1 := hd.below
      clear hd
      have d4 : w1.cell? ⟨bb, 4, none⟩ = some (.bool false) := (hb1.cell (p := ⟨bb, 4, none⟩) hlt).trans c4
      have HF := Lib.hid (HFIN.out w1 hb1 _ HC.out)
      go_wp2_with fail
      exact HF.out
end Go.Proofs.Ytjklcecakdmbaaa
