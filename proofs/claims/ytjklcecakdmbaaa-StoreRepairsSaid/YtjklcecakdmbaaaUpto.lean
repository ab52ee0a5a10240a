/-
  Contracts of package stripe: the blocks of some layers as a set.
-/
import Derived.Test.YtjklcecakdmbaaaStripe
import Derived.Test.YtjklcecakdmbaaaAdd
namespace Go.Proofs.Ytjklcecakdmbaaa
open Go.RowKit

/-- A fresh set of such numbers. -/
def NewSet (w : World) (P : Int → Prop) (e : Ending) (w' : World) : Prop :=
  ∃ (b : Nat) (v : Value) (l : List (Int × Int)), e = .returned (.pointer (some ⟨b, 0, none⟩)) ∧ IsSet w' b v l ∧ (∀ n, inS l n ↔ P n) ∧ Below w.heap.size w w' ∧ w.heap.size ≤ b ∧ (∀ k, v.ownBlock = some k → w.heap.size ≤ k)

set_option maxHeartbeats 800000 in
set_option maxRecDepth 100000 in
theorem upto_any (p S B L : Nat) (k : Int) (w : World) (hp : PlanAt w p S B L) :
    Calls Try.prog 56 #[.pointer (some ⟨p, 0, none⟩), .int .i64 k] w (NewSet w fun n => 0 ≤ n ∧ n < (nblk S B : Nat) ∧ ((layerN n.toNat L : Nat) : Int) ≤ k) := by
  have HP := Lib.hid hp
  have hbd := (nblk_bound hp.s hp.b.1).1
  have hplt := lt_blk hp.blk
  obtain ⟨nb, hnb⟩ : ∃ nb, nb = nblk S B := ⟨_, rfl⟩
  rw [← hnb] at hbd
  have HNB := Lib.hid hnb
  obtain ⟨POST, hPOST⟩ : ∃ POST, POST = (NewSet w fun n => 0 ≤ n ∧ n < (nblk S B : Nat) ∧ ((layerN n.toNat L : Nat) : Int) ≤ k) := ⟨_, rfl⟩
  rw [← hPOST]
  have HPOST := Lib.hid hPOST
  clear hp hnb hPOST
  go_enter Try.func56, Try.ntmps56
  go_wp2_with fail
  refine (new_any _).mono ?_
  rintro e w1 ⟨rfl, hw1⟩
  have hs1 : IsSet w1 w.heap.size (.slice none 0 0) [] := by rw [← hw1]; exact IsSet.new w
  have hb1 : Below w.heap.size w w1 := by rw [← hw1]; exact (Below.refl _ _).alloc (Nat.le_refl _) _
  clear hw1
  have HP1 := Lib.hid (HP.out.below hb1)
  go_wp2_with fail
  refine (blocks_any p S B L w1 HP1.out).mono ?_
  rintro e w2 ⟨rfl, hb20⟩
  have hb2 := hb20.below
  clear hb20
  rw [← HNB.out]
  have hs2 := hs1.below hb2
  have hb3 := hb1.trans (hb2.mono hb1.size)
  clear hs1 hb1 hb2
  go_wp2_with fail
  go_loopg [10] nb (fun gk i wr => ∃ (t : Nat) (v : Value) (l : List (Int × Int)), i = .int .i64 t ∧ gk + t = nb ∧ t ≤ nb ∧ IsSet wr w.heap.size v l ∧ (∀ n, inS l n ↔ 0 ≤ n ∧ n < (t : Nat) ∧ ((layerN n.toNat L : Nat) : Int) ≤ k) ∧ Below w.heap.size w wr ∧ (∀ j, v.ownBlock = some j → w.heap.size ≤ j))
  case atStart => exact ⟨0, _, _, rfl, rfl, by omega, hs2, fun n => ⟨fun h => (inS_nil n h).elim, fun h => by omega⟩, hb3, fun j e => by cases e⟩
  case round =>
    obtain ⟨t, v, l, rfl, hgk, ht, hs, hmem, hbel, hv⟩ := hrel
    have HGK := Lib.hid hgk
    have HS := Lib.hid hs
    have HM := Lib.hid hmem
    have HV := Lib.hid hv
    clear hgk hs hmem hv
    by_cases hlt : t < nb
    · have HPR := Lib.hid (HP.out.below hbel)
      obtain ⟨ly, hly⟩ : ∃ ly, ly = layerN t L := ⟨_, rfl⟩
      have HLY := Lib.hid hly
      have HC := Lib.hid (layer_any p S B L t wr HPR.out)
      rw [← hly] at HC
      clear hly
      go_wp2_with fail
      refine HC.out.mono ?_
      rintro e w' ⟨rfl, rfl⟩
      by_cases hk : (ly : Int) ≤ k
      · have HA := Lib.hid (add_any w.heap.size v l t (t + 1) wr HS.out (by omega) (by omega) (by omega))
        go_wp2_with fail
        refine HA.out.mono ?_
        rintro e w4 ⟨r, v4, l4, rfl, hs4, hm4, hk4, hf4⟩
        have HS4 := Lib.hid hs4
        have HM4 := Lib.hid hm4
        have HK4 := Lib.hid hk4
        have HF4 := Lib.hid hf4
        clear hs4 hm4 hk4 hf4
        go_wp2_with fail
        go_roundg (nb - (t + 1))
        case measure => have := HGK.out; omega
        case rel =>
          refine ⟨t + 1, v4, l4, by go_num, by omega, by omega, HS4.out, ?_, ?_, ?_⟩
          · intro n
            rw [HM4.out n, HM.out n]
            constructor
            · rintro (h | h)
              · omega
              · have e : n.toNat = t := by omega
                rw [e, ← HLY.out]; omega
            · intro h
              by_cases hn : n < t
              · exact .inl (by omega)
              · exact .inr (by omega)
          · refine hbel.trans ((HK4.out.below (B := w.heap.size) hbel.size ?_))
            intro i hi e
            rcases e with e | e
            · omega
            · have := HV.out i e; omega
          · intro j e
            rcases HF4.out with h | h
            · exact HV.out j (by rw [← h]; exact e)
            · exact Nat.le_trans hbel.size (h j e)
      · go_wp2_with fail
        go_roundg (nb - (t + 1))
        case measure => have := HGK.out; omega
        case rel =>
          refine ⟨t + 1, v, l, by go_num, by omega, by omega, HS.out, ?_, hbel, HV.out⟩
          intro n
          rw [HM.out n]
          constructor
          · intro h; omega
          · intro h
            by_cases hn : n < t
            · omega
            · have e : n.toNat = t := by omega
              rw [e, ← HLY.out] at h; omega
    · obtain rfl : t = nb := by omega
      have hp : POST (.returned (.pointer (some ⟨w.heap.size, 0, none⟩))) wr := by
        rw [HPOST.out]
        exact ⟨_, v, l, rfl, HS.out, by rw [← HNB.out]; exact HM.out, hbel, Nat.le_refl _, HV.out⟩
      have HPP := Lib.hid hp
      clear hp
      go_wp2_with fail
      exact HPP.out
end Go.Proofs.Ytjklcecakdmbaaa
