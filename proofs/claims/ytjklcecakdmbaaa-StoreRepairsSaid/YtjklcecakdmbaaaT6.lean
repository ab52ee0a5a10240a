/-
  Package store: small contracts (a text cloned; may, time, Asked, fresh, Get).
-/
import Derived.Test.YtjklcecakdmbaaaT5
namespace Go.Proofs.Ytjklcecakdmbaaa
open Go.RowKit

set_option maxHeartbeats 400000 in
set_option maxRecDepth 100000 in
theorem tclone_any (tg toff n cap : Nat) (tb : List Int) (w : World) (hn : n ≤ 100000) (hl : tb.length = n) (hc : ∀ j v, tb[j]? = some v → w.cell? ⟨tg, toff + j, none⟩ = some (.int .u8 v)) (htg : tg < w.heap.size) :
    Calls Try.prog 40 #[.slice (some ⟨tg, toff, none⟩) n cap] w (FreshPost 5 1 w n (tb.map (Value.int .u8))) := by
  have hnil := fun W => Lib.run_eql_slice_nil (P := Try.prog) W 32 5 (some ⟨tg, toff, none⟩) n cap 0 0 Try.underlying32
  have Q := Lib.hid (show ∀ j u, (tb.map (Value.int .u8))[j]? = some u → (w.alloc (.cells #[] 5)).cell? ((⟨tg, toff, none⟩ : Addr).add j) = some u from fun j u hj => by
    rw [List.getElem?_map] at hj
    cases hb : tb[j]? with
    | none => rw [hb] at hj; cases hj
    | some v =>
      rw [hb] at hj
      cases hj
      have hadd : (⟨tg, toff, none⟩ : Addr).add j = ⟨tg, toff + j, none⟩ := by
        unfold Addr.add; split
        · subst j; rfl
        · rfl
      rw [hadd, World.cell?_alloc_lt (h := htg)]
      exact hc j v hb)
  have HXL := Lib.hid (show (tb.map (Value.int .u8)).length = n * 1 by simp [hl])
  obtain ⟨i0, hi0, hi1, hi2, hi3⟩ := info_parts Try.info5
  have HI0 := Lib.hid hi0
  have HI1 := Lib.hid hi1
  have HI2 := Lib.hid hi2
  have HI3 := Lib.hid hi3
  have HE := Lib.hid (World.ownsRow_lit (base := w.heap.size) (e := 5) (size := 1) w #[] 0 (Nat.le_refl _) (by simp) (by simp))
  have HB1 : 0 + n ≤ maxLen := by simp only [maxLen]; omega
  have HB2 : (0 + n) * 1 ≤ 140737488355328 := by omega
  clear hi0 hi1 hi2 hi3 hl hc
  go_enter Try.func40, Try.ntmps40
  go_wp2_with ((with_reducible refine wpList_append_own _ rfl (.tmp 5) (.tmp 6) 32 rfl w.heap.size 5 i0 _ 1 1 Try.underlying32 HI0.out HI1.out HI2.out HI3.out ?_ (by decide) _ 0 [] ?_ HE.out ⟨tg, toff, none⟩ n cap (tb.map (Value.int .u8)) ?_ HXL.out Q.out (bytes_one tb) HB1 HB2 ?_ ?_); rfl; rfl; rfl; simp; intro v' w1 hown1 hgr1 _; have HO1 := Lib.hid hown1; clear hown1)
  go_ret
  refine ⟨_, rfl, by simpa using HO1.out, ?_⟩
  exact ((Below.refl _ _).alloc (Nat.le_refl _) _).grown hgr1 (by simp) (fun k hk => by cases hk; exact Nat.le_refl _)

theorem may_any (b : Int) (w : World) :
    Calls Try.prog 39 #[.int .i64 b] w fun e w' => e = .returned (.bool (decide (0 ≤ b ∧ b < 16384))) ∧ w = w' := by
  obtain ⟨POST, hPOST⟩ : ∃ POST : Ending → World → Prop, POST = fun e w' => e = .returned (.bool (decide (0 ≤ b ∧ b < 16384))) ∧ w = w' := ⟨_, rfl⟩
  rw [← hPOST]
  have hp : ∀ v, decide (0 ≤ b ∧ b < 16384) = v → POST (.returned (.bool v)) w := fun v hv => by rw [hPOST, hv]; exact ⟨rfl, rfl⟩
  by_cases h0 : 0 ≤ b
  · by_cases h1 : b < 16384
    · have HP := Lib.hid (hp true (by simp [h0, h1]))
      clear hp hPOST
      go_enter Try.func39, Try.ntmps39
      go_wp2_with fail
      exact HP.out
    · have HP := Lib.hid (hp false (by simp; omega))
      clear hp hPOST
      go_enter Try.func39, Try.ntmps39
      go_wp2_with fail
      exact HP.out
  · have HP := Lib.hid (hp false (by simp; omega))
    clear hp hPOST
    go_enter Try.func39, Try.ntmps39
    go_wp2_with fail
    exact HP.out
theorem time_any (b : Int) (w : World) :
    Calls Try.prog 42 #[.int .i64 b] w fun e w' => e = .returned (.bool (decide (0 ≤ b ∧ b ≤ 1099511627776))) ∧ w = w' := by
  obtain ⟨POST, hPOST⟩ : ∃ POST : Ending → World → Prop, POST = fun e w' => e = .returned (.bool (decide (0 ≤ b ∧ b ≤ 1099511627776))) ∧ w = w' := ⟨_, rfl⟩
  rw [← hPOST]
  have hp : ∀ v, decide (0 ≤ b ∧ b ≤ 1099511627776) = v → POST (.returned (.bool v)) w := fun v hv => by rw [hPOST, hv]; exact ⟨rfl, rfl⟩
  by_cases h0 : 0 ≤ b
  · by_cases h1 : b ≤ 1099511627776
    · have HP := Lib.hid (hp true (by simp [h0, h1]))
      clear hp hPOST
      go_enter Try.func42, Try.ntmps42
      go_wp2_with fail
      exact HP.out
    · have HP := Lib.hid (hp false (by simp; omega))
      clear hp hPOST
      go_enter Try.func42, Try.ntmps42
      go_wp2_with fail
      exact HP.out
  · have HP := Lib.hid (hp false (by simp; omega))
    clear hp hPOST
    go_enter Try.func42, Try.ntmps42
    go_wp2_with fail
    exact HP.out

theorem sto_at {w : World} {b : Nat} {x0 x1 x2 x3 x4 x5 : Value} {t : TypeId} (h : w.heap[b]? = some (.cells #[x0, x1, x2, x3, x4, x5] t (0, 0))) : w.cell? ⟨b, 0, none⟩ = some x0 ∧ w.cell? ⟨b, 1, none⟩ = some x1 ∧ w.cell? ⟨b, 2, none⟩ = some x2 ∧ w.cell? ⟨b, 3, none⟩ = some x3 ∧ w.cell? ⟨b, 4, none⟩ = some x4 ∧ w.cell? ⟨b, 5, none⟩ = some x5 :=
  ⟨by rw [cell_blk h]; rfl, by rw [cell_blk h]; rfl, by rw [cell_blk h]; rfl, by rw [cell_blk h]; rfl, by rw [cell_blk h]; rfl, by rw [cell_blk h]; rfl⟩

theorem asked_any (σ : SI) (s : SS) (nb : Nat) (w : World) (h : StoAt w σ s nb) :
    Calls Try.prog 14 #[.pointer (some ⟨σ.b, 0, none⟩)] w fun e w' => e = .returned (.int .i64 (total s.l)) ∧ w = w' := by
  obtain ⟨b, hb⟩ : ∃ b, b = σ.b := ⟨_, rfl⟩
  obtain ⟨a, ha⟩ : ∃ a, a = σ.a := ⟨_, rfl⟩
  have hblk := h.blk
  rw [← hb, ← ha] at hblk
  obtain ⟨_, _, _, _, c4, _⟩ := sto_at hblk
  have HL := Lib.hid (setLen_any σ.a σ.av s.l w h.set)
  rw [← ha] at HL
  rw [← hb]
  clear h hblk hb ha
  go_enter Try.func14, Try.ntmps14
  go_wp2_with fail
  refine HL.out.mono ?_
  rintro e w' ⟨rfl, rfl⟩
  go_wp2_with fail
  go_ret
  exact ⟨rfl, rfl⟩

/-- Was a block repaired of late? -/
def freshB (s : SS) (b now : Int) : Bool := match s.rp b with | none => false | some at_ => decide (now - at_ ≤ s.hold)
set_option maxHeartbeats 400000 in
theorem fresh_any (σ : SI) (s : SS) (nb : Nat) (b now : Int) (w : World) (h : StoAt w σ s nb) (hi : SInv s) (hb : 0 ≤ b ∧ b < 16384) (hn : 0 ≤ now ∧ now ≤ 1099511627776) :
    Calls Try.prog 46 #[.pointer (some ⟨σ.b, 0, none⟩), .int .i64 b, .int .i64 now] w fun e w' => e = .returned (.bool (freshB s b now)) ∧ w = w' := by
  obtain ⟨POST, hPOST⟩ : ∃ POST : Ending → World → Prop, POST = fun e w' => e = .returned (.bool (freshB s b now)) ∧ w = w' := ⟨_, rfl⟩
  rw [← hPOST]
  obtain ⟨sb, hsb⟩ : ∃ sb, sb = σ.b := ⟨_, rfl⟩
  obtain ⟨r, hr⟩ : ∃ r, r = σ.r := ⟨_, rfl⟩
  have hblk := h.blk
  rw [← hsb, ← hr] at hblk
  obtain ⟨_, c1, _, _, _, c5⟩ := sto_at hblk
  have hk : iKey b := iKey_of (by omega) (by omega)
  have hhd := hi.hold
  obtain ⟨hold, hhold⟩ : ∃ x, x = s.hold := ⟨_, rfl⟩
  rw [← hhold] at c1 hhd
  obtain ⟨hb0, hb1⟩ := hb
  obtain ⟨hn0, hn1⟩ := hn
  obtain ⟨hd0, hd1⟩ := hhd
  rw [← hsb]
  cases hrp : s.rp b with
  | none =>
    have hl := h.rep.look_no hk hrp
    rw [← hr] at hl
    have HP := Lib.hid (show POST (.returned (.bool false)) w by rw [hPOST]; exact ⟨by unfold freshB; rw [hrp], rfl⟩)
    clear h hi hblk hsb hr hrp hhold hPOST
    go_enter Try.func46, Try.ntmps46
    go_wp2_with fail
    exact HP.out
  | some at_ =>
    have hl := h.rep.look_yes hk hrp
    rw [← hr] at hl
    have hat := hi.rbd b at_ hrp
    obtain ⟨ha0, ha1⟩ := hat
    have HP := Lib.hid (show POST (.returned (.bool (decide (now - at_ ≤ hold)))) w by rw [hPOST]; exact ⟨by unfold freshB; rw [hrp, hhold], rfl⟩)
    clear h hi hblk hsb hr hrp hhold hPOST
    go_enter Try.func46, Try.ntmps46
    go_wp2_with fail
    exact HP.out

/-- What Get tells. -/
def GetPost (w : World) (s : SS) (b : Int) (e : Ending) (w' : World) : Prop :=
  ∃ v', e = .returned (.tuple #[v', .bool (s.txt b).isSome]) ∧ w'.ownsRow w.heap.size 5 1 v' ((s.txt b).getD []).length (((s.txt b).getD []).map (Value.int .u8)) ∧ Below w.heap.size w w'
set_option maxHeartbeats 400000 in
theorem get_any (σ : SI) (s : SS) (nb : Nat) (b : Int) (w : World) (h : StoAt w σ s nb) (hi : SInv s) (hk : iKey b) :
    Calls Try.prog 50 #[.pointer (some ⟨σ.b, 0, none⟩), .int .i64 b] w (GetPost w s b) := by
  obtain ⟨POST, hPOST⟩ : ∃ POST, POST = GetPost w s b := ⟨_, rfl⟩
  rw [← hPOST]
  have HPOST := Lib.hid hPOST
  obtain ⟨sb, hsb⟩ : ∃ sb, sb = σ.b := ⟨_, rfl⟩
  obtain ⟨m, hm⟩ : ∃ m, m = σ.m := ⟨_, rfl⟩
  have hblk := h.blk
  rw [← hsb, ← hm] at hblk
  obtain ⟨_, _, _, c3, _, _⟩ := sto_at hblk
  have hmap := h.map
  rw [← hm] at hmap
  rw [← hsb]
  rcases h.txt b hk with ⟨h1, h2⟩ | ⟨g, n, c, tx, h1, h2, h3, h4⟩
  · have hl := hmap.look_no hk h1
    have HB := Lib.hid (bclone_any (.slice none 0 0) 0 [] w (by omega) (World.ownsRow_nil _ _ _ _) (by simp))
    have HT := Lib.hid h2
    clear h hi hblk hsb hm h1 h2 hPOST hmap
    go_enter Try.func50, Try.ntmps50
    go_wp2_with fail
    refine HB.out.mono ?_
    rintro e w' ⟨v', rfl, hown, hbel⟩
    have hpp : POST (.returned (.tuple #[v', .bool false])) w' := by
      rw [HPOST.out]; exact ⟨v', by rw [HT.out]; rfl, by rw [HT.out]; exact hown, hbel⟩
    have HPP := Lib.hid hpp
    clear hpp hown
    go_wp2_with fail
    exact HPP.out
  · have hl := hmap.look_yes hk h1
    have hb := (hi.byte b tx h2).1
    have HB := Lib.hid (bclone_any _ n _ w (by omega) h4 (bytes_one tx))
    have HT := Lib.hid h2
    have H3 := Lib.hid h3
    clear h hi hblk hsb hm h1 h2 h3 h4 hb hPOST hmap
    go_enter Try.func50, Try.ntmps50
    go_wp2_with fail
    refine HB.out.mono ?_
    rintro e w' ⟨v', rfl, hown, hbel⟩
    have hpp : POST (.returned (.tuple #[v', .bool true])) w' := by
      rw [HPOST.out]; exact ⟨v', by rw [HT.out]; rfl, by rw [HT.out]; show w'.ownsRow _ 5 1 v' tx.length _; rw [H3.out]; exact hown, hbel⟩
    have HPP := Lib.hid hpp
    clear hpp hown
    go_wp2_with fail
    exact HPP.out
end Go.Proofs.Ytjklcecakdmbaaa
