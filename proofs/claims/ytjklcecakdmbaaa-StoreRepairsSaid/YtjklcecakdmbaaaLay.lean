/-
  Contracts of package ranges: lay.
-/
import Derived.Test.YtjklcecakdmbaaaRng3
import Derived.Deep.LoopGhost
import Derived.BigRegion
namespace Go.Proofs.Ytjklcecakdmbaaa
open Go.RowKit

theorem total_take_succ {l : List (Int × Int)} {k : Nat} {x : Int × Int} (h : l[k]? = some x) : total (l.take (k + 1)) = total (l.take k) + (x.2 - x.1) := by
  obtain ⟨hk, e⟩ := List.getElem?_eq_some_iff.1 h
  rw [List.take_succ_eq_append_getElem hk, total_append, e]
  simp [total]

def LayPost (w : World) (b : Nat) (v : Value) (new : List (Int × Int)) (e : Ending) (w' : World) : Prop :=
  ∃ (r : Int) (v' : Value), e = .returned (.int .i64 r) ∧ IsSet w' b v' new ∧ Keeps (fun k => k = b ∨ v.ownBlock = some k) w w' ∧ (v'.ownBlock = v.ownBlock ∨ ∀ k, v'.ownBlock = some k → w.heap.size ≤ k)

theorem blk_set0 {w : World} {b : Nat} {x y x' : Value} {t : TypeId} (h : w.heap[b]? = some (.cells #[x, y] t (0, 0))) : (w.setCell ⟨b, 0, none⟩ x').heap[b]? = some (.cells #[x', y] t (0, 0)) := by
  rw [heap_setCell_same w b 0 _ t _ h]; rfl
theorem blk_set1 {w : World} {b : Nat} {x y y' : Value} {t : TypeId} (h : w.heap[b]? = some (.cells #[x, y] t (0, 0))) : (w.setCell ⟨b, 1, none⟩ y').heap[b]? = some (.cells #[x, y'] t (0, 0)) := by
  rw [heap_setCell_same w b 1 _ t _ h]; rfl

/-- What the round of either loop leaves. -/
theorem lay_round {w wr : World} {b : Nat} {v x y : Value} {D D' : Int} (hblk : wr.heap[b]? = some (.cells #[v, .int .i64 D] 131 (0, 0))) (hkeep : Keeps (· = b) w wr) :
    ((wr.setCell ⟨b, 1, none⟩ (.int .i64 D')).alloc (.cells #[x, y] 58)).drew.heap[b]? = some (.cells #[v, .int .i64 D'] 131 (0, 0)) ∧ Keeps (· = b) w ((wr.setCell ⟨b, 1, none⟩ (.int .i64 D')).alloc (.cells #[x, y] 58)).drew := by
  have h1 := blk_set1 (y' := .int .i64 D') hblk
  exact ⟨(heap_alloc_old (h := lt_blk h1) ..).trans h1, ((hkeep.setCell ⟨b, 1, none⟩ (.int .i64 D') (fun _ => rfl)).alloc _).drew⟩

/-- The ending: the field's value and the row's. -/
theorem lay_end {w w2 w3 : World} {b fr to : Nat} {v v' : Value} {l ll : List (Int × Int)} {D2 : Int} {n' : Nat} (hs : IsSet w b v l) (hft : fr ≤ to) (hto : to ≤ l.length) (hwf : Wf (l.take fr ++ ll ++ l.drop to))
    (hD : D2 = total l - total ((l.drop fr).take (to - fr)) + total ll) (hblk : w2.heap[b]? = some (.cells #[v, .int .i64 D2] 131 (0, 0))) (hkeep : Keeps (· = b) w w2) (hn' : n' = fr + ll.length + (l.length - to))
    (hown : w3.ownsRow 0 58 2 v' n' ((flat l).take (fr * 2) ++ flat ll ++ (flat l).drop (to * 2))) (hgr : w2.grownBy w3 v.ownBlock) (hfr : v'.ownBlock = v.ownBlock ∨ ∀ k, v'.ownBlock = some k → w2.heap.size ≤ k) :
    IsSet (w3.setCell ⟨b, 0, none⟩ v') b v' (l.take fr ++ ll ++ l.drop to) ∧ Keeps (fun k => k = b ∨ v.ownBlock = some k) w (w3.setCell ⟨b, 0, none⟩ v') ∧ (v'.ownBlock = v.ownBlock ∨ ∀ k, v'.ownBlock = some k → w.heap.size ≤ k) := by
  have hb3 : w3.heap[b]? = some (.cells #[v, .int .i64 D2] 131 (0, 0)) := (hgr.block b (lt_blk hblk) (fun e => hs.ne e.symm)).trans hblk
  have hvb : v'.ownBlock ≠ some b := by
    intro e
    rcases hfr with h | h
    · exact hs.ne (h.symm.trans e)
    · have := h b e; have := lt_blk hblk; omega
  have hlen : (l.take fr ++ ll ++ l.drop to).length = n' := by
    rw [hn', List.length_append, List.length_append, List.length_take, List.length_drop]; omega
  have htot : total (l.take fr ++ ll ++ l.drop to) = D2 := by
    rw [hD, total_append, total_append]
    have e1 : l = l.take fr ++ ((l.drop fr).take (to - fr) ++ l.drop to) := by
      have : l.drop to = (l.drop fr).drop (to - fr) := by rw [List.drop_drop]; congr 1; omega
      rw [this, List.take_append_drop, List.take_append_drop]
    have e2 : total l = total (l.take fr) + (total ((l.drop fr).take (to - fr)) + total (l.drop to)) := by
      conv => lhs; rw [e1]
      rw [total_append, total_append]
    omega
  refine ⟨⟨?_, ?_, hwf⟩, ?_, ?_⟩
  · rw [blk_set0 hb3, htot]
  · rw [hlen, flat_append, flat_append, ← flat_take, ← flat_drop]
    refine ownsRow_keeps (S := (· = b)) hown ((Keeps.refl _ _).setCell _ _ (fun _ => rfl)) ?_
    intro k hk e
    exact hvb (by rw [hk, e])
  · refine (hkeep.trans (T := fun k => v.ownBlock = some k) (Keeps.of_grown hgr (fun k e => e)) (U := fun k => k = b ∨ v.ownBlock = some k) (fun i _ e => .inl e) (fun i _ e => .inr e)).setCell _ _ (fun _ => .inl rfl)
  · rcases hfr with h | h
    · exact .inl h
    · exact .inr fun k hk => Nat.le_trans hkeep.size (h k hk)

set_option maxHeartbeats 800000 in
set_option maxRecDepth 100000 in
theorem lay_AC (b : Nat) (g cap fr to : Nat)  (l : List (Int × Int))  (w : World) (hs : IsSet w b (.slice (some ⟨g, 0, none⟩) l.length cap) l) (hlt0 : fr < to) (hto : to ≤ l.length) (hcap : l.length ≤ cap) (_hcm : cap ≤ 9223372036854775807) 
    (hwf : Wf (l.take fr ++ [] ++ l.drop to)) :
    Calls Try.prog 76 #[.pointer (some ⟨b, 0, none⟩), .int .i64 fr, .int .i64 to, .slice none 0 0] w (LayPost w b (.slice (some ⟨g, 0, none⟩) l.length cap) (l.take fr ++ [] ++ l.drop to)) := by
  have hlt := lt_blk hs.blk
  have hlen := hs.wf.len
  have htot := hs.wf.total
  obtain ⟨len, hl⟩ : ∃ len, len = l.length := ⟨_, rfl⟩
  rw [← hl] at hlen hcap hto
  obtain ⟨T, hT⟩ : ∃ T, T = total l := ⟨_, rfl⟩
  rw [← hT] at htot
  obtain ⟨htot1, htot2, _⟩ := htot
  obtain ⟨V, hV⟩ : ∃ V, V = Value.slice (some ⟨g, 0, none⟩) len cap := ⟨_, rfl⟩
  obtain ⟨NEW, hNEW⟩ : ∃ NEW, NEW = l.take fr ++ [] ++ l.drop to := ⟨_, rfl⟩
  rw [← hl] at hs ⊢
  rw [← hNEW] at hwf
  rw [← hNEW]
  rw [show LayPost w b (.slice (some ⟨g, 0, none⟩) len cap) NEW = LayPost w b V NEW by rw [hV]]
  rw [← hV] at hs
  have hb0 : w.heap[b]? = some (.cells #[V, .int .i64 T] 131 (0, 0)) := by rw [hT]; exact hs.blk
  have c0 : w.cell? ⟨b, 0, none⟩ = some (.slice (some ⟨g, 0, none⟩) len cap) := by rw [cell_blk hb0, hV]; rfl
  have c1 : w.cell? ⟨b, 1, none⟩ = some (.int .i64 T) := by rw [cell_blk hb0]; rfl
  have hg : g < w.heap.size := (hs.own.lt g (by rw [hV]; rfl)).2
  have hgb : g ≠ b := fun e => hs.ne (by rw [hV, ← e]; rfl)
  have hcells : CellsP w g l := by
    have := hs.own
    rw [hV, ← hl] at this
    exact cells_of_own this
  have HS := Lib.hid hs
  have HB0 := Lib.hid hb0
  have HT := Lib.hid hT
  have HV := Lib.hid hV
  have HNEW := Lib.hid hNEW
  have HWF := Lib.hid hwf
  have HL := Lib.hid hl
  have HC := Lib.hid hcells
  clear hs hb0 hT hV hNEW hwf hl hcells
  have hcf : ¬ cap = fr := by omega
  have hft : fr ≤ to := by omega
  go_enter Try.func76, Try.ntmps76
  go_wp2_with fail
  go_loopg [26] (to - fr) (fun gk i wr => ∃ k : Nat, i = .int .i64 k ∧ gk = to - fr - k ∧ k ≤ to - fr ∧ wr.heap[b]? = some (.cells #[V, .int .i64 (T - total ((l.drop fr).take k))] 131 (0, 0)) ∧ Keeps (· = b) w wr)
  case atStart => exact ⟨0, rfl, by omega, by omega, by rw [HB0.out]; simp [total], Keeps.refl _ _⟩
  case round =>
    obtain ⟨k, rfl, rfl, hk, hblk, hkeep⟩ := hrel
    by_cases hltk : k < to - fr
    · obtain ⟨⟨x, y⟩, hx⟩ : ∃ x, l[fr + k]? = some x := ⟨_, List.getElem?_eq_getElem (by have := HL.out; omega)⟩
      have k0 : wr.cell? ⟨g, fr * 2 + k * 2, none⟩ = some (.int .i64 x) := by
        have := (HC.out _ _ hx).1
        rw [Nat.add_mul] at this
        exact (hkeep.cell (p := ⟨g, _, none⟩) hg hgb).trans this
      have k1 : wr.cell? ⟨g, fr * 2 + k * 2 + 1, none⟩ = some (.int .i64 y) := by
        have := (HC.out _ _ hx).2
        rw [Nat.add_mul] at this
        exact (hkeep.cell (p := ⟨g, _, none⟩) hg hgb).trans this
      have htb := (((HS.out.wf).drop fr).take k).total
      obtain ⟨D, hD⟩ : ∃ D, D = T - total ((l.drop fr).take k) := ⟨_, rfl⟩
      rw [← hD] at hblk
      have hx0 : 0 ≤ x ∧ x ≤ 16384 ∧ 0 ≤ y ∧ y ≤ 16384 := by have := HS.out.wf.at hx; simp at this; omega
      have hD0 : -16384 ≤ D ∧ D ≤ 16384 := by omega
      obtain ⟨hx1, hx2, hx3, hx4⟩ := hx0
      obtain ⟨hD1, hD2⟩ := hD0
      have HD := Lib.hid hD
      clear hD htb
      have d1 : wr.cell? ⟨b, 1, none⟩ = some (.int .i64 D) := by rw [cell_blk hblk]; rfl
      have d2 : wr.frozen? ⟨b, 1, none⟩ = false := frozen_blk hblk _
      have hlt3 : b < wr.heap.size := lt_blk hblk
      have HBLK := Lib.hid hblk
      have HX := Lib.hid hx
      clear hblk hx
      go_wp2_with fail
      have e1 : (wr.alloc (.cells #[.int .i64 x, .int .i64 y] 58)).cell? ⟨b, 1, none⟩ = some (.int .i64 D) := by rw [World.cell?_alloc_lt (h := hlt3)]; exact d1
      go_region
      go_wp2_with fail
      go_roundg (to - fr - (k + 1))
      case measure => omega
      case rel =>
        have hr := lay_round (w := w) (D' := D - (y - x)) (x := .int .i64 x) (y := .int .i64 y) HBLK.out hkeep
        refine ⟨k + 1, by go_num, rfl, by omega, ?_, hr.2⟩
        rw [hr.1, total_take_succ (x := (x, y)) (by rw [List.getElem?_drop]; exact HX.out), HD.out]
        congr 6; simp; omega
    · obtain rfl : k = to - fr := by omega
      have htb := (((HS.out.wf).drop fr).take (to - fr)).total
      obtain ⟨D, hD⟩ : ∃ D, D = T - total ((l.drop fr).take (to - fr)) := ⟨_, rfl⟩
      rw [← hD] at hblk
      have hD0 : -16384 ≤ D ∧ D ≤ 16384 := by omega
      obtain ⟨hD1, hD2⟩ := hD0
      have HD := Lib.hid hD
      have HBLK := Lib.hid hblk
      clear hD htb hblk
      go_wp2_with fail
      refine wp_loop_rounds 1 ?_
      rw [rounds_succ]
      obtain ⟨w2, hw2⟩ : ∃ w2, w2 = wr := ⟨_, rfl⟩
      have HB2 := Lib.hid (show w2.heap[b]? = some (.cells #[V, .int .i64 D] 131 (0, 0)) by rw [hw2]; exact HBLK.out)
      have HK2 := Lib.hid (show Keeps (· = b) w w2 by rw [hw2]; exact hkeep)
      rw [← hw2]
      clear hw2 hkeep HBLK
      have hE1 : -16384 ≤ D := by omega
      have hE2 : D ≤ 32768 := by omega
      have HE := Lib.hid (show D = D + total [] by simp [total])
      obtain ⟨E, hE⟩ : ∃ E, E = D := ⟨_, rfl⟩
      rw [← hE] at HB2 hE1 hE2
      have HE2 := Lib.hid (show E = D + total [] by rw [hE]; simp [total])
      clear HE hE
      have g0 : w2.cell? ⟨b, 0, none⟩ = some (.slice (some ⟨g, 0, none⟩) len cap) := by rw [cell_blk HB2.out, HV.out]; rfl
      have g1 : w2.cell? ⟨b, 1, none⟩ = some (.int .i64 E) := by rw [cell_blk HB2.out]; rfl
      obtain ⟨nn, hnn⟩ : ∃ nn, nn = fr + 0 + (len - to) := ⟨_, rfl⟩
      have HREP := Lib.hid (replace_any w2 V (.slice none 0 0) len fr to 0 (flat l) (flat []) (by omega) (by omega) (by omega) (by omega)
        (by rw [HL.out]; exact ownsRow_keeps HS.out.own HK2.out (fun k hk e => HS.out.ne (by rw [hk, e])))
        (World.ownsRow_nil _ _ _ _)
        (fun _ => rfl) (fun k hk e => by cases e) (flat_one _) (flat_one _))
      rw [HV.out, ← hnn] at HREP
      have HNN := Lib.hid hnn
      clear hnn
      clear HC
      go_wp2_with fail
      refine HREP.out.mono ?_
      rintro e w3 ⟨v', rfl, hown3, hgr3, hfr3⟩
      rw [← HV.out] at hgr3 hfr3
      have HEND := Lib.hid (lay_end (fr := fr) (to := to) (ll := []) HS.out (by omega) (by rw [← HL.out]; omega) (by have := HWF.out; rw [HNEW.out] at this; exact this) (D2 := E) (by rw [HE2.out, HD.out, HT.out]) HB2.out HK2.out (n' := nn) (by rw [HNN.out]; rw [HL.out]; rfl) hown3 hgr3 hfr3)
      rw [← HNEW.out] at HEND
      have hb3 : w3.heap[b]? = some (.cells #[V, .int .i64 E] 131 (0, 0)) := (hgr3.block b (lt_blk HB2.out) (fun e => HS.out.ne e.symm)).trans HB2.out
      have i0 : w3.cell? ⟨b, 0, none⟩ = some (.slice (some ⟨g, 0, none⟩) len cap) := by rw [cell_blk hb3, HV.out]; rfl
      have i1 : w3.cell? ⟨b, 1, none⟩ = some (.int .i64 E) := by rw [cell_blk hb3]; rfl
      have i2 : w3.frozen? ⟨b, 0, none⟩ = false := frozen_blk hb3 _
      have i3 : w3.frozen? ⟨b, 1, none⟩ = false := frozen_blk hb3 _
      have hform := ownsRow_formN hown3
      clear hb3 hown3 hgr3 hfr3
      rcases hform with ⟨rfl, hq0, hq1⟩ | ⟨g', cap', rfl, hq2, hq3, hq4⟩
      · clear hq0 hq1
        go_wp2_with fail
        go_ret
        exact ⟨_, _, rfl, HEND.out.1, HEND.out.2.1, HEND.out.2.2⟩
      · clear hq2 hq3 hq4
        go_wp2_with fail
        go_ret
        exact ⟨_, _, rfl, HEND.out.1, HEND.out.2.1, HEND.out.2.2⟩

set_option maxHeartbeats 800000 in
set_option maxRecDepth 100000 in
theorem lay_AD (b : Nat) (g cap fr to : Nat) (h cu : Nat) (l : List (Int × Int)) (ll : List (Int × Int)) (w : World) (hs : IsSet w b (.slice (some ⟨g, 0, none⟩) l.length cap) l) (hlt0 : fr < to) (hto : to ≤ l.length) (hcap : l.length ≤ cap) (_hcm : cap ≤ 9223372036854775807) (hu : w.ownsRow 0 58 2 (.slice (some ⟨h, 0, none⟩) ll.length cu) ll.length (flat ll)) (hub : h ≠ b) (hpos : 0 < ll.length) (hgh : h ≠ g)
    (hwf : Wf (l.take fr ++ ll ++ l.drop to)) :
    Calls Try.prog 76 #[.pointer (some ⟨b, 0, none⟩), .int .i64 fr, .int .i64 to, .slice (some ⟨h, 0, none⟩) ll.length cu] w (LayPost w b (.slice (some ⟨g, 0, none⟩) l.length cap) (l.take fr ++ ll ++ l.drop to)) := by
  have hlt := lt_blk hs.blk
  have hlen := hs.wf.len
  have htot := hs.wf.total
  obtain ⟨len, hl⟩ : ∃ len, len = l.length := ⟨_, rfl⟩
  rw [← hl] at hlen hcap hto
  obtain ⟨T, hT⟩ : ∃ T, T = total l := ⟨_, rfl⟩
  rw [← hT] at htot
  obtain ⟨htot1, htot2, _⟩ := htot
  obtain ⟨V, hV⟩ : ∃ V, V = Value.slice (some ⟨g, 0, none⟩) len cap := ⟨_, rfl⟩
  obtain ⟨NEW, hNEW⟩ : ∃ NEW, NEW = l.take fr ++ ll ++ l.drop to := ⟨_, rfl⟩
  rw [← hl] at hs ⊢
  rw [← hNEW] at hwf
  rw [← hNEW]
  rw [show LayPost w b (.slice (some ⟨g, 0, none⟩) len cap) NEW = LayPost w b V NEW by rw [hV]]
  rw [← hV] at hs
  have hb0 : w.heap[b]? = some (.cells #[V, .int .i64 T] 131 (0, 0)) := by rw [hT]; exact hs.blk
  have c0 : w.cell? ⟨b, 0, none⟩ = some (.slice (some ⟨g, 0, none⟩) len cap) := by rw [cell_blk hb0, hV]; rfl
  have c1 : w.cell? ⟨b, 1, none⟩ = some (.int .i64 T) := by rw [cell_blk hb0]; rfl
  have hg : g < w.heap.size := (hs.own.lt g (by rw [hV]; rfl)).2
  have hgb : g ≠ b := fun e => hs.ne (by rw [hV, ← e]; rfl)
  have hcells : CellsP w g l := by
    have := hs.own
    rw [hV, ← hl] at this
    exact cells_of_own this
  have hh : h < w.heap.size := (hu.lt h rfl).2
  have hcells2 := cells_of_own hu
  have hwl : Wf ll := by
    rw [hNEW] at hwf
    exact ⟨fun x hx => hwf.each x (by simp [hx]), (List.pairwise_append.1 (List.pairwise_append.1 hwf.apart).1).2.1⟩
  have hml := hwl.len
  obtain ⟨m, hm⟩ : ∃ m, m = ll.length := ⟨_, rfl⟩
  rw [← hm] at hml hpos hu
  rw [← hm]
  have HS := Lib.hid hs
  have HB0 := Lib.hid hb0
  have HT := Lib.hid hT
  have HV := Lib.hid hV
  have HNEW := Lib.hid hNEW
  have HWF := Lib.hid hwf
  have HL := Lib.hid hl
  have HM := Lib.hid hm
  have HU := Lib.hid hu
  have HC2 := Lib.hid hcells2
  have HWL := Lib.hid hwl
  have HC := Lib.hid hcells
  clear hs hb0 hT hV hNEW hwf hl hm hu hcells2 hwl hcells
  have hcf : ¬ cap = fr := by omega
  have hft : fr ≤ to := by omega
  go_enter Try.func76, Try.ntmps76
  go_wp2_with fail
  go_loopg [26] (to - fr) (fun gk i wr => ∃ k : Nat, i = .int .i64 k ∧ gk = to - fr - k ∧ k ≤ to - fr ∧ wr.heap[b]? = some (.cells #[V, .int .i64 (T - total ((l.drop fr).take k))] 131 (0, 0)) ∧ Keeps (· = b) w wr)
  case atStart => exact ⟨0, rfl, by omega, by omega, by rw [HB0.out]; simp [total], Keeps.refl _ _⟩
  case round =>
    obtain ⟨k, rfl, rfl, hk, hblk, hkeep⟩ := hrel
    by_cases hltk : k < to - fr
    · obtain ⟨⟨x, y⟩, hx⟩ : ∃ x, l[fr + k]? = some x := ⟨_, List.getElem?_eq_getElem (by have := HL.out; omega)⟩
      have k0 : wr.cell? ⟨g, fr * 2 + k * 2, none⟩ = some (.int .i64 x) := by
        have := (HC.out _ _ hx).1
        rw [Nat.add_mul] at this
        exact (hkeep.cell (p := ⟨g, _, none⟩) hg hgb).trans this
      have k1 : wr.cell? ⟨g, fr * 2 + k * 2 + 1, none⟩ = some (.int .i64 y) := by
        have := (HC.out _ _ hx).2
        rw [Nat.add_mul] at this
        exact (hkeep.cell (p := ⟨g, _, none⟩) hg hgb).trans this
      have htb := (((HS.out.wf).drop fr).take k).total
      obtain ⟨D, hD⟩ : ∃ D, D = T - total ((l.drop fr).take k) := ⟨_, rfl⟩
      rw [← hD] at hblk
      have hx0 : 0 ≤ x ∧ x ≤ 16384 ∧ 0 ≤ y ∧ y ≤ 16384 := by have := HS.out.wf.at hx; simp at this; omega
      have hD0 : -16384 ≤ D ∧ D ≤ 16384 := by omega
      obtain ⟨hx1, hx2, hx3, hx4⟩ := hx0
      obtain ⟨hD1, hD2⟩ := hD0
      have HD := Lib.hid hD
      clear hD htb
      have d1 : wr.cell? ⟨b, 1, none⟩ = some (.int .i64 D) := by rw [cell_blk hblk]; rfl
      have d2 : wr.frozen? ⟨b, 1, none⟩ = false := frozen_blk hblk _
      have hlt3 : b < wr.heap.size := lt_blk hblk
      have HBLK := Lib.hid hblk
      have HX := Lib.hid hx
      clear hblk hx
      go_wp2_with fail
      have e1 : (wr.alloc (.cells #[.int .i64 x, .int .i64 y] 58)).cell? ⟨b, 1, none⟩ = some (.int .i64 D) := by rw [World.cell?_alloc_lt (h := hlt3)]; exact d1
      go_region
      go_wp2_with fail
      go_roundg (to - fr - (k + 1))
      case measure => omega
      case rel =>
        have hr := lay_round (w := w) (D' := D - (y - x)) (x := .int .i64 x) (y := .int .i64 y) HBLK.out hkeep
        refine ⟨k + 1, by go_num, rfl, by omega, ?_, hr.2⟩
        rw [hr.1, total_take_succ (x := (x, y)) (by rw [List.getElem?_drop]; exact HX.out), HD.out]
        congr 6; simp; omega
    · obtain rfl : k = to - fr := by omega
      have htb := (((HS.out.wf).drop fr).take (to - fr)).total
      obtain ⟨D, hD⟩ : ∃ D, D = T - total ((l.drop fr).take (to - fr)) := ⟨_, rfl⟩
      rw [← hD] at hblk
      have hD0 : -16384 ≤ D ∧ D ≤ 16384 := by omega
      obtain ⟨hD1, hD2⟩ := hD0
      have HD := Lib.hid hD
      have HBLK := Lib.hid hblk
      clear hD htb hblk
      go_wp2_with fail
      go_loopg [45] m (fun gk i wq => ∃ k : Nat, i = .int .i64 k ∧ gk = m - k ∧ k ≤ m ∧ wq.heap[b]? = some (.cells #[V, .int .i64 (D + total (ll.take k))] 131 (0, 0)) ∧ Keeps (· = b) w wq)
      case atStart => exact ⟨0, rfl, by omega, by omega, by rw [HBLK.out]; simp [total], hkeep⟩
      clear hkeep HBLK
      case round =>
        obtain ⟨q, rfl, rfl, hq, hblk, hkeep⟩ := hrel
        have htb := ((HWL.out).take q).total
        obtain ⟨E, hE⟩ : ∃ E, E = D + total (ll.take q) := ⟨_, rfl⟩
        rw [← hE] at hblk
        have hE0 : -16384 ≤ E ∧ E ≤ 32768 := by omega
        obtain ⟨hE1, hE2⟩ := hE0
        have HE := Lib.hid hE
        clear hE htb
        by_cases hltq : q < m
        · obtain ⟨⟨x, y⟩, hx⟩ : ∃ x, ll[q]? = some x := ⟨_, List.getElem?_eq_getElem (by have := HM.out; omega)⟩
          have k0 : wr.cell? ⟨h, q * 2, none⟩ = some (.int .i64 x) := (hkeep.cell (p := ⟨h, _, none⟩) hh hub).trans (HC2.out _ _ hx).1
          have k1 : wr.cell? ⟨h, q * 2 + 1, none⟩ = some (.int .i64 y) := (hkeep.cell (p := ⟨h, _, none⟩) hh hub).trans (HC2.out _ _ hx).2
          have hx0 : 0 ≤ x ∧ x ≤ 16384 ∧ 0 ≤ y ∧ y ≤ 16384 := by have := HWL.out.at hx; simp at this; omega
          obtain ⟨hx1, hx2, hx3, hx4⟩ := hx0
          have d1 : wr.cell? ⟨b, 1, none⟩ = some (.int .i64 E) := by rw [cell_blk hblk]; rfl
          have d2 : wr.frozen? ⟨b, 1, none⟩ = false := frozen_blk hblk _
          have hlt3 : b < wr.heap.size := lt_blk hblk
          have HBLK := Lib.hid hblk
          have HX := Lib.hid hx
          clear hblk hx
          go_wp2_with fail
          have e1 : (wr.alloc (.cells #[.int .i64 x, .int .i64 y] 58)).cell? ⟨b, 1, none⟩ = some (.int .i64 E) := by rw [World.cell?_alloc_lt (h := hlt3)]; exact d1
          go_region
          go_wp2_with fail
          go_roundg (m - (q + 1))
          case measure => omega
          case rel =>
            have hr := lay_round (w := w) (D' := E + (y - x)) (x := .int .i64 x) (y := .int .i64 y) HBLK.out hkeep
            refine ⟨q + 1, by go_num, rfl, by omega, ?_, hr.2⟩
            rw [hr.1, total_take_succ (x := (x, y)) HX.out, HE.out]
            congr 6; simp; omega
        · obtain rfl : q = m := by omega
          obtain ⟨w2, hw2⟩ : ∃ w2, w2 = wr := ⟨_, rfl⟩
          have HB2 := Lib.hid (show w2.heap[b]? = some (.cells #[V, .int .i64 E] 131 (0, 0)) by rw [hw2]; exact hblk)
          have HK2 := Lib.hid (show Keeps (· = b) w w2 by rw [hw2]; exact hkeep)
          have HE2 := Lib.hid (show E = D + total ll by rw [HE.out, HM.out, List.take_of_length_le (Nat.le_refl _)])
          rw [← hw2]
          clear hw2 hblk hkeep
          have g0 : w2.cell? ⟨b, 0, none⟩ = some (.slice (some ⟨g, 0, none⟩) len cap) := by rw [cell_blk HB2.out, HV.out]; rfl
          have g1 : w2.cell? ⟨b, 1, none⟩ = some (.int .i64 E) := by rw [cell_blk HB2.out]; rfl
          obtain ⟨nn, hnn⟩ : ∃ nn, nn = fr + q + (len - to) := ⟨_, rfl⟩
          have HREP := Lib.hid (replace_any w2 V (.slice (some ⟨h, 0, none⟩) q cu) len fr to q (flat l) (flat ll) (by omega) (by omega) (by omega) (by omega)
            (by rw [HL.out]; exact ownsRow_keeps HS.out.own HK2.out (fun k hk e => HS.out.ne (by rw [hk, e])))
            (ownsRow_keeps HU.out HK2.out (fun k hk e => hub (by cases hk; exact e)))
            (fun e => by omega) (fun k hk e => by rw [HV.out] at hk; cases hk; cases e; exact hgh rfl) (flat_one _) (flat_one _))
          rw [HV.out, ← hnn] at HREP
          have HNN := Lib.hid hnn
          clear hnn
          clear HC2 HWL HU HC
          go_wp2_with fail
          refine HREP.out.mono ?_
          rintro e w3 ⟨v', rfl, hown3, hgr3, hfr3⟩
          rw [← HV.out] at hgr3 hfr3
          have HEND := Lib.hid (lay_end (fr := fr) (to := to) (ll := ll) HS.out (by omega) (by rw [← HL.out]; omega) (by have := HWF.out; rw [HNEW.out] at this; exact this) (D2 := E) (by rw [HE2.out, HD.out, HT.out]) HB2.out HK2.out (n' := nn) (by rw [HNN.out]; rw [HL.out, HM.out]) hown3 hgr3 hfr3)
          rw [← HNEW.out] at HEND
          have hb3 : w3.heap[b]? = some (.cells #[V, .int .i64 E] 131 (0, 0)) := (hgr3.block b (lt_blk HB2.out) (fun e => HS.out.ne e.symm)).trans HB2.out
          have i0 : w3.cell? ⟨b, 0, none⟩ = some (.slice (some ⟨g, 0, none⟩) len cap) := by rw [cell_blk hb3, HV.out]; rfl
          have i1 : w3.cell? ⟨b, 1, none⟩ = some (.int .i64 E) := by rw [cell_blk hb3]; rfl
          have i2 : w3.frozen? ⟨b, 0, none⟩ = false := frozen_blk hb3 _
          have i3 : w3.frozen? ⟨b, 1, none⟩ = false := frozen_blk hb3 _
          have hform := ownsRow_formN hown3
          clear hb3 hown3 hgr3 hfr3
          rcases hform with ⟨rfl, hq0, hq1⟩ | ⟨g', cap', rfl, hq2, hq3, hq4⟩
          · exfalso; have := HNN.out; omega
          · clear hq2 hq3 hq4
            go_wp2_with fail
            go_ret
            exact ⟨_, _, rfl, HEND.out.1, HEND.out.2.1, HEND.out.2.2⟩

set_option maxHeartbeats 800000 in
set_option maxRecDepth 100000 in
theorem lay_B0C (b : Nat)   (l : List (Int × Int))  (w : World) (hs : IsSet w b (.slice none 0 0) l) (hl0 : l = []) 
    (hwf : Wf (l.take 0 ++ [] ++ l.drop 0)) :
    Calls Try.prog 76 #[.pointer (some ⟨b, 0, none⟩), .int .i64 0, .int .i64 0, .slice none 0 0] w (LayPost w b (.slice none 0 0) (l.take 0 ++ [] ++ l.drop 0)) := by
  subst hl0
  have hlt := lt_blk hs.blk
  have hlen := hs.wf.len
  have htot := hs.wf.total
  obtain ⟨T, hT⟩ : ∃ T, T = total [] := ⟨_, rfl⟩
  rw [← hT] at htot
  obtain ⟨htot1, htot2, _⟩ := htot
  obtain ⟨V, hV⟩ : ∃ V, V = Value.slice none 0 0 := ⟨_, rfl⟩
  obtain ⟨NEW, hNEW⟩ : ∃ NEW, NEW = ([] : List (Int × Int)).take 0 ++ [] ++ ([] : List (Int × Int)).drop 0 := ⟨_, rfl⟩
  rw [← hNEW] at hwf
  rw [← hNEW]
  rw [show LayPost w b (.slice none 0 0) NEW = LayPost w b V NEW by rw [hV]]
  rw [← hV] at hs
  have hb0 : w.heap[b]? = some (.cells #[V, .int .i64 T] 131 (0, 0)) := by rw [hT]; exact hs.blk
  have c0 : w.cell? ⟨b, 0, none⟩ = some (.slice none 0 0) := by rw [cell_blk hb0, hV]; rfl
  have c1 : w.cell? ⟨b, 1, none⟩ = some (.int .i64 T) := by rw [cell_blk hb0]; rfl
  have HS := Lib.hid hs
  have HB0 := Lib.hid hb0
  have HT := Lib.hid hT
  have HV := Lib.hid hV
  have HNEW := Lib.hid hNEW
  have HWF := Lib.hid hwf
  clear hs hb0 hT hV hNEW hwf
  go_enter Try.func76, Try.ntmps76
  go_wp2_with fail
  refine wp_loop_rounds 1 ?_
  rw [rounds_succ]
  go_wp2_with fail
  obtain ⟨D, hD⟩ : ∃ D, D = T := ⟨_, rfl⟩
  have HD := Lib.hid hD
  have HBLK := Lib.hid (show w.heap[b]? = some (.cells #[V, .int .i64 D] 131 (0, 0)) by rw [hD]; exact HB0.out)
  have hkeep : Keeps (· = b) w w := Keeps.refl _ _
  have hD1 : -16384 ≤ D := by omega
  have hD2 : D ≤ 16384 := by omega
  clear hD
  refine wp_loop_rounds 1 ?_
  rw [rounds_succ]
  obtain ⟨w2, hw2⟩ : ∃ w2, w2 = w := ⟨_, rfl⟩
  have HB2 := Lib.hid (show w2.heap[b]? = some (.cells #[V, .int .i64 D] 131 (0, 0)) by rw [hw2]; exact HBLK.out)
  have HK2 := Lib.hid (show Keeps (· = b) w w2 by rw [hw2]; exact hkeep)
  rw [← hw2]
  clear hw2 hkeep HBLK
  have hE1 : -16384 ≤ D := by omega
  have hE2 : D ≤ 32768 := by omega
  have HE := Lib.hid (show D = D + total [] by simp [total])
  obtain ⟨E, hE⟩ : ∃ E, E = D := ⟨_, rfl⟩
  rw [← hE] at HB2 hE1 hE2
  have HE2 := Lib.hid (show E = D + total [] by rw [hE]; simp [total])
  clear HE hE
  have g0 : w2.cell? ⟨b, 0, none⟩ = some (.slice none 0 0) := by rw [cell_blk HB2.out, HV.out]; rfl
  have g1 : w2.cell? ⟨b, 1, none⟩ = some (.int .i64 E) := by rw [cell_blk HB2.out]; rfl
  obtain ⟨nn, hnn⟩ : ∃ nn, nn = 0 + 0 + (0 - 0) := ⟨_, rfl⟩
  have HREP := Lib.hid (replace_any w2 V (.slice none 0 0) 0 0 0 0 (flat ([] : List (Int × Int))) (flat []) (by omega) (by omega) (by omega) (by omega)
    (ownsRow_keeps HS.out.own HK2.out (fun k hk e => HS.out.ne (by rw [hk, e])))
    (World.ownsRow_nil _ _ _ _)
    (fun _ => rfl) (fun k hk e => by cases e) (flat_one _) (flat_one _))
  rw [HV.out, ← hnn] at HREP
  have HNN := Lib.hid hnn
  clear hnn
  go_wp2_with fail
  refine HREP.out.mono ?_
  rintro e w3 ⟨v', rfl, hown3, hgr3, hfr3⟩
  rw [← HV.out] at hgr3 hfr3
  have HEND := Lib.hid (lay_end (fr := 0) (to := 0) (ll := []) HS.out (by omega) (by simp) (by have := HWF.out; rw [HNEW.out] at this; exact this) (D2 := E) (by rw [HE2.out, HD.out, HT.out]; simp [total]) HB2.out HK2.out (n' := nn) (by rw [HNN.out]; rfl) hown3 hgr3 hfr3)
  rw [← HNEW.out] at HEND
  have hb3 : w3.heap[b]? = some (.cells #[V, .int .i64 E] 131 (0, 0)) := (hgr3.block b (lt_blk HB2.out) (fun e => HS.out.ne e.symm)).trans HB2.out
  have i0 : w3.cell? ⟨b, 0, none⟩ = some (.slice none 0 0) := by rw [cell_blk hb3, HV.out]; rfl
  have i1 : w3.cell? ⟨b, 1, none⟩ = some (.int .i64 E) := by rw [cell_blk hb3]; rfl
  have i2 : w3.frozen? ⟨b, 0, none⟩ = false := frozen_blk hb3 _
  have i3 : w3.frozen? ⟨b, 1, none⟩ = false := frozen_blk hb3 _
  have hform := ownsRow_formN hown3
  clear hb3 hown3 hgr3 hfr3
  rcases hform with ⟨rfl, hq0, hq1⟩ | ⟨g', cap', rfl, hq2, hq3, hq4⟩
  · clear hq0 hq1
    go_wp2_with fail
    go_ret
    exact ⟨_, _, rfl, HEND.out.1, HEND.out.2.1, HEND.out.2.2⟩
  · clear hq2 hq3 hq4
    go_wp2_with fail
    go_ret
    exact ⟨_, _, rfl, HEND.out.1, HEND.out.2.1, HEND.out.2.2⟩

set_option maxHeartbeats 800000 in
set_option maxRecDepth 100000 in
theorem lay_B0D (b : Nat)  (h cu : Nat) (l : List (Int × Int)) (ll : List (Int × Int)) (w : World) (hs : IsSet w b (.slice none 0 0) l) (hl0 : l = []) (hu : w.ownsRow 0 58 2 (.slice (some ⟨h, 0, none⟩) ll.length cu) ll.length (flat ll)) (hub : h ≠ b) (hpos : 0 < ll.length)
    (hwf : Wf (l.take 0 ++ ll ++ l.drop 0)) :
    Calls Try.prog 76 #[.pointer (some ⟨b, 0, none⟩), .int .i64 0, .int .i64 0, .slice (some ⟨h, 0, none⟩) ll.length cu] w (LayPost w b (.slice none 0 0) (l.take 0 ++ ll ++ l.drop 0)) := by
  subst hl0
  have hlt := lt_blk hs.blk
  have hlen := hs.wf.len
  have htot := hs.wf.total
  obtain ⟨T, hT⟩ : ∃ T, T = total [] := ⟨_, rfl⟩
  rw [← hT] at htot
  obtain ⟨htot1, htot2, _⟩ := htot
  obtain ⟨V, hV⟩ : ∃ V, V = Value.slice none 0 0 := ⟨_, rfl⟩
  obtain ⟨NEW, hNEW⟩ : ∃ NEW, NEW = ([] : List (Int × Int)).take 0 ++ ll ++ ([] : List (Int × Int)).drop 0 := ⟨_, rfl⟩
  rw [← hNEW] at hwf
  rw [← hNEW]
  rw [show LayPost w b (.slice none 0 0) NEW = LayPost w b V NEW by rw [hV]]
  rw [← hV] at hs
  have hb0 : w.heap[b]? = some (.cells #[V, .int .i64 T] 131 (0, 0)) := by rw [hT]; exact hs.blk
  have c0 : w.cell? ⟨b, 0, none⟩ = some (.slice none 0 0) := by rw [cell_blk hb0, hV]; rfl
  have c1 : w.cell? ⟨b, 1, none⟩ = some (.int .i64 T) := by rw [cell_blk hb0]; rfl
  have hh : h < w.heap.size := (hu.lt h rfl).2
  have hcells2 := cells_of_own hu
  have hwl : Wf ll := by
    rw [hNEW] at hwf
    exact ⟨fun x hx => hwf.each x (by simp [hx]), (List.pairwise_append.1 (List.pairwise_append.1 hwf.apart).1).2.1⟩
  have hml := hwl.len
  obtain ⟨m, hm⟩ : ∃ m, m = ll.length := ⟨_, rfl⟩
  rw [← hm] at hml hpos hu
  rw [← hm]
  have HS := Lib.hid hs
  have HB0 := Lib.hid hb0
  have HT := Lib.hid hT
  have HV := Lib.hid hV
  have HNEW := Lib.hid hNEW
  have HWF := Lib.hid hwf
  have HM := Lib.hid hm
  have HU := Lib.hid hu
  have HC2 := Lib.hid hcells2
  have HWL := Lib.hid hwl
  clear hs hb0 hT hV hNEW hwf hm hu hcells2 hwl
  go_enter Try.func76, Try.ntmps76
  go_wp2_with fail
  refine wp_loop_rounds 1 ?_
  rw [rounds_succ]
  go_wp2_with fail
  obtain ⟨D, hD⟩ : ∃ D, D = T := ⟨_, rfl⟩
  have HD := Lib.hid hD
  have HBLK := Lib.hid (show w.heap[b]? = some (.cells #[V, .int .i64 D] 131 (0, 0)) by rw [hD]; exact HB0.out)
  have hkeep : Keeps (· = b) w w := Keeps.refl _ _
  have hD1 : -16384 ≤ D := by omega
  have hD2 : D ≤ 16384 := by omega
  clear hD
  go_loopg [45] m (fun gk i wq => ∃ k : Nat, i = .int .i64 k ∧ gk = m - k ∧ k ≤ m ∧ wq.heap[b]? = some (.cells #[V, .int .i64 (D + total (ll.take k))] 131 (0, 0)) ∧ Keeps (· = b) w wq)
  case atStart => exact ⟨0, rfl, by omega, by omega, by rw [HBLK.out]; simp [total], hkeep⟩
  clear hkeep HBLK
  case round =>
    obtain ⟨q, rfl, rfl, hq, hblk, hkeep⟩ := hrel
    have htb := ((HWL.out).take q).total
    obtain ⟨E, hE⟩ : ∃ E, E = D + total (ll.take q) := ⟨_, rfl⟩
    rw [← hE] at hblk
    have hE0 : -16384 ≤ E ∧ E ≤ 32768 := by omega
    obtain ⟨hE1, hE2⟩ := hE0
    have HE := Lib.hid hE
    clear hE htb
    by_cases hltq : q < m
    · obtain ⟨⟨x, y⟩, hx⟩ : ∃ x, ll[q]? = some x := ⟨_, List.getElem?_eq_getElem (by have := HM.out; omega)⟩
      have k0 : wr.cell? ⟨h, q * 2, none⟩ = some (.int .i64 x) := (hkeep.cell (p := ⟨h, _, none⟩) hh hub).trans (HC2.out _ _ hx).1
      have k1 : wr.cell? ⟨h, q * 2 + 1, none⟩ = some (.int .i64 y) := (hkeep.cell (p := ⟨h, _, none⟩) hh hub).trans (HC2.out _ _ hx).2
      have hx0 : 0 ≤ x ∧ x ≤ 16384 ∧ 0 ≤ y ∧ y ≤ 16384 := by have := HWL.out.at hx; simp at this; omega
      obtain ⟨hx1, hx2, hx3, hx4⟩ := hx0
      have d1 : wr.cell? ⟨b, 1, none⟩ = some (.int .i64 E) := by rw [cell_blk hblk]; rfl
      have d2 : wr.frozen? ⟨b, 1, none⟩ = false := frozen_blk hblk _
      have hlt3 : b < wr.heap.size := lt_blk hblk
      have HBLK := Lib.hid hblk
      have HX := Lib.hid hx
      clear hblk hx
      go_wp2_with fail
      have e1 : (wr.alloc (.cells #[.int .i64 x, .int .i64 y] 58)).cell? ⟨b, 1, none⟩ = some (.int .i64 E) := by rw [World.cell?_alloc_lt (h := hlt3)]; exact d1
      go_region
      go_wp2_with fail
      go_roundg (m - (q + 1))
      case measure => omega
      case rel =>
        have hr := lay_round (w := w) (D' := E + (y - x)) (x := .int .i64 x) (y := .int .i64 y) HBLK.out hkeep
        refine ⟨q + 1, by go_num, rfl, by omega, ?_, hr.2⟩
        rw [hr.1, total_take_succ (x := (x, y)) HX.out, HE.out]
        congr 6; simp; omega
    · obtain rfl : q = m := by omega
      obtain ⟨w2, hw2⟩ : ∃ w2, w2 = wr := ⟨_, rfl⟩
      have HB2 := Lib.hid (show w2.heap[b]? = some (.cells #[V, .int .i64 E] 131 (0, 0)) by rw [hw2]; exact hblk)
      have HK2 := Lib.hid (show Keeps (· = b) w w2 by rw [hw2]; exact hkeep)
      have HE2 := Lib.hid (show E = D + total ll by rw [HE.out, HM.out, List.take_of_length_le (Nat.le_refl _)])
      rw [← hw2]
      clear hw2 hblk hkeep
      have g0 : w2.cell? ⟨b, 0, none⟩ = some (.slice none 0 0) := by rw [cell_blk HB2.out, HV.out]; rfl
      have g1 : w2.cell? ⟨b, 1, none⟩ = some (.int .i64 E) := by rw [cell_blk HB2.out]; rfl
      obtain ⟨nn, hnn⟩ : ∃ nn, nn = 0 + q + (0 - 0) := ⟨_, rfl⟩
      have HREP := Lib.hid (replace_any w2 V (.slice (some ⟨h, 0, none⟩) q cu) 0 0 0 q (flat ([] : List (Int × Int))) (flat ll) (by omega) (by omega) (by omega) (by omega)
        (ownsRow_keeps HS.out.own HK2.out (fun k hk e => HS.out.ne (by rw [hk, e])))
        (ownsRow_keeps HU.out HK2.out (fun k hk e => hub (by cases hk; exact e)))
        (fun e => by omega) (fun k hk e => by rw [HV.out] at hk; cases hk) (flat_one _) (flat_one _))
      rw [HV.out, ← hnn] at HREP
      have HNN := Lib.hid hnn
      clear hnn
      clear HC2 HWL HU
      go_wp2_with fail
      refine HREP.out.mono ?_
      rintro e w3 ⟨v', rfl, hown3, hgr3, hfr3⟩
      rw [← HV.out] at hgr3 hfr3
      have HEND := Lib.hid (lay_end (fr := 0) (to := 0) (ll := ll) HS.out (by omega) (by simp) (by have := HWF.out; rw [HNEW.out] at this; exact this) (D2 := E) (by rw [HE2.out, HD.out, HT.out]; simp [total]) HB2.out HK2.out (n' := nn) (by rw [HNN.out]; rw [HM.out]; rfl) hown3 hgr3 hfr3)
      rw [← HNEW.out] at HEND
      have hb3 : w3.heap[b]? = some (.cells #[V, .int .i64 E] 131 (0, 0)) := (hgr3.block b (lt_blk HB2.out) (fun e => HS.out.ne e.symm)).trans HB2.out
      have i0 : w3.cell? ⟨b, 0, none⟩ = some (.slice none 0 0) := by rw [cell_blk hb3, HV.out]; rfl
      have i1 : w3.cell? ⟨b, 1, none⟩ = some (.int .i64 E) := by rw [cell_blk hb3]; rfl
      have i2 : w3.frozen? ⟨b, 0, none⟩ = false := frozen_blk hb3 _
      have i3 : w3.frozen? ⟨b, 1, none⟩ = false := frozen_blk hb3 _
      have hform := ownsRow_formN hown3
      clear hb3 hown3 hgr3 hfr3
      rcases hform with ⟨rfl, hq0, hq1⟩ | ⟨g', cap', rfl, hq2, hq3, hq4⟩
      · exfalso; have := HNN.out; omega
      · clear hq2 hq3 hq4
        go_wp2_with fail
        go_ret
        exact ⟨_, _, rfl, HEND.out.1, HEND.out.2.1, HEND.out.2.2⟩

set_option maxHeartbeats 800000 in
set_option maxRecDepth 100000 in
theorem lay_B1C (b : Nat) (g cap : Nat)  (l : List (Int × Int))  (w : World) (hs : IsSet w b (.slice (some ⟨g, 0, none⟩) l.length cap) l) (hcap : l.length = cap) (_hcm : cap ≤ 9223372036854775807) 
    (hwf : Wf (l.take cap ++ [] ++ l.drop cap)) :
    Calls Try.prog 76 #[.pointer (some ⟨b, 0, none⟩), .int .i64 cap, .int .i64 cap, .slice none 0 0] w (LayPost w b (.slice (some ⟨g, 0, none⟩) l.length cap) (l.take cap ++ [] ++ l.drop cap)) := by
  have hlt := lt_blk hs.blk
  have hlen := hs.wf.len
  have htot := hs.wf.total
  obtain ⟨len, hl⟩ : ∃ len, len = l.length := ⟨_, rfl⟩
  rw [← hl] at hlen hcap
  obtain rfl : cap = len := hcap.symm
  obtain ⟨T, hT⟩ : ∃ T, T = total l := ⟨_, rfl⟩
  rw [← hT] at htot
  obtain ⟨htot1, htot2, _⟩ := htot
  obtain ⟨V, hV⟩ : ∃ V, V = Value.slice (some ⟨g, 0, none⟩) cap cap := ⟨_, rfl⟩
  obtain ⟨NEW, hNEW⟩ : ∃ NEW, NEW = l.take cap ++ [] ++ l.drop cap := ⟨_, rfl⟩
  rw [← hl] at hs ⊢
  rw [← hNEW] at hwf
  rw [← hNEW]
  rw [show LayPost w b (.slice (some ⟨g, 0, none⟩) cap cap) NEW = LayPost w b V NEW by rw [hV]]
  rw [← hV] at hs
  have hb0 : w.heap[b]? = some (.cells #[V, .int .i64 T] 131 (0, 0)) := by rw [hT]; exact hs.blk
  have c0 : w.cell? ⟨b, 0, none⟩ = some (.slice (some ⟨g, 0, none⟩) cap cap) := by rw [cell_blk hb0, hV]; rfl
  have c1 : w.cell? ⟨b, 1, none⟩ = some (.int .i64 T) := by rw [cell_blk hb0]; rfl
  have HS := Lib.hid hs
  have HB0 := Lib.hid hb0
  have HT := Lib.hid hT
  have HV := Lib.hid hV
  have HNEW := Lib.hid hNEW
  have HWF := Lib.hid hwf
  have HL := Lib.hid hl
  clear hs hb0 hT hV hNEW hwf hl
  have hz0 : cap - cap = 0 := Nat.sub_self _
  go_enter Try.func76, Try.ntmps76
  go_wp2_with fail
  refine wp_loop_rounds 1 ?_
  rw [rounds_succ]
  go_wp2_with fail
  obtain ⟨D, hD⟩ : ∃ D, D = T := ⟨_, rfl⟩
  have HD := Lib.hid hD
  have HBLK := Lib.hid (show w.heap[b]? = some (.cells #[V, .int .i64 D] 131 (0, 0)) by rw [hD]; exact HB0.out)
  have hkeep : Keeps (· = b) w w := Keeps.refl _ _
  have hD1 : -16384 ≤ D := by omega
  have hD2 : D ≤ 16384 := by omega
  clear hD
  refine wp_loop_rounds 1 ?_
  rw [rounds_succ]
  obtain ⟨w2, hw2⟩ : ∃ w2, w2 = w := ⟨_, rfl⟩
  have HB2 := Lib.hid (show w2.heap[b]? = some (.cells #[V, .int .i64 D] 131 (0, 0)) by rw [hw2]; exact HBLK.out)
  have HK2 := Lib.hid (show Keeps (· = b) w w2 by rw [hw2]; exact hkeep)
  rw [← hw2]
  clear hw2 hkeep HBLK
  have hE1 : -16384 ≤ D := by omega
  have hE2 : D ≤ 32768 := by omega
  have HE := Lib.hid (show D = D + total [] by simp [total])
  obtain ⟨E, hE⟩ : ∃ E, E = D := ⟨_, rfl⟩
  rw [← hE] at HB2 hE1 hE2
  have HE2 := Lib.hid (show E = D + total [] by rw [hE]; simp [total])
  clear HE hE
  have g0 : w2.cell? ⟨b, 0, none⟩ = some (.slice (some ⟨g, 0, none⟩) cap cap) := by rw [cell_blk HB2.out, HV.out]; rfl
  have g1 : w2.cell? ⟨b, 1, none⟩ = some (.int .i64 E) := by rw [cell_blk HB2.out]; rfl
  obtain ⟨nn, hnn⟩ : ∃ nn, nn = cap + 0 + (cap - cap) := ⟨_, rfl⟩
  have HREP := Lib.hid (replace_any w2 V (.slice none 0 0) cap cap cap 0 (flat l) (flat []) (by omega) (by omega) (by omega) (by omega)
    (by rw [HL.out]; exact ownsRow_keeps HS.out.own HK2.out (fun k hk e => HS.out.ne (by rw [hk, e])))
    (World.ownsRow_nil _ _ _ _)
    (fun _ => rfl) (fun k hk e => by cases e) (flat_one _) (flat_one _))
  rw [HV.out, ← hnn] at HREP
  have HNN := Lib.hid hnn
  clear hnn
  go_wp2_with fail
  refine HREP.out.mono ?_
  rintro e w3 ⟨v', rfl, hown3, hgr3, hfr3⟩
  rw [← HV.out] at hgr3 hfr3
  have HEND := Lib.hid (lay_end (fr := cap) (to := cap) (ll := []) HS.out (by omega) (by rw [← HL.out]; omega) (by have := HWF.out; rw [HNEW.out] at this; exact this) (D2 := E) (by rw [HE2.out, HD.out, HT.out]; simp [total]) HB2.out HK2.out (n' := nn) (by rw [HNN.out]; rw [HL.out]; rfl) hown3 hgr3 hfr3)
  rw [← HNEW.out] at HEND
  have hb3 : w3.heap[b]? = some (.cells #[V, .int .i64 E] 131 (0, 0)) := (hgr3.block b (lt_blk HB2.out) (fun e => HS.out.ne e.symm)).trans HB2.out
  have i0 : w3.cell? ⟨b, 0, none⟩ = some (.slice (some ⟨g, 0, none⟩) cap cap) := by rw [cell_blk hb3, HV.out]; rfl
  have i1 : w3.cell? ⟨b, 1, none⟩ = some (.int .i64 E) := by rw [cell_blk hb3]; rfl
  have i2 : w3.frozen? ⟨b, 0, none⟩ = false := frozen_blk hb3 _
  have i3 : w3.frozen? ⟨b, 1, none⟩ = false := frozen_blk hb3 _
  have hform := ownsRow_formN hown3
  clear hb3 hown3 hgr3 hfr3
  rcases hform with ⟨rfl, hq0, hq1⟩ | ⟨g', cap', rfl, hq2, hq3, hq4⟩
  · clear hq0 hq1
    go_wp2_with fail
    go_ret
    exact ⟨_, _, rfl, HEND.out.1, HEND.out.2.1, HEND.out.2.2⟩
  · clear hq2 hq3 hq4
    go_wp2_with fail
    go_ret
    exact ⟨_, _, rfl, HEND.out.1, HEND.out.2.1, HEND.out.2.2⟩

set_option maxHeartbeats 800000 in
set_option maxRecDepth 100000 in
theorem lay_B1D (b : Nat) (g cap : Nat) (h cu : Nat) (l : List (Int × Int)) (ll : List (Int × Int)) (w : World) (hs : IsSet w b (.slice (some ⟨g, 0, none⟩) l.length cap) l) (hcap : l.length = cap) (_hcm : cap ≤ 9223372036854775807) (hu : w.ownsRow 0 58 2 (.slice (some ⟨h, 0, none⟩) ll.length cu) ll.length (flat ll)) (hub : h ≠ b) (hpos : 0 < ll.length) (hgh : h ≠ g)
    (hwf : Wf (l.take cap ++ ll ++ l.drop cap)) :
    Calls Try.prog 76 #[.pointer (some ⟨b, 0, none⟩), .int .i64 cap, .int .i64 cap, .slice (some ⟨h, 0, none⟩) ll.length cu] w (LayPost w b (.slice (some ⟨g, 0, none⟩) l.length cap) (l.take cap ++ ll ++ l.drop cap)) := by
  have hlt := lt_blk hs.blk
  have hlen := hs.wf.len
  have htot := hs.wf.total
  obtain ⟨len, hl⟩ : ∃ len, len = l.length := ⟨_, rfl⟩
  rw [← hl] at hlen hcap
  obtain rfl : cap = len := hcap.symm
  obtain ⟨T, hT⟩ : ∃ T, T = total l := ⟨_, rfl⟩
  rw [← hT] at htot
  obtain ⟨htot1, htot2, _⟩ := htot
  obtain ⟨V, hV⟩ : ∃ V, V = Value.slice (some ⟨g, 0, none⟩) cap cap := ⟨_, rfl⟩
  obtain ⟨NEW, hNEW⟩ : ∃ NEW, NEW = l.take cap ++ ll ++ l.drop cap := ⟨_, rfl⟩
  rw [← hl] at hs ⊢
  rw [← hNEW] at hwf
  rw [← hNEW]
  rw [show LayPost w b (.slice (some ⟨g, 0, none⟩) cap cap) NEW = LayPost w b V NEW by rw [hV]]
  rw [← hV] at hs
  have hb0 : w.heap[b]? = some (.cells #[V, .int .i64 T] 131 (0, 0)) := by rw [hT]; exact hs.blk
  have c0 : w.cell? ⟨b, 0, none⟩ = some (.slice (some ⟨g, 0, none⟩) cap cap) := by rw [cell_blk hb0, hV]; rfl
  have c1 : w.cell? ⟨b, 1, none⟩ = some (.int .i64 T) := by rw [cell_blk hb0]; rfl
  have hh : h < w.heap.size := (hu.lt h rfl).2
  have hcells2 := cells_of_own hu
  have hwl : Wf ll := by
    rw [hNEW] at hwf
    exact ⟨fun x hx => hwf.each x (by simp [hx]), (List.pairwise_append.1 (List.pairwise_append.1 hwf.apart).1).2.1⟩
  have hml := hwl.len
  obtain ⟨m, hm⟩ : ∃ m, m = ll.length := ⟨_, rfl⟩
  rw [← hm] at hml hpos hu
  rw [← hm]
  have HS := Lib.hid hs
  have HB0 := Lib.hid hb0
  have HT := Lib.hid hT
  have HV := Lib.hid hV
  have HNEW := Lib.hid hNEW
  have HWF := Lib.hid hwf
  have HL := Lib.hid hl
  have HM := Lib.hid hm
  have HU := Lib.hid hu
  have HC2 := Lib.hid hcells2
  have HWL := Lib.hid hwl
  clear hs hb0 hT hV hNEW hwf hl hm hu hcells2 hwl
  have hz0 : cap - cap = 0 := Nat.sub_self _
  go_enter Try.func76, Try.ntmps76
  go_wp2_with fail
  refine wp_loop_rounds 1 ?_
  rw [rounds_succ]
  go_wp2_with fail
  obtain ⟨D, hD⟩ : ∃ D, D = T := ⟨_, rfl⟩
  have HD := Lib.hid hD
  have HBLK := Lib.hid (show w.heap[b]? = some (.cells #[V, .int .i64 D] 131 (0, 0)) by rw [hD]; exact HB0.out)
  have hkeep : Keeps (· = b) w w := Keeps.refl _ _
  have hD1 : -16384 ≤ D := by omega
  have hD2 : D ≤ 16384 := by omega
  clear hD
  go_loopg [45] m (fun gk i wq => ∃ k : Nat, i = .int .i64 k ∧ gk = m - k ∧ k ≤ m ∧ wq.heap[b]? = some (.cells #[V, .int .i64 (D + total (ll.take k))] 131 (0, 0)) ∧ Keeps (· = b) w wq)
  case atStart => exact ⟨0, rfl, by omega, by omega, by rw [HBLK.out]; simp [total], hkeep⟩
  clear hkeep HBLK
  case round =>
    obtain ⟨q, rfl, rfl, hq, hblk, hkeep⟩ := hrel
    have htb := ((HWL.out).take q).total
    obtain ⟨E, hE⟩ : ∃ E, E = D + total (ll.take q) := ⟨_, rfl⟩
    rw [← hE] at hblk
    have hE0 : -16384 ≤ E ∧ E ≤ 32768 := by omega
    obtain ⟨hE1, hE2⟩ := hE0
    have HE := Lib.hid hE
    clear hE htb
    by_cases hltq : q < m
    · obtain ⟨⟨x, y⟩, hx⟩ : ∃ x, ll[q]? = some x := ⟨_, List.getElem?_eq_getElem (by have := HM.out; omega)⟩
      have k0 : wr.cell? ⟨h, q * 2, none⟩ = some (.int .i64 x) := (hkeep.cell (p := ⟨h, _, none⟩) hh hub).trans (HC2.out _ _ hx).1
      have k1 : wr.cell? ⟨h, q * 2 + 1, none⟩ = some (.int .i64 y) := (hkeep.cell (p := ⟨h, _, none⟩) hh hub).trans (HC2.out _ _ hx).2
      have hx0 : 0 ≤ x ∧ x ≤ 16384 ∧ 0 ≤ y ∧ y ≤ 16384 := by have := HWL.out.at hx; simp at this; omega
      obtain ⟨hx1, hx2, hx3, hx4⟩ := hx0
      have d1 : wr.cell? ⟨b, 1, none⟩ = some (.int .i64 E) := by rw [cell_blk hblk]; rfl
      have d2 : wr.frozen? ⟨b, 1, none⟩ = false := frozen_blk hblk _
      have hlt3 : b < wr.heap.size := lt_blk hblk
      have HBLK := Lib.hid hblk
      have HX := Lib.hid hx
      clear hblk hx
      go_wp2_with fail
      have e1 : (wr.alloc (.cells #[.int .i64 x, .int .i64 y] 58)).cell? ⟨b, 1, none⟩ = some (.int .i64 E) := by rw [World.cell?_alloc_lt (h := hlt3)]; exact d1
      go_region
      go_wp2_with fail
      go_roundg (m - (q + 1))
      case measure => omega
      case rel =>
        have hr := lay_round (w := w) (D' := E + (y - x)) (x := .int .i64 x) (y := .int .i64 y) HBLK.out hkeep
        refine ⟨q + 1, by go_num, rfl, by omega, ?_, hr.2⟩
        rw [hr.1, total_take_succ (x := (x, y)) HX.out, HE.out]
        congr 6; simp; omega
    · obtain rfl : q = m := by omega
      obtain ⟨w2, hw2⟩ : ∃ w2, w2 = wr := ⟨_, rfl⟩
      have HB2 := Lib.hid (show w2.heap[b]? = some (.cells #[V, .int .i64 E] 131 (0, 0)) by rw [hw2]; exact hblk)
      have HK2 := Lib.hid (show Keeps (· = b) w w2 by rw [hw2]; exact hkeep)
      have HE2 := Lib.hid (show E = D + total ll by rw [HE.out, HM.out, List.take_of_length_le (Nat.le_refl _)])
      rw [← hw2]
      clear hw2 hblk hkeep
      have g0 : w2.cell? ⟨b, 0, none⟩ = some (.slice (some ⟨g, 0, none⟩) cap cap) := by rw [cell_blk HB2.out, HV.out]; rfl
      have g1 : w2.cell? ⟨b, 1, none⟩ = some (.int .i64 E) := by rw [cell_blk HB2.out]; rfl
      obtain ⟨nn, hnn⟩ : ∃ nn, nn = cap + q + (cap - cap) := ⟨_, rfl⟩
      have HREP := Lib.hid (replace_any w2 V (.slice (some ⟨h, 0, none⟩) q cu) cap cap cap q (flat l) (flat ll) (by omega) (by omega) (by omega) (by omega)
        (by rw [HL.out]; exact ownsRow_keeps HS.out.own HK2.out (fun k hk e => HS.out.ne (by rw [hk, e])))
        (ownsRow_keeps HU.out HK2.out (fun k hk e => hub (by cases hk; exact e)))
        (fun e => by omega) (fun k hk e => by rw [HV.out] at hk; cases hk; cases e; exact hgh rfl) (flat_one _) (flat_one _))
      rw [HV.out, ← hnn] at HREP
      have HNN := Lib.hid hnn
      clear hnn
      clear HC2 HWL HU
      go_wp2_with fail
      refine HREP.out.mono ?_
      rintro e w3 ⟨v', rfl, hown3, hgr3, hfr3⟩
      rw [← HV.out] at hgr3 hfr3
      have HEND := Lib.hid (lay_end (fr := cap) (to := cap) (ll := ll) HS.out (by omega) (by rw [← HL.out]; omega) (by have := HWF.out; rw [HNEW.out] at this; exact this) (D2 := E) (by rw [HE2.out, HD.out, HT.out]; simp [total]) HB2.out HK2.out (n' := nn) (by rw [HNN.out]; rw [HL.out, HM.out]) hown3 hgr3 hfr3)
      rw [← HNEW.out] at HEND
      have hb3 : w3.heap[b]? = some (.cells #[V, .int .i64 E] 131 (0, 0)) := (hgr3.block b (lt_blk HB2.out) (fun e => HS.out.ne e.symm)).trans HB2.out
      have i0 : w3.cell? ⟨b, 0, none⟩ = some (.slice (some ⟨g, 0, none⟩) cap cap) := by rw [cell_blk hb3, HV.out]; rfl
      have i1 : w3.cell? ⟨b, 1, none⟩ = some (.int .i64 E) := by rw [cell_blk hb3]; rfl
      have i2 : w3.frozen? ⟨b, 0, none⟩ = false := frozen_blk hb3 _
      have i3 : w3.frozen? ⟨b, 1, none⟩ = false := frozen_blk hb3 _
      have hform := ownsRow_formN hown3
      clear hb3 hown3 hgr3 hfr3
      rcases hform with ⟨rfl, hq0, hq1⟩ | ⟨g', cap', rfl, hq2, hq3, hq4⟩
      · exfalso; have := HNN.out; omega
      · clear hq2 hq3 hq4
        go_wp2_with fail
        go_ret
        exact ⟨_, _, rfl, HEND.out.1, HEND.out.2.1, HEND.out.2.2⟩

set_option maxHeartbeats 800000 in
set_option maxRecDepth 100000 in
theorem lay_B2C (b : Nat) (g cap fr : Nat)  (l : List (Int × Int))  (w : World) (hs : IsSet w b (.slice (some ⟨g, 0, none⟩) l.length cap) l) (hto : fr ≤ l.length) (hcap : l.length ≤ cap) (_hcm : cap ≤ 9223372036854775807) (hcf : ¬ cap = fr) 
    (hwf : Wf (l.take fr ++ [] ++ l.drop fr)) :
    Calls Try.prog 76 #[.pointer (some ⟨b, 0, none⟩), .int .i64 fr, .int .i64 fr, .slice none 0 0] w (LayPost w b (.slice (some ⟨g, 0, none⟩) l.length cap) (l.take fr ++ [] ++ l.drop fr)) := by
  have hlt := lt_blk hs.blk
  have hlen := hs.wf.len
  have htot := hs.wf.total
  obtain ⟨len, hl⟩ : ∃ len, len = l.length := ⟨_, rfl⟩
  rw [← hl] at hlen hcap hto
  obtain ⟨T, hT⟩ : ∃ T, T = total l := ⟨_, rfl⟩
  rw [← hT] at htot
  obtain ⟨htot1, htot2, _⟩ := htot
  obtain ⟨V, hV⟩ : ∃ V, V = Value.slice (some ⟨g, 0, none⟩) len cap := ⟨_, rfl⟩
  obtain ⟨NEW, hNEW⟩ : ∃ NEW, NEW = l.take fr ++ [] ++ l.drop fr := ⟨_, rfl⟩
  rw [← hl] at hs ⊢
  rw [← hNEW] at hwf
  rw [← hNEW]
  rw [show LayPost w b (.slice (some ⟨g, 0, none⟩) len cap) NEW = LayPost w b V NEW by rw [hV]]
  rw [← hV] at hs
  have hb0 : w.heap[b]? = some (.cells #[V, .int .i64 T] 131 (0, 0)) := by rw [hT]; exact hs.blk
  have c0 : w.cell? ⟨b, 0, none⟩ = some (.slice (some ⟨g, 0, none⟩) len cap) := by rw [cell_blk hb0, hV]; rfl
  have c1 : w.cell? ⟨b, 1, none⟩ = some (.int .i64 T) := by rw [cell_blk hb0]; rfl
  have HS := Lib.hid hs
  have HB0 := Lib.hid hb0
  have HT := Lib.hid hT
  have HV := Lib.hid hV
  have HNEW := Lib.hid hNEW
  have HWF := Lib.hid hwf
  have HL := Lib.hid hl
  clear hs hb0 hT hV hNEW hwf hl
  have hz0 : fr - fr = 0 := Nat.sub_self _
  go_enter Try.func76, Try.ntmps76
  go_wp2_with fail
  refine wp_loop_rounds 1 ?_
  rw [rounds_succ]
  go_wp2_with fail
  obtain ⟨D, hD⟩ : ∃ D, D = T := ⟨_, rfl⟩
  have HD := Lib.hid hD
  have HBLK := Lib.hid (show w.heap[b]? = some (.cells #[V, .int .i64 D] 131 (0, 0)) by rw [hD]; exact HB0.out)
  have hkeep : Keeps (· = b) w w := Keeps.refl _ _
  have hD1 : -16384 ≤ D := by omega
  have hD2 : D ≤ 16384 := by omega
  clear hD
  refine wp_loop_rounds 1 ?_
  rw [rounds_succ]
  obtain ⟨w2, hw2⟩ : ∃ w2, w2 = w := ⟨_, rfl⟩
  have HB2 := Lib.hid (show w2.heap[b]? = some (.cells #[V, .int .i64 D] 131 (0, 0)) by rw [hw2]; exact HBLK.out)
  have HK2 := Lib.hid (show Keeps (· = b) w w2 by rw [hw2]; exact hkeep)
  rw [← hw2]
  clear hw2 hkeep HBLK
  have hE1 : -16384 ≤ D := by omega
  have hE2 : D ≤ 32768 := by omega
  have HE := Lib.hid (show D = D + total [] by simp [total])
  obtain ⟨E, hE⟩ : ∃ E, E = D := ⟨_, rfl⟩
  rw [← hE] at HB2 hE1 hE2
  have HE2 := Lib.hid (show E = D + total [] by rw [hE]; simp [total])
  clear HE hE
  have g0 : w2.cell? ⟨b, 0, none⟩ = some (.slice (some ⟨g, 0, none⟩) len cap) := by rw [cell_blk HB2.out, HV.out]; rfl
  have g1 : w2.cell? ⟨b, 1, none⟩ = some (.int .i64 E) := by rw [cell_blk HB2.out]; rfl
  obtain ⟨nn, hnn⟩ : ∃ nn, nn = fr + 0 + (len - fr) := ⟨_, rfl⟩
  have HREP := Lib.hid (replace_any w2 V (.slice none 0 0) len fr fr 0 (flat l) (flat []) (by omega) (by omega) (by omega) (by omega)
    (by rw [HL.out]; exact ownsRow_keeps HS.out.own HK2.out (fun k hk e => HS.out.ne (by rw [hk, e])))
    (World.ownsRow_nil _ _ _ _)
    (fun _ => rfl) (fun k hk e => by cases e) (flat_one _) (flat_one _))
  rw [HV.out, ← hnn] at HREP
  have HNN := Lib.hid hnn
  clear hnn
  go_wp2_with fail
  refine HREP.out.mono ?_
  rintro e w3 ⟨v', rfl, hown3, hgr3, hfr3⟩
  rw [← HV.out] at hgr3 hfr3
  have HEND := Lib.hid (lay_end (fr := fr) (to := fr) (ll := []) HS.out (by omega) (by rw [← HL.out]; omega) (by have := HWF.out; rw [HNEW.out] at this; exact this) (D2 := E) (by rw [HE2.out, HD.out, HT.out]; simp [total]) HB2.out HK2.out (n' := nn) (by rw [HNN.out]; rw [HL.out]; rfl) hown3 hgr3 hfr3)
  rw [← HNEW.out] at HEND
  have hb3 : w3.heap[b]? = some (.cells #[V, .int .i64 E] 131 (0, 0)) := (hgr3.block b (lt_blk HB2.out) (fun e => HS.out.ne e.symm)).trans HB2.out
  have i0 : w3.cell? ⟨b, 0, none⟩ = some (.slice (some ⟨g, 0, none⟩) len cap) := by rw [cell_blk hb3, HV.out]; rfl
  have i1 : w3.cell? ⟨b, 1, none⟩ = some (.int .i64 E) := by rw [cell_blk hb3]; rfl
  have i2 : w3.frozen? ⟨b, 0, none⟩ = false := frozen_blk hb3 _
  have i3 : w3.frozen? ⟨b, 1, none⟩ = false := frozen_blk hb3 _
  have hform := ownsRow_formN hown3
  clear hb3 hown3 hgr3 hfr3
  rcases hform with ⟨rfl, hq0, hq1⟩ | ⟨g', cap', rfl, hq2, hq3, hq4⟩
  · clear hq0 hq1
    go_wp2_with fail
    go_ret
    exact ⟨_, _, rfl, HEND.out.1, HEND.out.2.1, HEND.out.2.2⟩
  · clear hq2 hq3 hq4
    go_wp2_with fail
    go_ret
    exact ⟨_, _, rfl, HEND.out.1, HEND.out.2.1, HEND.out.2.2⟩

set_option maxHeartbeats 800000 in
set_option maxRecDepth 100000 in
theorem lay_B2D (b : Nat) (g cap fr : Nat) (h cu : Nat) (l : List (Int × Int)) (ll : List (Int × Int)) (w : World) (hs : IsSet w b (.slice (some ⟨g, 0, none⟩) l.length cap) l) (hto : fr ≤ l.length) (hcap : l.length ≤ cap) (_hcm : cap ≤ 9223372036854775807) (hcf : ¬ cap = fr) (hu : w.ownsRow 0 58 2 (.slice (some ⟨h, 0, none⟩) ll.length cu) ll.length (flat ll)) (hub : h ≠ b) (hpos : 0 < ll.length) (hgh : h ≠ g)
    (hwf : Wf (l.take fr ++ ll ++ l.drop fr)) :
    Calls Try.prog 76 #[.pointer (some ⟨b, 0, none⟩), .int .i64 fr, .int .i64 fr, .slice (some ⟨h, 0, none⟩) ll.length cu] w (LayPost w b (.slice (some ⟨g, 0, none⟩) l.length cap) (l.take fr ++ ll ++ l.drop fr)) := by
  have hlt := lt_blk hs.blk
  have hlen := hs.wf.len
  have htot := hs.wf.total
  obtain ⟨len, hl⟩ : ∃ len, len = l.length := ⟨_, rfl⟩
  rw [← hl] at hlen hcap hto
  obtain ⟨T, hT⟩ : ∃ T, T = total l := ⟨_, rfl⟩
  rw [← hT] at htot
  obtain ⟨htot1, htot2, _⟩ := htot
  obtain ⟨V, hV⟩ : ∃ V, V = Value.slice (some ⟨g, 0, none⟩) len cap := ⟨_, rfl⟩
  obtain ⟨NEW, hNEW⟩ : ∃ NEW, NEW = l.take fr ++ ll ++ l.drop fr := ⟨_, rfl⟩
  rw [← hl] at hs ⊢
  rw [← hNEW] at hwf
  rw [← hNEW]
  rw [show LayPost w b (.slice (some ⟨g, 0, none⟩) len cap) NEW = LayPost w b V NEW by rw [hV]]
  rw [← hV] at hs
  have hb0 : w.heap[b]? = some (.cells #[V, .int .i64 T] 131 (0, 0)) := by rw [hT]; exact hs.blk
  have c0 : w.cell? ⟨b, 0, none⟩ = some (.slice (some ⟨g, 0, none⟩) len cap) := by rw [cell_blk hb0, hV]; rfl
  have c1 : w.cell? ⟨b, 1, none⟩ = some (.int .i64 T) := by rw [cell_blk hb0]; rfl
  have hh : h < w.heap.size := (hu.lt h rfl).2
  have hcells2 := cells_of_own hu
  have hwl : Wf ll := by
    rw [hNEW] at hwf
    exact ⟨fun x hx => hwf.each x (by simp [hx]), (List.pairwise_append.1 (List.pairwise_append.1 hwf.apart).1).2.1⟩
  have hml := hwl.len
  obtain ⟨m, hm⟩ : ∃ m, m = ll.length := ⟨_, rfl⟩
  rw [← hm] at hml hpos hu
  rw [← hm]
  have HS := Lib.hid hs
  have HB0 := Lib.hid hb0
  have HT := Lib.hid hT
  have HV := Lib.hid hV
  have HNEW := Lib.hid hNEW
  have HWF := Lib.hid hwf
  have HL := Lib.hid hl
  have HM := Lib.hid hm
  have HU := Lib.hid hu
  have HC2 := Lib.hid hcells2
  have HWL := Lib.hid hwl
  clear hs hb0 hT hV hNEW hwf hl hm hu hcells2 hwl
  have hz0 : fr - fr = 0 := Nat.sub_self _
  go_enter Try.func76, Try.ntmps76
  go_wp2_with fail
  refine wp_loop_rounds 1 ?_
  rw [rounds_succ]
  go_wp2_with fail
  obtain ⟨D, hD⟩ : ∃ D, D = T := ⟨_, rfl⟩
  have HD := Lib.hid hD
  have HBLK := Lib.hid (show w.heap[b]? = some (.cells #[V, .int .i64 D] 131 (0, 0)) by rw [hD]; exact HB0.out)
  have hkeep : Keeps (· = b) w w := Keeps.refl _ _
  have hD1 : -16384 ≤ D := by omega
  have hD2 : D ≤ 16384 := by omega
  clear hD
  go_loopg [45] m (fun gk i wq => ∃ k : Nat, i = .int .i64 k ∧ gk = m - k ∧ k ≤ m ∧ wq.heap[b]? = some (.cells #[V, .int .i64 (D + total (ll.take k))] 131 (0, 0)) ∧ Keeps (· = b) w wq)
  case atStart => exact ⟨0, rfl, by omega, by omega, by rw [HBLK.out]; simp [total], hkeep⟩
  clear hkeep HBLK
  case round =>
    obtain ⟨q, rfl, rfl, hq, hblk, hkeep⟩ := hrel
    have htb := ((HWL.out).take q).total
    obtain ⟨E, hE⟩ : ∃ E, E = D + total (ll.take q) := ⟨_, rfl⟩
    rw [← hE] at hblk
    have hE0 : -16384 ≤ E ∧ E ≤ 32768 := by omega
    obtain ⟨hE1, hE2⟩ := hE0
    have HE := Lib.hid hE
    clear hE htb
    by_cases hltq : q < m
    · obtain ⟨⟨x, y⟩, hx⟩ : ∃ x, ll[q]? = some x := ⟨_, List.getElem?_eq_getElem (by have := HM.out; omega)⟩
      have k0 : wr.cell? ⟨h, q * 2, none⟩ = some (.int .i64 x) := (hkeep.cell (p := ⟨h, _, none⟩) hh hub).trans (HC2.out _ _ hx).1
      have k1 : wr.cell? ⟨h, q * 2 + 1, none⟩ = some (.int .i64 y) := (hkeep.cell (p := ⟨h, _, none⟩) hh hub).trans (HC2.out _ _ hx).2
      have hx0 : 0 ≤ x ∧ x ≤ 16384 ∧ 0 ≤ y ∧ y ≤ 16384 := by have := HWL.out.at hx; simp at this; omega
      obtain ⟨hx1, hx2, hx3, hx4⟩ := hx0
      have d1 : wr.cell? ⟨b, 1, none⟩ = some (.int .i64 E) := by rw [cell_blk hblk]; rfl
      have d2 : wr.frozen? ⟨b, 1, none⟩ = false := frozen_blk hblk _
      have hlt3 : b < wr.heap.size := lt_blk hblk
      have HBLK := Lib.hid hblk
      have HX := Lib.hid hx
      clear hblk hx
      go_wp2_with fail
      have e1 : (wr.alloc (.cells #[.int .i64 x, .int .i64 y] 58)).cell? ⟨b, 1, none⟩ = some (.int .i64 E) := by rw [World.cell?_alloc_lt (h := hlt3)]; exact d1
      go_region
      go_wp2_with fail
      go_roundg (m - (q + 1))
      case measure => omega
      case rel =>
        have hr := lay_round (w := w) (D' := E + (y - x)) (x := .int .i64 x) (y := .int .i64 y) HBLK.out hkeep
        refine ⟨q + 1, by go_num, rfl, by omega, ?_, hr.2⟩
        rw [hr.1, total_take_succ (x := (x, y)) HX.out, HE.out]
        congr 6; simp; omega
    · obtain rfl : q = m := by omega
      obtain ⟨w2, hw2⟩ : ∃ w2, w2 = wr := ⟨_, rfl⟩
      have HB2 := Lib.hid (show w2.heap[b]? = some (.cells #[V, .int .i64 E] 131 (0, 0)) by rw [hw2]; exact hblk)
      have HK2 := Lib.hid (show Keeps (· = b) w w2 by rw [hw2]; exact hkeep)
      have HE2 := Lib.hid (show E = D + total ll by rw [HE.out, HM.out, List.take_of_length_le (Nat.le_refl _)])
      rw [← hw2]
      clear hw2 hblk hkeep
      have g0 : w2.cell? ⟨b, 0, none⟩ = some (.slice (some ⟨g, 0, none⟩) len cap) := by rw [cell_blk HB2.out, HV.out]; rfl
      have g1 : w2.cell? ⟨b, 1, none⟩ = some (.int .i64 E) := by rw [cell_blk HB2.out]; rfl
      obtain ⟨nn, hnn⟩ : ∃ nn, nn = fr + q + (len - fr) := ⟨_, rfl⟩
      have HREP := Lib.hid (replace_any w2 V (.slice (some ⟨h, 0, none⟩) q cu) len fr fr q (flat l) (flat ll) (by omega) (by omega) (by omega) (by omega)
        (by rw [HL.out]; exact ownsRow_keeps HS.out.own HK2.out (fun k hk e => HS.out.ne (by rw [hk, e])))
        (ownsRow_keeps HU.out HK2.out (fun k hk e => hub (by cases hk; exact e)))
        (fun e => by omega) (fun k hk e => by rw [HV.out] at hk; cases hk; cases e; exact hgh rfl) (flat_one _) (flat_one _))
      rw [HV.out, ← hnn] at HREP
      have HNN := Lib.hid hnn
      clear hnn
      clear HC2 HWL HU
      go_wp2_with fail
      refine HREP.out.mono ?_
      rintro e w3 ⟨v', rfl, hown3, hgr3, hfr3⟩
      rw [← HV.out] at hgr3 hfr3
      have HEND := Lib.hid (lay_end (fr := fr) (to := fr) (ll := ll) HS.out (by omega) (by rw [← HL.out]; omega) (by have := HWF.out; rw [HNEW.out] at this; exact this) (D2 := E) (by rw [HE2.out, HD.out, HT.out]; simp [total]) HB2.out HK2.out (n' := nn) (by rw [HNN.out]; rw [HL.out, HM.out]) hown3 hgr3 hfr3)
      rw [← HNEW.out] at HEND
      have hb3 : w3.heap[b]? = some (.cells #[V, .int .i64 E] 131 (0, 0)) := (hgr3.block b (lt_blk HB2.out) (fun e => HS.out.ne e.symm)).trans HB2.out
      have i0 : w3.cell? ⟨b, 0, none⟩ = some (.slice (some ⟨g, 0, none⟩) len cap) := by rw [cell_blk hb3, HV.out]; rfl
      have i1 : w3.cell? ⟨b, 1, none⟩ = some (.int .i64 E) := by rw [cell_blk hb3]; rfl
      have i2 : w3.frozen? ⟨b, 0, none⟩ = false := frozen_blk hb3 _
      have i3 : w3.frozen? ⟨b, 1, none⟩ = false := frozen_blk hb3 _
      have hform := ownsRow_formN hown3
      clear hb3 hown3 hgr3 hfr3
      rcases hform with ⟨rfl, hq0, hq1⟩ | ⟨g', cap', rfl, hq2, hq3, hq4⟩
      · exfalso; have := HNN.out; omega
      · clear hq2 hq3 hq4
        go_wp2_with fail
        go_ret
        exact ⟨_, _, rfl, HEND.out.1, HEND.out.2.1, HEND.out.2.2⟩

theorem lay_any (b fr to : Nat) (v u : Value) (l ll : List (Int × Int)) (w : World) (hs : IsSet w b v l) (hft : fr ≤ to) (hto : to ≤ l.length) (hu : w.ownsRow 0 58 2 u ll.length (flat ll)) (hu0 : ll = [] → u = .slice none 0 0)
    (hvu : ∀ k, v.ownBlock = some k → u.ownBlock ≠ some k) (hwf : Wf (l.take fr ++ ll ++ l.drop to)) :
    Calls Try.prog 76 #[.pointer (some ⟨b, 0, none⟩), .int .i64 fr, .int .i64 to, u] w (LayPost w b v (l.take fr ++ ll ++ l.drop to)) := by
  have hub : ∀ h, u.ownBlock = some h → h ≠ b := by
    intro h e hb
    subst hb
    rcases hu.2 with ⟨rfl, _⟩ | ⟨g, cap, cur, rfl, _, hg, _⟩
    · cases e
    · cases e
      rw [hs.blk] at hg
      simp at hg
  rcases ownsRow_formN hs.own with ⟨rfl, h0, _⟩ | ⟨g, cap, rfl, _, hcap, hcm⟩
  · obtain rfl : l = [] := List.eq_nil_of_length_eq_zero h0
    obtain rfl : to = 0 := by simpa using hto
    obtain rfl : fr = 0 := by omega
    rcases ownsRow_formN hu with ⟨rfl, h1, _⟩ | ⟨h, cu, rfl, _, _, _⟩
    · obtain rfl : ll = [] := List.eq_nil_of_length_eq_zero h1
      exact lay_B0C b [] w hs rfl hwf
    · have hpos : 0 < ll.length := by
        rcases Nat.eq_zero_or_pos ll.length with h0 | h0
        · have := hu0 (List.eq_nil_of_length_eq_zero h0); cases this
        · exact h0
      exact lay_B0D b h cu [] ll w hs rfl hu (hub h rfl) hpos hwf
  · rcases ownsRow_formN hu with ⟨rfl, h1, _⟩ | ⟨h, cu, rfl, _, _, _⟩
    · obtain rfl : ll = [] := List.eq_nil_of_length_eq_zero h1
      rcases Nat.eq_or_lt_of_le hft with rfl | hlt
      · by_cases hcf : cap = fr
        · subst hcf
          exact lay_B1C b g cap l w hs (by omega) hcm hwf
        · exact lay_B2C b g cap fr l w hs hto hcap hcm hcf hwf
      · exact lay_AC b g cap fr to l w hs hlt hto hcap hcm hwf
    · have hpos : 0 < ll.length := by
        rcases Nat.eq_zero_or_pos ll.length with h0 | h0
        · have := hu0 (List.eq_nil_of_length_eq_zero h0); cases this
        · exact h0
      have hgh : h ≠ g := fun e => hvu g rfl (by rw [e]; rfl)
      rcases Nat.eq_or_lt_of_le hft with rfl | hlt
      · by_cases hcf : cap = fr
        · subst hcf
          exact lay_B1D b g cap h cu l ll w hs (by omega) hcm hu (hub h rfl) hpos hgh hwf
        · exact lay_B2D b g cap fr h cu l ll w hs hto hcap hcm hcf hu (hub h rfl) hpos hgh hwf
      · exact lay_AD b g cap fr to h cu l ll w hs hlt hto hcap hcm hu (hub h rfl) hpos hgh hwf
end Go.Proofs.Ytjklcecakdmbaaa

