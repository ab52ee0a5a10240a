/-
  Contracts of package build: Bytes, Log, GiveUp.
-/
import Derived.Test.YtjklcecakdmbaaaB3
namespace Go.Proofs.Ytjklcecakdmbaaa
open Go.RowKit

theorem Try.info5 : (Try.prog.info? 5).map (fun i => (i.zero, i.size, i.bytes)) = some (some (.int .u8 0), 1, 1) := by kernel_rfl
theorem Try.info51 : (Try.prog.info? 51).map (fun i => (i.zero, i.size, i.bytes)) = some (some (.agg #[.int .i64 0, .int .i64 0, .int .i64 0, .int .i64 0]), 4, 32) := by kernel_rfl
theorem gflat_append (a b : List (Int × Int × Int × Int)) : gflat (a ++ b) = gflat a ++ gflat b := by simp [gflat]
theorem gflat_one (l : List (Int × Int × Int × Int)) : ∀ u ∈ gflat l, u.oneCell' = true := by
  intro u hu
  simp only [gflat, List.mem_flatMap] at hu
  obtain ⟨x, _, hx⟩ := hu
  simp at hx
  rcases hx with rfl | rfl | rfl | rfl <;> rfl
theorem bytes_one (l : List Int) : ∀ u ∈ l.map (Value.int .u8), u.oneCell' = true := by
  intro u hu
  obtain ⟨x, _, rfl⟩ := List.mem_map.1 hu
  rfl

set_option maxHeartbeats 400000 in
set_option maxRecDepth 100000 in
theorem bclone_any (v : Value) (n : Nat) (xs : List Value) (w : World) (hn : n ≤ 100000) (ho : w.ownsRow 0 5 1 v n xs) (h1 : ∀ u ∈ xs, u.oneCell' = true) :
    Calls Try.prog 40 #[v] w (FreshPost 5 1 w n xs) := by
  rcases ownsRow_formN ho with ⟨rfl, rfl, rfl⟩ | ⟨g, cap, rfl, hg, hcap, hcm⟩
  · have hnil := fun W => Lib.run_eql_slice_nil (P := Try.prog) W 32 5 none 0 0 0 0 Try.underlying32
    go_enter Try.func40, Try.ntmps40
    go_wp2
    go_ret
    exact ⟨_, rfl, World.ownsRow_nil _ _ _ _, Below.refl _ _⟩
  · have hnil := fun W => Lib.run_eql_slice_nil (P := Try.prog) W 32 5 (some ⟨g, 0, none⟩) n cap 0 0 Try.underlying32
    obtain ⟨tail, hgg, hcl, hxl, _, _⟩ := ownsRow_open ho
    have Q := Lib.hid (zero_cells (w1 := w.alloc (.cells #[] 5)) (heap_alloc_old (h := hg) ..) hgg)
    have HXL := Lib.hid hxl
    obtain ⟨i0, hi0, hi1, hi2, hi3⟩ := info_parts Try.info5
    have HI0 := Lib.hid hi0
    have HI1 := Lib.hid hi1
    have HI2 := Lib.hid hi2
    have HI3 := Lib.hid hi3
    have HE := Lib.hid (World.ownsRow_lit (base := w.heap.size) (e := 5) (size := 1) w #[] 0 (Nat.le_refl _) (by simp) (by simp))
    have HB1 : 0 + n ≤ maxLen := by simp only [maxLen]; omega
    have HB2 : (0 + n) * 1 ≤ 140737488355328 := by omega
    clear hgg hcl hxl hi0 hi1 hi2 hi3 ho
    go_enter Try.func40, Try.ntmps40
    go_wp2_with ((with_reducible refine wpList_append_own _ rfl (.tmp 5) (.tmp 6) 32 rfl w.heap.size 5 i0 _ 1 1 Try.underlying32 HI0.out HI1.out HI2.out HI3.out ?_ (by decide) _ 0 [] ?_ HE.out ⟨g, 0, none⟩ n cap xs ?_ HXL.out Q.out h1 HB1 HB2 ?_ ?_); rfl; rfl; rfl; simp; intro v' w1 hown1 hgr1 _; have HO1 := Lib.hid hown1; clear hown1)
    go_ret
    refine ⟨_, rfl, by simpa using HO1.out, ?_⟩
    exact ((Below.refl _ _).alloc (Nat.le_refl _) _).grown hgr1 (by simp) (fun k hk => by cases hk; exact Nat.le_refl _)

set_option maxHeartbeats 400000 in
set_option maxRecDepth 100000 in
theorem gclone_any (v : Value) (n : Nat) (xs : List Value) (w : World) (hn : n ≤ 100000) (ho : w.ownsRow 0 51 4 v n xs) (h1 : ∀ u ∈ xs, u.oneCell' = true) :
    Calls Try.prog 55 #[v] w (FreshPost 51 4 w n xs) := by
  rcases ownsRow_formN ho with ⟨rfl, rfl, rfl⟩ | ⟨g, cap, rfl, hg, hcap, hcm⟩
  · have hnil := fun W => Lib.run_eql_slice_nil (P := Try.prog) W 46 51 none 0 0 0 0 Try.underlying46
    go_enter Try.func55, Try.ntmps55
    go_wp2
    go_ret
    exact ⟨_, rfl, World.ownsRow_nil _ _ _ _, Below.refl _ _⟩
  · have hnil := fun W => Lib.run_eql_slice_nil (P := Try.prog) W 46 51 (some ⟨g, 0, none⟩) n cap 0 0 Try.underlying46
    obtain ⟨tail, hgg, hcl, hxl, _, _⟩ := ownsRow_open ho
    have Q := Lib.hid (zero_cells (w1 := w.alloc (.cells #[] 51)) (heap_alloc_old (h := hg) ..) hgg)
    have HXL := Lib.hid hxl
    obtain ⟨i0, hi0, hi1, hi2, hi3⟩ := info_parts Try.info51
    have HI0 := Lib.hid hi0
    have HI1 := Lib.hid hi1
    have HI2 := Lib.hid hi2
    have HI3 := Lib.hid hi3
    have HE := Lib.hid (World.ownsRow_lit (base := w.heap.size) (e := 51) (size := 4) w #[] 0 (Nat.le_refl _) (by simp) (by simp))
    have HB1 : 0 + n ≤ maxLen := by simp only [maxLen]; omega
    have HB2 : (0 + n) * 32 ≤ 140737488355328 := by omega
    clear hgg hcl hxl hi0 hi1 hi2 hi3 ho
    go_enter Try.func55, Try.ntmps55
    go_wp2_with ((with_reducible refine wpList_append_own _ rfl (.tmp 5) (.tmp 6) 46 rfl w.heap.size 51 i0 _ 4 32 Try.underlying46 HI0.out HI1.out HI2.out HI3.out ?_ (by decide) _ 0 [] ?_ HE.out ⟨g, 0, none⟩ n cap xs ?_ HXL.out Q.out h1 HB1 HB2 ?_ ?_); rfl; rfl; rfl; simp; intro v' w1 hown1 hgr1 _; have HO1 := Lib.hid hown1; clear hown1)
    go_ret
    refine ⟨_, rfl, by simpa using HO1.out, ?_⟩
    exact ((Below.refl _ _).alloc (Nat.le_refl _) _).grown hgr1 (by simp) (fun k hk => by cases hk; exact Nat.le_refl _)

theorem bytesOf_any (β : BI) (s : BS) (w : World) (hb : BuildAt w β s) :
    Calls Try.prog 27 #[.pointer (some ⟨β.b, 0, none⟩)] w (FreshPost 5 1 w s.S (s.T.map (Value.int .u8))) := by
  obtain ⟨bb, hbb⟩ : ∃ bb, bb = β.b := ⟨_, rfl⟩
  have hblk := hb.blk
  rw [← hbb] at hblk
  rw [← hbb]
  obtain ⟨v, hv⟩ : ∃ v, v = β.tv := ⟨_, rfl⟩
  have c0 : w.cell? ⟨bb, 2, none⟩ = some v := by rw [cell_blk hblk, hv]; rfl
  have HC := Lib.hid (show Calls Try.prog 40 #[v] w _ by rw [hv]; exact bclone_any β.tv s.S _ w (by have := hb.plan.s; omega) hb.txt (bytes_one _))
  obtain ⟨POST, hPOST⟩ : ∃ POST, POST = FreshPost 5 1 w s.S (s.T.map (Value.int .u8)) := ⟨_, rfl⟩
  rw [← hPOST] at HC ⊢
  have HPOST := Lib.hid hPOST
  clear hb hbb hblk hv hPOST
  go_enter Try.func27, Try.ntmps27
  go_wp2_with fail
  refine HC.out.mono ?_
  intro e w' h
  rw [HPOST.out] at h
  obtain ⟨v', rfl, ho, hb⟩ := h
  have hp : POST (.returned v') w' := by rw [HPOST.out]; exact ⟨v', rfl, ho, hb⟩
  have HP := Lib.hid hp
  clear hp ho
  go_wp2_with fail
  exact HP.out

theorem logOf_any (β : BI) (s : BS) (w : World) (hb : BuildAt w β s) (hg : s.G.length ≤ 100000) :
    Calls Try.prog 19 #[.pointer (some ⟨β.b, 0, none⟩)] w (FreshPost 51 4 w s.G.length (gflat s.G)) := by
  obtain ⟨bb, hbb⟩ : ∃ bb, bb = β.b := ⟨_, rfl⟩
  have hblk := hb.blk
  rw [← hbb] at hblk
  rw [← hbb]
  obtain ⟨v, hv⟩ : ∃ v, v = β.lv := ⟨_, rfl⟩
  have c0 : w.cell? ⟨bb, 3, none⟩ = some v := by rw [cell_blk hblk, hv]; rfl
  have HC := Lib.hid (show Calls Try.prog 55 #[v] w _ by rw [hv]; exact gclone_any β.lv s.G.length _ w hg hb.log (gflat_one _))
  obtain ⟨POST, hPOST⟩ : ∃ POST, POST = FreshPost 51 4 w s.G.length (gflat s.G) := ⟨_, rfl⟩
  rw [← hPOST] at HC ⊢
  have HPOST := Lib.hid hPOST
  clear hb hbb hblk hv hPOST
  go_enter Try.func19, Try.ntmps19
  go_wp2_with fail
  refine HC.out.mono ?_
  intro e w' h
  rw [HPOST.out] at h
  obtain ⟨v', rfl, ho, hb⟩ := h
  have hp : POST (.returned v') w' := by rw [HPOST.out]; exact ⟨v', rfl, ho, hb⟩
  have HP := Lib.hid hp
  clear hp ho
  go_wp2_with fail
  exact HP.out

/-! ## GiveUp -/
theorem blk_set4 {w : World} {b : Nat} {x0 x1 x2 x3 x4 y : Value} {t : TypeId} (h : w.heap[b]? = some (.cells #[x0, x1, x2, x3, x4] t (0, 0))) : (w.setCell ⟨b, 4, none⟩ y).heap[b]? = some (.cells #[x0, x1, x2, x3, y] t (0, 0)) := by
  rw [heap_setCell_same w b 4 _ t _ h]; rfl
theorem BuildAt.bne {w : World} {β : BI} {s : BS} (h : BuildAt w β s) : β.p ≠ β.b ∧ β.h ≠ β.b ∧ β.hv.ownBlock ≠ some β.b ∧ β.tv.ownBlock ≠ some β.b ∧ β.lv.ownBlock ≠ some β.b := by
  refine ⟨?_, ?_, ?_, ?_, ?_⟩
  · intro e; have := h.plan.blk; rw [e, h.blk] at this; simp at this
  · intro e; have := h.set.blk; rw [e, h.blk] at this; simp at this
  · intro e
    rcases h.set.own.2 with ⟨h1, _⟩ | ⟨g, cap, cur, h1, _, hg, _⟩
    · rw [h1] at e; cases e
    · rw [h1] at e; cases e; rw [h.blk] at hg; simp at hg
  · intro e
    rcases h.txt.2 with ⟨h1, _⟩ | ⟨g, cap, cur, h1, _, hg, _⟩
    · rw [h1] at e; cases e
    · rw [h1] at e; cases e; rw [h.blk] at hg; simp at hg
  · intro e
    rcases h.log.2 with ⟨h1, _⟩ | ⟨g, cap, cur, h1, _, hg, _⟩
    · rw [h1] at e; cases e
    · rw [h1] at e; cases e; rw [h.blk] at hg; simp at hg
theorem BuildAt.giveUp {w : World} {β : BI} {s : BS} (h : BuildAt w β s) : BuildAt (w.setCell ⟨β.b, 4, none⟩ (.bool true)) β { s with over := true } ∧ Keeps (· = β.b) w (w.setCell ⟨β.b, 4, none⟩ (.bool true)) := by
  have hk : Keeps (· = β.b) w (w.setCell ⟨β.b, 4, none⟩ (.bool true)) := (Keeps.refl _ _).setCell _ _ (fun _ => rfl)
  obtain ⟨h1, h2, h3, h4, h5⟩ := h.bne
  refine ⟨⟨blk_set4 h.blk, h.plan.keeps hk h1, h.set.keeps hk h2 (fun k e e2 => h3 (by rw [e, e2])), ownsRow_keeps h.txt hk (fun k e e2 => h4 (by rw [e, e2])), ownsRow_keeps h.log hk (fun k e e2 => h5 (by rw [e, e2]))⟩, hk⟩

def GiveNo (w : World) (e : Ending) (w' : World) : Prop := e = .returned (.tuple #[.slice none 0 0, .int .i64 24]) ∧ Below w.heap.size w w'
def GiveYes (w : World) (β : BI) (s : BS) (k : Int) (e : Ending) (w' : World) : Prop :=
  ∃ (m : List (Int × Int)) (v' : Value), e = .returned (.tuple #[v', .int .i64 0]) ∧ m ≠ [] ∧ IsMiss s k m ∧ w'.ownsRow w.heap.size 58 2 v' m.length (flat (m.map (spanOf s))) ∧ BuildAt w' β { s with over := true } ∧ Keeps (· = β.b) w w'
def GivePost (w : World) (β : BI) (s : BS) (k : Int) (e : Ending) (w' : World) : Prop :=
  ((s.over = true ∨ IsMiss s k []) ∧ GiveNo w e w') ∨ (s.over = false ∧ GiveYes w β s k e w')

set_option maxHeartbeats 800000 in
theorem giveup_any (β : BI) (s : BS) (k : Int) (w : World) (hb : BuildAt w β s) :
    Calls Try.prog 62 #[.pointer (some ⟨β.b, 0, none⟩), .int .i64 k] w (GivePost w β s k) := by
  have HCO := Lib.hid (complete_any β s k w hb)
  have HBA := Lib.hid hb
  have HLA := Lib.hid (fun w' h => lacking_any β { s with over := true } k w' h)
  obtain ⟨POST, hPOST⟩ : ∃ POST, POST = GivePost w β s k := ⟨_, rfl⟩
  rw [← hPOST]
  have HPOST := Lib.hid hPOST
  obtain ⟨bb, hbb⟩ : ∃ bb, bb = β.b := ⟨_, rfl⟩
  have HBB := Lib.hid hbb
  have hblk := hb.blk
  obtain ⟨ov, hov⟩ : ∃ ov, ov = s.over := ⟨_, rfl⟩
  rw [← hbb, ← hov] at hblk
  rw [← hbb] at HCO HLA ⊢
  have HOV := Lib.hid hov
  have hlt : bb < w.heap.size := lt_blk hblk
  have c0 : w.cell? ⟨bb, 4, none⟩ = some (.bool ov) := by rw [cell_blk hblk]; rfl
  clear hb hbb hblk hPOST hov
  cases ov with
  | true =>
    have hp : POST (.returned (.tuple #[.slice none 0 0, .int .i64 24])) w := by
      rw [HPOST.out]
      exact .inl ⟨.inl HOV.out.symm, rfl, Below.refl _ _⟩
    have HP := Lib.hid hp
    clear hp
    go_enter Try.func62, Try.ntmps62
    go_wp2_with fail
    exact HP.out
  | false =>
    go_enter Try.func62, Try.ntmps62
    go_wp2_with fail
    refine HCO.out.mono ?_
    rintro e w1 ⟨m, hm, rfl, hb1⟩
    have HM := Lib.hid hm
    clear hm
    cases m with
    | nil =>
      have hp : POST (.returned (.tuple #[.slice none 0 0, .int .i64 24])) w1 := by
        rw [HPOST.out]
        exact .inl ⟨.inr HM.out, rfl, hb1⟩
      have HP := Lib.hid hp
      have hd : decide (([] : List (Int × Int)).length = 0) = true := rfl
      clear hp
      rw [hd]
      go_wp2_with fail
      exact HP.out
    | cons x r =>
      have hd : decide ((x :: r).length = 0) = false := rfl
      rw [hd]
      have hba1 := HBA.out.below hb1
      have hgu := hba1.giveUp
      rw [← HBB.out] at hgu
      have hblk1 := hba1.blk
      rw [← HBB.out] at hblk1
      have d0 : w1.cell? ⟨bb, 4, none⟩ = some (.bool s.over) := by rw [cell_blk hblk1]; rfl
      have d1 : w1.frozen? ⟨bb, 4, none⟩ = false := frozen_blk hblk1 _
      have HGU := Lib.hid hgu
      have HL2 := Lib.hid (HLA.out _ hgu.1)
      clear hba1 hgu hblk1
      go_wp2_with fail
      refine HL2.out.mono ?_
      rintro e w2 ⟨m, rv, rfl, hm, hown, hb2⟩
      have hsz : (w1.setCell ⟨bb, 4, none⟩ (.bool true)).heap.size = w1.heap.size := by simp [World.setCell]
      have hm2 : IsMiss s k m := ⟨hm.wf, hm.mem⟩
      have hp : POST (.returned (.tuple #[rv, .int .i64 0])) w2 := by
        rw [HPOST.out]
        refine .inr ⟨HOV.out.symm, m, rv, rfl, ?_, hm2, ownsRow_base hown (by rw [hsz]; exact hb1.size), HGU.out.1.below hb2, ?_⟩
        · intro e
          subst e
          have := HM.out.wf.each x (by simp)
          have h2 := (HM.out.mem x.1).1 ⟨x, by simp, by omega, by omega⟩
          exact inS_nil _ ((hm2.mem x.1).2 h2)
        · rw [← HBB.out]
          exact ((Keeps.of_below (S := fun _ => False) hb1).trans HGU.out.2 (fun _ _ e => e.elim) (fun _ _ e => e)).trans (Keeps.of_below (S := fun _ => False) hb2) (fun _ _ e => e) (fun _ _ e => e.elim)
      have HP := Lib.hid hp
      clear hp hm hm2 hown
      go_wp2_with fail
      exact HP.out
end Go.Proofs.Ytjklcecakdmbaaa

