/-
  The law BuildPlays: the reference's state; New.
-/
import Derived.Test.YtjklcecakdmbaaaL2
namespace Go.Proofs.Ytjklcecakdmbaaa
open Go.RowKit

/-- The reference's state, by value. -/
def sAgg (S B L : Nat) (rv : Value) (ov : Bool) : Value := .agg #[.int .i64 S, .int .i64 B, .int .i64 L, rv, .bool ov]
/-- The reference's state, in memory. -/
def StBlk (w : World) (b S B L : Nat) (rv : Value) (ov : Bool) : Prop := w.heap[b]? = some (.cells #[.int .i64 S, .int .i64 B, .int .i64 L, rv, .bool ov] 65 (0, 0))
theorem StBlk.at_ {w : World} {b S B L : Nat} {rv : Value} {ov : Bool} (h : StBlk w b S B L rv ov) : w.cell? ⟨b, 0, none⟩ = some (.int .i64 S) ∧ w.cell? ⟨b, 1, none⟩ = some (.int .i64 B) ∧ w.cell? ⟨b, 2, none⟩ = some (.int .i64 L) ∧ w.cell? ⟨b, 3, none⟩ = some rv ∧ w.cell? ⟨b, 4, none⟩ = some (.bool ov) :=
  ⟨by rw [cell_blk h]; rfl, by rw [cell_blk h]; rfl, by rw [cell_blk h]; rfl, by rw [cell_blk h]; rfl, by rw [cell_blk h]; rfl⟩
theorem StBlk.free {w : World} {b S B L : Nat} {rv : Value} {ov : Bool} (h : StBlk w b S B L rv ov) (j : Nat) : w.frozen? ⟨b, j, none⟩ = false := frozen_blk h j
theorem StBlk.set3 {w : World} {b S B L : Nat} {rv rv' : Value} {ov : Bool} (h : StBlk w b S B L rv ov) : StBlk (w.setCell ⟨b, 3, none⟩ rv') b S B L rv' ov := blk_set3 h
theorem set5 {w : World} {b : Nat} {x0 x1 x2 x3 x4 y0 y1 y2 y3 y4 : Value} {t : TypeId} (h : w.heap[b]? = some (.cells #[x0, x1, x2, x3, x4] t (0, 0))) :
    (((((w.setCell ⟨b, 0, none⟩ y0).setCell ⟨b, 1, none⟩ y1).setCell ⟨b, 2, none⟩ y2).setCell ⟨b, 3, none⟩ y3).setCell ⟨b, 4, none⟩ y4).heap[b]? = some (.cells #[y0, y1, y2, y3, y4] t (0, 0)) := by
  have h0 : (w.setCell ⟨b, 0, none⟩ y0).heap[b]? = some (.cells #[y0, x1, x2, x3, x4] t (0, 0)) := by rw [heap_setCell_same w b 0 _ t _ h]; rfl
  have h1 : ((w.setCell ⟨b, 0, none⟩ y0).setCell ⟨b, 1, none⟩ y1).heap[b]? = some (.cells #[y0, y1, x2, x3, x4] t (0, 0)) := by rw [heap_setCell_same _ b 1 _ t _ h0]; rfl
  have h2 : (((w.setCell ⟨b, 0, none⟩ y0).setCell ⟨b, 1, none⟩ y1).setCell ⟨b, 2, none⟩ y2).heap[b]? = some (.cells #[y0, y1, y2, x3, x4] t (0, 0)) := by rw [heap_setCell_same _ b 2 _ t _ h1]; rfl
  exact blk_set4 (blk_set3 h2)
theorem nrow_snoc (i : Nat) (F : Nat → Int) : nrow i F ++ [.int .i64 (F i)] = nrow (i + 1) F := by
  simp [nrow, List.range_succ]
theorem nrow_congr {S : Nat} {F F' : Nat → Int} (h : ∀ x, x < S → F x = F' x) : nrow S F = nrow S F' := by
  unfold nrow
  exact List.map_congr_left fun x hx => by rw [h x (List.mem_range.1 hx)]
theorem news0 (w : World) (p : Value) (t : TypeId) : ∀ (j : Nat) u, [p][j]? = some u → (w.alloc (.cells #[p] t)).cell? ((⟨w.heap.size, 0, none⟩ : Addr).add j) = some u := by
  intro j u hj
  have hadd : (⟨w.heap.size, 0, none⟩ : Addr).add j = ⟨w.heap.size, j, none⟩ := by unfold Addr.add; split <;> simp_all
  rw [hadd, cell_blk (heap_alloc_new w _)]
  simpa using hj
theorem blk_grown {wr w6 : World} {o : Obj} {b : Nat} {ob : Obj} {row : Option Nat} (h : wr.heap[b]? = some ob) (hg : (wr.alloc o).grownBy w6 row) (hn : row ≠ some b) : w6.heap[b]? = some ob :=
  (hg.block b (by have := lt_blk h; simp; omega) (fun e => hn e.symm)).trans ((heap_alloc_old (h := lt_blk h) ..).trans h)
/-- The world in which a call with a state by value begins. -/
def W2 (w : World) (S B L : Nat) (rv : Value) (ov : Bool) : World := (w.alloc (.cells #[.int .i64 S, .int .i64 B, .int .i64 L, rv, .bool ov] 65)).alloc (.cells #[.int .i64 0, .int .i64 0, .int .i64 0, .slice none 0 0, .bool false] 65)
theorem W2_at (w : World) (S B L : Nat) (rv : Value) (ov : Bool) : StBlk (W2 w S B L rv ov) w.heap.size S B L rv ov ∧ StBlk (W2 w S B L rv ov) (w.heap.size + 1) 0 0 0 (.slice none 0 0) false ∧ Below w.heap.size w (W2 w S B L rv ov) ∧ (W2 w S B L rv ov).heap.size = w.heap.size + 2 := by
  refine ⟨?_, ?_, ?_, ?_⟩
  · unfold W2 StBlk
    exact (heap_alloc_old (w := w.alloc _) (h := by simp) ..).trans (heap_alloc_new w _)
  · unfold W2 StBlk
    have := heap_alloc_new (w.alloc (.cells #[.int .i64 S, .int .i64 B, .int .i64 L, rv, .bool ov] 65)) (.cells #[.int .i64 0, .int .i64 0, .int .i64 0, .slice none 0 0, .bool false] 65)
    rwa [show (w.alloc (.cells #[.int .i64 S, .int .i64 B, .int .i64 L, rv, .bool ov] 65)).heap.size = w.heap.size + 1 by simp] at this
  · exact ((Below.refl _ _).alloc (Nat.le_refl _) _).alloc (by simp) _
  · simp [W2]
def put5 (w : World) (b : Nat) (y0 y1 y2 y3 y4 : Value) : World := ((((w.setCell ⟨b, 0, none⟩ y0).setCell ⟨b, 1, none⟩ y1).setCell ⟨b, 2, none⟩ y2).setCell ⟨b, 3, none⟩ y3).setCell ⟨b, 4, none⟩ y4
theorem put5_keeps (w : World) (b : Nat) (y0 y1 y2 y3 y4 : Value) : Keeps (· = b) w (put5 w b y0 y1 y2 y3 y4) :=
  (((((Keeps.refl (fun x => x = b) w).setCell ⟨b, 0, none⟩ _ (fun _ => rfl)).setCell ⟨b, 1, none⟩ _ (fun _ => rfl)).setCell ⟨b, 2, none⟩ _ (fun _ => rfl)).setCell ⟨b, 3, none⟩ _ (fun _ => rfl)).setCell ⟨b, 4, none⟩ _ (fun _ => rfl)
theorem put5_st {w : World} {b : Nat} {s1 b1 l1 : Nat} {r1 : Value} {o1 : Bool} (h : StBlk w b s1 b1 l1 r1 o1) (S B L : Nat) (rv : Value) (ov : Bool) : StBlk (put5 w b (.int .i64 S) (.int .i64 B) (.int .i64 L) rv (.bool ov)) b S B L rv ov := set5 h
/-- What is left where a state is given back. -/
theorem put5_end {w Wd : World} {b : Nat} {s1 b1 l1 : Nat} {r1 : Value} {o1 : Bool} (h : StBlk Wd b s1 b1 l1 r1 o1) (hb : Below w.heap.size w Wd) (hN : w.heap.size ≤ b) (S B L : Nat) (rv : Value) (ov : Bool) :
    ∃ W, W = put5 Wd b (.int .i64 S) (.int .i64 B) (.int .i64 L) rv (.bool ov) ∧ StBlk W b S B L rv ov ∧ Below w.heap.size w W ∧ Keeps (· = b) Wd W := by
  refine ⟨_, rfl, put5_st h S B L rv ov, ?_, put5_keeps _ _ _ _ _ _ _⟩
  have h1 := (Keeps.of_below_ge hb).trans (U := fun i => w.heap.size ≤ i) (put5_keeps Wd b (.int .i64 S) (.int .i64 B) (.int .i64 L) rv (.bool ov)) (fun _ _ e => e) (fun i _ e => by subst e; exact hN)
  exact h1.below (Nat.le_refl _) (fun i hi e => by omega)

/-- A state's row. -/
theorem row_form {w : World} {base S : Nat} {rv : Value} {F : Nat → Int} (h : w.ownsRow base 3 1 rv S (nrow S F)) (h0 : 0 < S) : ∃ g cap, rv = .slice (some ⟨g, 0, none⟩) S cap ∧ S ≤ cap ∧ cap ≤ maxLen ∧ base ≤ g ∧ g < w.heap.size ∧ ∀ x, x < S → w.cell? ⟨g, x, none⟩ = some (.int .i64 (F x)) := by
  obtain ⟨p, c, rfl, _, hp⟩ := own_slice h
  obtain ⟨g, rfl⟩ := hp h0
  obtain ⟨tail, hg, _, _, h3, h4⟩ := ownsRow_open (ownsRow_base h (Nat.zero_le _))
  have := h.lt g rfl
  exact ⟨g, c, rfl, h3, h4, this.1, this.2, fun x hx => (nrow_cell h hx).1⟩
def RefPost (w : World) (S B L : Nat) (F : Nat → Int) (ov : Bool) (e : Ending) (w' : World) : Prop :=
  ∃ rv, e = .returned (sAgg S B L rv ov) ∧ w'.ownsRow w.heap.size 3 1 rv S (nrow S F) ∧ Below w.heap.size w w'

set_option maxHeartbeats 800000 in
set_option maxRecDepth 100000 in
theorem refNew_any (S B L : Nat) (w : World) (hS : S ≤ 400) :
    Calls Try.prog 30 #[.int .i64 S, .int .i64 B, .int .i64 L] w (RefPost w S B L (fun _ => -1) false) := by
  obtain ⟨POST, hPOST⟩ : ∃ POST, POST = RefPost w S B L (fun _ => -1) false := ⟨_, rfl⟩
  rw [← hPOST]
  have HPOST := Lib.hid hPOST
  clear hPOST
  go_enter Try.func30, Try.ntmps30
  go_wp2_with fail
  go_loopg [8] S (fun gk x wr => ∃ (i : Nat) (rv : Value), x = .int .i64 i ∧ gk + i = S ∧ i ≤ S ∧ StBlk wr w.heap.size 0 0 0 (.slice none 0 0) false ∧
    StBlk wr (w.heap.size + 1) S B L rv false ∧ wr.ownsRow (w.heap.size + 2) 3 1 rv i (nrow i (fun _ => -1)) ∧ Below w.heap.size w wr ∧ w.heap.size + 2 ≤ wr.heap.size)
  case atStart =>
    refine ⟨0, .slice none 0 0, rfl, by omega, by omega, ?_, ?_, World.ownsRow_nil _ _ _ _, ((Below.refl _ _).alloc (Nat.le_refl _) _).alloc (by simp) _, by simp⟩
    · exact (heap_alloc_old (w := w.alloc _) (h := by simp) ..).trans (heap_alloc_new w _)
    · have := heap_alloc_new (w.alloc (.cells #[.int .i64 0, .int .i64 0, .int .i64 0, .slice none 0 0, .bool false] 65)) (.cells #[.int .i64 S, .int .i64 B, .int .i64 L, .slice none 0 0, .bool false] 65)
      rwa [show (w.alloc (.cells #[.int .i64 0, .int .i64 0, .int .i64 0, .slice none 0 0, .bool false] 65)).heap.size = w.heap.size + 1 by simp] at this
  case round =>
    obtain ⟨i, rv, rfl, hgk, hi, ha, hb, hown, hbel, hsz⟩ := hrel
    have HGK := Lib.hid hgk
    have HA := Lib.hid ha
    have HB := Lib.hid hb
    have HOWN := Lib.hid hown
    have HBEL := Lib.hid hbel
    obtain ⟨b0, b1, b2, b3, b4⟩ := hb.at_
    clear hgk ha hb hown hbel
    by_cases hlt : i < S
    · obtain ⟨i0, hi0, hi1, hi2, hi3⟩ := info_parts (show (Try.prog.info? 3).map (fun i => (i.zero, i.size, i.bytes)) = some (some (.int .i64 0), 1, 8) by kernel_rfl)
      have HI0 := Lib.hid hi0
      have HI1 := Lib.hid hi1
      have HI2 := Lib.hid hi2
      have HIZ := Lib.hid hi3
      clear hi0 hi1 hi2 hi3
      have HNE := Lib.hid (show rv.ownBlock ≠ some (w.heap.size + 1) from fun e => by have := (HOWN.out.lt _ e).1; omega)
      have HNA := Lib.hid (show rv.ownBlock ≠ some w.heap.size from fun e => by have := (HOWN.out.lt _ e).1; omega)
      go_wp2_with ((with_reducible refine wpList_append_ownF _ rfl (.tmp 19) (.tmp 20) 53 rfl (w.heap.size + 2) 3 i0 _ 1 8 Try.underlying53 HI0.out HI1.out HI2.out HIZ.out ?_ rv i (nrow i (fun _ => -1)) ?_ (HOWN.out.alloc _) ⟨wr.heap.size, 0, none⟩ 1 1 [.int .i64 (-1)] ?_ rfl (news0 _ _ _) ?_ (by decide) ?_ ?_ ?_ ?_); rfl; rfl; rfl; (intro u hu; simp at hu; rcases hu with rfl; rfl); (simp only [maxLen]; omega); omega; (simp; omega); intro lg cap6 w6 ho6 hg6 hf6; have HO6 := Lib.hid ho6; have HG6 := Lib.hid hg6; have HB6 := Lib.hid (blk_grown HB.out hg6 HNE.out); have c6 := cell_blk HB6.out 3; have f6 := frozen_blk HB6.out 3; simp only [List.getElem?_toArray, List.getElem?_cons_succ, List.getElem?_cons_zero] at c6; clear ho6 hg6 hf6)
      go_roundg (S - (i + 1))
      case measure => have := HGK.out; omega
      case rel =>
        have hb6 : Below w.heap.size w w6 := (HBEL.out.alloc HBEL.out.size _).grown HG6.out (by have := HBEL.out.size; simp; omega) (fun k e => by have := (HOWN.out.lt k e).1; omega)
        refine ⟨i + 1, _, by go_num, by omega, by omega, ?_, StBlk.set3 HB6.out, ?_, hb6.setCell (p := ⟨w.heap.size + 1, 3, none⟩) (by simp) _, ?_⟩
        · exact (heap_setCell_other _ _ _ _ (by simp)).trans (blk_grown HA.out HG6.out HNA.out)
        · rw [← nrow_snoc]
          exact ownsRow_keeps (S := (· = w.heap.size + 1)) HO6.out ((Keeps.refl _ _).setCell _ _ (fun _ => rfl)) (fun k e h => by have := (HO6.out.lt k e).1; omega)
        · have := HG6.out.size
          simp [World.setCell] at this ⊢
          omega
    · obtain rfl : i = S := by omega
      obtain ⟨rp, rc, rfl, _, _⟩ := own_slice HOWN.out
      obtain ⟨a0, a1, a2, a3, a4⟩ := HA.out.at_
      have f0 := HA.out.free
      have fa0 := f0 0
      have fa1 := f0 1
      have fa2 := f0 2
      have fa3 := f0 3
      have fa4 := f0 4
      clear f0
      go_wp2_with fail
      obtain ⟨W, hW, hst, hbel, hk⟩ := put5_end HA.out HBEL.out (Nat.le_refl _) i B L (.slice rp i rc) false
      have hown : W.ownsRow w.heap.size 3 1 (.slice rp i rc) i (nrow i (fun _ => -1)) := ownsRow_base (ownsRow_keeps HOWN.out hk (fun k e h => by have := (HOWN.out.lt k e).1; omega)) (by omega)
      obtain ⟨v0, v1, v2, v3, v4⟩ := hst.at_
      unfold put5 at hW
      rw [← hW]
      clear hW hk
      refine bodyPost_ret (v := sAgg i B L (.slice rp i rc) false) ?_ rfl ?_
      · simp [results, Try.results30, go_sem, sAgg, v0, v1, v2, v3, v4]
      · rw [HPOST.out]
        exact ⟨_, rfl, hown, hbel⟩
end Go.Proofs.Ytjklcecakdmbaaa
