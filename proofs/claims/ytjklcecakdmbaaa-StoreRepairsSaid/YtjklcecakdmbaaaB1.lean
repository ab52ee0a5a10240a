/-
  Contracts of package build: what lies in memory; Missing, Complete.
-/
import Derived.Test.YtjklcecakdmbaaaUpto
import Derived.Test.YtjklcecakdmbaaaCut
namespace Go.Proofs.Ytjklcecakdmbaaa
open Go.RowKit

def gflat (G : List (Int × Int × Int × Int)) : List Value := G.flatMap fun x => [Value.int .i64 x.1, Value.int .i64 x.2.1, Value.int .i64 x.2.2.1, Value.int .i64 x.2.2.2]

/-- Where a build lies. -/
structure BI where
  b : Nat
  p : Nat
  h : Nat
  hv : Value
  tv : Value
  lv : Value
/-- What a build is. -/
structure BS where
  S : Nat
  B : Nat
  L : Nat
  l : List (Int × Int)
  T : List Int
  G : List (Int × Int × Int × Int)
  over : Bool
structure BuildAt (w : World) (β : BI) (s : BS) : Prop where
  blk : w.heap[β.b]? = some (.cells #[.pointer (some ⟨β.p, 0, none⟩), .pointer (some ⟨β.h, 0, none⟩), β.tv, β.lv, .bool s.over] 105 (0, 0))
  plan : PlanAt w β.p s.S s.B s.L
  set : IsSet w β.h β.hv s.l
  txt : w.ownsRow 0 5 1 β.tv s.S (s.T.map (Value.int .u8))
  log : w.ownsRow 0 51 4 β.lv s.G.length (gflat s.G)
/-- The blocks that a build's calls may write. -/
def BI.foot (β : BI) (k : Nat) : Prop := k = β.b ∨ k = β.h ∨ β.hv.ownBlock = some k ∨ β.tv.ownBlock = some k ∨ β.lv.ownBlock = some k
theorem BuildAt.keeps {T : Nat → Prop} {w w' : World} {β : BI} {s : BS} (h : BuildAt w β s) (hk : Keeps T w w') (hf : ∀ k, β.foot k → ¬ T k) (hp : ¬ T β.p) : BuildAt w' β s :=
  ⟨(hk.block _ (lt_blk h.blk) (hf _ (.inl rfl))).trans h.blk, h.plan.keeps hk hp, h.set.keeps hk (hf _ (.inr (.inl rfl))) (fun k e => hf k (.inr (.inr (.inl e)))),
   ownsRow_keeps h.txt hk (fun k e => hf k (.inr (.inr (.inr (.inl e))))), ownsRow_keeps h.log hk (fun k e => hf k (.inr (.inr (.inr (.inr e)))))⟩
theorem BuildAt.below {w w' : World} {β : BI} {s : BS} (h : BuildAt w β s) (hk : Below w.heap.size w w') : BuildAt w' β s :=
  h.keeps (T := fun _ => False) (Keeps.of_below hk) (fun _ _ e => e) (fun e => e)

/-- What is missing: the blocks of the layers up to k that aren't there. -/
def missP (s : BS) (k n : Int) : Prop := 0 ≤ n ∧ n < (nblk s.S s.B : Nat) ∧ ((layerN n.toNat s.L : Nat) : Int) ≤ k ∧ ¬ inS s.l n
structure IsMiss (s : BS) (k : Int) (m : List (Int × Int)) : Prop where
  wf : Wf m
  mem : ∀ n, inS m n ↔ missP s k n
def MissPost (w : World) (s : BS) (k : Int) (e : Ending) (w' : World) : Prop :=
  ∃ (m : List (Int × Int)) (v' : Value), e = .returned v' ∧ IsMiss s k m ∧ w'.ownsRow w.heap.size 58 2 v' m.length (flat m) ∧ Below w.heap.size w w'

theorem own_ne_set {w : World} {base b n : Nat} {v u : Value} {l : List (Int × Int)} {xs : List Value} (h : IsSet w b v l) (ho : w.ownsRow base 58 2 u n xs) : ∀ k, u.ownBlock = some k → k ≠ b := by
  intro k e hk
  subst hk
  rcases ho.2 with ⟨rfl, _⟩ | ⟨g, cap, cur, rfl, _, hg, _⟩
  · cases e
  · cases e
    rw [h.blk] at hg
    simp at hg

theorem inS_take_succ {l : List (Int × Int)} {j : Nat} {x : Int × Int} (h : l[j]? = some x) (n : Int) : inS (l.take (j + 1)) n ↔ inS (l.take j) n ∨ (x.1 ≤ n ∧ n < x.2) := by
  obtain ⟨hk, e⟩ := List.getElem?_eq_some_iff.1 h
  rw [List.take_succ_eq_append_getElem hk, inS_append, e]
  simp [inS]

set_option maxHeartbeats 1600000 in
set_option maxRecDepth 100000 in
theorem missing_any (β : BI) (s : BS) (k : Int) (w : World) (hb : BuildAt w β s) :
    Calls Try.prog 26 #[.pointer (some ⟨β.b, 0, none⟩), .int .i64 k] w (MissPost w s k) := by
  obtain ⟨bb, hbb⟩ : ∃ bb, bb = β.b := ⟨_, rfl⟩
  obtain ⟨p, hp⟩ : ∃ p, p = β.p := ⟨_, rfl⟩
  obtain ⟨h, hh⟩ : ∃ h, h = β.h := ⟨_, rfl⟩
  have hblk := hb.blk
  rw [← hbb, ← hp, ← hh] at hblk
  rw [← hbb]
  have hlt : bb < w.heap.size := lt_blk hblk
  have c0 : w.cell? ⟨bb, 0, none⟩ = some (.pointer (some ⟨p, 0, none⟩)) := by rw [cell_blk hblk]; rfl
  have c1 : w.cell? ⟨bb, 1, none⟩ = some (.pointer (some ⟨h, 0, none⟩)) := by rw [cell_blk hblk]; rfl
  have HU := Lib.hid (show Calls Try.prog 56 #[.pointer (some ⟨p, 0, none⟩), .int .i64 k] w _ by rw [hp]; exact upto_any β.p s.S s.B s.L k w hb.plan)
  have HSET := Lib.hid (show IsSet w h β.hv s.l by rw [hh]; exact hb.set)
  obtain ⟨POST, hPOST⟩ : ∃ POST, POST = MissPost w s k := ⟨_, rfl⟩
  rw [← hPOST]
  have HPOST := Lib.hid hPOST
  obtain ⟨l, hl⟩ : ∃ l, l = s.l := ⟨_, rfl⟩
  rw [← hl] at HSET
  have HL := Lib.hid hl
  clear hb hbb hp hh hblk hPOST hl
  go_enter Try.func26, Try.ntmps26
  go_wp2_with fail
  refine HU.out.mono ?_
  rintro e w1 ⟨ob, ov, lo, rfl, hos, hom, hob1, hob2, hob3⟩
  have HOS := Lib.hid hos
  have HOM := Lib.hid hom
  have HOB3 := Lib.hid hob3
  clear hos hom hob3
  have d1 : w1.cell? ⟨bb, 1, none⟩ = some (.pointer (some ⟨h, 0, none⟩)) := (hob1.cell (p := ⟨bb, 1, none⟩) hlt).trans c1
  have HST := Lib.hid (stretches_any h β.hv l w1 (HSET.out.below hob1))
  clear c0 c1
  go_wp2_with fail
  refine HST.out.mono ?_
  rintro e w2 ⟨sv, rfl, hsown, hsb⟩
  have hos2 := HOS.out.below hsb
  have hb2 : Below w.heap.size w w2 := hob1.trans (hsb.mono hob1.size)
  have hne : ∀ j, ov.ownBlock = some j → sv.ownBlock ≠ some j := fun j e e2 => by
    have h1 := (HOS.out.lt).2 j e
    have h2 := (hsown.lt j e2).1
    omega
  have hwl := HSET.out.wf
  have hform := ownsRow_formN (ownsRow_base hsown (Nat.zero_le _))
  have HSO := Lib.hid hsown
  have HOS2 := Lib.hid hos2
  have HNE := Lib.hid hne
  have HWL := Lib.hid hwl
  clear hsown hos2 hne d1 hwl
  obtain ⟨len, hlen⟩ : ∃ len, len = l.length := ⟨_, rfl⟩
  have HLEN := Lib.hid hlen
  rw [← hlen] at hform
  clear hlen
  rcases hform with ⟨rfl, hz, _⟩ | ⟨g, cap, rfl, hg, hcap, hcm⟩
  · have hln : l = [] := List.eq_nil_of_length_eq_zero (by rw [← HLEN.out]; exact hz)
    have hmiss : ∀ n, inS lo n ↔ missP s k n := fun n => by
      rw [HOM.out n]
      have : ¬ inS s.l n := by rw [← HL.out, hln]; exact inS_nil n
      unfold missP
      constructor
      · rintro ⟨h1, h2, h3⟩; exact ⟨h1, h2, h3, this⟩
      · rintro ⟨h1, h2, h3, _⟩; exact ⟨h1, h2, h3⟩
    have HMISS := Lib.hid (show IsMiss s k lo from ⟨HOS2.out.wf, hmiss⟩)
    have HST2 := Lib.hid (stretches_any ob ov lo w2 HOS2.out)
    clear hmiss hln hz
    go_wp2_with fail
    refine wp_loop_rounds 1 ?_
    rw [rounds_succ]
    go_wp2_with fail
    refine HST2.out.mono ?_
    rintro e w3 ⟨rv, rfl, hrown, hrb⟩
    have hp : POST (.returned rv) w3 := by
      rw [HPOST.out]
      exact ⟨lo, rv, rfl, HMISS.out, ownsRow_base hrown hb2.size, hb2.trans (hrb.mono hb2.size)⟩
    have HP := Lib.hid hp
    clear hp hrown
    go_wp2_with fail
    exact HP.out
  · have hlen16 : len ≤ 16384 := by rw [HLEN.out]; exact HWL.out.len
    go_wp2_with fail
    go_loopg [20] len (fun gk i wr => ∃ (j : Nat) (v : Value) (lc : List (Int × Int)), i = .int .i64 j ∧ gk + j = len ∧ j ≤ len ∧ IsSet wr ob v lc ∧ (∀ n, inS lc n ↔ (0 ≤ n ∧ n < (nblk s.S s.B : Nat) ∧ ((layerN n.toNat s.L : Nat) : Int) ≤ k) ∧ ¬ inS (l.take j) n) ∧
        Below w.heap.size w wr ∧ (∀ j, v.ownBlock = some j → w.heap.size ≤ j ∧ j ≠ g) ∧ wr.ownsRow 0 58 2 (.slice (some ⟨g, 0, none⟩) len cap) len (flat l))
    case atStart =>
      refine ⟨0, ov, lo, rfl, rfl, by omega, HOS2.out, ?_, hb2, ?_, ?_⟩
      · intro n
        rw [HOM.out n]
        exact ⟨fun h => ⟨h, inS_nil n⟩, fun h => h.1⟩
      · intro j e
        exact ⟨HOB3.out j e, fun e2 => HNE.out j e (by rw [e2]; rfl)⟩
      · have := ownsRow_base HSO.out (Nat.zero_le _)
        rw [← HLEN.out] at this
        exact this
    case round =>
      obtain ⟨j, v, lc, rfl, hgk, hj, hs, hmem, hbel, hv, hso⟩ := hrel
      have HGK := Lib.hid hgk
      have HS := Lib.hid hs
      have HM := Lib.hid hmem
      have HV := Lib.hid hv
      have HSO3 := Lib.hid hso
      have hgw := lt_blk (ownsRow_open hso).choose_spec.1
      clear hgk hs hmem hv hso
      by_cases hlt2 : j < len
      · obtain ⟨⟨x, y⟩, hx⟩ : ∃ x, l[j]? = some x := ⟨_, List.getElem?_eq_getElem (by have := HLEN.out; omega)⟩
        have hxy := HWL.out.at hx
        have hcc := cells_of_own HSO3.out
        have k0 : wr.cell? ⟨g, j * 2, none⟩ = some (.int .i64 x) := (hcc j _ hx).1
        have k1 : wr.cell? ⟨g, j * 2 + 1, none⟩ = some (.int .i64 y) := (hcc j _ hx).2
        have HX := Lib.hid hx
        have HCUT := Lib.hid (cut_any ob v lc x y (wr.alloc (.cells #[.int .i64 x, .int .i64 y] 58)) (HS.out.below ((Below.refl _ _).alloc (Nat.le_refl _) _)) hxy.1 hxy.2.1 hxy.2.2)
        clear hx hxy hcc
        go_wp2_with fail
        refine HCUT.out.mono ?_
        rintro e w4 ⟨r, v4, l4, rfl, hs4, hm4, hk4, hf4⟩
        have HS4 := Lib.hid hs4
        have HM4 := Lib.hid hm4
        have HK4 := Lib.hid hk4
        have HF4 := Lib.hid hf4
        clear hs4 hm4 hk4 hf4
        go_wp2_with fail
        go_roundg (len - (j + 1))
        case measure => have := HGK.out; omega
        case rel =>
          have hbl : Below w.heap.size w (wr.alloc (.cells #[.int .i64 x, .int .i64 y] 58)) := hbel.alloc hbel.size _
          refine ⟨j + 1, v4, l4, by go_num, by omega, by omega, HS4.out, ?_, ?_, ?_, ?_⟩
          · intro n
            rw [HM4.out n, HM.out n, inS_take_succ HX.out n]
            constructor
            · rintro ⟨⟨h1, h2⟩, h3⟩; exact ⟨h1, fun h => h.elim h2 h3⟩
            · rintro ⟨h1, h2⟩; exact ⟨⟨h1, fun h => h2 (.inl h)⟩, fun h => h2 (.inr h)⟩
          · refine hbl.trans (HK4.out.below (B := w.heap.size) hbl.size ?_)
            intro i hi e
            rcases e with e | e
            · omega
            · have := (HV.out i e).1; omega
          · intro i e
            rcases HF4.out with h | h
            · exact HV.out i (by rw [← h]; exact e)
            · have h1 := h i e
              have h2 := hbel.size
              simp at h1
              omega
          · refine ownsRow_keeps (HSO3.out.alloc _) HK4.out ?_
            intro i e e2
            cases e
            rcases e2 with e2 | e2
            · exact own_ne_set HS.out HSO3.out g rfl e2
            · exact (HV.out g e2).2 rfl
      · obtain rfl : j = len := by omega
        have hmiss : ∀ n, inS lc n ↔ missP s k n := fun n => by
          rw [HM.out n, HLEN.out, List.take_of_length_le (Nat.le_refl _), HL.out]
          unfold missP
          constructor
          · rintro ⟨⟨h1, h2, h3⟩, h4⟩; exact ⟨h1, h2, h3, h4⟩
          · rintro ⟨h1, h2, h3, h4⟩; exact ⟨⟨h1, h2, h3⟩, h4⟩
        have HMISS := Lib.hid (show IsMiss s k lc from ⟨HS.out.wf, hmiss⟩)
        have HST2 := Lib.hid (stretches_any ob v lc wr HS.out)
        clear hmiss
        go_wp2_with fail
        refine HST2.out.mono ?_
        rintro e w3 ⟨rv, rfl, hrown, hrb⟩
        have hp : POST (.returned rv) w3 := by
          rw [HPOST.out]
          exact ⟨lc, rv, rfl, HMISS.out, ownsRow_base hrown hbel.size, hbel.trans (hrb.mono hbel.size)⟩
        have HP := Lib.hid hp
        clear hp hrown
        go_wp2_with fail
        exact HP.out
end Go.Proofs.Ytjklcecakdmbaaa
