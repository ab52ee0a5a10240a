/-
  Contracts of package ranges: Cut.
-/
import Derived.Test.YtjklcecakdmbaaaAdd
import Derived.Test.YtjklcecakdmbaaaOwn
import Derived.Deep.RegionHeld3
namespace Go.Proofs.Ytjklcecakdmbaaa
open Go.RowKit

def ne2 (p : Int × Int) : Bool := decide (p.1 < p.2)
theorem pieces_filter (x : Int × Int) (a b : Int) : pieces x a b = [(x.1, min x.2 a), (max x.1 b, x.2)].filter ne2 := by
  unfold pieces
  by_cases h1 : x.1 < min x.2 a <;> by_cases h2 : max x.1 b < x.2 <;> simp [ne2, h1, h2]

theorem news2 (w : World) (A : Obj) (p q : Value) (t : TypeId) : ∀ j u, [p, q][j]? = some u → ((w.alloc A).alloc (.cells #[p, q] t)).cell? ((⟨w.heap.size + 1, 0, none⟩ : Addr).add j) = some u := by
  intro j u hj
  have hadd : (⟨w.heap.size + 1, 0, none⟩ : Addr).add j = ⟨w.heap.size + 1, j, none⟩ := by unfold Addr.add; split <;> simp_all
  rw [hadd, World.cell?_alloc2_new]
  simpa using hj
theorem take_filter_yes {left pcs : List (Int × Int)} {k : Nat} {p q : Int} (h : pcs[k]? = some (p, q)) (hl : p < q) : left ++ (pcs.take (k + 1)).filter ne2 = (left ++ (pcs.take k).filter ne2) ++ [(p, q)] := by
  obtain ⟨hk, e⟩ := List.getElem?_eq_some_iff.1 h
  rw [List.take_succ_eq_append_getElem hk, List.filter_append, e]
  simp [ne2, hl]
theorem take_filter_no {left pcs : List (Int × Int)} {k : Nat} {p q : Int} (h : pcs[k]? = some (p, q)) (hl : ¬ p < q) : left ++ (pcs.take (k + 1)).filter ne2 = left ++ (pcs.take k).filter ne2 := by
  obtain ⟨hk, e⟩ := List.getElem?_eq_some_iff.1 h
  rw [List.take_succ_eq_append_getElem hk, List.filter_append, e]
  simp [ne2, hl]
theorem in_end {w wq w3 : World} {rb g3 : Nat} {vq : Value} {C : Array Value} {x y : Obj} (hb : Below w.heap.size w wq) (hr : wq.heap[rb]? = some (.cells C 58 (0, 0))) (hn : vq.ownBlock ≠ some rb)
    (hg : ((wq.alloc x).alloc y).grownBy w3 vq.ownBlock) (ho : vq.ownBlock = some g3 ∨ ((wq.alloc x).alloc y).heap.size = g3) (hvq : ∀ k, vq.ownBlock = some k → w.heap.size ≤ k) {cap n : Nat} :
    w3.heap[rb]? = some (.cells C 58 (0, 0)) ∧ Below w.heap.size w w3 ∧ (Value.slice (some ⟨g3, 0, none⟩) n cap).ownBlock ≠ some rb ∧ rb < w3.heap.size := by
  have hlt := lt_blk hr
  have e1 : ((wq.alloc x).alloc y).heap[rb]? = some (.cells C 58 (0, 0)) := (heap_alloc_old (w := wq.alloc x) (h := by simp; omega) ..).trans ((heap_alloc_old (h := hlt) ..).trans hr)
  have e2 : w3.heap[rb]? = some (.cells C 58 (0, 0)) := (hg.block rb (by simp; omega) (fun e => hn e.symm)).trans e1
  refine ⟨e2, ((hb.alloc hb.size _).alloc (by have := hb.size; simp; omega) _).grown hg (by have := hb.size; simp; omega) (fun k e => hvq k e), ?_, lt_blk e2⟩
  intro e
  have e3 : g3 = rb := by cases e; rfl
  rcases ho with h | h
  · exact hn (by rw [h, e3])
  · simp at h; omega

theorem cut_end {w wr w' : World} {b i t : Nat} {v : Value} {l left : List (Int × Int)} {a bb : Int} (hw : Wf l) (hbr : BRel l a i i) (hbel : Below w.heap.size w wr) (ht : Left l a bb i t left) (hend : ∀ x, l[t]? = some x → bb ≤ x.1) {e : Ending}
    (h : LayPost wr b v (l.take i ++ left ++ l.drop t) e w') : ∃ r : Int, e = .returned (.int .i64 r) ∧ ∀ r', SetPost w b v (fun n => inS l n ∧ ¬ (a ≤ n ∧ n < bb)) (.returned (.tuple #[.int .i64 r', .int .i64 0])) w' := by
  obtain ⟨r, v', rfl, hs', hk, hf⟩ := h
  refine ⟨r, rfl, fun r' => ⟨r', v', _, rfl, hs', ht.inS hw hbr hend, ?_, ?_⟩⟩
  · exact (Keeps.of_below (S := fun _ => False) hbel).trans hk (fun _ _ e => e.elim) (fun _ _ e => e)
  · rcases hf with h | h
    · exact .inl h
    · exact .inr fun k hk => Nat.le_trans hbel.size (h k hk)

set_option maxHeartbeats 1600000 in
set_option maxRecDepth 100000 in
theorem cut_some (b g cap : Nat) (l : List (Int × Int)) (a bb : Int) (w : World) (hs : IsSet w b (.slice (some ⟨g, 0, none⟩) l.length cap) l) (h0 : 0 ≤ a) (hab : a < bb) (h1 : bb ≤ 16384) :
    Calls Try.prog 49 #[.pointer (some ⟨b, 0, none⟩), .int .i64 a, .int .i64 bb] w (SetPost w b (.slice (some ⟨g, 0, none⟩) l.length cap) (fun n => inS l n ∧ ¬ (a ≤ n ∧ n < bb))) := by
  have hlt := lt_blk hs.blk
  have hlen := hs.wf.len
  obtain ⟨len, hl⟩ : ∃ len, len = l.length := ⟨_, rfl⟩
  rw [← hl] at hlen
  obtain ⟨V, hV⟩ : ∃ V, V = Value.slice (some ⟨g, 0, none⟩) len cap := ⟨_, rfl⟩
  rw [← hl, ← hV] at hs ⊢
  have hg : g < w.heap.size := (hs.own.lt g (by rw [hV]; rfl)).2
  have hcap : len ≤ cap := by
    have := hs.own
    rw [hV, ← hl] at this
    obtain ⟨_, _, _, _, h, _⟩ := ownsRow_open this
    exact h
  have hcells : CellsP w g l := by
    have := hs.own
    rw [hV, ← hl] at this
    exact cells_of_own this
  have c0 : w.cell? ⟨b, 0, none⟩ = some (.slice (some ⟨g, 0, none⟩) len cap) := by rw [cell_blk hs.blk, hV]; rfl
  have hne : (a == bb) = false := by simp; omega
  have hdec : decide (0 ≤ a ∧ bb ≤ 16384 ∧ a ≤ bb) = true := by simp; omega
  obtain ⟨i0, hi0, hi1, hi2, hi3⟩ := info_parts Try.info58
  have HI0 := Lib.hid hi0
  have HI1 := Lib.hid hi1
  have HI2 := Lib.hid hi2
  have HI3 := Lib.hid hi3
  have HR := Lib.hid (right_any a bb)
  have HF := Lib.hid (from_any b V l a w hs h0 (by omega))
  obtain ⟨POST, hPOST⟩ : ∃ POST, POST = SetPost w b V (fun n => inS l n ∧ ¬ (a ≤ n ∧ n < bb)) := ⟨_, rfl⟩
  rw [← hPOST]
  have HPOST := Lib.hid hPOST
  have HS := Lib.hid hs
  have HV := Lib.hid hV
  have HL := Lib.hid hl
  have HC := Lib.hid hcells
  have HD := Lib.hid hdec
  clear hs hV hl hcells hPOST hdec hi0 hi1 hi2 hi3
  go_enter Try.func49, Try.ntmps49
  go_wp2_with fail
  refine (HR.out w).mono ?_
  rintro e w0 ⟨rfl, rfl⟩
  rw [HD.out]
  go_wp2_with fail
  refine HF.out.mono ?_
  rintro e w1 ⟨i, rfl, hr, hbel⟩
  have HBR := Lib.hid hr
  have hi : i ≤ len := by rw [HL.out]; exact hr.2.1
  clear hr c0
  go_wp2_with fail
  go_loopg [9, 10] (len - i) (fun gk z vl wr => ∃ (t : Nat) (left : List (Int × Int)), z = .int .i64 t ∧ gk + t = len ∧ t ≤ len ∧ Left l a bb i t left ∧ Below w.heap.size w wr ∧ wr.ownsRow w.heap.size 58 2 vl left.length (flat left) ∧ (left = [] → vl = .slice none 0 0))
  case atStart => exact ⟨i, [], rfl, by omega, hi, Left.start HBR.out.2.1, hbel, World.ownsRow_nil _ _ _ _, fun _ => rfl⟩
  case round =>
    obtain ⟨t, left, rfl, hgk, ht, hlf, hbel2, hown, hnil⟩ := hrel
    obtain ⟨wo, rfl⟩ : ∃ wo : World, wo = wr := ⟨_, rfl⟩
    obtain ⟨vl, rfl⟩ : ∃ vl : Value, vl = u10 := ⟨_, rfl⟩
    obtain ⟨gko, rfl⟩ : ∃ gko : Nat, gko = gk := ⟨_, rfl⟩
    have HGK := Lib.hid hgk
    have HOWN := Lib.hid hown
    have HNIL := Lib.hid hnil
    clear hgk hown hnil
    have d0 : wo.cell? ⟨b, 0, none⟩ = some (.slice (some ⟨g, 0, none⟩) len cap) := (hbel2.cell (p := ⟨b, 0, none⟩) hlt).trans (by rw [cell_blk HS.out.blk, HV.out]; rfl)
    by_cases hlt1 : t < len
    · obtain ⟨⟨x, y⟩, hx⟩ : ∃ x, l[t]? = some x := ⟨_, List.getElem?_eq_getElem (by have := HL.out; omega)⟩
      have k0 : wo.cell? ⟨g, t * 2, none⟩ = some (.int .i64 x) := (hbel2.cell (p := ⟨g, _, none⟩) hg).trans (HC.out _ _ hx).1
      have k1 : wo.cell? ⟨g, t * 2 + 1, none⟩ = some (.int .i64 y) := (hbel2.cell (p := ⟨g, _, none⟩) hg).trans (HC.out _ _ hx).2
      have hb16 := HS.out.wf.at hx
      have HX := Lib.hid hx
      have HB16 := Lib.hid hb16
      clear hx hb16
      by_cases hle : x < bb
      · go_wp2_with fail
        obtain ⟨m1, hm1⟩ : ∃ m1, (if a < y then a else y) = m1 := ⟨_, rfl⟩
        go_region_held3 (fun w' => w'.cell? ⟨b, 0, none⟩ = some (.slice (some ⟨g, 0, none⟩) len cap) ∧ w'.cell? ⟨g, t * 2, none⟩ = some (.int .i64 x) ∧ w'.cell? ⟨g, t * 2 + 1, none⟩ = some (.int .i64 y)) (go_keep) (first | fail)
        all_goals
          go_wp2_with fail
          obtain ⟨pcs, hpcs⟩ : ∃ pcs : List (Int × Int), pcs = [(x, m1), (bb, y)] := ⟨_, rfl⟩
          have hrb : ((wo.alloc (.cells #[.int .i64 x, .int .i64 m1, .int .i64 bb, .int .i64 y] 58)).drew).heap[wo.heap.size]? = some (.cells (flat pcs).toArray 58 (0, 0)) := by rw [hpcs]; exact heap_alloc_new wo _
          have hbl0 : Below w.heap.size w (wo.alloc (.cells #[.int .i64 x, .int .i64 m1, .int .i64 bb, .int .i64 y] 58)).drew := (hbel2.alloc hbel2.size _).drew
          have hown0 : (wo.alloc (.cells #[.int .i64 x, .int .i64 m1, .int .i64 bb, .int .i64 y] 58)).drew.ownsRow w.heap.size 58 2 vl left.length (flat left) := (HOWN.out.alloc _).drew
          have hnb0 : vl.ownBlock ≠ some wo.heap.size := fun e => by have := (HOWN.out.lt _ e).2; omega
          obtain ⟨w2, hw2⟩ : ∃ w2, w2 = (wo.alloc (.cells #[.int .i64 x, .int .i64 m1, .int .i64 bb, .int .i64 y] 58)).drew := ⟨_, rfl⟩
          rw [← hw2] at hrb hbl0 hown0 ⊢
          have HPCS := Lib.hid hpcs
          have HM1 := Lib.hid hm1
          have HRB := Lib.hid hrb
          have HO0 := Lib.hid hown0
          clear hw2 hpcs hm1 hrb hown0
          go_loopg [10, 83] 2 (fun gq vq c wq => ∃ k : Nat, c = .int .i64 k ∧ gq + k = 2 ∧ k ≤ 2 ∧ wq.heap[wo.heap.size]? = some (.cells (flat pcs).toArray 58 (0, 0)) ∧ Below w.heap.size w wq ∧
              wq.ownsRow w.heap.size 58 2 vq (left ++ (pcs.take k).filter ne2).length (flat (left ++ (pcs.take k).filter ne2)) ∧ vq.ownBlock ≠ some wo.heap.size ∧ (left ++ (pcs.take k).filter ne2 = [] → vq = .slice none 0 0) ∧ wo.heap.size < wq.heap.size)
          case atStart => exact ⟨0, rfl, rfl, by omega, HRB.out, hbl0, by simpa using HO0.out, hnb0, by simpa using HNIL.out, lt_blk HRB.out⟩
          case round =>
            obtain ⟨k, rfl, hgq, hk, hrbq, hblq, hownq, hnbq, hnilq, hltq⟩ := hrel
            have HGQ := Lib.hid hgq
            have HRBQ := Lib.hid hrbq
            have HOQ := Lib.hid hownq
            have HNQ := Lib.hid hnilq
            have HBQ := Lib.hid hnbq
            clear hgq hrbq hownq hnilq hnbq
            by_cases hkq : k < 2
            · obtain ⟨⟨p, q⟩, hpq⟩ : ∃ z, pcs[k]? = some z := ⟨_, List.getElem?_eq_getElem (by rw [HPCS.out]; exact hkq)⟩
              have e0 : wr.cell? ⟨wo.heap.size, k * 2, none⟩ = some (.int .i64 p) := by rw [cell_blk HRBQ.out, List.getElem?_toArray]; exact flat_get0 hpq
              have e1 : wr.cell? ⟨wo.heap.size, k * 2 + 1, none⟩ = some (.int .i64 q) := by rw [cell_blk HRBQ.out, List.getElem?_toArray]; exact flat_get1 hpq
              have HPQ := Lib.hid hpq
              clear hpq
              by_cases hlpq : p < q
              · have hstep : left ++ (pcs.take (k + 1)).filter ne2 = (left ++ (pcs.take k).filter ne2) ++ [(p, q)] := take_filter_yes HPQ.out hlpq
                have HSTEP := Lib.hid hstep
                have hll : (left ++ (pcs.take k).filter ne2).length ≤ 40000 := by
                  have h5 := hlf.len; have h6 := HL.out
                  have h7 : ((pcs.take k).filter ne2).length ≤ 2 := Nat.le_trans (List.length_filter_le _ _) (by rw [List.length_take]; omega)
                  rw [List.length_append]; omega
                have HLL := Lib.hid hll
                clear hstep hll
                go_wp2_with ((with_reducible refine wpList_append_ownF _ rfl (.tmp 92) (.tmp 94) 22 rfl w.heap.size 58 i0 _ 2 16 Try.underlying22 HI0.out HI1.out HI2.out HI3.out ?_ _ _ _ ?_ ((HOQ.out.alloc _).alloc _) ⟨wr.heap.size + 1, 0, none⟩ 1 1 [.int .i64 p, .int .i64 q] ?_ rfl (news2 _ _ _ _ _) ?_ (by decide) ?_ ?_ ?_ ?_); rfl; rfl; rfl; (intro u hu; simp at hu; rcases hu with rfl | rfl <;> rfl); (have := HLL.out; simp only [maxLen]; omega); (have := HLL.out; omega); (have := hblq.size; simp; omega); intro g3 cap3 w3 hown3 hgr3 hor3; have HO3 := Lib.hid hown3; have HG3 := Lib.hid hgr3; have HR3 := Lib.hid hor3; clear hown3 hgr3 hor3)
                go_roundg (2 - (k + 1))
                case measure => have := HGQ.out; omega
                case rel =>
                  have hin := in_end (x := .cells #[.int .i64 p, .int .i64 q] 58) (y := .cells #[.int .i64 p, .int .i64 q] 58) hblq HRBQ.out HBQ.out HG3.out HR3.out (fun k hk => (HOQ.out.lt k hk).1) (cap := cap3) (n := (left ++ (pcs.take k).filter ne2).length + 1)
                  refine ⟨k + 1, by go_num, by omega, by omega, hin.1, hin.2.1, ?_, hin.2.2.1, ?_, hin.2.2.2⟩
                  · rw [HSTEP.out, flat_append, List.length_append]; have h8 := HO3.out; have hle : (left ++ (pcs.take k).filter ne2).length = left.length + ((pcs.take k).filter ne2).length := List.length_append; rw [hle] at h8 ⊢; exact h8
                  · intro e; rw [HSTEP.out] at e; simp at e
              · have hstep : left ++ (pcs.take (k + 1)).filter ne2 = left ++ (pcs.take k).filter ne2 := take_filter_no HPQ.out hlpq
                have HSTEP := Lib.hid hstep
                clear hstep
                go_wp2_with fail
                go_roundg (2 - (k + 1))
                case measure => have := HGQ.out; omega
                case rel =>
                  refine ⟨k + 1, by go_num, by omega, by omega, ?_, hblq.alloc hblq.size _, ?_, HBQ.out, ?_, ?_⟩
                  · exact (heap_alloc_old (h := hltq) ..).trans HRBQ.out
                  · rw [HSTEP.out]; exact HOQ.out.alloc _
                  · rw [HSTEP.out]; exact HNQ.out
                  · simp; omega
            · obtain rfl : k = 2 := by omega
              go_wp2_with fail
              go_roundg (len - (t + 1))
              case measure => have := HGK.out; omega
              case rel =>
                have hpc : left ++ (pcs.take 2).filter ne2 = left ++ pieces (x, y) a bb := by
                  rw [pieces_filter, HPCS.out, ← HM1.out]
                  have e1 : (if a < y then a else y) = min y a := by omega
                  have e2 : max x bb = bb := by omega
                  simp only [e1, e2]; rfl
                refine ⟨t + 1, left ++ pieces (x, y) a bb, by go_num, by omega, by omega, hlf.next HS.out.wf hab HX.out hle, hblq, ?_, ?_⟩
                · rw [← hpc]; exact HOQ.out
                · rw [← hpc]; exact HNQ.out
      · have hend : ∀ z, l[t]? = some z → bb ≤ z.1 := by intro z hz; rw [HX.out] at hz; cases hz; simp; omega
        have HLAY := Lib.hid (lay_any b i t V vl l left wo (HS.out.below hbel2) hlf.it hlf.tl (ownsRow_base HOWN.out (Nat.zero_le _)) HNIL.out (fun k hk e => by have h3 := HS.out.lt.2 _ hk; have h4 := (HOWN.out.lt _ e).1; omega) (hlf.wfAll HS.out.wf))
        have HEND := Lib.hid (fun e w' => cut_end (b := b) (v := V) (e := e) (w' := w') HS.out.wf HBR.out hbel2 hlf hend)
        clear hend hlf
        go_wp2_with fail
        refine HLAY.out.mono ?_
        rintro e w' hpost
        obtain ⟨r, rfl, hp⟩ := HEND.out _ _ hpost
        rw [← HPOST.out] at hp
        have HP := Lib.hid hp
        clear hp hpost
        go_wp2_with fail
        exact HP.out _
    · have hend : ∀ z, l[t]? = some z → bb ≤ z.1 := by intro z hz; rw [List.getElem?_eq_none (by rw [← HL.out]; omega)] at hz; cases hz
      have HLAY := Lib.hid (lay_any b i t V vl l left wo (HS.out.below hbel2) hlf.it hlf.tl (ownsRow_base HOWN.out (Nat.zero_le _)) HNIL.out (fun k hk e => by have h3 := HS.out.lt.2 _ hk; have h4 := (HOWN.out.lt _ e).1; omega) (hlf.wfAll HS.out.wf))
      have HEND := Lib.hid (fun e w' => cut_end (b := b) (v := V) (e := e) (w' := w') HS.out.wf HBR.out hbel2 hlf hend)
      clear hend hlf
      go_wp2_with fail
      refine HLAY.out.mono ?_
      rintro e w' hpost
      obtain ⟨r, rfl, hp⟩ := HEND.out _ _ hpost
      rw [← HPOST.out] at hp
      have HP := Lib.hid hp
      clear hp hpost
      go_wp2_with fail
      exact HP.out _

set_option maxHeartbeats 800000 in
set_option maxRecDepth 100000 in
theorem cut_nil (b : Nat) (a bb : Int) (w : World) (hs : IsSet w b (.slice none 0 0) []) (h0 : 0 ≤ a) (hab : a < bb) (h1 : bb ≤ 16384) :
    Calls Try.prog 49 #[.pointer (some ⟨b, 0, none⟩), .int .i64 a, .int .i64 bb] w (SetPost w b (.slice none 0 0) (fun n => inS [] n ∧ ¬ (a ≤ n ∧ n < bb))) := by
  have hlt := lt_blk hs.blk
  obtain ⟨V, hV⟩ : ∃ V, V = Value.slice none 0 0 := ⟨_, rfl⟩
  rw [← hV] at hs ⊢
  have c0 : w.cell? ⟨b, 0, none⟩ = some (.slice none 0 0) := by rw [cell_blk hs.blk, hV]; rfl
  have hne : (a == bb) = false := by simp; omega
  have hdec : decide (0 ≤ a ∧ bb ≤ 16384 ∧ a ≤ bb) = true := by simp; omega
  have HR := Lib.hid (right_any a bb)
  have HF := Lib.hid (from_any b V [] a w hs h0 (by omega))
  obtain ⟨POST, hPOST⟩ : ∃ POST, POST = SetPost w b V (fun n => inS [] n ∧ ¬ (a ≤ n ∧ n < bb)) := ⟨_, rfl⟩
  rw [← hPOST]
  have HPOST := Lib.hid hPOST
  have HS := Lib.hid hs
  have HV := Lib.hid hV
  have HD := Lib.hid hdec
  clear hs hV hPOST hdec
  go_enter Try.func49, Try.ntmps49
  go_wp2_with fail
  refine (HR.out w).mono ?_
  rintro e w0 ⟨rfl, rfl⟩
  rw [HD.out]
  go_wp2_with fail
  refine HF.out.mono ?_
  rintro e wr ⟨i, rfl, hr, hbel2⟩
  obtain rfl : i = 0 := by have := hr.2.1; simp at this; exact this
  have hlf : Left [] a bb 0 0 [] := Left.start (Nat.le_refl _)
  have d0 : wr.cell? ⟨b, 0, none⟩ = some (.slice none 0 0) := (hbel2.cell (p := ⟨b, 0, none⟩) hlt).trans c0
  have HLAY := Lib.hid (lay_any b 0 0 V (.slice none 0 0) [] [] wr (HS.out.below hbel2) hlf.it hlf.tl (World.ownsRow_nil _ _ _ _) (fun _ => rfl) (fun k hk e => by cases e) (hlf.wfAll HS.out.wf))
  have HEND := Lib.hid (fun e w' => cut_end (b := b) (v := V) (e := e) (w' := w') HS.out.wf hr hbel2 hlf (by simp))
  clear hr c0 hlf
  go_wp2_with fail
  refine wp_loop_rounds 1 ?_
  rw [rounds_succ]
  go_wp2_with fail
  refine HLAY.out.mono ?_
  rintro e w' hpost
  obtain ⟨r, rfl, hp⟩ := HEND.out _ _ hpost
  rw [← HPOST.out] at hp
  have HP := Lib.hid hp
  clear hp hpost
  go_wp2_with fail
  exact HP.out _

theorem cut_any (b : Nat) (v : Value) (l : List (Int × Int)) (a bb : Int) (w : World) (hs : IsSet w b v l) (h0 : 0 ≤ a) (hab : a < bb) (h1 : bb ≤ 16384) :
    Calls Try.prog 49 #[.pointer (some ⟨b, 0, none⟩), .int .i64 a, .int .i64 bb] w (SetPost w b v (fun n => inS l n ∧ ¬ (a ≤ n ∧ n < bb))) := by
  rcases ownsRow_formN hs.own with ⟨rfl, h2, _⟩ | ⟨g, cap, rfl, _, _, _⟩
  · obtain rfl : l = [] := List.eq_nil_of_length_eq_zero h2
    exact cut_nil b a bb w hs h0 hab h1
  · exact cut_some b g cap l a bb w hs h0 hab h1
end Go.Proofs.Ytjklcecakdmbaaa
