/-
  Contracts of package build: Put, where it takes a block.
-/
import Derived.Test.YtjklcecakdmbaaaB6
import Derived.Test.YtjklcecakdmbaaaOwn
namespace Go.Proofs.Ytjklcecakdmbaaa
open Go.RowKit

theorem Try.size5 : (Try.prog.info? 5).map (·.size) = some 1 := by kernel_rfl
/-- A block's type. -/
def tyAt (w : World) (k : Nat) (t : TypeId) : Prop := ∃ cs, w.heap[k]? = some (.cells cs t (0, 0))
theorem tyAt.ne {w : World} {k k' : Nat} {t t' : TypeId} (h : tyAt w k t) (h' : tyAt w k' t') (hn : t ≠ t') : k ≠ k' := by
  rintro rfl
  obtain ⟨c, h⟩ := h
  obtain ⟨c', h'⟩ := h'
  rw [h] at h'
  simp at h'
  exact hn h'.2
theorem tyAt.lt {w : World} {k : Nat} {t : TypeId} (h : tyAt w k t) : k < w.heap.size := lt_blk h.choose_spec
theorem tyAt.keeps {S : Nat → Prop} {w w' : World} {k : Nat} {t : TypeId} (h : tyAt w k t) (hk : Keeps S w w') (hn : ¬ S k) : tyAt w' k t := ⟨_, (hk.block k h.lt hn).trans h.choose_spec⟩
theorem own_ty {w : World} {base : Nat} {e : TypeId} {size n k : Nat} {v : Value} {xs : List Value} (h : w.ownsRow base e size v n xs) (hv : v.ownBlock = some k) : tyAt w k e := by
  rcases h.2 with ⟨rfl, _⟩ | ⟨g, cap, cur, rfl, _, hg, _⟩
  · cases hv
  · cases hv; exact ⟨_, hg⟩
theorem blk_set3 {w : World} {b : Nat} {x0 x1 x2 x3 x4 y : Value} {t : TypeId} (h : w.heap[b]? = some (.cells #[x0, x1, x2, x3, x4] t (0, 0))) : (w.setCell ⟨b, 3, none⟩ y).heap[b]? = some (.cells #[x0, x1, x2, y, x4] t (0, 0)) := by
  rw [heap_setCell_same w b 3 _ t _ h]; rfl

/-- What Put leaves. -/
def BS.put (s : BS) (b : Nat) (tb : List Int) (t : Int) (l' : List (Int × Int)) : BS :=
  ⟨s.S, s.B, s.L, l', s.T.take (b * s.B) ++ tb ++ s.T.drop (s.to b), s.G ++ [((b : Int), ((b * s.B : Nat) : Int), ((s.to b : Nat) : Int), t)], s.over⟩
def PutPost (w : World) (β : BI) (s : BS) (b : Nat) (tb : List Int) (t : Int) (e : Ending) (w' : World) : Prop :=
  ∃ β' l', e = .returned (.int .i64 0) ∧ (∀ n, inS l' n ↔ inS s.l n ∨ n = b) ∧ BuildAt w' β' (s.put b tb t l') ∧ Keeps β.foot w w' ∧ β'.b = β.b ∧ (∀ k, β'.foot k → β.foot k ∨ w.heap.size ≤ k)

theorem put_mid {w3 w4 w6 : World} {o : Obj} {bb tg : Nat} {a0 a1 a2 lv a4 : Value} {xs : List Value} {GL : Nat} {gs : List Value} (hd : w3.heap[bb]? = some (.cells #[a0, a1, a2, lv, a4] 105 (0, 0))) (ht : w3.heap[tg]? = some (.cells xs.toArray 5 (0, 0))) (hl : w3.ownsRow 0 51 4 lv GL gs) (g4 : w3.grownBy w4 (some tg)) :
    w4.heap[bb]? = some (.cells #[a0, a1, a2, lv, a4] 105 (0, 0)) ∧ w4.cell? ⟨bb, 3, none⟩ = some lv ∧ w4.ownsRow 0 51 4 lv GL gs ∧ ((w4.alloc o).grownBy w6 lv.ownBlock → w6.cell? ⟨bb, 3, none⟩ = some lv ∧ w6.frozen? ⟨bb, 3, none⟩ = false) := by
  have tb : tyAt w3 bb 105 := ⟨_, hd⟩
  have tt : tyAt w3 tg 5 := ⟨_, ht⟩
  have k4 : Keeps (· = tg) w3 w4 := Keeps.of_grown g4 (fun k e => by cases e; rfl)
  have hd4 := (k4.block bb tb.lt (tb.ne tt (by decide))).trans hd
  have hl4 : w4.ownsRow 0 51 4 lv GL gs := ownsRow_keeps hl k4 (fun k e => (own_ty hl e).ne tt (by decide))
  refine ⟨hd4, by rw [cell_blk hd4]; rfl, hl4, fun g6 => ?_⟩
  have k6 : Keeps (fun k => lv.ownBlock = some k) w4 w6 := ((Keeps.refl (fun _ => False) w4).alloc o).trans (Keeps.of_grown (S := fun k => lv.ownBlock = some k) g6 (fun k e => e)) (fun _ _ e => e.elim) (fun _ _ e => e)
  have hd6 := (k6.block bb (lt_blk hd4) (fun e => (own_ty hl4 e).ne ⟨_, hd4⟩ (by decide) rfl)).trans hd4
  exact ⟨by rw [cell_blk hd6]; rfl, frozen_blk hd6 _⟩
theorem news4 (w : World) (a b c d : Value) (t : TypeId) : ∀ j u, [a, b, c, d][j]? = some u → (w.alloc (.cells #[a, b, c, d] t)).cell? ((⟨w.heap.size, 0, none⟩ : Addr).add j) = some u := by
  intro j u hj
  have hadd : (⟨w.heap.size, 0, none⟩ : Addr).add j = ⟨w.heap.size, j, none⟩ := by unfold Addr.add; split <;> simp_all
  rw [hadd, cell_blk (heap_alloc_new w _)]
  simpa using hj
theorem put_splice (T tb : List Int) (tail : List Value) (F E : Nat) (hF : F ≤ E) (hE : E ≤ T.length) (ht : tb.length = E - F) :
    splice (T.map (Value.int .u8) ++ tail) F (tb.map (Value.int .u8)) = (T.take F ++ tb ++ T.drop E).map (Value.int .u8) ++ tail := by
  have hE' : E ≤ (T.map (Value.int .u8)).length := by simpa using hE
  have hF' : F ≤ (T.map (Value.int .u8)).length := by omega
  unfold splice
  rw [List.take_append_of_le_length hF', List.drop_append_of_le_length (by simp; omega), ← List.map_take, ← List.map_drop]
  have : F + (List.map (Value.int IntKind.u8) tb).length = E := by rw [List.length_map]; omega
  rw [this]
  simp

theorem put_end {w w2 w3 w4 w6 : World} {β : BI} {s : BS} {b F E : Nat} {tb : List Int} {t : Int} {l3 : List (Int × Int)} {v3 : Value} {tg cap lg cap6 : Nat} {tail : List Value} {o : Obj}
    (hb : BuildAt w β s) (hFe : F = b * s.B) (hEe : E = s.to b) (hF : F ≤ E) (hE : E ≤ s.S) (ht : tb.length = E - F) (h2 : Below w.heap.size w w2)
    (hs3 : IsSet w3 β.h v3 l3) (hin : ∀ n, inS l3 n ↔ inS s.l n ∨ ((b : Int) ≤ n ∧ n < (b : Int) + 1)) (hk3 : Keeps (fun k => k = β.h ∨ β.hv.ownBlock = some k) w2 w3) (hf3 : v3.ownBlock = β.hv.ownBlock ∨ ∀ k, v3.ownBlock = some k → w2.heap.size ≤ k)
    (htv : β.tv = .slice (some ⟨tg, 0, none⟩) s.S cap) (hcap : (s.T.map (Value.int .u8) ++ tail).length = cap * 1) (hcm : s.S ≤ cap) (hcx : cap ≤ maxLen)
    (h4 : w4.heap[tg]? = some (.cells (splice (s.T.map (Value.int .u8) ++ tail) F (tb.map (Value.int .u8))).toArray 5 (0, 0))) (g4 : w3.grownBy w4 (some tg))
    (o6 : w6.ownsRow 0 51 4 (.slice (some ⟨lg, 0, none⟩) (s.G.length + 1) cap6) (s.G.length + 1) (gflat s.G ++ [.int .i64 b, .int .i64 F, .int .i64 E, .int .i64 t]))
    (g6 : (w4.alloc o).grownBy w6 β.lv.ownBlock) (f6 : β.lv.ownBlock = some lg ∨ (w4.alloc o).heap.size = lg) :
    PutPost w β s b tb t (.returned (.int .i64 0)) (w6.setCell ⟨β.b, 3, none⟩ (.slice (some ⟨lg, 0, none⟩) (s.G.length + 1) cap6)) := by
  have hT : s.T.length = s.S := by have := hb.txt.1; simpa using this
  -- types at w
  have tb0 : tyAt w β.b 105 := ⟨_, hb.blk⟩
  have tp0 : tyAt w β.p 110 := ⟨_, hb.plan.blk⟩
  have th0 : tyAt w β.h 131 := ⟨_, hb.set.blk⟩
  have tt0 : tyAt w tg 5 := own_ty hb.txt (by rw [htv]; rfl)
  have k2 : Keeps (fun _ => False) w w2 := Keeps.of_below h2
  have tb2 := tb0.keeps k2 (fun e => e)
  have tp2 := tp0.keeps k2 (fun e => e)
  have th2 := th0.keeps k2 (fun e => e)
  have tt2 := tt0.keeps k2 (fun e => e)
  have hvne : ∀ k t', tyAt w2 k t' → t' ≠ 58 → β.hv.ownBlock ≠ some k := fun k t' h1 h3 e => ((own_ty (hb.set.below h2).own e).ne h1 (fun e => h3 e.symm)) rfl
  have tb3 := tb2.keeps hk3 (fun e => e.elim (fun e => tb2.ne th2 (by decide) e) (fun e => hvne _ _ tb2 (by decide) e))
  have tp3 := tp2.keeps hk3 (fun e => e.elim (fun e => tp2.ne th2 (by decide) e) (fun e => hvne _ _ tp2 (by decide) e))
  have tt3 := tt2.keeps hk3 (fun e => e.elim (fun e => tt2.ne th2 (by decide) e) (fun e => hvne _ _ tt2 (by decide) e))
  have th3 : tyAt w3 β.h 131 := ⟨_, hs3.blk⟩
  have hl2 : w2.ownsRow 0 51 4 β.lv s.G.length (gflat s.G) := ownsRow_keeps hb.log k2 (fun _ _ e => e)
  have hl3 : w3.ownsRow 0 51 4 β.lv s.G.length (gflat s.G) := ownsRow_keeps hl2 hk3 (fun k e => by
    rintro (e2 | e2)
    · exact (own_ty hl2 e).ne th2 (by decide) e2
    · exact hvne _ _ (own_ty hl2 e) (by decide) e2)
  have k4 : Keeps (· = tg) w3 w4 := Keeps.of_grown g4 (fun k e => by cases e; rfl)
  have tb4 := tb3.keeps k4 (tb3.ne tt3 (by decide))
  have tp4 := tp3.keeps k4 (tp3.ne tt3 (by decide))
  have th4 := th3.keeps k4 (th3.ne tt3 (by decide))
  have tt4 : tyAt w4 tg 5 := ⟨_, h4⟩
  have hs4 : IsSet w4 β.h v3 l3 := hs3.keeps k4 (th3.ne tt3 (by decide)) (fun k e => (own_ty hs3.own e).ne tt3 (by decide))
  have hl4 : w4.ownsRow 0 51 4 β.lv s.G.length (gflat s.G) := ownsRow_keeps hl3 k4 (fun k e => (own_ty hl3 e).ne tt3 (by decide))
  have ht4 : w4.ownsRow 0 5 1 β.tv s.S ((s.T.take F ++ tb ++ s.T.drop E).map (Value.int .u8)) := by
    rw [htv]
    rw [put_splice s.T tb tail F E hF (by omega) ht] at h4
    refine ownsRow_shut h4 ?_ ?_ hcm hcx
    · simp only [List.length_append, List.length_map, List.length_take, List.length_drop] at hcap ⊢; omega
    · simp only [List.length_append, List.length_map, List.length_take, List.length_drop]; omega
  have k6 : Keeps (fun k => β.lv.ownBlock = some k) w4 w6 := ((Keeps.refl (fun _ => False) w4).alloc o).trans (Keeps.of_grown (S := fun k => β.lv.ownBlock = some k) g6 (fun k e => e)) (fun _ _ e => e.elim) (fun _ _ e => e)
  have hlne : ∀ k t', tyAt w4 k t' → t' ≠ 51 → β.lv.ownBlock ≠ some k := fun k t' h1 h3 e => ((own_ty hl4 e).ne h1 (fun e => h3 e.symm)) rfl
  have tb6 := tb4.keeps k6 (hlne _ _ tb4 (by decide))
  have tp6 := tp4.keeps k6 (hlne _ _ tp4 (by decide))
  have th6 := th4.keeps k6 (hlne _ _ th4 (by decide))
  have hs6 : IsSet w6 β.h v3 l3 := hs4.keeps k6 (hlne _ _ th4 (by decide)) (fun k e => hlne _ _ (own_ty hs4.own e) (by decide))
  have ht6 := ownsRow_keeps ht4 k6 (fun k e => hlne _ _ (own_ty ht4 e) (by decide))
  -- from w to w6
  have kw3 : Keeps (fun k => k = β.h ∨ β.hv.ownBlock = some k) w w3 := k2.trans hk3 (fun _ _ e => e.elim) (fun _ _ e => e)
  have kw4 : Keeps (fun k => (k = β.h ∨ β.hv.ownBlock = some k) ∨ k = tg) w w4 := kw3.trans k4 (fun _ _ e => .inl e) (fun _ _ e => .inr e)
  have kw6 : Keeps (fun k => ((k = β.h ∨ β.hv.ownBlock = some k) ∨ k = tg) ∨ β.lv.ownBlock = some k) w w6 := kw4.trans k6 (fun _ _ e => .inl e) (fun _ _ e => .inr e)
  have hbb := hb.bne
  have hblk6 : w6.heap[β.b]? = some (.cells #[.pointer (some ⟨β.p, 0, none⟩), .pointer (some ⟨β.h, 0, none⟩), β.tv, β.lv, .bool s.over] 105 (0, 0)) := by
    rw [← hb.blk]
    refine kw6.block _ tb0.lt ?_
    rintro (((e | e) | e) | e)
    · exact hbb.2.1 e.symm
    · exact hbb.2.2.1 e
    · exact tb0.ne tt0 (by decide) e
    · exact hbb.2.2.2.2 e
  have hplan6 : PlanAt w6 β.p s.S s.B s.L := by
    refine hb.plan.keeps kw6 ?_
    rintro (((e | e) | e) | e)
    · exact tp0.ne th0 (by decide) e
    · exact (own_ty hb.set.own e).ne tp0 (by decide) rfl
    · exact tp0.ne tt0 (by decide) e
    · exact (own_ty hb.log e).ne tp0 (by decide) rfl
  have k7 : Keeps (· = β.b) w6 (w6.setCell ⟨β.b, 3, none⟩ (.slice (some ⟨lg, 0, none⟩) (s.G.length + 1) cap6)) := (Keeps.refl _ _).setCell _ _ (fun _ => rfl)
  have hsz2 := h2.size
  have hsz3 := hk3.size
  have hsz4 := k4.size
  refine ⟨⟨β.b, β.p, β.h, v3, β.tv, .slice (some ⟨lg, 0, none⟩) (s.G.length + 1) cap6⟩, l3, rfl, fun n => by rw [hin n]; exact or_congr Iff.rfl ⟨fun h => by omega, fun h => by omega⟩, ⟨blk_set3 hblk6, hplan6.keeps k7 (tp6.ne tb6 (by decide)), hs6.keeps k7 (th6.ne tb6 (by decide)) (fun k e => (own_ty hs6.own e).ne tb6 (by decide)), ?_, ?_⟩, ?_, rfl, ?_⟩
  · have := ownsRow_keeps ht6 k7 (fun k e => (own_ty ht6 e).ne tb6 (by decide))
    rw [hFe, hEe] at this
    exact this
  · have := ownsRow_keeps o6 k7 (fun k e => (own_ty o6 e).ne tb6 (by decide))
    have e2 : gflat (s.put b tb t l3).G = gflat s.G ++ [.int .i64 b, .int .i64 F, .int .i64 E, .int .i64 t] := by
      show gflat (s.G ++ [_]) = _
      rw [gflat_append, hFe, hEe]; rfl
    have e3 : (s.put b tb t l3).G.length = s.G.length + 1 := by simp [BS.put]
    rw [e2, e3]
    exact this
  · refine kw6.trans k7 ?_ ?_
    · rintro k _ (((e | e) | e) | e)
      · exact .inr (.inl e)
      · exact .inr (.inr (.inl e))
      · exact .inr (.inr (.inr (.inl (by rw [htv, e]; rfl))))
      · exact .inr (.inr (.inr (.inr e)))
    · intro k _ e; exact .inl e
  · rintro k (e | e | e | e | e)
    · exact .inl (.inl e)
    · exact .inl (.inr (.inl e))
    · rcases hf3 with h | h
      · exact .inl (.inr (.inr (.inl (h ▸ e))))
      · right; have := h k e; omega
    · exact .inl (.inr (.inr (.inr (.inl e))))
    · obtain rfl : lg = k := by cases e; rfl
      rcases f6 with h | h
      · exact .inl (.inr (.inr (.inr (.inr h))))
      · right; have h9 : w4.heap.size + 1 = lg := by rw [← h]; simp
        omega

set_option maxHeartbeats 1600000 in
set_option maxRecDepth 100000 in
theorem put_ok (β : BI) (s : BS) (b t : Int) (ad : Addr) (n cap : Nat) (tb : List Int) (w : World) (hb : BuildAt w β s) (htx : TextAt w (some ad) n tb) (hap : ¬ β.foot ad.block) (hg : s.G.length ≤ 100000) (hc : putCode s b n t = 0) :
    ∃ b' : Nat, b = b' ∧ Calls Try.prog 18 #[.pointer (some ⟨β.b, 0, none⟩), .int .i64 b, .slice (some ad) n cap, .int .i64 t] w (PutPost w β s b' tb t) := by
  have hval : s.over = false ∧ (0 ≤ b ∧ b < (nblk s.S s.B : Nat)) ∧ (0 ≤ t ∧ t ≤ 1099511627776) ∧ (n : Int) = (s.to b.toNat - b.toNat * s.B : Nat) ∧ hasB s.l b = false := by
    unfold putCode at hc
    split at hc
    · cases hc
    split at hc
    · cases hc
    split at hc
    · cases hc
    split at hc
    · cases hc
    rename_i h1 h2 h3 h4
    refine ⟨by simpa using h1, by omega, by omega, by omega, by simpa using h4⟩
  obtain ⟨hov, hval, htk, hln, hhas⟩ := hval
  obtain ⟨b', rfl⟩ : ∃ b' : Nat, b = b' := ⟨b.toNat, by omega⟩
  refine ⟨b', rfl, ?_⟩
  have hbd := (nblk_bound hb.plan.s hb.plan.b.1).1
  have hS := hb.plan.s
  have hB := hb.plan.b
  have hb' : b' < nblk s.S s.B := by omega
  have hb16 : b' < 16384 := by omega
  obtain ⟨F, hF⟩ : ∃ F : Nat, F = b' * s.B := ⟨_, rfl⟩
  obtain ⟨E, hE⟩ : ∃ E : Nat, E = s.to b' := ⟨_, rfl⟩
  have hFE : F < E ∧ E ≤ s.S ∧ F < s.S := by
    have h1 := (nblk_bound hS hB.1).2 b' hb'
    rw [hF, hE]; unfold BS.to; rw [Nat.add_mul]; omega
  obtain ⟨hFE1, hFE2, hFE3⟩ := hFE
  have hnn : n = E - F := by rw [Int.toNat_natCast] at hln; omega
  have HBY := Lib.hid (bytes_yes β.p s.S s.B s.L b' w hb.plan hb')
  rw [← hF, show min ((b' + 1) * s.B) s.S = E from hE.symm] at HBY
  obtain ⟨bb, hbb⟩ : ∃ bb, bb = β.b := ⟨_, rfl⟩
  obtain ⟨p, hp⟩ : ∃ p, p = β.p := ⟨_, rfl⟩
  obtain ⟨h, hh⟩ : ∃ h, h = β.h := ⟨_, rfl⟩
  obtain ⟨lv, hlv⟩ : ∃ lv, lv = β.lv := ⟨_, rfl⟩
  rcases ownsRow_formN hb.txt with ⟨_, hz, _⟩ | ⟨tg, tcap, htv, htg, htc, htm⟩
  · omega
  have hblk := hb.blk
  rw [← hbb, ← hp, ← hh, ← hlv, htv, hov] at hblk
  have hlt : bb < w.heap.size := lt_blk hblk
  have c0 : w.cell? ⟨bb, 0, none⟩ = some (.pointer (some ⟨p, 0, none⟩)) := by rw [cell_blk hblk]; rfl
  have c4 : w.cell? ⟨bb, 4, none⟩ = some (.bool false) := by rw [cell_blk hblk]; rfl
  have HBLK := Lib.hid hblk
  have HBH := Lib.hid (fun w' h => bhas_any β s b' w' h (by omega) (by omega))
  rw [← hbb] at HBH
  have HADD := Lib.hid (fun w' hs => add_any β.h β.hv s.l b' (b' + 1) w' hs (by omega) (by omega) (by omega))
  rw [← hh] at HADD
  rw [← hp] at HBY
  obtain ⟨POST, hPOST⟩ : ∃ POST, POST = PutPost w β s b' tb t := ⟨_, rfl⟩
  rw [← hPOST, ← hbb]
  have HPOST := Lib.hid hPOST
  have HBA := Lib.hid hb
  have HTX := Lib.hid htx
  have HAP := Lib.hid hap
  have HF := Lib.hid hF
  have HE := Lib.hid hE
  have HTV := Lib.hid htv
  have HLV := Lib.hid hlv
  have HH := Lib.hid hh
  have HBB := Lib.hid hbb
  have HHAS := Lib.hid hhas
  have HOPEN := Lib.hid (ownsRow_open (show w.ownsRow 0 5 1 (.slice (some ⟨tg, 0, none⟩) s.S tcap) s.S _ by rw [← htv]; exact hb.txt))
  obtain ⟨GL, hGL⟩ : ∃ GL, GL = s.G.length := ⟨_, rfl⟩
  have HGL := Lib.hid hGL
  rw [← hGL] at hg
  obtain ⟨SS, hSS⟩ : ∃ SS, SS = s.S := ⟨_, rfl⟩
  have HSS := Lib.hid hSS
  rw [← hSS] at hFE2 hFE3 hS htc
  rw [← hSS] at HBLK HTV
  clear hb hbb hp hh hlv hblk hPOST htx hap hF hE htv hov hln hc hhas hval hb' hbd hGL hSS
  obtain ⟨ht1, ht2⟩ := htk
  have hnn2 : ((n : Int) != (E : Int) - (F : Int)) = false := by rw [bne_eq_false_iff_eq]; omega
  have HNN := Lib.hid hnn
  clear hnn
  go_enter Try.func18, Try.ntmps18
  go_wp2_with fail
  refine HBY.out.mono ?_
  rintro e w1 ⟨rfl, hd⟩
  have hb1 := hd.below
  clear hd
  have d4 : w1.cell? ⟨bb, 4, none⟩ = some (.bool false) := (hb1.cell (p := ⟨bb, 4, none⟩) hlt).trans c4
  have HHAS2 := Lib.hid (HBH.out w1 (HBA.out.below hb1))
  rw [HHAS.out] at HHAS2
  go_wp2_with fail
  refine HHAS2.out.mono ?_
  rintro e w2 ⟨rfl, hb2⟩
  have hbw2 := hb1.trans (hb2.mono hb1.size)
  clear c4 d4 c0
  have c1 : w2.cell? ⟨bb, 1, none⟩ = some (.pointer (some ⟨h, 0, none⟩)) := (hbw2.cell (p := ⟨bb, 1, none⟩) hlt).trans (by rw [cell_blk HBLK.out]; rfl)
  have HADD2 := Lib.hid (HADD.out w2 (by rw [HH.out]; exact (HBA.out.below hbw2).set))
  go_wp2_with fail
  refine HADD2.out.mono ?_
  rintro e w3 ⟨r, v3, l3, rfl, hs3, hin3, hk3, hf3⟩
  have hba2 := HBA.out.below hbw2
  have hnb := hba2.bne
  have hd3 : w3.heap[bb]? = some (.cells #[.pointer (some ⟨p, 0, none⟩), .pointer (some ⟨h, 0, none⟩), .slice (some ⟨tg, 0, none⟩) SS tcap, lv, .bool false] 105 (0, 0)) := by
    refine ((hk3.block bb (Nat.lt_of_lt_of_le hlt hbw2.size) ?_).trans (hbw2.block _ hlt)).trans HBLK.out
    rw [HBB.out, HH.out]
    rintro (e | e)
    · exact hnb.2.1 e.symm
    · exact hnb.2.2.1 e
  obtain ⟨tail, ho1, ho2, ho3, ho4, ho5⟩ := HOPEN.out
  have htg3 : w3.heap[tg]? = some (.cells (s.T.map (Value.int .u8) ++ tail).toArray 5 (0, 0)) := by
    refine ((hk3.block tg (Nat.lt_of_lt_of_le htg hbw2.size) ?_).trans (hbw2.block _ htg)).trans ho1
    have ht2 : tyAt w2 tg 5 := ⟨_, (hbw2.block _ htg).trans ho1⟩
    rintro (e | e)
    · exact ht2.ne ⟨_, by rw [HH.out]; exact hba2.set.blk⟩ (by decide) e
    · exact (own_ty hba2.set.own e).ne ht2 (by decide) rfl
  have htx3 : ∀ a, some ad = some a → ∀ (j : Nat) v, (tb.map (Value.int .u8))[j]? = some v → w3.cell? (a.add j) = some v := by
    intro a ea j v hj
    cases ea
    rw [List.getElem?_map] at hj
    obtain ⟨u, hu, rfl⟩ := Option.map_eq_some_iff.1 hj
    have hk9 : Keeps (fun k => k = h ∨ β.hv.ownBlock = some k) w w3 := (Keeps.of_below (S := fun _ => False) hbw2).trans hk3 (fun _ _ e => e.elim) (fun _ _ e => e)
    exact (HTX.out.keeps hk9 (fun a e => by
      cases e
      rintro (e | e)
      · exact HAP.out (.inr (.inl (by rw [e, HH.out])))
      · exact HAP.out (.inr (.inr (.inl e))))).cells _ rfl j u hu
  have hlog3 : w3.ownsRow 0 51 4 lv GL (gflat s.G) := by
    rw [HGL.out, HLV.out]
    refine ownsRow_keeps hba2.log hk3 fun k e => ?_
    rintro (e2 | e2)
    · exact (own_ty hba2.log e).ne ⟨_, by rw [HH.out]; exact hba2.set.blk⟩ (by decide) e2
    · exact (own_ty hba2.log e).ne (own_ty hba2.set.own e2) (by decide) rfl
  have c2 : w3.cell? ⟨bb, 2, none⟩ = some (.slice (some ⟨tg, 0, none⟩) SS tcap) := by rw [cell_blk hd3]; rfl
  have htln : tb.length = n := HTX.out.len
  have hnn := HNN.out
  have hqn : (tb.map (Value.int .u8)).length = Nat.min n (E - F) * 1 := by rw [List.length_map, minEq]; omega
  have hqf : F + (tb.map (Value.int .u8)).length ≤ (s.T.map (Value.int .u8) ++ tail).length := by rw [ho2, List.length_map]; omega
  have HS3 := Lib.hid hs3
  have HI3 := Lib.hid hin3
  have HK3 := Lib.hid hk3
  have HF3 := Lib.hid hf3
  have HD3 := Lib.hid hd3
  have HTG3 := Lib.hid htg3
  have HTX3 := Lib.hid htx3
  have HLOG3 := Lib.hid hlog3
  have HQN := Lib.hid hqn
  have HQF := Lib.hid hqf
  have HO2 := Lib.hid ho2
  obtain ⟨i0, hi0, hi1, hi2, hi3⟩ := info_parts Try.info51
  have HI0 := Lib.hid hi0
  have HI1 := Lib.hid hi1
  have HI2 := Lib.hid hi2
  have HIZ := Lib.hid hi3
  clear hs3 hin3 hk3 hf3 c1 hd3 htg3 htx3 hlog3 hqn hqf hba2 hnb ho1 ho2 ho3 ho4 ho5 htln hnn hi0 hi1 hi2 hi3 htm
  have HMID := Lib.hid (fun w4 w6 o => put_mid (w4 := w4) (w6 := w6) (o := o) HD3.out HTG3.out HLOG3.out)
  go_wp2_with first | ((with_reducible refine wpList_copyO rfl (.tmp 63) (.tmp 64) 32 32 rfl 5 1 Try.underlying32 Try.size5 tg F (E - F) (tcap - F) (some ad) n cap ?_ ?_ (s.T.map (Value.int .u8) ++ tail) 5 HTG3.out (tb.map (Value.int .u8)) HQN.out HTX3.out (by intro e; cases e) HQF.out (bytes_one _) ?_); rfl; rfl; intro w4 hg4 hgr4 hs4; have HG4 := Lib.hid hg4; have HR4 := Lib.hid hgr4; have c3 := (HMID.out w4 w4 (.cells #[] 0) hgr4).2.1; have HLOG4 := Lib.hid (HMID.out w4 w4 (.cells #[] 0) hgr4).2.2.1; clear hg4 hgr4 hs4) | ((with_reducible refine wpList_append_ownF _ rfl (.tmp 70) (.tmp 76) 46 rfl 0 51 i0 _ 4 32 Try.underlying46 HI0.out HI1.out HI2.out HIZ.out ?_ lv GL (gflat s.G) ?_ (HLOG4.out.alloc _) ⟨w4.heap.size, 0, none⟩ 1 1 [.int .i64 b', .int .i64 F, .int .i64 E, .int .i64 t] ?_ rfl (news4 _ _ _ _ _ _) ?_ (by decide) ?_ ?_ (Nat.zero_le _) ?_); rfl; rfl; rfl; (intro u hu; simp at hu; rcases hu with rfl | rfl | rfl | rfl <;> rfl); (simp only [maxLen]; omega); omega)
  intro lg cap6 w6 ho6 hg6 hf6
  have HO6 := Lib.hid ho6; have HG6 := Lib.hid hg6; have HF6 := Lib.hid hf6; have hee := (HMID.out w4 w6 _ HR4.out).2.2.2 hg6; have e3 := hee.1; have e4 := hee.2; clear ho6 hg6 hf6 hee c3
  have hp : POST (.returned (.int .i64 0)) (w6.setCell ⟨bb, 3, none⟩ (.slice (some ⟨lg, 0, none⟩) (GL + 1) cap6)) := by
    have ho6 := HO6.out
    have hg6 := HG6.out
    have hf6 : lv.ownBlock = some lg ∨ (w4.alloc (.cells #[.int .i64 b', .int .i64 F, .int .i64 E, .int .i64 t] 51)).heap.size = lg := by simpa using HF6.out
    have hs3 := HS3.out
    have hk3 := HK3.out
    rw [HLV.out] at hg6 hf6
    rw [HH.out] at hs3 hk3
    rw [HGL.out] at ho6
    have htv := HTV.out
    rw [HSS.out] at htv hFE2
    have hnn := HNN.out
    rw [HPOST.out, HBB.out, HGL.out]
    refine put_end HBA.out HF.out HE.out (by omega) hFE2 (by rw [HTX.out.len]; omega) hbw2 hs3 HI3.out hk3 HF3.out htv HO2.out (by rw [← HSS.out]; exact htc) ?_ HG4.out HR4.out ho6 hg6 hf6
    obtain ⟨_, _, _, _, _, h5⟩ := HOPEN.out
    exact h5
  have HP := Lib.hid hp
  clear hp
  go_wp2_with fail
  exact HP.out
end Go.Proofs.Ytjklcecakdmbaaa
