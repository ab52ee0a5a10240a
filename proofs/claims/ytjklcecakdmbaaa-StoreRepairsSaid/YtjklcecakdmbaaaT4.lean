/-
  Package store: its maps and the store itself, in memory.
-/
import Derived.Test.YtjklcecakdmbaaaT3
import Derived.Test.YtjklcecakdmbaaaB7
import Derived.Maps.OwnSet
import Derived.Maps.Views
namespace Go.Proofs.Ytjklcecakdmbaaa
open Go.RowKit

def iKey (k : Int) : Prop := (Lit.int .i64 k).wf = true
theorem iKey_of {k : Int} (h0 : -9223372036854775808 ≤ k) (h1 : k ≤ 9223372036854775807) : iKey k := WalkArith.wf_i64 ⟨h0, h1⟩
/-- How a slice reads as a map's element: where it lies. -/
def Rsl : Value → Option (DataW Unit × List MemPlace)
  | .slice none 0 0 => some (.agg [], [])
  | .slice (some ⟨g, 0, none⟩) n c => some (.agg [.lit (.int .i64 g), .lit (.int .i64 n), .lit (.int .i64 c)], [])
  | _ => none
theorem Rsl_nil {v : Value} {ps : List MemPlace} (h : Rsl v = some (.agg [], ps)) : v = .slice none 0 0 := by
  unfold Rsl at h
  split at h
  · rfl
  · simp at h
  · cases h
theorem Rsl_some {v : Value} {ps : List MemPlace} {g n c : Nat} (h : Rsl v = some (.agg [.lit (.int .i64 g), .lit (.int .i64 n), .lit (.int .i64 c)], ps)) : v = .slice (some ⟨g, 0, none⟩) n c := by
  unfold Rsl at h
  split at h
  · simp at h
  · simp at h
    rename_i g' n' c'
    obtain ⟨⟨h1, h2, h3⟩, _⟩ := h
    obtain rfl : g' = g := by omega
    obtain rfl : n' = n := by omega
    obtain rfl : c' = c := by omega
    rfl
  · cases h

/-- A map of numbers to rows. -/
def Bmap (w : World) (b nb : Nat) (f : Int → Option (Nat × Nat × Nat)) : Prop :=
  ∃ D, w.ownsMap Try.prog 3 Rsl b nb D ∧ Maps.IsMap D ∧ ∀ k, iKey k → (f k = none → Maps.has D (.int .i64 k) = false) ∧ ∀ g n c, f k = some (g, n, c) → Maps.has D (.int .i64 k) = true ∧ ∀ z, D.atKey (.int .i64 k) z = .agg [.lit (.int .i64 g), .lit (.int .i64 n), .lit (.int .i64 c)]
/-- A map of numbers to numbers. -/
def Imap (w : World) (b nb : Nat) (f : Int → Option Int) : Prop :=
  ∃ D, w.ownsMap (H := Unit) Try.prog 3 (plainElem Try.prog 3) b nb D ∧ Maps.IsMap D ∧ ∀ k, iKey k → (f k = none → Maps.has D (.int .i64 k) = false) ∧ ∀ v, f k = some v → Maps.has D (.int .i64 k) = true ∧ ∀ z, D.atKey (.int .i64 k) z = .lit (.int .i64 v)
def upd {α : Type} (f : Int → Option α) (k : Int) (v : Option α) (x : Int) : Option α := if x = k then v else f x
theorem key3 : Maps.Keyed Try.prog 3 := Maps.int_keyed Try.underlying3
theorem keyOf3 {k : Int} (h : iKey k) : keyOf Try.prog 3 (.int .i64 k) = some (.int .i64 k) := Maps.keyOf_int_mk Try.underlying3 h
theorem keyLit (k : Int) : WideAt.IsKeyLit (.int .i64 k) := by simp [WideAt.IsKeyLit]
theorem zero32 (w : World) : (zeroValue 32).run Try.prog w = .ok (.slice none 0 0) w := by kernel_rfl
theorem zero3 (w : World) : (zeroValue 3).run Try.prog w = .ok (.int .i64 0) w := by kernel_rfl
theorem lit_ne {k k' : Int} (h : k ≠ k') : Lit.int .i64 k ≠ Lit.int .i64 k' := fun e => h (by injection e)
theorem turned_size {w w' : World} {b : Nat} (h : w.mapTurned w' b) : w'.heap.size = w.heap.size := by
  obtain ⟨es, clock, es', clock', _, rfl⟩ := h
  simp [ChangeMaps.setBlock]
section
variable {w : World} {b nb : Nat}
theorem Bmap.lt {f : Int → Option (Nat × Nat × Nat)} (h : Bmap w b nb f) : b < w.heap.size := by obtain ⟨D, h1, _⟩ := h; exact h1.lt
theorem Imap.lt {f : Int → Option Int} (h : Imap w b nb f) : b < w.heap.size := by obtain ⟨D, h1, _⟩ := h; exact h1.lt
theorem ownsMap_keeps {H : Type} {T : Nat → Prop} {w w' : World} {P : Program} {k : TypeId} {R : Value → Option (DataW H × List MemPlace)} {b n : Nat} {D : DataW H} (h : w.ownsMap P k R b n D) (hk : Keeps T w w') (hb : ¬ T b) : w'.ownsMap P k R b n D := by
  obtain ⟨es, clock, h1, h2⟩ := h
  exact ⟨es, clock, (hk.block b (Array.getElem?_eq_some_iff.1 h1).1 hb).trans h1, h2⟩
theorem Bmap.keeps {T : Nat → Prop} {w' : World} {f : Int → Option (Nat × Nat × Nat)} (h : Bmap w b nb f) (hk : Keeps T w w') (hb : ¬ T b) : Bmap w' b nb f := by
  obtain ⟨D, h1, h2⟩ := h
  exact ⟨D, ownsMap_keeps h1 hk hb, h2⟩
theorem Imap.keeps {T : Nat → Prop} {w' : World} {f : Int → Option Int} (h : Imap w b nb f) (hk : Keeps T w w') (hb : ¬ T b) : Imap w' b nb f := by
  obtain ⟨D, h1, h2⟩ := h
  exact ⟨D, ownsMap_keeps h1 hk hb, h2⟩
theorem Bmap.mono {f : Int → Option (Nat × Nat × Nat)} (h : Bmap w b nb f) {n' : Nat} (hn : nb ≤ n') : Bmap w b n' f := by
  obtain ⟨D, h1, h2⟩ := h
  exact ⟨D, h1.mono hn, h2⟩
theorem Imap.mono {f : Int → Option Int} (h : Imap w b nb f) {n' : Nat} (hn : nb ≤ n') : Imap w b n' f := by
  obtain ⟨D, h1, h2⟩ := h
  exact ⟨D, h1.mono hn, h2⟩
theorem Bmap.made (w : World) : Bmap (w.alloc (.map #[] 0)) w.heap.size 0 (fun _ => none) :=
  ⟨_, World.ownsMap_made w _ _ _, Maps.isMap_empty, fun k _ => ⟨fun _ => rfl, fun _ _ _ e => by cases e⟩⟩
theorem Imap.made (w : World) : Imap (w.alloc (.map #[] 0)) w.heap.size 0 (fun _ => none) :=
  ⟨_, World.ownsMap_made w _ _ _, Maps.isMap_empty, fun k _ => ⟨fun _ => rfl, fun _ e => by cases e⟩⟩
theorem Bmap.look_no {f : Int → Option (Nat × Nat × Nat)} (h : Bmap w b nb f) {k : Int} (hk : iKey k) (hf : f k = none) : (Instr.lookup 84 (.map (some b)) (.int .i64 k) true).run Try.prog w = .ok (.tuple #[.slice none 0 0, .bool false]) w := by
  obtain ⟨D, h1, h2, h3⟩ := h
  obtain ⟨v, ps, hr, hv⟩ := h1.look_ok key3 Try.underlying84 (zero32 w) (zd := .agg []) (zp := []) rfl (keyOf3 hk)
  have h4 := (h3 k hk).1 hf
  rw [Maps.atKey_of_not_has h4] at hv
  rw [Rsl_nil hv, h4] at hr
  exact hr
theorem Bmap.look_yes {f : Int → Option (Nat × Nat × Nat)} (h : Bmap w b nb f) {k : Int} (hk : iKey k) {g n c : Nat} (hf : f k = some (g, n, c)) : (Instr.lookup 84 (.map (some b)) (.int .i64 k) true).run Try.prog w = .ok (.tuple #[.slice (some ⟨g, 0, none⟩) n c, .bool true]) w := by
  obtain ⟨D, h1, h2, h3⟩ := h
  obtain ⟨v, ps, hr, hv⟩ := h1.look_ok key3 Try.underlying84 (zero32 w) (zd := .agg []) (zp := []) rfl (keyOf3 hk)
  obtain ⟨h4, h5⟩ := (h3 k hk).2 g n c hf
  rw [h5] at hv
  rw [Rsl_some hv, h4] at hr
  exact hr
theorem Imap.look_no {f : Int → Option Int} (h : Imap w b nb f) {k : Int} (hk : iKey k) (hf : f k = none) : (Instr.lookup 87 (.map (some b)) (.int .i64 k) true).run Try.prog w = .ok (.tuple #[.int .i64 0, .bool false]) w := by
  obtain ⟨D, h1, h2, h3⟩ := h
  obtain ⟨v, ps, hr, hv⟩ := h1.look_ok key3 Try.underlying87 (zero3 w) (zd := .lit (.int .i64 0)) (zp := []) (plainElem_int Try.underlying3 (by decide)) (keyOf3 hk)
  have h4 := (h3 k hk).1 hf
  rw [Maps.atKey_of_not_has h4] at hv
  obtain ⟨x, rfl, hx, _⟩ := plainElem_int_inv Try.underlying3 hv
  rw [h4] at hr
  simp at hx
  rw [← hx.1] at hr
  exact hr
theorem Imap.look_yes {f : Int → Option Int} (h : Imap w b nb f) {k : Int} (hk : iKey k) {x : Int} (hf : f k = some x) : (Instr.lookup 87 (.map (some b)) (.int .i64 k) true).run Try.prog w = .ok (.tuple #[.int .i64 x, .bool true]) w := by
  obtain ⟨D, h1, h2, h3⟩ := h
  obtain ⟨v, ps, hr, hv⟩ := h1.look_ok key3 Try.underlying87 (zero3 w) (zd := .lit (.int .i64 0)) (zp := []) (plainElem_int Try.underlying3 (by decide)) (keyOf3 hk)
  obtain ⟨h4, h5⟩ := (h3 k hk).2 x hf
  rw [h5] at hv
  obtain ⟨y, rfl, hy, _⟩ := plainElem_int_inv Try.underlying3 hv
  rw [h4] at hr
  simp at hy
  rw [← hy.1] at hr
  exact hr
theorem Bmap.put {f : Int → Option (Nat × Nat × Nat)} (h : Bmap w b nb f) (hn : nb < 1000000) {k : Int} (hk : iKey k) (g n c : Nat) :
    ∃ w', (Instr.mapUpdate 84 (.map (some b)) (.int .i64 k) (.slice (some ⟨g, 0, none⟩) n c)).run Try.prog w = .ok () w' ∧ Bmap w' b (nb + 1) (upd f k (some (g, n, c))) ∧ w.grownBy w' (some b) ∧ w'.heap.size = w.heap.size := by
  obtain ⟨D, h1, h2, h3⟩ := h
  obtain ⟨w', hr, h4, h5⟩ := h1.store key3 Try.underlying84 (by simp only [maxLen]; omega) (keyOf3 hk) (val := .slice (some ⟨g, 0, none⟩) n c) (d := .agg [.lit (.int .i64 g), .lit (.int .i64 n), .lit (.int .i64 c)]) (ps := []) rfl
  refine ⟨w', hr, ⟨_, h4, h2.put _ _, fun k' hk' => ?_⟩, h5.grown, turned_size h5⟩
  unfold upd
  by_cases e : k' = k
  · subst e
    rw [if_pos rfl]
    refine ⟨(fun e => by cases e), fun g' n' c' e => ?_⟩
    cases e
    exact ⟨Maps.has_put_same h2 (keyLit _) _, fun z => Maps.atKey_put_same h2 (keyLit _) _ z⟩
  · rw [if_neg e, Maps.has_put_other (lit_ne e)]
    refine ⟨(h3 k' hk').1, fun g' n' c' e2 => ?_⟩
    obtain ⟨h6, h7⟩ := (h3 k' hk').2 g' n' c' e2
    exact ⟨h6, fun z => by rw [Maps.atKey_put_other (lit_ne e)]; exact h7 z⟩
theorem Imap.put {f : Int → Option Int} (h : Imap w b nb f) (hn : nb < 1000000) {k : Int} (hk : iKey k) {x : Int} (hx : iKey x) :
    ∃ w', (Instr.mapUpdate 87 (.map (some b)) (.int .i64 k) (.int .i64 x)).run Try.prog w = .ok () w' ∧ Imap w' b (nb + 1) (upd f k (some x)) ∧ w.grownBy w' (some b) ∧ w'.heap.size = w.heap.size := by
  obtain ⟨D, h1, h2, h3⟩ := h
  obtain ⟨w', hr, h4, h5⟩ := h1.store key3 Try.underlying87 (by simp only [maxLen]; omega) (keyOf3 hk) (val := .int .i64 x) (d := .lit (.int .i64 x)) (ps := []) (plainElem_int Try.underlying3 hx)
  refine ⟨w', hr, ⟨_, h4, h2.put _ _, fun k' hk' => ?_⟩, h5.grown, turned_size h5⟩
  unfold upd
  by_cases e : k' = k
  · subst e
    rw [if_pos rfl]
    refine ⟨(fun e => by cases e), fun v e => ?_⟩
    cases e
    exact ⟨Maps.has_put_same h2 (keyLit _) _, fun z => Maps.atKey_put_same h2 (keyLit _) _ z⟩
  · rw [if_neg e, Maps.has_put_other (lit_ne e)]
    refine ⟨(h3 k' hk').1, fun v e2 => ?_⟩
    obtain ⟨h6, h7⟩ := (h3 k' hk').2 v e2
    exact ⟨h6, fun z => by rw [Maps.atKey_put_other (lit_ne e)]; exact h7 z⟩
theorem Bmap.del {f : Int → Option (Nat × Nat × Nat)} (h : Bmap w b nb f) {k : Int} (hk : iKey k) (ty : TypeId) :
    ∃ w', (Builtin.delete_ #[84, 3] ty #[.map (some b), .int .i64 k]).run Try.prog w = .ok (.tuple #[]) w' ∧ Bmap w' b nb (upd f k none) ∧ w.grownBy w' (some b) ∧ w'.heap.size = w.heap.size := by
  obtain ⟨D, h1, h2, h3⟩ := h
  obtain ⟨w', hr, h4, h5⟩ := h1.drop key3 Try.underlying84 (keyOf3 hk) ty
  refine ⟨w', hr, ⟨_, h4, h2.del _, fun k' hk' => ?_⟩, h5.grown, turned_size h5⟩
  unfold upd
  by_cases e : k' = k
  · subst e
    rw [if_pos rfl]
    exact ⟨fun _ => Maps.has_del_same, fun _ _ _ e => by cases e⟩
  · rw [if_neg e, Maps.has_del_other (lit_ne e)]
    refine ⟨(h3 k' hk').1, fun g' n' c' e2 => ?_⟩
    obtain ⟨h6, h7⟩ := (h3 k' hk').2 g' n' c' e2
    exact ⟨h6, fun z => by rw [Maps.atKey_del_other (lit_ne e)]; exact h7 z⟩
end

/-- Where a store lies. -/
structure SI where
  b : Nat
  m : Nat
  a : Nat
  r : Nat
  ov : Value
  av : Value
  f : Int → Option (Nat × Nat × Nat)
/-- What a store is. -/
structure SS where
  room : Int
  hold : Int
  order : List Int
  txt : Int → Option (List Int)
  l : List (Int × Int)
  rp : Int → Option Int
def SI.foot (σ : SI) (k : Nat) : Prop := k = σ.b ∨ k = σ.m ∨ k = σ.a ∨ k = σ.r ∨ σ.ov.ownBlock = some k ∨ σ.av.ownBlock = some k
/-- A block's bytes. -/
def TxtAt (w : World) (f : Option (Nat × Nat × Nat)) (t : Option (List Int)) : Prop :=
  (f = none ∧ t = none) ∨ ∃ g n c tx, f = some (g, n, c) ∧ t = some tx ∧ tx.length = n ∧ w.ownsRow 0 5 1 (.slice (some ⟨g, 0, none⟩) n c) n (tx.map (Value.int .u8))
structure StoAt (w : World) (σ : SI) (s : SS) (nb : Nat) : Prop where
  blk : w.heap[σ.b]? = some (.cells #[.int .i64 s.room, .int .i64 s.hold, σ.ov, .map (some σ.m), .pointer (some ⟨σ.a, 0, none⟩), .map (some σ.r)] 89 (0, 0))
  ord : w.ownsRow 0 3 1 σ.ov s.order.length (s.order.map (Value.int .i64))
  map : Bmap w σ.m nb σ.f
  txt : ∀ k, iKey k → TxtAt w (σ.f k) (s.txt k)
  set : IsSet w σ.a σ.av s.l
  rep : Imap w σ.r nb s.rp
  mr : σ.m ≠ σ.r
theorem TxtAt.keeps {T : Nat → Prop} {w w' : World} {f : Option (Nat × Nat × Nat)} {t : Option (List Int)} (h : TxtAt w f t) (hk : Keeps T w w') (h5 : ∀ k, T k → ¬ tyAt w k 5) : TxtAt w' f t := by
  rcases h with h | ⟨g, n, c, tx, h1, h2, h3, h4⟩
  · exact .inl h
  · exact .inr ⟨g, n, c, tx, h1, h2, h3, ownsRow_keeps h4 hk (fun k e ht => h5 k ht (own_ty h4 e))⟩
theorem StoAt.keeps {T : Nat → Prop} {w w' : World} {σ : SI} {s : SS} {nb : Nat} (h : StoAt w σ s nb) (hk : Keeps T w w') (hf : ∀ k, σ.foot k → ¬ T k) (h5 : ∀ k, T k → ¬ tyAt w k 5) : StoAt w' σ s nb :=
  ⟨(hk.block _ (lt_blk h.blk) (hf _ (.inl rfl))).trans h.blk, ownsRow_keeps h.ord hk (fun k e => hf k (.inr (.inr (.inr (.inr (.inl e)))))), h.map.keeps hk (hf _ (.inr (.inl rfl))), fun k hkk => (h.txt k hkk).keeps hk h5,
   h.set.keeps hk (hf _ (.inr (.inr (.inl rfl)))) (fun k e => hf k (.inr (.inr (.inr (.inr (.inr e)))))), h.rep.keeps hk (hf _ (.inr (.inr (.inr (.inl rfl))))), h.mr⟩
theorem StoAt.below {w w' : World} {σ : SI} {s : SS} {nb : Nat} (h : StoAt w σ s nb) (hb : Below w.heap.size w w') : StoAt w' σ s nb :=
  h.keeps (T := fun _ => False) (Keeps.of_below hb) (fun _ _ e => e) (fun _ e => e.elim)
theorem StoAt.lt {w : World} {σ : SI} {s : SS} {nb : Nat} (h : StoAt w σ s nb) : ∀ k, σ.foot k → k < w.heap.size := by
  rintro k (e | e | e | e | e | e)
  · rw [e]; exact lt_blk h.blk
  · rw [e]; exact h.map.lt
  · rw [e]; exact lt_blk h.set.blk
  · rw [e]; exact h.rep.lt
  · exact (h.ord.lt k e).2
  · exact (h.set.own.lt k e).2
theorem StoAt.mono {w : World} {σ : SI} {s : SS} {nb n' : Nat} (h : StoAt w σ s nb) (hn : nb ≤ n') : StoAt w σ s n' := ⟨h.blk, h.ord, h.map.mono hn, h.txt, h.set, h.rep.mono hn, h.mr⟩
/-- What holds of a store at all times. -/
structure SInv (s : SS) : Prop where
  dom : ∀ k, s.txt k ≠ none ↔ k ∈ s.order
  nodup : s.order.Nodup
  bd : ∀ k ∈ s.order, 0 ≤ k ∧ k < 16384
  len : (s.order.length : Int) ≤ s.room
  room : 1 ≤ s.room ∧ s.room ≤ 16384
  hold : 0 ≤ s.hold ∧ s.hold ≤ 65536
  byte : ∀ k t, s.txt k = some t → (1 ≤ t.length ∧ t.length ≤ 64) ∧ ∀ x ∈ t, 0 ≤ x ∧ x ≤ 255
  rbd : ∀ k v, s.rp k = some v → 0 ≤ v ∧ v ≤ 1099511627776
end Go.Proofs.Ytjklcecakdmbaaa
