/-
  Package store: what each step of Put leaves, plain.
-/
import Derived.Test.YtjklcecakdmbaaaT6
namespace Go.Proofs.Ytjklcecakdmbaaa
open Go.RowKit

def SS.add (s : SS) (b : Int) (tb : List Int) : SS := { s with order := if b ∈ s.order then s.order else s.order ++ [b], txt := upd s.txt b (some tb) }
def SS.put (s : SS) (b : Int) (tb : List Int) : SS × Int :=
  if ((s.add b tb).order.length : Int) ≤ s.room then (s.add b tb, -1) else
  match (s.add b tb).order with
  | [] => (s.add b tb, -1)
  | old :: rest => ({ s.add b tb with order := rest, txt := upd (s.add b tb).txt old none }, old)
theorem put_cases (s : SS) (b : Int) (tb : List Int) : (((s.add b tb).order.length : Int) ≤ s.room ∧ s.put b tb = (s.add b tb, -1)) ∨ (s.room < (s.add b tb).order.length ∧ ∃ old rest, (s.add b tb).order = old :: rest ∧ s.put b tb = ({ s.add b tb with order := rest, txt := upd (s.add b tb).txt old none }, old)) ∨ (s.add b tb).order = [] := by
  unfold SS.put
  by_cases h : ((s.add b tb).order.length : Int) ≤ s.room
  · rw [if_pos h]; exact .inl ⟨h, rfl⟩
  · rw [if_neg h]
    cases ho : (s.add b tb).order with
    | nil => exact .inr (.inr rfl)
    | cons old rest => exact .inr (.inl ⟨by rw [ho] at h; omega, old, rest, rfl, rfl⟩)
theorem add_ne (s : SS) (b : Int) (tb : List Int) : (s.add b tb).order ≠ [] := by
  show (if b ∈ s.order then s.order else s.order ++ [b]) ≠ []
  split
  · intro e
    rename_i h
    rw [e] at h; cases h
  · simp
theorem mem_add {s : SS} {b k : Int} {tb : List Int} : k ∈ (s.add b tb).order ↔ k ∈ s.order ∨ k = b := by
  show k ∈ (if b ∈ s.order then s.order else s.order ++ [b]) ↔ _
  split
  · rename_i h
    constructor
    · exact .inl
    · rintro (h1 | rfl)
      · exact h1
      · exact h
  · simp
theorem SInv.put {s : SS} (h : SInv s) {b : Int} {tb : List Int} (hb : 0 ≤ b ∧ b < 16384) (ht : 1 ≤ tb.length ∧ tb.length ≤ 64) (h8 : ∀ x ∈ tb, 0 ≤ x ∧ x ≤ 255) : SInv (s.put b tb).1 := by
  have hdom : ∀ k, (s.add b tb).txt k ≠ none ↔ k ∈ (s.add b tb).order := fun k => by
    rw [mem_add]
    show upd s.txt b (some tb) k ≠ none ↔ _
    unfold upd
    by_cases e : k = b
    · rw [if_pos e]; simp [e]
    · rw [if_neg e, h.dom]; simp [e]
  have hnd : (s.add b tb).order.Nodup := by
    show (if b ∈ s.order then s.order else s.order ++ [b]).Nodup
    split
    · exact h.nodup
    · rename_i hn
      refine List.nodup_append.2 ⟨h.nodup, by simp, fun x hx y hy e => ?_⟩
      rw [List.mem_singleton] at hy
      subst hy; subst e
      exact hn hx
  have hbd : ∀ k ∈ (s.add b tb).order, 0 ≤ k ∧ k < 16384 := fun k hk => by
    rcases mem_add.1 hk with hk | rfl
    · exact h.bd k hk
    · exact hb
  have hby : ∀ k t, (s.add b tb).txt k = some t → (1 ≤ t.length ∧ t.length ≤ 64) ∧ ∀ x ∈ t, 0 ≤ x ∧ x ≤ 255 := fun k t hk => by
    have hk : upd s.txt b (some tb) k = some t := hk
    unfold upd at hk
    split at hk
    · cases hk; exact ⟨ht, h8⟩
    · exact h.byte k t hk
  have hlen : (s.add b tb).order.length ≤ s.order.length + 1 := by
    show (if b ∈ s.order then s.order else s.order ++ [b]).length ≤ _
    split <;> simp
  rcases put_cases s b tb with ⟨h1, h2⟩ | ⟨h1, old, rest, h2, h3⟩ | h1
  · rw [h2]
    exact ⟨hdom, hnd, hbd, h1, h.room, h.hold, hby, h.rbd⟩
  · rw [h3]
    rw [h2] at hdom hnd hbd hlen
    have hnd2 := List.nodup_cons.1 hnd
    refine ⟨fun k => ?_, hnd2.2, fun k hk => hbd k (by simp [hk]), ?_, h.room, h.hold, fun k t hk => ?_, h.rbd⟩
    · show upd (s.add b tb).txt old none k ≠ none ↔ k ∈ rest
      unfold upd
      by_cases e : k = old
      · rw [if_pos e]
        simp only [ne_eq, not_true, false_iff]
        rw [e]; exact hnd2.1
      · rw [if_neg e, hdom]; simp [e]
    · have := h.len
      simp only [List.length_cons] at hlen
      show (rest.length : Int) ≤ s.room
      omega
    · have hk : upd (s.add b tb).txt old none k = some t := hk
      unfold upd at hk
      split at hk
      · cases hk
      · exact hby k t hk
  · exact absurd h1 (add_ne s b tb)

theorem map_no_ty {w : World} {b nb : Nat} {f : Int → Option (Nat × Nat × Nat)} (h : Bmap w b nb f) {t : TypeId} (ht : tyAt w b t) : False := by
  obtain ⟨D, ⟨es, clock, h1, _⟩, _⟩ := h
  obtain ⟨cs, h2⟩ := ht
  rw [h1] at h2
  cases h2
theorem imap_no_ty {w : World} {b nb : Nat} {f : Int → Option Int} (h : Imap w b nb f) {t : TypeId} (ht : tyAt w b t) : False := by
  obtain ⟨D, ⟨es, clock, h1, _⟩, _⟩ := h
  obtain ⟨cs, h2⟩ := ht
  rw [h1] at h2
  cases h2
section
variable {w w' : World} {σ : SI} {s : SS} {nb : Nat}
/-- The list is another one. -/
theorem StoAt.order (h : StoAt w σ s nb) {ov' : Value} {order' : List Int} {T : Nat → Prop} (hk : Keeps T w w') (hT : ∀ k, T k → k = σ.b ∨ σ.ov.ownBlock = some k) (hb : w'.heap[σ.b]? = some (.cells #[.int .i64 s.room, .int .i64 s.hold, ov', .map (some σ.m), .pointer (some ⟨σ.a, 0, none⟩), .map (some σ.r)] 89 (0, 0))) (ho : w'.ownsRow 0 3 1 ov' order'.length (order'.map (Value.int .i64))) :
    StoAt w' { σ with ov := ov' } { s with order := order' } nb := by
  have ht : ∀ k, T k → tyAt w k 89 ∨ tyAt w k 3 := fun k hk => (hT k hk).elim (fun e => by subst e; exact .inl ⟨_, h.blk⟩) (fun e => .inr (own_ty h.ord e))
  have hne : ∀ k t, T k → tyAt w k t → t ≠ 89 → t ≠ 3 → False := fun k t hk h1 h2 h3 => (ht k hk).elim (fun h4 => h1.ne h4 h2 rfl) (fun h4 => h1.ne h4 h3 rfl)
  refine ⟨hb, ho, h.map.keeps hk (fun e => (ht _ e).elim (map_no_ty h.map) (map_no_ty h.map)), fun k hkk => (h.txt k hkk).keeps hk (fun k e h5 => hne k 5 e h5 (by decide) (by decide)), h.set.keeps hk (fun e => hne _ 131 e ⟨_, h.set.blk⟩ (by decide) (by decide)) (fun k e e2 => hne k 58 e2 (own_ty h.set.own e) (by decide) (by decide)), h.rep.keeps hk (fun e => (ht _ e).elim (imap_no_ty h.rep) (imap_no_ty h.rep)), h.mr⟩
/-- A block's bytes are others. -/
theorem StoAt.txtPut (h : StoAt w σ s nb) {b : Int} {g n c : Nat} {tb : List Int} (hl : tb.length = n) (hrow : w.ownsRow 0 5 1 (.slice (some ⟨g, 0, none⟩) n c) n (tb.map (Value.int .u8))) (hm : Bmap w' σ.m (nb + 1) (upd σ.f b (some (g, n, c)))) (hg : w.grownBy w' (some σ.m)) :
    StoAt w' { σ with f := upd σ.f b (some (g, n, c)) } { s with txt := upd s.txt b (some tb) } (nb + 1) := by
  have hk : Keeps (fun k => k = σ.m) w w' := Keeps.of_grown hg (fun k e => by cases e; rfl)
  have hne : ∀ k t, k = σ.m → tyAt w k t → False := fun k t e h1 => by subst e; exact map_no_ty h.map h1
  refine ⟨(hk.block _ (lt_blk h.blk) (fun e => hne _ 89 e ⟨_, h.blk⟩)).trans h.blk, ownsRow_keeps h.ord hk (fun k e e2 => hne k 3 e2 (own_ty h.ord e)), hm, fun k hkk => ?_, h.set.keeps hk (fun e => hne _ 131 e ⟨_, h.set.blk⟩) (fun k e e2 => hne k 58 e2 (own_ty h.set.own e)), (h.rep.keeps hk (fun e => h.mr e.symm)).mono (Nat.le_succ _), h.mr⟩
  show TxtAt w' (upd σ.f b (some (g, n, c)) k) (upd s.txt b (some tb) k)
  unfold upd
  by_cases e : k = b
  · rw [if_pos e, if_pos e]
    exact .inr ⟨g, n, c, tb, rfl, rfl, hl, ownsRow_keeps hrow hk (fun k e e2 => hne k 5 e2 (own_ty hrow e))⟩
  · rw [if_neg e, if_neg e]
    exact (h.txt k hkk).keeps hk (fun k e h5 => hne k 5 e h5)
/-- A block's bytes are gone. -/
theorem StoAt.txtDel (h : StoAt w σ s nb) {b : Int} (hm : Bmap w' σ.m nb (upd σ.f b none)) (hg : w.grownBy w' (some σ.m)) :
    StoAt w' { σ with f := upd σ.f b none } { s with txt := upd s.txt b none } nb := by
  have hk : Keeps (fun k => k = σ.m) w w' := Keeps.of_grown hg (fun k e => by cases e; rfl)
  have hne : ∀ k t, k = σ.m → tyAt w k t → False := fun k t e h1 => by subst e; exact map_no_ty h.map h1
  refine ⟨(hk.block _ (lt_blk h.blk) (fun e => hne _ 89 e ⟨_, h.blk⟩)).trans h.blk, ownsRow_keeps h.ord hk (fun k e e2 => hne k 3 e2 (own_ty h.ord e)), hm, fun k hkk => ?_, h.set.keeps hk (fun e => hne _ 131 e ⟨_, h.set.blk⟩) (fun k e e2 => hne k 58 e2 (own_ty h.set.own e)), h.rep.keeps hk (fun e => h.mr e.symm), h.mr⟩
  show TxtAt w' (upd σ.f b none k) (upd s.txt b none k)
  unfold upd
  by_cases e : k = b
  · rw [if_pos e, if_pos e]
    exact .inl ⟨rfl, rfl⟩
  · rw [if_neg e, if_neg e]
    exact (h.txt k hkk).keeps hk (fun k e h5 => hne k 5 e h5)
/-- A block was repaired. -/
theorem StoAt.repPut (h : StoAt w σ s nb) {b x : Int} (hm : Imap w' σ.r (nb + 1) (upd s.rp b (some x))) (hg : w.grownBy w' (some σ.r)) :
    StoAt w' σ { s with rp := upd s.rp b (some x) } (nb + 1) := by
  have hk : Keeps (fun k => k = σ.r) w w' := Keeps.of_grown hg (fun k e => by cases e; rfl)
  have hne : ∀ k t, k = σ.r → tyAt w k t → False := fun k t e h1 => by subst e; exact imap_no_ty h.rep h1
  exact ⟨(hk.block _ (lt_blk h.blk) (fun e => hne _ 89 e ⟨_, h.blk⟩)).trans h.blk, ownsRow_keeps h.ord hk (fun k e e2 => hne k 3 e2 (own_ty h.ord e)), (h.map.keeps hk (fun e => h.mr e)).mono (Nat.le_succ _), fun k hkk => (h.txt k hkk).keeps hk (fun k e h5 => hne k 5 e h5), h.set.keeps hk (fun e => hne _ 131 e ⟨_, h.set.blk⟩) (fun k e e2 => hne k 58 e2 (own_ty h.set.own e)), hm, h.mr⟩
/-- What is asked is another set. -/
theorem StoAt.setPut (h : StoAt w σ s nb) {v' : Value} {l' : List (Int × Int)} (hs : IsSet w' σ.a v' l') (hk : Keeps (fun k => k = σ.a ∨ σ.av.ownBlock = some k) w w') :
    StoAt w' { σ with av := v' } { s with l := l' } nb := by
  have ht : ∀ k, (k = σ.a ∨ σ.av.ownBlock = some k) → tyAt w k 131 ∨ tyAt w k 58 := fun k hk => hk.elim (fun e => by subst e; exact .inl ⟨_, h.set.blk⟩) (fun e => .inr (own_ty h.set.own e))
  have hne : ∀ k t, (k = σ.a ∨ σ.av.ownBlock = some k) → tyAt w k t → t ≠ 131 → t ≠ 58 → False := fun k t hk h1 h2 h3 => (ht k hk).elim (fun h4 => h1.ne h4 h2 rfl) (fun h4 => h1.ne h4 h3 rfl)
  exact ⟨(hk.block _ (lt_blk h.blk) (fun e => hne _ 89 e ⟨_, h.blk⟩ (by decide) (by decide))).trans h.blk, ownsRow_keeps h.ord hk (fun k e e2 => hne k 3 e2 (own_ty h.ord e) (by decide) (by decide)), h.map.keeps hk (fun e => (ht _ e).elim (map_no_ty h.map) (map_no_ty h.map)), fun k hkk => (h.txt k hkk).keeps hk (fun k e h5 => hne k 5 e h5 (by decide) (by decide)), hs, h.rep.keeps hk (fun e => (ht _ e).elim (imap_no_ty h.rep) (imap_no_ty h.rep)), h.mr⟩
end
end Go.Proofs.Ytjklcecakdmbaaa
