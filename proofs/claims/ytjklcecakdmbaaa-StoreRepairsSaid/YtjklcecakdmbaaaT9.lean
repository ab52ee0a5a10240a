/-
  Package store: Ask, plain: what is counted.
-/
import Derived.Test.YtjklcecakdmbaaaT8
namespace Go.Proofs.Ytjklcecakdmbaaa
open Go.RowKit

/-- May a block be taken? -/
def mayTake (s : SS) (now : Int) (x : Int) : Bool := (s.txt x).isSome && !freshB s x now
/-- How many are taken, of those that came (the last first). -/
def takenR (s : SS) (now : Int) : List N16 → Nat
  | [] => 0
  | x :: r => takenR s now r + if mayTake s now x.1 && !hasB s.l x.1 && !r.contains x then 1 else 0
def takenF (s : SS) (now : Int) (pre : List N16) : Nat := takenR s now pre.reverse
theorem takenF_snoc (s : SS) (now : Int) (pre : List N16) (x : N16) : takenF s now (pre ++ [x]) = takenF s now pre + if mayTake s now x.1 && !hasB s.l x.1 && !pre.contains x then 1 else 0 := by
  unfold takenF
  rw [List.reverse_append, List.reverse_singleton, List.singleton_append]
  show takenR s now pre.reverse + (if mayTake s now x.1 && !hasB s.l x.1 && !pre.reverse.contains x then 1 else 0) = _
  have : pre.reverse.contains x = pre.contains x := by
    rw [Bool.eq_iff_iff]; simp
  rw [this]
theorem takenF_le (s : SS) (now : Int) (pre : List N16) : takenF s now pre ≤ pre.length := by
  unfold takenF
  rw [← List.length_reverse]
  generalize pre.reverse = l
  induction l with
  | nil => exact Nat.le_refl _
  | cons x r ih =>
    show takenR s now r + _ ≤ r.length + 1
    split <;> omega
def goneF (s : SS) (pre : List N16) : Nat := pre.countP fun x => !(s.txt x.1).isSome
theorem goneF_snoc (s : SS) (pre : List N16) (x : N16) : goneF s (pre ++ [x]) = goneF s pre + if !(s.txt x.1).isSome then 1 else 0 := by
  unfold goneF
  rw [List.countP_append, List.countP_singleton]
theorem goneF_le (s : SS) (pre : List N16) : goneF s pre ≤ pre.length := List.countP_le_length
/-- What is asked, a part having come. -/
def askedP (s : SS) (now : Int) (pre : List N16) (n : Int) : Prop := inS s.l n ∨ ∃ x ∈ pre, (x.1 : Int) = n ∧ mayTake s now n = true
theorem askedP_snoc_no {s : SS} {now : Int} {pre : List N16} {x : N16} (h : mayTake s now x.1 = false ∨ askedP s now pre x.1) (n : Int) : askedP s now (pre ++ [x]) n ↔ askedP s now pre n := by
  unfold askedP at *
  constructor
  · rintro (h1 | ⟨y, hy, rfl, h2⟩)
    · exact .inl h1
    · rcases List.mem_append.1 hy with hy | hy
      · exact .inr ⟨y, hy, rfl, h2⟩
      · rw [List.mem_singleton] at hy
        subst hy
        rcases h with h | h
        · rw [h] at h2; cases h2
        · exact h
  · rintro (h1 | ⟨y, hy, rfl, h2⟩)
    · exact .inl h1
    · exact .inr ⟨y, List.mem_append.2 (.inl hy), rfl, h2⟩
theorem askedP_snoc_yes {s : SS} {now : Int} {pre : List N16} {x : N16} (h : mayTake s now x.1 = true) (n : Int) : askedP s now (pre ++ [x]) n ↔ askedP s now pre n ∨ ((x.1 : Int) ≤ n ∧ n < (x.1 : Int) + 1) := by
  unfold askedP
  constructor
  · rintro (h1 | ⟨y, hy, rfl, h2⟩)
    · exact .inl (.inl h1)
    · rcases List.mem_append.1 hy with hy | hy
      · exact .inl (.inr ⟨y, hy, rfl, h2⟩)
      · rw [List.mem_singleton] at hy
        subst hy
        exact .inr (by omega)
  · rintro ((h1 | ⟨y, hy, rfl, h2⟩) | h1)
    · exact .inl h1
    · exact .inr ⟨y, List.mem_append.2 (.inl hy), rfl, h2⟩
    · obtain rfl : n = x.1 := by omega
      exact .inr ⟨x, by simp, rfl, h⟩
theorem taken_cond {s : SS} {now : Int} {pre : List N16} {x : N16} (hm : mayTake s now x.1 = true) : (mayTake s now x.1 && !hasB s.l x.1 && !pre.contains x) = true ↔ ¬ askedP s now pre x.1 := by
  unfold askedP
  rw [hm]
  simp only [Bool.true_and, Bool.and_eq_true, Bool.not_eq_true']
  constructor
  · rintro ⟨h1, h2⟩ (h3 | ⟨y, hy, e, _⟩)
    · rw [(hasB_iff _ _).2 h3] at h1; cases h1
    · have : y = x := Fin.ext (by omega)
      subst this
      simp at h2
      exact h2 hy
  · intro h
    refine ⟨has_false _ _ (fun h1 => h (.inl h1)), ?_⟩
    simp only [List.contains_eq_mem, decide_eq_false_iff_not]
    intro h1
    exact h (.inr ⟨x, h1, rfl, trivial⟩)
/-- Counting numbers. -/
def cntN (Q : Nat → Bool) : Nat := (List.range 16384).countP Q
theorem count_upto (U : List (Int × Int)) (f : Nat → Bool) : ∀ n, n ≤ 16384 → (uptoU U n).countP (fun x => f x.1) = (List.range n).countP (fun x : Nat => hasB U (x : Int) && f x)
  | 0, _ => rfl
  | n + 1, h => by
    rw [uptoU, dif_pos (by omega), List.countP_append, count_upto U f n (by omega), List.range_succ, List.countP_append]
    congr 1
    cases h1 : hasB U n <;> cases h2 : f n <;> simp [h1, h2]
theorem taken_nodup (s : SS) (now : Int) : ∀ (l : List N16), l.Nodup → takenR s now l = l.countP fun x => mayTake s now x.1 && !hasB s.l x.1
  | [], _ => rfl
  | x :: r, h => by
    have h1 := List.nodup_cons.1 h
    show takenR s now r + _ = _
    rw [taken_nodup s now r h1.2, List.countP_cons]
    have : r.contains x = false := by
      simp only [List.contains_eq_mem, decide_eq_false_iff_not]; exact h1.1
    rw [this]
    simp
theorem uptoU_nodup (U : List (Int × Int)) (n : Nat) : (uptoU U n).Nodup := (uptoU_sorted U n).imp (fun h e => by rw [e] at h; omega)
theorem taken_all (s : SS) (now : Int) (U : List (Int × Int)) : takenF s now (uptoU U 16384) = cntN fun x => hasB U x && (mayTake s now x && !hasB s.l x) := by
  unfold takenF
  rw [taken_nodup s now _ ((List.reverse_perm _).nodup_iff.2 (uptoU_nodup U 16384)), List.countP_reverse]
  have h := count_upto U (fun x : Nat => mayTake s now x && !hasB s.l x) 16384 (Nat.le_refl _)
  rw [cntN]
  exact h
theorem gone_all (s : SS) (U : List (Int × Int)) : goneF s (uptoU U 16384) = cntN fun x => hasB U x && !(s.txt x).isSome := by
  have h := count_upto U (fun x : Nat => !(s.txt x).isSome) 16384 (Nat.le_refl _)
  rw [goneF, cntN]
  exact h

/-! ## What a round of Ask keeps -/
theorem KeepsFrom.of_keeps {T : Nat → Prop} {W W' : World} (B : Nat) (h : Keeps T W W') (hT : ∀ k, T k → ∃ t, tyAt W k t) : KeepsFrom B W W' := by
  refine ⟨h.size, fun k o _ hk ho => (h.block k (Array.getElem?_eq_some_iff.1 hk).1 (fun ht => ?_)).trans hk⟩
  obtain ⟨t, cs, h2⟩ := hT k ht
  rw [hk] at h2
  cases h2
  cases ho
theorem Kp.of_keeps {T : Nat → Prop} {W W' : World} {a : Nat} (h : Keeps T W W') (hT : ∀ k, T k → ∃ t, tyAt W k t ∧ t ≠ 58) (ha : W'.heap[a]? = W.heap[a]?) : Kp a W W' := by
  refine ⟨h.size, fun k cs hk _ => (h.block k (lt_blk hk) (fun ht => ?_)).trans hk, fun k ⟨v, c, h1, h2⟩ => .inl ⟨v, c, by rw [← ha]; exact h1, h2⟩⟩
  obtain ⟨t, h1, h2⟩ := hT k ht
  exact h1.ne ⟨_, hk⟩ h2 rfl
theorem Kp.of_below {W W' : World} {a : Nat} (h : Below W.heap.size W W') (ha : a < W.heap.size) : Kp a W W' :=
  Kp.of_keeps (T := fun _ => False) (Keeps.of_below h) (fun _ e => e.elim) (h.block a ha)
theorem Kp.of_set {W W' : World} {a : Nat} {v v' : Value} {l l' : List (Int × Int)} (hs : IsSet W a v l) (hs' : IsSet W' a v' l') (hk : Keeps (fun k => k = a ∨ v.ownBlock = some k) W W') (hv : v'.ownBlock = v.ownBlock ∨ ∀ k, v'.ownBlock = some k → W.heap.size ≤ k) : Kp a W W' := by
  refine ⟨hk.size, fun k cs h1 hn => (hk.block k (lt_blk h1) (fun e => ?_)).trans h1, fun k ⟨u, c, h1, h2⟩ => ?_⟩
  · rcases e with e | e
    · exact tyAt.ne ⟨_, h1⟩ ⟨_, hs.blk⟩ (by decide) e
    · exact hn ⟨v, _, hs.blk, e⟩
  · rw [hs'.blk] at h1
    cases h1
    rcases hv with h | h
    · exact .inl ⟨v, _, hs.blk, by rw [← h]; exact h2⟩
    · exact .inr ⟨h k h2, (hs'.own.lt k h2).2⟩
theorem StoAt.ownFrom {W W' : World} {σ : SI} {s : SS} {nb B : Nat} {row : Option Nat} (h : StoAt W σ s nb) (hg : W.grownBy W' row) (hr : ∀ r, row = some r → B ≤ r ∧ ∃ o : Obj, W.heap[r]? = some o ∧ o.isCells = false) (hm : σ.m < B) (hrr : σ.r < B) : StoAt W' σ s nb := by
  have hty : ∀ k t, row = some k → tyAt W k t → False := fun k t e ht => by
    obtain ⟨_, o, h1, h2⟩ := hr k e
    obtain ⟨cs, h3⟩ := ht
    rw [h1] at h3
    cases h3
    cases h2
  refine h.keeps (T := fun k => row = some k) (Keeps.of_grown hg (fun k e => e)) (fun k hf e => ?_) (fun k e h5 => hty k 5 e h5)
  rcases hf with e2 | e2 | e2 | e2 | e2 | e2
  · subst e2; exact hty _ 89 e ⟨_, h.blk⟩
  · subst e2; have := (hr _ e).1; omega
  · subst e2; exact hty _ 131 e ⟨_, h.set.blk⟩
  · subst e2; have := (hr _ e).1; omega
  · exact hty _ 3 e (own_ty h.ord e2)
  · exact hty _ 58 e (own_ty h.set.own e2)
end Go.Proofs.Ytjklcecakdmbaaa
