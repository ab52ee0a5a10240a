/-
  Package store: Ask.
-/
import Derived.Test.YtjklcecakdmbaaaT9
import Derived.RangeFuncWrites
import Derived.RangeFuncOwn
namespace Go.Proofs.Ytjklcecakdmbaaa
open Go.RowKit Go.Shelf
attribute [local go_sem] Oper.semAt_some

def hasL (L : List (Int × Int)) (n : Int) : Bool := L.any fun x => decide (max x.1 0 ≤ n ∧ n < min x.2 16384)
theorem hasL_iff (L : List (Int × Int)) (n : Int) : hasL L n = true ↔ inL L n := by
  unfold hasL inL
  simp only [List.any_eq_true, decide_eq_true_eq]
/-- What Ask tells and leaves. -/
def AskPost (w : World) (σ : SI) (s : SS) (nb : Nat) (now : Int) (L : List (Int × Int)) (e : Ending) (w' : World) : Prop :=
  ∃ v' l', e = .returned (.tuple #[.int .i64 ((cntN fun x => hasL L x && (mayTake s now x && !hasB s.l x) : Nat) : Int), .int .i64 ((cntN fun x => hasL L x && !(s.txt x).isSome : Nat) : Int)]) ∧ StoAt w' { σ with av := v' } { s with l := l' } nb ∧ (∀ n, inS l' n ↔ inS s.l n ∨ (inL L n ∧ mayTake s now n = true)) ∧ Keeps (fun k => k = σ.a ∨ σ.av.ownBlock = some k) w w' ∧ (v'.ownBlock = σ.av.ownBlock ∨ ∀ k, v'.ownBlock = some k → w.heap.size ≤ k)

structure AskC (w : World) (σ : SI) (s : SS) (nb : Nat) (now : Int) (Q : Int → Prop) (tk gn : Nat) (W : World) : Prop where
  sto : ∃ v' l', StoAt W { σ with av := v' } { s with l := l' } nb ∧ (∀ n, inS l' n ↔ Q n) ∧ (v'.ownBlock = σ.av.ownBlock ∨ ∀ k, v'.ownBlock = some k → w.heap.size ≤ k)
  b0 : W.heap[w.heap.size]? = some (.cells #[.pointer (some ⟨σ.b, 0, none⟩)] 26 (0, 0))
  b1 : W.heap[w.heap.size + 1]? = some (.cells #[.int .i64 now] 3 (0, 0))
  b2 : W.heap[w.heap.size + 1 + 1]? = some (.cells #[.int .i64 tk] 3 (0, 0))
  b3 : W.heap[w.heap.size + 1 + 1 + 1]? = some (.cells #[.int .i64 gn] 3 (0, 0))
  kps : Keeps (fun k => k = σ.a ∨ σ.av.ownBlock = some k) w W
/-- One step within a round. -/
def Stp (B a : Nat) (W W' : World) : Prop := KeepsFrom B W W' ∧ Kp a W W'
theorem Stp.trans {B a : Nat} {X Y Z : World} (h : Stp B a X Y) (k : Stp B a Y Z) : Stp B a X Z := ⟨h.1.trans k.1, h.2.trans k.2⟩
theorem Stp.refl (B a : Nat) (W : World) : Stp B a W W := ⟨KeepsFrom.refl B W, ⟨Nat.le_refl _, fun _ _ h _ => h, fun _ h => .inl h⟩⟩
section
variable {w W W' : World} {σ : SI} {s : SS} {nb : Nat} {now : Int} {Q : Int → Prop} {tk gn : Nat}
theorem AskC.lta (h : AskC w σ s nb now Q tk gn W) : σ.a < W.heap.size := by
  obtain ⟨v', l', h1, _⟩ := h.sto
  exact lt_blk h1.set.blk
theorem AskC.below (h : AskC w σ s nb now Q tk gn W) (hb : Below W.heap.size W W') (B : Nat) : AskC w σ s nb now Q tk gn W' ∧ Stp B σ.a W W' := by
  refine ⟨⟨?_, (hb.block _ (lt_blk h.b0)).trans h.b0, (hb.block _ (lt_blk h.b1)).trans h.b1, (hb.block _ (lt_blk h.b2)).trans h.b2, (hb.block _ (lt_blk h.b3)).trans h.b3, ?_⟩, KeepsFrom.of_keeps (T := fun _ => False) B (Keeps.of_below hb) (fun _ e => e.elim), Kp.of_below hb h.lta⟩
  · obtain ⟨v', l', h1, h2⟩ := h.sto
    exact ⟨v', l', h1.below hb, h2⟩
  · exact h.kps.trans (T := fun _ => False) (Keeps.of_below hb) (fun _ _ e => e) (fun _ _ e => e.elim)
theorem ask_foot (h0 : StoAt w σ s nb) {v' : Value} {l' : List (Int × Int)} (h : StoAt W { σ with av := v' } { s with l := l' } nb) {d : Nat} (hd : w.heap.size ≤ d) (h3 : tyAt W d 3) : ∀ k, ({ σ with av := v' } : SI).foot k → k ≠ d := by
  rintro k hk rfl
  rcases hk with e | e | e | e | e | e
  · exact h3.ne ⟨_, h.blk⟩ (by decide) e
  · subst e; exact map_no_ty h.map h3
  · exact h3.ne ⟨_, h.set.blk⟩ (by decide) e
  · subst e; exact imap_no_ty h.rep h3
  · have := (h0.ord.lt k e).2; omega
  · exact h3.ne (own_ty h.set.own e) (by decide) rfl
theorem ask_keep (h0 : StoAt w σ s nb) (h : AskC w σ s nb now Q tk gn W) {d : Nat} (hd : w.heap.size ≤ d) (h3 : tyAt W d 3) (hk : Keeps (fun k => k = d) W W') (B : Nat) :
    (∃ v' l', StoAt W' { σ with av := v' } { s with l := l' } nb ∧ (∀ n, inS l' n ↔ Q n) ∧ (v'.ownBlock = σ.av.ownBlock ∨ ∀ k, v'.ownBlock = some k → w.heap.size ≤ k)) ∧ Keeps (fun k => k = σ.a ∨ σ.av.ownBlock = some k) w W' ∧ Stp B σ.a W W' := by
  obtain ⟨v', l', h1, h2⟩ := h.sto
  have ha : σ.a ≠ d := fun e => h3.ne ⟨_, h1.set.blk⟩ (by decide) e.symm
  refine ⟨⟨v', l', h1.keeps hk (ask_foot h0 h1 hd h3) (fun k e e5 => by subst e; exact h3.ne e5 (by decide) rfl), h2⟩, h.kps.trans hk (fun _ _ e => e) (fun i hi e => by omega), KeepsFrom.of_keeps B hk (fun k e => by subst e; exact ⟨_, h3⟩), Kp.of_keeps hk (fun k e => by subst e; exact ⟨_, h3, by decide⟩) (hk.block _ h.lta ha)⟩
theorem AskC.taken (h0 : StoAt w σ s nb) (h : AskC w σ s nb now Q tk gn W) (x : Nat) (B : Nat) : AskC w σ s nb now Q x gn (W.setCell ⟨w.heap.size + 1 + 1, 0, none⟩ (.int .i64 x)) ∧ Stp B σ.a W (W.setCell ⟨w.heap.size + 1 + 1, 0, none⟩ (.int .i64 x)) := by
  have hk : Keeps (fun k => k = w.heap.size + 1 + 1) W (W.setCell ⟨w.heap.size + 1 + 1, 0, none⟩ (.int .i64 x)) := (Keeps.refl _ W).setCell _ _ (fun _ => rfl)
  obtain ⟨h1, h2, h3⟩ := ask_keep h0 h (by omega) ⟨_, h.b2⟩ hk B
  exact ⟨⟨h1, (hk.block _ (lt_blk h.b0) (by omega)).trans h.b0, (hk.block _ (lt_blk h.b1) (by omega)).trans h.b1, by rw [heap_setCell_same _ _ 0 _ _ _ h.b2]; rfl, (hk.block _ (lt_blk h.b3) (by omega)).trans h.b3, h2⟩, h3⟩
theorem AskC.gone (h0 : StoAt w σ s nb) (h : AskC w σ s nb now Q tk gn W) (x : Nat) (B : Nat) : AskC w σ s nb now Q tk x (W.setCell ⟨w.heap.size + 1 + 1 + 1, 0, none⟩ (.int .i64 x)) ∧ Stp B σ.a W (W.setCell ⟨w.heap.size + 1 + 1 + 1, 0, none⟩ (.int .i64 x)) := by
  have hk : Keeps (fun k => k = w.heap.size + 1 + 1 + 1) W (W.setCell ⟨w.heap.size + 1 + 1 + 1, 0, none⟩ (.int .i64 x)) := (Keeps.refl _ W).setCell _ _ (fun _ => rfl)
  obtain ⟨h1, h2, h3⟩ := ask_keep h0 h (by omega) ⟨_, h.b3⟩ hk B
  exact ⟨⟨h1, (hk.block _ (lt_blk h.b0) (by omega)).trans h.b0, (hk.block _ (lt_blk h.b1) (by omega)).trans h.b1, (hk.block _ (lt_blk h.b2) (by omega)).trans h.b2, by rw [heap_setCell_same _ _ 0 _ _ _ h.b3]; rfl, h2⟩, h3⟩
theorem AskC.imp {Q' : Int → Prop} (h : AskC w σ s nb now Q tk gn W) (hq : ∀ n, Q' n ↔ Q n) : AskC w σ s nb now Q' tk gn W := by
  obtain ⟨v', l', h1, h2, h3⟩ := h.sto
  exact ⟨⟨v', l', h1, fun n => (h2 n).trans (hq n).symm, h3⟩, h.b0, h.b1, h.b2, h.b3, h.kps⟩
theorem AskC.add (h : AskC w σ s nb now Q tk gn W) {v' v'' : Value} {l' l'' : List (Int × Int)} (h1 : StoAt W { σ with av := v' } { s with l := l' } nb) (_ : ∀ n, inS l' n ↔ Q n) (h3 : v'.ownBlock = σ.av.ownBlock ∨ ∀ k, v'.ownBlock = some k → w.heap.size ≤ k)
    {Q' : Int → Prop} (hs : IsSet W' σ.a v'' l'') (hq : ∀ n, inS l'' n ↔ Q' n) (hk : Keeps (fun k => k = σ.a ∨ v'.ownBlock = some k) W W') (hv : v''.ownBlock = v'.ownBlock ∨ ∀ k, v''.ownBlock = some k → W.heap.size ≤ k) (B : Nat) : AskC w σ s nb now Q' tk gn W' ∧ Stp B σ.a W W' := by
  have ht : ∀ k t, tyAt W k t → t ≠ 131 → t ≠ 58 → ¬ (k = σ.a ∨ v'.ownBlock = some k) := by
    rintro k t hk h131 h58 (e | e)
    · exact hk.ne ⟨_, h1.set.blk⟩ h131 e
    · exact hk.ne (own_ty h1.set.own e) h58 rfl
  have hb : ∀ (k : Nat) (cs : Array Value) (t : TypeId), W.heap[k]? = some (Obj.cells cs t (0, 0)) → t ≠ 131 → t ≠ 58 → W'.heap[k]? = some (Obj.cells cs t (0, 0)) := fun k cs t hc h131 h58 => (hk.block k (lt_blk hc) (ht k t ⟨_, hc⟩ h131 h58)).trans hc
  have hwk := h.kps.size
  refine ⟨⟨⟨v'', l'', h1.setPut hs hk, hq, ?_⟩, hb _ _ _ h.b0 (by decide) (by decide), hb _ _ _ h.b1 (by decide) (by decide), hb _ _ _ h.b2 (by decide) (by decide), hb _ _ _ h.b3 (by decide) (by decide), ?_⟩, KeepsFrom.of_keeps B hk (fun k e => ?_), Kp.of_set h1.set hs hk hv⟩
  · rcases hv with e | e
    · rw [e]; exact h3
    · exact .inr fun k hk => Nat.le_trans hwk (e k hk)
  · refine h.kps.trans hk (fun _ _ e => e) (fun i hi e => ?_)
    rcases e with e | e
    · exact .inl e
    · rcases h3 with e2 | e2
      · exact .inr (by rw [← e2]; exact e)
      · have := e2 i e; omega
  · rcases e with e | e
    · subst e; exact ⟨_, _, h1.set.blk⟩
    · exact ⟨_, own_ty h1.set.own e⟩
theorem AskC.own (h0 : StoAt w σ s nb) (h : AskC w σ s nb now Q tk gn W) {B : Nat} (hB : w.heap.size ≤ B) {row : Option Nat} (hg : W.grownBy W' row) (hr : ∀ r, row = some r → B ≤ r ∧ ∃ o : Obj, W.heap[r]? = some o ∧ o.isCells = false) : AskC w σ s nb now Q tk gn W' := by
  have h3 : ∀ (k : Nat) (cs : Array Value) (t : TypeId), W.heap[k]? = some (Obj.cells cs t (0, 0)) → W'.heap[k]? = some (Obj.cells cs t (0, 0)) := fun k cs t hc =>
    ((Keeps.of_grown (S := fun k => row = some k) hg (fun k e => e)).block k (lt_blk hc) (fun e => by
      obtain ⟨_, o, h1, h2⟩ := hr k e
      rw [hc] at h1; cases h1; cases h2)).trans hc
  obtain ⟨v', l', h1, h2⟩ := h.sto
  have l1 := h0.lt _ (.inr (.inl rfl))
  have l2 := h0.lt _ (.inr (.inr (.inr (.inl rfl))))
  refine ⟨⟨v', l', h1.ownFrom hg hr (Nat.lt_of_lt_of_le l1 hB) (Nat.lt_of_lt_of_le l2 hB), h2⟩, h3 _ _ _ h.b0, h3 _ _ _ h.b1, h3 _ _ _ h.b2, h3 _ _ _ h.b3, ?_⟩
  exact h.kps.trans (T := fun k => row = some k) (Keeps.of_grown hg (fun k e => e)) (fun _ _ e => e) (fun i hi e => by have := (hr i e).1; omega)
end
theorem taken_same {s : SS} {now : Int} {pre : List N16} {x : N16} (h : mayTake s now x.1 = false ∨ askedP s now pre x.1) : takenF s now (pre ++ [x]) = takenF s now pre := by
  rw [takenF_snoc]
  cases hm : mayTake s now x.1 with
  | false => rfl
  | true =>
    have h1 : askedP s now pre x.1 := h.resolve_left (by rw [hm]; decide)
    rw [if_neg]
    · rfl
    · intro h2
      exact (taken_cond hm).1 (by rw [hm]; exact h2) h1
theorem taken_more {s : SS} {now : Int} {pre : List N16} {x : N16} (hm : mayTake s now x.1 = true) (h : ¬ askedP s now pre x.1) : takenF s now (pre ++ [x]) = takenF s now pre + 1 := by
  rw [takenF_snoc, if_pos ((taken_cond hm).2 h)]
theorem SInv.setl {s : SS} (h : SInv s) (l' : List (Int × Int)) : SInv { s with l := l' } := ⟨h.dom, h.nodup, h.bd, h.len, h.room, h.hold, h.byte, h.rbd⟩

theorem ask_boxes (w : World) (x0 x1 x2 x3 : Value) (W1 : World) (h : W1 = (((w.alloc (.cells #[x0] 26)).alloc (.cells #[x1] 3)).alloc (.cells #[x2] 3)).alloc (.cells #[x3] 3)) :
    W1.heap[w.heap.size]? = some (.cells #[x0] 26 (0, 0)) ∧ W1.heap[w.heap.size + 1]? = some (.cells #[x1] 3 (0, 0)) ∧ W1.heap[w.heap.size + 1 + 1]? = some (.cells #[x2] 3 (0, 0)) ∧ W1.heap[w.heap.size + 1 + 1 + 1]? = some (.cells #[x3] 3 (0, 0)) ∧ Below w.heap.size w W1 ∧ W1.heap.size = w.heap.size + 4 := by
  subst h
  refine ⟨?_, ?_, ?_, ?_, ((((Below.refl _ w).alloc (Nat.le_refl _) _).alloc (by simp) _).alloc (by simp; omega) _).alloc (by simp; omega) _, by simp⟩
  · rw [heap_alloc_old (h := by simp; omega), heap_alloc_old (h := by simp; omega), heap_alloc_old (h := by simp)]
    exact heap_alloc_new w _
  · rw [heap_alloc_old (h := by simp), heap_alloc_old (h := by simp)]
    have := heap_alloc_new (w.alloc (.cells #[x0] 26)) (.cells #[x1] 3)
    rwa [World.size_alloc] at this
  · rw [heap_alloc_old (h := by simp)]
    have := heap_alloc_new ((w.alloc (.cells #[x0] 26)).alloc (.cells #[x1] 3)) (.cells #[x2] 3)
    rwa [World.size_alloc, World.size_alloc] at this
  · have := heap_alloc_new (((w.alloc (.cells #[x0] 26)).alloc (.cells #[x1] 3)).alloc (.cells #[x2] 3)) (.cells #[x3] 3)
    rwa [World.size_alloc, World.size_alloc, World.size_alloc] at this

set_option maxHeartbeats 4000000 in
set_option maxRecDepth 100000 in
theorem ask_ok (σ : SI) (s : SS) (nb : Nat) (now : Int) (p : Option Addr) (n cap : Nat) (L : List (Int × Int)) (w : World) (h : StoAt w σ s nb) (hi : SInv s) (hp : PairsAt w p n L) (hn : n ≤ 100000) (ht : 0 ≤ now ∧ now ≤ 1099511627776) :
    Calls Try.prog 12 #[.pointer (some ⟨σ.b, 0, none⟩), .slice p n cap, .int .i64 now] w (AskPost w σ s nb now L) := by
  obtain ⟨POST, hPOST⟩ : ∃ POST, POST = AskPost w σ s nb now L := ⟨_, rfl⟩
  rw [← hPOST]
  have HPOST := Lib.hid hPOST
  have HP := Lib.hid hp
  have H := Lib.hid h
  have HI := Lib.hid hi
  have htt : decide (0 ≤ now ∧ now ≤ 1099511627776) = true := by simp [ht]
  have HTM : ∀ W, Calls Try.prog 42 #[.int .i64 now] W fun e w' => e = .returned (.bool true) ∧ W = w' := fun W => by
    have := time_any now W
    rw [htt] at this
    exact this
  have HTM := Lib.hid HTM
  obtain ⟨sb, hsb⟩ : ∃ sb, sb = σ.b := ⟨_, rfl⟩
  rw [← hsb]
  clear hPOST hp h hi htt
  refine (callsIn_wide (n := 3)).1 ?_
  refine callsIn_of_wp_marks Try.func12 rfl trivial ?_ rfl
  simp only [Try.ntmps12, List.size_toArray, List.length_cons, List.length_nil, Nat.reduceAdd, Nat.reduceSub, Array.replicate_succ, Array.replicate_zero, List.push_toArray, List.append_toArray, List.nil_append, List.cons_append]
  gi_wp2_with (refine ⟨trivial, ?_⟩; gi_at_call 42; refine (callsIn_wide.2 (HTM.out _)).mono ?_; rintro e w' ⟨rfl, rfl⟩)
  refine ⟨trivial, ?_⟩
  obtain ⟨W1, hW1⟩ : ∃ W1, W1 = (((w.alloc (.cells #[.pointer (some ⟨σ.b, 0, none⟩)] 26)).alloc (.cells #[.int .i64 now] 3)).alloc (.cells #[.int .i64 0] 3)).alloc (.cells #[.int .i64 0] 3) := ⟨_, rfl⟩
  obtain ⟨hb0, hb1, hb2, hb3, hbelW, hszW⟩ := ask_boxes w _ _ _ _ W1 hW1
  rw [← hW1]
  refine (callsIn_wide.2 (union_any p n cap L W1 (HP.out.below hbelW) hn)).mono ?_
  rintro e w2 ⟨us, uv, U, rfl, hsU, hmU, hbel2, hus, huv⟩
  have HB2 := Lib.hid hbel2
  have HBW := Lib.hid hbelW
  have hB2 := Lib.hid (hbelW.trans (hbel2.mono (by omega)))
  have hb0 := Lib.hid ((hbel2.block _ (by omega)).trans hb0)
  have hb1 := Lib.hid ((hbel2.block _ (by omega)).trans hb1)
  have hb2 := Lib.hid ((hbel2.block _ (by omega)).trans hb2)
  have hb3 := Lib.hid ((hbel2.block _ (by omega)).trans hb3)
  have HSU := Lib.hid hsU
  have HMU := Lib.hid hmU
  have HUV := Lib.hid huv
  have hsz2 := hbel2.size
  clear hsU hmU hbel2 huv hbelW hW1
  gi_wp2_with (refine ⟨trivial, ?_⟩; gi_at_call 44; refine (all_in Fence.wide _ trivial rfl us _).mono ?_; rintro e w' ⟨rfl, hw3⟩)
  obtain ⟨hb30, hb3s, hb3b⟩ : w'.heap[w2.heap.size]? = some (.cells #[.pointer (some ⟨us, 0, none⟩)] 85 (0, 0)) ∧ w'.heap.size = w2.heap.size + 1 ∧ Below w2.heap.size w2 w' := by
    rw [← hw3]
    exact ⟨heap_alloc_new w2 _, by simp, (Below.refl _ _).alloc (Nat.le_refl _) _⟩
  clear hw3
  have hsz : w.heap.size + 4 ≤ w2.heap.size := by omega
  have hst2 : StoAt w' σ s nb := (H.out.below hB2.out).below hb3b
  have haw : σ.a < w.heap.size := lt_blk H.out.set.blk
  have HC0 : AskC w σ s nb now (askedP s now []) (takenF s now []) (goneF s []) w' := by
    refine ⟨⟨σ.av, s.l, hst2, fun n => ⟨.inl, fun h => ?_⟩, .inl rfl⟩, (hb3b.block _ (by omega)).trans hb0.out, (hb3b.block _ (by omega)).trans hb1.out, (hb3b.block _ (by omega)).trans hb2.out, (hb3b.block _ (by omega)).trans hb3.out, Keeps.of_below (hB2.out.trans (hb3b.mono (by omega)))⟩
    rcases h with h | ⟨x, hx, _⟩
    · exact h
    · cases hx
  have HC0 := Lib.hid HC0
  obtain ⟨XS, hXS⟩ : ∃ XS, XS = uptoU U 16384 := ⟨_, rfl⟩
  have HXS := Lib.hid hXS
  clear hXS
  have HSS : SeqStopsK Fence.wide (3 - 1) Try.prog 73 #[.pointer (some ⟨w2.heap.size, 0, none⟩)] encN (Kp σ.a) (fun xs => xs = XS) (fun _ => True) 16385 w' := by
    rw [HXS.out]
    refine all_stops Fence.wide 2 trivial rfl (by decide) w2.heap.size us σ.a uv U w' hb30 (HSU.out.below hb3b) (by omega) ?_
    rintro k ⟨v, c, h1, h2⟩
    rw [hst2.set.blk] at h1
    cases h1
    have h3 := (H.out.set.own.lt k h2).2
    exact ⟨by omega, fun e => by have := HUV.out k e; omega⟩
  have HSS := Lib.hid HSS
  have hwa : σ.a < w'.heap.size := by omega
  have hww : w.heap.size ≤ w'.heap.size := by omega
  clear hb30 hb3b hst2 hb3s
  refine wpIn_rangeFunc_ownG rfl (by decide) (gf := 73) (lb := #[.pointer (some ⟨w2.heap.size, 0, none⟩)]) rfl trivial (enters_of Try.func73 (by kernel_rfl) rfl) HSS.out
    (fun h k => h.trans k) (fun W l o o' h1 h2 h3 h4 => Kp.putObj (w := w') hwa W l o o' h1 h2 h3 h4) (Below.refl _ _) (fun _ => rfl)
    (fun pre W => AskC w σ s nb now (askedP s now pre) (takenF s now pre) (goneF s pre) W)
    (fun _ _ _ => False)
    (fun pre A B row hs hg hr => hs.own H.out hww hg hr)
    (fun _ _ _ _ _ hs _ _ => hs)
    HC0.out
    (fun x => { tmps := #[.pointer (some ⟨σ.b, 0, none⟩), .slice p n cap, .int .i64 now, .pointer (some ⟨w.heap.size, 0, none⟩), undef, .pointer (some ⟨w.heap.size + 1, 0, none⟩), .pointer (some ⟨w.heap.size + 1 + 1, 0, none⟩), .pointer (some ⟨w.heap.size + 1 + 1 + 1, 0, none⟩), .int .i64 x.1, undef, undef, .int .i64 now, .bool true, .bool false, .slice p n cap, .pointer (some ⟨us, 0, none⟩), .func (.func 73) #[] #[.pointer (some ⟨w2.heap.size, 0, none⟩)], .int .i64 x.1, undef, undef, undef, undef, undef, undef, undef, undef, undef, undef, undef, undef, undef, undef, undef, undef, undef, undef, undef, undef, undef, undef, undef, undef, undef, undef, undef, undef, undef, undef, undef, undef, undef, undef, undef, undef, undef, undef, undef, undef, undef], defers := [] }) ?assign ?body ?done ?stop
  case assign =>
    intro l x W K hK
    dsimp only [encN]
    gi_wp2
    exact hK
  case body =>
    intro l pre x W hI hlen
    have HA := Lib.hid hI
    obtain ⟨⟨v', l', hst, hml, hvo⟩, hb0, hb1, hb2, hb3, hkp⟩ := hI
    have hx16 : (x.1 : Int) < 16384 := by have := x.2; omega
    have hx0 : (0 : Int) ≤ x.1 := by omega
    have hkx : iKey x.1 := iKey_of (by omega) (by omega)
    have c0 : W.cell? ⟨w.heap.size, 0, none⟩ = some (.pointer (some ⟨σ.b, 0, none⟩)) := by rw [cell_blk hb0]; rfl
    have c1 : W.cell? ⟨w.heap.size + 1, 0, none⟩ = some (.int .i64 now) := by rw [cell_blk hb1]; rfl
    have c2 : W.cell? ⟨w.heap.size + 1 + 1, 0, none⟩ = some (.int .i64 (takenF s now pre : Nat)) := by rw [cell_blk hb2]; rfl
    have c3 : W.cell? ⟨w.heap.size + 1 + 1 + 1, 0, none⟩ = some (.int .i64 (goneF s pre : Nat)) := by rw [cell_blk hb3]; rfl
    have f2 : W.frozen? ⟨w.heap.size + 1 + 1, 0, none⟩ = false := frozen_blk hb2 0
    have f3 : W.frozen? ⟨w.heap.size + 1 + 1 + 1, 0, none⟩ = false := frozen_blk hb3 0
    obtain ⟨_, _, _, s3, s4, _⟩ := sto_at hst.blk
    dsimp only at s3 s4
    have hg1 := goneF_le s pre
    have ht1 := takenF_le s now pre
    have HST := Lib.hid hst
    have HML := Lib.hid hml
    have HVO := Lib.hid hvo
    clear hb0 hb1 hb2 hb3 hkp hml hvo
    rcases hst.txt x.1 hkx with ⟨h1, h2⟩ | ⟨g, n1, c, tx, h1, h2, h3, h4⟩
    · have hl := hst.map.look_no hkx h1
      dsimp only at hl h2
      have hmay : mayTake s now x.1 = false := by unfold mayTake; rw [h2]; rfl
      have hgs : goneF s (pre ++ [x]) = goneF s pre + 1 := by rw [goneF_snoc, h2]; rfl
      have hts : takenF s now (pre ++ [x]) = takenF s now pre := by rw [takenF_snoc, hmay]; rfl
      have hEND : AskC w σ s nb now (askedP s now (pre ++ [x])) (takenF s now (pre ++ [x])) (goneF s (pre ++ [x])) (W.setCell ⟨w.heap.size + 1 + 1 + 1, 0, none⟩ (.int .i64 ((goneF s pre : Nat) + 1))) ∧ Stp w'.heap.size σ.a W (W.setCell ⟨w.heap.size + 1 + 1 + 1, 0, none⟩ (.int .i64 ((goneF s pre : Nat) + 1))) := by
        rw [hts, hgs]
        have := (HA.out.gone H.out (goneF s pre + 1) w'.heap.size)
        exact ⟨this.1.imp (askedP_snoc_no (.inl hmay)), this.2⟩
      have HEND := Lib.hid hEND
      clear hEND hgs hts hmay h1 h2 hst
      gi_wp2
      exact ⟨HEND.out.2.1, HEND.out.2.2, HEND.out.1⟩
    · have hl := hst.map.look_yes hkx h1
      dsimp only at hl h2
      have hgs : goneF s (pre ++ [x]) = goneF s pre := by rw [goneF_snoc, h2]; rfl
      have hsome : (s.txt x.1).isSome = true := by rw [h2]; rfl
      have HSOME := Lib.hid hsome
      have HGS := Lib.hid hgs
      clear hgs hsome h1 h2 h3 h4 hst
      gi_wp2
      refine ⟨trivial, ?_⟩
      refine (CallsIn.inRound l (callsIn_wide.2 (has_any σ.a v' l' x.1 W HST.out.set hx0 (by omega)))).mono ?_
      rintro e W5 ⟨rfl, hbel5⟩
      obtain ⟨hc5, hs5⟩ := HA.out.below hbel5 w'.heap.size
      have hst5 := HST.out.below hbel5
      obtain ⟨_, _, _, _, s4', _⟩ := sto_at hst5.blk
      dsimp only at s4'
      have c0' : W5.cell? ⟨w.heap.size, 0, none⟩ = some (.pointer (some ⟨σ.b, 0, none⟩)) := by rw [cell_blk hc5.b0]; rfl
      have c1' : W5.cell? ⟨w.heap.size + 1, 0, none⟩ = some (.int .i64 now) := by rw [cell_blk hc5.b1]; rfl
      have HC5 := Lib.hid hc5
      have HS5 := Lib.hid hs5
      have HST5 := Lib.hid hst5
      clear c0 c1 c2 c3 s3 s4 f2 f3 hl hbel5 hc5 hs5 hst5
      cases hhas : hasB l' x.1 with
      | true =>
        have has : askedP s now pre x.1 := (HML.out _).1 ((hasB_iff _ _).1 hhas)
        have hEND : AskC w σ s nb now (askedP s now (pre ++ [x])) (takenF s now (pre ++ [x])) (goneF s (pre ++ [x])) W5 := by
          rw [taken_same (.inr has), HGS.out]
          exact HC5.out.imp (askedP_snoc_no (.inr has))
        have HEND := Lib.hid hEND
        clear hEND has hhas
        gi_wp2
        refine ⟨trivial, ?_⟩
        gi_wp2
        exact ⟨HS5.out.1, HS5.out.2, HEND.out⟩
      | false =>
        have hnas : ¬ askedP s now pre x.1 := fun h => by
          have := (hasB_iff _ _).2 ((HML.out _).2 h)
          rw [hhas] at this
          cases this
        have HNAS := Lib.hid hnas
        have HFR : Calls Try.prog 46 #[.pointer (some ⟨σ.b, 0, none⟩), .int .i64 x.1, .int .i64 now] W5 fun e w' => e = .returned (.bool (freshB s x.1 now)) ∧ W5 = w' := fresh_any { σ with av := v' } { s with l := l' } nb x.1 now W5 HST5.out (HI.out.setl l') ⟨hx0, hx16⟩ ht
        have HFR := Lib.hid HFR
        clear hnas hhas
        gi_wp2
        refine ⟨trivial, ?_⟩
        refine (CallsIn.inRound l (callsIn_wide.2 HFR.out)).mono ?_
        rintro e W6 ⟨rfl, rfl⟩
        cases hfr : freshB s x.1 now with
        | true =>
          have hmay : mayTake s now x.1 = false := by unfold mayTake; rw [hfr]; simp
          have hEND : AskC w σ s nb now (askedP s now (pre ++ [x])) (takenF s now (pre ++ [x])) (goneF s (pre ++ [x])) W5 := by
            rw [taken_same (.inl hmay), HGS.out]
            exact HC5.out.imp (askedP_snoc_no (.inl hmay))
          have HEND := Lib.hid hEND
          clear hEND hmay hfr HFR
          gi_wp2
          exact ⟨HS5.out.1, HS5.out.2, HEND.out⟩
        | false =>
          have hmay : mayTake s now x.1 = true := by unfold mayTake; rw [hfr, HSOME.out]; rfl
          have HMAY := Lib.hid hmay
          clear hmay hfr HFR
          gi_wp2
          refine ⟨trivial, ?_⟩
          refine (CallsIn.inRound l (callsIn_wide.2 (add_any σ.a v' l' x.1 (x.1 + 1) W5 HST5.out.set hx0 (by omega) (by omega)))).mono ?_
          rintro e W7 ⟨r7, v7, l7, rfl, hs7, hm7, hk7, hv7⟩
          obtain ⟨hc7, hp7⟩ := HC5.out.add HST5.out HML.out HVO.out (Q' := askedP s now (pre ++ [x])) hs7 (fun n => by rw [hm7 n, askedP_snoc_yes HMAY.out]; show inS l' n ∨ _ ↔ _; rw [HML.out n]) hk7 hv7 w'.heap.size
          have c2' : W7.cell? ⟨w.heap.size + 1 + 1, 0, none⟩ = some (.int .i64 (takenF s now pre : Nat)) := by rw [cell_blk hc7.b2]; rfl
          have f2' : W7.frozen? ⟨w.heap.size + 1 + 1, 0, none⟩ = false := frozen_blk hc7.b2 0
          have hEND : AskC w σ s nb now (askedP s now (pre ++ [x])) (takenF s now (pre ++ [x])) (goneF s (pre ++ [x])) (W7.setCell ⟨w.heap.size + 1 + 1, 0, none⟩ (.int .i64 ((takenF s now pre : Nat) + 1))) ∧ Stp w'.heap.size σ.a W (W7.setCell ⟨w.heap.size + 1 + 1, 0, none⟩ (.int .i64 ((takenF s now pre : Nat) + 1))) := by
            rw [taken_more HMAY.out HNAS.out, HGS.out]
            have := (hc7.taken H.out (takenF s now pre + 1) w'.heap.size)
            exact ⟨this.1, (HS5.out.trans hp7).trans this.2⟩
          have HEND := Lib.hid hEND
          clear hEND hs7 hm7 hk7 hv7 hc7 hp7 c0' c1' s4'
          gi_wp2
          exact ⟨HEND.out.2.1, HEND.out.2.2, HEND.out.1⟩
  case done =>
    intro D xs W hDw hxs hI hK
    rw [hxs] at hI
    clear hxs
    have HA := Lib.hid hI
    have c2 : W.cell? ⟨w.heap.size + 1 + 1, 0, none⟩ = some (.int .i64 (takenF s now XS : Nat)) := by rw [cell_blk hI.b2]; rfl
    have c3 : W.cell? ⟨w.heap.size + 1 + 1 + 1, 0, none⟩ = some (.int .i64 (goneF s XS : Nat)) := by rw [cell_blk hI.b3]; rfl
    have f2 : W.frozen? ⟨w.heap.size + 1 + 1, 0, none⟩ = false := frozen_blk hI.b2 0
    have f3 : W.frozen? ⟨w.heap.size + 1 + 1 + 1, 0, none⟩ = false := frozen_blk hI.b3 0
    have HK := Lib.hid hK
    obtain ⟨tk, htk⟩ : ∃ tk, tk = takenF s now XS := ⟨_, rfl⟩
    obtain ⟨gn, hgn⟩ : ∃ gn, gn = goneF s XS := ⟨_, rfl⟩
    rw [← htk] at c2
    rw [← hgn] at c3
    have HTK := Lib.hid htk
    have HGN := Lib.hid hgn
    clear hI hK htk hgn
    gi_wp2
    gi_region
    obtain ⟨V, hV⟩ : ∃ V, V = ((W.setCell ⟨w.heap.size + 1 + 1, 0, none⟩ (.int .i64 tk)).setCell ⟨w.heap.size + 1 + 1 + 1, 0, none⟩ (.int .i64 gn)).drew := ⟨_, rfl⟩
    rw [← hV]
    have HCV : AskC w σ s nb now (askedP s now XS) tk gn V := by
      have h1 := (HA.out.taken H.out tk 0).1.gone H.out gn 0
      have h2 := (h1.1.below (W' := V) (by rw [hV]; exact (Below.refl _ _).drew) 0).1
      exact h2
    have hKV : V.heap[D]? = some (.deferred (some [])) := by
      rw [hV]
      show ((W.setCell ⟨w.heap.size + 1 + 1, 0, none⟩ (.int .i64 tk)).setCell ⟨w.heap.size + 1 + 1 + 1, 0, none⟩ (.int .i64 gn)).heap[D]? = _
      rw [Below.heap_setCell _ _ _ _ (fun e => by subst e; have := HK.out; rw [HA.out.b3] at this; cases this), Below.heap_setCell _ _ _ _ (fun e => by subst e; have := HK.out; rw [HA.out.b2] at this; cases this)]
      exact HK.out
    have HKV := Lib.hid hKV
    have HCVV := Lib.hid HCV
    have v2 : V.cell? ⟨w.heap.size + 1 + 1, 0, none⟩ = some (.int .i64 tk) := by rw [cell_blk HCV.b2]; rfl
    have v3 : V.cell? ⟨w.heap.size + 1 + 1 + 1, 0, none⟩ = some (.int .i64 gn) := by rw [cell_blk HCV.b3]; rfl
    clear hV hKV HCV c2 c3 f2 f3
    gi_wp2
    refine ⟨by simp, .inl ⟨_, _, rfl, run_takeDeferred HKV.out, ?_⟩⟩
    obtain ⟨V2, hV2⟩ : ∃ V2, V2 = V.putObj D (.deferred none) := ⟨_, rfl⟩
    rw [← hV2]
    have HCW : AskC w σ s nb now (askedP s now XS) tk gn V2 := by
      rw [hV2]
      exact HCVV.out.own H.out hww (row := some D) (grownBy_putObj' V D _) (fun r e => by cases e; exact ⟨hDw, _, HKV.out, rfl⟩)
    have u2 : V2.cell? ⟨w.heap.size + 1 + 1, 0, none⟩ = some (.int .i64 tk) := by rw [cell_blk HCW.b2]; rfl
    have u3 : V2.cell? ⟨w.heap.size + 1 + 1 + 1, 0, none⟩ = some (.int .i64 gn) := by rw [cell_blk HCW.b3]; rfl
    refine ⟨.tuple #[.int .i64 tk, .int .i64 gn], ?_, ?_⟩
    · simp [results, go_sem, loadVar, u2, u3, Result.andThen]
    · rw [HPOST.out]
      have hUL : ∀ n : Int, hasB U n = hasL L n := fun n => by
        rw [Bool.eq_iff_iff, hasB_iff, hasL_iff]; exact HMU.out n
      obtain ⟨v7, l7, h71, h72, h73⟩ := HCW.sto
      refine ⟨v7, l7, ?_, h71, fun n => ?_, HCW.kps, h73⟩
      · rw [HTK.out, HGN.out, HXS.out, taken_all, gone_all]
        simp only [hUL]
      · rw [h72 n]
        unfold askedP
        constructor
        · rintro (h | ⟨x, hx, rfl, hm⟩)
          · exact .inl h
          · rw [HXS.out, mem_uptoU] at hx
            exact .inr ⟨(HMU.out _).1 hx.2, hm⟩
        · rintro (h | ⟨h, hm⟩)
          · exact .inl h
          · obtain ⟨y, _, hy⟩ := id h
            refine .inr ⟨⟨n.toNat, by omega⟩, ?_, by simp only; omega, hm⟩
            rw [HXS.out, mem_uptoU]
            refine ⟨by simp only; omega, (HMU.out _).2 ?_⟩
            rw [show (((⟨n.toNat, by omega⟩ : N16).1 : Nat) : Int) = n by simp only; omega]
            exact h
  case stop =>
    rintro D c pre W _ _ h _
    exact h.elim
end Go.Proofs.Ytjklcecakdmbaaa
