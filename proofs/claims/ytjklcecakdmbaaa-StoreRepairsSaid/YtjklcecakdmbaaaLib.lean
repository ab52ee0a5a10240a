/-
  Laws for the walks of this seat: copy, clear and append over rows whose elements have several cells, each leaving an abstract later world; and the frame 'Keeps'.
-/
import Derived.Test.YtjklcecakdmbaaaProg
import Derived.WalkKit
import Derived.WalkSpells
import Derived.WalkLawsBesides
import Derived.Lib.Hide
import Derived.Laws.CopyOwn
import Derived.Lib.AppendZerosOnto
namespace Go.Proofs.Ytjklcecakdmbaaa
open Go.RowKit

/-! ## A frame: what is no block of S, and was there, is as it was -/
structure Keeps (S : Nat → Prop) (w w' : World) : Prop where
  os : w'.os = w.os
  tape : w'.tape = w.tape
  output : w'.output = w.output
  size : w.heap.size ≤ w'.heap.size
  block : ∀ k, k < w.heap.size → ¬ S k → w'.heap[k]? = w.heap[k]?

theorem Keeps.refl (S : Nat → Prop) (w : World) : Keeps S w w := ⟨rfl, rfl, rfl, Nat.le_refl _, fun _ _ _ => rfl⟩
theorem Keeps.trans {S T U : Nat → Prop} {a b c : World} (h : Keeps S a b) (k : Keeps T b c) (hS : ∀ i, i < a.heap.size → S i → U i) (hT : ∀ i, i < a.heap.size → T i → U i) : Keeps U a c :=
  ⟨k.os.trans h.os, k.tape.trans h.tape, k.output.trans h.output, Nat.le_trans h.size k.size,
   fun i hi hU => (k.block i (Nat.lt_of_lt_of_le hi h.size) (fun e => hU (hT i hi e))).trans (h.block i hi (fun e => hU (hS i hi e)))⟩
theorem Keeps.mono {S T : Nat → Prop} {a b : World} (h : Keeps S a b) (hS : ∀ i, i < a.heap.size → S i → T i) : Keeps T a b :=
  ⟨h.os, h.tape, h.output, h.size, fun i hi hT => h.block i hi (fun e => hT (hS i hi e))⟩
theorem Keeps.below {S : Nat → Prop} {a b : World} (h : Keeps S a b) {B : Nat} (hB : B ≤ a.heap.size) (hS : ∀ i, i < B → ¬ S i) : Below B a b :=
  ⟨h.os, h.tape, h.output, h.size, fun i hi => h.block i (by omega) (hS i hi)⟩
theorem Keeps.of_below {S : Nat → Prop} {a b : World} (h : Below a.heap.size a b) : Keeps S a b :=
  ⟨h.os, h.tape, h.output, h.size, fun i hi _ => h.block i hi⟩
theorem Keeps.of_below_ge {a b : World} {B : Nat} (h : Below B a b) : Keeps (fun i => B ≤ i) a b :=
  ⟨h.os, h.tape, h.output, h.size, fun i _ hn => h.block i (by omega)⟩
theorem Keeps.of_grown {S : Nat → Prop} {a b : World} {row : Option Nat} (h : a.grownBy b row) (hS : ∀ k, row = some k → S k) : Keeps S a b :=
  ⟨h.os, h.tape, h.output, h.size, fun i hi hn => h.block i hi (fun e => hn (hS i e.symm))⟩
theorem Keeps.alloc {S : Nat → Prop} {a b : World} (h : Keeps S a b) (o : Obj) : Keeps S a (b.alloc o) :=
  h.trans (T := fun _ => False) (Keeps.of_grown (World.grownBy_alloc b o none) (fun _ e => by cases e)) (fun _ _ e => e) (fun _ _ e => e.elim)
theorem Keeps.setCell {S : Nat → Prop} {a b : World} (h : Keeps S a b) (p : Addr) (u : Value) (hp : p.block < a.heap.size → S p.block) : Keeps S a (b.setCell p u) :=
  ⟨h.os, h.tape, h.output, by have := h.size; simpa [World.setCell] using this, fun i hi hn => (Below.heap_setCell _ _ _ _ (fun e => by subst e; exact hn (hp hi))).trans (h.block i hi hn)⟩
theorem Keeps.drew {S : Nat → Prop} {a b : World} (h : Keeps S a b) : Keeps S a b.drew := ⟨h.os, h.tape, h.output, h.size, h.block⟩
theorem Keeps.drewN {S : Nat → Prop} {a b : World} (h : Keeps S a b) (n : Nat) : Keeps S a (b.drewN n) := ⟨h.os, h.tape, h.output, h.size, h.block⟩
theorem Keeps.cell {S : Nat → Prop} {a b : World} (h : Keeps S a b) {p : Addr} (hp : p.block < a.heap.size) (hn : ¬ S p.block) : b.cell? p = a.cell? p := World.cell?_of_block (w := a) (h.block p.block hp hn)
theorem Keeps.frozen {S : Nat → Prop} {a b : World} (h : Keeps S a b) {p : Addr} (hp : p.block < a.heap.size) (hn : ¬ S p.block) : b.frozen? p = a.frozen? p := World.frozen?_of_block (w := a) (h.block p.block hp hn)

theorem cell_blk {w : World} {b : Nat} {cs : Array Value} {t : TypeId} (h : w.heap[b]? = some (.cells cs t (0, 0))) (j : Nat) : w.cell? ⟨b, j, none⟩ = cs[j]? := by simp [World.cell?, h]
theorem frozen_blk {w : World} {b : Nat} {cs : Array Value} {t : TypeId} (h : w.heap[b]? = some (.cells cs t (0, 0))) (j : Nat) : w.frozen? ⟨b, j, none⟩ = false := by simp [World.frozen?, h]
theorem lt_blk {w : World} {b : Nat} {o : Obj} (h : w.heap[b]? = some o) : b < w.heap.size := (Array.getElem?_eq_some_iff.1 h).1

/-! ## copy, over elements of several cells -/
section
variable {P : Program}
theorem run_copy_rowN (w : World) (dT sT ty elem : TypeId) (size g o dLen dCap : Nat) (a : Addr) (sLen sCap : Nat) (cur : Array Value) (t : TypeId) (cs : List Value)
    (hu : P.underlying dT = some (.slice elem)) (hs : (P.info? elem).map (·.size) = some size)
    (hg : w.heap[g]? = some (.cells cur t (0, 0))) (hn : cs.length = Nat.min sLen dLen * size)
    (hsrc : ∀ j v, cs[j]? = some v → w.cell? (a.add j) = some v) (hfit : o + cs.length ≤ cur.size) (h1 : ∀ v ∈ cs, v.oneCell' = true) :
    (Builtin.copy_ #[dT, sT] ty #[.slice (some ⟨g, o, none⟩) dLen dCap, .slice (some a) sLen sCap]).run P w =
      .ok (goInt (Nat.min sLen dLen)) (w.setRow g (cur.toList.take o ++ cs ++ cur.toList.drop (o + cs.length)).toArray) := by
  have hl := run_firstCells_some (P := P) w size (Nat.min sLen dLen) a sLen sCap cs hn hsrc
  have hst := run_storeCells_at P g o t cs 0 cur w hg (by simpa using hfit) h1
  cases hq : P.info? elem with
  | none => simp [hq] at hs
  | some i =>
    have hi : i.size = size := by simpa [hq] using hs
    simp [Builtin.copy_, run_underlying hu, Builtin.lenOf, sizeOf, typeInfo, hq, hi, hl, hst]

theorem wpList_copyN {w : World} {ops : Array Oper} {rest : List Oper} {o : Oper} {a : Act} {Q : Exit → Act → World → Prop} (hgd : o.guard = none) (d s : Operand) (dT sT : TypeId)
    (ho : o.op = .call { callee := .builtin .copy, args := #[d, s], argTypes := #[dT, sT] }) (elem : TypeId) (size : Nat) (hu : P.underlying dT = some (.slice elem)) (hsz : (P.info? elem).map (·.size) = some size)
    (g off dLen dCap : Nat) (ad : Addr) (sLen sCap : Nat) (hd : a.eval d = .slice (some ⟨g, off, none⟩) dLen dCap) (hs : a.eval s = .slice (some ad) sLen sCap)
    (cur : List Value) (t : TypeId) (hg : w.heap[g]? = some (.cells cur.toArray t (0, 0))) (cs : List Value) (hn : cs.length = Nat.min sLen dLen * size)
    (hsrc : ∀ j v, cs[j]? = some v → w.cell? (ad.add j) = some v) (hfit : off + cs.length ≤ cur.length) (h1 : ∀ v ∈ cs, v.oneCell' = true)
    (h : ∀ w', w'.heap[g]? = some (.cells (splice cur off cs).toArray t (0, 0)) → w.grownBy w' (some g) → w'.heap.size = w.heap.size → wpList P ops Q rest (a.put o.dst (goInt (Nat.min sLen dLen))) w') : wpList P ops Q (o :: rest) a w := by
  refine wpList_plain hgd fun K hK => ?_
  have hrun := run_copy_rowN (P := P) w dT sT o.type elem size g off dLen dCap ad sLen sCap cur.toArray t cs hu hsz hg hn hsrc (by simpa using hfit) h1
  unfold Oper.wp
  simp [execOp, ho, resolve, invoke, builtin, hd, hs, hrun, Result.andThen]
  refine hK _ _ (h _ ?_ ⟨rfl, rfl, rfl, by simp, fun k _ hk => setRow_other w g k _ (fun e => hk (by rw [e]))⟩ (by simp))
  rw [setRow_heap w g _ _ t _ hg]
  simp [splice]

theorem step_copyN {ops : Array Oper} {o : Oper} {a : Act} {w : World} {K : Act → World → Prop} {Q : Exit → Act → World → Prop} {E : Prop} (hgd : o.guard = none) (d s : Operand) (dT sT : TypeId)
    (ho : o.op = .call { callee := .builtin .copy, args := #[d, s], argTypes := #[dT, sT] }) (elem : TypeId) (size : Nat) (hu : P.underlying dT = some (.slice elem)) (hsz : (P.info? elem).map (·.size) = some size)
    (g off dLen dCap : Nat) (ad : Addr) (sLen sCap : Nat) (hd : a.eval d = .slice (some ⟨g, off, none⟩) dLen dCap) (hs : a.eval s = .slice (some ad) sLen sCap)
    (cur : List Value) (t : TypeId) (hg : w.heap[g]? = some (.cells cur.toArray t (0, 0))) (cs : List Value) (hn : cs.length = Nat.min sLen dLen * size)
    (hsrc : ∀ j v, cs[j]? = some v → w.cell? (ad.add j) = some v) (hfit : off + cs.length ≤ cur.length) (h1 : ∀ v ∈ cs, v.oneCell' = true)
    (h : ∀ w', Hid (w'.heap[g]? = some (.cells (splice cur off cs).toArray t (0, 0))) → w.grownBy w' (some g) → Hid (w'.heap.size = w.heap.size) → K (a.put o.dst (goInt (Nat.min sLen dLen))) w') :
    if Region.wanted o (yielded ops a.tmps) = true then Oper.wp P o a w K Q else E := by
  have hw : Region.wanted o (yielded ops a.tmps) = true := by simp [Region.wanted, hgd]
  rw [if_pos hw]
  have hrun := run_copy_rowN (P := P) w dT sT o.type elem size g off dLen dCap ad sLen sCap cur.toArray t cs hu hsz hg hn hsrc (by simpa using hfit) h1
  unfold Oper.wp
  simp [execOp, ho, resolve, invoke, builtin, hd, hs, hrun, Result.andThen]
  refine h _ ?_ ⟨rfl, rfl, rfl, by simp, fun k _ hk => setRow_other w g k _ (fun e => hk (by rw [e]))⟩ (show _ = _ by simp)
  show _ = _
  rw [setRow_heap w g _ _ t _ hg]
  simp [splice]

/-! ## append of a make, where there is no room: a new row -/
theorem wpList_append_zerosN (w : World) {ops : Array Oper} {rest : List Oper} {o : Oper} {a : Act} {Q : Exit → Act → World → Prop} (hgd : o.guard = none) (s x : Operand) (t tn : TypeId)
    (ho : o.op = .call { callee := .builtin .append, args := #[s, x], argTypes := #[t, tn] })
    (e : TypeId) (i : TypeInfo) (z : Value) (kn kq : IntKind) (size bytes : Nat) (ht : P.underlying t = some (.slice e)) (htn : P.underlying tn = some (.int kn)) (hi : P.info? e = some i) (hz : i.zero = some z)
    (hsize : i.size = size) (hby : i.bytes = bytes) (hzs : z.cells.size = size) (hsz : 0 < size)
    (g k cap : Nat) (olds : List Value) (hs : a.eval s = .slice (some ⟨g, 0, none⟩) k cap) (hol : olds.length = k * size) (holds : ∀ j u, olds[j]? = some u → w.cell? ⟨g, j, none⟩ = some u)
    (cnt need : Nat) (hneed : need = k + cnt) (N : Int) (hN : N = (cnt : Int)) (hx : a.eval x = .int kq N) (h0 : 0 < cnt) (hroom : cap < k + cnt) (hby0 : 0 < bytes) (hbytes : (k + cnt) * bytes ≤ 140737488355328)
    (h : ∀ w' c' tail, w'.heap[w.heap.size]? = some (.cells (olds ++ tail).toArray e (0, 0)) → (olds ++ tail).length = c' * size → need ≤ c' → c' ≤ maxLen → w.grownBy w' none → w'.heap.size = w.heap.size + 1 →
      wpList P ops Q rest (a.put o.dst (.slice (some ⟨w.heap.size, 0, none⟩) need c')) w') : wpList P ops Q (o :: rest) a w := by
  subst hsize
  subst hby
  subst hN
  subst hneed
  have hkb : k + cnt ≤ 140737488355328 := by
    have : (k + cnt) * 1 ≤ (k + cnt) * i.bytes := Nat.mul_le_mul_left _ hby0
    omega
  have hcb : cnt * i.bytes ≤ (k + cnt) * i.bytes := Nat.mul_le_mul_right _ (by omega)
  have hold : (Builtin.firstCells i.size k (.slice (some ⟨g, 0, none⟩) k cap)).run P w.drew = .ok olds.toArray w.drew :=
    run_firstCells_some w.drew i.size k ⟨g, 0, none⟩ k cap olds hol (fun j u hj => by
      have hadd : (⟨g, 0, none⟩ : Addr).add j = ⟨g, j, none⟩ := by unfold Addr.add; split <;> simp_all
      rw [hadd]; exact holds j u hj)
  have hr := Lib.run_append_grow_zeros (P := P) w t tn o.type e i z kq kn ht htn hi hz (some ⟨g, 0, none⟩) k cap olds hold cnt h0 hsz hroom (by omega) (by omega) (growslice_fits hroom hbytes)
  have hge := grownCap_ge w (k + cnt) cap e
  refine wpList_plain hgd fun K hK => ?_
  unfold Oper.wp execOp
  simp only [ho, resolve, invoke, builtin, Sem.run_bind, Sem.run_pure, Result.andThen_ok, List.map_toArray, List.map_cons, List.map_nil, hs, hx, hr]
  refine hK _ _ (h _ _ ((Builtin.zeroCells z.cells cnt).toList ++ (Builtin.zeroCells z.cells (grownCap w (k + cnt) cap e - (k + cnt))).toList) ?_ ?_ hge (grownCap_le_maxLen w (k + cnt) cap e (by simp only [maxLen]; omega)) ⟨rfl, rfl, rfl, by simp, fun j hj _ => heap_alloc_old (w := w.drew) (h := hj) ..⟩ (by simp))
  · have := heap_alloc_new w.drew (.cells (olds.toArray ++ Builtin.zeroCells z.cells cnt ++ Builtin.zeroCells z.cells (grownCap w (k + cnt) cap e - (k + cnt))) e)
    have e2 : (olds ++ ((Builtin.zeroCells z.cells cnt).toList ++ (Builtin.zeroCells z.cells (grownCap w (k + cnt) cap e - (k + cnt))).toList)).toArray = olds.toArray ++ Builtin.zeroCells z.cells cnt ++ Builtin.zeroCells z.cells (grownCap w (k + cnt) cap e - (k + cnt)) := by
      apply Array.ext'; simp
    rw [e2]
    exact this
  · simp only [List.length_append, Array.length_toList, size_zeroCells, hzs, hol, ← Nat.add_mul]
    congr 1
    omega
end

/-! ## The same with a source that may be nil; clear of nothing; an append that must grow -/
section
variable {P : Program}
theorem run_copy_rowO (w : World) (dT sT ty elem : TypeId) (size g o dLen dCap : Nat) (sp : Option Addr) (sLen sCap : Nat) (cur : Array Value) (t : TypeId) (cs : List Value)
    (hu : P.underlying dT = some (.slice elem)) (hs : (P.info? elem).map (·.size) = some size)
    (hg : w.heap[g]? = some (.cells cur t (0, 0))) (hn : cs.length = Nat.min sLen dLen * size)
    (hsrc : ∀ ad, sp = some ad → ∀ j v, cs[j]? = some v → w.cell? (ad.add j) = some v) (hnil : sp = none → cs = []) (hfit : o + cs.length ≤ cur.size) (h1 : ∀ v ∈ cs, v.oneCell' = true) :
    (Builtin.copy_ #[dT, sT] ty #[.slice (some ⟨g, o, none⟩) dLen dCap, .slice sp sLen sCap]).run P w =
      .ok (goInt (Nat.min sLen dLen)) (w.setRow g (cur.toList.take o ++ cs ++ cur.toList.drop (o + cs.length)).toArray) := by
  cases sp with
  | some a => exact run_copy_rowN w dT sT ty elem size g o dLen dCap a sLen sCap cur t cs hu hs hg hn (hsrc a rfl) hfit h1
  | none =>
    obtain rfl : cs = [] := hnil rfl
    have hst := run_storeCells_at P g o t [] 0 cur w hg (by simpa using hfit) (by simp)
    cases hq : P.info? elem with
    | none => simp [hq] at hs
    | some i => simp [Builtin.copy_, run_underlying hu, Builtin.lenOf, Builtin.firstCells, sizeOf, typeInfo, hq, hst]

theorem wpList_copyO {w : World} {ops : Array Oper} {rest : List Oper} {o : Oper} {a : Act} {Q : Exit → Act → World → Prop} (hgd : o.guard = none) (d s : Operand) (dT sT : TypeId)
    (ho : o.op = .call { callee := .builtin .copy, args := #[d, s], argTypes := #[dT, sT] }) (elem : TypeId) (size : Nat) (hu : P.underlying dT = some (.slice elem)) (hsz : (P.info? elem).map (·.size) = some size)
    (g off dLen dCap : Nat) (sp : Option Addr) (sLen sCap : Nat) (hd : a.eval d = .slice (some ⟨g, off, none⟩) dLen dCap) (hs : a.eval s = .slice sp sLen sCap)
    (cur : List Value) (t : TypeId) (hg : w.heap[g]? = some (.cells cur.toArray t (0, 0))) (cs : List Value) (hn : cs.length = Nat.min sLen dLen * size)
    (hsrc : ∀ ad, sp = some ad → ∀ j v, cs[j]? = some v → w.cell? (ad.add j) = some v) (hnil : sp = none → cs = []) (hfit : off + cs.length ≤ cur.length) (h1 : ∀ v ∈ cs, v.oneCell' = true)
    (h : ∀ w', w'.heap[g]? = some (.cells (splice cur off cs).toArray t (0, 0)) → w.grownBy w' (some g) → w'.heap.size = w.heap.size → wpList P ops Q rest (a.put o.dst (goInt (Nat.min sLen dLen))) w') : wpList P ops Q (o :: rest) a w := by
  refine wpList_plain hgd fun K hK => ?_
  have hrun := run_copy_rowO (P := P) w dT sT o.type elem size g off dLen dCap sp sLen sCap cur.toArray t cs hu hsz hg hn hsrc hnil (by simpa using hfit) h1
  unfold Oper.wp
  simp [execOp, ho, resolve, invoke, builtin, hd, hs, hrun, Result.andThen]
  refine hK _ _ (h _ ?_ ⟨rfl, rfl, rfl, by simp, fun k _ hk => setRow_other w g k _ (fun e => hk (by rw [e]))⟩ (by simp))
  rw [setRow_heap w g _ _ t _ hg]
  simp [splice]

theorem run_clear0 (w : World) (t ty e : TypeId) (hu : P.underlying t = some (.slice e)) (dp : Option Addr) (dCap : Nat) : (Builtin.clear_ #[t] ty #[.slice dp 0 dCap]).run P w = .ok (.tuple #[]) w := by
  cases dp <;> simp [Builtin.clear_, run_underlying hu]
theorem run_clearN (w : World) (dT elem : TypeId) (z : Value) (hu : P.underlying dT = some (.slice elem)) (hz : ∀ w, (zeroValue elem).run P w = .ok z w)
    (h1 : ∀ n, ∀ v ∈ (Builtin.zeroCells z.cells n).toList, v.oneCell' = true)
    (g off dLen dCap : Nat) (h0 : 0 < dLen) (cur : List Value) (t : TypeId) (hg : w.heap[g]? = some (.cells cur.toArray t (0, 0))) (hfit : off + dLen * z.cells.size ≤ cur.length) :
    ∃ w' cs, (∀ ty, (Builtin.clear_ #[dT] ty #[.slice (some ⟨g, off, none⟩) dLen dCap]).run P w = .ok (.tuple #[]) w') ∧ cs.length = dLen * z.cells.size ∧ w'.heap[g]? = some (.cells (splice cur off cs).toArray t (0, 0)) ∧ w.grownBy w' (some g) ∧ w'.heap.size = w.heap.size := by
  have hlen : (Builtin.zeroCells z.cells dLen).toList.length = dLen * z.cells.size := by simp [Builtin.zeroCells]
  have hst := run_storeCells_at P g off t (Builtin.zeroCells z.cells dLen).toList 0 cur.toArray w hg (by rw [hlen]; simpa using hfit) (h1 dLen)
  obtain ⟨m, rfl⟩ : ∃ m, dLen = m + 1 := ⟨dLen - 1, by omega⟩
  refine ⟨w.setRow g (cur.toArray.toList.take (off + 0) ++ (Builtin.zeroCells z.cells (m + 1)).toList ++ cur.toArray.toList.drop (off + 0 + (Builtin.zeroCells z.cells (m + 1)).toList.length)).toArray, (Builtin.zeroCells z.cells (m + 1)).toList, fun ty => ?_, hlen, ?_, ⟨rfl, rfl, rfl, by simp, fun k _ hk => setRow_other w g k _ (fun e => hk (by rw [e]))⟩, by simp⟩
  · simp only [Builtin.clear_, run_underlying hu, hz, hst, Sem.run_bind, Sem.run_pure, Result.andThen_ok, List.getElem?_toArray, List.getElem?_cons_zero]
  · rw [setRow_heap w g _ _ t _ hg]
    simp [splice]

theorem wpList_append_growN (w : World) {ops : Array Oper} {rest : List Oper} {o : Oper} {a : Act} {Q : Exit → Act → World → Prop} (hgd : o.guard = none) (s x : Operand) (t : TypeId)
    (ho : o.op = .call { callee := .builtin .append, args := #[s, x], argTypes := #[t, t] })
    (e : TypeId) (i : TypeInfo) (z : Value) (size bytes : Nat) (ht : P.underlying t = some (.slice e)) (hi : P.info? e = some i) (hz : i.zero = some z)
    (hsize : i.size = size) (hby : i.bytes = bytes) (hzs : z.cells.size = size) (hsz : 0 < size)
    (g k cap : Nat) (olds : List Value) (hs : a.eval s = .slice (some ⟨g, 0, none⟩) k cap) (hol : olds.length = k * size) (holds : ∀ j u, olds[j]? = some u → w.cell? ⟨g, j, none⟩ = some u)
    (ad : Addr) (m c need : Nat) (hneed : need = k + m) (news : List Value) (hx : a.eval x = .slice (some ad) m c) (hl : news.length = m * size) (hnews : ∀ j u, news[j]? = some u → w.cell? (ad.add j) = some u)
    (hroom : cap < k + m) (hby0 : 0 < bytes) (hbytes : (k + m) * bytes ≤ 140737488355328)
    (h : ∀ w' c' tail, w'.heap[w.heap.size]? = some (.cells (olds ++ news ++ tail).toArray e (0, 0)) → (olds ++ news ++ tail).length = c' * size → need ≤ c' → c' ≤ maxLen → w.grownBy w' none → w'.heap.size = w.heap.size + 1 →
      wpList P ops Q rest (a.put o.dst (.slice (some ⟨w.heap.size, 0, none⟩) need c')) w') : wpList P ops Q (o :: rest) a w := by
  subst hsize
  subst hby
  subst hneed
  have hkb : k + m ≤ 140737488355328 := by
    have : (k + m) * 1 ≤ (k + m) * i.bytes := Nat.mul_le_mul_left _ hby0
    omega
  have hr := run_append_grow (P := P) w t o.type e i z ht hi hz ⟨g, 0, none⟩ k cap olds hol (fun j u hj => by
      have hadd : (⟨g, 0, none⟩ : Addr).add j = ⟨g, j, none⟩ := by unfold Addr.add; split <;> simp_all
      rw [hadd]; exact holds j u hj) ad m c news hl hnews hroom (by omega) (growslice_fits hroom hbytes)
  have hge := grownCap_ge w (k + m) cap e
  refine wpList_plain hgd fun K hK => ?_
  unfold Oper.wp execOp
  simp only [ho, resolve, invoke, builtin, Sem.run_bind, Sem.run_pure, Result.andThen_ok, List.map_toArray, List.map_cons, List.map_nil, hs, hx, hr]
  refine hK _ _ (h _ _ (Builtin.zeroCells z.cells (grownCap w (k + m) cap e - (k + m))).toList ?_ ?_ hge (grownCap_le_maxLen w (k + m) cap e (by simp only [maxLen]; omega)) ⟨rfl, rfl, rfl, by simp, fun j hj _ => heap_alloc_old (w := w.drew) (h := hj) ..⟩ (by simp))
  · have := heap_alloc_new w.drew (.cells (olds.toArray ++ news.toArray ++ Builtin.zeroCells z.cells (grownCap w (k + m) cap e - (k + m))) e)
    have e2 : (olds ++ news ++ (Builtin.zeroCells z.cells (grownCap w (k + m) cap e - (k + m))).toList).toArray = olds.toArray ++ news.toArray ++ Builtin.zeroCells z.cells (grownCap w (k + m) cap e - (k + m)) := by
      apply Array.ext'; simp
    rw [e2]
    exact this
  · simp only [List.length_append, Array.length_toList, size_zeroCells, hzs, hol, hl, ← Nat.add_mul]
    congr 1
    omega
end

theorem wpList_append_nilN {P : Program} (w : World) {ops : Array Oper} {rest : List Oper} {o : Oper} {a : Act} {Q : Exit → Act → World → Prop} (hgd : o.guard = none) (s x : Operand) (t : TypeId)
    (ho : o.op = .call { callee := .builtin .append, args := #[s, x], argTypes := #[t, t] })
    (e : TypeId) (i : TypeInfo) (z : Value) (size bytes : Nat) (ht : P.underlying t = some (.slice e)) (hi : P.info? e = some i) (hz : i.zero = some z)
    (hsize : i.size = size) (hby : i.bytes = bytes) (hzs : z.cells.size = size)
    (hs : a.eval s = .slice none 0 0)
    (ad : Addr) (m c : Nat) (news : List Value) (hx : a.eval x = .slice (some ad) m c) (hl : news.length = m * size) (hnews : ∀ j u, news[j]? = some u → w.cell? (ad.add j) = some u)
    (h0 : 0 < m) (hby0 : 0 < bytes) (hbytes : m * bytes ≤ 140737488355328)
    (h : ∀ w' c' tail, w'.heap[w.heap.size]? = some (.cells (news ++ tail).toArray e (0, 0)) → (news ++ tail).length = c' * size → m ≤ c' → c' ≤ maxLen → w.grownBy w' none → w'.heap.size = w.heap.size + 1 →
      wpList P ops Q rest (a.put o.dst (.slice (some ⟨w.heap.size, 0, none⟩) m c')) w') : wpList P ops Q (o :: rest) a w := by
  subst hsize
  subst hby
  have hkb : m ≤ 140737488355328 := by
    have : m * 1 ≤ m * i.bytes := Nat.mul_le_mul_left _ hby0
    omega
  have hr := run_append_nil (P := P) w t o.type e i z ht hi hz ad m c news hl hnews h0 (by omega) (by omega)
  have hge := grownCap_ge w m 0 e
  refine wpList_plain hgd fun K hK => ?_
  unfold Oper.wp execOp
  simp only [ho, resolve, invoke, builtin, Sem.run_bind, Sem.run_pure, Result.andThen_ok, List.map_toArray, List.map_cons, List.map_nil, hs, hx, hr]
  refine hK _ _ (h _ _ (Builtin.zeroCells z.cells (grownCap w m 0 e - m)).toList ?_ ?_ hge (grownCap_le_maxLen w m 0 e (by simp only [maxLen]; omega)) ⟨rfl, rfl, rfl, by simp, fun j hj _ => heap_alloc_old (w := w.drew) (h := hj) ..⟩ (by simp))
  · have := heap_alloc_new w.drew (.cells (news.toArray ++ Builtin.zeroCells z.cells (grownCap w m 0 e - m)) e)
    have e2 : (news ++ (Builtin.zeroCells z.cells (grownCap w m 0 e - m)).toList).toArray = news.toArray ++ Builtin.zeroCells z.cells (grownCap w m 0 e - m) := by
      apply Array.ext'; simp
    rw [e2]
    exact this
  · simp only [List.length_append, Array.length_toList, size_zeroCells, hzs, hl, ← Nat.add_mul]
    congr 1
    omega

/-! ## Owned rows -/
theorem ownsRow_prefix {w : World} {base : Nat} {e : TypeId} {size g n cap : Nat} {xs : List Value} (h : w.ownsRow base e size (.slice (some ⟨g, 0, none⟩) n cap) n xs) (i : Nat) (hi : i ≤ n) :
    w.ownsRow base e size (.slice (some ⟨g, 0, none⟩) i cap) i (xs.take (i * size)) := by
  obtain ⟨h1, h2⟩ := h
  have hin : i * size ≤ n * size := Nat.mul_le_mul_right _ hi
  refine ⟨by rw [List.length_take]; omega, ?_⟩
  rcases h2 with ⟨h2, _⟩ | ⟨g', cap', cur, hv, hb, hg, hnc, hcm, hcs, ht⟩
  · cases h2
  · cases hv
    exact .inr ⟨g, cap, cur, rfl, hb, hg, by omega, hcm, hcs, by rw [← ht, List.take_take, Nat.min_eq_left hin]⟩

/-- An owned row that is not nil, laid open. -/
theorem ownsRow_open {w : World} {base : Nat} {e : TypeId} {size g n cap : Nat} {xs : List Value} (h : w.ownsRow base e size (.slice (some ⟨g, 0, none⟩) n cap) n xs) :
    ∃ tail : List Value, w.heap[g]? = some (.cells (xs ++ tail).toArray e (0, 0)) ∧ (xs ++ tail).length = cap * size ∧ xs.length = n * size ∧ n ≤ cap ∧ cap ≤ maxLen := by
  obtain ⟨h1, h2⟩ := h
  rcases h2 with ⟨h2, _⟩ | ⟨g', cap', cur, hv, hb, hg, hnc, hcm, hcs, ht⟩
  · cases h2
  · cases hv
    refine ⟨cur.toList.drop (n * size), ?_, ?_, h1, hnc, hcm⟩
    · rw [← ht, List.take_append_drop]; simpa using hg
    · rw [← ht, List.take_append_drop]; simpa using hcs

theorem ownsRow_shut {w : World} {e : TypeId} {size g n cap : Nat} {xs tail : List Value} (hg : w.heap[g]? = some (.cells (xs ++ tail).toArray e (0, 0))) (hl : (xs ++ tail).length = cap * size) (hx : xs.length = n * size) (hn : n ≤ cap) (hc : cap ≤ maxLen) :
    w.ownsRow 0 e size (.slice (some ⟨g, 0, none⟩) n cap) n xs :=
  ⟨hx, .inr ⟨g, cap, _, rfl, Nat.zero_le _, hg, hn, hc, by simpa using hl, by simp [← hx]⟩⟩
theorem ownsRow_keeps {S : Nat → Prop} {w w' : World} {base : Nat} {e : TypeId} {size : Nat} {v : Value} {n : Nat} {xs : List Value} (h : w.ownsRow base e size v n xs) (hk : Keeps S w w') (hS : ∀ k, v.ownBlock = some k → ¬ S k) : w'.ownsRow base e size v n xs := by
  obtain ⟨h1, h2⟩ := h
  refine ⟨h1, ?_⟩
  rcases h2 with h2 | ⟨g, cap, cur, rfl, hb, hg, r⟩
  · exact .inl h2
  · exact .inr ⟨g, cap, cur, rfl, hb, by rw [hk.block g (lt_blk hg) (hS g rfl)]; exact hg, r⟩

/-! ## Splices -/
theorem splice_ins {α : Type} (xs ys tail : List α) (i m : Nat) (hi : i ≤ xs.length) (hm : ys.length = m) (ht : m ≤ tail.length) :
    splice (splice (xs ++ tail) (i + m) (xs.drop i)) i ys = (xs.take i ++ ys ++ xs.drop i) ++ tail.drop m := by
  have e1 : (xs ++ tail).drop (i + m + (xs.drop i).length) = tail.drop m := by
    rw [List.drop_append, List.length_drop, List.drop_eq_nil_of_le (by omega), List.nil_append]
    congr 1; omega
  have e2 : ((xs ++ tail).take (i + m)).take i = xs.take i := by
    rw [List.take_take, Nat.min_eq_left (by omega), List.take_append_of_le_length hi]
  have e3 : ((xs ++ tail).take (i + m)).length = i + m := by rw [List.length_take, List.length_append]; omega
  unfold splice
  rw [e1, hm]
  rw [List.take_append_of_le_length (by rw [e3]; omega), e2, List.drop_append, List.drop_eq_nil_of_le (by rw [e3]; exact Nat.le_refl _), e3]
  simp
/-- grow: olds ++ tail row, copy ys at i, then xs.drop j at i+m -/
theorem splice_grow {α : Type} (olds tail ys zs : List α) (i m : Nat) (hi : olds.length = i) (hm : ys.length = m) (ht : m + zs.length ≤ tail.length) :
    splice (splice (olds ++ tail) i ys) (i + m) zs = (olds ++ ys ++ zs) ++ tail.drop (m + zs.length) := by
  subst hi; subst hm
  have e1 : splice (olds ++ tail) olds.length ys = olds ++ (ys ++ tail.drop ys.length) := by
    unfold splice
    rw [List.take_left, List.drop_append, List.drop_eq_nil_of_le (by omega), List.nil_append]
    congr 3; omega
  rw [e1]
  unfold splice
  have e2 : (olds ++ (ys ++ tail.drop ys.length)).take (olds.length + ys.length) = olds ++ ys := by
    rw [← List.append_assoc, List.take_append_of_le_length (by simp), List.take_of_length_le (by simp)]
  have e3 : (olds ++ (ys ++ tail.drop ys.length)).drop (olds.length + ys.length + zs.length) = tail.drop (ys.length + zs.length) := by
    rw [← List.append_assoc, List.drop_append, List.drop_eq_nil_of_le (by simp), List.nil_append, List.drop_drop]
    congr 1; simp
  rw [e2, e3]
  simp
/-- replace in place: (a) ys at i, then zs = xs.drop j at i+m, where i + m ≤ j -/
theorem splice_rep {α : Type} (xs ys tail : List α) (i j m : Nat) (hij : i + m ≤ j) (hj : j ≤ xs.length) (hm : ys.length = m) :
    splice (splice (xs ++ tail) i ys) (i + m) (xs.drop j) = (xs.take i ++ ys ++ xs.drop j) ++ (xs ++ tail).drop (i + m + (xs.length - j)) := by
  subst hm
  have e3 : ((xs ++ tail).take i).length = i := by rw [List.length_take, List.length_append]; omega
  unfold splice
  have e1 : ((xs ++ tail).take i ++ (ys ++ (xs ++ tail).drop (i + ys.length))).take (i + ys.length) = xs.take i ++ ys := by
    rw [← List.append_assoc, List.take_append_of_le_length (by simp [e3]), List.take_of_length_le (by simp [e3]), List.take_append_of_le_length (by omega)]
  have e2 : ((xs ++ tail).take i ++ (ys ++ (xs ++ tail).drop (i + ys.length))).drop (i + ys.length + (xs.drop j).length) = (xs ++ tail).drop (i + ys.length + (xs.length - j)) := by
    rw [← List.append_assoc, List.drop_append, List.drop_eq_nil_of_le (by rw [List.length_append, e3]; omega), List.nil_append, List.drop_drop, List.length_append, e3, List.length_drop]
    congr 1; omega
  rw [e1, e2]
  simp
/-- replace in place, growing: zs = xs.drop j at i+m first, then ys at i -/
theorem splice_exp {α : Type} (xs ys tail : List α) (i j m : Nat) (hij : i ≤ j) (hj : j ≤ xs.length) (hm : ys.length = m) (ht : i + m + (xs.length - j) ≤ (xs ++ tail).length) :
    splice (splice (xs ++ tail) (i + m) (xs.drop j)) i ys = (xs.take i ++ ys ++ xs.drop j) ++ (xs ++ tail).drop (i + m + (xs.length - j)) := by
  subst hm
  have e3 : ((xs ++ tail).take (i + ys.length)).length = i + ys.length := by rw [List.length_take]; omega
  have e2 : ((xs ++ tail).take (i + ys.length)).take i = xs.take i := by
    rw [List.take_take, Nat.min_eq_left (by omega), List.take_append_of_le_length (by omega)]
  unfold splice
  rw [List.take_append_of_le_length (by rw [e3]; omega), e2, List.drop_append, List.drop_eq_nil_of_le (by rw [e3]; exact Nat.le_refl _), e3, List.length_drop]
  simp
theorem shape_blk {w : World} {b : Nat} {cs : Array Value} {t : TypeId} (h : w.heap[b]? = some (.cells cs t (0, 0))) : w.shape? b = some (t, cs.size) := by simp [World.shape?, h]

theorem minEq (a b : Nat) : Nat.min a b = min a b := rfl
theorem zero_cells {w w1 : World} {g : Nat} {xs tail : List Value} {t : TypeId} (hk : w1.heap[g]? = w.heap[g]?) (h : w.heap[g]? = some (.cells (xs ++ tail).toArray t (0, 0))) : ∀ j v, xs[j]? = some v → w1.cell? ((⟨g, 0, none⟩ : Addr).add j) = some v := by
  intro j v hj
  have hadd : (⟨g, 0, none⟩ : Addr).add j = ⟨g, j, none⟩ := by unfold Addr.add; split <;> simp_all
  rw [hadd, cell_blk (hk.trans h)]
  have hlt : j < xs.length := (List.getElem?_eq_some_iff.1 hj).1
  simpa [List.getElem?_append_left hlt] using hj
theorem drop_cells {w : World} {g k : Nat} {xs tail : List Value} {t : TypeId} (h : w.heap[g]? = some (.cells (xs ++ tail).toArray t (0, 0))) : ∀ j v, (xs.drop k)[j]? = some v → w.cell? ((⟨g, k, none⟩ : Addr).add j) = some v := by
  intro j v hj
  have hadd : (⟨g, k, none⟩ : Addr).add j = ⟨g, k + j, none⟩ := by unfold Addr.add; split <;> simp_all
  rw [hadd, cell_blk h]
  rw [List.getElem?_drop] at hj
  have hlt : k + j < xs.length := (List.getElem?_eq_some_iff.1 hj).1
  simpa [List.getElem?_append_left hlt] using hj


end Go.Proofs.Ytjklcecakdmbaaa
