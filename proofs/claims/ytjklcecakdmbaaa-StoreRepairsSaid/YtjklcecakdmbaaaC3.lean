/-
  A case, opened: what lies in memory where a law's call begins.
-/
import Derived.Test.YtjklcecakdmbaaaC2
import Derived.Deep.Slices
import Derived.Lib.SmallJoins
import Derived.ChangeSlices
namespace Go.Proofs.Ytjklcecakdmbaaa
open Go.RowKit Go.ChangeShapes Go.WideShapes Go.Deep Go.Joins

/-- One call that a case lists. -/
structure OpD where
  k : Int
  b : Int
  t : Int
  ao : Option Addr
  n : Nat
  cap : Nat
  tb : List Int
/-- The calls that a case lists, in memory. -/
structure OpsAt (w : World) (p : Option Addr) (ops : List OpD) : Prop where
  nil : p = none → ops = []
  at_ : ∀ a, p = some a → ∀ j o, ops[j]? = some o → a.spot = none ∧ a.block < w.heap.size ∧
    w.cell? ⟨a.block, a.off + j * 4, none⟩ = some (.int .i64 o.k) ∧ w.cell? ⟨a.block, a.off + j * 4 + 1, none⟩ = some (.int .i64 o.b) ∧ w.cell? ⟨a.block, a.off + j * 4 + 2, none⟩ = some (.int .i64 o.t) ∧ w.cell? ⟨a.block, a.off + j * 4 + 3, none⟩ = some (.slice o.ao o.n o.cap) ∧
    TextAt w o.ao o.n o.tb ∧ o.n ≤ o.cap ∧ o.cap ≤ maxLen ∧ (Lit.int .i64 o.k).wf = true ∧ (Lit.int .i64 o.b).wf = true ∧ (Lit.int .i64 o.t).wf = true ∧ (∀ x ∈ o.tb, (Lit.int .u8 x).wf = true)

section
variable {H : Type} {enc : TypeId × Value → H} {w : World}
theorem open_text {fuel : Nat} {v : Value} {x : DataW H × List MemPlace} (h : DataW.trod enc Try.prog w 0 (fun _ => true) true fuel 32 [v] = some x) :
    ∃ (ao : Option Addr) (n cap : Nat) (tb : List Int), v = .slice ao n cap ∧ TextAt w ao n tb ∧ n ≤ cap ∧ cap ≤ maxLen ∧ ∀ x ∈ tb, (Lit.int .u8 x).wf = true := by
  rcases open_ints Try.underlying32 Try.underlying5 (by kernel_rfl) h with ⟨h1, _⟩ | ⟨a, len, cap, zs, h1, _, h3, h4, h5, _, h7, h8⟩
  · cases h1
    exact ⟨none, 0, 0, [], rfl, ⟨rfl, fun _ => rfl, fun _ e => (by cases e)⟩, Nat.le_refl _, Nat.zero_le _, by simp⟩
  · cases h1
    simp only [if_true] at h5
    refine ⟨some a, len, cap, zs.take len, rfl, ⟨by rw [List.length_take]; omega, fun e => (by cases e), fun ad e j v hv => ?_⟩, h3, h4, fun x hx => h8 x (List.mem_of_mem_take hx)⟩
    cases e
    have hj : j < len := by have := (List.getElem?_eq_some_iff.1 hv).1; rw [List.length_take] at this; omega
    rw [h7 j (by omega)]
    rw [List.getElem?_take_of_lt hj] at hv
    rw [List.getD_eq_getElem?_getD, hv]
    rfl
instance : Inhabited OpD := ⟨⟨0, 0, 0, none, 0, 0, []⟩⟩
set_option maxRecDepth 100000 in
theorem open_ops {fuel : Nat} {v : Value} {x : DataW H × List MemPlace} (h : DataW.trod enc Try.prog w 0 (fun _ => true) true fuel 39 [v] = some x) :
    ∃ (p : Option Addr) (n cap : Nat) (ops : List OpD), v = .slice p n cap ∧ ops.length = n ∧ n ≤ cap ∧ cap ≤ maxLen ∧ OpsAt w p ops := by
  rcases open_slice Try.underlying39 h with ⟨h1, _⟩ | ⟨a, len, cap, m, n, D, Pl, h1, _, h3, h4, h5, _, h7⟩
  · cases h1
    exact ⟨none, 0, 0, [], rfl, rfl, Nat.le_refl _, Nat.zero_le _, fun _ => rfl, fun _ e => (by cases e)⟩
  · cases h1
    simp only [if_true] at h5
    have hc48 : Try.prog.cellsOf 48 = 4 := by kernel_rfl
    have hc3 : Try.prog.cellsOf 3 = 1 := by kernel_rfl
    have hc32 : Try.prog.cellsOf 32 = 1 := by kernel_rfl
    have each : ∀ i, i < len → ∃ o : OpD, a.spot = none ∧ a.block < w.heap.size ∧
      w.cell? ⟨a.block, a.off + i * 4, none⟩ = some (.int .i64 o.k) ∧ w.cell? ⟨a.block, a.off + i * 4 + 1, none⟩ = some (.int .i64 o.b) ∧ w.cell? ⟨a.block, a.off + i * 4 + 2, none⟩ = some (.int .i64 o.t) ∧ w.cell? ⟨a.block, a.off + i * 4 + 3, none⟩ = some (.slice o.ao o.n o.cap) ∧
      TextAt w o.ao o.n o.tb ∧ o.n ≤ o.cap ∧ o.cap ≤ maxLen ∧ (Lit.int .i64 o.k).wf = true ∧ (Lit.int .i64 o.b).wf = true ∧ (Lit.int .i64 o.t).wf = true ∧ (∀ x ∈ o.tb, (Lit.int .u8 x).wf = true) := by
      intro i hi
      obtain ⟨cs', g1, g2⟩ := h7 i (by omega)
      rw [hc48] at g1
      obtain ⟨_, hlen, hcell⟩ := World.cells?_some g1
      obtain ⟨xs, kk, hk, hxy, _, hxl, hf⟩ := DataW.trod_struct Try.underlying48 g2
      match xs, hxl, cs', hlen with
      | [y0, y1, y2, y3], _, [v0, v1, v2, v3], _ =>
        have f0 := hf 0 _ rfl
        have f1 := hf 1 _ rfl
        have f2 := hf 2 _ rfl
        have f3 := hf 3 _ rfl
        simp [hc3, hc32] at f0 f1 f2 f3
        obtain ⟨k, e0, _, w0⟩ := DataW.trod_int Try.underlying3 f0
        obtain ⟨b, e1, _, w1⟩ := DataW.trod_int Try.underlying3 f1
        obtain ⟨t, e2, _, w2⟩ := DataW.trod_int Try.underlying3 f2
        obtain ⟨ao, tn, tc, tb, rfl, ht1, ht2, ht3, ht4⟩ := open_text f3
        simp at e0 e1 e2
        subst e0 e1 e2
        have e0 := hcell 0 (by omega)
        have e1 := hcell 1 (by omega)
        have e2 := hcell 2 (by omega)
        have e3 := hcell 3 (by omega)
        rw [add_add] at e0 e1 e2 e3
        have c1 := cell_lt e1
        have c0 := cell_lt e0
        have hsp : a.spot = none := by
          obtain ⟨cs0, g0, _⟩ := h7 0 (by omega)
          rw [hc48] at g0
          obtain ⟨_, hl0, hc0⟩ := World.cells?_some g0
          have h00 := hc0 0 (by omega)
          rw [List.getElem?_eq_getElem (by omega)] at h00
          have := (cell_lt h00).2
          simpa [Addr.add] using this
        have hadd : ∀ j, a.add j = ⟨a.block, a.off + j, none⟩ := fun j => by
          unfold Addr.add
          split
          · subst j; cases a; simp_all
          · rfl
        rw [hadd] at e0 e1 e2 e3 c0
        refine ⟨⟨k, b, t, ao, tn, tc, tb⟩, hsp, c0.1, by simpa using e0, by simpa [Nat.add_assoc] using e1, by simpa [Nat.add_assoc] using e2, by simpa [Nat.add_assoc] using e3, ht1, ht2, ht3, w0, w1, w2, ht4⟩
    obtain ⟨O, hO⟩ := choose_lt each
    refine ⟨some a, len, cap, (List.range len).map O, rfl, by simp, h3, h4, fun e => (by cases e), fun a' e j o ho => ?_⟩
    cases e
    have hj : j < len := by have := (List.getElem?_eq_some_iff.1 ho).1; simpa using this
    have : o = O j := by simp [List.getElem?_range hj] at ho; exact ho.symm
    subst this
    exact hO j hj

set_option maxRecDepth 100000 in
theorem open_case {r : Reach} {b0 : Nat} {v : Value} {d : DataW H} {ps : List MemPlace} (hv : Value.okWide Try.prog w r b0 41 v) (h : DataW.Trod enc Try.prog w 0 (fun _ => true) true 41 v d ps) :
    ∃ (S B L : Int) (p : Option Addr) (n cap : Nat) (ops : List OpD), v = zAgg S B L (.slice p n cap) ∧ ops.length = n ∧ n ≤ cap ∧ cap ≤ maxLen ∧ OpsAt w p ops ∧ (Lit.int .i64 S).wf = true ∧ (Lit.int .i64 B).wf = true ∧ (Lit.int .i64 L).wf = true := by
  obtain ⟨v0, v1, v2, v3, y0, y1, y2, y3, n, rfl, _, _, h0, h1, h2, h3⟩ := open_agg4 Try.underlying41 (by kernel_rfl) (by kernel_rfl) hv h
  obtain ⟨S, e0, _, w0⟩ := DataW.trod_int Try.underlying3 h0
  obtain ⟨B, e1, _, w1⟩ := DataW.trod_int Try.underlying3 h1
  obtain ⟨L, e2, _, w2⟩ := DataW.trod_int Try.underlying3 h2
  obtain ⟨p, n, cap, ops, rfl, ho1, ho2, ho3, ho4⟩ := open_ops h3
  cases e0; cases e1; cases e2
  exact ⟨S, B, L, p, n, cap, ops, rfl, ho1, ho2, ho3, ho4, w0, w1, w2⟩
end

/-- Put, at whatever is handed in. -/
def PutAny (w : World) (β : BI) (s : BS) (b t : Int) (n : Nat) (tb : List Int) (e : Ending) (w' : World) : Prop :=
  (putCode s b n t ≠ 0 ∧ ErrPost w (putCode s b n t) e w') ∨ (putCode s b n t = 0 ∧ ∃ b' : Nat, b = b' ∧ PutPost w β s b' tb t e w')
theorem putCode_pos {s : BS} {b t : Int} {n : Nat} (h : putCode s b n t = 0) (hS : s.S ≤ 16384) (hB : 1 ≤ s.B) : 0 < n := by
  unfold putCode at h
  split at h
  · cases h
  split at h
  · cases h
  split at h
  · cases h
  rename_i h1 h2 h3
  have h4 := (nblk_bound hS hB).2 b.toNat (by omega)
  unfold BS.to at h3
  rw [Nat.add_mul] at h3
  omega
theorem put_any (β : BI) (s : BS) (b t : Int) (ao : Option Addr) (n cap : Nat) (tb : List Int) (w : World) (hb : BuildAt w β s) (hn : n ≤ 9223372036854775807) (htx : TextAt w ao n tb) (hap : ∀ ad, ao = some ad → 0 < n → ¬ β.foot ad.block) (hg : s.G.length ≤ 100000) :
    Calls Try.prog 18 #[.pointer (some ⟨β.b, 0, none⟩), .int .i64 b, .slice ao n cap, .int .i64 t] w (PutAny w β s b t n tb) := by
  by_cases hc : putCode s b n t = 0
  · have hpos := putCode_pos hc hb.plan.s hb.plan.b.1
    cases ao with
    | none => have := htx.nil rfl; omega
    | some ad =>
      obtain ⟨b', e, h⟩ := put_ok β s b t ad n cap tb w hb htx (hap ad rfl hpos) hg hc
      exact h.mono fun e' w' hp => .inr ⟨hc, b', e, hp⟩
  · exact (put_err β s b t ao n cap w hb hn hc).mono fun e' w' hp => .inl ⟨hc, hp⟩
theorem TextAt.lt {w : World} {ad : Addr} {n : Nat} {tb : List Int} (h : TextAt w (some ad) n tb) (hn : 0 < n) : ad.block < w.heap.size := by
  obtain ⟨v, hv⟩ : ∃ v, tb[0]? = some v := ⟨_, List.getElem?_eq_getElem (by have := h.len; omega)⟩
  have := (cell_lt (h.cells ad rfl 0 v hv)).1
  simpa [Addr.add] using this
end Go.Proofs.Ytjklcecakdmbaaa
