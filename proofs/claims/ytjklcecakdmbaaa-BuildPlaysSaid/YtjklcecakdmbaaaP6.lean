/-
  The law BuildPlays: a build and the reference's state, at some point of a case's calls.
-/
import Derived.Test.YtjklcecakdmbaaaP5
import Derived.Test.YtjklcecakdmbaaaC4
import Derived.Deep.RegionWith
namespace Go.Proofs.Ytjklcecakdmbaaa
open Go.RowKit

/-- The reference's Put, at whatever is handed in. -/
def RefAny (w : World) (S B L : Nat) (ov : Bool) (F : Nat → Int) (b t : Int) (n : Nat) (tb : List Int) (e : Ending) (w' : World) : Prop :=
  ∃ rv' F', e = .returned (.tuple #[sAgg S B L rv' ov, .int .i64 (refCode S B ov F b n t)]) ∧ w'.ownsRow 0 3 1 rv' S (nrow S F') ∧ Below w.heap.size w w' ∧
    ((refCode S B ov F b n t ≠ 0 ∧ F' = F) ∨ (refCode S B ov F b n t = 0 ∧ ∃ b' : Nat, b = b' ∧ b' < nblk S B ∧ n = min (b' * B + B) S - b' * B ∧ F' = newF S B b' tb F))
theorem refPut_any (S B L : Nat) (rv : Value) (ov : Bool) (F : Nat → Int) (b t : Int) (ao : Option Addr) (n cap : Nat) (tb : List Int) (w : World) (hS : S ≤ 400) (hB1 : 1 ≤ B) (hB2 : B ≤ 64) (hrow : w.ownsRow 0 3 1 rv S (nrow S F)) (htx : TextAt w ao n tb) (ht8 : ∀ x ∈ tb, 0 ≤ x ∧ x ≤ 255) (hn : n ≤ 9223372036854775807) :
    Calls Try.prog 60 #[sAgg S B L rv ov, .int .i64 b, .slice ao n cap, .int .i64 t] w (RefAny w S B L ov F b t n tb) := by
  by_cases hc : refCode S B ov F b n t = 0
  · obtain ⟨rfl, b', rfl, h1, h2, h3, h4, h5⟩ := ref_code0 hc
    refine (refPut_ok S B L rv F b' t ao n cap tb w hS hB1 hB2 hrow htx ht8 h1 h2 h3 h4 h5).mono ?_
    rintro e w' ⟨rv', rfl, ho, hb⟩
    exact ⟨rv', _, by rw [hc], ownsRow_base ho (Nat.zero_le _), hb, .inr ⟨hc, b', rfl, h1, h4, rfl⟩⟩
  · refine (refPut_err S B L rv ov F b t ao n cap w hS hB1 hB2 hrow hn hc).mono ?_
    rintro e w' ⟨rfl, hb⟩
    exact ⟨rv, F, rfl, own_below hrow hb, hb, .inl ⟨hc, rfl⟩⟩

theorem BuildAt.foot_ne {w : World} {β : BI} {s : BS} (h : BuildAt w β s) {k : Nat} {t : TypeId} (hk : tyAt w k t) (ht : t ≠ 105 ∧ t ≠ 131 ∧ t ≠ 58 ∧ t ≠ 5 ∧ t ≠ 51) : ¬ β.foot k := by
  rintro (e | e | e | e | e)
  · exact hk.ne ⟨_, h.blk⟩ ht.1 e
  · exact hk.ne ⟨_, h.set.blk⟩ ht.2.1 e
  · exact hk.ne (own_ty h.set.own e) ht.2.2.1 rfl
  · exact hk.ne (own_ty h.txt e) ht.2.2.2.1 rfl
  · exact hk.ne (own_ty h.log e) ht.2.2.2.2 rfl

/-- Both, at some point of a case's calls. -/
structure Pl (w0 wr : World) (b : Nat) (β : BI) (s : BS) (S B L j : Nat) (rv : Value) (F : Nat → Int) : Prop where
  at_ : BuildAt wr β s
  row : wr.ownsRow 0 3 1 rv S (nrow S F)
  tie : Tie s F
  foot : ∀ k, β.foot k → w0.heap.size ≤ k
  below : Below w0.heap.size w0 wr
  b : β.b = b
  S : s.S = S
  B : s.B = B
  L : s.L = L
  G : s.G.length ≤ j
section
variable {w0 wr w' : World} {b : Nat} {β : BI} {s : BS} {S B L j : Nat} {rv : Value} {F : Nat → Int}
theorem Pl.quiet (h : Pl w0 wr b β s S B L j rv F) (hb : Below wr.heap.size wr w') : Pl w0 w' b β s S B L j rv F :=
  ⟨h.at_.below hb, own_below h.row hb, h.tie, h.foot, h.below.trans (hb.mono h.below.size), h.b, h.S, h.B, h.L, h.G⟩
theorem Pl.more (h : Pl w0 wr b β s S B L j rv F) {j' : Nat} (hj : j ≤ j') : Pl w0 wr b β s S B L j' rv F := ⟨h.at_, h.row, h.tie, h.foot, h.below, h.b, h.S, h.B, h.L, by have := h.G; omega⟩
theorem Pl.kept {T : Nat → Prop} (h : Pl w0 wr b β s S B L j rv F) (hk : Keeps T wr w') (hT : ∀ k, T k → w0.heap.size ≤ k ∧ ∃ t, tyAt wr k t ∧ (t = 65 ∨ t = 48)) : Pl w0 w' b β s S B L j rv F := by
  have hne : ∀ k t', T k → tyAt wr k t' → t' ≠ 65 → t' ≠ 48 → False := fun k t' hk ht h1 h2 => by
    obtain ⟨_, t, ht2, e⟩ := hT k hk
    refine ht2.ne ht ?_ rfl
    rcases e with rfl | rfl
    · exact fun e => h1 e.symm
    · exact fun e => h2 e.symm
  refine ⟨h.at_.keeps hk (fun k hf ht => ?_) (fun ht => hne _ _ ht ⟨_, h.at_.plan.blk⟩ (by decide) (by decide)), ownsRow_keeps h.row hk (fun k e ht => hne k 3 ht (own_ty h.row e) (by decide) (by decide)), h.tie, h.foot, h.below.trans (hk.below h.below.size fun i hi e => by have := (hT i e).1; omega), h.b, h.S, h.B, h.L, h.G⟩
  obtain ⟨_, t, ht2, e⟩ := hT k ht
  refine h.at_.foot_ne ht2 ?_ hf
  rcases e with rfl | rfl <;> decide
/-- A Put of both. -/
theorem Pl.put {bl t : Int} {n : Nat} {tb : List Int} {rv' : Value} {F' : Nat → Int} {e : Ending} (h : Pl w0 wr b β s S B L j rv F) (hS : S ≤ 400) (hB : 1 ≤ B) (hp : PutAny wr β s bl t n tb e w') (htb : tb.length = n) (ht8 : ∀ x ∈ tb, 0 ≤ x ∧ x ≤ 255) (hrow : wr.ownsRow 0 3 1 rv' S (nrow S F'))
    (hc : (refCode S B s.over F bl n t ≠ 0 ∧ F' = F) ∨ (refCode S B s.over F bl n t = 0 ∧ ∃ b' : Nat, bl = b' ∧ b' < nblk S B ∧ n = min (b' * B + B) S - b' * B ∧ F' = newF S B b' tb F)) :
    ∃ β' s', e = .returned (.int .i64 (refCode S B s.over F bl n t)) ∧ s'.over = s.over ∧ Pl w0 w' b β' s' S B L (j + 1) rv' F' ∧ Keeps β.foot wr w' := by
  have hcode := h.tie.code (by rw [h.S]; exact hS) (by rw [h.B]; exact hB) bl n t
  rw [h.S, h.B] at hcode
  have hrf : ∀ k, rv'.ownBlock = some k → ¬ β.foot k := fun k e => h.at_.foot_ne (own_ty hrow e) (by decide)
  rcases hp with ⟨hne, rfl, hbel⟩ | ⟨h0, b', rfl, β', l', rfl, hin, hb', hk, hbb, hf⟩
  · rw [hcode] at hne ⊢
    rcases hc with ⟨_, rfl⟩ | ⟨h0, _⟩
    · have h2 := (h.quiet hbel).more (Nat.le_succ j)
      exact ⟨β, s, rfl, rfl, ⟨h2.at_, own_below hrow hbel, h2.tie, h2.foot, h2.below, h2.b, h2.S, h2.B, h2.L, h2.G⟩, Keeps.of_below hbel⟩
    · exact absurd h0 hne
  · rw [hcode] at h0
    rcases hc with ⟨hne, _⟩ | ⟨_, b2, e2, hbn, hnn, rfl⟩
    · exact absurd h0 hne
    · obtain rfl : b' = b2 := by omega
      refine ⟨β', s.put b' tb t l', by rw [h0], rfl, ⟨hb', ownsRow_keeps hrow hk hrf, ?_, fun k e => (hf k e).elim (h.foot k) (fun e => Nat.le_trans h.below.size e), h.below.trans (hk.below h.below.size fun i hi e => ?_), by rw [hbb, h.b], h.S, h.B, h.L, ?_⟩, hk⟩
      · have h3 := h.tie.put (b := b') (tb := tb) (t := t) (l' := l') (by rw [h.S]; exact hS) (by rw [h.B]; exact hB) (by rw [h.S, h.B]; exact hbn) (by rw [h.S, h.B, htb]; exact hnn) ht8 hin
        rw [h.S, h.B] at h3
        exact h3
      · have := h.foot i e; omega
      · have := h.G; simp [BS.put]; omega
end
/-- What a step leaves. -/
def StepPost (w0 w : World) (b : Nat) (β : BI) (S B L j : Nat) (e : Ending) (w' : World) : Prop :=
  ∃ β' s' rv' F', e = .returned (.tuple #[sAgg S B L rv' s'.over, .bool true]) ∧ Pl w0 w' b β' s' S B L (j + 1) rv' F' ∧ Keeps β.foot w w'
end Go.Proofs.Ytjklcecakdmbaaa
