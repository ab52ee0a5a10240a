/-
  Package store: its calls, said of a store that lies above what a law was handed; awake.
-/
import Derived.Test.YtjklcecakdmbaaaT11
namespace Go.Proofs.Ytjklcecakdmbaaa
open Go.RowKit

/-- A store that was made since w. -/
def Own25 (w W : World) (b : Nat) (s : SS) (nb : Nat) : Prop :=
  ∃ σ : SI, σ.b = b ∧ StoAt W σ s nb ∧ SInv s ∧ (∀ k, σ.foot k → w.heap.size ≤ k) ∧ Below w.heap.size w W
theorem StoAt.not5 {w : World} {σ : SI} {s : SS} {nb : Nat} (h : StoAt w σ s nb) {d : Nat} {t : TypeId} (ht : tyAt w d t) (h89 : t ≠ 89) (h131 : t ≠ 131) (h3 : t ≠ 3) (h58 : t ≠ 58) : ¬ σ.foot d := by
  rintro (e | e | e | e | e | e)
  · exact ht.ne ⟨_, h.blk⟩ h89 e
  · subst e; exact map_no_ty h.map ht
  · exact ht.ne ⟨_, h.set.blk⟩ h131 e
  · subst e; exact imap_no_ty h.rep ht
  · exact ht.ne (own_ty h.ord e) h3 rfl
  · exact ht.ne (own_ty h.set.own e) h58 rfl
section
variable {w W : World} {b nb : Nat} {s : SS}
theorem Own25.below (h : Own25 w W b s nb) : Below w.heap.size w W := h.choose_spec.2.2.2.2
theorem Own25.next (h : Own25 w W b s nb) {W' : World} (hb : Below W.heap.size W W') : Own25 w W' b s nb := by
  obtain ⟨σ, h1, h2, h3, h4, h5⟩ := h
  exact ⟨σ, h1, h2.below hb, h3, h4, h5.trans (hb.mono h5.size)⟩
theorem own_new (room hold : Int) (W : World) (hr : 1 ≤ room ∧ room ≤ 16384 ∧ 0 ≤ hold ∧ hold ≤ 65536) (hbw : Below w.heap.size w W) :
    Calls Try.prog 10 #[.int .i64 room, .int .i64 hold] W fun e W' => ∃ b, e = .returned (.tuple #[.pointer (some ⟨b, 0, none⟩), .int .i64 0]) ∧ Own25 w W' b (SS.init room hold) 0 := by
  refine (new25_yes room hold W hr).mono ?_
  rintro e W' ⟨σ, rfl, h1, h2, h3⟩
  exact ⟨σ.b, rfl, σ, rfl, h1, SInv.init hr, fun k hk => Nat.le_trans hbw.size (h3 k hk), hbw.trans (h2.mono hbw.size)⟩
theorem own_put (h : Own25 w W b s nb) (hnb : nb ≤ 100000) {x : Int} (hx : 0 ≤ x ∧ x < 16384) {tg n cap : Nat} {tb : List Int} (hn : 1 ≤ n ∧ n ≤ 64) (hl : tb.length = n) (h8 : ∀ x ∈ tb, 0 ≤ x ∧ x ≤ 255) (ht : tyAt W tg 5) (hc : ∀ j v, tb[j]? = some v → W.cell? ⟨tg, j, none⟩ = some (.int .u8 v)) :
    Calls Try.prog 11 #[.pointer (some ⟨b, 0, none⟩), .int .i64 x, .slice (some ⟨tg, 0, none⟩) n cap] W fun e W' => e = .returned (.tuple #[.int .i64 (s.put x tb).2, .int .i64 0]) ∧ Own25 w W' b (s.put x tb).1 (nb + 1) := by
  obtain ⟨σ, rfl, h2, h3, h4, h5⟩ := h
  refine (put25_ok σ s nb x tg 0 n cap tb W h2 h3 hnb hx hn hl ht.lt (h2.not5 ht (by decide) (by decide) (by decide) (by decide)) (fun j v hj => by rw [Nat.zero_add]; exact hc j v hj)).mono ?_
  rintro e W' ⟨σ', rfl, g1, g2, g3, g4, g5⟩
  refine ⟨rfl, σ', g3, g1, h3.put hx (by omega) h8, fun k hk => ?_, h5.trans (g2.below h5.size fun i hi e => ?_)⟩
  · rcases g5 k hk with e | e
    · exact h4 k e
    · exact Nat.le_trans h5.size e
  · have := h4 i e; omega
theorem own_ask (h : Own25 w W b s nb) (now : Int) (p : Option Addr) (n cap : Nat) (L : List (Int × Int)) (hp : PairsAt W p n L) (hn : n ≤ 100000) (ht : 0 ≤ now ∧ now ≤ 1099511627776) :
    Calls Try.prog 12 #[.pointer (some ⟨b, 0, none⟩), .slice p n cap, .int .i64 now] W fun e W' => ∃ l', e = .returned (.tuple #[.int .i64 ((cntN fun x => hasL L x && (mayTake s now x && !hasB s.l x) : Nat) : Int), .int .i64 ((cntN fun x => hasL L x && !(s.txt x).isSome : Nat) : Int)]) ∧ Own25 w W' b { s with l := l' } nb ∧ (∀ n, inS l' n ↔ inS s.l n ∨ (inL L n ∧ mayTake s now n = true)) := by
  obtain ⟨σ, rfl, h2, h3, h4, h5⟩ := h
  refine (ask_ok σ s nb now p n cap L W h2 h3 hp hn ht).mono ?_
  rintro e W' ⟨v', l', rfl, g1, g2, g3, g4⟩
  have h6 : ∀ k, σ.av.ownBlock = some k → w.heap.size ≤ k := fun k hk => h4 k (.inr (.inr (.inr (.inr (.inr hk)))))
  refine ⟨l', rfl, ⟨{ σ with av := v' }, rfl, g1, h3.setl l', fun k hk => ?_, h5.trans (g3.below h5.size fun i hi e => ?_)⟩, g2⟩
  · rcases hk with e | e | e | e | e | e
    · exact h4 k (.inl e)
    · exact h4 k (.inr (.inl e))
    · exact h4 k (.inr (.inr (.inl e)))
    · exact h4 k (.inr (.inr (.inr (.inl e))))
    · exact h4 k (.inr (.inr (.inr (.inr (.inl e)))))
    · rcases g4 with g | g
      · exact h6 k (by rw [← g]; exact e)
      · exact Nat.le_trans h5.size (g k e)
  · rcases e with e | e
    · have := h4 i (.inr (.inr (.inl e))); omega
    · have := h6 i e; omega
theorem SInv.setn {s : SS} (h : SInv s) {now : Int} (hn : 0 ≤ now ∧ now ≤ 1099511627776) (l' : List (Int × Int)) {rp' : Int → Option Int} (hr : rp' = s.rp ∨ ∃ x, rp' = upd s.rp x (some now)) : SInv { s with l := l', rp := rp' } := by
  refine ⟨h.dom, h.nodup, h.bd, h.len, h.room, h.hold, h.byte, fun k v hk => ?_⟩
  rcases hr with rfl | ⟨x, rfl⟩
  · exact h.rbd k v hk
  · have hk : upd s.rp x (some now) k = some v := hk
    unfold upd at hk
    split at hk
    · cases hk; exact hn
    · exact h.rbd k v hk
theorem own_next (h : Own25 w W b s nb) (now : Int) (ht : 0 ≤ now ∧ now ≤ 1099511627776) (hnb : nb < 900000) :
    Calls Try.prog 13 #[.pointer (some ⟨b, 0, none⟩), .int .i64 now] W fun e W' => ∃ l' rp', Own25 w W' b { s with l := l', rp := rp' } (nb + 1) ∧
      ((e = .returned (.tuple #[.int .i64 0, .slice none 0 0, .bool false]) ∧ rp' = s.rp ∧ (∀ n, ¬ inS l' n) ∧ (∀ n, inS s.l n → s.txt n = none)) ∨
      ∃ x tx v', e = .returned (.tuple #[.int .i64 x, v', .bool true]) ∧ inS s.l x ∧ s.txt x = some tx ∧ W'.ownsRow w.heap.size 5 1 v' tx.length (tx.map (Value.int .u8)) ∧ (∀ n, inS s.l n → n < x → s.txt n = none) ∧ rp' = upd s.rp x (some now) ∧ (∀ n, inS l' n ↔ inS s.l n ∧ x < n)) := by
  obtain ⟨σ, rfl, h2, h3, h4, h5⟩ := h
  refine (next_any σ s nb now W h2 h3 ht hnb).mono ?_
  rintro e W' ⟨v', l', rp', g1, g2, g3, g4⟩
  have h6 : ∀ k, σ.av.ownBlock = some k → w.heap.size ≤ k := fun k hk => h4 k (.inr (.inr (.inr (.inr (.inr hk)))))
  have hrp : rp' = s.rp ∨ ∃ x, rp' = upd s.rp x (some now) := by
    rcases g4 with ⟨_, g, _⟩ | ⟨x, _, _, _, _, _, _, _, g, _⟩
    · exact .inl g
    · exact .inr ⟨x, g⟩
  refine ⟨l', rp', ⟨{ σ with av := v' }, rfl, g1, h3.setn ht l' hrp, fun k hk => ?_, h5.trans (g2.below h5.size fun i hi e => ?_)⟩, ?_⟩
  · rcases hk with e | e | e | e | e | e
    · exact h4 k (.inl e)
    · exact h4 k (.inr (.inl e))
    · exact h4 k (.inr (.inr (.inl e)))
    · exact h4 k (.inr (.inr (.inr (.inl e))))
    · exact h4 k (.inr (.inr (.inr (.inr (.inl e)))))
    · rcases g3 with g | g
      · exact h6 k (by rw [← g]; exact e)
      · exact Nat.le_trans h5.size (g k e)
  · rcases e with e | e | e
    · have := h4 i (.inr (.inr (.inl e))); omega
    · have := h4 i (.inr (.inr (.inr (.inl e)))); omega
    · have := h6 i e; omega
  · rcases g4 with g | ⟨x, tx, v2, g5, g6, g7, g8, g9⟩
    · exact .inl g
    · exact .inr ⟨x, tx, v2, g5, g6, g7, ownsRow_base g8 h5.size, g9⟩
theorem own_asked (h : Own25 w W b s nb) : Calls Try.prog 14 #[.pointer (some ⟨b, 0, none⟩)] W fun e W' => e = .returned (.int .i64 (total s.l)) ∧ W = W' := by
  obtain ⟨σ, rfl, h2, h3, h4, h5⟩ := h
  exact asked_any σ s nb W h2
end

/-! ## Counting -/
theorem cntN_small {Q : Nat → Bool} {m : Nat} (hm : m ≤ 16384) (h : ∀ x, Q x = true → x < m) : cntN Q = (List.range m).countP Q := by
  obtain ⟨d, hd⟩ : ∃ d, 16384 = m + d := ⟨16384 - m, by omega⟩
  unfold cntN
  rw [hd]
  clear hd hm
  induction d with
  | zero => rfl
  | succ d ih =>
    rw [← Nat.add_assoc, List.range_succ, List.countP_append, ih, List.countP_singleton]
    cases hq : Q (m + d) with
    | false => rfl
    | true => have := h _ hq; omega
end Go.Proofs.Ytjklcecakdmbaaa
