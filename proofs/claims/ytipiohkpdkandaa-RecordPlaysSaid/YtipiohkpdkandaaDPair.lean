/-
  Two dictionaries and the reference's two, held by one object: words. Conditions: none.
-/
import Derived.Test.YtipiohkpdkandaaTold
namespace Go.Proofs.Ytipiohkpdkandaa
set_option linter.unusedVariables false
set_option linter.unusedSimpArgs false
open Go.RowKit

def ptr (p : Nat) : Value := .pointer (some ⟨p, 0, none⟩)
/-- A dictionary and the reference's, alike. -/
def PairAt (w : World) (p x : Nat) (d : DD) (N : Int) (S : Nat → Prop) : Prop := ∃ S1 S2, DictAt w p d S1 ∧ RefAt w x d N S2 ∧ (∀ b, S1 b → ¬ S2 b) ∧ ∀ b, S b ↔ S1 b ∨ S2 b
section
variable {w w' : World} {p x : Nat} {d : DD} {N : Int} {S U : Nat → Prop}
theorem PairAt.kept (h : PairAt w p x d N S) (hu : Upd w w' U) (hn : ∀ b, S b → ¬ U b) : PairAt w' p x d N S := by
  obtain ⟨S1, S2, h1, h2, h3, h4⟩ := h
  exact ⟨S1, S2, h1.kept hu (fun b hb => hn b ((h4 b).2 (.inl hb))), h2.kept hu (fun b hb => hn b ((h4 b).2 (.inr hb))), h3, h4⟩
theorem PairAt.lt (h : PairAt w p x d N S) {b : Nat} (hb : S b) : b < w.heap.size := by
  obtain ⟨S1, S2, h1, h2, h3, h4⟩ := h
  rcases (h4 b).1 hb with hb | hb
  · exact h1.lt hb
  · exact h2.lt hb
theorem PairAt.inv (h : PairAt w p x d N S) : DInv d := by obtain ⟨S1, S2, h1, _⟩ := h; exact h1.inv
theorem PairAt.more {M : Int} (h : PairAt w p x d N S) (hm : N ≤ M) : PairAt w p x d M S := by
  obtain ⟨S1, S2, h1, h2, h3, h4⟩ := h
  exact ⟨S1, S2, h1, h2.more hm, h3, h4⟩
theorem PairAt.below (h : PairAt w p x d N S) (hb : Below w.heap.size w w') : PairAt w' p x d N S := h.kept (Upd.of_below hb) (fun b hs => by have := h.lt hs; omega)
end
/-- the object: the side that 'at' names, and the other one -/
def sides (a p q x y : Nat) (v : Int) : Array Value := if a = 0 then #[ptr p, ptr q, ptr x, ptr y, .int .i64 v] else #[ptr q, ptr p, ptr y, ptr x, .int .i64 v]
structure Two (B : Nat) (W w : World) (o : Nat) (N : Int) (a p x : Nat) (d : DD) (S : Nat → Prop) (q y : Nat) (e : DD) (T : Nat → Prop) : Prop where
  head : w.heap[o]? = some (.cells (sides a p q x y a) 69 (0, 0))
  one : PairAt w p x d N S
  two : PairAt w q y e N T
  s : ∀ b, S b → B ≤ b ∧ b ≠ o ∧ ¬ T b
  t : ∀ b, T b → B ≤ b ∧ b ≠ o
  lo : B ≤ o
  bel : Below B W w
def Plays (B : Nat) (W w : World) (o : Nat) (N : Int) : Prop := ∃ a p x d S q y e T, a < 2 ∧ Two B W w o N a p x d S q y e T
section
variable {B : Nat} {W w w' : World} {o : Nat} {N : Int} {a p x : Nat} {d : DD} {S : Nat → Prop} {q y : Nat} {e : DD} {T : Nat → Prop}
theorem Two.olt (h : Two B W w o N a p x d S q y e T) : o < w.heap.size := (Array.getElem?_eq_some_iff.1 h.head).1
theorem Two.step (h : Two B W w o N a p x d S q y e T) {N' : Int} {d' : DD} {S' : Nat → Prop} (hp : PairAt w' p x d' N' S') (hu : Upd w w' S) (hn : ∀ b, S' b → S b ∨ w.heap.size ≤ b) (hN : N ≤ N') (hB : B ≤ W.heap.size) :
    Two B W w' o N' a p x d' S' q y e T := by
  have hs := h.bel.size
  have hol := h.olt
  refine ⟨(hu.block o hol (fun hS => (h.s o hS).2.1 rfl)).trans h.head, hp, (h.two.kept hu (fun b hb hS => (h.s b hS).2.2 hb)).more hN, ?_, h.t, h.lo, h.bel.trans (hu.below (by omega) (fun b _ hb => (h.s b hb).1))⟩
  intro b hb
  rcases hn b hb with hh | hh
  · exact h.s b hh
  · exact ⟨by omega, by omega, fun ht => by have := h.two.lt ht; omega⟩
theorem Two.below (h : Two B W w o N a p x d S q y e T) (hb : Below w.heap.size w w') (hB : B ≤ W.heap.size) : Two B W w' o N a p x d S q y e T := by
  have hs := h.bel.size
  exact ⟨(hb.block o h.olt).trans h.head, h.one.below hb, h.two.below hb, h.s, h.t, h.lo, h.bel.trans (hb.mono (by omega))⟩
theorem Two.drewN (h : Two B W w o N a p x d S q y e T) (n : Nat) (hB : B ≤ W.heap.size) : Two B W (w.drewN n) o N a p x d S q y e T := h.below (below_drewN (Below.refl _ _) n) hB
theorem Two.swap (h : Two B W w o N a p x d S q y e T) : ∀ b, T b → B ≤ b ∧ b ≠ o ∧ ¬ S b := fun b hb => ⟨(h.t b hb).1, (h.t b hb).2, fun hs => (h.s b hs).2.2 hb⟩
theorem Two.plays (h : Two B W w o N a p x d S q y e T) (ha : a < 2) : Plays B W w o N := ⟨a, p, x, d, S, q, y, e, T, ha, h⟩
theorem Two.more {M : Int} (h : Two B W w o N a p x d S q y e T) (hm : N ≤ M) : Two B W w o M a p x d S q y e T := ⟨h.head, h.one.more hm, h.two.more hm, h.s, h.t, h.lo, h.bel⟩
theorem Two.cell (h : Two B W w o N a p x d S q y e T) (i : Nat) : w.cell? ⟨o, i, none⟩ = (sides a p q x y a)[i]? := by simp [World.cell?, h.head]
theorem Two.free (h : Two B W w o N a p x d S q y e T) (i : Nat) : w.frozen? ⟨o, i, none⟩ = false := by simp [World.frozen?, h.head]
end
theorem cells_set5 {w : World} {b i : Nat} {cs : Array Value} {t : TypeId} (v : Value) (h : w.heap[b]? = some (.cells cs t (0, 0))) : (w.setCell ⟨b, i, none⟩ v).heap[b]? = some (.cells (cs.setIfInBounds i v) t (0, 0)) := by
  simp [World.setCell, Array.getElem?_modify, h]
section
variable {B : Nat} {W w w' : World} {o : Nat} {N : Int} {a p x : Nat} {d : DD} {S : Nat → Prop} {q y : Nat} {e : DD} {T : Nat → Prop}
theorem setCell_upd (w : World) (o i : Nat) (v : Value) : Upd w (w.setCell ⟨o, i, none⟩ v) (fun b => b = o) := (Upd.refl w (fun b => b = o)).setCell (a := ⟨o, i, none⟩) (fun _ => rfl) v
/-- 'at' is turned. -/
theorem Two.setAt (h : Two B W w o N a p x d S q y e T) (ha : a < 2) {a' : Nat} (ha' : a' < 2) (hB : B ≤ W.heap.size) :
    ∃ p' x' d' S' q' y' e' T', Two B W (w.setCell ⟨o, 4, none⟩ (.int .i64 a')) o N a' p' x' d' S' q' y' e' T' := by
  have hu := setCell_upd w o 4 (.int .i64 (a' : Int))
  have hh := cells_set5 (i := 4) (.int .i64 (a' : Int)) h.head
  have h1 := h.one.kept hu (fun b hb e => (h.s b hb).2.1 e)
  have h2 := h.two.kept hu (fun b hb e => (h.t b hb).2 e)
  have hb := h.bel.trans (hu.below (by have := h.bel.size; omega) (fun b _ e => by subst e; exact h.lo))
  by_cases e1 : a' = a
  · subst e1
    refine ⟨p, x, d, S, q, y, e, T, ?_, h1, h2, h.s, h.t, h.lo, hb⟩
    rw [hh]
    unfold sides
    split <;> rfl
  · refine ⟨q, y, e, T, p, x, d, S, ?_, h2, h1, h.swap, fun b hb => ⟨(h.s b hb).1, (h.s b hb).2.1⟩, h.lo, hb⟩
    rw [hh]
    unfold sides
    by_cases e2 : a = 0
    · rw [if_pos e2, if_neg (by omega)]; rfl
    · rw [if_neg e2, if_pos (by omega)]; rfl
/-- The other side has become a clone. -/
theorem Two.cloned (h : Two B W w o N a p x d S q y e T) (ha : a < 2) (hB : B ≤ W.heap.size) {w1 w2 : World} {pn xn : Nat} (hb1 : Below w.heap.size w w1) (hd : DictNew w d pn w1)
    (hr : RefNew (w1.setCell ⟨o, 1 - a, none⟩ (ptr pn)) d N xn w2) : Plays B W (w2.setCell ⟨o, 2 + (1 - a), none⟩ (ptr xn)) o N := by
  obtain ⟨S3, d1, d2, d3⟩ := hd
  obtain ⟨S4, r1, r2, r3⟩ := hr
  have hs := h.bel.size
  have hs1 := hb1.size
  have ho := h.olt
  have hu1 := setCell_upd w1 o (1 - a) (ptr pn)
  have hu2 := setCell_upd w2 o (2 + (1 - a)) (ptr xn)
  have hs2 : w1.heap.size ≤ w2.heap.size := by have := r3.size; simpa [World.setCell] using this
  have hw1s : (w1.setCell ⟨o, 1 - a, none⟩ (ptr pn)).heap.size = w1.heap.size := by simp [World.setCell]
  -- the head
  have e1 : w1.heap[o]? = some (.cells (sides a p q x y a) 69 (0, 0)) := (hb1.block o ho).trans h.head
  have e2 := cells_set5 (i := 1 - a) (ptr pn) e1
  have e3 := (r3.block o (by rw [hw1s]; omega)).trans e2
  have e4 := cells_set5 (i := 2 + (1 - a)) (ptr xn) e3
  -- the one side
  have p1 : PairAt w1 p x d N S := h.one.below hb1
  have p2 := p1.kept hu1 (fun b hb e => (h.s b hb).2.1 e)
  have p3 := p2.below r3
  have p4 := p3.kept hu2 (fun b hb e => (h.s b hb).2.1 e)
  -- the clone
  have no3 : ∀ b, S3 b → b ≠ o := fun b hb e => by have := d2 b hb; omega
  have no4 : ∀ b, S4 b → b ≠ o := fun b hb e => by have := r2 b hb; rw [hw1s] at this; omega
  have q2 := d1.kept hu1 no3
  have q3 := q2.kept (Upd.of_below r3) (fun b hb => by have := d1.lt hb; rw [hw1s]; omega)
  have q4 := q3.kept hu2 no3
  have s4 := r1.kept hu2 no4
  have hbw : Below B W (w2.setCell ⟨o, 2 + (1 - a), none⟩ (ptr xn)) := by
    have t1 : Below B W w1 := h.bel.trans (hb1.mono (by omega))
    have t2 := t1.trans (hu1.below (by omega) (fun b _ e => by subst e; exact h.lo))
    have t3 := t2.trans (r3.mono (by rw [hw1s]; omega))
    exact t3.trans (hu2.below (by omega) (fun b _ e => by subst e; exact h.lo))
  refine ⟨a, p, x, d, S, pn, xn, d, (fun b => S3 b ∨ S4 b), ha, ?_, p4, ⟨S3, S4, q4, s4, fun b h3 h4 => ?_, fun b => Iff.rfl⟩, ?_, ?_, h.lo, hbw⟩
  · rw [e4]
    unfold sides
    by_cases e : a = 0
    · subst e; rfl
    · obtain rfl : a = 1 := by omega
      rfl
  · have := d1.lt h3
    have := r2 b h4
    rw [hw1s] at this
    omega
  · intro b hb
    refine ⟨(h.s b hb).1, (h.s b hb).2.1, ?_⟩
    have hl := h.one.lt hb
    rintro (h3 | h4)
    · have := d2 b h3; omega
    · have := r2 b h4; rw [hw1s] at this; omega
  · rintro b (h3 | h4)
    · exact ⟨by have := d2 b h3; omega, no3 b h3⟩
    · exact ⟨by have := r2 b h4; rw [hw1s] at this; omega, no4 b h4⟩
end

/-- an op -/
structure DOp where
  on : Int
  act : Int
  key : ByteArray
  slot : Int
def DOp.cells (r : DOp) : List Value := [.int .i64 r.on, .int .i64 r.act, .string r.key, .int .i64 r.slot]
def DOp.val (r : DOp) : Value := .agg #[.int .i64 r.on, .int .i64 r.act, .string r.key, .int .i64 r.slot]
theorem and_one (x : Int) : ∃ a : Nat, a < 2 ∧ bits .and .i64 x 1 = (a : Int) := by
  refine ⟨(BitVec.ofInt 64 x).toNat % 2, Nat.mod_lt _ (by decide), ?_⟩
  show IntKind.i64.wrap ((BitVec.ofInt 64 x &&& BitVec.ofInt 64 1).toNat : Int) = _
  rw [BitVec.toNat_and, show (BitVec.ofInt 64 1).toNat = 1 by decide, Nat.and_one_is_mod]
  exact IntWalk.i64_in _ (by omega)
end Go.Proofs.Ytipiohkpdkandaa
