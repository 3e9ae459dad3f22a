/-
  Two coders and the reference's two, held by one object: words. Conditions: none.
  Bytes read by both sides (reevelaw06.world.get): walk. Conditions: none.
  An op on both sides (reevelaw06.world.does), all but Put: walks. Conditions: none.
  Put on both sides (reevelaw06.world.does): walk. Conditions: none.
-/
import Derived.Test.YtipiohkpdkandaaRPlA
import Derived.Test.YtipiohkpdkandaaRecE
import Derived.Test.YtipiohkpdkandaaDPair
import Derived.Test.YtipiohkpdkandaaDDoes
import Derived.Deep.CutBlock
import Derived.Deep.RegionHeld3
import Derived.Test.YtipiohkpdkandaaRecBack
namespace Go.Proofs.Ytipiohkpdkandaa
set_option linter.unusedVariables false
set_option linter.unusedSimpArgs false
open Go.RowKit

/-- A coder and the reference's, alike. -/
def RPairAt (w : World) (p x : Nat) (c : CC) (N : Int) (S : Nat → Prop) : Prop := ∃ S1 S2, CoderAt w p c S1 ∧ RCoderAt w x c N S2 ∧ (∀ b, S1 b → ¬ S2 b) ∧ ∀ b, S b ↔ S1 b ∨ S2 b
section
variable {w w' : World} {p x : Nat} {c : CC} {N : Int} {S U : Nat → Prop}
theorem RPairAt.kept (h : RPairAt w p x c N S) (hu : Upd w w' U) (hn : ∀ b, S b → ¬ U b) : RPairAt w' p x c N S := by
  obtain ⟨S1, S2, h1, h2, h3, h4⟩ := h
  exact ⟨S1, S2, h1.kept hu (fun b hb => hn b ((h4 b).2 (.inl hb))), h2.kept hu (fun b hb => hn b ((h4 b).2 (.inr hb))), h3, h4⟩
theorem RPairAt.lt (h : RPairAt w p x c N S) {b : Nat} (hb : S b) : b < w.heap.size := by
  obtain ⟨S1, S2, h1, h2, h3, h4⟩ := h
  rcases (h4 b).1 hb with hb | hb
  · exact h1.lt hb
  · exact h2.lt hb
theorem RPairAt.inv (h : RPairAt w p x c N S) : CInv c := by obtain ⟨S1, S2, h1, _⟩ := h; exact h1.inv
theorem RPairAt.more {M : Int} (h : RPairAt w p x c N S) (hm : N ≤ M) : RPairAt w p x c M S := by
  obtain ⟨S1, S2, h1, h2, h3, h4⟩ := h
  exact ⟨S1, S2, h1, h2.more hm, h3, h4⟩
theorem RPairAt.below (h : RPairAt w p x c N S) (hb : Below w.heap.size w w') : RPairAt w' p x c N S := h.kept (Upd.of_below hb) (fun b hs => by have := h.lt hs; omega)
end
/-- the object: the side that 'at' names, and the other one -/
def rsides (a p q x y : Nat) (v : Value) : Array Value := if a = 0 then #[ptr p, ptr q, ptr x, ptr y, v] else #[ptr q, ptr p, ptr y, ptr x, v]
/-- what was put last -/
structure LastAt (w : World) (A : Option Addr) (n k : Nat) (l : List Int) (U : Nat → Prop) : Prop where
  row : Row w 5 A n k (nums .u8 l)
  bytes : Bytes l
  cap : n ≤ k
  max : n ≤ 4096
  own : ∀ g, blk A = some g → U g
structure RTwo (B : Nat) (W w : World) (o : Nat) (N : Int) (a p x : Nat) (c : CC) (S : Nat → Prop) (q y : Nat) (e : CC) (T : Nat → Prop) (A : Option Addr) (n k : Nat) (l : List Int) : Prop where
  head : w.heap[o]? = some (.cells (rsides a p q x y (.slice A n k)) 92 (0, 0))
  one : RPairAt w p x c N S
  two : RPairAt w q y e N T
  s : ∀ b, S b → B ≤ b ∧ b ≠ o ∧ ¬ T b
  t : ∀ b, T b → B ≤ b ∧ b ≠ o
  lo : B ≤ o
  bel : Below B W w
  last : LastAt w A n k l (fun g => B ≤ g ∧ g ≠ o ∧ ¬ S g ∧ ¬ T g)
def RPlays (B : Nat) (W w : World) (o : Nat) (N : Int) : Prop := ∃ a p x c S q y e T A n k l, a < 2 ∧ RTwo B W w o N a p x c S q y e T A n k l
section
variable {B : Nat} {W w w' : World} {o : Nat} {N : Int} {a p x : Nat} {c : CC} {S : Nat → Prop} {q y : Nat} {e : CC} {T : Nat → Prop} {A : Option Addr} {n k : Nat} {l : List Int}
theorem RTwo.olt (h : RTwo B W w o N a p x c S q y e T A n k l) : o < w.heap.size := (Array.getElem?_eq_some_iff.1 h.head).1
theorem LastAt.kept {U V U' : Nat → Prop} (h : LastAt w A n k l U) (hu : Upd w w' V) (hn : ∀ g, U g → ¬ V g) (hU : ∀ g, g < w.heap.size → U g → U' g) : LastAt w' A n k l U' :=
  ⟨h.row.kept hu (fun g hg => hn g (h.own g hg)), h.bytes, h.cap, h.max, fun g hg => hU g (h.row.lt hg) (h.own g hg)⟩
theorem RTwo.step (h : RTwo B W w o N a p x c S q y e T A n k l) {N' : Int} {c' : CC} {S' : Nat → Prop} (hp : RPairAt w' p x c' N' S') (hu : Upd w w' S) (hn : ∀ b, S' b → S b ∨ w.heap.size ≤ b) (hN : N ≤ N') (hB : B ≤ W.heap.size) :
    RTwo B W w' o N' a p x c' S' q y e T A n k l := by
  have hs := h.bel.size
  have hol := h.olt
  refine ⟨(hu.block o hol (fun hS => (h.s o hS).2.1 rfl)).trans h.head, hp, (h.two.kept hu (fun b hb hS => (h.s b hS).2.2 hb)).more hN, ?_, h.t, h.lo, h.bel.trans (hu.below (by omega) (fun b _ hb => (h.s b hb).1)), ?_⟩
  · intro b hb
    rcases hn b hb with hh | hh
    · exact h.s b hh
    · exact ⟨by omega, by omega, fun ht => by have := h.two.lt ht; omega⟩
  · refine h.last.kept hu (fun g hg => hg.2.2.1) (fun g hl hg => ⟨hg.1, hg.2.1, fun hh => ?_, hg.2.2.2⟩)
    rcases hn g hh with h1 | h1
    · exact hg.2.2.1 h1
    · omega
theorem RTwo.below (h : RTwo B W w o N a p x c S q y e T A n k l) (hb : Below w.heap.size w w') (hB : B ≤ W.heap.size) : RTwo B W w' o N a p x c S q y e T A n k l := by
  have hs := h.bel.size
  exact ⟨(hb.block o h.olt).trans h.head, h.one.below hb, h.two.below hb, h.s, h.t, h.lo, h.bel.trans (hb.mono (by omega)), ⟨h.last.row.block (fun g hg => hb.block g (h.last.row.lt hg)), h.last.bytes, h.last.cap, h.last.max, h.last.own⟩⟩
theorem RTwo.drewN (h : RTwo B W w o N a p x c S q y e T A n k l) (m : Nat) (hB : B ≤ W.heap.size) : RTwo B W (w.drewN m) o N a p x c S q y e T A n k l := h.below (below_drewN (Below.refl _ _) m) hB
theorem RTwo.plays (h : RTwo B W w o N a p x c S q y e T A n k l) (ha : a < 2) : RPlays B W w o N := ⟨a, p, x, c, S, q, y, e, T, A, n, k, l, ha, h⟩
theorem RTwo.more {M : Int} (h : RTwo B W w o N a p x c S q y e T A n k l) (hm : N ≤ M) : RTwo B W w o M a p x c S q y e T A n k l := ⟨h.head, h.one.more hm, h.two.more hm, h.s, h.t, h.lo, h.bel, h.last⟩
theorem RTwo.cell (h : RTwo B W w o N a p x c S q y e T A n k l) (i : Nat) : w.cell? ⟨o, i, none⟩ = (rsides a p q x y (.slice A n k))[i]? := by simp [World.cell?, h.head]
theorem RTwo.free (h : RTwo B W w o N a p x c S q y e T A n k l) (i : Nat) : w.frozen? ⟨o, i, none⟩ = false := by simp [World.frozen?, h.head]
/-- What lies outside may be written. -/
theorem RTwo.outer (h : RTwo B W w o N a p x c S q y e T A n k l) {V : Nat → Prop} (hu : Upd w w' V) (hv : ∀ b, V b → B ≤ b ∧ b ≠ o ∧ ¬ S b ∧ ¬ T b ∧ blk A ≠ some b) (hB : B ≤ W.heap.size) : RTwo B W w' o N a p x c S q y e T A n k l := by
  have hs := h.bel.size
  refine ⟨(hu.block o h.olt (fun hh => (hv o hh).2.1 rfl)).trans h.head, h.one.kept hu (fun b hb hh => (hv b hh).2.2.1 hb), h.two.kept hu (fun b hb hh => (hv b hh).2.2.2.1 hb), h.s, h.t, h.lo, h.bel.trans (hu.below (by omega) (fun b _ hb => (hv b hb).1)), ?_⟩
  exact ⟨h.last.row.kept hu (fun g hg hh => (hv g hh).2.2.2.2 hg), h.last.bytes, h.last.cap, h.last.max, h.last.own⟩
/-- A new last row is laid. -/
theorem RTwo.laid (h : RTwo B W w o N a p x c S q y e T A n k l) (ha : a < 2) (hB : B ≤ W.heap.size) {A' : Option Addr} {n' k' : Nat} {l' : List Int} (hl : LastAt w A' n' k' l' (fun g => B ≤ g ∧ g ≠ o ∧ ¬ S g ∧ ¬ T g)) :
    RTwo B W (w.setCell ⟨o, 4, none⟩ (.slice A' n' k')) o N a p x c S q y e T A' n' k' l' := by
  have hu := setCell_upd w o 4 (.slice A' n' k')
  have hh := cells_set5 (i := 4) (.slice A' n' k') h.head
  have hs := h.bel.size
  refine ⟨?_, h.one.kept hu (fun b hb e => (h.s b hb).2.1 e), h.two.kept hu (fun b hb e => (h.t b hb).2 e), h.s, h.t, h.lo, h.bel.trans (hu.below (by omega) (fun b _ e => by subst e; exact h.lo)), hl.kept hu (fun g hg e => hg.2.1 e) (fun g _ hg => hg)⟩
  rw [hh]
  unfold rsides
  split <;> rfl
/-- The other side is looked at. -/
theorem RTwo.swapped (h : RTwo B W w o N a p x c S q y e T A n k l) (ha : a < 2) : RTwo B W w o N (1 - a) q y e T p x c S A n k l := by
  refine ⟨?_, h.two, h.one, fun b hb => ⟨(h.t b hb).1, (h.t b hb).2, fun hs => (h.s b hs).2.2 hb⟩, fun b hb => ⟨(h.s b hb).1, (h.s b hb).2.1⟩, h.lo, h.bel, ⟨h.last.row, h.last.bytes, h.last.cap, h.last.max, fun g hg => by
    obtain ⟨h1, h2, h3, h4⟩ := h.last.own g hg
    exact ⟨h1, h2, h4, h3⟩⟩⟩
  rw [h.head]
  unfold rsides
  by_cases e : a = 0
  · subst e; rfl
  · obtain rfl : a = 1 := by omega
    rfl
theorem RPlays.at (h : RPlays B W w o N) {a' : Nat} (ha' : a' < 2) : ∃ p x c S q y e T A n k l, RTwo B W w o N a' p x c S q y e T A n k l := by
  obtain ⟨a, p, x, c, S, q, y, e, T, A, n, k, l, ha, h⟩ := h
  by_cases e1 : a' = a
  · subst e1
    exact ⟨_, _, _, _, _, _, _, _, _, _, _, _, h⟩
  · have h2 := h.swapped ha
    rw [show 1 - a = a' by omega] at h2
    exact ⟨_, _, _, _, _, _, _, _, _, _, _, _, h2⟩
/-- The other side has become a clone. -/
theorem RTwo.cloned (h : RTwo B W w o N a p x c S q y e T A n k l) (ha : a < 2) (hB : B ≤ W.heap.size) {w1 w2 : World} {pn xn : Nat} (hb1 : Below w.heap.size w w1) (hd : CoderNew w c pn w1)
    (hr : RCoderNew (w1.setCell ⟨o, 1 - a, none⟩ (ptr pn)) c N xn w2) : RPlays B W (w2.setCell ⟨o, 2 + (1 - a), none⟩ (ptr xn)) o N := by
  obtain ⟨S3, d1, d2, d3⟩ := hd
  obtain ⟨S4, r1, r2, r3⟩ := hr
  have hs := h.bel.size
  have hs1 := hb1.size
  have ho := h.olt
  have hu1 := setCell_upd w1 o (1 - a) (ptr pn)
  have hu2 := setCell_upd w2 o (2 + (1 - a)) (ptr xn)
  have hs2 : w1.heap.size ≤ w2.heap.size := by have := r3.size; simpa [World.setCell] using this
  have hw1s : (w1.setCell ⟨o, 1 - a, none⟩ (ptr pn)).heap.size = w1.heap.size := by simp [World.setCell]
  have e1 : w1.heap[o]? = some (.cells (rsides a p q x y (.slice A n k)) 92 (0, 0)) := (hb1.block o ho).trans h.head
  have e2 := cells_set5 (i := 1 - a) (ptr pn) e1
  have e3 := (r3.block o (by rw [hw1s]; omega)).trans e2
  have e4 := cells_set5 (i := 2 + (1 - a)) (ptr xn) e3
  have p1 : RPairAt w1 p x c N S := h.one.below hb1
  have p2 := p1.kept hu1 (fun b hb e => (h.s b hb).2.1 e)
  have p3 := p2.below r3
  have p4 := p3.kept hu2 (fun b hb e => (h.s b hb).2.1 e)
  have l1 : Row w1 5 A n k (nums .u8 l) := h.last.row.block (fun g hg => hb1.block g (h.last.row.lt hg))
  have l2 := l1.kept hu1 (fun g hg e => (h.last.own g hg).2.1 e)
  have l3 : Row w2 5 A n k (nums .u8 l) := l2.block (fun g hg => r3.block g (l2.lt hg))
  have l4 := l3.kept hu2 (fun g hg e => (h.last.own g hg).2.1 e)
  have no3 : ∀ b, S3 b → b ≠ o := fun b hb e => by have := d2 b hb; omega
  have no4 : ∀ b, S4 b → b ≠ o := fun b hb e => by have := r2 b hb; rw [hw1s] at this; omega
  have q2 := d1.kept hu1 no3
  have q3 := q2.kept (Upd.of_below r3) (fun b hb => by have := d1.lt hb; rw [hw1s]; omega)
  have q4 := q3.kept hu2 no3
  have s4 := r1.kept hu2 no4
  have hbw : Below B W (w2.setCell ⟨o, 2 + (1 - a), none⟩ (ptr xn)) := by
    have t1 : Below B W w1 := h.bel.trans (hb1.mono (by omega))
    have t2 := t1.trans (hu1.below (by omega) (fun b _ e => by subst e; exact h.lo))
    have t3 := t2.trans (r3.mono (by rw [hw1s]; omega))
    exact t3.trans (hu2.below (by omega) (fun b _ e => by subst e; exact h.lo))
  refine ⟨a, p, x, c, S, pn, xn, c, (fun b => S3 b ∨ S4 b), A, n, k, l, ha, ?_, p4, ⟨S3, S4, q4, s4, fun b h3 h4 => ?_, fun b => Iff.rfl⟩, ?_, ?_, h.lo, hbw, ⟨l4, h.last.bytes, h.last.cap, h.last.max, ?_⟩⟩
  · rw [e4]
    unfold rsides
    by_cases e : a = 0
    · subst e; rfl
    · obtain rfl : a = 1 := by omega
      rfl
  · have := d1.lt h3
    have := r2 b h4
    rw [hw1s] at this
    omega
  · intro b hb
    refine ⟨(h.s b hb).1, (h.s b hb).2.1, ?_⟩
    have hl := h.one.lt hb
    rintro (h3 | h4)
    · have := d2 b h3; omega
    · have := r2 b h4; rw [hw1s] at this; omega
  · rintro b (h3 | h4)
    · exact ⟨by have := d2 b h3; omega, no3 b h3⟩
    · exact ⟨by have := r2 b h4; rw [hw1s] at this; omega, no4 b h4⟩
  · intro g hg
    have hl := h.last.row.lt hg
    refine ⟨(h.last.own g hg).1, (h.last.own g hg).2.1, (h.last.own g hg).2.2.1, ?_⟩
    rintro (h3 | h4)
    · have := d2 g h3; omega
    · have := r2 g h4; rw [hw1s] at this; omega
end

/-- an op -/
structure ROp where
  on : Int
  act : Int
  rc : Rec
  A : Option Addr
  n : Nat
  k : Nat
  l : List Int
  frm : Int
def ROp.cells (r : ROp) : List Value := [.int .i64 r.on, .int .i64 r.act, .int .i64 r.rc.tick, .string r.rc.key, .int .i64 r.rc.cost, .int .i64 r.rc.verdict, .slice r.A r.n r.k, .int .i64 r.frm]
/-- .. whose bytes are read. -/
structure ROpOk (B : Nat) (W : World) (r : ROp) : Prop where
  key : r.rc.key.size ≤ maxLen
  bytes : ∀ w, Below B W w → BytesIn w r.A r.n r.k r.l
  max : r.n ≤ 140737488351232
end Go.Proofs.Ytipiohkpdkandaa
namespace Go.Proofs.Ytipiohkpdkandaa
set_option linter.unusedVariables false
set_option linter.unusedSimpArgs false
open Go.RowKit

def RDoesIs (B : Nat) (W : World) (o : Nat) (N : Int) (e : Ending) (w' : World) : Prop := e = .returned (.bool true) ∧ RPlays B W w' o N
/-- What the coder's Get leaves, with the boxes that are there already. -/
structure Got (o p x : Nat) (c c' : CC) (N : Int) (S : Nat → Prop) (w2 w' w'' : World) : Prop where
  now : ∃ S1 S2 S', (∀ b, S b ↔ S1 b ∨ S2 b) ∧ (∀ b, S1 b → ¬ S2 b) ∧ RCoderAt w'' x c N S2 ∧ CoderAt w'' p c' S' ∧ Upd w' w'' S1 ∧ (∀ b, S' b → S1 b ∨ w'.heap.size ≤ b)
  old : ∀ b, S b → b < w2.heap.size ∧ b ≠ o
  bel : Below w2.heap.size w2 w'
  olt : o < w2.heap.size
section
variable {o p x : Nat} {c c' : CC} {N : Int} {S : Nat → Prop} {w2 w' w'' : World}
theorem Got.cell (h : Got o p x c c' N S w2 w' w'') {i : Nat} {v : Value} (hc : w2.cell? ⟨o, i, none⟩ = some v) : w''.cell? ⟨o, i, none⟩ = some v := by
  obtain ⟨S1, S2, S', h1, h2, h3, h4, h5, h6⟩ := h.now
  have e1 := (h5.block o (by have := h.bel.size; have := h.olt; omega) (fun hs => (h.old o ((h1 o).2 (.inl hs))).2 rfl)).trans (h.bel.block o h.olt)
  simp only [World.cell?, e1] at hc ⊢
  exact hc
theorem Got.box (h : Got o p x c c' N S w2 w' w'') {b : Nat} {ob : Obj} (hb : w2.heap.size ≤ b) (hx : w'.heap[b]? = some ob) : w''.heap[b]? = some ob := by
  obtain ⟨S1, S2, S', h1, h2, h3, h4, h5, h6⟩ := h.now
  exact (h5.block b (Array.getElem?_eq_some_iff.1 hx).1 (fun hs => by have := (h.old b ((h1 b).2 (.inl hs))).1; omega)).trans hx
def RCells (w : World) (b : Nat) : Prop := w.heap[b]? = some (.cells zr 34 (0, 0)) ∧ w.cell? ⟨b, 0, none⟩ = some (.int .i64 0) ∧ w.cell? ⟨b, 1, none⟩ = some (.string ⟨#[]⟩) ∧ w.cell? ⟨b, 2, none⟩ = some (.int .i64 0) ∧ w.cell? ⟨b, 3, none⟩ = some (.int .i64 0) ∧ (∀ i, w.frozen? ⟨b, i, none⟩ = false) ∧
  (∀ Y, (w.alloc Y).cell? ⟨b, 0, none⟩ = some (.int .i64 0)) ∧ (∀ Y, (w.alloc Y).cell? ⟨b, 1, none⟩ = some (.string ⟨#[]⟩)) ∧ (∀ Y, (w.alloc Y).cell? ⟨b, 2, none⟩ = some (.int .i64 0)) ∧ (∀ Y, (w.alloc Y).cell? ⟨b, 3, none⟩ = some (.int .i64 0)) ∧ (∀ i Y, (w.alloc Y).frozen? ⟨b, i, none⟩ = false) ∧ b ≠ w.heap.size ∧ w.heap.size ≠ b
def FCells (w : World) (b : Nat) : Prop := w.heap[b]? = some (.cells zf 37 (0, 0)) ∧ w.cell? ⟨b, 0, none⟩ = some (.int .i64 0) ∧ w.cell? ⟨b, 1, none⟩ = some (.int .i64 0) ∧ (∀ i, w.frozen? ⟨b, i, none⟩ = false) ∧
  (∀ Y, (w.alloc Y).cell? ⟨b, 0, none⟩ = some (.int .i64 0)) ∧ (∀ Y, (w.alloc Y).cell? ⟨b, 1, none⟩ = some (.int .i64 0)) ∧ (∀ i Y, (w.alloc Y).frozen? ⟨b, i, none⟩ = false) ∧ b ≠ w.heap.size ∧ w.heap.size ≠ b
theorem rcells_of {w : World} {b : Nat} (h : w.heap[b]? = some (.cells zr 34 (0, 0))) : RCells w b := by
  have hl := (Array.getElem?_eq_some_iff.1 h).1
  have h' : ∀ Y, (w.alloc Y).heap[b]? = some (.cells zr 34 (0, 0)) := fun Y => (Below.heap_alloc _ _ _ hl).trans h
  refine ⟨h, ?_, ?_, ?_, ?_, fun i => ?_, fun Y => ?_, fun Y => ?_, fun Y => ?_, fun Y => ?_, fun i Y => ?_, by omega, by omega⟩ <;> simp only [World.cell?, World.frozen?, h, h', zr] <;> first | rfl | simp
theorem fcells_of {w : World} {b : Nat} (h : w.heap[b]? = some (.cells zf 37 (0, 0))) : FCells w b := by
  have hl := (Array.getElem?_eq_some_iff.1 h).1
  have h' : ∀ Y, (w.alloc Y).heap[b]? = some (.cells zf 37 (0, 0)) := fun Y => (Below.heap_alloc _ _ _ hl).trans h
  refine ⟨h, ?_, ?_, fun i => ?_, fun Y => ?_, fun Y => ?_, fun i Y => ?_, by omega, by omega⟩ <;> simp only [World.cell?, World.frozen?, h, h', zf] <;> (first | rfl | simp | skip)
theorem Got.rf (h : Got o p x c c' N S w2 w' w'') (hw : w'.heap = ((w2.alloc (.cells zr 34)).alloc (.cells zf 37)).heap) : RCells w'' w2.heap.size ∧ FCells w'' (w2.heap.size + 1) := by
  refine ⟨rcells_of (h.box (Nat.le_refl _) ?_), fcells_of (h.box (by omega) ?_)⟩
  · rw [hw, Below.heap_alloc _ _ _ (by simp)]; exact heap_alloc_new w2 _
  · rw [hw]; exact alloc_top (by rw [alloc_size])
theorem Got.fr (h : Got o p x c c' N S w2 w' w'') (hw : w'.heap = ((w2.alloc (.cells zf 37)).alloc (.cells zr 34)).heap) : FCells w'' w2.heap.size ∧ RCells w'' (w2.heap.size + 1) := by
  refine ⟨fcells_of (h.box (Nat.le_refl _) ?_), rcells_of (h.box (by omega) ?_)⟩
  · rw [hw, Below.heap_alloc _ _ _ (by simp)]; exact heap_alloc_new w2 _
  · rw [hw]; exact alloc_top (by rw [alloc_size])
theorem Got.r (h : Got o p x c c' N S w2 w' w'') (hw : w'.heap = (w2.alloc (.cells zr 34)).heap) : RCells w'' w2.heap.size := by
  refine rcells_of (h.box (Nat.le_refl _) ?_)
  rw [hw]; exact heap_alloc_new w2 _
theorem Got.f (h : Got o p x c c' N S w2 w' w'') (hw : w'.heap = (w2.alloc (.cells zf 37)).heap) : FCells w'' w2.heap.size := by
  refine fcells_of (h.box (Nat.le_refl _) ?_)
  rw [hw]; exact heap_alloc_new w2 _
end
theorem keep_set {w : World} {o i b j : Nat} {v u : Value} (hb : b ≠ o) (h : w.cell? ⟨o, i, none⟩ = some v) : (w.setCell ⟨b, j, none⟩ u).cell? ⟨o, i, none⟩ = some v := by
  rw [World.cell?_setCell_other _ _ _ _ (by simp <;> omega)]; exact h
theorem keep_alloc {w : World} {o i : Nat} {v : Value} {X : Obj} (h : w.cell? ⟨o, i, none⟩ = some v) : (w.alloc X).cell? ⟨o, i, none⟩ = some v :=
  (((Below.refl w.heap.size w).alloc (Nat.le_refl _) X).cell (p := ⟨o, i, none⟩) (World.block_lt_of_cell? w _ h)).trans h
theorem keep_drew {w : World} {o i : Nat} {v : Value} (h : w.cell? ⟨o, i, none⟩ = some v) : w.drew.cell? ⟨o, i, none⟩ = some v := h
theorem Got.ne {o p x : Nat} {c c' : CC} {N : Int} {S : Nat → Prop} {w2 w' w'' : World} (h : Got o p x c c' N S w2 w' w'') : w''.heap.size ≠ o ∧ w''.heap.size + 1 ≠ o := by
  obtain ⟨S1, S2, S', h1, h2, h3, h4, h5, h6⟩ := h.now
  have := h5.size
  have := h.bel.size
  have := h.olt
  omega
/-- What the region leaves: the coder has read; what it answered lies in two boxes. -/
structure GotEnd (o p x : Nat) (c c' : CC) (N : Int) (S : Nat → Prop) (w2 wx : World) (r f : Array Value) (b1 b2 : Nat) : Prop where
  now : ∃ S1 S2 S', (∀ b, S b ↔ S1 b ∨ S2 b) ∧ (∀ b, S1 b → ¬ S2 b) ∧ RCoderAt wx x c N S2 ∧ CoderAt wx p c' S' ∧ Upd w2 wx S1 ∧ (∀ b, S' b → (S1 b ∨ w2.heap.size ≤ b) ∧ b ≠ b1 ∧ b ≠ b2)
  r : wx.heap[b1]? = some (.cells r 34 (0, 0))
  f : wx.heap[b2]? = some (.cells f 37 (0, 0))
  l1 : w2.heap.size ≤ b1
  l2 : w2.heap.size ≤ b2
theorem Got.fin {o p x : Nat} {c c' : CC} {N : Int} {S : Nat → Prop} {w2 w' w'' wx : World} (h : Got o p x c c' N S w2 w' w'') {r f : Array Value} {b1 b2 : Nat} (hu : Upd w'' wx (fun b => b = b1 ∨ b = b2)) (h1 : w2.heap.size ≤ b1 ∧ (b1 < w'.heap.size ∨ w''.heap.size ≤ b1)) (h2 : w2.heap.size ≤ b2 ∧ (b2 < w'.heap.size ∨ w''.heap.size ≤ b2))
    (hr : wx.heap[b1]? = some (.cells r 34 (0, 0))) (hf : wx.heap[b2]? = some (.cells f 37 (0, 0))) : GotEnd o p x c c' N S w2 wx r f b1 b2 := by
  obtain ⟨S1, S2, S', v1, v2, v3, v4, v5, v6⟩ := h.now
  have hold : ∀ b, S b → b < w2.heap.size := fun b hb => (h.old b hb).1
  have hs := h.bel.size
  have hne : ∀ b, S' b → b ≠ b1 ∧ b ≠ b2 := fun b hb => by
    have hl := v4.lt hb
    rcases v6 b hb with hh | hh
    · have := hold b ((v1 b).2 (.inl hh)); omega
    · omega
  refine ⟨⟨S1, S2, S', v1, v2, v3.kept hu (fun b hb hh => by have := hold b ((v1 b).2 (.inr hb)); omega), v4.kept hu (fun b hb hh => by have := hne b hb; omega), ?_, fun b hb => ⟨(v6 b hb).imp id (by omega), hne b hb⟩⟩, hr, hf, h1.1, h2.1⟩
  have e1 : Upd w2 w' S1 := (Upd.of_below h.bel).mono (fun b g1 g2 => by omega)
  exact (e1.trans v5 (fun b _ hb => hb)).trans hu (fun b hb hh => by omega)
def RGotIs (o p x : Nat) (c c' : CC) (N : Int) (S : Nat → Prop) (w2 w' : World) (v : Value) (K : World → Prop) (e : Ending) (w'' : World) : Prop := e = .returned v ∧ Got o p x c c' N S w2 w' w'' ∧ K w''
/-- Cells of two new boxes, whatever the world. -/
def TwoBoxes : Prop :=
  (∀ (v : World) (Y : Obj), ((v.alloc (.cells #[.int .i64 0, .string ⟨#[]⟩, .int .i64 0, .int .i64 0] 34)).alloc Y).cell? ⟨v.heap.size, 0, none⟩ = some (.int .i64 0)) ∧
  (∀ (v : World) (Y : Obj), ((v.alloc (.cells #[.int .i64 0, .string ⟨#[]⟩, .int .i64 0, .int .i64 0] 34)).alloc Y).cell? ⟨v.heap.size, 1, none⟩ = some (.string ⟨#[]⟩)) ∧
  (∀ (v : World) (Y : Obj), ((v.alloc (.cells #[.int .i64 0, .string ⟨#[]⟩, .int .i64 0, .int .i64 0] 34)).alloc Y).cell? ⟨v.heap.size, 2, none⟩ = some (.int .i64 0)) ∧
  (∀ (v : World) (Y : Obj), ((v.alloc (.cells #[.int .i64 0, .string ⟨#[]⟩, .int .i64 0, .int .i64 0] 34)).alloc Y).cell? ⟨v.heap.size, 3, none⟩ = some (.int .i64 0)) ∧
  (∀ (v : World) (i : Nat) (Y : Obj), ((v.alloc (.cells #[.int .i64 0, .string ⟨#[]⟩, .int .i64 0, .int .i64 0] 34)).alloc Y).frozen? ⟨v.heap.size, i, none⟩ = false) ∧
  (∀ (v : World) (X : Obj), ((v.alloc X).alloc (.cells #[.int .i64 0, .string ⟨#[]⟩, .int .i64 0, .int .i64 0] 34)).cell? ⟨v.heap.size + 1, 0, none⟩ = some (.int .i64 0)) ∧
  (∀ (v : World) (X : Obj), ((v.alloc X).alloc (.cells #[.int .i64 0, .string ⟨#[]⟩, .int .i64 0, .int .i64 0] 34)).cell? ⟨v.heap.size + 1, 1, none⟩ = some (.string ⟨#[]⟩)) ∧
  (∀ (v : World) (X : Obj), ((v.alloc X).alloc (.cells #[.int .i64 0, .string ⟨#[]⟩, .int .i64 0, .int .i64 0] 34)).cell? ⟨v.heap.size + 1, 2, none⟩ = some (.int .i64 0)) ∧
  (∀ (v : World) (X : Obj), ((v.alloc X).alloc (.cells #[.int .i64 0, .string ⟨#[]⟩, .int .i64 0, .int .i64 0] 34)).cell? ⟨v.heap.size + 1, 3, none⟩ = some (.int .i64 0)) ∧
  (∀ (v : World) (i : Nat) (X : Obj), ((v.alloc X).alloc (.cells #[.int .i64 0, .string ⟨#[]⟩, .int .i64 0, .int .i64 0] 34)).frozen? ⟨v.heap.size + 1, i, none⟩ = false) ∧
  (∀ (v : World) (Y : Obj), ((v.alloc (.cells #[.int .i64 0, .int .i64 0] 37)).alloc Y).cell? ⟨v.heap.size, 0, none⟩ = some (.int .i64 0)) ∧
  (∀ (v : World) (Y : Obj), ((v.alloc (.cells #[.int .i64 0, .int .i64 0] 37)).alloc Y).cell? ⟨v.heap.size, 1, none⟩ = some (.int .i64 0)) ∧
  (∀ (v : World) (i : Nat) (Y : Obj), ((v.alloc (.cells #[.int .i64 0, .int .i64 0] 37)).alloc Y).frozen? ⟨v.heap.size, i, none⟩ = false) ∧
  (∀ (v : World) (X : Obj), ((v.alloc X).alloc (.cells #[.int .i64 0, .int .i64 0] 37)).cell? ⟨v.heap.size + 1, 0, none⟩ = some (.int .i64 0)) ∧
  (∀ (v : World) (X : Obj), ((v.alloc X).alloc (.cells #[.int .i64 0, .int .i64 0] 37)).cell? ⟨v.heap.size + 1, 1, none⟩ = some (.int .i64 0)) ∧
  (∀ (v : World) (i : Nat) (X : Obj), ((v.alloc X).alloc (.cells #[.int .i64 0, .int .i64 0] 37)).frozen? ⟨v.heap.size + 1, i, none⟩ = false)
theorem heap_first (v : World) (X Y : Obj) : ((v.alloc X).alloc Y).heap[v.heap.size]? = (v.alloc X).heap[v.heap.size]? := Below.heap_alloc _ _ _ (by simp)
theorem heap_second (v : World) (X : Obj) (cs : Array Value) (t : TypeId) : ((v.alloc X).alloc (.cells cs t)).heap[v.heap.size + 1]? = some (.cells cs t (0, 0)) := alloc_top (by rw [alloc_size])
theorem twoBoxes : TwoBoxes := by
  refine ⟨?_, ?_, ?_, ?_, ?_, ?_, ?_, ?_, ?_, ?_, ?_, ?_, ?_, ?_, ?_, ?_⟩
  · intro v Y; simp only [World.cell?, heap_first, heap_alloc_new]; rfl
  · intro v Y; simp only [World.cell?, heap_first, heap_alloc_new]; rfl
  · intro v Y; simp only [World.cell?, heap_first, heap_alloc_new]; rfl
  · intro v Y; simp only [World.cell?, heap_first, heap_alloc_new]; rfl
  · intro v i Y; simp only [World.frozen?, heap_first, heap_alloc_new]; simp
  · intro v X; simp only [World.cell?, heap_second]; rfl
  · intro v X; simp only [World.cell?, heap_second]; rfl
  · intro v X; simp only [World.cell?, heap_second]; rfl
  · intro v X; simp only [World.cell?, heap_second]; rfl
  · intro v i X; simp only [World.frozen?, heap_second]; simp
  · intro v Y; simp only [World.cell?, heap_first, heap_alloc_new]; rfl
  · intro v Y; simp only [World.cell?, heap_first, heap_alloc_new]; rfl
  · intro v i Y; simp only [World.frozen?, heap_first, heap_alloc_new]; simp
  · intro v X; simp only [World.cell?, heap_second]; rfl
  · intro v X; simp only [World.cell?, heap_second]; rfl
  · intro v i X; simp only [World.frozen?, heap_second]; simp
theorem Got.undrew {o p x : Nat} {c c' : CC} {N : Int} {S : Nat → Prop} {w2 w' w'' : World} (h : Got o p x c c' N S w2 w'.drew w'') : Got o p x c c' N S w2 w' w'' := by
  obtain ⟨S1, S2, S', v1, v2, v3, v4, v5, v6⟩ := h.now
  exact ⟨⟨S1, S2, S', v1, v2, v3, v4, ⟨v5.os, v5.tape, v5.output, v5.size, v5.block⟩, v6⟩, h.old, ⟨h.bel.os, h.bel.tape, h.bel.output, h.bel.size, h.bel.block⟩, h.olt⟩
theorem boxes_set {v : World} {b1 b2 : Nat} (hne : b1 ≠ b2) (h1 : v.heap[b1]? = some (.cells zr 34 (0, 0))) (h2 : v.heap[b2]? = some (.cells zf 37 (0, 0))) (v0 v1 v2 v3 y0 y1 : Value) :
    Upd v ((((((v.setCell ⟨b1, 0, none⟩ v0).setCell ⟨b1, 1, none⟩ v1).setCell ⟨b1, 2, none⟩ v2).setCell ⟨b1, 3, none⟩ v3).setCell ⟨b2, 0, none⟩ y0).setCell ⟨b2, 1, none⟩ y1) (fun b => b = b1 ∨ b = b2) ∧
    ((((((v.setCell ⟨b1, 0, none⟩ v0).setCell ⟨b1, 1, none⟩ v1).setCell ⟨b1, 2, none⟩ v2).setCell ⟨b1, 3, none⟩ v3).setCell ⟨b2, 0, none⟩ y0).setCell ⟨b2, 1, none⟩ y1).heap[b1]? = some (.cells #[v0, v1, v2, v3] 34 (0, 0)) ∧
    ((((((v.setCell ⟨b1, 0, none⟩ v0).setCell ⟨b1, 1, none⟩ v1).setCell ⟨b1, 2, none⟩ v2).setCell ⟨b1, 3, none⟩ v3).setCell ⟨b2, 0, none⟩ y0).setCell ⟨b2, 1, none⟩ y1).heap[b2]? = some (.cells #[y0, y1] 37 (0, 0)) := by
  have g4 := cells_set (i := 3) v3 (cells_set (i := 2) v2 (cells_set (i := 1) v1 (cells_set (i := 0) v0 h1)))
  have hu : Upd v ((((v.setCell ⟨b1, 0, none⟩ v0).setCell ⟨b1, 1, none⟩ v1).setCell ⟨b1, 2, none⟩ v2).setCell ⟨b1, 3, none⟩ v3) (fun b => b = b1) :=
    ((((Upd.refl v (fun b => b = b1)).setCell (a := ⟨b1, 0, none⟩) (fun _ => rfl) _).setCell (a := ⟨b1, 1, none⟩) (fun _ => rfl) _).setCell (a := ⟨b1, 2, none⟩) (fun _ => rfl) _).setCell (a := ⟨b1, 3, none⟩) (fun _ => rfl) _
  obtain ⟨u4, hu4⟩ : ∃ u4, (((v.setCell ⟨b1, 0, none⟩ v0).setCell ⟨b1, 1, none⟩ v1).setCell ⟨b1, 2, none⟩ v2).setCell ⟨b1, 3, none⟩ v3 = u4 := ⟨_, rfl⟩
  rw [hu4] at g4 hu ⊢
  have l1 := (Array.getElem?_eq_some_iff.1 h1).1
  have l2 := (Array.getElem?_eq_some_iff.1 h2).1
  have f3 := cells_set (i := 1) y1 (cells_set (i := 0) y0 ((hu.block _ l2 (by omega)).trans h2))
  have hv : Upd u4 ((u4.setCell ⟨b2, 0, none⟩ y0).setCell ⟨b2, 1, none⟩ y1) (fun b => b = b2) :=
    ((Upd.refl u4 (fun b => b = b2)).setCell (a := ⟨b2, 0, none⟩) (fun _ => rfl) _).setCell (a := ⟨b2, 1, none⟩) (fun _ => rfl) _
  have hs := hu.size
  exact ⟨(hu.mono (fun b _ e => .inl e)).trans hv (fun b _ e => .inr e), (hv.block _ (by omega) (by omega)).trans g4, f3⟩
section
variable {o p x : Nat} {c c' : CC} {N : Int} {S : Nat → Prop} {w2 w3 : World}
theorem Got.e1 (h : Got o p x c c' N S w2 w2 w3) (r f : Array Value) : GotEnd o p x c c' N S w2 ((w3.alloc (.cells r 34)).alloc (.cells f 37)) r f w3.heap.size (w3.heap.size + 1) := by
  obtain ⟨S1, S2, S', v1, v2, v3, v4, v5, v6⟩ := h.now
  have hs := v5.size
  exact h.fin (((Upd.refl _ _).alloc _).alloc _) (by omega) (by omega) (by rw [heap_first]; exact heap_alloc_new _ _) (heap_second _ _ _ _)
theorem Got.e2 (h : Got o p x c c' N S w2 w2 w3) (r f : Array Value) : GotEnd o p x c c' N S w2 ((w3.alloc (.cells f 37)).alloc (.cells r 34)) r f (w3.heap.size + 1) w3.heap.size := by
  obtain ⟨S1, S2, S', v1, v2, v3, v4, v5, v6⟩ := h.now
  have hs := v5.size
  exact h.fin (((Upd.refl _ _).alloc _).alloc _) (by omega) (by omega) (heap_second _ _ _ _) (by rw [heap_first]; exact heap_alloc_new _ _)
theorem Got.e3 (h : Got o p x c c' N S w2 (w2.alloc (.cells #[.int .i64 0, .string ⟨#[]⟩, .int .i64 0, .int .i64 0] 34)) w3) (v0 v1 v2 v3 y0 y1 : Value) :
    GotEnd o p x c c' N S w2 (((((((w3.alloc (.cells #[.int .i64 0, .int .i64 0] 37)).setCell ⟨w2.heap.size, 0, none⟩ v0).setCell ⟨w2.heap.size, 1, none⟩ v1).setCell ⟨w2.heap.size, 2, none⟩ v2).setCell ⟨w2.heap.size, 3, none⟩ v3).setCell ⟨w3.heap.size, 0, none⟩ y0).setCell ⟨w3.heap.size, 1, none⟩ y1) #[v0, v1, v2, v3] #[y0, y1] w2.heap.size w3.heap.size := by
  have hr := (h.r rfl).1
  have hl := (Array.getElem?_eq_some_iff.1 hr).1
  obtain ⟨S1, S2, S', _, _, _, _, v5, _⟩ := h.now
  have hs := v5.size
  rw [alloc_size] at hs
  obtain ⟨k1, k2, k3⟩ := boxes_set (v := w3.alloc (.cells #[.int .i64 0, .int .i64 0] 37)) (b1 := w2.heap.size) (b2 := w3.heap.size) (by omega) ((Below.heap_alloc _ _ _ hl).trans hr) (heap_alloc_new w3 _) v0 v1 v2 v3 y0 y1
  exact h.fin (((Upd.refl _ _).alloc _).trans k1 (fun _ _ hb => hb)) (by rw [alloc_size]; omega) (by omega) k2 k3
theorem Got.e4 (h : Got o p x c c' N S w2 (w2.alloc (.cells #[.int .i64 0, .int .i64 0] 37)) w3) (v0 v1 v2 v3 y0 y1 : Value) :
    GotEnd o p x c c' N S w2 (((((((w3.alloc (.cells #[.int .i64 0, .string ⟨#[]⟩, .int .i64 0, .int .i64 0] 34)).setCell ⟨w3.heap.size, 0, none⟩ v0).setCell ⟨w3.heap.size, 1, none⟩ v1).setCell ⟨w3.heap.size, 2, none⟩ v2).setCell ⟨w3.heap.size, 3, none⟩ v3).setCell ⟨w2.heap.size, 0, none⟩ y0).setCell ⟨w2.heap.size, 1, none⟩ y1) #[v0, v1, v2, v3] #[y0, y1] w3.heap.size w2.heap.size := by
  have hr := (h.f rfl).1
  have hl := (Array.getElem?_eq_some_iff.1 hr).1
  obtain ⟨S1, S2, S', _, _, _, _, v5, _⟩ := h.now
  have hs := v5.size
  rw [alloc_size] at hs
  obtain ⟨k1, k2, k3⟩ := boxes_set (v := w3.alloc (.cells #[.int .i64 0, .string ⟨#[]⟩, .int .i64 0, .int .i64 0] 34)) (b1 := w3.heap.size) (b2 := w2.heap.size) (by omega) (heap_alloc_new w3 _) ((Below.heap_alloc _ _ _ hl).trans hr) v0 v1 v2 v3 y0 y1
  exact h.fin (((Upd.refl _ _).alloc _).trans k1 (fun _ _ hb => hb)) (by omega) (by rw [alloc_size]; omega) k2 k3
theorem Got.e4' (h : Got o p x c c' N S w2 (w2.alloc (.cells #[.int .i64 0, .int .i64 0] 37)) w3) (v0 v1 v2 v3 y0 y1 : Value) :
    GotEnd o p x c c' N S w2 (((w3.alloc (.cells #[v0, v1, v2, v3] 34)).setCell ⟨w2.heap.size, 0, none⟩ y0).setCell ⟨w2.heap.size, 1, none⟩ y1) #[v0, v1, v2, v3] #[y0, y1] w3.heap.size w2.heap.size := by
  have hr := (h.f rfl).1
  have hl := (Array.getElem?_eq_some_iff.1 hr).1
  obtain ⟨S1, S2, S', _, _, _, _, v5, _⟩ := h.now
  have hs := v5.size
  rw [alloc_size] at hs
  have f3 := cells_set (i := 1) y1 (cells_set (i := 0) y0 ((Below.heap_alloc w3 (.cells #[v0, v1, v2, v3] 34) _ hl).trans hr))
  have hv : Upd (w3.alloc (.cells #[v0, v1, v2, v3] 34)) (((w3.alloc (.cells #[v0, v1, v2, v3] 34)).setCell ⟨w2.heap.size, 0, none⟩ y0).setCell ⟨w2.heap.size, 1, none⟩ y1) (fun b => b = w2.heap.size) :=
    ((Upd.refl _ (fun b => b = w2.heap.size)).setCell (a := ⟨w2.heap.size, 0, none⟩) (fun _ => rfl) _).setCell (a := ⟨w2.heap.size, 1, none⟩) (fun _ => rfl) _
  exact h.fin (((Upd.refl _ _).alloc _).trans hv (fun _ _ hb => .inr hb)) (by omega) (by rw [alloc_size]; omega) ((hv.block _ (by simp) (by omega)).trans (heap_alloc_new w3 _)) f3
theorem Got.e5 (h : Got o p x c c' N S w2 ((w2.alloc (.cells #[.int .i64 0, .string ⟨#[]⟩, .int .i64 0, .int .i64 0] 34)).alloc (.cells #[.int .i64 0, .int .i64 0] 37)) w3) (v0 v1 v2 v3 y0 y1 : Value) :
    GotEnd o p x c c' N S w2 ((((((w3.setCell ⟨w2.heap.size, 0, none⟩ v0).setCell ⟨w2.heap.size, 1, none⟩ v1).setCell ⟨w2.heap.size, 2, none⟩ v2).setCell ⟨w2.heap.size, 3, none⟩ v3).setCell ⟨w2.heap.size + 1, 0, none⟩ y0).setCell ⟨w2.heap.size + 1, 1, none⟩ y1) #[v0, v1, v2, v3] #[y0, y1] w2.heap.size (w2.heap.size + 1) := by
  have hr := h.rf rfl
  obtain ⟨k1, k2, k3⟩ := boxes_set (v := w3) (b1 := w2.heap.size) (b2 := w2.heap.size + 1) (by omega) hr.1.1 hr.2.1 v0 v1 v2 v3 y0 y1
  exact h.fin k1 (by simp only [alloc_size]; omega) (by simp only [alloc_size]; omega) k2 k3
theorem Got.e6 (h : Got o p x c c' N S w2 ((w2.alloc (.cells #[.int .i64 0, .int .i64 0] 37)).alloc (.cells #[.int .i64 0, .string ⟨#[]⟩, .int .i64 0, .int .i64 0] 34)) w3) (v0 v1 v2 v3 y0 y1 : Value) :
    GotEnd o p x c c' N S w2 ((((((w3.setCell ⟨w2.heap.size + 1, 0, none⟩ v0).setCell ⟨w2.heap.size + 1, 1, none⟩ v1).setCell ⟨w2.heap.size + 1, 2, none⟩ v2).setCell ⟨w2.heap.size + 1, 3, none⟩ v3).setCell ⟨w2.heap.size, 0, none⟩ y0).setCell ⟨w2.heap.size, 1, none⟩ y1) #[v0, v1, v2, v3] #[y0, y1] (w2.heap.size + 1) w2.heap.size := by
  have hr := h.fr rfl
  obtain ⟨k1, k2, k3⟩ := boxes_set (v := w3) (b1 := w2.heap.size + 1) (b2 := w2.heap.size) (by omega) hr.2.1 hr.1.1 v0 v1 v2 v3 y0 y1
  exact h.fin k1 (by simp only [alloc_size]; omega) (by simp only [alloc_size]; omega) k2 k3
end
theorem fault_eql (w : World) (a b : Int) : (binOp .eql 37 (.agg #[.int .i64 a, .int .i64 b]) (.agg #[.int .i64 a, .int .i64 b])).run Try.prog w = .ok (.bool true) w := by
  have hu : Try.prog.underlying 37 = some (.struct (Try.prog.fieldsOf 37)) := by kernel_rfl
  have hp : Try.prog.stoodInHeld 37 = false := by kernel_rfl
  have h3 := Try.underlying3
  have h9 := Try.underlying28
  rw [run_eql_struct, run_equalIn_struct _ _ _ _ _ hu hp]
  simp only [Program.fieldsOf, Try.underlying37]
  simp [go_sem, h3, h9]
section
variable {B : Nat} {W w : World} {o : Nat} {N : Int} {a p x : Nat} {c c' : CC} {S : Nat → Prop} {q y : Nat} {e : CC} {T : Nat → Prop} {A : Option Addr} {n k : Nat} {l : List Int} {w2 wc w4 w5 w6 : World} {g : Nat} {S1 S2 S' : Nat → Prop}
theorem rget_upd (h : RTwo B W w o N a p x c S q y e T A n k l) (b02 : Below w.heap.size w w2) (v1 : ∀ b, S b ↔ S1 b ∨ S2 b) (v5 : Upd w2 wc S1) (k2 : Upd wc w4 S2) (b45 : Below w4.heap.size w4 w5) : Upd w2 w5 S ∧ Upd w w5 S := by
  have e1 : Upd w2 w4 S := (v5.mono (fun b _ hb => (v1 b).2 (.inl hb))).trans k2 (fun b _ hb => (v1 b).2 (.inr hb))
  have hs := e1.size
  have e2 : Upd w2 w5 S := e1.trans (Upd.of_below b45) (fun b h1 h2 => by omega)
  have hs2 := b02.size
  exact ⟨e2, ((Upd.of_below b02).mono (fun b h1 h2 => by omega)).trans e2 (fun b _ hb => hb)⟩
theorem rget_done (h : RTwo B W w o N a p x c S q y e T A n k l) (hB : B ≤ W.heap.size) (b02 : Below w.heap.size w w2) (g1 : w.heap.size ≤ g) (g2 : g < w2.heap.size)
    (v1 : ∀ b, S b ↔ S1 b ∨ S2 b) (v2 : ∀ b, S1 b → ¬ S2 b) (v4 : CoderAt wc p c' S') (v5 : Upd w2 wc S1) (v6 : ∀ b, S' b → S1 b ∨ w2.heap.size ≤ b)
    (k1 : RCoderAt w4 x c' (N + 1) S2) (k2 : Upd wc w4 S2) (b45 : Below w4.heap.size w4 w5) (u56 : Upd w5 w6 (fun b => b = g)) : RTwo B W w6 o (N + 1) a p x c' (fun b => S' b ∨ S2 b) q y e T A n k l := by
  obtain ⟨e1, e2⟩ := rget_upd h b02 v1 v5 k2 b45
  have hlt : ∀ b, S b → b < w.heap.size := fun b hb => h.one.lt hb
  have hs2 := b02.size
  have hdis : ∀ b, S' b → ¬ S2 b := fun b hb h2 => by
    rcases v6 b hb with hh | hh
    · exact v2 b hh h2
    · have := hlt b ((v1 b).2 (.inr h2)); omega
  have hne : ∀ b, S' b → b ≠ g := fun b hb e => by
    rcases v6 b hb with hh | hh
    · have := hlt b ((v1 b).2 (.inl hh)); omega
    · omega
  refine h.step ⟨S', S2, ((v4.kept k2 hdis).below b45).kept u56 hne, (k1.below b45).kept u56 (fun b hb e => by have := hlt b ((v1 b).2 (.inr hb)); omega), hdis, fun b => Iff.rfl⟩ (e2.trans u56 (fun b hb e => by omega)) ?_ (by omega) hB
  rintro b (hb | hb)
  · rcases v6 b hb with hh | hh
    · exact .inl ((v1 b).2 (.inl hh))
    · exact .inr (by omega)
  · exact .inl ((v1 b).2 (.inr hb))
end
set_option maxRecDepth 100000 in
set_option maxHeartbeats 4000000 in
theorem wget_any {B : Nat} {W w : World} {o : Nat} {N : Int} {a p x : Nat} {c : CC} {S : Nat → Prop} {q y : Nat} {e0 : CC} {T : Nat → Prop} {A : Option Addr} {n k : Nat} {l : List Int} (h : RTwo B W w o N a p x c S q y e0 T A n k l) (ha : a < 2) (hB : B ≤ W.heap.size) (hN : N ≤ 4611686018427387903)
    {C : Option Addr} {m j : Nat} {L : List Int} (hbk : ∀ w', Upd w w' S → BytesIn w' C m j L) (hm : m ≤ 140737488351232) (frm : Int) :
    Calls Try.prog 63 #[.pointer (some ⟨o, 0, none⟩), .int .i64 a, .slice C m j, .int .i64 frm] w (RDoesIs B W o (N + 1)) := by
  have hlent := lent6_any C m j L w (hbk w (Upd.refl _ _)).rd hm
  have hby := (hbk w (Upd.refl _ _)).bytes
  have H := Lib.hid h
  have HBK := Lib.hid hbk
  have HBY := Lib.hid hby
  clear h hbk hby
  obtain ⟨c', ⟨rt, rk, rc, rv⟩, tt, fe, fx, hgf⟩ : ∃ c' r tt fe fx, getF c L frm = (c', r, tt, fe, fx) := ⟨_, _, _, _, _, rfl⟩
  have HG := Lib.hid hgf
  clear hgf
  have m1 : (0 : Int) ≤ (m : Int) := by omega
  have m2 : (m : Int) ≤ ((m + 3 : Nat) : Int) := by omega
  have m3 : (m : Int) ≤ (m : Int) + 3 := by omega
  have hcs : a = 0 ∨ a = 1 := by omega
  rcases hcs with rfl | rfl
  · go_enter Try.func63, Try.ntmps63
    go_wp2_with fail
    refine hlent.mono ?_
    rintro e1 w2 ⟨g, rfl, hg, hr, hb⟩
    have h2 := H.out.below hb hB
    have k0 := h2.cell 0
    simp [rsides, ptr] at k0
    have hin : Rd w2 (some ⟨g, 0, none⟩) m (nums .u8 L) := by
      have := hr.rd.take (m := m) (by omega)
      have hl : L.length = m := (HBK.out w (Upd.refl _ _)).len
      rwa [nums_append, List.take_append_of_le_length (by rw [nums_length]; omega), List.take_of_length_le (by rw [nums_length]; omega)] at this
    obtain ⟨fv, hfv⟩ : ∃ fv, (.tuple #[.agg #[.int .i64 rt, .string rk, .int .i64 rc, .int .i64 rv], .int .i64 tt, .agg #[.int .i64 fe, .int .i64 fx]] : Value) = fv := ⟨_, rfl⟩
    have hgot0 : ∀ w', Below w2.heap.size w2 w' → Calls Try.prog 21 #[.pointer (some ⟨p, 0, none⟩), .slice (some ⟨g, 0, none⟩) m (m + 3), .int .i64 frm] w' (RGotIs o p x c c' N S w2 w' fv (fun _ => True)) := fun w' hb' => by
      obtain ⟨S1, S2, d1, r1, dis, hiff⟩ := h2.one
      have hin2 : BytesIn w2 (some ⟨g, 0, none⟩) m (m + 3) L := ⟨hin, HBY.out, by omega, by omega⟩
      refine (get_any (d1.below hb') (hin2.below hb') frm).mono ?_
      rintro e w'' ⟨S', rfl, z1, z2, z3⟩
      rw [HG.out] at z1 ⊢
      have hlt : ∀ b, S b → b < w2.heap.size := fun b hb => h2.one.lt hb
      refine ⟨by rw [← hfv]; rfl, ⟨⟨S1, S2, S', hiff, dis, (r1.below hb').kept z2 (fun b h2 h1 => dis b h1 h2), z1, z2, z3⟩, fun b hb => ⟨hlt b hb, (h2.s b hb).2.1⟩, hb', h2.olt⟩, trivial⟩
    have b0 : Below w2.heap.size w2 w2 := Below.refl _ _
    have cl : Calls Try.prog 21 #[.pointer (some ⟨p, 0, none⟩), .slice (some ⟨g, 0, none⟩) m (m + 3), .int .i64 frm] w2.drew (RGotIs o p x c c' N S w2 w2 fv (fun _ => True)) := (hgot0 w2.drew b0.drew).mono fun _ _ h => ⟨h.1, h.2.1.undrew, h.2.2⟩
    have clR : Calls Try.prog 21 #[.pointer (some ⟨p, 0, none⟩), .slice (some ⟨g, 0, none⟩) m (m + 3), .int .i64 frm] (w2.alloc (.cells #[.int .i64 0, .string ⟨#[]⟩, .int .i64 0, .int .i64 0] 34)).drew (RGotIs o p x c c' N S w2 (w2.alloc (.cells #[.int .i64 0, .string ⟨#[]⟩, .int .i64 0, .int .i64 0] 34)) fv (fun v => RCells v w2.heap.size)) :=
      (hgot0 _ (b0.alloc (Nat.le_refl _) _).drew).mono fun _ _ h => ⟨h.1, h.2.1.undrew, h.2.1.r rfl⟩
    have clF : Calls Try.prog 21 #[.pointer (some ⟨p, 0, none⟩), .slice (some ⟨g, 0, none⟩) m (m + 3), .int .i64 frm] (w2.alloc (.cells #[.int .i64 0, .int .i64 0] 37)).drew (RGotIs o p x c c' N S w2 (w2.alloc (.cells #[.int .i64 0, .int .i64 0] 37)) fv (fun v => FCells v w2.heap.size)) :=
      (hgot0 _ (b0.alloc (Nat.le_refl _) _).drew).mono fun _ _ h => ⟨h.1, h.2.1.undrew, h.2.1.f rfl⟩
    have clRF : Calls Try.prog 21 #[.pointer (some ⟨p, 0, none⟩), .slice (some ⟨g, 0, none⟩) m (m + 3), .int .i64 frm] ((w2.alloc (.cells #[.int .i64 0, .string ⟨#[]⟩, .int .i64 0, .int .i64 0] 34)).alloc (.cells #[.int .i64 0, .int .i64 0] 37)).drew (RGotIs o p x c c' N S w2 ((w2.alloc (.cells #[.int .i64 0, .string ⟨#[]⟩, .int .i64 0, .int .i64 0] 34)).alloc (.cells #[.int .i64 0, .int .i64 0] 37)) fv (fun v => RCells v w2.heap.size ∧ FCells v (w2.heap.size + 1))) :=
      (hgot0 _ ((b0.alloc (Nat.le_refl _) _).alloc (by simp) _).drew).mono fun _ _ h => ⟨h.1, h.2.1.undrew, h.2.1.rf rfl⟩
    have clFR : Calls Try.prog 21 #[.pointer (some ⟨p, 0, none⟩), .slice (some ⟨g, 0, none⟩) m (m + 3), .int .i64 frm] ((w2.alloc (.cells #[.int .i64 0, .int .i64 0] 37)).alloc (.cells #[.int .i64 0, .string ⟨#[]⟩, .int .i64 0, .int .i64 0] 34)).drew (RGotIs o p x c c' N S w2 ((w2.alloc (.cells #[.int .i64 0, .int .i64 0] 37)).alloc (.cells #[.int .i64 0, .string ⟨#[]⟩, .int .i64 0, .int .i64 0] 34)) fv (fun v => FCells v w2.heap.size ∧ RCells v (w2.heap.size + 1))) :=
      (hgot0 _ ((b0.alloc (Nat.le_refl _) _).alloc (by simp) _).drew).mono fun _ _ h => ⟨h.1, h.2.1.undrew, h.2.1.fr rfl⟩
    unfold RGotIs at cl clR clF clRF clFR
    unfold RCells at clR clRF clFR
    unfold FCells at clF clRF clFR
    clear b0 hgot0
    subst hfv
    have H2 := Lib.hid (And.intro h2 (And.intro hr (And.intro hg hb)))
    have hol2 : o < w2.heap.size := h2.olt
    obtain ⟨no1, no2, no3, no4⟩ : o ≠ w2.heap.size ∧ w2.heap.size ≠ o ∧ o ≠ w2.heap.size + 1 ∧ w2.heap.size + 1 ≠ o := by omega
    clear hlent h2 hr hg hb hin
    obtain ⟨t1, t2, t3, t4, t5, t6, t7, t8, t9, t10, t11, t12, t13, t14, t15, t16⟩ := twoBoxes
    go_upto_region 2 with fail
    go_cut [10, 11, 12] from 10 (fun v10 v11 v12 wx => ∃ b1 b2 : Nat, v10 = .pointer (some ⟨b1, 0, none⟩) ∧ v11 = .int .i64 tt ∧ v12 = .pointer (some ⟨b2, 0, none⟩) ∧ GotEnd o p x c c' N S w2 wx #[.int .i64 rt, .string rk, .int .i64 rc, .int .i64 rv] #[.int .i64 fe, .int .i64 fx] b1 b2)
    case first =>
     go_wp2_with fail
     go_region_held3 (fun w' => w'.cell? ⟨o, 0, none⟩ = some (.pointer (some ⟨p, 0, none⟩)))
      (repeat (first | (with_reducible assumption) | (with_reducible refine keep_drew ?_) | (with_reducible refine keep_alloc ?_) | (with_reducible refine keep_set ?_ ?_; first | (with_reducible exact no2) | (with_reducible exact no4) | (with_reducible assumption))))
      ((go_at_call 21; (first
        | ((with_reducible refine cl.mono ?_); rintro e w3 ⟨rfl, hgot, _⟩)
        | ((with_reducible refine clR.mono ?_); rintro e w3 ⟨rfl, hgot, g0, g1, g2, g3, g4, g5, g6, g7, g8, g9, g10, g11, g12⟩)
        | ((with_reducible refine clF.mono ?_); rintro e w3 ⟨rfl, hgot, f0, f1, f2, f3, f4, f5, f6, f7, f8⟩)
        | ((with_reducible refine clRF.mono ?_); rintro e w3 ⟨rfl, hgot, ⟨g0, g1, g2, g3, g4, g5, g6, g7, g8, g9, g10, g11, g12⟩, f0, f1, f2, f3, f4, f5, f6, f7, f8⟩)
        | ((with_reducible refine clFR.mono ?_); rintro e w3 ⟨rfl, hgot, ⟨f0, f1, f2, f3, f4, f5, f6, f7, f8⟩, g0, g1, g2, g3, g4, g5, g6, g7, g8, g9, g10, g11, g12⟩)); have k0' := hgot.cell k0; obtain ⟨no5, no6⟩ := hgot.ne; replace hgot := Lib.hid hgot))
     all_goals
      try (go_wp2_with fail)
      go_meet
      case rel =>
       clear cl clR clF clRF clFR t1 t2 t3 t4 t5 t6 t7 t8 t9 t10 t11 t12 t13 t14 t15 t16
       refine ⟨_, _, rfl, rfl, rfl, ?_⟩
       first | (with_reducible exact hgot.out.e1 _ _) | (with_reducible exact hgot.out.e2 _ _) | (with_reducible exact hgot.out.e3 _ _ _ _ _ _) | (with_reducible exact hgot.out.e4 _ _ _ _ _ _) | (with_reducible exact hgot.out.e4' _ _ _ _ _ _) | (with_reducible exact hgot.out.e5 _ _ _ _ _ _) | (with_reducible exact hgot.out.e6 _ _ _ _ _ _)
    case rest =>
     obtain ⟨b1, b2, rfl, rfl, rfl, hE⟩ := hcut
     obtain ⟨S1, S2, S', v1, v2, v3, v4, v5, v6⟩ := hE.now
     obtain ⟨H2a, H2b, H2c, H2d⟩ := H2.out
     have k2 : wc.cell? ⟨o, 2, none⟩ = some (.pointer (some ⟨x, 0, none⟩)) := by
       have e1 := (v5.block o H2a.olt (fun hs => (H2a.s o ((v1 o).2 (.inl hs))).2.1 rfl)).trans H2a.head
       simp [World.cell?, e1, rsides, ptr]
     have hrb : BytesIn wc C m j L := HBK.out wc (((Upd.of_below H2d).mono (fun b g1 g2 => by omega)).trans v5 (fun b _ hb => (v1 b).2 (.inl hb)))
     have hrg := refGet_any v3 hN hrb frm
     unfold RGetPost at hrg
     rw [HG.out] at hrg
     unfold Rec.val at hrg
     have HE := Lib.hid (And.intro hE (And.intro v1 (And.intro v2 (And.intro v4 (And.intro v5 v6)))))
     clear hE v1 v2 v3 v4 v5 v6 H2a H2b H2c H2d hrb cl clR clF clRF clFR no1 no2 no3 no4 hol2 k0
     go_wp2_with fail
     refine hrg.mono ?_
     rintro e w4 ⟨rfl, k1, k3⟩
     have HK := Lib.hid (And.intro k1 k3)
     clear hrg k1 k3 k2
     go_upto_region 4 with fail
     obtain ⟨w5, hw5⟩ : ∃ w5, (w4.alloc (.cells #[.int .i64 rt, .string rk, .int .i64 rc, .int .i64 rv] 34)).alloc (.cells #[.int .i64 fe, .int .i64 fx] 37) = w5 := ⟨_, rfl⟩
     have HW5 : Hid (Below w4.heap.size w4 w5 ∧ w5.heap[w4.heap.size]? = some (.cells #[.int .i64 rt, .string rk, .int .i64 rc, .int .i64 rv] 34 (0, 0)) ∧ w5.heap[w4.heap.size + 1]? = some (.cells #[.int .i64 fe, .int .i64 fx] 37 (0, 0))) := by
       rw [← hw5]
       exact ⟨((Below.refl _ _).alloc (Nat.le_refl _) _).alloc (by simp) _, by rw [heap_first]; exact heap_alloc_new _ _, heap_second _ _ _ _⟩
     rw [hw5]
     clear hw5
     have hback : Calls Try.prog 77 #[.slice (some ⟨g, 0, none⟩) (m + 3) (m + 3), .slice C m j] w5 (BackPost w5 g) := by
       obtain ⟨hE, v1, v2, v4, v5, v6⟩ := HE.out
       obtain ⟨U25, U05⟩ := rget_upd H.out H2.out.2.2.2 v1 v5 HK.out.2 HW5.out.1
       have hg2 := H2.out.2.2.1
       refine back6_any C m j L g w5 (fun wr hu => (HBK.out wr (U05.trans hu (fun b hb e => by omega))).rd) hm (H2.out.2.1.kept U25 (fun g' e hs => ?_))
       have e2 : g = g' := Option.some.inj e
       have := H.out.one.lt hs
       omega
     clear t1 t2 t3 t4 t5 t6 t7 t8 t9 t10 t11 t12 t13 t14 t15 t16
     go_wp2_with fail
     refine hback.mono ?_
     rintro e w6 ⟨rfl, u56⟩
     have HF : Hid (w6.heap[b1]? = some (.cells #[.int .i64 rt, .string rk, .int .i64 rc, .int .i64 rv] 34 (0, 0)) ∧ w6.heap[b2]? = some (.cells #[.int .i64 fe, .int .i64 fx] 37 (0, 0)) ∧ w6.heap[w4.heap.size]? = some (.cells #[.int .i64 rt, .string rk, .int .i64 rc, .int .i64 rv] 34 (0, 0)) ∧ w6.heap[w4.heap.size + 1]? = some (.cells #[.int .i64 fe, .int .i64 fx] 37 (0, 0))) := by
       obtain ⟨hE, v1, v2, v4, v5, v6⟩ := HE.out
       have hg2 : g < w2.heap.size := H2.out.2.1.lt rfl
       have hlt : ∀ b, S2 b → b < w2.heap.size := fun b hb => by have := H.out.one.lt ((v1 b).2 (.inr hb)); have := H2.out.2.2.2.size; omega
       have l1 := hE.l1
       have l2 := hE.l2
       have s1 := (Array.getElem?_eq_some_iff.1 hE.r).1
       have s2 := (Array.getElem?_eq_some_iff.1 hE.f).1
       have s3 := HK.out.2.size
       have s4 := HW5.out.1.size
       have s5 := (Array.getElem?_eq_some_iff.1 HW5.out.2.2).1
       have key : ∀ b ob, w2.heap.size ≤ b → wc.heap[b]? = some ob → w6.heap[b]? = some ob := fun b ob hb ho => by
         have hbl := (Array.getElem?_eq_some_iff.1 ho).1
         exact (u56.block b (by omega) (by omega)).trans ((HW5.out.1.block b (by omega)).trans ((HK.out.2.block b hbl (fun hh => by have := hlt b hh; omega)).trans ho))
       have s0 : w2.heap.size ≤ w4.heap.size := by omega
       exact ⟨key b1 _ l1 hE.r, key b2 _ l2 hE.f, (u56.block _ (by omega) (by omega)).trans HW5.out.2.1, (u56.block _ s5 (by omega)).trans HW5.out.2.2⟩
     have p1 : w6.cell? ⟨b1, 0, none⟩ = some (.int .i64 rt) := by simp [World.cell?, HF.out.1]
     have p2 : w6.cell? ⟨b1, 1, none⟩ = some (.string rk) := by simp [World.cell?, HF.out.1]
     have p3 : w6.cell? ⟨b1, 2, none⟩ = some (.int .i64 rc) := by simp [World.cell?, HF.out.1]
     have p4 : w6.cell? ⟨b1, 3, none⟩ = some (.int .i64 rv) := by simp [World.cell?, HF.out.1]
     have p5 : w6.cell? ⟨w4.heap.size, 0, none⟩ = some (.int .i64 rt) := by simp [World.cell?, HF.out.2.2.1]
     have p6 : w6.cell? ⟨w4.heap.size, 1, none⟩ = some (.string rk) := by simp [World.cell?, HF.out.2.2.1]
     have p7 : w6.cell? ⟨w4.heap.size, 2, none⟩ = some (.int .i64 rc) := by simp [World.cell?, HF.out.2.2.1]
     have p8 : w6.cell? ⟨w4.heap.size, 3, none⟩ = some (.int .i64 rv) := by simp [World.cell?, HF.out.2.2.1]
     have q1 : w6.cell? ⟨b2, 0, none⟩ = some (.int .i64 fe) := by simp [World.cell?, HF.out.2.1]
     have q2 : w6.cell? ⟨b2, 1, none⟩ = some (.int .i64 fx) := by simp [World.cell?, HF.out.2.1]
     have q3 : w6.cell? ⟨w4.heap.size + 1, 0, none⟩ = some (.int .i64 fe) := by simp [World.cell?, HF.out.2.2.2]
     have q4 : w6.cell? ⟨w4.heap.size + 1, 1, none⟩ = some (.int .i64 fx) := by simp [World.cell?, HF.out.2.2.2]
     have hre : ∀ w, (binOp .eql 34 (.agg #[.int .i64 rt, .string rk, .int .i64 rc, .int .i64 rv]) (.agg #[.int .i64 rt, .string rk, .int .i64 rc, .int .i64 rv])).run Try.prog w = .ok (.bool true) w := fun w => by
       have := rec_eql w ⟨rt, rk, rc, rv⟩ ⟨rt, rk, rc, rv⟩
       rw [recBeq_self] at this
       exact this
     have hfe := fun w => fault_eql w fe fx
     have HP : Hid (RTwo B W w6 o (N + 1) 0 p x c' (fun b => S' b ∨ S2 b) q y e0 T A n k l) := by
       obtain ⟨hE, v1, v2, v4, v5, v6⟩ := HE.out
       exact rget_done H.out hB H2.out.2.2.2 H2.out.2.2.1 (H2.out.2.1.lt rfl) v1 v2 v4 v5 (fun b hb => (v6 b hb).1) HK.out.1 HK.out.2 HW5.out.1 u56
     clear hback u56
     go_wp2
     go_ret
     exact ⟨bool_ret (by simp), HP.out.plays ha⟩
  · go_enter Try.func63, Try.ntmps63
    go_wp2_with fail
    refine hlent.mono ?_
    rintro e1 w2 ⟨g, rfl, hg, hr, hb⟩
    have h2 := H.out.below hb hB
    have k0 := h2.cell 1
    simp [rsides, ptr] at k0
    have hin : Rd w2 (some ⟨g, 0, none⟩) m (nums .u8 L) := by
      have := hr.rd.take (m := m) (by omega)
      have hl : L.length = m := (HBK.out w (Upd.refl _ _)).len
      rwa [nums_append, List.take_append_of_le_length (by rw [nums_length]; omega), List.take_of_length_le (by rw [nums_length]; omega)] at this
    obtain ⟨fv, hfv⟩ : ∃ fv, (.tuple #[.agg #[.int .i64 rt, .string rk, .int .i64 rc, .int .i64 rv], .int .i64 tt, .agg #[.int .i64 fe, .int .i64 fx]] : Value) = fv := ⟨_, rfl⟩
    have hgot0 : ∀ w', Below w2.heap.size w2 w' → Calls Try.prog 21 #[.pointer (some ⟨p, 0, none⟩), .slice (some ⟨g, 0, none⟩) m (m + 3), .int .i64 frm] w' (RGotIs o p x c c' N S w2 w' fv (fun _ => True)) := fun w' hb' => by
      obtain ⟨S1, S2, d1, r1, dis, hiff⟩ := h2.one
      have hin2 : BytesIn w2 (some ⟨g, 0, none⟩) m (m + 3) L := ⟨hin, HBY.out, by omega, by omega⟩
      refine (get_any (d1.below hb') (hin2.below hb') frm).mono ?_
      rintro e w'' ⟨S', rfl, z1, z2, z3⟩
      rw [HG.out] at z1 ⊢
      have hlt : ∀ b, S b → b < w2.heap.size := fun b hb => h2.one.lt hb
      refine ⟨by rw [← hfv]; rfl, ⟨⟨S1, S2, S', hiff, dis, (r1.below hb').kept z2 (fun b h2 h1 => dis b h1 h2), z1, z2, z3⟩, fun b hb => ⟨hlt b hb, (h2.s b hb).2.1⟩, hb', h2.olt⟩, trivial⟩
    have b0 : Below w2.heap.size w2 w2 := Below.refl _ _
    have cl : Calls Try.prog 21 #[.pointer (some ⟨p, 0, none⟩), .slice (some ⟨g, 0, none⟩) m (m + 3), .int .i64 frm] w2.drew (RGotIs o p x c c' N S w2 w2 fv (fun _ => True)) := (hgot0 w2.drew b0.drew).mono fun _ _ h => ⟨h.1, h.2.1.undrew, h.2.2⟩
    have clR : Calls Try.prog 21 #[.pointer (some ⟨p, 0, none⟩), .slice (some ⟨g, 0, none⟩) m (m + 3), .int .i64 frm] (w2.alloc (.cells #[.int .i64 0, .string ⟨#[]⟩, .int .i64 0, .int .i64 0] 34)).drew (RGotIs o p x c c' N S w2 (w2.alloc (.cells #[.int .i64 0, .string ⟨#[]⟩, .int .i64 0, .int .i64 0] 34)) fv (fun v => RCells v w2.heap.size)) :=
      (hgot0 _ (b0.alloc (Nat.le_refl _) _).drew).mono fun _ _ h => ⟨h.1, h.2.1.undrew, h.2.1.r rfl⟩
    have clF : Calls Try.prog 21 #[.pointer (some ⟨p, 0, none⟩), .slice (some ⟨g, 0, none⟩) m (m + 3), .int .i64 frm] (w2.alloc (.cells #[.int .i64 0, .int .i64 0] 37)).drew (RGotIs o p x c c' N S w2 (w2.alloc (.cells #[.int .i64 0, .int .i64 0] 37)) fv (fun v => FCells v w2.heap.size)) :=
      (hgot0 _ (b0.alloc (Nat.le_refl _) _).drew).mono fun _ _ h => ⟨h.1, h.2.1.undrew, h.2.1.f rfl⟩
    have clRF : Calls Try.prog 21 #[.pointer (some ⟨p, 0, none⟩), .slice (some ⟨g, 0, none⟩) m (m + 3), .int .i64 frm] ((w2.alloc (.cells #[.int .i64 0, .string ⟨#[]⟩, .int .i64 0, .int .i64 0] 34)).alloc (.cells #[.int .i64 0, .int .i64 0] 37)).drew (RGotIs o p x c c' N S w2 ((w2.alloc (.cells #[.int .i64 0, .string ⟨#[]⟩, .int .i64 0, .int .i64 0] 34)).alloc (.cells #[.int .i64 0, .int .i64 0] 37)) fv (fun v => RCells v w2.heap.size ∧ FCells v (w2.heap.size + 1))) :=
      (hgot0 _ ((b0.alloc (Nat.le_refl _) _).alloc (by simp) _).drew).mono fun _ _ h => ⟨h.1, h.2.1.undrew, h.2.1.rf rfl⟩
    have clFR : Calls Try.prog 21 #[.pointer (some ⟨p, 0, none⟩), .slice (some ⟨g, 0, none⟩) m (m + 3), .int .i64 frm] ((w2.alloc (.cells #[.int .i64 0, .int .i64 0] 37)).alloc (.cells #[.int .i64 0, .string ⟨#[]⟩, .int .i64 0, .int .i64 0] 34)).drew (RGotIs o p x c c' N S w2 ((w2.alloc (.cells #[.int .i64 0, .int .i64 0] 37)).alloc (.cells #[.int .i64 0, .string ⟨#[]⟩, .int .i64 0, .int .i64 0] 34)) fv (fun v => FCells v w2.heap.size ∧ RCells v (w2.heap.size + 1))) :=
      (hgot0 _ ((b0.alloc (Nat.le_refl _) _).alloc (by simp) _).drew).mono fun _ _ h => ⟨h.1, h.2.1.undrew, h.2.1.fr rfl⟩
    unfold RGotIs at cl clR clF clRF clFR
    unfold RCells at clR clRF clFR
    unfold FCells at clF clRF clFR
    clear b0 hgot0
    subst hfv
    have H2 := Lib.hid (And.intro h2 (And.intro hr (And.intro hg hb)))
    have hol2 : o < w2.heap.size := h2.olt
    obtain ⟨no1, no2, no3, no4⟩ : o ≠ w2.heap.size ∧ w2.heap.size ≠ o ∧ o ≠ w2.heap.size + 1 ∧ w2.heap.size + 1 ≠ o := by omega
    clear hlent h2 hr hg hb hin
    obtain ⟨t1, t2, t3, t4, t5, t6, t7, t8, t9, t10, t11, t12, t13, t14, t15, t16⟩ := twoBoxes
    go_upto_region 2 with fail
    go_cut [10, 11, 12] from 10 (fun v10 v11 v12 wx => ∃ b1 b2 : Nat, v10 = .pointer (some ⟨b1, 0, none⟩) ∧ v11 = .int .i64 tt ∧ v12 = .pointer (some ⟨b2, 0, none⟩) ∧ GotEnd o p x c c' N S w2 wx #[.int .i64 rt, .string rk, .int .i64 rc, .int .i64 rv] #[.int .i64 fe, .int .i64 fx] b1 b2)
    case first =>
     go_wp2_with fail
     go_region_held3 (fun w' => w'.cell? ⟨o, 1, none⟩ = some (.pointer (some ⟨p, 0, none⟩)))
      (repeat (first | (with_reducible assumption) | (with_reducible refine keep_drew ?_) | (with_reducible refine keep_alloc ?_) | (with_reducible refine keep_set ?_ ?_; first | (with_reducible exact no2) | (with_reducible exact no4) | (with_reducible assumption))))
      ((go_at_call 21; (first
        | ((with_reducible refine cl.mono ?_); rintro e w3 ⟨rfl, hgot, _⟩)
        | ((with_reducible refine clR.mono ?_); rintro e w3 ⟨rfl, hgot, g0, g1, g2, g3, g4, g5, g6, g7, g8, g9, g10, g11, g12⟩)
        | ((with_reducible refine clF.mono ?_); rintro e w3 ⟨rfl, hgot, f0, f1, f2, f3, f4, f5, f6, f7, f8⟩)
        | ((with_reducible refine clRF.mono ?_); rintro e w3 ⟨rfl, hgot, ⟨g0, g1, g2, g3, g4, g5, g6, g7, g8, g9, g10, g11, g12⟩, f0, f1, f2, f3, f4, f5, f6, f7, f8⟩)
        | ((with_reducible refine clFR.mono ?_); rintro e w3 ⟨rfl, hgot, ⟨f0, f1, f2, f3, f4, f5, f6, f7, f8⟩, g0, g1, g2, g3, g4, g5, g6, g7, g8, g9, g10, g11, g12⟩)); have k0' := hgot.cell k0; obtain ⟨no5, no6⟩ := hgot.ne; replace hgot := Lib.hid hgot))
     all_goals
      try (go_wp2_with fail)
      go_meet
      case rel =>
       clear cl clR clF clRF clFR t1 t2 t3 t4 t5 t6 t7 t8 t9 t10 t11 t12 t13 t14 t15 t16
       refine ⟨_, _, rfl, rfl, rfl, ?_⟩
       first | (with_reducible exact hgot.out.e1 _ _) | (with_reducible exact hgot.out.e2 _ _) | (with_reducible exact hgot.out.e3 _ _ _ _ _ _) | (with_reducible exact hgot.out.e4 _ _ _ _ _ _) | (with_reducible exact hgot.out.e4' _ _ _ _ _ _) | (with_reducible exact hgot.out.e5 _ _ _ _ _ _) | (with_reducible exact hgot.out.e6 _ _ _ _ _ _)
    case rest =>
     obtain ⟨b1, b2, rfl, rfl, rfl, hE⟩ := hcut
     obtain ⟨S1, S2, S', v1, v2, v3, v4, v5, v6⟩ := hE.now
     obtain ⟨H2a, H2b, H2c, H2d⟩ := H2.out
     have k2 : wc.cell? ⟨o, 3, none⟩ = some (.pointer (some ⟨x, 0, none⟩)) := by
       have e1 := (v5.block o H2a.olt (fun hs => (H2a.s o ((v1 o).2 (.inl hs))).2.1 rfl)).trans H2a.head
       simp [World.cell?, e1, rsides, ptr]
     have hrb : BytesIn wc C m j L := HBK.out wc (((Upd.of_below H2d).mono (fun b g1 g2 => by omega)).trans v5 (fun b _ hb => (v1 b).2 (.inl hb)))
     have hrg := refGet_any v3 hN hrb frm
     unfold RGetPost at hrg
     rw [HG.out] at hrg
     unfold Rec.val at hrg
     have HE := Lib.hid (And.intro hE (And.intro v1 (And.intro v2 (And.intro v4 (And.intro v5 v6)))))
     clear hE v1 v2 v3 v4 v5 v6 H2a H2b H2c H2d hrb cl clR clF clRF clFR no1 no2 no3 no4 hol2 k0
     go_wp2_with fail
     refine hrg.mono ?_
     rintro e w4 ⟨rfl, k1, k3⟩
     have HK := Lib.hid (And.intro k1 k3)
     clear hrg k1 k3 k2
     go_upto_region 4 with fail
     obtain ⟨w5, hw5⟩ : ∃ w5, (w4.alloc (.cells #[.int .i64 rt, .string rk, .int .i64 rc, .int .i64 rv] 34)).alloc (.cells #[.int .i64 fe, .int .i64 fx] 37) = w5 := ⟨_, rfl⟩
     have HW5 : Hid (Below w4.heap.size w4 w5 ∧ w5.heap[w4.heap.size]? = some (.cells #[.int .i64 rt, .string rk, .int .i64 rc, .int .i64 rv] 34 (0, 0)) ∧ w5.heap[w4.heap.size + 1]? = some (.cells #[.int .i64 fe, .int .i64 fx] 37 (0, 0))) := by
       rw [← hw5]
       exact ⟨((Below.refl _ _).alloc (Nat.le_refl _) _).alloc (by simp) _, by rw [heap_first]; exact heap_alloc_new _ _, heap_second _ _ _ _⟩
     rw [hw5]
     clear hw5
     have hback : Calls Try.prog 77 #[.slice (some ⟨g, 0, none⟩) (m + 3) (m + 3), .slice C m j] w5 (BackPost w5 g) := by
       obtain ⟨hE, v1, v2, v4, v5, v6⟩ := HE.out
       obtain ⟨U25, U05⟩ := rget_upd H.out H2.out.2.2.2 v1 v5 HK.out.2 HW5.out.1
       have hg2 := H2.out.2.2.1
       refine back6_any C m j L g w5 (fun wr hu => (HBK.out wr (U05.trans hu (fun b hb e => by omega))).rd) hm (H2.out.2.1.kept U25 (fun g' e hs => ?_))
       have e2 : g = g' := Option.some.inj e
       have := H.out.one.lt hs
       omega
     clear t1 t2 t3 t4 t5 t6 t7 t8 t9 t10 t11 t12 t13 t14 t15 t16
     go_wp2_with fail
     refine hback.mono ?_
     rintro e w6 ⟨rfl, u56⟩
     have HF : Hid (w6.heap[b1]? = some (.cells #[.int .i64 rt, .string rk, .int .i64 rc, .int .i64 rv] 34 (0, 0)) ∧ w6.heap[b2]? = some (.cells #[.int .i64 fe, .int .i64 fx] 37 (0, 0)) ∧ w6.heap[w4.heap.size]? = some (.cells #[.int .i64 rt, .string rk, .int .i64 rc, .int .i64 rv] 34 (0, 0)) ∧ w6.heap[w4.heap.size + 1]? = some (.cells #[.int .i64 fe, .int .i64 fx] 37 (0, 0))) := by
       obtain ⟨hE, v1, v2, v4, v5, v6⟩ := HE.out
       have hg2 : g < w2.heap.size := H2.out.2.1.lt rfl
       have hlt : ∀ b, S2 b → b < w2.heap.size := fun b hb => by have := H.out.one.lt ((v1 b).2 (.inr hb)); have := H2.out.2.2.2.size; omega
       have l1 := hE.l1
       have l2 := hE.l2
       have s1 := (Array.getElem?_eq_some_iff.1 hE.r).1
       have s2 := (Array.getElem?_eq_some_iff.1 hE.f).1
       have s3 := HK.out.2.size
       have s4 := HW5.out.1.size
       have s5 := (Array.getElem?_eq_some_iff.1 HW5.out.2.2).1
       have key : ∀ b ob, w2.heap.size ≤ b → wc.heap[b]? = some ob → w6.heap[b]? = some ob := fun b ob hb ho => by
         have hbl := (Array.getElem?_eq_some_iff.1 ho).1
         exact (u56.block b (by omega) (by omega)).trans ((HW5.out.1.block b (by omega)).trans ((HK.out.2.block b hbl (fun hh => by have := hlt b hh; omega)).trans ho))
       have s0 : w2.heap.size ≤ w4.heap.size := by omega
       exact ⟨key b1 _ l1 hE.r, key b2 _ l2 hE.f, (u56.block _ (by omega) (by omega)).trans HW5.out.2.1, (u56.block _ s5 (by omega)).trans HW5.out.2.2⟩
     have p1 : w6.cell? ⟨b1, 0, none⟩ = some (.int .i64 rt) := by simp [World.cell?, HF.out.1]
     have p2 : w6.cell? ⟨b1, 1, none⟩ = some (.string rk) := by simp [World.cell?, HF.out.1]
     have p3 : w6.cell? ⟨b1, 2, none⟩ = some (.int .i64 rc) := by simp [World.cell?, HF.out.1]
     have p4 : w6.cell? ⟨b1, 3, none⟩ = some (.int .i64 rv) := by simp [World.cell?, HF.out.1]
     have p5 : w6.cell? ⟨w4.heap.size, 0, none⟩ = some (.int .i64 rt) := by simp [World.cell?, HF.out.2.2.1]
     have p6 : w6.cell? ⟨w4.heap.size, 1, none⟩ = some (.string rk) := by simp [World.cell?, HF.out.2.2.1]
     have p7 : w6.cell? ⟨w4.heap.size, 2, none⟩ = some (.int .i64 rc) := by simp [World.cell?, HF.out.2.2.1]
     have p8 : w6.cell? ⟨w4.heap.size, 3, none⟩ = some (.int .i64 rv) := by simp [World.cell?, HF.out.2.2.1]
     have q1 : w6.cell? ⟨b2, 0, none⟩ = some (.int .i64 fe) := by simp [World.cell?, HF.out.2.1]
     have q2 : w6.cell? ⟨b2, 1, none⟩ = some (.int .i64 fx) := by simp [World.cell?, HF.out.2.1]
     have q3 : w6.cell? ⟨w4.heap.size + 1, 0, none⟩ = some (.int .i64 fe) := by simp [World.cell?, HF.out.2.2.2]
     have q4 : w6.cell? ⟨w4.heap.size + 1, 1, none⟩ = some (.int .i64 fx) := by simp [World.cell?, HF.out.2.2.2]
     have hre : ∀ w, (binOp .eql 34 (.agg #[.int .i64 rt, .string rk, .int .i64 rc, .int .i64 rv]) (.agg #[.int .i64 rt, .string rk, .int .i64 rc, .int .i64 rv])).run Try.prog w = .ok (.bool true) w := fun w => by
       have := rec_eql w ⟨rt, rk, rc, rv⟩ ⟨rt, rk, rc, rv⟩
       rw [recBeq_self] at this
       exact this
     have hfe := fun w => fault_eql w fe fx
     have HP : Hid (RTwo B W w6 o (N + 1) 1 p x c' (fun b => S' b ∨ S2 b) q y e0 T A n k l) := by
       obtain ⟨hE, v1, v2, v4, v5, v6⟩ := HE.out
       exact rget_done H.out hB H2.out.2.2.2 H2.out.2.2.1 (H2.out.2.1.lt rfl) v1 v2 v4 v5 (fun b hb => (v6 b hb).1) HK.out.1 HK.out.2 HW5.out.1 u56
     clear hback u56
     go_wp2
     go_ret
     exact ⟨bool_ret (by simp), HP.out.plays ha⟩
end Go.Proofs.Ytipiohkpdkandaa
namespace Go.Proofs.Ytipiohkpdkandaa
set_option linter.unusedVariables false
set_option linter.unusedSimpArgs false
open Go.RowKit

theorem RPlays.fin {B : Nat} {W w : World} {o : Nat} {N M : Int} (h : RPlays B W w o N) (hm : N ≤ M) (hB : B ≤ W.heap.size) (n : Nat) : RPlays B W (w.drewN n) o M := by
  obtain ⟨a, p, x, c, S, q, y, e, T, A, n', k, l, ha, h⟩ := h
  exact ((h.drewN n hB).more hm).plays ha
theorem RTwo.c4 {B : Nat} {W w : World} {o : Nat} {N : Int} {a p x : Nat} {c : CC} {S : Nat → Prop} {q y : Nat} {e : CC} {T : Nat → Prop} {A : Option Addr} {n k : Nat} {l : List Int} (h : RTwo B W w o N a p x c S q y e T A n k l) : w.cell? ⟨o, 4, none⟩ = some (.slice A n k) := by
  rw [h.cell 4]
  unfold rsides
  split <;> rfl
theorem RTwo.lastIn {B : Nat} {W w w' : World} {o : Nat} {N : Int} {a p x : Nat} {c : CC} {S : Nat → Prop} {q y : Nat} {e : CC} {T : Nat → Prop} {A : Option Addr} {n k : Nat} {l : List Int} (h : RTwo B W w o N a p x c S q y e T A n k l) (hu : Upd w w' S) : BytesIn w' A n k l :=
  ⟨(h.last.row.kept hu (fun g hg => (h.last.own g hg).2.2.1)).rd, h.last.bytes, h.last.cap, by have := h.last.max; omega⟩
theorem RTwo.belS {B : Nat} {W w w' : World} {o : Nat} {N : Int} {a p x : Nat} {c : CC} {S : Nat → Prop} {q y : Nat} {e : CC} {T : Nat → Prop} {A : Option Addr} {n k : Nat} {l : List Int} (h : RTwo B W w o N a p x c S q y e T A n k l) (hB : B ≤ W.heap.size) (hu : Upd w w' S) : Below B W w' := by
  have hs := h.bel.size
  exact h.bel.trans (hu.below (by omega) (fun b _ hb => (h.s b hb).1))

set_option maxRecDepth 100000 in
set_option maxHeartbeats 4000000 in
theorem rdoes_none {B : Nat} {W w : World} {o : Nat} {N : Int} {a p x : Nat} {d : CC} {S : Nat → Prop} {q y : Nat} {e0 : CC} {T : Nat → Prop} {A : Option Addr} {n k : Nat} {l : List Int} (h : RTwo B W w o N a p x d S q y e0 T A n k l) (ha : a < 2) (hB : B ≤ W.heap.size) (hN : N ≤ 4611686018427387903) (on : Int) (hand : bits .and .i64 on 1 = (a : Int)) (r : Rec) {C : Option Addr} {m j : Nat} (frm : Int) (act : Int) (e0' : (act == 0) = false) (e1 : (act == 1) = false) (e2 : (act == 2) = false) (e3 : (act == 3) = false) :
    Calls Try.prog 41 #[ptr o, .agg #[.int .i64 on, .int .i64 act, .int .i64 r.tick, .string r.key, .int .i64 r.cost, .int .i64 r.verdict, .slice C m j, .int .i64 frm]] w (RDoesIs B W o (N + 1)) := by
  have hol := h.olt
  have hHN := Lib.hid (show N ≤ N + 1 by omega)
  have hSbox : ¬ S w.heap.size := fun hb => by have := h.one.lt hb; omega
  have HSB := Lib.hid hSbox
  have hb0 := h.bel.size
  obtain ⟨w1, hw1⟩ : ∃ w1, w.alloc (.cells #[.int .i64 on, .int .i64 act, .int .i64 r.tick, .string r.key, .int .i64 r.cost, .int .i64 r.verdict, .slice C m j, .int .i64 frm] 95) = w1 := ⟨_, rfl⟩
  have b1 : Below w.heap.size w w1 := by rw [← hw1]; exact (Below.refl _ _).alloc (Nat.le_refl _) _
  have hbox : w1.heap[w.heap.size]? = some (.cells #[.int .i64 on, .int .i64 act, .int .i64 r.tick, .string r.key, .int .i64 r.cost, .int .i64 r.verdict, .slice C m j, .int .i64 frm] 95 (0, 0)) := by rw [← hw1]; exact heap_alloc_new w _
  have HBX := Lib.hid hbox
  have h1 := h.below b1 hB
  have H1 := Lib.hid h1
  have z0 : w1.cell? ⟨w.heap.size, 0, none⟩ = some (.int .i64 on) := by simp [World.cell?, hbox]
  have z1 : w1.cell? ⟨w.heap.size, 1, none⟩ = some (.int .i64 act) := by simp [World.cell?, hbox]
  have z2 : w1.cell? ⟨w.heap.size, 2, none⟩ = some (.int .i64 r.tick) := by simp [World.cell?, hbox]
  have z3 : w1.cell? ⟨w.heap.size, 3, none⟩ = some (.string r.key) := by simp [World.cell?, hbox]
  have z4 : w1.cell? ⟨w.heap.size, 4, none⟩ = some (.int .i64 r.cost) := by simp [World.cell?, hbox]
  have z5 : w1.cell? ⟨w.heap.size, 5, none⟩ = some (.int .i64 r.verdict) := by simp [World.cell?, hbox]
  have z6 : w1.cell? ⟨w.heap.size, 6, none⟩ = some (.slice C m j) := by simp [World.cell?, hbox]
  have z7 : w1.cell? ⟨w.heap.size, 7, none⟩ = some (.int .i64 frm) := by simp [World.cell?, hbox]
  clear h b1 hbox hSbox hb0 h1
  unfold ptr
  go_enter Try.func41, Try.ntmps41
  go_upto_region 1 with fail
  clear hw1
  go_wp2
  go_ret
  exact ⟨rfl, (H1.out.more hHN.out).plays ha⟩

set_option maxRecDepth 100000 in
set_option maxHeartbeats 4000000 in
theorem rdoes_get {B : Nat} {W w : World} {o : Nat} {N : Int} {a p x : Nat} {d : CC} {S : Nat → Prop} {q y : Nat} {e0 : CC} {T : Nat → Prop} {A : Option Addr} {n k : Nat} {l : List Int} (h : RTwo B W w o N a p x d S q y e0 T A n k l) (ha : a < 2) (hB : B ≤ W.heap.size) (hN : N ≤ 4611686018427387903) (on : Int) (hand : bits .and .i64 on 1 = (a : Int)) (r : Rec) {C : Option Addr} {m j : Nat} (frm : Int) {L : List Int} (hbk : ∀ w, Below B W w → BytesIn w C m j L) (hm : m ≤ 140737488351232) :
    Calls Try.prog 41 #[ptr o, .agg #[.int .i64 on, .int .i64 1, .int .i64 r.tick, .string r.key, .int .i64 r.cost, .int .i64 r.verdict, .slice C m j, .int .i64 frm]] w (RDoesIs B W o (N + 1)) := by
  have hol := h.olt
  have hHN := Lib.hid (show N ≤ N + 1 by omega)
  have hSbox : ¬ S w.heap.size := fun hb => by have := h.one.lt hb; omega
  have HSB := Lib.hid hSbox
  have hb0 := h.bel.size
  obtain ⟨w1, hw1⟩ : ∃ w1, w.alloc (.cells #[.int .i64 on, .int .i64 1, .int .i64 r.tick, .string r.key, .int .i64 r.cost, .int .i64 r.verdict, .slice C m j, .int .i64 frm] 95) = w1 := ⟨_, rfl⟩
  have b1 : Below w.heap.size w w1 := by rw [← hw1]; exact (Below.refl _ _).alloc (Nat.le_refl _) _
  have hbox : w1.heap[w.heap.size]? = some (.cells #[.int .i64 on, .int .i64 1, .int .i64 r.tick, .string r.key, .int .i64 r.cost, .int .i64 r.verdict, .slice C m j, .int .i64 frm] 95 (0, 0)) := by rw [← hw1]; exact heap_alloc_new w _
  have HBX := Lib.hid hbox
  have h1 := h.below b1 hB
  have H1 := Lib.hid h1
  have z0 : w1.cell? ⟨w.heap.size, 0, none⟩ = some (.int .i64 on) := by simp [World.cell?, hbox]
  have z1 : w1.cell? ⟨w.heap.size, 1, none⟩ = some (.int .i64 1) := by simp [World.cell?, hbox]
  have z2 : w1.cell? ⟨w.heap.size, 2, none⟩ = some (.int .i64 r.tick) := by simp [World.cell?, hbox]
  have z3 : w1.cell? ⟨w.heap.size, 3, none⟩ = some (.string r.key) := by simp [World.cell?, hbox]
  have z4 : w1.cell? ⟨w.heap.size, 4, none⟩ = some (.int .i64 r.cost) := by simp [World.cell?, hbox]
  have z5 : w1.cell? ⟨w.heap.size, 5, none⟩ = some (.int .i64 r.verdict) := by simp [World.cell?, hbox]
  have z6 : w1.cell? ⟨w.heap.size, 6, none⟩ = some (.slice C m j) := by simp [World.cell?, hbox]
  have z7 : w1.cell? ⟨w.heap.size, 7, none⟩ = some (.int .i64 frm) := by simp [World.cell?, hbox]
  have hget := wget_any h1 ha hB hN (fun w' hu => hbk w' (h1.belS hB hu)) hm frm
  clear h b1 hbox hSbox hb0 h1 hbk
  unfold ptr
  go_enter Try.func41, Try.ntmps41
  go_upto_region 1 with fail
  clear hw1
  go_wp2_with fail
  refine hget.mono ?_
  rintro e w2 ⟨rfl, hp⟩
  have HP := Lib.hid hp
  clear hget hp z0 z1 z2 z3 z4 z5 z6 z7
  go_wp2
  go_ret
  exact ⟨rfl, HP.out⟩

set_option maxRecDepth 100000 in
set_option maxHeartbeats 4000000 in
theorem rdoes_last {B : Nat} {W w : World} {o : Nat} {N : Int} {a p x : Nat} {d : CC} {S : Nat → Prop} {q y : Nat} {e0 : CC} {T : Nat → Prop} {A : Option Addr} {n k : Nat} {l : List Int} (h : RTwo B W w o N a p x d S q y e0 T A n k l) (ha : a < 2) (hB : B ≤ W.heap.size) (hN : N ≤ 4611686018427387903) (on : Int) (hand : bits .and .i64 on 1 = (a : Int)) (r : Rec) {C : Option Addr} {m j : Nat} (frm : Int) :
    Calls Try.prog 41 #[ptr o, .agg #[.int .i64 on, .int .i64 2, .int .i64 r.tick, .string r.key, .int .i64 r.cost, .int .i64 r.verdict, .slice C m j, .int .i64 frm]] w (RDoesIs B W o (N + 1)) := by
  have hol := h.olt
  have hHN := Lib.hid (show N ≤ N + 1 by omega)
  have hSbox : ¬ S w.heap.size := fun hb => by have := h.one.lt hb; omega
  have HSB := Lib.hid hSbox
  have hb0 := h.bel.size
  obtain ⟨w1, hw1⟩ : ∃ w1, w.alloc (.cells #[.int .i64 on, .int .i64 2, .int .i64 r.tick, .string r.key, .int .i64 r.cost, .int .i64 r.verdict, .slice C m j, .int .i64 frm] 95) = w1 := ⟨_, rfl⟩
  have b1 : Below w.heap.size w w1 := by rw [← hw1]; exact (Below.refl _ _).alloc (Nat.le_refl _) _
  have hbox : w1.heap[w.heap.size]? = some (.cells #[.int .i64 on, .int .i64 2, .int .i64 r.tick, .string r.key, .int .i64 r.cost, .int .i64 r.verdict, .slice C m j, .int .i64 frm] 95 (0, 0)) := by rw [← hw1]; exact heap_alloc_new w _
  have HBX := Lib.hid hbox
  have h1 := h.below b1 hB
  have H1 := Lib.hid h1
  have z0 : w1.cell? ⟨w.heap.size, 0, none⟩ = some (.int .i64 on) := by simp [World.cell?, hbox]
  have z1 : w1.cell? ⟨w.heap.size, 1, none⟩ = some (.int .i64 2) := by simp [World.cell?, hbox]
  have z2 : w1.cell? ⟨w.heap.size, 2, none⟩ = some (.int .i64 r.tick) := by simp [World.cell?, hbox]
  have z3 : w1.cell? ⟨w.heap.size, 3, none⟩ = some (.string r.key) := by simp [World.cell?, hbox]
  have z4 : w1.cell? ⟨w.heap.size, 4, none⟩ = some (.int .i64 r.cost) := by simp [World.cell?, hbox]
  have z5 : w1.cell? ⟨w.heap.size, 5, none⟩ = some (.int .i64 r.verdict) := by simp [World.cell?, hbox]
  have z6 : w1.cell? ⟨w.heap.size, 6, none⟩ = some (.slice C m j) := by simp [World.cell?, hbox]
  have z7 : w1.cell? ⟨w.heap.size, 7, none⟩ = some (.int .i64 frm) := by simp [World.cell?, hbox]
  have hget := wget_any h1 ha hB hN (fun w' hu => h1.lastIn hu) (by have := h1.last.max; omega) 0
  have k4 := h1.c4
  clear h b1 hbox hSbox hb0 h1
  unfold ptr
  go_enter Try.func41, Try.ntmps41
  go_upto_region 1 with fail
  clear hw1
  go_wp2_with fail
  refine hget.mono ?_
  rintro e w2 ⟨rfl, hp⟩
  have HP := Lib.hid hp
  clear hget hp z0 z1 z2 z3 z4 z5 z6 z7 k4
  go_wp2
  go_ret
  exact ⟨rfl, HP.out⟩

set_option maxRecDepth 100000 in
set_option maxHeartbeats 4000000 in
theorem rdoes_clone {B : Nat} {W w : World} {o : Nat} {N : Int} {a p x : Nat} {d : CC} {S : Nat → Prop} {q y : Nat} {e0 : CC} {T : Nat → Prop} {A : Option Addr} {n k : Nat} {l : List Int} (h : RTwo B W w o N a p x d S q y e0 T A n k l) (ha : a < 2) (hB : B ≤ W.heap.size) (hN : N ≤ 4611686018427387903) (on : Int) (hand : bits .and .i64 on 1 = (a : Int)) (r : Rec) {C : Option Addr} {m j : Nat} (frm : Int) :
    Calls Try.prog 41 #[ptr o, .agg #[.int .i64 on, .int .i64 3, .int .i64 r.tick, .string r.key, .int .i64 r.cost, .int .i64 r.verdict, .slice C m j, .int .i64 frm]] w (RDoesIs B W o (N + 1)) := by
  have hol := h.olt
  have hHN := Lib.hid (show N ≤ N + 1 by omega)
  have hSbox : ¬ S w.heap.size := fun hb => by have := h.one.lt hb; omega
  have HSB := Lib.hid hSbox
  have hb0 := h.bel.size
  obtain ⟨w1, hw1⟩ : ∃ w1, w.alloc (.cells #[.int .i64 on, .int .i64 3, .int .i64 r.tick, .string r.key, .int .i64 r.cost, .int .i64 r.verdict, .slice C m j, .int .i64 frm] 95) = w1 := ⟨_, rfl⟩
  have b1 : Below w.heap.size w w1 := by rw [← hw1]; exact (Below.refl _ _).alloc (Nat.le_refl _) _
  have hbox : w1.heap[w.heap.size]? = some (.cells #[.int .i64 on, .int .i64 3, .int .i64 r.tick, .string r.key, .int .i64 r.cost, .int .i64 r.verdict, .slice C m j, .int .i64 frm] 95 (0, 0)) := by rw [← hw1]; exact heap_alloc_new w _
  have HBX := Lib.hid hbox
  have h1 := h.below b1 hB
  have H1 := Lib.hid h1
  have z0 : w1.cell? ⟨w.heap.size, 0, none⟩ = some (.int .i64 on) := by simp [World.cell?, hbox]
  have z1 : w1.cell? ⟨w.heap.size, 1, none⟩ = some (.int .i64 3) := by simp [World.cell?, hbox]
  have z2 : w1.cell? ⟨w.heap.size, 2, none⟩ = some (.int .i64 r.tick) := by simp [World.cell?, hbox]
  have z3 : w1.cell? ⟨w.heap.size, 3, none⟩ = some (.string r.key) := by simp [World.cell?, hbox]
  have z4 : w1.cell? ⟨w.heap.size, 4, none⟩ = some (.int .i64 r.cost) := by simp [World.cell?, hbox]
  have z5 : w1.cell? ⟨w.heap.size, 5, none⟩ = some (.int .i64 r.verdict) := by simp [World.cell?, hbox]
  have z6 : w1.cell? ⟨w.heap.size, 6, none⟩ = some (.slice C m j) := by simp [World.cell?, hbox]
  have z7 : w1.cell? ⟨w.heap.size, 7, none⟩ = some (.int .i64 frm) := by simp [World.cell?, hbox]
  clear h b1 hbox hSbox hb0
  unfold ptr
  have hcs : a = 0 ∨ a = 1 := by omega
  rcases hcs with rfl | rfl
  · have hwr : IntKind.i64.wrap 1 = 1 := IntWalk.i64_in _ (by decide)
    have k4 := h1.c4
    have k0 := h1.cell 0
    have k1 := h1.cell 1
    have k2 := h1.cell 2
    have k3 := h1.cell 3
    simp [rsides, ptr] at k0 k1 k2 k3
    clear h1
    have hdr : ∀ m, Below w1.heap.size w1 (w1.drewN m) := fun m => below_drewN (Below.refl _ _) m
    have hcl : ∀ w', Below w1.heap.size w1 w' → Calls Try.prog 20 #[.pointer (some ⟨p, 0, none⟩)] w' (fun e w'' => ∃ q, e = .returned (.pointer (some ⟨q, 0, none⟩)) ∧ CoderNew w1 d q w'' ∧ Below w1.heap.size w1 w'') := fun w' hb => by
      obtain ⟨S1, S2, d1, r1, dis, hiff⟩ := H1.out.one
      refine (recClone_any (d1.kept (Upd.of_below hb) (fun b h1 h2 => by have := d1.lt h1; omega))).mono ?_
      rintro e w'' ⟨q, rfl, S3, a1, a2, a3⟩
      have hb3 := hb.trans (a3.mono hb.size)
      exact ⟨q, rfl, ⟨S3, a1, fun b hb' => by have := a2 b hb'; have := hb.size; omega, hb3⟩, hb3⟩
    go_enter Try.func41, Try.ntmps41
    go_upto_region 1 with fail
    clear hw1
    go_wp2_with fail
    go_region_held3 (fun w' => w'.cell? ⟨o, 0, none⟩ = some (.pointer (some ⟨p, 0, none⟩)))
      (first | go_keep | (rw [World.cell?_setCell_other _ _ _ _ (by simp)]; assumption))
      ((go_at_call 20; refine (hcl _ (by first | exact Below.refl _ _ | exact (Below.refl _ _).drew | exact ((Below.refl _ _).drew).drew | exact hdr _ | exact (hdr _).drew | exact ((hdr _).drew).drew)).mono ?_; rintro e w3 ⟨pn, rfl, dn, b3⟩; have c4 : w3.cell? ⟨o, 0, none⟩ = some (.pointer (some ⟨p, 0, none⟩)) := (b3.cell (p := ⟨o, 0, none⟩) H1.out.olt).trans k0; have cb : w3.cell? ⟨o, 1, none⟩ = some (.pointer (some ⟨q, 0, none⟩)) := (b3.cell (p := ⟨o, 1, none⟩) H1.out.olt).trans k1; have fb : w3.frozen? ⟨o, 1, none⟩ = false := (World.frozen?_of_block (w := w1) (b3.block o H1.out.olt)).trans (H1.out.free 1)))
    obtain ⟨w4, hw4⟩ : ∃ w4, w3.setCell ⟨o, 1, none⟩ (.pointer (some ⟨pn, 0, none⟩)) = w4 := ⟨_, rfl⟩
    have u4 : Upd w3 w4 (fun b => b = o) := by rw [← hw4]; exact setCell_upd w3 o 1 _
    have e3 : w3.heap[o]? = some (.cells (rsides 0 p q x y (.slice A n k)) 92 (0, 0)) := (b3.block o H1.out.olt).trans H1.out.head
    have e4 := cells_set5 (i := 1) (.pointer (some ⟨pn, 0, none⟩)) e3
    have hs13 := b3.size
    rw [hw4] at e4 ⊢
    have m5 : w4.cell? ⟨o, 2, none⟩ = some (.pointer (some ⟨x, 0, none⟩)) := by simp [World.cell?, e4, rsides, ptr]
    have HW4 := Lib.hid (And.intro hw4 (And.intro u4 (And.intro e4 (And.intro b3 dn))))
    have hol4 : o < w4.heap.size := (Array.getElem?_eq_some_iff.1 e4).1
    have hdr4 : ∀ m, Below w4.heap.size w4 (w4.drewN m) := fun m => below_drewN (Below.refl _ _) m
    have hcl2 : ∀ w', Below w4.heap.size w4 w' → Calls Try.prog 40 #[.pointer (some ⟨x, 0, none⟩)] w' (fun e w'' => ∃ q, e = .returned (.pointer (some ⟨q, 0, none⟩)) ∧ RCoderNew w4 d N q w'' ∧ Below w4.heap.size w4 w'') := fun w' hb => by
      obtain ⟨S1, S2, d1, r1, dis, hiff⟩ := H1.out.one
      have r4 := (r1.below HW4.out.2.2.2.1).kept HW4.out.2.1 (fun b h2 h => (H1.out.s b ((hiff b).2 (.inr h2))).2.1 h)
      refine (refCoderClone_any (r4.below hb)).mono ?_
      rintro e w'' ⟨q, rfl, S3, a1, a2, a3⟩
      have hb3 := hb.trans (a3.mono hb.size)
      exact ⟨q, rfl, ⟨S3, a1, fun b hb' => by have := a2 b hb'; have := hb.size; omega, hb3⟩, hb3⟩
    clear hcl hdr k0 k1 k2 k3 k4 c4 cb fb b3 dn hw4 u4 e3 e4 z0 z1 z2 z3 z4 z5 z6 z7
    go_wp2_with fail
    go_region_held3 (fun w' => w'.cell? ⟨o, 2, none⟩ = some (.pointer (some ⟨x, 0, none⟩)))
      (first | go_keep | (rw [World.cell?_setCell_other _ _ _ _ (by simp)]; assumption))
      ((go_at_call 40; refine (hcl2 _ (by first | exact Below.refl _ _ | exact (Below.refl _ _).drew | exact ((Below.refl _ _).drew).drew | exact hdr4 _ | exact (hdr4 _).drew | exact ((hdr4 _).drew).drew)).mono ?_; rintro e w5 ⟨xn, rfl, rn, b5⟩; have e5 := Lib.hid ((b5.block o hol4).trans HW4.out.2.2.1); have c4 : w5.cell? ⟨o, 2, none⟩ = some (.pointer (some ⟨x, 0, none⟩)) := (by simp [World.cell?, e5.out, rsides, ptr]); have cb : w5.cell? ⟨o, 3, none⟩ = some (.pointer (some ⟨y, 0, none⟩)) := (by simp [World.cell?, e5.out, rsides, ptr]); have fb : w5.frozen? ⟨o, 3, none⟩ = false := (by simp [World.frozen?, e5.out])))
    obtain ⟨w6, hw6⟩ : ∃ w6, w5.setCell ⟨o, 3, none⟩ (.pointer (some ⟨xn, 0, none⟩)) = w6 := ⟨_, rfl⟩
    have e6 := cells_set5 (i := 3) (.pointer (some ⟨xn, 0, none⟩)) e5.out
    rw [hw6] at e6 ⊢
    have mb' : w6.cell? ⟨o, 1, none⟩ = some (.pointer (some ⟨pn, 0, none⟩)) := by simp [World.cell?, e6, rsides, ptr]
    have HP : Hid (RPlays B W w6 o N) := by
      have hc := H1.out.cloned ha hB HW4.out.2.2.2.1 HW4.out.2.2.2.2 (w2 := w5) (xn := xn) (by
        show RCoderNew (w3.setCell ⟨o, 1, none⟩ (.pointer (some ⟨pn, 0, none⟩))) d N xn w5
        rw [HW4.out.1]; exact rn)
      have e : w5.setCell ⟨o, 2 + (1 - 0), none⟩ (ptr xn) = w6 := hw6
      rw [e] at hc
      exact hc
    clear hcl2 hdr4 m5 c4 cb fb rn b5 e5 e6 hw6
    go_wp2
    go_ret
    exact ⟨rfl, HP.out.fin hHN.out hB 0⟩
  · have hwr : IntKind.i64.wrap 0 = 0 := IntWalk.i64_in _ (by decide)
    have k4 := h1.c4
    have k0 := h1.cell 0
    have k1 := h1.cell 1
    have k2 := h1.cell 2
    have k3 := h1.cell 3
    simp [rsides, ptr] at k0 k1 k2 k3
    clear h1
    have hdr : ∀ m, Below w1.heap.size w1 (w1.drewN m) := fun m => below_drewN (Below.refl _ _) m
    have hcl : ∀ w', Below w1.heap.size w1 w' → Calls Try.prog 20 #[.pointer (some ⟨p, 0, none⟩)] w' (fun e w'' => ∃ q, e = .returned (.pointer (some ⟨q, 0, none⟩)) ∧ CoderNew w1 d q w'' ∧ Below w1.heap.size w1 w'') := fun w' hb => by
      obtain ⟨S1, S2, d1, r1, dis, hiff⟩ := H1.out.one
      refine (recClone_any (d1.kept (Upd.of_below hb) (fun b h1 h2 => by have := d1.lt h1; omega))).mono ?_
      rintro e w'' ⟨q, rfl, S3, a1, a2, a3⟩
      have hb3 := hb.trans (a3.mono hb.size)
      exact ⟨q, rfl, ⟨S3, a1, fun b hb' => by have := a2 b hb'; have := hb.size; omega, hb3⟩, hb3⟩
    go_enter Try.func41, Try.ntmps41
    go_upto_region 1 with fail
    clear hw1
    go_wp2_with fail
    go_region_held3 (fun w' => w'.cell? ⟨o, 1, none⟩ = some (.pointer (some ⟨p, 0, none⟩)))
      (first | go_keep | (rw [World.cell?_setCell_other _ _ _ _ (by simp)]; assumption))
      ((go_at_call 20; refine (hcl _ (by first | exact Below.refl _ _ | exact (Below.refl _ _).drew | exact ((Below.refl _ _).drew).drew | exact hdr _ | exact (hdr _).drew | exact ((hdr _).drew).drew)).mono ?_; rintro e w3 ⟨pn, rfl, dn, b3⟩; have c4 : w3.cell? ⟨o, 1, none⟩ = some (.pointer (some ⟨p, 0, none⟩)) := (b3.cell (p := ⟨o, 1, none⟩) H1.out.olt).trans k1; have cb : w3.cell? ⟨o, 0, none⟩ = some (.pointer (some ⟨q, 0, none⟩)) := (b3.cell (p := ⟨o, 0, none⟩) H1.out.olt).trans k0; have fb : w3.frozen? ⟨o, 0, none⟩ = false := (World.frozen?_of_block (w := w1) (b3.block o H1.out.olt)).trans (H1.out.free 0)))
    obtain ⟨w4, hw4⟩ : ∃ w4, w3.setCell ⟨o, 0, none⟩ (.pointer (some ⟨pn, 0, none⟩)) = w4 := ⟨_, rfl⟩
    have u4 : Upd w3 w4 (fun b => b = o) := by rw [← hw4]; exact setCell_upd w3 o 0 _
    have e3 : w3.heap[o]? = some (.cells (rsides 1 p q x y (.slice A n k)) 92 (0, 0)) := (b3.block o H1.out.olt).trans H1.out.head
    have e4 := cells_set5 (i := 0) (.pointer (some ⟨pn, 0, none⟩)) e3
    have hs13 := b3.size
    rw [hw4] at e4 ⊢
    have m5 : w4.cell? ⟨o, 3, none⟩ = some (.pointer (some ⟨x, 0, none⟩)) := by simp [World.cell?, e4, rsides, ptr]
    have HW4 := Lib.hid (And.intro hw4 (And.intro u4 (And.intro e4 (And.intro b3 dn))))
    have hol4 : o < w4.heap.size := (Array.getElem?_eq_some_iff.1 e4).1
    have hdr4 : ∀ m, Below w4.heap.size w4 (w4.drewN m) := fun m => below_drewN (Below.refl _ _) m
    have hcl2 : ∀ w', Below w4.heap.size w4 w' → Calls Try.prog 40 #[.pointer (some ⟨x, 0, none⟩)] w' (fun e w'' => ∃ q, e = .returned (.pointer (some ⟨q, 0, none⟩)) ∧ RCoderNew w4 d N q w'' ∧ Below w4.heap.size w4 w'') := fun w' hb => by
      obtain ⟨S1, S2, d1, r1, dis, hiff⟩ := H1.out.one
      have r4 := (r1.below HW4.out.2.2.2.1).kept HW4.out.2.1 (fun b h2 h => (H1.out.s b ((hiff b).2 (.inr h2))).2.1 h)
      refine (refCoderClone_any (r4.below hb)).mono ?_
      rintro e w'' ⟨q, rfl, S3, a1, a2, a3⟩
      have hb3 := hb.trans (a3.mono hb.size)
      exact ⟨q, rfl, ⟨S3, a1, fun b hb' => by have := a2 b hb'; have := hb.size; omega, hb3⟩, hb3⟩
    clear hcl hdr k0 k1 k2 k3 k4 c4 cb fb b3 dn hw4 u4 e3 e4 z0 z1 z2 z3 z4 z5 z6 z7
    go_wp2_with fail
    go_region_held3 (fun w' => w'.cell? ⟨o, 3, none⟩ = some (.pointer (some ⟨x, 0, none⟩)))
      (first | go_keep | (rw [World.cell?_setCell_other _ _ _ _ (by simp)]; assumption))
      ((go_at_call 40; refine (hcl2 _ (by first | exact Below.refl _ _ | exact (Below.refl _ _).drew | exact ((Below.refl _ _).drew).drew | exact hdr4 _ | exact (hdr4 _).drew | exact ((hdr4 _).drew).drew)).mono ?_; rintro e w5 ⟨xn, rfl, rn, b5⟩; have e5 := Lib.hid ((b5.block o hol4).trans HW4.out.2.2.1); have c4 : w5.cell? ⟨o, 3, none⟩ = some (.pointer (some ⟨x, 0, none⟩)) := (by simp [World.cell?, e5.out, rsides, ptr]); have cb : w5.cell? ⟨o, 2, none⟩ = some (.pointer (some ⟨y, 0, none⟩)) := (by simp [World.cell?, e5.out, rsides, ptr]); have fb : w5.frozen? ⟨o, 2, none⟩ = false := (by simp [World.frozen?, e5.out])))
    obtain ⟨w6, hw6⟩ : ∃ w6, w5.setCell ⟨o, 2, none⟩ (.pointer (some ⟨xn, 0, none⟩)) = w6 := ⟨_, rfl⟩
    have e6 := cells_set5 (i := 2) (.pointer (some ⟨xn, 0, none⟩)) e5.out
    rw [hw6] at e6 ⊢
    have mb' : w6.cell? ⟨o, 0, none⟩ = some (.pointer (some ⟨pn, 0, none⟩)) := by simp [World.cell?, e6, rsides, ptr]
    have HP : Hid (RPlays B W w6 o N) := by
      have hc := H1.out.cloned ha hB HW4.out.2.2.2.1 HW4.out.2.2.2.2 (w2 := w5) (xn := xn) (by
        show RCoderNew (w3.setCell ⟨o, 0, none⟩ (.pointer (some ⟨pn, 0, none⟩))) d N xn w5
        rw [HW4.out.1]; exact rn)
      have e : w5.setCell ⟨o, 2 + (1 - 1), none⟩ (ptr xn) = w6 := hw6
      rw [e] at hc
      exact hc
    clear hcl2 hdr4 m5 c4 cb fb rn b5 e5 e6 hw6
    go_wp2
    go_ret
    exact ⟨rfl, HP.out.fin hHN.out hB 0⟩
end Go.Proofs.Ytipiohkpdkandaa
namespace Go.Proofs.Ytipiohkpdkandaa
set_option linter.unusedVariables false
set_option linter.unusedSimpArgs false
open Go.RowKit

/-- What the coder's Put leaves. -/
structure PutIs (p : Nat) (d' : CC) (bs : List Int) (S1 : Nat → Prop) (w1 w3 : World) (A1 : Option Addr) (n1 k1 : Nat) (S' : Nat → Prop) : Prop where
  row : Row w3 5 A1 n1 k1 (nums .u8 bs)
  own : ∀ g, blk A1 = some g → w1.heap.size ≤ g ∧ ¬ S' g
  coder : CoderAt w3 p d' S'
  upd : Upd w1 w3 S1
  new : ∀ b, S' b → S1 b ∨ w1.heap.size ≤ b
section
variable {B : Nat} {W w1 w3 w4 : World} {o : Nat} {N : Int} {a p x : Nat} {d d' : CC} {S : Nat → Prop} {q y : Nat} {e0 : CC} {T : Nat → Prop} {A : Option Addr} {n k : Nat} {l bs : List Int} {S1 S2 S' : Nat → Prop} {A1 A2 : Option Addr} {n1 k1 k2 : Nat}
/-- Both have put: the state, the new last row, what may be spoilt. -/
theorem rput_done (h : RTwo B W w1 o N a p x d S q y e0 T A n k l) (ha : a < 2) (hB : B ≤ W.heap.size) (v1 : ∀ b, S b ↔ S1 b ∨ S2 b) (v2 : ∀ b, S1 b → ¬ S2 b) (hp : PutIs p d' bs S1 w1 w3 A1 n1 k1 S')
    (r1 : Row w4 5 A2 n1 k2 (nums .u8 bs)) (r2 : ∀ g, blk A2 = some g → w3.heap.size ≤ g) (r3 : RCoderAt w4 x d' (N + 1) S2) (r4 : Upd w3 w4 S2) (hbb : Bytes bs) (hbl : n1 ≤ 4096) (hk2 : n1 ≤ k2) {w6 : World}
    (u6 : Upd (w4.setCell ⟨o, 4, none⟩ (.slice A2 n1 k2)) w6 (fun b => blk A1 = some b)) : RPlays B W w6 o (N + 1) := by
  have hlt : ∀ b, S b → b < w1.heap.size := fun b hb => h.one.lt hb
  have hdis : ∀ b, S' b → ¬ S2 b := fun b hb h2 => by
    rcases hp.new b hb with hh | hh
    · exact v2 b hh h2
    · have := hlt b ((v1 b).2 (.inr h2)); omega
  have e1 : Upd w1 w4 S := (hp.upd.mono (fun b _ hb => (v1 b).2 (.inl hb))).trans r4 (fun b _ hb => (v1 b).2 (.inr hb))
  have s1 := hp.upd.size
  have s2 := r4.size
  have hst := h.step (S' := fun b => S' b ∨ S2 b) ⟨S', S2, hp.coder.kept r4 hdis, r3, hdis, fun b => Iff.rfl⟩ e1 (by
    rintro b (hb | hb)
    · rcases hp.new b hb with hh | hh
      · exact .inl ((v1 b).2 (.inl hh))
      · exact .inr hh
    · exact .inl ((v1 b).2 (.inr hb))) (show N ≤ N + 1 by omega) hB
  have hs0 := h.bel.size
  have hol := h.olt
  have hS'lt : ∀ b, S' b → b < w3.heap.size := fun b hb => hp.coder.lt hb
  have hTlt : ∀ b, T b → b < w1.heap.size := fun b hb => h.two.lt hb
  have hlay := hst.laid ha hB (A' := A2) (n' := n1) (k' := k2) (l' := bs) ⟨r1, hbb, hk2, hbl, fun g hg => by
    have hg2 := r2 g hg
    refine ⟨by omega, by omega, ?_, fun ht => by have := hTlt g ht; omega⟩
    rintro (hh | hh)
    · have := hS'lt g hh; omega
    · have := hlt g ((v1 g).2 (.inr hh)); omega⟩
  refine (hlay.outer u6 (fun b hb => ?_) hB).plays ha
  have hb1 := hp.own b hb
  have hb3 := hp.row.lt hb
  refine ⟨by omega, by omega, ?_, fun ht => by have := hTlt b ht; omega, fun h2 => by have := r2 b h2; omega⟩
  rintro (hh | hh)
  · exact hb1.2 hh
  · have := hlt b ((v1 b).2 (.inr hh)); omega
end

set_option maxRecDepth 100000 in
set_option maxHeartbeats 4000000 in
theorem rdoes_put {B : Nat} {W w : World} {o : Nat} {N : Int} {a p x : Nat} {d : CC} {S : Nat → Prop} {q y : Nat} {e0 : CC} {T : Nat → Prop} {A : Option Addr} {n k : Nat} {l : List Int} (h : RTwo B W w o N a p x d S q y e0 T A n k l) (ha : a < 2) (hB : B ≤ W.heap.size) (hN : N ≤ 4611686018427387903) (on : Int) (hand : bits .and .i64 on 1 = (a : Int)) (r : Rec) {C : Option Addr} {m j : Nat} (frm : Int) (hm : r.key.size ≤ maxLen) :
    Calls Try.prog 41 #[ptr o, .agg #[.int .i64 on, .int .i64 0, .int .i64 r.tick, .string r.key, .int .i64 r.cost, .int .i64 r.verdict, .slice C m j, .int .i64 frm]] w (RDoesIs B W o (N + 1)) := by
  have hol := h.olt
  have hHN := Lib.hid (show N ≤ N + 1 by omega)
  have hSbox : ¬ S w.heap.size := fun hb => by have := h.one.lt hb; omega
  have HSB := Lib.hid hSbox
  have hb0 := h.bel.size
  obtain ⟨w1, hw1⟩ : ∃ w1, w.alloc (.cells #[.int .i64 on, .int .i64 0, .int .i64 r.tick, .string r.key, .int .i64 r.cost, .int .i64 r.verdict, .slice C m j, .int .i64 frm] 95) = w1 := ⟨_, rfl⟩
  have b1 : Below w.heap.size w w1 := by rw [← hw1]; exact (Below.refl _ _).alloc (Nat.le_refl _) _
  have hbox : w1.heap[w.heap.size]? = some (.cells #[.int .i64 on, .int .i64 0, .int .i64 r.tick, .string r.key, .int .i64 r.cost, .int .i64 r.verdict, .slice C m j, .int .i64 frm] 95 (0, 0)) := by rw [← hw1]; exact heap_alloc_new w _
  have HBX := Lib.hid hbox
  have h1 := h.below b1 hB
  have H1 := Lib.hid h1
  have z0 : w1.cell? ⟨w.heap.size, 0, none⟩ = some (.int .i64 on) := by simp [World.cell?, hbox]
  have z1 : w1.cell? ⟨w.heap.size, 1, none⟩ = some (.int .i64 0) := by simp [World.cell?, hbox]
  have z2 : w1.cell? ⟨w.heap.size, 2, none⟩ = some (.int .i64 r.tick) := by simp [World.cell?, hbox]
  have z3 : w1.cell? ⟨w.heap.size, 3, none⟩ = some (.string r.key) := by simp [World.cell?, hbox]
  have z4 : w1.cell? ⟨w.heap.size, 4, none⟩ = some (.int .i64 r.cost) := by simp [World.cell?, hbox]
  have z5 : w1.cell? ⟨w.heap.size, 5, none⟩ = some (.int .i64 r.verdict) := by simp [World.cell?, hbox]
  have z6 : w1.cell? ⟨w.heap.size, 6, none⟩ = some (.slice C m j) := by simp [World.cell?, hbox]
  have z7 : w1.cell? ⟨w.heap.size, 7, none⟩ = some (.int .i64 frm) := by simp [World.cell?, hbox]
  obtain ⟨d', bs, er, hpf⟩ : ∃ d' bs er, putF d r = (d', bs, er) := ⟨_, _, _, rfl⟩
  have hbb := putF_bytes d r
  have hbl := putF_len h1.one.inv r
  rw [hpf] at hbb hbl
  obtain ⟨n1, hn1⟩ : ∃ n1, bs.length = n1 := ⟨_, rfl⟩
  simp only [hn1] at hbl
  have HB := Lib.hid (And.intro hpf (And.intro hbb hn1))
  obtain ⟨rt, rk, rc, rv⟩ := r
  dsimp only at z2 z3 z4 z5 hm
  clear h b1 hbox hSbox hb0 hpf hbb hn1
  unfold ptr
  have hcs : a = 0 ∨ a = 1 := by omega
  rcases hcs with rfl | rfl
  · have k4 := h1.c4
    have k0 := h1.cell 0
    have k1 := h1.cell 1
    have k2 := h1.cell 2
    have k3 := h1.cell 3
    simp [rsides, ptr] at k0 k1 k2 k3
    clear h1
    obtain ⟨S1, S2, d1, r1, v1, v2⟩ := H1.out.one
    have HV := Lib.hid (And.intro r1 (And.intro v1 v2))
    have hput : ∀ w', Below w1.heap.size w1 w' → Calls Try.prog 19 #[.pointer (some ⟨p, 0, none⟩), .agg #[.int .i64 rt, .string rk, .int .i64 rc, .int .i64 rv]] w' (fun e w'' => ∃ A1 k1 S', e = .returned (.tuple #[.slice A1 n1 k1, .int .i64 er]) ∧ PutIs p d' bs S1 w1 w'' A1 n1 k1 S' ∧
        w''.cell? ⟨o, 0, none⟩ = some (.pointer (some ⟨p, 0, none⟩)) ∧ w''.cell? ⟨o, 2, none⟩ = some (.pointer (some ⟨x, 0, none⟩)) ∧ w''.cell? ⟨w.heap.size, 2, none⟩ = some (.int .i64 rt) ∧ w''.cell? ⟨w.heap.size, 3, none⟩ = some (.string rk) ∧ w''.cell? ⟨w.heap.size, 4, none⟩ = some (.int .i64 rc) ∧ w''.cell? ⟨w.heap.size, 5, none⟩ = some (.int .i64 rv)) := fun w' hb => by
      have hp := put_any (d1.below hb) ⟨rt, rk, rc, rv⟩ hm
      refine hp.mono ?_
      rintro e w'' ⟨A1, k1, S', rfl, q1, q2, q3, q4, q5⟩
      rw [HB.out.1] at q1 q3 ⊢
      simp only [HB.out.2.2] at q1 ⊢
      have hs := hb.size
      have e1 : Upd w1 w'' S1 := ((Upd.of_below hb).mono (fun b h1 h2 => absurd h1 (by omega))).trans q4 (fun b _ hb => hb)
      have eo : w''.heap[o]? = _ := (e1.block o H1.out.olt (fun hh => (H1.out.s o ((v2 o).2 (.inl hh))).2.1 rfl)).trans H1.out.head
      have eb : w''.heap[w.heap.size]? = _ := (e1.block w.heap.size (Array.getElem?_eq_some_iff.1 HBX.out).1 (fun hh => HSB.out ((v2 _).2 (.inl hh)))).trans HBX.out
      refine ⟨A1, k1, S', rfl, ⟨q1, fun g hg => ⟨by have := (q2 g hg).1; omega, (q2 g hg).2⟩, q3, e1, fun b hb => (q5 b hb).imp id (by omega)⟩, ?_, ?_, ?_, ?_, ?_, ?_⟩
      · simp [World.cell?, eo, rsides, ptr]
      · simp [World.cell?, eo, rsides, ptr]
      · simp [World.cell?, eb]
      · simp [World.cell?, eb]
      · simp [World.cell?, eb]
      · simp [World.cell?, eb]
    clear d1 r1 v1 v2
    have hdr : ∀ m, Below w1.heap.size w1 (w1.drewN m) := fun m => below_drewN (Below.refl _ _) m
    go_enter Try.func41, Try.ntmps41
    go_upto_region 1 with fail
    clear hw1
    go_wp2_with fail
    go_region_held3 (fun w' => w'.cell? ⟨o, 0, none⟩ = some (.pointer (some ⟨p, 0, none⟩)) ∧ w'.cell? ⟨w.heap.size, 2, none⟩ = some (.int .i64 rt) ∧ w'.cell? ⟨w.heap.size, 3, none⟩ = some (.string rk) ∧ w'.cell? ⟨w.heap.size, 4, none⟩ = some (.int .i64 rc) ∧ w'.cell? ⟨w.heap.size, 5, none⟩ = some (.int .i64 rv))
      (first | exact ⟨by assumption, by assumption, by assumption, by assumption, by assumption⟩ | go_keep)
      ((go_at_call 19; refine (hput _ (by first | exact Below.refl _ _ | exact (Below.refl _ _).drew | exact ((Below.refl _ _).drew).drew | exact hdr _ | exact (hdr _).drew)).mono ?_; rintro e w3 ⟨A1, k1', S', rfl, hp, c0, c1, c2, c3, c4, c5⟩))
    have hp9 : PutIs p d' bs S1 w1 w3 A1 n1 k1' S' := hp
    have hrput : ∀ w', Below w3.heap.size w3 w' → Calls Try.prog 62 #[.pointer (some ⟨x, 0, none⟩), .agg #[.int .i64 rt, .string rk, .int .i64 rc, .int .i64 rv]] w' (fun e w'' => ∃ A2 k2, e = .returned (.tuple #[.slice A2 n1 k2, .int .i64 er]) ∧ Row w'' 5 A2 n1 k2 (nums .u8 bs) ∧ (∀ g, blk A2 = some g → w3.heap.size ≤ g) ∧ RCoderAt w'' x d' (N + 1) S2 ∧ Upd w3 w'' S2 ∧
        w''.cell? ⟨o, 2, none⟩ = some (.pointer (some ⟨x, 0, none⟩)) ∧ w''.cell? ⟨w.heap.size, 2, none⟩ = some (.int .i64 rt) ∧ w''.cell? ⟨w.heap.size, 3, none⟩ = some (.string rk) ∧ w''.cell? ⟨w.heap.size, 4, none⟩ = some (.int .i64 rc) ∧ w''.cell? ⟨w.heap.size, 5, none⟩ = some (.int .i64 rv)) := fun w' hb => by
      have hlt : ∀ b, S2 b → b < w1.heap.size := fun b hb => H1.out.one.lt ((HV.out.2.2 b).2 (.inr hb))
      have r3 := (HV.out.1.kept hp9.upd (fun b h2 h1 => HV.out.2.1 b h1 h2)).below hb
      refine (refPut_any r3 hN ⟨rt, rk, rc, rv⟩ hm).mono ?_
      rintro e w'' ⟨A2, k2, rfl, q1, q2, q3, q4⟩
      rw [HB.out.1] at q1 q3 ⊢
      simp only [HB.out.2.2] at q1 ⊢
      have hs := hb.size
      have hs1 := hp9.upd.size
      have e1 : Upd w3 w'' S2 := ((Upd.of_below hb).mono (fun b h1 h2 => absurd h1 (by omega))).trans q4 (fun b _ hb => hb)
      have ebx := (Array.getElem?_eq_some_iff.1 HBX.out).1
      have eo : w''.heap[o]? = _ := (e1.block o (by have := H1.out.olt; omega) (fun hh => (H1.out.s o ((HV.out.2.2 o).2 (.inr hh))).2.1 rfl)).trans ((hp9.upd.block o H1.out.olt (fun hh => (H1.out.s o ((HV.out.2.2 o).2 (.inl hh))).2.1 rfl)).trans H1.out.head)
      have eb : w''.heap[w.heap.size]? = _ := (e1.block w.heap.size (by omega) (fun hh => HSB.out ((HV.out.2.2 _).2 (.inr hh)))).trans ((hp9.upd.block w.heap.size ebx (fun hh => HSB.out ((HV.out.2.2 _).2 (.inl hh)))).trans HBX.out)
      refine ⟨A2, k2, rfl, q1, fun g hg => by have := q2 g hg; omega, q3, e1, ?_, ?_, ?_, ?_, ?_⟩
      · simp [World.cell?, eo, rsides, ptr]
      · simp [World.cell?, eb]
      · simp [World.cell?, eb]
      · simp [World.cell?, eb]
      · simp [World.cell?, eb]
    have hdr3 : ∀ m, Below w3.heap.size w3 (w3.drewN m) := fun m => below_drewN (Below.refl _ _) m
    have HP := Lib.hid hp9
    clear hput hp hp9 hdr k0 k1 k2 k3 k4 z0 z1 z2 z3 z4 z5 z6 z7 c0
    go_wp2_with fail
    go_region_held3 (fun w' => w'.cell? ⟨o, 2, none⟩ = some (.pointer (some ⟨x, 0, none⟩)) ∧ w'.cell? ⟨w.heap.size, 2, none⟩ = some (.int .i64 rt) ∧ w'.cell? ⟨w.heap.size, 3, none⟩ = some (.string rk) ∧ w'.cell? ⟨w.heap.size, 4, none⟩ = some (.int .i64 rc) ∧ w'.cell? ⟨w.heap.size, 5, none⟩ = some (.int .i64 rv))
      (first | exact ⟨by assumption, by assumption, by assumption, by assumption, by assumption⟩ | go_keep)
      ((go_at_call 62; refine (hrput _ (by first | exact Below.refl _ _ | exact (Below.refl _ _).drew | exact ((Below.refl _ _).drew).drew | exact hdr3 _ | exact (hdr3 _).drew)).mono ?_; rintro e w4 ⟨A2, k2', rfl, hr1, hr2, hr3, hr4, b1, b2, b3, b4, b5⟩))
    have hr4' : Upd w3 w4 S2 := hr4
    have ho4 : o < w4.heap.size := by have := H1.out.olt; have := HP.out.upd.size; have := hr4'.size; omega
    have eo4 : w4.heap[o]? = some (.cells (rsides 0 p q x y (.slice A n k)) 92 (0, 0)) := (hr4'.block o (by have := H1.out.olt; have := HP.out.upd.size; omega) (fun hh => (H1.out.s o ((HV.out.2.2 o).2 (.inr hh))).2.1 rfl)).trans ((HP.out.upd.block o H1.out.olt (fun hh => (H1.out.s o ((HV.out.2.2 o).2 (.inl hh))).2.1 rfl)).trans H1.out.head)
    have m4 : w4.cell? ⟨o, 4, none⟩ = some (.slice A n k) := by simp [World.cell?, eo4, rsides, ptr]
    have f4 : w4.frozen? ⟨o, 4, none⟩ = false := by simp [World.frozen?, eo4]
    have hrow1 : Row w4 5 A1 n1 k1' (nums .u8 bs) := HP.out.row.kept hr4' (fun g hg hh => by
      have h1 := HP.out.own g hg
      have h2 := H1.out.one.lt ((HV.out.2.2 g).2 (.inr hh))
      omega)
    have t1 := row_text_any hrow1
    have t2 := row_text_any hr1
    have hkk : n1 ≤ k2' := by
      rcases hr1.form with ⟨_, h0, h1⟩ | ⟨g, cur, _, h2, h3, h4, h5, h6⟩
      · omega
      · omega
    obtain ⟨K, hK⟩ : ∃ K, strOfNums bs = K := ⟨_, rfl⟩
    rw [hK] at t1 t2
    have HR := Lib.hid (And.intro hr1 (And.intro hr2 (And.intro hr3 (And.intro hr4' hkk))))
    have hrow5 : Row (w4.setCell ⟨o, 4, none⟩ (.slice A2 n1 k2')) 5 A1 n1 k1' (nums .u8 bs) := hrow1.kept (setCell_upd w4 o 4 _) (fun g hg e => by
      have h1 := HP.out.own g hg
      have h2 := H1.out.olt
      omega)
    have H5 := Lib.hid hrow5
    clear hrput hdr3 hr1 hr2 hr3 hr4 hr4' hkk hrow1 hrow5 eo4 ho4 hK b1 b2 b3 b4 b5 c1 c2 c3 c4 c5
    go_wp2_with fail
    obtain ⟨w5, hw5⟩ : ∃ w5, w4.setCell ⟨o, 4, none⟩ (.slice A2 n1 k2') = w5 := ⟨_, rfl⟩
    have H6 : Hid (Row w5 5 A1 n1 k1' (nums .u8 bs)) := by rw [← hw5]; exact H5.out
    have HW := Lib.hid hw5
    rw [hw5]
    clear hw5 m4 f4 t1 t2 H5
    go_loopg [11] n1 (fun gk v11 wr => ∃ (i : Nat) (L : List Value), v11 = .int .i64 i ∧ gk + i = n1 ∧ Row wr 5 A1 n1 k1' L ∧ Hid (∀ j : Nat, j < n1 → ∃ z : Int, L[j]? = some (.int .u8 z)) ∧ Hid (Upd w5 wr (fun b => blk A1 = some b)))
    case atStart => exact ⟨0, _, rfl, rfl, H6.out, Lib.hid (fun j hj => by
      obtain ⟨z, hz⟩ : ∃ z, bs[j]? = some z := ⟨_, List.getElem?_eq_getElem (by rw [HB.out.2.2]; exact hj)⟩
      exact ⟨z, by rw [nums_get, hz]; rfl⟩), Lib.hid (Upd.refl _ _)⟩
    case round =>
      clear H6
      obtain ⟨i, L, rfl, hi, hr, hL, hu⟩ := hrel
      by_cases hin : i < n1
      · have hini : (i : Int) < n1 := by omega
        obtain ⟨g, hAg⟩ : ∃ g, A1 = some ⟨g, 0, none⟩ := by
          rcases hr.form with ⟨_, h0, _⟩ | ⟨g, _, h0, _⟩
          · omega
          · exact ⟨g, h0⟩
        subst hAg
        obtain ⟨z, hz⟩ := hL.out i hin
        have cy := hr.cell hz
        have fy := hr.free i
        have HH : Hid (∀ zz, Row (wr.setCell ⟨g, i, none⟩ (.int .u8 zz)) 5 (some ⟨g, 0, none⟩) n1 k1' (L.set i (.int .u8 zz)) ∧ (∀ j : Nat, j < n1 → ∃ z : Int, (L.set i (.int .u8 zz))[j]? = some (.int .u8 z)) ∧ Upd w5 (wr.setCell ⟨g, i, none⟩ (.int .u8 zz)) (fun b => blk (some ⟨g, 0, none⟩) = some b)) := by
          refine Lib.hid (fun zz => ⟨hr.store i _, fun j hj => ?_, hu.out.setCell (a := ⟨g, i, none⟩) (fun _ => rfl) _⟩)
          by_cases e : j = i
          · subst e; exact ⟨zz, by rw [List.getElem?_set_self (by rw [hr.len]; exact hj)]⟩
          · rw [List.getElem?_set_ne (by omega)]; exact hL.out j hj
        clear hr hL hu hz hin
        go_wp2
        go_roundg (n1 - i - 1)
        case measure => omega
        case rel => exact ⟨i + 1, _, by go_num, by omega, (HH.out _).1, Lib.hid (HH.out _).2.1, Lib.hid (HH.out _).2.2⟩
      · have hini : (n1 : Int) ≤ i := by omega
        have hdf : decide (i < n1) = false := decide_eq_false hin
        clear hr hL hin
        go_wp2
        go_ret
        refine ⟨bool_ret (by simp), ?_⟩
        refine rput_done H1.out ha hB HV.out.2.2 HV.out.2.1 HP.out HR.out.1 HR.out.2.1 HR.out.2.2.1 HR.out.2.2.2.1 HB.out.2.1 (by omega) HR.out.2.2.2.2 (w6 := wr) ?_
        rw [HW.out]
        exact hu.out
  · have k4 := h1.c4
    have k0 := h1.cell 0
    have k1 := h1.cell 1
    have k2 := h1.cell 2
    have k3 := h1.cell 3
    simp [rsides, ptr] at k0 k1 k2 k3
    clear h1
    obtain ⟨S1, S2, d1, r1, v1, v2⟩ := H1.out.one
    have HV := Lib.hid (And.intro r1 (And.intro v1 v2))
    have hput : ∀ w', Below w1.heap.size w1 w' → Calls Try.prog 19 #[.pointer (some ⟨p, 0, none⟩), .agg #[.int .i64 rt, .string rk, .int .i64 rc, .int .i64 rv]] w' (fun e w'' => ∃ A1 k1 S', e = .returned (.tuple #[.slice A1 n1 k1, .int .i64 er]) ∧ PutIs p d' bs S1 w1 w'' A1 n1 k1 S' ∧
        w''.cell? ⟨o, 1, none⟩ = some (.pointer (some ⟨p, 0, none⟩)) ∧ w''.cell? ⟨o, 3, none⟩ = some (.pointer (some ⟨x, 0, none⟩)) ∧ w''.cell? ⟨w.heap.size, 2, none⟩ = some (.int .i64 rt) ∧ w''.cell? ⟨w.heap.size, 3, none⟩ = some (.string rk) ∧ w''.cell? ⟨w.heap.size, 4, none⟩ = some (.int .i64 rc) ∧ w''.cell? ⟨w.heap.size, 5, none⟩ = some (.int .i64 rv)) := fun w' hb => by
      have hp := put_any (d1.below hb) ⟨rt, rk, rc, rv⟩ hm
      refine hp.mono ?_
      rintro e w'' ⟨A1, k1, S', rfl, q1, q2, q3, q4, q5⟩
      rw [HB.out.1] at q1 q3 ⊢
      simp only [HB.out.2.2] at q1 ⊢
      have hs := hb.size
      have e1 : Upd w1 w'' S1 := ((Upd.of_below hb).mono (fun b h1 h2 => absurd h1 (by omega))).trans q4 (fun b _ hb => hb)
      have eo : w''.heap[o]? = _ := (e1.block o H1.out.olt (fun hh => (H1.out.s o ((v2 o).2 (.inl hh))).2.1 rfl)).trans H1.out.head
      have eb : w''.heap[w.heap.size]? = _ := (e1.block w.heap.size (Array.getElem?_eq_some_iff.1 HBX.out).1 (fun hh => HSB.out ((v2 _).2 (.inl hh)))).trans HBX.out
      refine ⟨A1, k1, S', rfl, ⟨q1, fun g hg => ⟨by have := (q2 g hg).1; omega, (q2 g hg).2⟩, q3, e1, fun b hb => (q5 b hb).imp id (by omega)⟩, ?_, ?_, ?_, ?_, ?_, ?_⟩
      · simp [World.cell?, eo, rsides, ptr]
      · simp [World.cell?, eo, rsides, ptr]
      · simp [World.cell?, eb]
      · simp [World.cell?, eb]
      · simp [World.cell?, eb]
      · simp [World.cell?, eb]
    clear d1 r1 v1 v2
    have hdr : ∀ m, Below w1.heap.size w1 (w1.drewN m) := fun m => below_drewN (Below.refl _ _) m
    go_enter Try.func41, Try.ntmps41
    go_upto_region 1 with fail
    clear hw1
    go_wp2_with fail
    go_region_held3 (fun w' => w'.cell? ⟨o, 1, none⟩ = some (.pointer (some ⟨p, 0, none⟩)) ∧ w'.cell? ⟨w.heap.size, 2, none⟩ = some (.int .i64 rt) ∧ w'.cell? ⟨w.heap.size, 3, none⟩ = some (.string rk) ∧ w'.cell? ⟨w.heap.size, 4, none⟩ = some (.int .i64 rc) ∧ w'.cell? ⟨w.heap.size, 5, none⟩ = some (.int .i64 rv))
      (first | exact ⟨by assumption, by assumption, by assumption, by assumption, by assumption⟩ | go_keep)
      ((go_at_call 19; refine (hput _ (by first | exact Below.refl _ _ | exact (Below.refl _ _).drew | exact ((Below.refl _ _).drew).drew | exact hdr _ | exact (hdr _).drew)).mono ?_; rintro e w3 ⟨A1, k1', S', rfl, hp, c0, c1, c2, c3, c4, c5⟩))
    have hp9 : PutIs p d' bs S1 w1 w3 A1 n1 k1' S' := hp
    have hrput : ∀ w', Below w3.heap.size w3 w' → Calls Try.prog 62 #[.pointer (some ⟨x, 0, none⟩), .agg #[.int .i64 rt, .string rk, .int .i64 rc, .int .i64 rv]] w' (fun e w'' => ∃ A2 k2, e = .returned (.tuple #[.slice A2 n1 k2, .int .i64 er]) ∧ Row w'' 5 A2 n1 k2 (nums .u8 bs) ∧ (∀ g, blk A2 = some g → w3.heap.size ≤ g) ∧ RCoderAt w'' x d' (N + 1) S2 ∧ Upd w3 w'' S2 ∧
        w''.cell? ⟨o, 3, none⟩ = some (.pointer (some ⟨x, 0, none⟩)) ∧ w''.cell? ⟨w.heap.size, 2, none⟩ = some (.int .i64 rt) ∧ w''.cell? ⟨w.heap.size, 3, none⟩ = some (.string rk) ∧ w''.cell? ⟨w.heap.size, 4, none⟩ = some (.int .i64 rc) ∧ w''.cell? ⟨w.heap.size, 5, none⟩ = some (.int .i64 rv)) := fun w' hb => by
      have hlt : ∀ b, S2 b → b < w1.heap.size := fun b hb => H1.out.one.lt ((HV.out.2.2 b).2 (.inr hb))
      have r3 := (HV.out.1.kept hp9.upd (fun b h2 h1 => HV.out.2.1 b h1 h2)).below hb
      refine (refPut_any r3 hN ⟨rt, rk, rc, rv⟩ hm).mono ?_
      rintro e w'' ⟨A2, k2, rfl, q1, q2, q3, q4⟩
      rw [HB.out.1] at q1 q3 ⊢
      simp only [HB.out.2.2] at q1 ⊢
      have hs := hb.size
      have hs1 := hp9.upd.size
      have e1 : Upd w3 w'' S2 := ((Upd.of_below hb).mono (fun b h1 h2 => absurd h1 (by omega))).trans q4 (fun b _ hb => hb)
      have ebx := (Array.getElem?_eq_some_iff.1 HBX.out).1
      have eo : w''.heap[o]? = _ := (e1.block o (by have := H1.out.olt; omega) (fun hh => (H1.out.s o ((HV.out.2.2 o).2 (.inr hh))).2.1 rfl)).trans ((hp9.upd.block o H1.out.olt (fun hh => (H1.out.s o ((HV.out.2.2 o).2 (.inl hh))).2.1 rfl)).trans H1.out.head)
      have eb : w''.heap[w.heap.size]? = _ := (e1.block w.heap.size (by omega) (fun hh => HSB.out ((HV.out.2.2 _).2 (.inr hh)))).trans ((hp9.upd.block w.heap.size ebx (fun hh => HSB.out ((HV.out.2.2 _).2 (.inl hh)))).trans HBX.out)
      refine ⟨A2, k2, rfl, q1, fun g hg => by have := q2 g hg; omega, q3, e1, ?_, ?_, ?_, ?_, ?_⟩
      · simp [World.cell?, eo, rsides, ptr]
      · simp [World.cell?, eb]
      · simp [World.cell?, eb]
      · simp [World.cell?, eb]
      · simp [World.cell?, eb]
    have hdr3 : ∀ m, Below w3.heap.size w3 (w3.drewN m) := fun m => below_drewN (Below.refl _ _) m
    have HP := Lib.hid hp9
    clear hput hp hp9 hdr k0 k1 k2 k3 k4 z0 z1 z2 z3 z4 z5 z6 z7 c0
    go_wp2_with fail
    go_region_held3 (fun w' => w'.cell? ⟨o, 3, none⟩ = some (.pointer (some ⟨x, 0, none⟩)) ∧ w'.cell? ⟨w.heap.size, 2, none⟩ = some (.int .i64 rt) ∧ w'.cell? ⟨w.heap.size, 3, none⟩ = some (.string rk) ∧ w'.cell? ⟨w.heap.size, 4, none⟩ = some (.int .i64 rc) ∧ w'.cell? ⟨w.heap.size, 5, none⟩ = some (.int .i64 rv))
      (first | exact ⟨by assumption, by assumption, by assumption, by assumption, by assumption⟩ | go_keep)
      ((go_at_call 62; refine (hrput _ (by first | exact Below.refl _ _ | exact (Below.refl _ _).drew | exact ((Below.refl _ _).drew).drew | exact hdr3 _ | exact (hdr3 _).drew)).mono ?_; rintro e w4 ⟨A2, k2', rfl, hr1, hr2, hr3, hr4, b1, b2, b3, b4, b5⟩))
    have hr4' : Upd w3 w4 S2 := hr4
    have ho4 : o < w4.heap.size := by have := H1.out.olt; have := HP.out.upd.size; have := hr4'.size; omega
    have eo4 : w4.heap[o]? = some (.cells (rsides 1 p q x y (.slice A n k)) 92 (0, 0)) := (hr4'.block o (by have := H1.out.olt; have := HP.out.upd.size; omega) (fun hh => (H1.out.s o ((HV.out.2.2 o).2 (.inr hh))).2.1 rfl)).trans ((HP.out.upd.block o H1.out.olt (fun hh => (H1.out.s o ((HV.out.2.2 o).2 (.inl hh))).2.1 rfl)).trans H1.out.head)
    have m4 : w4.cell? ⟨o, 4, none⟩ = some (.slice A n k) := by simp [World.cell?, eo4, rsides, ptr]
    have f4 : w4.frozen? ⟨o, 4, none⟩ = false := by simp [World.frozen?, eo4]
    have hrow1 : Row w4 5 A1 n1 k1' (nums .u8 bs) := HP.out.row.kept hr4' (fun g hg hh => by
      have h1 := HP.out.own g hg
      have h2 := H1.out.one.lt ((HV.out.2.2 g).2 (.inr hh))
      omega)
    have t1 := row_text_any hrow1
    have t2 := row_text_any hr1
    have hkk : n1 ≤ k2' := by
      rcases hr1.form with ⟨_, h0, h1⟩ | ⟨g, cur, _, h2, h3, h4, h5, h6⟩
      · omega
      · omega
    obtain ⟨K, hK⟩ : ∃ K, strOfNums bs = K := ⟨_, rfl⟩
    rw [hK] at t1 t2
    have HR := Lib.hid (And.intro hr1 (And.intro hr2 (And.intro hr3 (And.intro hr4' hkk))))
    have hrow5 : Row (w4.setCell ⟨o, 4, none⟩ (.slice A2 n1 k2')) 5 A1 n1 k1' (nums .u8 bs) := hrow1.kept (setCell_upd w4 o 4 _) (fun g hg e => by
      have h1 := HP.out.own g hg
      have h2 := H1.out.olt
      omega)
    have H5 := Lib.hid hrow5
    clear hrput hdr3 hr1 hr2 hr3 hr4 hr4' hkk hrow1 hrow5 eo4 ho4 hK b1 b2 b3 b4 b5 c1 c2 c3 c4 c5
    go_wp2_with fail
    obtain ⟨w5, hw5⟩ : ∃ w5, w4.setCell ⟨o, 4, none⟩ (.slice A2 n1 k2') = w5 := ⟨_, rfl⟩
    have H6 : Hid (Row w5 5 A1 n1 k1' (nums .u8 bs)) := by rw [← hw5]; exact H5.out
    have HW := Lib.hid hw5
    rw [hw5]
    clear hw5 m4 f4 t1 t2 H5
    go_loopg [11] n1 (fun gk v11 wr => ∃ (i : Nat) (L : List Value), v11 = .int .i64 i ∧ gk + i = n1 ∧ Row wr 5 A1 n1 k1' L ∧ Hid (∀ j : Nat, j < n1 → ∃ z : Int, L[j]? = some (.int .u8 z)) ∧ Hid (Upd w5 wr (fun b => blk A1 = some b)))
    case atStart => exact ⟨0, _, rfl, rfl, H6.out, Lib.hid (fun j hj => by
      obtain ⟨z, hz⟩ : ∃ z, bs[j]? = some z := ⟨_, List.getElem?_eq_getElem (by rw [HB.out.2.2]; exact hj)⟩
      exact ⟨z, by rw [nums_get, hz]; rfl⟩), Lib.hid (Upd.refl _ _)⟩
    case round =>
      clear H6
      obtain ⟨i, L, rfl, hi, hr, hL, hu⟩ := hrel
      by_cases hin : i < n1
      · have hini : (i : Int) < n1 := by omega
        obtain ⟨g, hAg⟩ : ∃ g, A1 = some ⟨g, 0, none⟩ := by
          rcases hr.form with ⟨_, h0, _⟩ | ⟨g, _, h0, _⟩
          · omega
          · exact ⟨g, h0⟩
        subst hAg
        obtain ⟨z, hz⟩ := hL.out i hin
        have cy := hr.cell hz
        have fy := hr.free i
        have HH : Hid (∀ zz, Row (wr.setCell ⟨g, i, none⟩ (.int .u8 zz)) 5 (some ⟨g, 0, none⟩) n1 k1' (L.set i (.int .u8 zz)) ∧ (∀ j : Nat, j < n1 → ∃ z : Int, (L.set i (.int .u8 zz))[j]? = some (.int .u8 z)) ∧ Upd w5 (wr.setCell ⟨g, i, none⟩ (.int .u8 zz)) (fun b => blk (some ⟨g, 0, none⟩) = some b)) := by
          refine Lib.hid (fun zz => ⟨hr.store i _, fun j hj => ?_, hu.out.setCell (a := ⟨g, i, none⟩) (fun _ => rfl) _⟩)
          by_cases e : j = i
          · subst e; exact ⟨zz, by rw [List.getElem?_set_self (by rw [hr.len]; exact hj)]⟩
          · rw [List.getElem?_set_ne (by omega)]; exact hL.out j hj
        clear hr hL hu hz hin
        go_wp2
        go_roundg (n1 - i - 1)
        case measure => omega
        case rel => exact ⟨i + 1, _, by go_num, by omega, (HH.out _).1, Lib.hid (HH.out _).2.1, Lib.hid (HH.out _).2.2⟩
      · have hini : (n1 : Int) ≤ i := by omega
        have hdf : decide (i < n1) = false := decide_eq_false hin
        clear hr hL hin
        go_wp2
        go_ret
        refine ⟨bool_ret (by simp), ?_⟩
        refine rput_done H1.out ha hB HV.out.2.2 HV.out.2.1 HP.out HR.out.1 HR.out.2.1 HR.out.2.2.1 HR.out.2.2.2.1 HB.out.2.1 (by omega) HR.out.2.2.2.2 (w6 := wr) ?_
        rw [HW.out]
        exact hu.out
end Go.Proofs.Ytipiohkpdkandaa
