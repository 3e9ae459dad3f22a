/-
  Small laws for this seat's walks: rows of the call's own, reads, frames. No program in sight. Conditions: none.
-/
import Derived.WalkKit
import Derived.WalkLawsBesides
import Derived.WalkSpells
import Derived.Outline
import Derived.Deep.LoopGhost
import Derived.Deep.DeepMust
import Derived.Lib.Hide
import Derived.Maps.AppendAt
import Derived.Laws.BitsAllLaws
import Derived.Laws.BytesArg
import Derived.Laws.CopyOwn
import Derived.Deep.OwnRows
import Derived.Deep.QuietTactic
import Derived.BigQuiet
namespace Go.Proofs.Ytipiohkpdkandaa
set_option linter.unusedVariables false
set_option linter.unusedSimpArgs false
open Go.RowKit

/-- numbers as values -/
def nums (k : IntKind) (xs : List Int) : List Value := xs.map fun x => .int k x
theorem nums_length (k : IntKind) (xs : List Int) : (nums k xs).length = xs.length := by simp [nums]
theorem nums_append (k : IntKind) (xs ys : List Int) : nums k (xs ++ ys) = nums k xs ++ nums k ys := by simp [nums]
theorem nums_one (k : IntKind) (x : Int) : nums k [x] = [.int k x] := rfl
theorem nums_get (k : IntKind) (xs : List Int) (i : Nat) : (nums k xs)[i]? = (xs[i]?).map (.int k) := by simp [nums]
theorem nums_oneCell (k : IntKind) (xs : List Int) : ∀ u ∈ nums k xs, u.oneCell' = true := by
  intro u hu
  obtain ⟨_, _, rfl⟩ := List.mem_map.1 hu
  rfl

/-- the block of an address -/
def blk (A : Option Addr) : Option Nat := A.map (·.block)
theorem ownBlock_slice (A : Option Addr) (n c : Nat) : (Value.slice A n c).ownBlock = blk A := by cases A <;> rfl

/-- FRAME: only blocks of S have been written, new ones may have come. -/
structure Upd (w w' : World) (S : Nat → Prop) : Prop where
  os : w'.os = w.os
  tape : w'.tape = w.tape
  output : w'.output = w.output
  size : w.heap.size ≤ w'.heap.size
  block : ∀ k, k < w.heap.size → ¬ S k → w'.heap[k]? = w.heap[k]?

theorem Upd.refl (w : World) (S : Nat → Prop) : Upd w w S := ⟨rfl, rfl, rfl, Nat.le_refl _, fun _ _ _ => rfl⟩
theorem Upd.mono {w w' : World} {S T : Nat → Prop} (h : Upd w w' S) (hs : ∀ k, k < w.heap.size → S k → T k) : Upd w w' T :=
  ⟨h.os, h.tape, h.output, h.size, fun k hk hn => h.block k hk fun hS => hn (hs k hk hS)⟩
theorem Upd.trans {w w1 w2 : World} {S T : Nat → Prop} (h : Upd w w1 S) (k : Upd w1 w2 T) (hs : ∀ b, b < w.heap.size → T b → S b) : Upd w w2 S :=
  ⟨k.os.trans h.os, k.tape.trans h.tape, k.output.trans h.output, Nat.le_trans h.size k.size, fun b hb hn =>
    (k.block b (Nat.lt_of_lt_of_le hb h.size) fun hT => hn (hs b hb hT)).trans (h.block b hb hn)⟩
theorem Upd.alloc {w w' : World} {S : Nat → Prop} (h : Upd w w' S) (o : Obj) : Upd w (w'.alloc o) S :=
  h.trans (T := fun _ => False) ⟨rfl, rfl, rfl, by simp, fun k hk _ => Below.heap_alloc _ _ _ hk⟩ (fun _ _ h => h.elim)
theorem Upd.drew {w w' : World} {S : Nat → Prop} (h : Upd w w' S) : Upd w w'.drew S := ⟨h.os, h.tape, h.output, h.size, h.block⟩
theorem Upd.setCell {w w' : World} {S : Nat → Prop} (h : Upd w w' S) {a : Addr} (ha : a.block < w.heap.size → S a.block) (v : Value) : Upd w (w'.setCell a v) S :=
  h.trans (T := fun k => k = a.block) ⟨rfl, rfl, rfl, by simp [World.setCell], fun k _ hne => Below.heap_setCell _ _ _ _ hne⟩ (fun b hb e => by subst e; exact ha hb)
theorem Upd.grown {w w1 w2 : World} {S : Nat → Prop} {row : Option Nat} (h : Upd w w1 S) (hg : w1.grownBy w2 row) (hr : ∀ k, row = some k → k < w.heap.size → S k) : Upd w w2 S :=
  h.trans (T := fun k => row = some k) ⟨hg.os, hg.tape, hg.output, hg.size, fun k hk hn => hg.block k hk fun e => hn e.symm⟩ (fun b hb e => hr b e hb)
theorem Upd.below {w w' : World} {S : Nat → Prop} (h : Upd w w' S) {B : Nat} (hB : B ≤ w.heap.size) (hS : ∀ k, k < w.heap.size → S k → B ≤ k) : Below B w w' :=
  ⟨h.os, h.tape, h.output, h.size, fun k hk => h.block k (by omega) fun hs => by have := hS k (by omega) hs; omega⟩
theorem Upd.of_below {w w' : World} {B : Nat} (h : Below B w w') : Upd w w' (fun k => B ≤ k) := ⟨h.os, h.tape, h.output, h.size, fun k _ hn => h.block k (by omega)⟩
theorem Upd.cell {w w' : World} {S : Nat → Prop} (h : Upd w w' S) {a : Addr} {v : Value} (hc : w.cell? a = some v) (hn : ¬ S a.block) : w'.cell? a = some v :=
  (World.cell?_of_block (w := w) (h.block a.block (World.block_lt_of_cell? w a hc) hn)).trans hc
theorem Upd.grownBy {w w' : World} {row : Option Nat} (h : Upd w w' (fun k => row = some k)) : w.grownBy w' row :=
  ⟨h.os, h.tape, h.output, h.size, fun k hk hn => h.block k hk fun e => hn e.symm⟩

/-- A slice that owns its cells, at a block's head. -/
structure Row (w : World) (e : TypeId) (A : Option Addr) (n c : Nat) (xs : List Value) : Prop where
  own : w.ownsRow 0 e 1 (.slice A n c) n xs

theorem Row.nil (w : World) (e : TypeId) : Row w e none 0 0 [] := ⟨World.ownsRow_nil w 0 e 1⟩
theorem Row.len {w : World} {e : TypeId} {A : Option Addr} {n c : Nat} {xs : List Value} (h : Row w e A n c xs) : xs.length = n := by have := h.own.1; omega
theorem Row.lt {w : World} {e : TypeId} {A : Option Addr} {n c : Nat} {xs : List Value} (h : Row w e A n c xs) {g : Nat} (hg : blk A = some g) : g < w.heap.size :=
  (h.own.lt g (by rw [ownBlock_slice]; exact hg)).2
theorem Row.form {w : World} {e : TypeId} {A : Option Addr} {n c : Nat} {xs : List Value} (h : Row w e A n c xs) : A = none ∧ n = 0 ∧ c = 0 ∨ ∃ g cur, A = some ⟨g, 0, none⟩ ∧ w.heap[g]? = some (.cells cur e (0, 0)) ∧ n ≤ c ∧ c ≤ maxLen ∧ cur.size = c ∧ cur.toList.take n = xs := by
  rcases h.own.2 with ⟨h1, h2⟩ | ⟨g, cap, cur, h1, _, h2, h3, h4, h5, h6⟩
  · injection h1 with h1 h1b h1c
    exact .inl ⟨h1, h2, h1c⟩
  · injection h1 with h1 h1b h1c
    subst h1c
    exact .inr ⟨g, cur, h1, h2, h3, h4, by omega, by simpa using h6⟩
theorem Row.of {w : World} {e : TypeId} {g n c : Nat} {cur : Array Value} {xs : List Value} (h2 : w.heap[g]? = some (.cells cur e (0, 0))) (h3 : n ≤ c) (h4 : c ≤ maxLen) (h5 : cur.size = c) (h6 : cur.toList.take n = xs) : Row w e (some ⟨g, 0, none⟩) n c xs :=
  ⟨⟨by rw [← h6]; simp; omega, .inr ⟨g, c, cur, rfl, Nat.zero_le _, h2, h3, h4, by omega, by simpa using h6⟩⟩⟩
theorem Row.le {w : World} {e : TypeId} {A : Option Addr} {n c : Nat} {xs : List Value} (h : Row w e A n c xs) : n ≤ c := by
  rcases h.form with ⟨_, h1, _⟩ | ⟨_, _, _, _, h3, _⟩ <;> omega
theorem Row.max {w : World} {e : TypeId} {A : Option Addr} {n c : Nat} {xs : List Value} (h : Row w e A n c xs) : n ≤ 9223372036854775807 := by
  rcases h.form with ⟨_, h1, _⟩ | ⟨_, _, _, _, h3, h4, _⟩
  · omega
  · simp only [maxLen] at h4; omega
theorem Row.block {w w' : World} {e : TypeId} {A : Option Addr} {n c : Nat} {xs : List Value} (h : Row w e A n c xs) (hb : ∀ g, blk A = some g → w'.heap[g]? = w.heap[g]?) : Row w' e A n c xs := by
  rcases h.form with ⟨rfl, rfl, rfl⟩ | ⟨g, cur, rfl, h2, h3, h4, h5, h6⟩
  · have : xs = [] := List.eq_nil_of_length_eq_zero h.len
    subst this
    exact Row.nil _ _
  · exact Row.of ((hb g rfl).trans h2) h3 h4 h5 h6
theorem Row.kept {w w' : World} {e : TypeId} {A : Option Addr} {n c : Nat} {xs : List Value} {S : Nat → Prop} (h : Row w e A n c xs) (hu : Upd w w' S) (hn : ∀ g, blk A = some g → ¬ S g) : Row w' e A n c xs :=
  h.block fun g hg => hu.block g (h.lt hg) (hn g hg)
theorem Row.alloc {w : World} {e : TypeId} {A : Option Addr} {n c : Nat} {xs : List Value} (h : Row w e A n c xs) (o : Obj) : Row (w.alloc o) e A n c xs :=
  h.block fun g hg => Below.heap_alloc _ _ _ (h.lt hg)
theorem Row.drew {w : World} {e : TypeId} {A : Option Addr} {n c : Nat} {xs : List Value} (h : Row w e A n c xs) : Row w.drew e A n c xs := ⟨h.own⟩
theorem Row.type_ne {w : World} {e e' : TypeId} {A A' : Option Addr} {n n' c c' : Nat} {xs xs' : List Value} (h : Row w e A n c xs) (h' : Row w e' A' n' c' xs') (hne : e ≠ e') {g : Nat} (hg : blk A = some g) : blk A' ≠ some g := by
  rcases h.form with ⟨rfl, _⟩ | ⟨g1, cur, rfl, h2, _⟩
  · cases hg
  · rcases h'.form with ⟨rfl, _⟩ | ⟨g1', cur', rfl, h2', _⟩
    · intro h; cases h
    · intro h
      have e1 : g1 = g := by simpa [blk] using hg
      have e2 : g1' = g := by simpa [blk] using h
      subst e1; subst e2
      rw [h2] at h2'
      injection h2' with h2'
      injection h2' with _ ht
      exact hne ht
/-- A new block of cells. -/
theorem Row.made {w : World} {e : TypeId} (cur : Array Value) (n : Nat) (xs : List Value) (h3 : n ≤ cur.size) (h4 : cur.size ≤ maxLen) (h6 : cur.toList.take n = xs) : Row (w.alloc (.cells cur e)) e (some ⟨w.heap.size, 0, none⟩) n cur.size xs :=
  Row.of (heap_alloc_new w _) h3 h4 rfl h6

/-- What an owned slice begins with. -/
theorem Row.front {w : World} {e : TypeId} {A : Option Addr} {n m c : Nat} {xs ys : List Value} (h : Row w e A m c (xs ++ ys)) (hn : xs.length = n) : Row w e A n c xs := by
  have hl := h.len
  rw [List.length_append] at hl
  rcases h.form with ⟨rfl, rfl, rfl⟩ | ⟨g, cur, rfl, h2, h3, h4, h5, h6⟩
  · have : xs = [] := List.eq_nil_of_length_eq_zero (by omega)
    subst this
    subst hn
    exact Row.nil _ _
  · refine Row.of h2 (by omega) h4 h5 ?_
    have := congrArg (List.take n) h6
    rw [List.take_take, Nat.min_eq_left (by omega), List.take_left' hn] at this
    exact this

/-- A slice that is read. -/
structure Rd (w : World) (A : Option Addr) (n : Nat) (xs : List Value) : Prop where
  len : xs.length = n
  max : n ≤ 9223372036854775807
  cells : 0 < n → ∃ ad, A = some ad ∧ ∀ j u, xs[j]? = some u → w.cell? (ad.add j) = some u

theorem addr_add (g j : Nat) : (⟨g, 0, none⟩ : Addr).add j = ⟨g, j, none⟩ := by unfold Addr.add; split <;> simp_all
theorem Row.rd {w : World} {e : TypeId} {A : Option Addr} {n c : Nat} {xs : List Value} (h : Row w e A n c xs) : Rd w A n xs := by
  refine ⟨h.len, h.max, fun hn => ?_⟩
  rcases h.form with ⟨rfl, rfl, _⟩ | ⟨g, cur, rfl, h2, h3, h4, h5, h6⟩
  · omega
  · exact ⟨_, rfl, h.own.cells (g := g) rfl⟩
theorem Row.cell {w : World} {e : TypeId} {g n c : Nat} {xs : List Value} (h : Row w e (some ⟨g, 0, none⟩) n c xs) {i : Nat} {u : Value} (hu : xs[i]? = some u) : w.cell? ⟨g, i, none⟩ = some u := by
  have := h.own.cells (g := g) rfl i u hu
  rwa [addr_add] at this
theorem Row.free {w : World} {e : TypeId} {g n c : Nat} {xs : List Value} (h : Row w e (some ⟨g, 0, none⟩) n c xs) (i : Nat) : w.frozen? ⟨g, i, none⟩ = false := by
  rcases h.form with ⟨h1, _⟩ | ⟨g1, cur, h1, h2, _⟩
  · cases h1
  · injection h1 with h1
    injection h1 with h1
    subst h1
    simp [World.frozen?, h2]
theorem Row.store {w : World} {e : TypeId} {g n c : Nat} {xs : List Value} (h : Row w e (some ⟨g, 0, none⟩) n c xs) (i : Nat) (u : Value) : Row (w.setCell ⟨g, i, none⟩ u) e (some ⟨g, 0, none⟩) n c (xs.set i u) :=
  ⟨(h.own.stored i u).1⟩
theorem Rd.at {w : World} {A : Option Addr} {n : Nat} {xs : List Value} (h : Rd w A n xs) {i : Nat} {u : Value} (hu : xs[i]? = some u) : ∃ ad, A = some ad ∧ w.cell? (ad.add i) = some u := by
  have hi : i < xs.length := (List.getElem?_eq_some_iff.1 hu).1
  obtain ⟨ad, e, hc⟩ := h.cells (by have := h.len; omega)
  exact ⟨ad, e, hc i u hu⟩
theorem Rd.kept {w w' : World} {A : Option Addr} {n : Nat} {xs : List Value} {S : Nat → Prop} (h : Rd w A n xs) (hu : Upd w w' S) (hn : ∀ g, blk A = some g → ¬ S g) : Rd w' A n xs :=
  ⟨h.len, h.max, fun hp => by
    obtain ⟨ad, rfl, hc⟩ := h.cells hp
    refine ⟨ad, rfl, fun j u hj => hu.cell (hc j u hj) ?_⟩
    rw [show (ad.add j).block = ad.block by unfold Addr.add; split <;> rfl]
    exact hn _ rfl⟩
theorem Rd.lt {w : World} {A : Option Addr} {n : Nat} {xs : List Value} (h : Rd w A n xs) (hn : 0 < n) {g : Nat} (hg : blk A = some g) : g < w.heap.size := by
  obtain ⟨ad, rfl, hc⟩ := h.cells hn
  have hl := h.len
  obtain ⟨u, hu⟩ : ∃ u, xs[0]? = some u := ⟨xs[0], by simp⟩
  have := World.block_lt_of_cell? w _ (hc 0 u hu)
  rw [show (ad.add 0).block = ad.block by unfold Addr.add; split <;> rfl] at this
  simp [blk] at hg
  omega
theorem Rd.below {w w' : World} {A : Option Addr} {n : Nat} {xs : List Value} {B : Nat} (h : Rd w A n xs) (hu : Below B w w') (hB : w.heap.size ≤ B) : Rd w' A n xs :=
  h.kept (S := fun _ => False) ⟨hu.os, hu.tape, hu.output, hu.size, fun k hk _ => hu.block k (by omega)⟩ (fun _ _ h => h)
theorem Rd.take {w : World} {A : Option Addr} {n : Nat} {xs : List Value} (h : Rd w A n xs) {m : Nat} (hm : m ≤ n) : Rd w A m (xs.take m) :=
  ⟨by have := h.len; simp; omega, by have := h.max; omega, fun hp => by
    obtain ⟨ad, rfl, hc⟩ := h.cells (by omega)
    refine ⟨ad, rfl, fun j u hj => hc j u ?_⟩
    rw [List.getElem?_take] at hj
    split at hj
    · exact hj
    · cases hj⟩

theorem Rd.heap {w w' : World} {A : Option Addr} {n : Nat} {xs : List Value} (h : Rd w A n xs) (e : w'.heap = w.heap) : Rd w' A n xs :=
  ⟨h.len, h.max, fun hn => by
    obtain ⟨ad, rfl, hc⟩ := h.cells hn
    exact ⟨ad, rfl, fun j u hj => by have := hc j u hj; simpa [World.cell?, e] using this⟩⟩
theorem Rd.drewN {w : World} {A : Option Addr} {n : Nat} {xs : List Value} (h : Rd w A n xs) (m : Nat) : Rd (w.drewN m) A n xs := h.heap rfl
theorem Row.drewN {w : World} {e : TypeId} {A : Option Addr} {n c : Nat} {xs : List Value} (h : Row w e A n c xs) (m : Nat) : Row (w.drewN m) e A n c xs := h.block fun _ _ => rfl
theorem Rd.form {w : World} {A : Option Addr} {n : Nat} {xs : List Value} (h : Rd w A n xs) (hn : 0 < n) : ∃ b off, A = some ⟨b, off, none⟩ ∧ ∀ j u, xs[j]? = some u → w.cell? ⟨b, off + j, none⟩ = some u := by
  obtain ⟨ad, rfl, hc⟩ := h.cells hn
  obtain ⟨b, off, spot⟩ := ad
  have hl := h.len
  obtain ⟨u, hu⟩ : ∃ u, xs[0]? = some u := ⟨xs[0], by simp⟩
  cases spot with
  | none => exact ⟨b, off, rfl, fun j u hj => by have := hc j u hj; rwa [show (⟨b, off, none⟩ : Addr).add j = ⟨b, off + j, none⟩ by unfold Addr.add; split <;> simp_all] at this⟩
  | some s =>
    have := hc 0 u hu
    unfold Addr.add World.cell? at this
    simp at this
    split at this <;> simp_all
theorem Rd.of {w : World} {b off n : Nat} {xs : List Value} (hl : xs.length = n) (hm : n ≤ 9223372036854775807) (hc : ∀ j u, xs[j]? = some u → w.cell? ⟨b, off + j, none⟩ = some u) : Rd w (some ⟨b, off, none⟩) n xs :=
  ⟨hl, hm, fun _ => ⟨_, rfl, fun j u hj => by rw [show (⟨b, off, none⟩ : Addr).add j = ⟨b, off + j, none⟩ by unfold Addr.add; split <;> simp_all]; exact hc j u hj⟩⟩
theorem Rd.sub {w : World} {b off n : Nat} {xs : List Value} (h : Rd w (some ⟨b, off, none⟩) n xs) {lo m : Nat} (hm : lo + m ≤ n) (h0 : 0 < n) : Rd w (some ⟨b, off + lo, none⟩) m ((xs.drop lo).take m) := by
  obtain ⟨b', off', he, hc⟩ := h.form h0
  injection he with he
  injection he with he1 he2
  subst he1; subst he2
  have hl := h.len
  refine Rd.of (by simp; omega) (by have := h.max; omega) fun j u hj => ?_
  rw [List.getElem?_take] at hj
  split at hj
  · rw [List.getElem?_drop] at hj
    have := hc (lo + j) u hj
    rwa [← Nat.add_assoc] at this
  · cases hj
theorem Rd.conv {P : Program} {w : World} {A : Option Addr} {n : Nat} {l : List Int} (h : Rd w A n (nums .u8 l)) (hA : n = 0 → A = none ∨ ∃ b off, A = some ⟨b, off, none⟩) {src e dst : TypeId} (hs : P.underlying src = some (.slice e)) (he : P.underlying e = some (.int .u8)) (hd : P.underlying dst = some .string) (c : Nat) :
    (convert src dst (.slice A n c)).run P w = .ok (.string (strOfNums l)) w := by
  have hl : l.length = n := by have := h.len; rwa [nums_length] at this
  have key : ∀ b off, A = some ⟨b, off, none⟩ → (∀ j u, (nums .u8 l)[j]? = some u → w.cell? ⟨b, off + j, none⟩ = some u) → (convert src dst (.slice A n c)).run P w = .ok (.string (strOfNums l)) w := by
    rintro b off rfl hc
    refine run_convert_bytes_arg w src e hs he b off n c l hl (fun i hi => ?_) dst hd
    refine hc i _ ?_
    rw [nums_get, List.getElem?_eq_getElem (by omega), List.getD_eq_getElem?_getD, List.getElem?_eq_getElem (by omega)]
    rfl
  by_cases h0 : n = 0
  · have hl0 : l = [] := List.eq_nil_of_length_eq_zero (by omega)
    rcases hA h0 with rfl | ⟨b, off, rfl⟩
    · subst hl0
      exact run_convert_bytes_nil w src e hs he n c dst hd
    · exact key b off rfl (fun j u hj => by rw [hl0] at hj; simp [nums] at hj)
  · obtain ⟨b, off, rfl, hc⟩ := h.form (by omega)
    exact key b off rfl hc
theorem Row.conv {P : Program} {w : World} {e' : TypeId} {A : Option Addr} {n c' : Nat} {l : List Int} (h : Row w e' A n c' (nums .u8 l)) {src e dst : TypeId} (hs : P.underlying src = some (.slice e)) (he : P.underlying e = some (.int .u8)) (hd : P.underlying dst = some .string) (c : Nat) :
    (convert src dst (.slice A n c)).run P w = .ok (.string (strOfNums l)) w :=
  h.rd.conv (fun _ => by rcases h.form with ⟨rfl, _⟩ | ⟨g, cur, rfl, _⟩; exact .inl rfl; exact .inr ⟨g, 0, rfl⟩) hs he hd c

section
variable {P : Program} {ops : Array Oper} {rest : List Oper} {o : Oper} {a : Act} {Q : Exit → Act → World → Prop}

/-- What append does to an owned row: it stays in place, or lies in the new block and nothing that was there has turned. -/
def Grew (W w1 : World) (A A1 : Option Addr) (c c1 : Nat) : Prop :=
  (A1 = A ∧ c1 = c ∧ Upd W w1 (fun k => blk A = some k)) ∨ (blk A1 = some W.heap.size ∧ Upd W w1 (fun _ => False))
theorem Grew.upd {W w1 : World} {A A1 : Option Addr} {c c1 : Nat} (h : Grew W w1 A A1 c c1) : Upd W w1 (fun k => blk A = some k) := by
  rcases h with ⟨_, _, h⟩ | ⟨_, h⟩
  · exact h
  · exact h.mono fun _ _ h => h.elim
theorem Grew.at {W w1 : World} {A A1 : Option Addr} {c c1 : Nat} (h : Grew W w1 A A1 c c1) : blk A1 = blk A ∨ blk A1 = some W.heap.size := by
  rcases h with ⟨h, _⟩ | ⟨h, _⟩
  · exact .inl (by rw [h])
  · exact .inr h

theorem run_append_row {P : Program} {W : World} (ty t e : TypeId) (z : Value) (bytes : Nat)
    (ht : P.underlying t = some (.slice e)) (hinfo : (P.info? e).map (fun i => (i.zero, i.size, i.bytes)) = some (some z, 1, bytes)) (hz : z.cells.size = 1) (hb0 : 0 < bytes)
    (A : Option Addr) (n c : Nat) (xs : List Value) (A' : Option Addr) (m c' : Nat) (ys : List Value)
    (HO : Row W e A n c xs) (HR : Rd W A' m ys) (h1 : ∀ u ∈ ys, u.oneCell' = true) (hl : (n + m) * bytes ≤ 140737488355328) :
    ∃ A1 c1 w1, (Builtin.append_ #[t, t] ty #[.slice A n c, .slice A' m c']).run P W = .ok (.slice A1 (n + m) c1) w1 ∧ Row w1 e A1 (n + m) c1 (xs ++ ys) ∧ Grew W w1 A A1 c c1 := by
  obtain ⟨i0, hi, hzz⟩ := Option.map_eq_some_iff.1 hinfo
  simp only [Prod.mk.injEq] at hzz
  obtain ⟨hz0, hz1, hz2⟩ := hzz
  have hlen : n + m ≤ 140737488355328 := Nat.le_trans (Nat.le_mul_of_pos_right _ hb0) hl
  have hxl := HO.len
  have hyl := HR.len
  by_cases hm : m = 0
  · subst hm
    have hy : ys = [] := List.eq_nil_of_length_eq_zero hyl
    subst hy
    refine ⟨A, c, W, ?_, by simpa using HO, .inl ⟨rfl, rfl, Upd.refl _ _⟩⟩
    rcases HO.form with ⟨rfl, rfl, rfl⟩ | ⟨g, cur, rfl, _, hnc, _⟩
    · cases A' <;> simp [Builtin.append_, run_underlying ht, sizeOf, typeInfo, hi, Builtin.lenOf, Builtin.firstCells, loadCells, loadCellsFrom]
    · cases A' <;> simp [Builtin.append_, run_underlying ht, sizeOf, typeInfo, hi, Builtin.lenOf, Builtin.firstCells, hnc, storeCells, loadCells, loadCellsFrom]
  · obtain ⟨ad, rfl, hc⟩ := HR.cells (by omega)
    have hge := grownCap_ge W (n + m)
    have hcm := fun old => grownCap_le_maxLen W (n + m) old e (by simp only [maxLen]; omega)
    have grown : ∀ old, Row (W.drew.alloc (.cells (xs.toArray ++ ys.toArray ++ Builtin.zeroCells z.cells (grownCap W (n + m) old e - (n + m))) e)) e (some ⟨W.heap.size, 0, none⟩) (n + m) (grownCap W (n + m) old e) (xs ++ ys) := by
      intro old
      have h3 := hge old e
      refine Row.of (heap_alloc_new W.drew _) h3 (hcm old) ?_ ?_
      · simp only [Array.size_append, List.size_toArray, size_zeroCells, hz, hxl, hyl]; omega
      · have hll : (xs ++ ys).length = n + m := by simp; omega
        rw [← hll]
        simp only [Array.toList_append]
        exact List.take_left
    have upd : ∀ o, Upd W (W.drew.alloc o) (fun _ => False) := fun o => ((Upd.refl W _).drew).alloc o
    rcases HO.form with ⟨rfl, rfl, rfl⟩ | ⟨g, cur, rfl, h2, h3, h4, h5, h6⟩
    · have hx : xs = [] := List.eq_nil_of_length_eq_zero hxl
      subst hx
      have hr := run_append_nil (P := P) W t ty e i0 z ht hi hz0 ad m c' ys (by rw [hz1]; omega) hc (by omega) (by omega) (by rw [hz2]; have h := hl; rw [Nat.zero_add] at h; omega)
      have hg := grown 0
      simp only [Nat.zero_add, List.nil_append, Array.empty_append] at hg ⊢
      exact ⟨_, _, _, hr, hg, .inr ⟨rfl, upd _⟩⟩
    · by_cases hroom : n + m ≤ c
      · have hr := run_append_room (P := P) W t ty e i0 ht hi g n c cur h2 ad m c' ys (by rw [hz1]; omega) hc h1 hroom (by rw [hz1]; omega)
        rw [hz1, Nat.mul_one] at hr
        refine ⟨_, _, _, hr, Row.of (setRow_heap W g cur _ e _ h2) hroom h4 ?_ ?_, .inl ⟨rfl, rfl, rfl, rfl, rfl, by simp, fun k _ hk => setRow_other W g k _ fun h => hk (by rw [h]; rfl)⟩⟩
        · simp; omega
        · have hll : (xs ++ ys).length = n + m := by simp; omega
          show List.take (n + m) (cur.toList.take n ++ ys ++ cur.toList.drop (n + ys.length)) = _
          rw [h6, ← hll]
          exact List.take_left
      · have holds := HO.own.cells (g := g) rfl
        have hr := run_append_grow (P := P) W t ty e i0 z ht hi hz0 ⟨g, 0, none⟩ n c xs (by rw [hz1]; omega) holds ad m c' ys (by rw [hz1]; omega) hc (by omega) (by omega) (by rw [hz2]; exact growslice_fits (by omega) hl)
        exact ⟨_, _, _, hr, grown c, .inr ⟨rfl, upd _⟩⟩

/-- 'append(v, ys...)' onto an owned row: ys read anywhere, nil let in. -/
theorem row_append_g {W : World} (hgd : o.guard = none) (s x : Operand) (t e : TypeId) (z : Value) (bytes : Nat)
    (ho : o.op = .call { callee := .builtin .append, args := #[s, x], argTypes := #[t, t] })
    (ht : P.underlying t = some (.slice e)) (hinfo : (P.info? e).map (fun i => (i.zero, i.size, i.bytes)) = some (some z, 1, bytes)) (hz : z.cells.size = 1) (hb0 : 0 < bytes)
    (A : Option Addr) (n c : Nat) (xs : List Value) (A' : Option Addr) (m c' : Nat) (ys : List Value) (hs : a.eval s = .slice A n c) (hx : a.eval x = .slice A' m c')
    (HO : Row W e A n c xs) (HR : Rd W A' m ys) (h1 : ∀ u ∈ ys, u.oneCell' = true) (hl : (n + m) * bytes ≤ 140737488355328)
    (h : ∀ A1 c1 w1, Row w1 e A1 (n + m) c1 (xs ++ ys) → Grew W w1 A A1 c c1 → wpList P ops Q rest (a.put o.dst (.slice A1 (n + m) c1)) w1) :
    wpList P ops Q (o :: rest) a W := by
  obtain ⟨A1, c1, w1, hr, h2, h3⟩ := run_append_row (P := P) o.type t e z bytes ht hinfo hz hb0 A n c xs A' m c' ys HO HR h1 hl
  refine wpList_plain hgd fun K hK' => ?_
  unfold Oper.wp
  simp [execOp, ho, resolve, invoke, builtin, hs, hx, hr, Result.andThen]
  exact hK' _ _ (h A1 c1 w1 h2 h3)
theorem row_append {W : World} (hgd : o.guard = none) (s x : Operand) (t e : TypeId) (z : Value) (bytes : Nat)
    (ho : o.op = .call { callee := .builtin .append, args := #[s, x], argTypes := #[t, t] })
    (ht : P.underlying t = some (.slice e)) (hinfo : (P.info? e).map (fun i => (i.zero, i.size, i.bytes)) = some (some z, 1, bytes)) (hz : z.cells.size = 1) (hb0 : 0 < bytes)
    (A : Option Addr) (n c : Nat) (xs : List Value) (A' : Option Addr) (m c' : Nat) (ys : List Value) (hs : a.eval s = .slice A n c) (hx : a.eval x = .slice A' m c')
    (HO : Row W e A n c xs) (HR : Rd W A' m ys) (h1 : ∀ u ∈ ys, u.oneCell' = true) (hl : (n + m) * bytes ≤ 140737488355328)
    (h : ∀ A1 c1 w1, Row w1 e A1 (n + m) c1 (xs ++ ys) → Upd W w1 (fun k => blk A = some k) → (blk A1 = blk A ∨ blk A1 = some W.heap.size) → wpList P ops Q rest (a.put o.dst (.slice A1 (n + m) c1)) w1) :
    wpList P ops Q (o :: rest) a W :=
  row_append_g hgd s x t e z bytes ho ht hinfo hz hb0 A n c xs A' m c' ys hs hx HO HR h1 hl fun A1 c1 w1 h2 h3 => h A1 c1 w1 h2 h3.upd h3.at

/-- 'append(v, y)', what it leaves said in full: the box is one block more. -/
theorem row_append1_g {W : World} (hgd : o.guard = none) (s x : Operand) (t e : TypeId) (z : Value) (bytes : Nat)
    (ho : o.op = .call { callee := .builtin .append, args := #[s, x], argTypes := #[t, t] })
    (ht : P.underlying t = some (.slice e)) (hinfo : (P.info? e).map (fun i => (i.zero, i.size, i.bytes)) = some (some z, 1, bytes)) (hz : z.cells.size = 1) (hb0 : 0 < bytes)
    (A : Option Addr) (n c : Nat) (xs : List Value) (y : Value) (hs : a.eval s = .slice A n c) (hx : a.eval x = .slice (some ⟨W.heap.size, 0, none⟩) 1 1) (h1 : y.oneCell' = true)
    (HO : Row W e A n c xs) (hl : (n + 1) * bytes ≤ 140737488355328)
    (h : ∀ A1 c1 w1, Row w1 e A1 (n + 1) c1 (xs ++ [y]) → Grew (W.alloc (.cells #[y] e)) w1 A A1 c c1 → wpList P ops Q rest (a.put o.dst (.slice A1 (n + 1) c1)) w1) :
    wpList P ops Q (o :: rest) a (W.alloc (.cells #[y] e)) := by
  have hbox : Row (W.alloc (.cells #[y] e)) e (some ⟨W.heap.size, 0, none⟩) 1 1 [y] := Row.made #[y] 1 [y] (by simp) (by simp [maxLen]) (by simp)
  exact row_append_g hgd s x t e z bytes ho ht hinfo hz hb0 A n c xs _ 1 1 [y] hs hx (HO.alloc _) hbox.rd (by simpa using h1) hl h

/-- .. the box's block under another spelling. -/
theorem row_append1_at {W : World} {gb : Nat} (hgb : W.heap.size = gb) (hgd : o.guard = none) (s x : Operand) (t e : TypeId) (z : Value) (bytes : Nat)
    (ho : o.op = .call { callee := .builtin .append, args := #[s, x], argTypes := #[t, t] })
    (ht : P.underlying t = some (.slice e)) (hinfo : (P.info? e).map (fun i => (i.zero, i.size, i.bytes)) = some (some z, 1, bytes)) (hz : z.cells.size = 1) (hb0 : 0 < bytes)
    (A : Option Addr) (n c : Nat) (xs : List Value) (y : Value) (hs : a.eval s = .slice A n c) (hx : a.eval x = .slice (some ⟨gb, 0, none⟩) 1 1) (h1 : y.oneCell' = true)
    (HO : Row W e A n c xs) (hl : (n + 1) * bytes ≤ 140737488355328)
    (h : ∀ A1 c1 w1, Row w1 e A1 (n + 1) c1 (xs ++ [y]) → Grew (W.alloc (.cells #[y] e)) w1 A A1 c c1 → wpList P ops Q rest (a.put o.dst (.slice A1 (n + 1) c1)) w1) :
    wpList P ops Q (o :: rest) a (W.alloc (.cells #[y] e)) := by
  subst hgb
  have hbox : Row (W.alloc (.cells #[y] e)) e (some ⟨W.heap.size, 0, none⟩) 1 1 [y] := Row.made #[y] 1 [y] (by simp) (by simp [maxLen]) (by simp)
  exact row_append_g hgd s x t e z bytes ho ht hinfo hz hb0 A n c xs _ 1 1 [y] hs hx (HO.alloc _) hbox.rd (by simpa using h1) hl h

/-- 'append(v, y)': behind 'at_builtin'; the goal's world is 'W.alloc' of the variadic's box. -/
theorem row_append1 {W : World} (hgd : o.guard = none) (s x : Operand) (t e : TypeId) (z : Value) (bytes : Nat)
    (ho : o.op = .call { callee := .builtin .append, args := #[s, x], argTypes := #[t, t] })
    (ht : P.underlying t = some (.slice e)) (hinfo : (P.info? e).map (fun i => (i.zero, i.size, i.bytes)) = some (some z, 1, bytes)) (hz : z.cells.size = 1) (hb0 : 0 < bytes)
    (A : Option Addr) (n c : Nat) (xs : List Value) (y : Value) (hs : a.eval s = .slice A n c) (hx : a.eval x = .slice (some ⟨W.heap.size, 0, none⟩) 1 1) (h1 : y.oneCell' = true)
    (HO : Row W e A n c xs) (hl : (n + 1) * bytes ≤ 140737488355328)
    (h : ∀ A1 c1 w1, Row w1 e A1 (n + 1) c1 (xs ++ [y]) → Upd W w1 (fun k => blk A = some k) → (blk A1 = blk A ∨ ∃ b, blk A1 = some b ∧ W.heap.size ≤ b) → wpList P ops Q rest (a.put o.dst (.slice A1 (n + 1) c1)) w1) :
    wpList P ops Q (o :: rest) a (W.alloc (.cells #[y] e)) := by
  have hbox : Row (W.alloc (.cells #[y] e)) e (some ⟨W.heap.size, 0, none⟩) 1 1 [y] := Row.made #[y] 1 [y] (by simp) (by simp [maxLen]) (by simp)
  refine row_append hgd s x t e z bytes ho ht hinfo hz hb0 A n c xs _ 1 1 [y] hs hx (HO.alloc _) hbox.rd (by simpa using h1) hl ?_
  intro A1 c1 w1 h2 h3 h4
  refine h A1 c1 w1 h2 (((Upd.refl W _).alloc _).trans h3 (fun _ _ h => h)) ?_
  rcases h4 with h4 | h4
  · exact .inl h4
  · exact .inr ⟨_, h4, by simp⟩
/-- 'copy(dst, src)', dst a part of an owned row, src read anywhere (also in that row). -/
theorem row_copy {W : World} (hgd : o.guard = none) (d s : Operand) (dT sT : TypeId)
    (ho : o.op = .call { callee := .builtin .copy, args := #[d, s], argTypes := #[dT, sT] }) (elem : TypeId) (hu : P.underlying dT = some (.slice elem)) (hsz : (P.info? elem).map (·.size) = some 1)
    (dp sp : Option Addr) (dLen dCap sLen sCap : Nat) (hd : a.eval d = .slice dp dLen dCap) (hs : a.eval s = .slice sp sLen sCap)
    (g off n c : Nat) (e : TypeId) (xs ys : List Value) (HO : Row W e (some ⟨g, 0, none⟩) n c xs) (HR : Rd W sp sLen ys) (h1 : ∀ u ∈ ys, u.oneCell' = true) (m : Nat) (hm : m = Nat.min sLen dLen) (hfit : off + m ≤ n)
    (hdp : 0 < m → dp = some ⟨g, off, none⟩)
    (h : ∀ w1, Row w1 e (some ⟨g, 0, none⟩) n c (splice xs off (ys.take m)) → Upd W w1 (fun k => k = g) → wpList P ops Q rest (a.put o.dst (goInt m)) w1) :
    wpList P ops Q (o :: rest) a W := by
  have hys := HR.len
  have hxs := HO.len
  have hms : m ≤ sLen := by rw [hm]; exact Nat.min_le_left sLen dLen
  have hmm : (ys.take m).length = m := by simp; omega
  by_cases h0 : m = 0
  · subst h0
    refine wpList_copy_nothing hgd d s dT sT ho elem hu hsz dp sp dLen dCap sLen sCap hd hs hm.symm ?_
    refine h W ?_ (Upd.refl _ _)
    simpa [splice] using HO
  · obtain rfl := hdp (by omega)
    obtain ⟨ad, rfl, hc⟩ := HR.cells (by omega)
    rcases HO.form with ⟨he, _⟩ | ⟨g', cur, he, h2, h3, h4, h5, h6⟩
    · cases he
    · injection he with he
      injection he with he _ _
      subst he
      refine wpList_copy_own hgd d s dT sT ho elem hu hsz g off dLen dCap ad sLen sCap hd hs cur e h2 (ys.take m) (hmm.trans hm) (fun j v hj => hc j v ?_) (by omega) (fun v hv => h1 v (List.mem_of_mem_take hv)) ?_
      · rw [List.getElem?_take] at hj
        split at hj
        · exact hj
        · cases hj
      · rw [hmm]
        refine h _ (Row.of (setRow_heap W g cur _ e _ h2) h3 h4 ?_ ?_) ⟨rfl, rfl, rfl, by simp, fun k _ hk => setRow_other W g k _ hk⟩
        · simp; omega
        · have e1 : cur.toList.take off = xs.take off := by rw [← h6, List.take_take, Nat.min_eq_left (by omega)]
          have e2 : (cur.toList.drop (off + m)).take (n - (off + m)) = xs.drop (off + m) := by rw [← h6, List.drop_take]
          have e3 : (cur.toList.take off ++ (ys.take m ++ cur.toList.drop (off + m))) = (cur.toList.take off ++ ys.take m) ++ cur.toList.drop (off + m) := by simp
          show List.take n (cur.toList.take off ++ (ys.take m ++ cur.toList.drop (off + m))) = _
          have e4 : (cur.toList.take off ++ ys.take m).length = off + m := by rw [List.length_append, hmm]; simp; omega
          rw [e3, List.take_append, List.take_of_length_le (by omega), e4, e2, e1, List.append_assoc]
          unfold splice
          rw [hmm]
end


/-- 'x[lo:hi]' of a slice of one-cell elements. -/
theorem run_sub_lh {P : Program} {t e : TypeId} (ht : P.underlying t = some (.slice e)) (hsz : (P.info? e).map (·.size) = some 1) (A : Option Addr) (n c lo hi : Nat) (h1 : lo ≤ hi) (h2 : hi ≤ c) :
    ∃ A', (∀ w, (Instr.slice t (.slice A n c) (some (.int .i64 lo)) (some (.int .i64 hi)) none).run P w = .ok (.slice A' (hi - lo) (c - lo)) w) ∧ (lo < c → A' = A.map (·.add lo)) := by
  obtain ⟨i, hi', hs⟩ := Option.map_eq_some_iff.1 hsz
  have he : P.elem t = e := by simp [Program.elem, ht]
  refine ⟨if c = lo then A else A.map (·.add (lo * 1)), fun w => ?_, fun h => by rw [if_neg (by omega), Nat.mul_one]⟩
  have ht' : P.underlying t = some (.slice (P.elem t)) := by rw [he]; exact ht
  have h := run_slice_lh (P := P) w t A n c ht' .i64 .i64 lo hi (by omega) (by omega) (by omega)
  rw [h, he]
  have hsz2 : (sizeOf e).run P w = .ok 1 w := by simp [sizeOf, typeInfo, hi', hs]
  rw [hsz2]
  simp [Result.andThen, sliced]
theorem run_sub_h {P : Program} {t e : TypeId} (ht : P.underlying t = some (.slice e)) (hsz : (P.info? e).map (·.size) = some 1) (A : Option Addr) (n c hi : Nat) (h2 : hi ≤ c) :
    ∀ w, (Instr.slice t (.slice A n c) none (some (.int .i64 hi)) none).run P w = .ok (.slice A hi c) w := by
  intro w
  obtain ⟨i, hi', hs⟩ := Option.map_eq_some_iff.1 hsz
  have he : P.elem t = e := by simp [Program.elem, ht]
  have ht' : P.underlying t = some (.slice (P.elem t)) := by rw [he]; exact ht
  have h := run_slice_h (P := P) w t A n c ht' .i64 hi (by omega) (by omega)
  rw [h, he]
  have hsz2 : (sizeOf e).run P w = .ok 1 w := by simp [sizeOf, typeInfo, hi', hs]
  rw [hsz2]
  cases A with
  | none => simp [Result.andThen, sliced]
  | some a => simp [Result.andThen, sliced, Addr.add]
end Go.Proofs.Ytipiohkpdkandaa
