/-
  Put by the reference: walk. Conditions: none.
  The key of a record that the reference reads: walk. Conditions: none.
  Get by the reference: walk. Conditions: none.
  Clone of the reference's coder: walk. Conditions: none.
  The walks of 'lent' and 'back' of the record's law. Conditions: none.
-/
import Derived.Test.YtipiohkpdkandaaRefR
import Derived.Test.YtipiohkpdkandaaRecP
import Derived.Test.YtipiohkpdkandaaRefK
import Derived.Test.YtipiohkpdkandaaRefRead
import Derived.Test.YtipiohkpdkandaaRecG
import Derived.BigRegion
import Derived.Test.YtipiohkpdkandaaRecC
import Derived.Test.YtipiohkpdkandaaBulk
namespace Go.Proofs.Ytipiohkpdkandaa
set_option linter.unusedVariables false
set_option linter.unusedSimpArgs false
open Go.RowKit

def RNum (w : World) (n : Nat) (e : Ending) (w' : World) : Prop :=
  ∃ A c, e = .returned (.slice A (digs n).length c) ∧ Row w' 5 A (digs n).length c (nums .u8 (digs n)) ∧ (∀ g, blk A = some g → w.heap.size ≤ g) ∧ Below w.heap.size w w'
theorem refNum_any (n : Nat) (w : World) (h : n ≤ 4611686018427387903) : Calls Try.prog 73 #[.int .i64 n] w (RNum w n) := by
  have hn := refNumber_yes n w h
  clear h
  go_enter Try.func73, Try.ntmps73
  go_wp2_with fail
  refine hn.mono ?_
  rintro e w1 ⟨A, c, rfl, h1, h2, h3⟩
  have HX := Lib.hid (And.intro h1 (And.intro h2 h3))
  clear hn h1 h2 h3
  go_wp2
  go_ret
  exact ⟨A, c, rfl, HX.out⟩
theorem refNum_at {q : Nat} {x : Int} (w : World) (hq : q ≤ 4611686018427387903) (hx : (q : Int) = x) : Calls Try.prog 73 #[.int .i64 x] w (RNum w q) := by
  subst hx
  exact refNum_any q w hq

/-- The state of Put on its way: the coder, the record's box. -/
structure RSt (W w : World) (p q : Nat) (c : CC) (N : Int) (T : Nat → Prop) (r : Rec) : Prop where
  coder : RCoderB w p q c N T
  box : w.heap[W.heap.size]? = some (.cells #[.int .i64 r.tick, .string r.key, .int .i64 r.cost, .int .i64 r.verdict] 34 (0, 0))
  upd : Upd W w (fun b => b = p ∨ T b)
  old : ∀ b, b = p ∨ T b → b < W.heap.size
section
variable {W w w' : World} {p q : Nat} {c : CC} {N : Int} {T : Nat → Prop} {r : Rec}
theorem RSt.lt (h : RSt W w p q c N T r) : W.heap.size < w.heap.size := (Array.getElem?_eq_some_iff.1 h.box).1
theorem RSt.kept {U : Nat → Prop} (h : RSt W w p q c N T r) (hu : Upd w w' U) (hU : ∀ b, b < w.heap.size → U b → W.heap.size < b) : RSt W w' p q c N T r := by
  have hl := h.lt
  refine ⟨h.coder.kept hu (fun hh => ?_) (fun b hb hh => ?_), (hu.block _ hl (fun hh => by have := hU _ hl hh; omega)).trans h.box, h.upd.trans hu (fun b hb hh => by have := hU b (by omega) hh; omega), h.old⟩
  · have := h.old p (.inl rfl); have := hU p (by omega) hh; omega
  · have := h.old b (.inr hb); have := hU b (by omega) hh; omega
theorem RSt.below (h : RSt W w p q c N T r) (hb : Below w.heap.size w w') : RSt W w' p q c N T r := h.kept (Upd.of_below hb) (fun b h1 h2 => by omega)
theorem RSt.drewN (h : RSt W w p q c N T r) (n : Nat) : RSt W (w.drewN n) p q c N T r := h.below (below_drewN (Below.refl _ _) n)
theorem RSt.drew (h : RSt W w p q c N T r) : RSt W w.drew p q c N T r := h.below (Below.refl _ _).drew
theorem RSt.cells (h : RSt W w p q c N T r) : w.cell? ⟨p, 0, none⟩ = some (.pointer (some ⟨q, 0, none⟩)) ∧ w.cell? ⟨p, 1, none⟩ = some (.int .i64 c.tick) ∧ w.cell? ⟨p, 2, none⟩ = some (.int .i64 c.cost) ∧
    w.cell? ⟨W.heap.size, 0, none⟩ = some (.int .i64 r.tick) ∧ w.cell? ⟨W.heap.size, 1, none⟩ = some (.string r.key) ∧ w.cell? ⟨W.heap.size, 2, none⟩ = some (.int .i64 r.cost) ∧ w.cell? ⟨W.heap.size, 3, none⟩ = some (.int .i64 r.verdict) := by
  refine ⟨h.coder.c0, h.coder.c1, h.coder.c2, ?_, ?_, ?_, ?_⟩ <;> simp [World.cell?, h.box]
theorem RSt.use {N' : Int} {d' : DD} (h : RSt W w p q c N T r) (hd : RefAt w' q d' N' T) (hu : Upd w w' T) : RSt W w' p q ⟨d', c.tick, c.cost⟩ N' T r := by
  have hl := h.lt
  refine ⟨⟨(hu.block p h.coder.lt h.coder.apart).trans h.coder.head, hd, h.coder.apart, ⟨hd.inv, h.coder.inv.t0, h.coder.inv.t1, h.coder.inv.c0, h.coder.inv.c1⟩⟩, (hu.block _ hl (fun hh => by have := h.old _ (.inr hh); omega)).trans h.box, h.upd.trans hu (fun b _ hh => .inr hh), h.old⟩
theorem rcoder_set {w : World} {p : Nat} {a b c : Value} {i : Nat} (v : Value) (h : w.heap[p]? = some (.cells #[a, b, c] 121 (0, 0))) : (w.setCell ⟨p, i, none⟩ v).heap[p]? = some (.cells (#[a, b, c].setIfInBounds i v) 121 (0, 0)) := by
  simp [World.setCell, Array.getElem?_modify, h]
theorem RSt.done (h : RSt W w p q c N T r) (hr : r.ok) : RSt W ((w.setCell ⟨p, 1, none⟩ (.int .i64 r.tick)).setCell ⟨p, 2, none⟩ (.int .i64 r.cost)) p q ⟨c.d, r.tick, r.cost⟩ N T r := by
  have h1 := rcoder_set (i := 1) (.int .i64 r.tick) h.coder.head
  have h2 := rcoder_set (i := 2) (.int .i64 r.cost) h1
  have hu : Upd w ((w.setCell ⟨p, 1, none⟩ (.int .i64 r.tick)).setCell ⟨p, 2, none⟩ (.int .i64 r.cost)) (fun b => b = p) := ((Upd.refl w (fun b => b = p)).setCell (a := ⟨p, 1, none⟩) (fun _ => rfl) _).setCell (a := ⟨p, 2, none⟩) (fun _ => rfl) _
  have hp := h.old p (.inl rfl)
  have hl := h.lt
  refine ⟨⟨h2, h.coder.dict.kept hu (fun b hb e => h.coder.apart (by rw [← e]; exact hb)), h.coder.apart, ⟨h.coder.inv.d, hr.t0, hr.t1, by have := hr.c0; show 0 ≤ r.cost; omega, hr.c1⟩⟩, (hu.block _ hl (by omega)).trans h.box, h.upd.trans hu (fun b _ e => .inl e), h.old⟩
/-- A row of the call's own. -/
structure ORow (W w : World) (A : Option Addr) (n k : Nat) (l : List Int) : Prop where
  row : Row w 5 A n k (nums .u8 l)
  own : ∀ g, blk A = some g → W.heap.size < g
theorem ORow.nil (W w : World) : ORow W w none 0 0 [] := ⟨Row.nil _ _, fun g h => by cases h⟩
theorem ORow.kept {A : Option Addr} {n k : Nat} {l : List Int} {U : Nat → Prop} (h : ORow W w A n k l) (hu : Upd w w' U) (hU : ∀ b, U b → b ≤ W.heap.size) : ORow W w' A n k l :=
  ⟨h.row.kept hu (fun g hg hh => by have := h.own g hg; have := hU g hh; omega), h.own⟩
theorem ORow.below {A : Option Addr} {n k : Nat} {l : List Int} (h : ORow W w A n k l) (hb : Below w.heap.size w w') : ORow W w' A n k l := ⟨h.row.block (fun g hg => hb.block g (h.row.lt hg)), h.own⟩
theorem ORow.grown {A A1 : Option Addr} {n k n1 k1 : Nat} {l l1 : List Int} (h : ORow W w A n k l) (hl : W.heap.size < w.heap.size) (hr : Row w' 5 A1 n1 k1 (nums .u8 l1)) (hg : Grew w w' A A1 k k1) : ORow W w' A1 n1 k1 l1 :=
  ⟨hr, fun g hg' => by
    rcases hg.at with e | e
    · exact h.own g (by rw [← e]; exact hg')
    · rw [e] at hg'; injection hg' with hg'; omega⟩
theorem ORow.upd {A A1 : Option Addr} {n k k1 : Nat} {l : List Int} (h : ORow W w A n k l) (hg : Grew w w' A A1 k k1) : ∀ b, b < w.heap.size → blk A = some b → W.heap.size < b := fun b _ hb => h.own b hb
end
/-- What Put leaves. -/
def RPutPost (w : World) (p : Nat) (c : CC) (N : Int) (r : Rec) (S : Nat → Prop) (e : Ending) (w' : World) : Prop :=
  ∃ A k, e = .returned (.tuple #[.slice A (putF c r).2.1.length k, .int .i64 (putF c r).2.2]) ∧ Row w' 5 A (putF c r).2.1.length k (nums .u8 (putF c r).2.1) ∧ (∀ g, blk A = some g → w.heap.size ≤ g) ∧
    RCoderAt w' p (putF c r).1 (N + 1) S ∧ Upd w w' S
theorem rputPost_bad {w w' : World} {p : Nat} {c : CC} {N : Int} {r : Rec} {S : Nat → Prop} (h : RCoderAt w p c N S) {e : Int} (hp : putF c r = (c, [], e)) (hb : Below w.heap.size w w') : RPutPost w p c N r S (.returned (.tuple #[.slice none 0 0, .int .i64 e])) w' := by
  refine ⟨none, 0, by rw [hp]; rfl, by rw [hp]; exact Row.nil _ _, (fun g hg => by cases hg), by rw [hp]; exact (h.below hb).more (by omega), (Upd.of_below hb).mono (fun b hlt hh => absurd hh (by omega))⟩
theorem rputPost_ok {w w' : World} {p q : Nat} {c : CC} {N : Int} {r : Rec} {S T : Nat → Prop} {A : Option Addr} {n k : Nat} (hr : r.ok) (ht : c.tick ≤ r.tick) (hS : ∀ b, S b ↔ b = p ∨ T b) (h : RSt w w' p q (putC c r) (N + 1) T r) (hn : (putB c r).length = n) (hA : ORow w w' A n k (putB c r)) :
    RPutPost w p c N r S (.returned (.tuple #[.slice A n k, .int .i64 0])) w' := by
  subst hn
  have e := putF_yes hr ht
  refine ⟨A, k, by rw [e], by rw [e]; exact hA.row, fun g hg => Nat.le_of_lt (hA.own g hg), by rw [e]; exact ⟨q, T, h.coder, hS⟩, h.upd.mono (fun b _ hb => (hS b).2 hb)⟩

set_option maxRecDepth 100000 in
set_option maxHeartbeats 1000000 in
theorem refPut_wrong {w : World} {p : Nat} {c : CC} {N : Int} {S : Nat → Prop} (h : RCoderAt w p c N S) (r : Rec) (hm : r.key.size ≤ maxLen) (hr : recErr r ≠ 0) :
    Calls Try.prog 62 #[.pointer (some ⟨p, 0, none⟩), r.val] w (RPutPost w p c N r S) := by
  have hright := refRec_any (w.alloc (.cells #[.int .i64 r.tick, .string r.key, .int .i64 r.cost, .int .i64 r.verdict] 34)) r hm
  have hend := fun (w' : World) => rputPost_bad (w' := w') h (putF_bad (c := c) hr)
  unfold RecRight at hright
  unfold Rec.val at hright ⊢
  obtain ⟨ee, hee⟩ : ∃ ee, recErr r = ee := ⟨_, rfl⟩
  rw [hee] at hright hend hr
  have hr1 : (ee != 0) = true := by simpa using hr
  have hr2 : (ee == 0) = false := by simpa using hr
  have HE := Lib.hid hend
  obtain ⟨tick, key, cost, verdict⟩ := r
  simp only at hright ⊢
  clear hend h hee hm
  go_enter Try.func62, Try.ntmps62
  go_wp2_with fail
  refine hright.mono ?_
  rintro e w1 ⟨rfl, hb⟩
  have H1 := Lib.hid hb
  clear hright hb
  go_wp2
  go_ret2
  exact HE.out _ (((Below.refl _ _).alloc (Nat.le_refl _) _).trans (H1.out.mono (by simp)))
set_option maxRecDepth 100000 in
set_option maxHeartbeats 1000000 in
theorem refPut_late {w : World} {p : Nat} {c : CC} {N : Int} {S : Nat → Prop} (h : RCoderAt w p c N S) (r : Rec) (hr : recErr r = 0) (hl : r.tick < c.tick) :
    Calls Try.prog 62 #[.pointer (some ⟨p, 0, none⟩), r.val] w (RPutPost w p c N r S) := by
  have hm : r.key.size ≤ maxLen := by have := (recErr_ok.1 hr).key.2; simp only [maxLen]; omega
  have hright := refRec_any (w.alloc (.cells #[.int .i64 r.tick, .string r.key, .int .i64 r.cost, .int .i64 r.verdict] 34)) r hm
  have hend := fun (w' : World) => rputPost_bad (w' := w') h (putF_late hr hl)
  unfold RecRight at hright
  rw [hr] at hright
  unfold Rec.val at hright ⊢
  have HE := Lib.hid hend
  obtain ⟨q, T, hB, _⟩ := h
  have hpl := hB.lt
  have hc1 := hB.c1
  obtain ⟨tick, key, cost, verdict⟩ := r
  simp only at hright hl ⊢
  obtain ⟨d, ct, cc⟩ := c
  simp only at hl hc1
  clear hend hm hr hB
  go_enter Try.func62, Try.ntmps62
  go_wp2_with fail
  refine hright.mono ?_
  rintro e w1 ⟨rfl, hb⟩
  have H := Lib.hid hb
  have g1 := (hb.cell (p := ⟨p, 1, none⟩) (by simp; omega)).trans (((Below.refl _ _).alloc (Nat.le_refl _) _).cell (p := ⟨p, 1, none⟩) hpl |>.trans hc1)
  have g2 := (hb.cell (p := ⟨w.heap.size, 0, none⟩) (by simp)).trans (by simp; rfl)
  clear hright hb hc1
  go_wp2_with fail
  go_quiet (fail)
  go_wp2
  go_ret2
  refine HE.out _ ?_
  have h9 := ((Below.refl w.heap.size w).alloc (Nat.le_refl _) (.cells #[.int .i64 tick, .string key, .int .i64 cost, .int .i64 verdict] 34)).trans (H.out.mono (by simp))
  exact ⟨h9.os, h9.tape, h9.output, h9.size, h9.block⟩


set_option maxRecDepth 100000 in
set_option maxHeartbeats 4000000 in
theorem refPut_yes {w : World} {p : Nat} {c : CC} {N : Int} {S : Nat → Prop} (h : RCoderAt w p c N S) (hN : N ≤ 4611686018427387903) (r : Rec) (hr : r.ok) (ht : c.tick ≤ r.tick) :
    Calls Try.prog 62 #[.pointer (some ⟨p, 0, none⟩), r.val] w (RPutPost w p c N r S) := by
  have hm : r.key.size ≤ maxLen := by have := hr.key.2; simp only [maxLen]; omega
  have hright := refRec_any (w.alloc (.cells #[.int .i64 r.tick, .string r.key, .int .i64 r.cost, .int .i64 r.verdict] 34)) r hm
  unfold RecRight at hright
  rw [recErr_ok.2 hr] at hright
  unfold Rec.val at hright ⊢
  have hinv := h.inv
  obtain ⟨f1, f2⟩ := firstN_bd hinv hr ht
  obtain ⟨s1, s2⟩ := secondN_bd hinv hr
  have hlt : ∀ b, S b → b < w.heap.size := fun b hb => h.lt hb
  obtain ⟨q, T, hB, hS⟩ := h
  have hend := fun (w' : World) (A : Option Addr) (n k : Nat) => rputPost_ok (w := w) (w' := w') (p := p) (q := q) (N := N) (S := S) (T := T) (A := A) (n := n) (k := k) hr ht hS
  have HE := Lib.hid hend
  have hst : ∀ w', Below (w.heap.size + 1) (w.alloc (.cells #[.int .i64 r.tick, .string r.key, .int .i64 r.cost, .int .i64 r.verdict] 34)) w' → RSt w w' p q c N T r := fun w' hb => by
    have hbw : Below w.heap.size w w' := ((Below.refl _ _).alloc (Nat.le_refl _) _).trans (hb.mono (by omega))
    have hu : Upd w w' (fun k => w.heap.size ≤ k) := Upd.of_below hbw
    exact ⟨hB.kept hu (by have := hB.lt; omega) (fun b hb => by have := hB.dict.lt hb; omega), (hb.block w.heap.size (by omega)).trans (heap_alloc_new w _), hu.mono (fun b h1 h2 => absurd h1 (by omega)), fun b hb => hlt b ((hS b).2 hb)⟩
  have HS := Lib.hid hst
  have i1 : IntKind.i64.wrap (r.tick - c.tick) = r.tick - c.tick := IntWalk.i64_in _ (by have := hinv.t0; have := hr.t1; omega)
  have i2 : IntKind.i64.wrap (4 * (r.tick - c.tick)) = 4 * (r.tick - c.tick) := IntWalk.i64_in _ (by have := hinv.t0; have := hr.t1; omega)
  have i3 : IntKind.i64.wrap (4 * (r.tick - c.tick) + r.verdict) = (firstN c r : Int) := by rw [f1]; exact IntWalk.i64_in _ (by have := hinv.t0; have := hr.t1; have := hr.v0; have := hr.v1; omega)
  have i4 : IntKind.i64.wrap (r.cost - c.cost) = r.cost - c.cost := IntWalk.i64_in _ (by have := hinv.c0; have := hinv.c1; have := hr.c0; have := hr.c1; omega)
  have hz : (zigF (r.cost - c.cost)) = ((secondN c r : Int), 0) := by
    have := zig_bd (n := r.cost - c.cost) (by have := hinv.c0; have := hinv.c1; have := hr.c0; have := hr.c1; omega) (by have := hinv.c0; have := hinv.c1; have := hr.c0; have := hr.c1; omega)
    exact Prod.ext s1.symm this.2.2
  have F1 := Lib.hid f1
  have hl := putF_ok_len hinv hr ht
  obtain ⟨m1, hm1⟩ : ∃ m1, (digs (firstN c r)).length = m1 := ⟨_, rfl⟩
  obtain ⟨m2, hm2⟩ : ∃ m2, (digs (secondN c r)).length = m2 := ⟨_, rfl⟩
  rw [hm1, hm2] at hl
  have HM := Lib.hid (And.intro hm1 hm2)
  clear f1 s1 hend hst hm1 hm2
  go_enter Try.func62, Try.ntmps62
  go_wp2_with fail
  refine hright.mono ?_
  rintro e w1 ⟨rfl, hb⟩
  have H1 := Lib.hid (HS.out w1 (by simpa using hb))
  obtain ⟨d0, d1, d2, b0, b1, b2, b3⟩ := H1.out.cells
  clear hright hb HS hB hS hlt
  go_wp2_with fail
  go_quiet (fail)
  clear d0 d1 d2 b0 b1 b2 b3
  have H2 := H1.out.drewN nq
  generalize w1.drewN nq = u2 at H2 ⊢
  obtain ⟨d0, d1, d2, b0, b1, b2, b3⟩ := H2.cells
  replace H2 := Lib.hid H2
  go_wp2_with fail
  go_still_tail 11, (by kernel_rfl)
  change wpList _ _ _ _ _ u2.drew
  have H3 := H2.out.drew
  have hnum := refNum_at (q := firstN c r) u2.drew (by omega) rfl
  clear d0 d1 d2 b0 b1 b2 b3 i1 i2 i3
  go_wp2_with fail
  refine hnum.mono ?_
  rintro e w3 ⟨B1, k1, rfl, r1, a1, v1⟩
  rw [HM.out.1] at r1 ⊢
  have H4 := H3.below v1
  have O1 : ORow w w3 B1 m1 k1 (digs (firstN c r)) := ⟨r1, fun g hg => by have := a1 g hg; have := H3.lt; omega⟩
  obtain ⟨d0, d1, d2, b0, b1, b2, b3⟩ := H4.cells
  replace H4 := Lib.hid (And.intro H4 O1)
  clear hnum H3 H2 H1 r1 a1 v1 O1
  go_wp2_with fail
  have hzig : ∀ n, Calls Try.prog 74 #[.int .i64 (r.cost - c.cost)] (w3.drewN n) (fun e w' => e = .returned (.tuple #[.int .i64 (secondN c r : Int), .int .i64 0]) ∧ w' = w3.drewN n) := fun n => by
    have := refZig_any (r.cost - c.cost) (w3.drewN n)
    rw [hz] at this
    exact this.mono fun e w' ⟨a, b⟩ => ⟨a, b.symm⟩
  clear hz
  go_quiet ((go_at_call 74; exact Calls.quiet_of_same (hzig _)))
  clear d0 d1 d2 b0 b1 b2 b3 i4
  have H5 := Lib.hid (And.intro (H4.out.1.drewN nq) (H4.out.2.below (below_drewN (Below.refl _ _) nq)))
  generalize w3.drewN nq = u4 at H5 ⊢
  have hnum := refNum_at (q := secondN c r) u4 (by omega) rfl
  clear hzig H4
  go_wp2_with fail
  refine hnum.mono ?_
  rintro e w5 ⟨B2, k2, rfl, r2, a2, v2⟩
  rw [HM.out.2] at r2 ⊢
  have H6 := Lib.hid (And.intro (H5.out.1.below v2) (And.intro (H5.out.2.below v2) (show ORow w w5 B2 m2 k2 (digs (secondN c r)) from ⟨r2, fun g hg => by have := a2 g hg; have := H5.out.1.lt; omega⟩)))
  clear hnum H5 r2 a2 v2
  go_wp2_with (at_builtin; go_must (refine row_append_g rfl (.tmp 54) (.tmp 55) 25 5 (.int .u8 0) 1 rfl Try.underlying25 infoByte rfl (by decide) none 0 0 [] B1 m1 k1 _ rfl rfl (Row.nil _ _) H6.out.2.1.row.rd (nums_oneCell _ _) (by omega) ?_))
  intro A1 c1 w6 x1 x2
  try simp only [Nat.zero_add, List.nil_append] at x1
  try simp only [Nat.zero_add]
  have H7 := Lib.hid (And.intro (H6.out.1.kept x2.upd (fun b _ h => by cases h)) (And.intro ((ORow.nil w w5).grown H6.out.1.lt x1 x2) (H6.out.2.2.kept x2.upd (fun b h => by cases h))))
  clear x1 x2 H6
  go_wp2_with (at_builtin; go_must (refine row_append_g rfl (.tmp 57) (.tmp 58) 25 5 (.int .u8 0) 1 rfl Try.underlying25 infoByte rfl (by decide) A1 m1 c1 _ B2 m2 k2 _ rfl rfl H7.out.2.1.row H7.out.2.2.row.rd (nums_oneCell _ _) (by omega) ?_))
  intro A2 c2 w7 x1 x2
  rw [← nums_append] at x1
  have H8 := Lib.hid (And.intro (H7.out.1.kept x2.upd (fun b _ h => H7.out.2.1.own b h)) (H7.out.2.1.grown H7.out.1.lt x1 x2))
  obtain ⟨d0, d1, d2, b0, b1, b2, b3⟩ := H8.out.1.cells
  clear x1 x2 H7
  go_wp2_with fail
  have H9 := Lib.hid (And.intro H8.out.1.drew (H8.out.2.below (Below.refl _ _).drew))
  have huse := refUse_any H9.out.1.coder.dict hN r.key hm
  have hku := useG_ok hinv.d hr.key
  have hT : Hid (∀ b, T b → b ≤ w.heap.size) := fun b hb => Nat.le_of_lt (H9.out.1.old b (.inr hb))
  clear d1 d2 b0 b2 b3
  unfold RUse at huse
  rcases hku with ⟨s, hs, hs64, hu, hmem⟩ | ⟨d', s, hu, hmem, hlk⟩
  · rw [hu] at huse
    have HT := Lib.hid (show putB c r = digs (firstN c r) ++ digs (secondN c r) ++ digs (1 + s) by unfold putB tailB; rw [hu]; rfl)
    have HC := Lib.hid (show putC c r = ⟨(useG c.d r.key).1, r.tick, r.cost⟩ from rfl)
    have HU := Lib.hid hu
    have hsi : (s : Int) < 64 := by omega
    have hm3 := (digs_len9 (n := 1 + s) (by omega)).2
    obtain ⟨m3, hm3e⟩ : ∃ m3, (digs (1 + s)).length = m3 := ⟨_, rfl⟩
    rw [hm3e] at hm3
    have HM3 := Lib.hid hm3e
    clear hu hs hmem hm3e
    have huse2 : Calls Try.prog 58 #[.pointer (some ⟨q, 0, none⟩), .string r.key] w7.drew (fun e w' => e = .returned (.tuple #[.int .i64 s, .bool true, .int .i64 0]) ∧ RSt w w' p q ⟨touchF c.d s, c.tick, c.cost⟩ (N + 1) T r ∧ ORow w w' A2 (m1 + m2) c2 (digs (firstN c r) ++ digs (secondN c r)) ∧ w'.cell? ⟨p, 0, none⟩ = some (.pointer (some ⟨q, 0, none⟩)) ∧ w'.cell? ⟨w.heap.size, 1, none⟩ = some (.string r.key)) := by
      refine huse.mono ?_
      rintro e w' ⟨rfl, u1, u2⟩
      have H7 := H9.out.1.use u1 u2
      exact ⟨rfl, H7, H9.out.2.kept u2 hT.out, H7.cells.1, H7.cells.2.2.2.2.1⟩
    clear huse
    go_region_held3 (fun w' => w'.cell? ⟨p, 0, none⟩ = some (.pointer (some ⟨q, 0, none⟩)) ∧ w'.cell? ⟨w.heap.size, 1, none⟩ = some (.string r.key))
      (first | exact ⟨by assumption, by assumption⟩ | go_keep)
      ((go_at_call 58; refine huse2.mono ?_; rintro e w8 ⟨rfl, H10, O10, e0, e1⟩))
    have hnum := refNum_at (q := 1 + s) (x := 1 + (s : Int)) w8 (by omega) (by omega)
    replace H10 := Lib.hid (And.intro H10 O10)
    clear huse2 d0 b1 e0 e1 O10 H9 H8
    go_wp2_with fail
    refine hnum.mono ?_
    rintro e w9 ⟨B3, k3, rfl, r3, a3, v3⟩
    rw [HM3.out] at r3 ⊢
    have H11 := Lib.hid (And.intro (H10.out.1.below v3) (And.intro (H10.out.2.below v3) (show ORow w w9 B3 m3 k3 (digs (1 + s)) from ⟨r3, fun g hg => by have := a3 g hg; have := H10.out.1.lt; omega⟩)))
    clear hnum H10 r3 a3 v3
    go_wp2_with (at_builtin; go_must (refine row_append_g rfl (.tmp 75) (.tmp 76) 25 5 (.int .u8 0) 1 rfl Try.underlying25 infoByte rfl (by decide) A2 (m1 + m2) c2 _ B3 m3 k3 _ rfl rfl H11.out.2.1.row H11.out.2.2.row.rd (nums_oneCell _ _) (by omega) ?_))
    intro A3 c3 w10 x1 x2
    rw [← nums_append] at x1
    have H12 := Lib.hid (And.intro (H11.out.1.kept x2.upd (fun b _ h => H11.out.2.1.own b h)) (H11.out.2.1.grown H11.out.1.lt x1 x2))
    obtain ⟨d0, d1, d2, b0, b1, b2, b3⟩ := H12.out.1.cells
    have z1 := H12.out.1.coder.free 1
    have z2 := H12.out.1.coder.free 2
    clear x1 x2 H11 d0 b1 b3
    go_wp2
    go_ret2
    refine HE.out _ _ _ _ ?_ ?_ ?_
    · have := H12.out.1.done hr
      rw [HC.out, HU.out]
      exact this
    · rw [HT.out, List.length_append, List.length_append, HM.out.1, HM.out.2, HM3.out]
    · rw [HT.out]
      exact H12.out.2.kept (U := fun b => b = p) (((Upd.refl _ (fun b => b = p)).setCell (a := ⟨p, 1, none⟩) (fun _ => rfl) _).setCell (a := ⟨p, 2, none⟩) (fun _ => rfl) _) (fun b hb => by rw [hb]; exact Nat.le_of_lt (H12.out.1.old p (.inl rfl)))
  · rw [hu] at huse
    have HT := Lib.hid (show putB c r = digs (firstN c r) ++ digs (secondN c r) ++ [0] ++ digs r.key.size ++ kb r.key by unfold putB tailB; rw [hu]; rw [digs_zero]; simp)
    have HC := Lib.hid (show putC c r = ⟨(useG c.d r.key).1, r.tick, r.cost⟩ from rfl)
    have HU := Lib.hid hu
    have hks : r.key.size ≤ 64 := hr.key.2
    have hm3 := (digs_len9 (n := r.key.size) (by omega)).2
    obtain ⟨m3, hm3e⟩ : ∃ m3, (digs r.key.size).length = m3 := ⟨_, rfl⟩
    rw [hm3e] at hm3
    have HM3 := Lib.hid hm3e
    clear hu hmem hlk hm3e
    have huse2 : Calls Try.prog 58 #[.pointer (some ⟨q, 0, none⟩), .string r.key] w7.drew (fun e w' => e = .returned (.tuple #[.int .i64 s, .bool false, .int .i64 0]) ∧ RSt w w' p q ⟨d', c.tick, c.cost⟩ (N + 1) T r ∧ ORow w w' A2 (m1 + m2) c2 (digs (firstN c r) ++ digs (secondN c r)) ∧ w'.cell? ⟨p, 0, none⟩ = some (.pointer (some ⟨q, 0, none⟩)) ∧ w'.cell? ⟨w.heap.size, 1, none⟩ = some (.string r.key)) := by
      refine huse.mono ?_
      rintro e w' ⟨rfl, u1, u2⟩
      have H7 := H9.out.1.use u1 u2
      exact ⟨rfl, H7, H9.out.2.kept u2 hT.out, H7.cells.1, H7.cells.2.2.2.2.1⟩
    clear huse
    go_region_held3 (fun w' => w'.cell? ⟨p, 0, none⟩ = some (.pointer (some ⟨q, 0, none⟩)) ∧ w'.cell? ⟨w.heap.size, 1, none⟩ = some (.string r.key))
      (first | exact ⟨by assumption, by assumption⟩ | go_keep)
      ((go_at_call 58; refine huse2.mono ?_; rintro e w8 ⟨rfl, H10, O10, e0, e1⟩))
    replace H10 := Lib.hid (And.intro H10 O10)
    clear huse2 d0 b1 e0 e1 O10 H9 H8
    go_wp2_with (at_builtin; go_must (refine row_append1_g rfl (.tmp 78) (.tmp 79) 25 5 (.int .u8 0) 1 rfl Try.underlying25 infoByte rfl (by decide) A2 (m1 + m2) c2 _ (.int .u8 0) rfl rfl rfl H10.out.2.row (by omega) ?_))
    intro A3 c3 w9 x1 x2
    have x1' : Row w9 5 A3 (m1 + m2 + 1) c3 (nums .u8 (digs (firstN c r) ++ digs (secondN c r) ++ [0])) := by rw [nums_append]; exact x1
    have hal : Below w8.heap.size w8 (w8.alloc (.cells #[.int .u8 0] 5)) := (Below.refl _ _).alloc (Nat.le_refl _) _
    have H10a := Lib.hid (And.intro (H10.out.1.below hal) (H10.out.2.below hal))
    have H11 := Lib.hid (And.intro (H10a.out.1.kept x2.upd (fun b _ h => H10.out.2.own b h)) (H10a.out.2.grown H10a.out.1.lt x1' x2))
    obtain ⟨d0, d1, d2, b0, b1, b2, b3⟩ := H11.out.1.cells
    have hnum := refNum_at (q := r.key.size) (x := (r.key.size : Int)) w9 (by omega) rfl
    clear x1 x1' x2 H10 H10a hal d0 d1 d2 b0 b2 b3
    go_wp2_with fail
    refine hnum.mono ?_
    rintro e w10 ⟨B3, k3, rfl, r3, a3, v3⟩
    rw [HM3.out] at r3 ⊢
    have H12 := Lib.hid (And.intro (H11.out.1.below v3) (And.intro (H11.out.2.below v3) (show ORow w w10 B3 m3 k3 (digs r.key.size) from ⟨r3, fun g hg => by have := a3 g hg; have := H11.out.1.lt; omega⟩)))
    clear hnum H11 r3 a3 v3 b1
    go_wp2_with (at_builtin; go_must (refine row_append_g rfl (.tmp 85) (.tmp 86) 25 5 (.int .u8 0) 1 rfl Try.underlying25 infoByte rfl (by decide) A3 (m1 + m2 + 1) c3 _ B3 m3 k3 _ rfl rfl H12.out.2.1.row H12.out.2.2.row.rd (nums_oneCell _ _) (by omega) ?_))
    intro A4 c4 w11 x1 x2
    rw [← nums_append] at x1
    have H13 := Lib.hid (And.intro (H12.out.1.kept x2.upd (fun b _ h => H12.out.2.1.own b h)) (H12.out.2.1.grown H12.out.1.lt x1 x2))
    obtain ⟨d0, d1, d2, b0, b1, b2, b3⟩ := H13.out.1.cells
    clear x1 x2 H12 d0 d1 d2 b0 b2 b3
    go_wp2_with (at_builtin; go_must (refine row_append_str rfl (.tmp 88) (.tmp 90) 25 9 5 rfl Try.underlying25 Try.underlying9 infoByte A4 (m1 + m2 + 1 + m3) c4 _ r.key rfl rfl H13.out.2.row (by omega) ?_))
    intro A5 c5 w12 x1 x2
    have x1' : Row w12 5 A5 (m1 + m2 + 1 + m3 + r.key.size) c5 (nums .u8 (digs (firstN c r) ++ digs (secondN c r) ++ [0] ++ digs r.key.size ++ kb r.key)) := by
      have e : nums .u8 (kb r.key) = Go.Lib.strCells r.key := by simp [nums, kb, Go.Lib.strCells]
      rw [nums_append, e]
      simpa only [List.append_assoc, List.cons_append, List.nil_append] using x1
    have H14 := Lib.hid (And.intro (H13.out.1.kept x2.upd (fun b _ h => H13.out.2.own b h)) (H13.out.2.grown H13.out.1.lt x1' x2))
    clear b1
    obtain ⟨d0, d1, d2, b0, b1, b2, b3⟩ := H14.out.1.cells
    have z1 := H14.out.1.coder.free 1
    have z2 := H14.out.1.coder.free 2
    clear x1 x1' x2 H13 d0 b1 b3
    go_wp2
    go_ret2
    refine HE.out _ _ _ _ ?_ ?_ ?_
    · have := H14.out.1.done hr
      rw [HC.out, HU.out]
      exact this
    · rw [HT.out]
      simp only [List.length_append, HM.out.1, HM.out.2, HM3.out, kb_length]
      rfl
    · rw [HT.out]
      exact H14.out.2.kept (U := fun b => b = p) (((Upd.refl _ (fun b => b = p)).setCell (a := ⟨p, 1, none⟩) (fun _ => rfl) _).setCell (a := ⟨p, 2, none⟩) (fun _ => rfl) _) (fun b hb => by rw [hb]; exact Nat.le_of_lt (H14.out.1.old p (.inl rfl)))
/-- Put of any record. -/
theorem refPut_any {w : World} {p : Nat} {c : CC} {N : Int} {S : Nat → Prop} (h : RCoderAt w p c N S) (hN : N ≤ 4611686018427387903) (r : Rec) (hm : r.key.size ≤ maxLen) :
    Calls Try.prog 62 #[.pointer (some ⟨p, 0, none⟩), r.val] w (RPutPost w p c N r S) := by
  by_cases h1 : recErr r = 0
  · by_cases h2 : r.tick < c.tick
    · exact refPut_late h r h1 h2
    · exact refPut_yes h hN r (recErr_ok.1 h1) (by omega)
  · exact refPut_wrong h r hm h1
end Go.Proofs.Ytipiohkpdkandaa
namespace Go.Proofs.Ytipiohkpdkandaa
set_option linter.unusedVariables false
set_option linter.unusedSimpArgs false
open Go.RowKit

theorem fault_any (e x : Int) (w : World) : Calls Try.prog 79 #[.int .i64 e, .int .i64 x] w fun en w' => en = .returned (.agg #[.int .i64 e, .int .i64 x]) ∧ Below w.heap.size w w' := by
  go_enter Try.func79, Try.ntmps79
  go_wp2
  refine bodyPost_ret_by (v := .agg #[.int .i64 e, .int .i64 x]) ?_ rfl ⟨rfl, (Below.refl _ _).alloc (Nat.le_refl _) _⟩
  exact results_cell_row (p := 4) rfl _ _ w.heap.size 37 #[.int .i64 e, .int .i64 x] (0, 0) _ rfl (heap_alloc_new w _) Try.underlying37 rfl sizeFault
theorem results_ttc {fn : Func} {p q u : Tmp} {ty2 : TypeId} (h : fn.results = #[.tmp p, .tmp u, .cell q ty2]) (tmps : Array Value) (P : Program) (w : World) :
    (results fn tmps).run P w = ((asAddr (tmps.getD q undef)).run P w).andThen fun a2 w₃ => ((loadVar ty2 a2).run P w₃).andThen fun v2 w₄ => .ok (.tuple #[tmps.getD p undef, tmps.getD u undef, v2]) w₄ := by
  simp only [results, h]
  simp [Sem.run_bind, Result.andThen]
theorem results_ttc_of {fn : Func} {p q u : Tmp} {ty2 : TypeId} (h : fn.results = #[.tmp p, .tmp u, .cell q ty2]) {tmps : Array Value} {P : Program} {w : World} {a2 : Addr} {v2 : Value} (hq : tmps.getD q undef = .pointer (some a2))
    (h2 : (loadVar ty2 a2).run P w = .ok v2 w) : (results fn tmps).run P w = .ok (.tuple #[tmps.getD p undef, tmps.getD u undef, v2]) w := by
  rw [results_ttc h, hq]
  simp only [asAddr]
  simp [Result.andThen, h2]

/-- The state on the way: the coder, the block of the fault that is answered. -/
structure KSt (w u : World) (p q : Nat) (c : CC) (N : Int) (T S : Nat → Prop) (fb : Nat) : Prop where
  coder : RCoderB u p q c N T
  upd : Upd w u S
  f0 : u.heap[fb]? = some (.cells #[.int .i64 0, .int .i64 0] 37 (0, 0))
  iff : ∀ b, S b ↔ b = p ∨ T b
  old : ∀ b, S b → b < w.heap.size
  new : w.heap.size ≤ fb
section
variable {w u u' : World} {p q : Nat} {c : CC} {N : Int} {T S : Nat → Prop} {fb : Nat}
theorem KSt.below (h : KSt w u p q c N T S fb) (hb : Below u.heap.size u u') : KSt w u' p q c N T S fb := by
  have hs := h.upd.size
  have hf := (Array.getElem?_eq_some_iff.1 h.f0).1
  exact ⟨h.coder.kept (Upd.of_below hb) (fun hh => by have := h.coder.lt; omega) (fun b h1 h2 => by have := h.coder.dict.lt h1; omega), h.upd.trans (Upd.of_below hb) (fun b h1 h2 => by omega), (hb.block fb hf).trans h.f0, h.iff, h.old, h.new⟩
theorem KSt.turn {d' : DD} {N' : Int} (h : KSt w u p q c N T S fb) (hd : RefAt u' q d' N' T) (hu : Upd u u' T) : KSt w u' p q ⟨d', c.tick, c.cost⟩ N' T S fb := by
  have hf := (Array.getElem?_eq_some_iff.1 h.f0).1
  refine ⟨⟨(hu.block p h.coder.lt h.coder.apart).trans h.coder.head, hd, h.coder.apart, ⟨hd.inv, h.coder.inv.t0, h.coder.inv.t1, h.coder.inv.c0, h.coder.inv.c1⟩⟩, h.upd.trans hu (fun b _ hb => (h.iff b).2 (.inr hb)), (hu.block fb hf (fun hb => by have := h.old fb ((h.iff fb).2 (.inr hb)); have := h.new; omega)).trans h.f0, h.iff, h.old, h.new⟩
theorem KSt.cells (h : KSt w u p q c N T S fb) : u.cell? ⟨fb, 0, none⟩ = some (.int .i64 0) ∧ u.cell? ⟨fb, 1, none⟩ = some (.int .i64 0) ∧ u.frozen? ⟨fb, 0, none⟩ = false ∧ u.frozen? ⟨fb, 1, none⟩ = false := by
  refine ⟨?_, ?_, ?_, ?_⟩ <;> simp [World.cell?, World.frozen?, h.f0]
/-- The fault is laid. -/
theorem KSt.fin (h : KSt w u p q c N T S fb) (e x : Int) :
    RCoderAt ((u.setCell ⟨fb, 0, none⟩ (.int .i64 e)).setCell ⟨fb, 1, none⟩ (.int .i64 x)) p c N S ∧ Upd w ((u.setCell ⟨fb, 0, none⟩ (.int .i64 e)).setCell ⟨fb, 1, none⟩ (.int .i64 x)) S ∧
    ((u.setCell ⟨fb, 0, none⟩ (.int .i64 e)).setCell ⟨fb, 1, none⟩ (.int .i64 x)).heap[fb]? = some (.cells #[.int .i64 e, .int .i64 x] 37 (0, 0)) := by
  have h1 := cells_set (i := 0) (.int .i64 e) h.f0
  have h2 := cells_set (i := 1) (.int .i64 x) h1
  have hu : Upd u ((u.setCell ⟨fb, 0, none⟩ (.int .i64 e)).setCell ⟨fb, 1, none⟩ (.int .i64 x)) (fun b => b = fb) := ((Upd.refl u (fun b => b = fb)).setCell (a := ⟨fb, 0, none⟩) (fun _ => rfl) _).setCell (a := ⟨fb, 1, none⟩) (fun _ => rfl) _
  have hn := h.new
  refine ⟨⟨q, T, h.coder.kept hu (fun e => by have := h.old p ((h.iff p).2 (.inl rfl)); omega) (fun b hb e => by have := h.old b ((h.iff b).2 (.inr hb)); omega), h.iff⟩, h.upd.trans hu (fun b hb e => by omega), h2⟩
end
def RKeyPost (w : World) (p : Nat) (c : CC) (N : Int) (K : DD × ByteArray × Int × Int × Int) (S : Nat → Prop) (e : Ending) (w' : World) : Prop :=
  e = .returned (.tuple #[.string K.2.1, .int .i64 K.2.2.1, .agg #[.int .i64 K.2.2.2.2, .int .i64 K.2.2.2.1]]) ∧ RCoderAt w' p ⟨K.1, c.tick, c.cost⟩ (N + 1) S ∧ Upd w w' S
theorem rkey_bad {w u : World} {p q : Nat} {c : CC} {N : Int} {T S : Nat → Prop} {fb : Nat} {K : DD × ByteArray × Int × Int × Int} {x e : Int} (hK : K = (c.d, ByteArray.empty, 0, x, e)) (h : KSt w u p q c N T S fb) :
    RKeyPost w p c N K S (.returned (.tuple #[.string ByteArray.empty, .int .i64 0, .agg #[.int .i64 e, .int .i64 x]])) ((u.setCell ⟨fb, 0, none⟩ (.int .i64 e)).setCell ⟨fb, 1, none⟩ (.int .i64 x)) := by
  subst hK
  have h1 := h.fin e x
  exact ⟨rfl, h1.1.more (by omega), h1.2.1⟩
theorem rkey_ok {w u : World} {p q : Nat} {c : CC} {N : Int} {T S : Nat → Prop} {fb : Nat} {K : DD × ByteArray × Int × Int × Int} {d : DD} {k : ByteArray} {t : Int} (hK : K = (d, k, t, 0, 0)) (h : KSt w u p q ⟨d, c.tick, c.cost⟩ (N + 1) T S fb) :
    RKeyPost w p c N K S (.returned (.tuple #[.string k, .int .i64 t, .agg #[.int .i64 0, .int .i64 0]])) ((u.setCell ⟨fb, 0, none⟩ (.int .i64 0)).setCell ⟨fb, 1, none⟩ (.int .i64 0)) := by
  subst hK
  have h1 := h.fin 0 0
  exact ⟨rfl, h1.1, h1.2.1⟩

set_option maxRecDepth 100000 in
set_option maxHeartbeats 4000000 in
theorem refKey6_any {w : World} {p : Nat} {c : CC} {N : Int} {S : Nat → Prop} (h : RCoderAt w p c N S) (hN : N ≤ 4611686018427387903) {A : Option Addr} {n cp : Nat} {l : List Int} (hb : BytesIn w A n cp l) (a : Int) :
    Calls Try.prog 82 #[.pointer (some ⟨p, 0, none⟩), .slice A n cp, .int .i64 a] w (RKeyPost w p c N (keyF c.d l a) S) := by
  have hln := hb.len
  have hold : ∀ b, S b → b < w.heap.size := fun b hb => h.lt hb
  obtain ⟨q, T, hB, hS⟩ := h
  obtain ⟨w1, hw1⟩ : ∃ w1, w.alloc (.cells #[.int .i64 0, .int .i64 0] 37) = w1 := ⟨_, rfl⟩
  have bw : Below w.heap.size w w1 := by rw [← hw1]; exact (Below.refl _ _).alloc (Nat.le_refl _) _
  have hk : KSt w w1 p q c N T S w.heap.size := by
    refine ⟨hB.kept (Upd.of_below bw) (fun hh => by have := hB.lt; omega) (fun b h1 h2 => by have := hB.dict.lt h1; omega), (Upd.of_below bw).mono (fun b h1 h2 => absurd h1 (by omega)), ?_, hS, hold, Nat.le_refl _⟩
    rw [← hw1]
    exact heap_alloc_new w _
  have hread := fun a => refRead_any A n cp l a w1 (hb.below bw).rd hb.bytes hb.max
  have d0 := hk.coder.c0
  have HK := Lib.hid hk
  have hmx := hb.max
  have hby := Lib.hid hb.bytes
  have HBI := Lib.hid (hb.below bw)
  clear hk bw hold hB hS hb
  have r1 := hread a
  rcases readF_nat hby.out a with ⟨e1, he1, he2, he3, hr1⟩ | ⟨pp, q1, P1, rfl, hq1, hp1, hP1, hr1⟩
  · have hK : keyF c.d l a = (c.d, ByteArray.empty, 0, a, e1) := by unfold keyF; rw [hr1]; simp [he3]
    rw [hr1] at r1
    have HE := Lib.hid (fun (wf : World) (h : KSt w wf p q c N T S w.heap.size) => rkey_bad hK h)
    clear hread hr1 hK he3 hln
    go_enter Try.func82, Try.ntmps82
    go_wp2_with fail
    refine r1.mono ?_
    rintro e w9 ⟨rfl, hw9⟩
    subst hw9
    clear r1 hw1
    clear d0
    go_wp2_with fail
    refine (fault_any _ _ _).mono ?_
    rintro e wf ⟨rfl, bf⟩
    have hk2 := HK.out.below bf
    obtain ⟨f0, f1, f2, f3⟩ := hk2.cells
    have HF := Lib.hid (And.intro (HE.out wf hk2) (hk2.fin e1 a).2.2)
    clear bf hk2
    go_wp2
    try simp only [Exit.inBlock, Exit.then]
    refine bodyPost_ret_by (v := .tuple #[.string ByteArray.empty, .int .i64 0, .agg #[.int .i64 e1, .int .i64 a]]) ?_ rfl HF.out.1
    exact results_ttc_of (p := 6) (u := 7) (q := 8) (ty2 := 37) rfl rfl (run_loadVar_row (P := Try.prog) _ w.heap.size 37 37 _ (0, 0) _ HF.out.2 Try.underlying37 rfl sizeFault)
  · rw [hr1] at r1
    by_cases hq : 0 < q1
    · have hqi : (0 : Int) < q1 := by omega
      have hm1 : IntKind.i64.wrap ((q1 : Int) - 1) = ((q1 - 1 : Nat) : Int) := by rw [show (q1 : Int) - 1 = ((q1 - 1 : Nat) : Int) by omega]; exact IntWalk.i64_in _ (by omega)
      have htouch := refTouch_any HK.out.coder.dict hN ((q1 - 1 : Nat) : Int)
      unfold RTouch at htouch
      by_cases hs : q1 - 1 < c.d.keys.length
      · obtain ⟨k, hk⟩ : ∃ k, c.d.keys[q1 - 1]? = some k := ⟨_, List.getElem?_eq_getElem hs⟩
        have htg : touchG c.d ((q1 - 1 : Nat) : Int) = (touchF c.d (q1 - 1), k, 0) := by
          unfold touchG
          rw [if_pos (by omega)]
          simp [hk]
        have hK : keyF c.d l pp = (touchF c.d (q1 - 1), k, (P1 : Int), 0, 0) := by
          unfold keyF
          rw [hr1]
          simp only [ne_eq, not_true_eq_false, if_false]
          rw [if_pos (by omega), show (q1 : Int) - 1 = ((q1 - 1 : Nat) : Int) by omega, htg]
          simp
        rw [htg] at htouch
        have HE := Lib.hid (fun (wf : World) (h : KSt w wf p q ⟨touchF c.d (q1 - 1), c.tick, c.cost⟩ (N + 1) T S w.heap.size) => rkey_ok hK h)
        clear hread hr1 hK hln hs hk htg
        go_enter Try.func82, Try.ntmps82
        go_wp2_with fail
        refine r1.mono ?_
        rintro e w9 ⟨rfl, hw9⟩
        subst hw9
        clear r1 hw1
        go_wp2_with fail
        refine htouch.mono ?_
        rintro e wf ⟨rfl, h1, h2⟩
        have hk2 := HK.out.turn h1 h2
        clear htouch h1 h2 d0
        obtain ⟨f0, f1, f2, f3⟩ := hk2.cells
        have HF := Lib.hid (And.intro (HE.out wf hk2) (hk2.fin 0 0).2.2)
        clear hk2
        go_wp2
        try simp only [Exit.inBlock, Exit.then]
        refine bodyPost_ret_by (v := .tuple #[.string k, .int .i64 (P1 : Int), .agg #[.int .i64 0, .int .i64 0]]) ?_ rfl HF.out.1
        exact results_ttc_of (p := 6) (u := 7) (q := 8) (ty2 := 37) rfl rfl (run_loadVar_row (P := Try.prog) _ w.heap.size 37 37 _ (0, 0) _ HF.out.2 Try.underlying37 rfl sizeFault)
      · have htg : touchG c.d ((q1 - 1 : Nat) : Int) = (c.d, ByteArray.empty, 50) := by unfold touchG; rw [if_neg (by omega)]
        have hK : keyF c.d l pp = (c.d, ByteArray.empty, 0, (pp : Int), 64) := by
          unfold keyF
          rw [hr1]
          simp only [ne_eq, not_true_eq_false, if_false]
          rw [if_pos (by omega), show (q1 : Int) - 1 = ((q1 - 1 : Nat) : Int) by omega, htg]
          simp
        rw [htg] at htouch
        have HE := Lib.hid (fun (wf : World) (h : KSt w wf p q c N T S w.heap.size) => rkey_bad hK h)
        have HE2 := Lib.hid (fun (wf : World) (h : KSt w wf p q c (N + 1) T S w.heap.size) => (show RKeyPost w p c N (keyF c.d l pp) S _ _ from by
          have h1 := h.fin 64 pp
          rw [hK]
          exact (⟨rfl, h1.1, h1.2.1⟩ : RKeyPost w p c N (c.d, ByteArray.empty, 0, (pp : Int), 64) S (.returned (.tuple #[.string ByteArray.empty, .int .i64 0, .agg #[.int .i64 64, .int .i64 (pp : Int)]])) ((wf.setCell ⟨w.heap.size, 0, none⟩ (.int .i64 64)).setCell ⟨w.heap.size, 1, none⟩ (.int .i64 (pp : Int))))))
        clear hread hr1 hK hln hs htg HE
        go_enter Try.func82, Try.ntmps82
        go_wp2_with fail
        refine r1.mono ?_
        rintro e w9 ⟨rfl, hw9⟩
        subst hw9
        clear r1 hw1
        go_wp2_with fail
        refine htouch.mono ?_
        rintro e wt ⟨rfl, h1, h2⟩
        have HK := Lib.hid (HK.out.turn h1 h2)
        have HE := Lib.hid HE2.out
        clear htouch h1 h2
        clear d0 HE2
        go_wp2_with fail
        refine (fault_any _ _ _).mono ?_
        rintro e wf ⟨rfl, bf⟩
        have hk2 := HK.out.below bf
        obtain ⟨f0, f1, f2, f3⟩ := hk2.cells
        have HF := Lib.hid (And.intro (HE.out wf hk2) (hk2.fin 64 (pp : Int)).2.2)
        clear bf hk2
        go_wp2
        try simp only [Exit.inBlock, Exit.then]
        refine bodyPost_ret_by (v := .tuple #[.string ByteArray.empty, .int .i64 0, .agg #[.int .i64 64, .int .i64 (pp : Int)]]) ?_ rfl HF.out.1
        exact results_ttc_of (p := 6) (u := 7) (q := 8) (ty2 := 37) rfl rfl (run_loadVar_row (P := Try.prog) _ w.heap.size 37 37 _ (0, 0) _ HF.out.2 Try.underlying37 rfl sizeFault)
    · obtain rfl : q1 = 0 := by omega
      have r2 := hread (P1 : Int)
      have hstep : keyF c.d l pp = (if (readF l (P1 : Int)).2.2 ≠ 0 then (c.d, ByteArray.empty, 0, (P1 : Int), (readF l (P1 : Int)).2.2)
          else if ¬ (1 ≤ (readF l (P1 : Int)).1 ∧ (readF l (P1 : Int)).1 ≤ 64) then (c.d, ByteArray.empty, 0, (P1 : Int), 61)
          else if (l.length : Int) - (readF l (P1 : Int)).2.1 < (readF l (P1 : Int)).1 then (c.d, ByteArray.empty, 0, (readF l (P1 : Int)).2.1, 10)
          else if 0 ≤ lookF c.d (strOfNums ((l.drop (readF l (P1 : Int)).2.1.toNat).take (readF l (P1 : Int)).1.toNat)) then (c.d, ByteArray.empty, 0, (readF l (P1 : Int)).2.1, 64)
          else ((useG c.d (strOfNums ((l.drop (readF l (P1 : Int)).2.1.toNat).take (readF l (P1 : Int)).1.toNat))).1, strOfNums ((l.drop (readF l (P1 : Int)).2.1.toNat).take (readF l (P1 : Int)).1.toNat), (readF l (P1 : Int)).2.1 + (readF l (P1 : Int)).1, 0, 0)) := by
        unfold keyF
        rw [hr1]
        simp only [ne_eq, not_true_eq_false, if_false]
        rw [if_neg (by omega)]
      rcases readF_nat hby.out (P1 : Int) with ⟨e1, he1, he2, he3, hr2⟩ | ⟨pp2, q2, P2, hpp2, hq2, hp2, hP2, hr2⟩
      · rw [hr2, if_pos he3] at hstep
        rw [hr2] at r2
        have HE := Lib.hid (fun (wf : World) (h : KSt w wf p q c N T S w.heap.size) => rkey_bad hstep h)
        clear hread hr1 hr2 hstep hln he3
        go_enter Try.func82, Try.ntmps82
        go_wp2_with fail
        refine r1.mono ?_
        rintro e w9 ⟨rfl, hw9⟩
        subst hw9
        clear r1 hw1
        go_wp2_with fail
        refine r2.mono ?_
        rintro e w9 ⟨rfl, hw9⟩
        subst hw9
        clear r2
        clear d0
        go_wp2_with fail
        refine (fault_any _ _ _).mono ?_
        rintro e wf ⟨rfl, bf⟩
        have hk2 := HK.out.below bf
        obtain ⟨f0, f1, f2, f3⟩ := hk2.cells
        have HF := Lib.hid (And.intro (HE.out wf hk2) (hk2.fin e1 (P1 : Int)).2.2)
        clear bf hk2
        go_wp2
        try simp only [Exit.inBlock, Exit.then]
        refine bodyPost_ret_by (v := .tuple #[.string ByteArray.empty, .int .i64 0, .agg #[.int .i64 e1, .int .i64 (P1 : Int)]]) ?_ rfl HF.out.1
        exact results_ttc_of (p := 6) (u := 7) (q := 8) (ty2 := 37) rfl rfl (run_loadVar_row (P := Try.prog) _ w.heap.size 37 37 _ (0, 0) _ HF.out.2 Try.underlying37 rfl sizeFault)
      · obtain rfl : P1 = pp2 := by omega
        clear hpp2
        rw [hr2] at hstep r2
        simp only [ne_eq, not_true_eq_false, if_false] at hstep
        by_cases hsz : 1 ≤ q2 ∧ q2 ≤ 64
        · rw [if_neg (by omega)] at hstep
          have hq1i : (1 : Int) ≤ q2 := by omega
          have hq2i : (q2 : Int) ≤ 64 := by omega
          have hwn : IntKind.i64.wrap ((n : Int) - P2) = (n : Int) - P2 := IntWalk.i64_in _ (by omega)
          by_cases hlen : n < P2 + q2
          · rw [if_pos (by omega)] at hstep
            have hlti : (n : Int) - P2 < q2 := by omega
            have hlei : (P2 : Int) ≤ n := by omega
            have HE := Lib.hid (fun (wf : World) (h : KSt w wf p q c N T S w.heap.size) => rkey_bad hstep h)
            clear hread hr1 hr2 hstep hln hsz hlen
            go_enter Try.func82, Try.ntmps82
            go_wp2_with fail
            refine r1.mono ?_
            rintro e w9 ⟨rfl, hw9⟩
            subst hw9
            clear r1 hw1
            go_wp2_with fail
            refine r2.mono ?_
            rintro e w9 ⟨rfl, hw9⟩
            subst hw9
            clear r2
            clear d0
            go_wp2_with fail
            refine (fault_any _ _ _).mono ?_
            rintro e wf ⟨rfl, bf⟩
            have hk2 := HK.out.below bf
            obtain ⟨f0, f1, f2, f3⟩ := hk2.cells
            have HF := Lib.hid (And.intro (HE.out wf hk2) (hk2.fin 10 (P2 : Int)).2.2)
            clear bf hk2
            go_wp2
            try simp only [Exit.inBlock, Exit.then]
            refine bodyPost_ret_by (v := .tuple #[.string ByteArray.empty, .int .i64 0, .agg #[.int .i64 10, .int .i64 (P2 : Int)]]) ?_ rfl HF.out.1
            exact results_ttc_of (p := 6) (u := 7) (q := 8) (ty2 := 37) rfl rfl (run_loadVar_row (P := Try.prog) _ w.heap.size 37 37 _ (0, 0) _ HF.out.2 Try.underlying37 rfl sizeFault)
          · rw [if_neg (by omega), show ((P2 : Int)).toNat = P2 by omega, show ((q2 : Int)).toNat = q2 by omega] at hstep
            obtain ⟨P3, hP3⟩ : ∃ P3, P2 + q2 = P3 := ⟨_, rfl⟩
            obtain ⟨A', t1, t2⟩ := HBI.out.text (lo := P2) (m := q2) hsz.1 hP3 (by omega)
            obtain ⟨K, hK⟩ : ∃ K, strOfNums ((l.drop P2).take q2) = K := ⟨_, rfl⟩
            have hKs : K.size = q2 := by rw [← hK, strOfNums_size]; simp; omega
            rw [hK] at hstep t2
            rw [show (P2 : Int) + q2 = (P3 : Int) by omega] at hstep
            have hw : IntKind.i64.wrap ((P2 : Int) + q2) = (P3 : Int) := by rw [show (P2 : Int) + q2 = (P3 : Int) by omega]; exact IntWalk.i64_in _ (by omega)
            have hgei : (q2 : Int) ≤ (n : Int) - P2 := by omega
            have hlei : (P2 : Int) ≤ n := by omega
            have hKm : K.size ≤ maxLen := by simp only [maxLen]; omega
            have hlook := refLook_any HK.out.coder.dict K hKm
            have huse := refUse_any HK.out.coder.dict hN K hKm
            unfold RUse at huse
            obtain ⟨v, hv⟩ : ∃ v, lookF c.d K = v := ⟨_, rfl⟩
            by_cases hlk : 0 ≤ lookF c.d K
            · rw [if_pos hlk] at hstep
              have HE := Lib.hid (fun (wf : World) (h : KSt w wf p q c N T S w.heap.size) => rkey_bad hstep h)
              rw [hv] at hlook hlk
              clear hread hr1 hr2 hstep hsz hlen hP3 hK hKs hKm hv huse
              go_enter Try.func82, Try.ntmps82
              go_wp2_with fail
              refine r1.mono ?_
              rintro e w9 ⟨rfl, hw9⟩
              subst hw9
              clear r1 hw1
              go_wp2_with fail
              refine r2.mono ?_
              rintro e w9 ⟨rfl, hw9⟩
              subst hw9
              clear r2
              go_wp2_with fail
              refine hlook.mono ?_
              rintro e w9 ⟨rfl, hw9⟩
              subst hw9
              clear hlook
              clear d0
              go_wp2_with fail
              refine (fault_any _ _ _).mono ?_
              rintro e wf ⟨rfl, bf⟩
              have hk2 := HK.out.below bf
              obtain ⟨f0, f1, f2, f3⟩ := hk2.cells
              have HF := Lib.hid (And.intro (HE.out wf hk2) (hk2.fin 64 (P2 : Int)).2.2)
              clear bf hk2
              go_wp2
              try simp only [Exit.inBlock, Exit.then]
              refine bodyPost_ret_by (v := .tuple #[.string ByteArray.empty, .int .i64 0, .agg #[.int .i64 64, .int .i64 (P2 : Int)]]) ?_ rfl HF.out.1
              exact results_ttc_of (p := 6) (u := 7) (q := 8) (ty2 := 37) rfl rfl (run_loadVar_row (P := Try.prog) _ w.heap.size 37 37 _ (0, 0) _ HF.out.2 Try.underlying37 rfl sizeFault)
            · rw [if_neg hlk] at hstep
              have HE := Lib.hid (fun (wf : World) (h : KSt w wf p q ⟨(useG c.d K).1, c.tick, c.cost⟩ (N + 1) T S w.heap.size) => rkey_ok hstep h)
              rw [hv] at hlook hlk
              have hlk2 : v < 0 := by omega
              obtain ⟨gd, gs, gh, ge, hgu⟩ : ∃ gd gs gh ge, useG c.d K = (gd, gs, gh, ge) := ⟨_, _, _, _, rfl⟩
              rw [hgu] at huse HE
              clear hread hr1 hr2 hstep hsz hlen hP3 hK hKs hKm hv hlk hgu
              go_enter Try.func82, Try.ntmps82
              go_wp2_with fail
              refine r1.mono ?_
              rintro e w9 ⟨rfl, hw9⟩
              subst hw9
              clear r1 hw1
              go_wp2_with fail
              refine r2.mono ?_
              rintro e w9 ⟨rfl, hw9⟩
              subst hw9
              clear r2
              go_wp2_with fail
              refine hlook.mono ?_
              rintro e w9 ⟨rfl, hw9⟩
              subst hw9
              clear hlook
              go_wp2_with fail
              refine huse.mono ?_
              rintro e wf ⟨rfl, h1, h2⟩
              have hk2 := HK.out.turn h1 h2
              clear huse h1 h2 d0 t1 t2
              obtain ⟨f0, f1, f2, f3⟩ := hk2.cells
              have HF := Lib.hid (And.intro (HE.out wf hk2) (hk2.fin 0 0).2.2)
              clear hk2
              go_wp2
              try simp only [Exit.inBlock, Exit.then]
              refine bodyPost_ret_by (v := .tuple #[.string K, .int .i64 (P3 : Int), .agg #[.int .i64 0, .int .i64 0]]) ?_ rfl HF.out.1
              exact results_ttc_of (p := 6) (u := 7) (q := 8) (ty2 := 37) rfl rfl (run_loadVar_row (P := Try.prog) _ w.heap.size 37 37 _ (0, 0) _ HF.out.2 Try.underlying37 rfl sizeFault)
        · rw [if_pos (by omega)] at hstep
          have HE := Lib.hid (fun (wf : World) (h : KSt w wf p q c N T S w.heap.size) => rkey_bad hstep h)
          have hcs : (q2 : Int) < 1 ∨ (64 : Int) < q2 := by omega
          clear hread hr1 hr2 hstep hln hsz
          rcases hcs with hc1 | hc1
          · skip
            go_enter Try.func82, Try.ntmps82
            go_wp2_with fail
            refine r1.mono ?_
            rintro e w9 ⟨rfl, hw9⟩
            subst hw9
            clear r1 hw1
            go_wp2_with fail
            refine r2.mono ?_
            rintro e w9 ⟨rfl, hw9⟩
            subst hw9
            clear r2
            clear d0
            go_wp2_with fail
            refine (fault_any _ _ _).mono ?_
            rintro e wf ⟨rfl, bf⟩
            have hk2 := HK.out.below bf
            obtain ⟨f0, f1, f2, f3⟩ := hk2.cells
            have HF := Lib.hid (And.intro (HE.out wf hk2) (hk2.fin 61 (P1 : Int)).2.2)
            clear bf hk2
            go_wp2
            try simp only [Exit.inBlock, Exit.then]
            refine bodyPost_ret_by (v := .tuple #[.string ByteArray.empty, .int .i64 0, .agg #[.int .i64 61, .int .i64 (P1 : Int)]]) ?_ rfl HF.out.1
            exact results_ttc_of (p := 6) (u := 7) (q := 8) (ty2 := 37) rfl rfl (run_loadVar_row (P := Try.prog) _ w.heap.size 37 37 _ (0, 0) _ HF.out.2 Try.underlying37 rfl sizeFault)
          · skip
            go_enter Try.func82, Try.ntmps82
            go_wp2_with fail
            refine r1.mono ?_
            rintro e w9 ⟨rfl, hw9⟩
            subst hw9
            clear r1 hw1
            go_wp2_with fail
            refine r2.mono ?_
            rintro e w9 ⟨rfl, hw9⟩
            subst hw9
            clear r2
            clear d0
            go_wp2_with fail
            refine (fault_any _ _ _).mono ?_
            rintro e wf ⟨rfl, bf⟩
            have hk2 := HK.out.below bf
            obtain ⟨f0, f1, f2, f3⟩ := hk2.cells
            have HF := Lib.hid (And.intro (HE.out wf hk2) (hk2.fin 61 (P1 : Int)).2.2)
            clear bf hk2
            go_wp2
            try simp only [Exit.inBlock, Exit.then]
            refine bodyPost_ret_by (v := .tuple #[.string ByteArray.empty, .int .i64 0, .agg #[.int .i64 61, .int .i64 (P1 : Int)]]) ?_ rfl HF.out.1
            exact results_ttc_of (p := 6) (u := 7) (q := 8) (ty2 := 37) rfl rfl (run_loadVar_row (P := Try.prog) _ w.heap.size 37 37 _ (0, 0) _ HF.out.2 Try.underlying37 rfl sizeFault)
end Go.Proofs.Ytipiohkpdkandaa
namespace Go.Proofs.Ytipiohkpdkandaa
set_option linter.unusedVariables false
set_option linter.unusedSimpArgs false
open Go.RowKit

/-- The state on the way. -/
structure GSt (w u : World) (p : Nat) (c : CC) (N : Int) (S : Nat → Prop) : Prop where
  coder : RCoderAt u p c N S
  upd : Upd w u S
  r0 : u.heap[w.heap.size]? = some (.cells zr 34 (0, 0))
  f0 : u.heap[w.heap.size + 1]? = some (.cells zf 37 (0, 0))
  old : ∀ b, S b → b < w.heap.size
def RGetPost (w : World) (p : Nat) (N : Int) (G : CC × Rec × Int × Int × Int) (S : Nat → Prop) (e : Ending) (w' : World) : Prop :=
  e = .returned (.tuple #[G.2.1.val, .int .i64 G.2.2.1, .agg #[.int .i64 G.2.2.2.1, .int .i64 G.2.2.2.2]]) ∧ RCoderAt w' p G.1 (N + 1) S ∧ Upd w w' S
section
variable {w u u' : World} {p : Nat} {c : CC} {N : Int} {S : Nat → Prop}
theorem GSt.below (h : GSt w u p c N S) (hb : Below u.heap.size u u') : GSt w u' p c N S := by
  have hf := (Array.getElem?_eq_some_iff.1 h.f0).1
  exact ⟨h.coder.below hb, h.upd.trans (Upd.of_below hb) (fun b h1 h2 => by have := h.upd.size; omega), (hb.block _ (by omega)).trans h.r0, (hb.block _ hf).trans h.f0, h.old⟩
theorem GSt.turn {c' : CC} {N' : Int} (h : GSt w u p c N S) (hk : RCoderAt u' p c' N' S) (hu : Upd u u' S) : GSt w u' p c' N' S := by
  have hf := (Array.getElem?_eq_some_iff.1 h.f0).1
  exact ⟨hk, h.upd.trans hu (fun b _ hb => hb), (hu.block _ (by omega) (fun hb => by have := h.old _ hb; omega)).trans h.r0, (hu.block _ hf (fun hb => by have := h.old _ hb; omega)).trans h.f0, h.old⟩
theorem GSt.fin (h : GSt w u p c N S) (v1 v2 : Array Value) : RCoderAt ((u.setRow w.heap.size v1).setRow (w.heap.size + 1) v2) p c N S ∧ Upd w ((u.setRow w.heap.size v1).setRow (w.heap.size + 1) v2) S := by
  have hu : Upd u ((u.setRow w.heap.size v1).setRow (w.heap.size + 1) v2) (fun b => b = w.heap.size ∨ b = w.heap.size + 1) := by
    refine ⟨rfl, rfl, rfl, by simp [World.setRow], fun k _ hk => ?_⟩
    rw [setRow_other _ _ _ _ (fun e => hk (.inr e)), setRow_other _ _ _ _ (fun e => hk (.inl e))]
  exact ⟨h.coder.kept hu (fun b hb hh => by have := h.old b hb; omega), h.upd.trans hu (fun b hb hh => by omega)⟩
theorem GSt.bad {N' : Int} {l : List Int} {a e x : Int} (h : GSt w u p c N' S) (hN : N' ≤ N + 1) (hg : getF c l a = (c, Rec.zero, 0, e, x)) (v1 v2 : Array Value) :
    RGetPost w p N (getF c l a) S (.returned (.tuple #[.agg #[.int .i64 0, .string ByteArray.empty, .int .i64 0, .int .i64 0], .int .i64 0, .agg #[.int .i64 e, .int .i64 x]])) ((u.setRow w.heap.size v1).setRow (w.heap.size + 1) v2) := by
  rw [hg]
  obtain ⟨h1, h2⟩ := h.fin v1 v2
  exact ⟨rfl, h1.more hN, h2⟩
theorem gst_start (h : RCoderAt w p c N S) : GSt w ((w.alloc (.cells zr 34)).alloc (.cells zf 37)) p c N S := by
  have hb : Below w.heap.size w ((w.alloc (.cells zr 34)).alloc (.cells zf 37)) := ((Below.refl _ _).alloc (Nat.le_refl _) _).alloc (by simp) _
  refine ⟨h.below hb, (Upd.of_below hb).mono (fun b h1 h2 => absurd h1 (by omega)), ?_, alloc_top (by rw [alloc_size]), fun b hb => h.lt hb⟩
  rw [Below.heap_alloc _ _ _ (by simp only [alloc_size]; omega)]
  exact alloc_top rfl
theorem GSt.cells (h : GSt w u p c N S) : u.cell? ⟨p, 1, none⟩ = some (.int .i64 c.tick) ∧ u.cell? ⟨p, 2, none⟩ = some (.int .i64 c.cost) ∧ u.frozen? ⟨p, 1, none⟩ = false ∧ u.frozen? ⟨p, 2, none⟩ = false := by
  obtain ⟨q, T, hB, hS⟩ := h.coder
  exact ⟨hB.c1, hB.c2, hB.free 1, hB.free 2⟩
theorem GSt.boxes (h : GSt w u p c N S) : u.cell? ⟨w.heap.size, 0, none⟩ = some (.int .i64 0) ∧ u.cell? ⟨w.heap.size, 1, none⟩ = some (.string ByteArray.empty) ∧ u.cell? ⟨w.heap.size, 2, none⟩ = some (.int .i64 0) ∧ u.cell? ⟨w.heap.size, 3, none⟩ = some (.int .i64 0) ∧
    u.cell? ⟨w.heap.size + 1, 0, none⟩ = some (.int .i64 0) ∧ u.cell? ⟨w.heap.size + 1, 1, none⟩ = some (.int .i64 0) ∧ (∀ i, u.frozen? ⟨w.heap.size, i, none⟩ = false) ∧ (∀ i, u.frozen? ⟨w.heap.size + 1, i, none⟩ = false) := by
  refine ⟨?_, ?_, ?_, ?_, ?_, ?_, fun i => ?_, fun i => ?_⟩ <;> simp [World.cell?, World.frozen?, h.r0, h.f0, zr, zf]
theorem GSt.finC (h : GSt w u p c N S) (v0 v1 v2 v3 y0 y1 : Value) {u9 : World} (hu9 : ((((((u.setCell ⟨w.heap.size, 0, none⟩ v0).setCell ⟨w.heap.size, 1, none⟩ v1).setCell ⟨w.heap.size, 2, none⟩ v2).setCell ⟨w.heap.size, 3, none⟩ v3).setCell ⟨w.heap.size + 1, 0, none⟩ y0).setCell ⟨w.heap.size + 1, 1, none⟩ y1).drew = u9) :
    RCoderAt u9 p c N S ∧ Upd w u9 S ∧ u9.heap[w.heap.size]? = some (.cells #[v0, v1, v2, v3] 34 (0, 0)) ∧ u9.heap[w.heap.size + 1]? = some (.cells #[y0, y1] 37 (0, 0)) := by
  have g1 := cells_set (i := 0) v0 h.r0
  have g2 := cells_set (i := 1) v1 g1
  have g3 := cells_set (i := 2) v2 g2
  have g4 := cells_set (i := 3) v3 g3
  have hu : Upd u ((((u.setCell ⟨w.heap.size, 0, none⟩ v0).setCell ⟨w.heap.size, 1, none⟩ v1).setCell ⟨w.heap.size, 2, none⟩ v2).setCell ⟨w.heap.size, 3, none⟩ v3) (fun b => b = w.heap.size) :=
    ((((Upd.refl u (fun b => b = w.heap.size)).setCell (a := ⟨w.heap.size, 0, none⟩) (fun _ => rfl) _).setCell (a := ⟨w.heap.size, 1, none⟩) (fun _ => rfl) _).setCell (a := ⟨w.heap.size, 2, none⟩) (fun _ => rfl) _).setCell (a := ⟨w.heap.size, 3, none⟩) (fun _ => rfl) _
  obtain ⟨u4, hu4⟩ : ∃ u4, (((u.setCell ⟨w.heap.size, 0, none⟩ v0).setCell ⟨w.heap.size, 1, none⟩ v1).setCell ⟨w.heap.size, 2, none⟩ v2).setCell ⟨w.heap.size, 3, none⟩ v3 = u4 := ⟨_, rfl⟩
  rw [hu4] at hu9 g4 hu
  have hf := (Array.getElem?_eq_some_iff.1 h.f0).1
  have f1 := (hu.block _ hf (by omega)).trans h.f0
  have f2 := cells_set (i := 0) y0 f1
  have f3 := cells_set (i := 1) y1 f2
  have hv : Upd u4 ((u4.setCell ⟨w.heap.size + 1, 0, none⟩ y0).setCell ⟨w.heap.size + 1, 1, none⟩ y1).drew (fun b => b = w.heap.size + 1) :=
    (((Upd.refl u4 (fun b => b = w.heap.size + 1)).setCell (a := ⟨w.heap.size + 1, 0, none⟩) (fun _ => rfl) _).setCell (a := ⟨w.heap.size + 1, 1, none⟩) (fun _ => rfl) _).drew
  subst hu9
  have hs := hu.size
  exact ⟨(h.coder.kept hu (fun b hb e => by have := h.old b hb; omega)).kept hv (fun b hb e => by have := h.old b hb; omega), (h.upd.trans hu (fun b hb e => by omega)).trans hv (fun b hb e => by omega), (hv.block _ (by omega) (by omega)).trans g4, f3⟩
theorem GSt.done {t k : Int} (h : GSt w u p c N S) (t0 : 0 ≤ t) (t1 : t ≤ 1099511627776) (k0 : 0 ≤ k) (k1 : k ≤ 1048576) :
    GSt w ((u.setCell ⟨p, 1, none⟩ (.int .i64 t)).setCell ⟨p, 2, none⟩ (.int .i64 k)) p ⟨c.d, t, k⟩ N S := by
  have hh := h.coder
  obtain ⟨q, T, hB, hS⟩ := hh
  have h1 := cells_set (i := 1) (.int .i64 t) hB.head
  have h2 := cells_set (i := 2) (.int .i64 k) h1
  have hu : Upd u ((u.setCell ⟨p, 1, none⟩ (.int .i64 t)).setCell ⟨p, 2, none⟩ (.int .i64 k)) (fun b => b = p) := ((Upd.refl u (fun b => b = p)).setCell (a := ⟨p, 1, none⟩) (fun _ => rfl) _).setCell (a := ⟨p, 2, none⟩) (fun _ => rfl) _
  refine h.turn ⟨q, T, ⟨h2, hB.dict.kept hu (fun b hb e => hB.apart (by rw [← e]; exact hb)), hB.apart, ⟨hB.inv.d, t0, t1, k0, k1⟩⟩, hS⟩ (hu.mono (fun b _ e => (hS b).2 (.inl e)))
end

set_option maxRecDepth 100000 in
set_option maxHeartbeats 4000000 in
theorem refGet_any {w : World} {p : Nat} {c : CC} {N : Int} {S : Nat → Prop} (h : RCoderAt w p c N S) (hN : N ≤ 4611686018427387903) {A : Option Addr} {n cp : Nat} {l : List Int} (hb : BytesIn w A n cp l) (a : Int) :
    Calls Try.prog 76 #[.pointer (some ⟨p, 0, none⟩), .slice A n cp, .int .i64 a] w (RGetPost w p N (getF c l a) S) := by
  have hways := getWays h.inv hb.bytes hb.len a
  have hinv := h.inv
  obtain ⟨w1, hw1⟩ : ∃ w1, (w.alloc (.cells #[.int .i64 0, .string ⟨#[]⟩, .int .i64 0, .int .i64 0] 34)).alloc (.cells #[.int .i64 0, .int .i64 0] 37) = w1 := ⟨_, rfl⟩
  have bw : Below w.heap.size w w1 := by rw [← hw1]; exact ((Below.refl _ _).alloc (Nat.le_refl _) _).alloc (by simp) _
  have hst : GSt w w1 p c N S := by rw [← hw1]; exact gst_start h
  have hnm : (n : Int) ≤ 140737488355328 := by have := hb.max; omega
  have hread : ∀ x : Int, Calls Try.prog 80 #[.slice A n cp, .int .i64 x] w1 (fun e w' => e = .returned (.tuple #[.int .i64 (readF l x).1, .int .i64 (readF l x).2.1, .int .i64 (readF l x).2.2]) ∧ w1 = w') :=
    fun x => refRead_any A n cp l x w1 (hb.below bw).rd hb.bytes hb.max
  have hkey := fun (x : Int) => refKey6_any hst.coder hN (hb.below bw) x
  obtain ⟨d1, d2, _, _⟩ := hst.cells
  have ht0 := hinv.t0
  have ht1 := hinv.t1
  have hk0 := hinv.c0
  have hk1 := hinv.c1
  have HS := Lib.hid hst
  have HG := Lib.hid (fun (u : World) (N' : Int) (e x : Int) (h : GSt w u p c N' S) (hN' : N' ≤ N + 1) (hg : getF c l a = (c, Rec.zero, 0, e, x)) (v1 v2 : Array Value) => GSt.bad h hN' hg v1 v2)
  clear hst hinv bw hb h
  unfold GetWays at hways
  rcases hways with ⟨c1, hg⟩ | ⟨c1, c2, hg⟩ | ⟨c1, c2, er1, c3, c4, hr1, hg⟩ | ⟨c1, c2, q1, P1, hr1, hq1, hP1, hways⟩
  · clear hread hkey d1 d2
    replace hg := Lib.hid hg
    go_enter Try.func76, Try.ntmps76
    go_wp2_with fail
    clear hw1
    refine (fault_any _ _ _).mono ?_
    rintro e wf ⟨rfl, bf⟩
    have HF := Lib.hid (HS.out.below bf)
    clear bf
    go_wp2_with (first
      | ((with_reducible refine at_list ?_); refine wpList_store_row rfl 34 (.tmp 6) (.tmp 30) rfl w.heap.size _ zr 34 rfl rfl HF.out.r0 rfl sizeRec (by kernel_rfl) ?_)
      | ((with_reducible refine at_list ?_); refine wpList_store_row rfl 37 (.tmp 8) (.tmp 31) rfl (w.heap.size + 1) _ zf 37 rfl rfl ((setRow_other _ _ _ _ (by omega)).trans HF.out.f0) rfl sizeFault (by kernel_rfl) ?_))
    try simp only [Exit.inBlock, Exit.then, Exit.jump]
    refine bodyPost_ret_by (v := .tuple #[.agg #[.int .i64 0, .string ByteArray.empty, .int .i64 0, .int .i64 0], .int .i64 0, .agg #[.int .i64 1, .int .i64 (-1)]]) ?_ rfl (HG.out _ _ _ _ HF.out (by omega) hg.out _ _)
    have e1 := run_loadVar_row (P := Try.prog) _ w.heap.size 34 34 _ (0, 0) _ ((setRow_other _ (w.heap.size + 1) w.heap.size #[.int .i64 1, .int .i64 (-1)] (by omega)).trans (setRow_heap wf _ _ #[.int .i64 0, .string ByteArray.empty, .int .i64 0, .int .i64 0] _ _ HF.out.r0)) Try.underlying34 rfl sizeRec
    have e2 := run_loadVar_row (P := Try.prog) _ (w.heap.size + 1) 37 37 _ (0, 0) _ (setRow_heap (wf.setRow w.heap.size #[.int .i64 0, .string ByteArray.empty, .int .i64 0, .int .i64 0]) (w.heap.size + 1) _ #[.int .i64 1, .int .i64 (-1)] _ _ ((setRow_other _ _ _ _ (by omega)).trans HF.out.f0)) Try.underlying37 rfl sizeFault
    exact results_ctc_of (p := 6) (q := 8) (u := 7) (ty := 34) (ty2 := 37) rfl rfl rfl e1 e2
  · clear hread hkey d1 d2
    replace hg := Lib.hid hg
    go_enter Try.func76, Try.ntmps76
    go_wp2_with fail
    clear hw1
    refine (fault_any _ _ _).mono ?_
    rintro e wf ⟨rfl, bf⟩
    have HF := Lib.hid (HS.out.below bf)
    clear bf
    go_wp2_with (first
      | ((with_reducible refine at_list ?_); refine wpList_store_row rfl 34 (.tmp 6) (.tmp 30) rfl w.heap.size _ zr 34 rfl rfl HF.out.r0 rfl sizeRec (by kernel_rfl) ?_)
      | ((with_reducible refine at_list ?_); refine wpList_store_row rfl 37 (.tmp 8) (.tmp 31) rfl (w.heap.size + 1) _ zf 37 rfl rfl ((setRow_other _ _ _ _ (by omega)).trans HF.out.f0) rfl sizeFault (by kernel_rfl) ?_))
    try simp only [Exit.inBlock, Exit.then, Exit.jump]
    refine bodyPost_ret_by (v := .tuple #[.agg #[.int .i64 0, .string ByteArray.empty, .int .i64 0, .int .i64 0], .int .i64 0, .agg #[.int .i64 1, .int .i64 (-1)]]) ?_ rfl (HG.out _ _ _ _ HF.out (by omega) hg.out _ _)
    have e1 := run_loadVar_row (P := Try.prog) _ w.heap.size 34 34 _ (0, 0) _ ((setRow_other _ (w.heap.size + 1) w.heap.size #[.int .i64 1, .int .i64 (-1)] (by omega)).trans (setRow_heap wf _ _ #[.int .i64 0, .string ByteArray.empty, .int .i64 0, .int .i64 0] _ _ HF.out.r0)) Try.underlying34 rfl sizeRec
    have e2 := run_loadVar_row (P := Try.prog) _ (w.heap.size + 1) 37 37 _ (0, 0) _ (setRow_heap (wf.setRow w.heap.size #[.int .i64 0, .string ByteArray.empty, .int .i64 0, .int .i64 0]) (w.heap.size + 1) _ #[.int .i64 1, .int .i64 (-1)] _ _ ((setRow_other _ _ _ _ (by omega)).trans HF.out.f0)) Try.underlying37 rfl sizeFault
    exact results_ctc_of (p := 6) (q := 8) (u := 7) (ty := 34) (ty2 := 37) rfl rfl rfl e1 e2
  · have r1 := hread a
    rw [hr1] at r1
    replace hg := Lib.hid hg
    clear hread hkey hr1
    go_enter Try.func76, Try.ntmps76
    go_wp2_with fail
    refine r1.mono ?_
    rintro e w9 ⟨rfl, hw9⟩
    subst hw9
    clear r1 hw1
    go_wp2_with fail
    refine (fault_any _ _ _).mono ?_
    rintro e wf ⟨rfl, bf⟩
    have HF := Lib.hid (HS.out.below bf)
    clear bf
    go_wp2_with (first
      | ((with_reducible refine at_list ?_); refine wpList_store_row rfl 34 (.tmp 6) (.tmp 41) rfl w.heap.size _ zr 34 rfl rfl HF.out.r0 rfl sizeRec (by kernel_rfl) ?_)
      | ((with_reducible refine at_list ?_); refine wpList_store_row rfl 37 (.tmp 8) (.tmp 44) rfl (w.heap.size + 1) _ zf 37 rfl rfl ((setRow_other _ _ _ _ (by omega)).trans HF.out.f0) rfl sizeFault (by kernel_rfl) ?_))
    try simp only [Exit.inBlock, Exit.then, Exit.jump]
    refine bodyPost_ret_by (v := .tuple #[.agg #[.int .i64 0, .string ByteArray.empty, .int .i64 0, .int .i64 0], .int .i64 0, .agg #[.int .i64 er1, .int .i64 a]]) ?_ rfl (HG.out _ _ _ _ HF.out (by omega) hg.out _ _)
    have e1 := run_loadVar_row (P := Try.prog) _ w.heap.size 34 34 _ (0, 0) _ ((setRow_other _ (w.heap.size + 1) w.heap.size #[.int .i64 er1, .int .i64 a] (by omega)).trans (setRow_heap wf _ _ #[.int .i64 0, .string ByteArray.empty, .int .i64 0, .int .i64 0] _ _ HF.out.r0)) Try.underlying34 rfl sizeRec
    have e2 := run_loadVar_row (P := Try.prog) _ (w.heap.size + 1) 37 37 _ (0, 0) _ (setRow_heap (wf.setRow w.heap.size #[.int .i64 0, .string ByteArray.empty, .int .i64 0, .int .i64 0]) (w.heap.size + 1) _ #[.int .i64 er1, .int .i64 a] _ _ ((setRow_other _ _ _ _ (by omega)).trans HF.out.f0)) Try.underlying37 rfl sizeFault
    exact results_ctc_of (p := 6) (q := 8) (u := 7) (ty := 34) (ty2 := 37) rfl rfl rfl e1 e2
  · have r1 := hread a
    rw [hr1] at r1
    obtain ⟨t, ht⟩ : ∃ t, c.tick + (q1 : Int) / 4 = t := ⟨_, rfl⟩
    obtain ⟨v, hv⟩ : ∃ v, (q1 : Int) % 4 = v := ⟨_, rfl⟩
    have hv0 : 0 ≤ v := by omega
    have htb : 0 ≤ t := by omega
    have hw1' : IntKind.i64.wrap (c.tick + (q1 : Int) / 4) = t := by rw [← ht]; exact IntWalk.i64_in _ (by omega)
    rw [ht, hv] at hways
    have HT := Lib.hid ht
    clear hr1 ht
    rcases hways with ⟨hv3, hg⟩ | ⟨hv2, ht2, hg⟩ | ⟨hv2, ht2, hways⟩
    · replace hg := Lib.hid hg
      subst hv3
      clear hread hkey
      go_enter Try.func76, Try.ntmps76
      go_wp2_with fail
      refine r1.mono ?_
      rintro e w9 ⟨rfl, hw9⟩
      subst hw9
      clear r1 hw1
      go_wp2_with fail
      refine (fault_any _ _ _).mono ?_
      rintro e wf ⟨rfl, bf⟩
      have HF := Lib.hid (HS.out.below bf)
      clear bf
      go_wp2_with (first
        | ((with_reducible refine at_list ?_); refine wpList_store_row rfl 34 (.tmp 6) (.tmp 48) rfl w.heap.size _ zr 34 rfl rfl HF.out.r0 rfl sizeRec (by kernel_rfl) ?_)
        | ((with_reducible refine at_list ?_); refine wpList_store_row rfl 37 (.tmp 8) (.tmp 50) rfl (w.heap.size + 1) _ zf 37 rfl rfl ((setRow_other _ _ _ _ (by omega)).trans HF.out.f0) rfl sizeFault (by kernel_rfl) ?_))
      try simp only [Exit.inBlock, Exit.then, Exit.jump]
      refine bodyPost_ret_by (v := .tuple #[.agg #[.int .i64 0, .string ByteArray.empty, .int .i64 0, .int .i64 0], .int .i64 0, .agg #[.int .i64 63, .int .i64 a]]) ?_ rfl (HG.out _ _ _ _ HF.out (by omega) hg.out _ _)
      have e1 := run_loadVar_row (P := Try.prog) _ w.heap.size 34 34 _ (0, 0) _ ((setRow_other _ (w.heap.size + 1) w.heap.size #[.int .i64 63, .int .i64 a] (by omega)).trans (setRow_heap wf _ _ #[.int .i64 0, .string ByteArray.empty, .int .i64 0, .int .i64 0] _ _ HF.out.r0)) Try.underlying34 rfl sizeRec
      have e2 := run_loadVar_row (P := Try.prog) _ (w.heap.size + 1) 37 37 _ (0, 0) _ (setRow_heap (wf.setRow w.heap.size #[.int .i64 0, .string ByteArray.empty, .int .i64 0, .int .i64 0]) (w.heap.size + 1) _ #[.int .i64 63, .int .i64 a] _ _ ((setRow_other _ _ _ _ (by omega)).trans HF.out.f0)) Try.underlying37 rfl sizeFault
      exact results_ctc_of (p := 6) (q := 8) (u := 7) (ty := 34) (ty2 := 37) rfl rfl rfl e1 e2
    · replace hg := Lib.hid hg
      have hvb : (v == 3) = false := by simp; omega
      clear hread hkey
      go_enter Try.func76, Try.ntmps76
      go_wp2_with fail
      refine r1.mono ?_
      rintro e w9 ⟨rfl, hw9⟩
      subst hw9
      clear r1 hw1
      go_wp2_with fail
      refine (fault_any _ _ _).mono ?_
      rintro e wf ⟨rfl, bf⟩
      have HF := Lib.hid (HS.out.below bf)
      clear bf
      go_wp2_with (first
        | ((with_reducible refine at_list ?_); refine wpList_store_row rfl 34 (.tmp 6) (.tmp 60) rfl w.heap.size _ zr 34 rfl rfl HF.out.r0 rfl sizeRec (by kernel_rfl) ?_)
        | ((with_reducible refine at_list ?_); refine wpList_store_row rfl 37 (.tmp 8) (.tmp 62) rfl (w.heap.size + 1) _ zf 37 rfl rfl ((setRow_other _ _ _ _ (by omega)).trans HF.out.f0) rfl sizeFault (by kernel_rfl) ?_))
      try simp only [Exit.inBlock, Exit.then, Exit.jump]
      refine bodyPost_ret_by (v := .tuple #[.agg #[.int .i64 0, .string ByteArray.empty, .int .i64 0, .int .i64 0], .int .i64 0, .agg #[.int .i64 60, .int .i64 a]]) ?_ rfl (HG.out _ _ _ _ HF.out (by omega) hg.out _ _)
      have e1 := run_loadVar_row (P := Try.prog) _ w.heap.size 34 34 _ (0, 0) _ ((setRow_other _ (w.heap.size + 1) w.heap.size #[.int .i64 60, .int .i64 a] (by omega)).trans (setRow_heap wf _ _ #[.int .i64 0, .string ByteArray.empty, .int .i64 0, .int .i64 0] _ _ HF.out.r0)) Try.underlying34 rfl sizeRec
      have e2 := run_loadVar_row (P := Try.prog) _ (w.heap.size + 1) 37 37 _ (0, 0) _ (setRow_heap (wf.setRow w.heap.size #[.int .i64 0, .string ByteArray.empty, .int .i64 0, .int .i64 0]) (w.heap.size + 1) _ #[.int .i64 60, .int .i64 a] _ _ ((setRow_other _ _ _ _ (by omega)).trans HF.out.f0)) Try.underlying37 rfl sizeFault
      exact results_ctc_of (p := 6) (q := 8) (u := 7) (ty := 34) (ty2 := 37) rfl rfl rfl e1 e2
    · have hvb : (v == 3) = false := by simp; omega
      have r2 := hread (P1 : Int)
      rcases hways with ⟨e2, he1, he2, hr2, hg⟩ | ⟨q2, P2, z, hr2, hP2, hz, hz1, hz2, hways⟩
      · rw [hr2] at r2
        replace hg := Lib.hid hg
        clear hread hkey hr2
        go_enter Try.func76, Try.ntmps76
        go_wp2_with fail
        refine r1.mono ?_
        rintro e w9 ⟨rfl, hw9⟩
        subst hw9
        clear r1 hw1
        go_wp2_with fail
        refine r2.mono ?_
        rintro e w9 ⟨rfl, hw9⟩
        subst hw9
        clear r2
        go_wp2_with fail
        refine (fault_any _ _ _).mono ?_
        rintro e wf ⟨rfl, bf⟩
        have HF := Lib.hid (HS.out.below bf)
        clear bf
        go_wp2_with (first
          | ((with_reducible refine at_list ?_); refine wpList_store_row rfl 34 (.tmp 6) (.tmp 72) rfl w.heap.size _ zr 34 rfl rfl HF.out.r0 rfl sizeRec (by kernel_rfl) ?_)
          | ((with_reducible refine at_list ?_); refine wpList_store_row rfl 37 (.tmp 8) (.tmp 75) rfl (w.heap.size + 1) _ zf 37 rfl rfl ((setRow_other _ _ _ _ (by omega)).trans HF.out.f0) rfl sizeFault (by kernel_rfl) ?_))
        try simp only [Exit.inBlock, Exit.then, Exit.jump]
        refine bodyPost_ret_by (v := .tuple #[.agg #[.int .i64 0, .string ByteArray.empty, .int .i64 0, .int .i64 0], .int .i64 0, .agg #[.int .i64 e2, .int .i64 (P1 : Int)]]) ?_ rfl (HG.out _ _ _ _ HF.out (by omega) hg.out _ _)
        have e1 := run_loadVar_row (P := Try.prog) _ w.heap.size 34 34 _ (0, 0) _ ((setRow_other _ (w.heap.size + 1) w.heap.size #[.int .i64 e2, .int .i64 (P1 : Int)] (by omega)).trans (setRow_heap wf _ _ #[.int .i64 0, .string ByteArray.empty, .int .i64 0, .int .i64 0] _ _ HF.out.r0)) Try.underlying34 rfl sizeRec
        have e2 := run_loadVar_row (P := Try.prog) _ (w.heap.size + 1) 37 37 _ (0, 0) _ (setRow_heap (wf.setRow w.heap.size #[.int .i64 0, .string ByteArray.empty, .int .i64 0, .int .i64 0]) (w.heap.size + 1) _ #[.int .i64 e2, .int .i64 (P1 : Int)] _ _ ((setRow_other _ _ _ _ (by omega)).trans HF.out.f0)) Try.underlying37 rfl sizeFault
        exact results_ctc_of (p := 6) (q := 8) (u := 7) (ty := 34) (ty2 := 37) rfl rfl rfl e1 e2
      · rw [hr2] at r2
        obtain ⟨er, her⟩ : ∃ er, (zagF (q2 : Int)).2 = er := ⟨_, rfl⟩
        have hzag := fun w => refZag_any (q2 : Int) w
        rw [hz, her] at hzag
        obtain ⟨kk, hkk⟩ : ∃ kk, c.cost + z = kk := ⟨_, rfl⟩
        have hw2 : IntKind.i64.wrap (c.cost + z) = kk := by rw [← hkk]; exact IntWalk.i64_in _ (by omega)
        rw [hkk] at hways
        clear hread hr2 hz her hkk
        rcases hways with ⟨hk, hg⟩ | ⟨hk, hways⟩
        · replace hg := Lib.hid hg
          have hcs : kk < 1 ∨ (1 ≤ kk ∧ (1048576 : Int) < kk) := by omega
          clear hkey hk
          rcases hcs with hc1 | ⟨hc0, hc1⟩
          · skip
            go_enter Try.func76, Try.ntmps76
            go_wp2_with fail
            refine r1.mono ?_
            rintro e w9 ⟨rfl, hw9⟩
            subst hw9
            clear r1 hw1
            go_wp2_with fail
            refine r2.mono ?_
            rintro e w9 ⟨rfl, hw9⟩
            subst hw9
            clear r2
            go_wp2_with fail
            refine (hzag _).mono ?_
            rintro e w9 ⟨rfl, hw9⟩
            subst hw9
            clear hzag
            go_wp2_with fail
            refine (fault_any _ _ _).mono ?_
            rintro e wf ⟨rfl, bf⟩
            have HF := Lib.hid (HS.out.below bf)
            clear bf
            go_wp2_with (first
              | ((with_reducible refine at_list ?_); refine wpList_store_row rfl 34 (.tmp 6) (.tmp 93) rfl w.heap.size _ zr 34 rfl rfl HF.out.r0 rfl sizeRec (by kernel_rfl) ?_)
              | ((with_reducible refine at_list ?_); refine wpList_store_row rfl 37 (.tmp 8) (.tmp 95) rfl (w.heap.size + 1) _ zf 37 rfl rfl ((setRow_other _ _ _ _ (by omega)).trans HF.out.f0) rfl sizeFault (by kernel_rfl) ?_))
            try simp only [Exit.inBlock, Exit.then, Exit.jump]
            refine bodyPost_ret_by (v := .tuple #[.agg #[.int .i64 0, .string ByteArray.empty, .int .i64 0, .int .i64 0], .int .i64 0, .agg #[.int .i64 62, .int .i64 (P1 : Int)]]) ?_ rfl (HG.out _ _ _ _ HF.out (by omega) hg.out _ _)
            have e1 := run_loadVar_row (P := Try.prog) _ w.heap.size 34 34 _ (0, 0) _ ((setRow_other _ (w.heap.size + 1) w.heap.size #[.int .i64 62, .int .i64 (P1 : Int)] (by omega)).trans (setRow_heap wf _ _ #[.int .i64 0, .string ByteArray.empty, .int .i64 0, .int .i64 0] _ _ HF.out.r0)) Try.underlying34 rfl sizeRec
            have e2 := run_loadVar_row (P := Try.prog) _ (w.heap.size + 1) 37 37 _ (0, 0) _ (setRow_heap (wf.setRow w.heap.size #[.int .i64 0, .string ByteArray.empty, .int .i64 0, .int .i64 0]) (w.heap.size + 1) _ #[.int .i64 62, .int .i64 (P1 : Int)] _ _ ((setRow_other _ _ _ _ (by omega)).trans HF.out.f0)) Try.underlying37 rfl sizeFault
            exact results_ctc_of (p := 6) (q := 8) (u := 7) (ty := 34) (ty2 := 37) rfl rfl rfl e1 e2
          · skip
            go_enter Try.func76, Try.ntmps76
            go_wp2_with fail
            refine r1.mono ?_
            rintro e w9 ⟨rfl, hw9⟩
            subst hw9
            clear r1 hw1
            go_wp2_with fail
            refine r2.mono ?_
            rintro e w9 ⟨rfl, hw9⟩
            subst hw9
            clear r2
            go_wp2_with fail
            refine (hzag _).mono ?_
            rintro e w9 ⟨rfl, hw9⟩
            subst hw9
            clear hzag
            go_wp2_with fail
            refine (fault_any _ _ _).mono ?_
            rintro e wf ⟨rfl, bf⟩
            have HF := Lib.hid (HS.out.below bf)
            clear bf
            go_wp2_with (first
              | ((with_reducible refine at_list ?_); refine wpList_store_row rfl 34 (.tmp 6) (.tmp 93) rfl w.heap.size _ zr 34 rfl rfl HF.out.r0 rfl sizeRec (by kernel_rfl) ?_)
              | ((with_reducible refine at_list ?_); refine wpList_store_row rfl 37 (.tmp 8) (.tmp 95) rfl (w.heap.size + 1) _ zf 37 rfl rfl ((setRow_other _ _ _ _ (by omega)).trans HF.out.f0) rfl sizeFault (by kernel_rfl) ?_))
            try simp only [Exit.inBlock, Exit.then, Exit.jump]
            refine bodyPost_ret_by (v := .tuple #[.agg #[.int .i64 0, .string ByteArray.empty, .int .i64 0, .int .i64 0], .int .i64 0, .agg #[.int .i64 62, .int .i64 (P1 : Int)]]) ?_ rfl (HG.out _ _ _ _ HF.out (by omega) hg.out _ _)
            have e1 := run_loadVar_row (P := Try.prog) _ w.heap.size 34 34 _ (0, 0) _ ((setRow_other _ (w.heap.size + 1) w.heap.size #[.int .i64 62, .int .i64 (P1 : Int)] (by omega)).trans (setRow_heap wf _ _ #[.int .i64 0, .string ByteArray.empty, .int .i64 0, .int .i64 0] _ _ HF.out.r0)) Try.underlying34 rfl sizeRec
            have e2 := run_loadVar_row (P := Try.prog) _ (w.heap.size + 1) 37 37 _ (0, 0) _ (setRow_heap (wf.setRow w.heap.size #[.int .i64 0, .string ByteArray.empty, .int .i64 0, .int .i64 0]) (w.heap.size + 1) _ #[.int .i64 62, .int .i64 (P1 : Int)] _ _ ((setRow_other _ _ _ _ (by omega)).trans HF.out.f0)) Try.underlying37 rfl sizeFault
            exact results_ctc_of (p := 6) (q := 8) (u := 7) (ty := 34) (ty2 := 37) rfl rfl rfl e1 e2
        · obtain ⟨hka, hkb⟩ := hk
          have hkey2 := hkey (P2 : Int)
          clear hkey
          unfold RKeyPost at hkey2
          rcases hways with ⟨e3, x, he1, he2, hkf, hg⟩ | ⟨d, k, tt, hkf, hg⟩
          · rw [hkf] at hkey2
            replace hg := Lib.hid hg
            clear hkf
            go_enter Try.func76, Try.ntmps76
            go_wp2_with fail
            refine r1.mono ?_
            rintro e w9 ⟨rfl, hw9⟩
            subst hw9
            clear r1 hw1
            go_wp2_with fail
            refine r2.mono ?_
            rintro e w9 ⟨rfl, hw9⟩
            subst hw9
            clear r2
            go_wp2_with fail
            refine (hzag _).mono ?_
            rintro e w9 ⟨rfl, hw9⟩
            subst hw9
            clear hzag
            go_wp2_with fail
            refine hkey2.mono ?_
            rintro e wk ⟨rfl, k1, k2⟩
            have HS2 := Lib.hid (HS.out.turn k1 k2)
            clear hkey2 k1 k2 HS d1 d2
            go_upto_region 20 with fail
            obtain ⟨u, hu⟩ : ∃ u, wk.alloc (.cells #[.int .i64 e3, .int .i64 x] 37) = u := ⟨_, rfl⟩
            have HF := Lib.hid (show GSt w u p c (N + 1) S by rw [← hu]; exact HS2.out.below ((Below.refl _ _).alloc (Nat.le_refl _) _))
            obtain ⟨a0, a1, a2, a3, b0, b1, fa, fb⟩ := HF.out.boxes
            have b4 : u.cell? ⟨wk.heap.size, 0, none⟩ = some (.int .i64 e3) := by rw [← hu]; simp
            have b5 : u.cell? ⟨wk.heap.size, 1, none⟩ = some (.int .i64 x) := by rw [← hu]; simp
            have hlt : w.heap.size + 1 < wk.heap.size := (Array.getElem?_eq_some_iff.1 HS2.out.f0).1
            obtain ⟨hn1, hn2, hn3, hn4⟩ : wk.heap.size ≠ w.heap.size ∧ w.heap.size ≠ wk.heap.size ∧ wk.heap.size ≠ w.heap.size + 1 ∧ w.heap.size + 1 ≠ wk.heap.size := by omega
            rw [hu]
            clear hu
            go_wp2_with fail
            go_region
            obtain ⟨u9, hu9⟩ : ∃ u9, ((((((u.setCell ⟨w.heap.size, 0, none⟩ (.int .i64 0)).setCell ⟨w.heap.size, 1, none⟩ (.string ⟨#[]⟩)).setCell ⟨w.heap.size, 2, none⟩ (.int .i64 0)).setCell ⟨w.heap.size, 3, none⟩ (.int .i64 0)).setCell ⟨w.heap.size + 1, 0, none⟩ (.int .i64 e3)).setCell ⟨w.heap.size + 1, 1, none⟩ (.int .i64 x)).drew = u9 := ⟨_, rfl⟩
            have HE := Lib.hid (HF.out.finC _ _ _ _ _ _ hu9)
            rw [hu9]
            clear hu9 a0 a1 a2 a3 b0 b1 fa fb b4 b5 hn1 hn2 hn3 hn4
            go_wp2
            try simp only [Exit.inBlock, Exit.then, Exit.jump]
            have hend : RGetPost w p N (getF c l a) S (.returned (.tuple #[.agg #[.int .i64 0, .string ⟨#[]⟩, .int .i64 0, .int .i64 0], .int .i64 0, .agg #[.int .i64 e3, .int .i64 x]])) u9 := by
              rw [hg.out]
              exact ⟨rfl, HE.out.1, HE.out.2.1⟩
            refine bodyPost_ret_by (v := .tuple #[.agg #[.int .i64 0, .string ⟨#[]⟩, .int .i64 0, .int .i64 0], .int .i64 0, .agg #[.int .i64 e3, .int .i64 x]]) ?_ rfl hend
            have e1 := run_loadVar_row (P := Try.prog) _ w.heap.size 34 34 _ (0, 0) _ HE.out.2.2.1 Try.underlying34 rfl sizeRec
            have e2 := run_loadVar_row (P := Try.prog) _ (w.heap.size + 1) 37 37 _ (0, 0) _ HE.out.2.2.2 Try.underlying37 rfl sizeFault
            exact results_ctc_of (p := 6) (q := 8) (u := 7) (ty := 34) (ty2 := 37) rfl rfl rfl e1 e2
          · rw [hkf] at hkey2
            replace hg := Lib.hid hg
            clear hkf
            go_enter Try.func76, Try.ntmps76
            go_wp2_with fail
            refine r1.mono ?_
            rintro e w9 ⟨rfl, hw9⟩
            subst hw9
            clear r1 hw1
            go_wp2_with fail
            refine r2.mono ?_
            rintro e w9 ⟨rfl, hw9⟩
            subst hw9
            clear r2
            go_wp2_with fail
            refine (hzag _).mono ?_
            rintro e w9 ⟨rfl, hw9⟩
            subst hw9
            clear hzag
            go_wp2_with fail
            refine hkey2.mono ?_
            rintro e wk ⟨rfl, k1, k2⟩
            have HS2 := Lib.hid (HS.out.turn k1 k2)
            clear hkey2 k1 k2 HS d1 d2
            obtain ⟨d1, d2, z1, z2⟩ : (∀ X, (wk.alloc X).cell? ⟨p, 1, none⟩ = some (.int .i64 c.tick)) ∧ (∀ X, (wk.alloc X).cell? ⟨p, 2, none⟩ = some (.int .i64 c.cost)) ∧ (∀ X, (wk.alloc X).frozen? ⟨p, 1, none⟩ = false) ∧ (∀ X, (wk.alloc X).frozen? ⟨p, 2, none⟩ = false) := by
              refine ⟨fun X => ?_, fun X => ?_, fun X => ?_, fun X => ?_⟩
              · exact (HS2.out.below ((Below.refl _ _).alloc (Nat.le_refl _) X)).cells.1
              · exact (HS2.out.below ((Below.refl _ _).alloc (Nat.le_refl _) X)).cells.2.1
              · exact (HS2.out.below ((Below.refl _ _).alloc (Nat.le_refl _) X)).cells.2.2.1
              · exact (HS2.out.below ((Below.refl _ _).alloc (Nat.le_refl _) X)).cells.2.2.2
            go_upto_region 23 with fail
            obtain ⟨u, hu⟩ : ∃ u, ((wk.alloc (.cells #[.int .i64 0, .int .i64 0] 37)).setCell ⟨p, 1, none⟩ (.int .i64 t)).setCell ⟨p, 2, none⟩ (.int .i64 kk) = u := ⟨_, rfl⟩
            have HF := Lib.hid (show GSt w u p ⟨d, t, kk⟩ (N + 1) S by rw [← hu]; exact (HS2.out.below ((Below.refl _ _).alloc (Nat.le_refl _) _)).done htb ht2 (by omega) hkb)
            rw [hu]
            clear hu d1 d2 z1 z2
            go_wp2_with (first
              | ((with_reducible refine at_list ?_); refine wpList_store_row rfl 34 (.tmp 6) (.tmp 122) rfl w.heap.size _ zr 34 rfl rfl HF.out.r0 rfl sizeRec (by kernel_rfl) ?_)
              | ((with_reducible refine at_list ?_); refine wpList_store_row rfl 37 (.tmp 8) (.tmp 124) rfl (w.heap.size + 1) _ zf 37 rfl rfl ((setRow_other _ _ _ _ (by omega)).trans HF.out.f0) rfl sizeFault (by kernel_rfl) ?_))
            have hend : RGetPost w p N (getF c l a) S (.returned (.tuple #[.agg #[.int .i64 t, .string k, .int .i64 kk, .int .i64 v], .int .i64 tt, .agg #[.int .i64 0, .int .i64 0]])) ((u.setRow w.heap.size #[.int .i64 t, .string k, .int .i64 kk, .int .i64 v]).setRow (w.heap.size + 1) #[.int .i64 0, .int .i64 0]) := by
              rw [hg.out]
              obtain ⟨x1, x2⟩ := HF.out.fin #[.int .i64 t, .string k, .int .i64 kk, .int .i64 v] #[.int .i64 0, .int .i64 0]
              exact ⟨rfl, x1, x2⟩
            try simp only [Exit.inBlock, Exit.then, Exit.jump]
            refine bodyPost_ret_by (v := .tuple #[.agg #[.int .i64 t, .string k, .int .i64 kk, .int .i64 v], .int .i64 tt, .agg #[.int .i64 0, .int .i64 0]]) ?_ rfl (hend)
            have e1 := run_loadVar_row (P := Try.prog) _ w.heap.size 34 34 _ (0, 0) _ ((setRow_other _ (w.heap.size + 1) w.heap.size #[.int .i64 0, .int .i64 0] (by omega)).trans (setRow_heap u _ _ #[.int .i64 t, .string k, .int .i64 kk, .int .i64 v] _ _ HF.out.r0)) Try.underlying34 rfl sizeRec
            have e2 := run_loadVar_row (P := Try.prog) _ (w.heap.size + 1) 37 37 _ (0, 0) _ (setRow_heap (u.setRow w.heap.size #[.int .i64 t, .string k, .int .i64 kk, .int .i64 v]) (w.heap.size + 1) _ #[.int .i64 0, .int .i64 0] _ _ ((setRow_other _ _ _ _ (by omega)).trans HF.out.f0)) Try.underlying37 rfl sizeFault
            exact results_ctc_of (p := 6) (q := 8) (u := 7) (ty := 34) (ty2 := 37) rfl rfl rfl e1 e2
end Go.Proofs.Ytipiohkpdkandaa
namespace Go.Proofs.Ytipiohkpdkandaa
set_option linter.unusedVariables false
set_option linter.unusedSimpArgs false
open Go.RowKit

def RClonePost (w : World) (c : CC) (N : Int) (e : Ending) (w' : World) : Prop := ∃ p, e = .returned (.pointer (some ⟨p, 0, none⟩)) ∧ RCoderNew w c N p w'
set_option maxRecDepth 100000 in
set_option maxHeartbeats 2000000 in
theorem refCoderClone_any {w : World} {p : Nat} {c : CC} {N : Int} {S : Nat → Prop} (h : RCoderAt w p c N S) : Calls Try.prog 40 #[.pointer (some ⟨p, 0, none⟩)] w (RClonePost w c N) := by
  have hinv := h.inv
  obtain ⟨q, T, hB, hS⟩ := h
  have HK : ∀ w', Below w.heap.size w w' → CoderIs w p q c w' := fun w' hb => by
    have h1 := hB.kept (Upd.of_below hb) (by have := hB.lt; omega) (fun b hb => by have := hB.dict.lt hb; omega)
    exact ⟨h1.c0, h1.c1, h1.c2, hb⟩
  have hcl : ∀ w', Below w.heap.size w w' → Calls Try.prog 33 #[.pointer (some ⟨q, 0, none⟩)] w' (fun e w'' => ∃ q2, e = .returned (.pointer (some ⟨q2, 0, none⟩)) ∧ RefNew w' c.d N q2 w'' ∧ Below w.heap.size w w'') := fun w' hb => by
    have h1 := hB.kept (Upd.of_below hb) (by have := hB.lt; omega) (fun b hb => by have := hB.dict.lt hb; omega)
    refine (refClone_any h1.dict).mono ?_
    rintro e w'' ⟨q2, rfl, S2, a1, a2, a3⟩
    exact ⟨q2, rfl, ⟨S2, a1, a2, a3⟩, hb.trans (a3.mono hb.size)⟩
  have B0 : Below w.heap.size w w := Below.refl _ _
  have HI := Lib.hid hinv
  clear hB hS hinv
  go_enter Try.func40, Try.ntmps40
  go_wp2_with fail
  go_region_held3 (fun w' => w'.cell? ⟨p, 0, none⟩ = some (.pointer (some ⟨q, 0, none⟩)) ∧ w'.cell? ⟨p, 1, none⟩ = some (.int .i64 c.tick) ∧ w'.cell? ⟨p, 2, none⟩ = some (.int .i64 c.cost) ∧ Below w.heap.size w w')
    (first | exact HK _ (by assumption) | exact HK _ (Below.drew (by assumption)) | exact HK _ (below_alloc (by assumption) _) | exact HK _ (Below.drew (below_alloc (by assumption) _)) | go_keep)
    ((go_at_call 33; refine (hcl _ (by first | assumption | exact Below.drew (by assumption) | exact Below.drew (Below.drew (by assumption)))).mono ?_; rintro e w1 ⟨q2, rfl, a1, b1⟩))
  obtain ⟨T2, t1, t2, t3⟩ := a1
  have t3' : Below w.heap.size w.drew w1 := t3
  have HX := Lib.hid (And.intro t1 (And.intro t2 b1))
  clear HK hcl t1 t2 t3 t3' b1 B0
  go_wp2
  go_ret
  have hs := HX.out.2.2.size
  refine ⟨w1.heap.size, rfl, _, ⟨q2, T2, ⟨heap_alloc_new w1 _, HX.out.1.kept ((Upd.refl _ _).alloc _) (fun _ _ h => h), fun h => by have := HX.out.1.lt h; omega, HI.out⟩, fun b => Iff.rfl⟩, ?_, HX.out.2.2.alloc hs _⟩
  rintro b (rfl | hb)
  · exact hs
  · exact HX.out.2.1 b hb
end Go.Proofs.Ytipiohkpdkandaa
namespace Go.Proofs.Ytipiohkpdkandaa
set_option linter.unusedVariables false
set_option linter.unusedSimpArgs false
open Go.RowKit

/-- What lent leaves: the bytes in a list of its own, three marks behind them. -/
def LentPost (w : World) (l : List Int) (n : Nat) (e : Ending) (w' : World) : Prop :=
  ∃ g, e = .returned (.slice (some ⟨g, 0, none⟩) (n + 3) (n + 3)) ∧ w.heap.size ≤ g ∧ Row w' 5 (some ⟨g, 0, none⟩) (n + 3) (n + 3) (nums .u8 (l ++ [201, 201, 201])) ∧ Below w.heap.size w w'

theorem marks_set (l : List Int) (j : Nat) (hj : j < 3) : (nums .u8 (l ++ (List.replicate j 201 ++ List.replicate (3 - j) 0))).set (l.length + j) (.int .u8 201) = nums .u8 (l ++ (List.replicate (j + 1) 201 ++ List.replicate (3 - (j + 1)) 0)) := by
  rw [nums_append, nums_append, List.set_append_right _ _ (by rw [nums_length]; omega), nums_length]
  congr 1
  rw [show l.length + j - l.length = j by omega]
  have : j = 0 ∨ j = 1 ∨ j = 2 := by omega
  rcases this with rfl | rfl | rfl <;> simp [nums, List.replicate]

set_option maxRecDepth 100000 in
set_option maxHeartbeats 2000000 in
theorem lent6_any (A : Option Addr) (n c : Nat) (l : List Int) (w : World) (R : Rd w A n (nums .u8 l)) (hroom : n ≤ 140737488351232) :
    Calls Try.prog 75 #[.slice A n c] w (LentPost w l n) := by
  have hl : l.length = n := by have := R.len; rwa [nums_length] at this
  have hmk : ∀ W : World, (Instr.makeSlice 25 (.int .i64 ((n : Int) + 3)) (.int .i64 ((n : Int) + 3))).run Try.prog W = .ok (.slice (some ⟨W.heap.size, 0, none⟩) (n + 3) (n + 3)) (W.alloc (.cells (madeCells #[.int .u8 0] (n + 3)) 5)) := fun W => by
    have := run_make_row' (P := Try.prog) 25 5 (.int .u8 0) 1 Try.underlying25 infoByte rfl .i64 .i64 (n + 3) (by omega) (by omega) W
    rwa [show ((n + 3 : Nat) : Int) = (n : Int) + 3 by omega] at this
  have hszb : (Try.prog.info? 5).map (·.size) = some 1 := by kernel_rfl
  have hR0 : Row (w.alloc (.cells (madeCells #[.int .u8 0] (n + 3)) 5)) 5 (some ⟨w.heap.size, 0, none⟩) (n + 3) (n + 3) (nums .u8 (List.replicate (n + 3) 0)) := by
    have hs : (madeCells #[Value.int .u8 0] (n + 3)).size = n + 3 := by simp [size_madeCells]
    have := Row.made (w := w) (e := 5) (madeCells #[.int .u8 0] (n + 3)) (n + 3) (nums .u8 (List.replicate (n + 3) 0)) (by omega) (by simp only [maxLen]; omega) (by rw [toList_madeCells_one]; simp [nums])
    rwa [hs] at this
  go_enter Try.func75, Try.ntmps75
  go_wp2_with (with_reducible refine row_copy rfl _ _ 25 25 rfl 5 Try.underlying25 hszb (some ⟨w.heap.size, 0, none⟩) A (n + 3) (n + 3) n c rfl rfl w.heap.size 0 (n + 3) (n + 3) 5 (nums .u8 (List.replicate (n + 3) 0)) (nums .u8 l) hR0 ?_ (nums_oneCell _ _) n ?_ (by omega) (fun _ => rfl) ?_)
  case refine_1 => exact R.below ((Below.refl _ _).alloc (Nat.le_refl _) _) (Nat.le_refl _)
  case refine_2 => exact (Nat.min_eq_left (show n ≤ n + 3 by omega)).symm
  intro w1 h1 h2
  have hsp : splice (nums .u8 (List.replicate (n + 3) 0)) 0 (List.take n (nums .u8 l)) = nums .u8 (l ++ (List.replicate 0 201 ++ List.replicate (3 - 0) 0)) := by
    rw [List.take_of_length_le (by rw [nums_length]; omega)]
    unfold splice
    rw [nums_length, nums_append]
    simp [nums, hl]
  rw [hsp] at h1
  have hb : Below w.heap.size w w1 := ((Below.refl _ _).alloc (Nat.le_refl _) _).trans (h2.below (by simp) (fun k _ hk => by omega))
  clear h2 hmk hR0 hsp
  go_wp2
  go_loopg [4] (3 : Nat) (fun gk v4 wr => ∃ j : Nat, v4 = .int .i64 ((n : Int) + j) ∧ gk + j = 3 ∧ Row wr 5 (some ⟨w.heap.size, 0, none⟩) (n + 3) (n + 3) (nums .u8 (l ++ (List.replicate j 201 ++ List.replicate (3 - j) 0))) ∧ Below w.heap.size w wr)
  case atStart => exact ⟨0, by simp, rfl, h1, hb⟩
  case round =>
    clear h1 hb
    obtain ⟨j, rfl, hj, hrow, hb⟩ := hrel
    by_cases h3 : j = 3
    · have h30 : (3 : Int) ≤ j := by omega
      have hj3 : 3 ≤ j := by omega
      have hrow' : Row wr 5 (some ⟨w.heap.size, 0, none⟩) (n + 3) (n + 3) (nums .u8 (l ++ [201, 201, 201])) := by subst h3; exact hrow
      clear h3 hrow
      go_wp2
      go_ret
      exact ⟨_, rfl, Nat.le_refl _, hrow', hb⟩
    · have h30 : (j : Int) < 3 := by omega
      obtain ⟨u, hu⟩ : ∃ u, (nums .u8 (l ++ (List.replicate j 201 ++ List.replicate (3 - j) 0)))[n + j]? = some u := ⟨_, List.getElem?_eq_getElem (by simp [nums]; omega)⟩
      have hc := hrow.cell hu
      have hf := hrow.free (n + j)
      have hst := hrow.store (n + j) (.int .u8 201)
      rw [← hl, marks_set l j (by omega), hl] at hst
      have hb2 : Below w.heap.size w (wr.setCell ⟨w.heap.size, n + j, none⟩ (.int .u8 201)) := hb.setCell (Nat.le_refl _) _
      have HH := Lib.hid (And.intro hst hb2)
      have hj2 : ((n : Int) + j).toNat = n + j := by omega
      clear hrow hst hb2 hu h3 hb
      go_wp2
      go_roundg (2 - j)
      case measure => omega
      case rel => exact ⟨j + 1, by go_num, by omega, HH.out.1, HH.out.2⟩

/-- Back: the bytes and the marks are there; they are spoilt. -/
def BackPost (w : World) (g : Nat) (e : Ending) (w' : World) : Prop := e = .returned (.bool true) ∧ Upd w w' (fun b => b = g)
set_option maxRecDepth 100000 in
set_option maxHeartbeats 2000000 in
theorem back6_any (A : Option Addr) (n c : Nat) (l : List Int) (g : Nat) (w : World) (r : ∀ wr, Upd w wr (fun b => b = g) → Rd wr A n (nums .u8 l)) (hn : n ≤ 140737488351232) (R : Row w 5 (some ⟨g, 0, none⟩) (n + 3) (n + 3) (nums .u8 (l ++ [201, 201, 201]))) :
    Calls Try.prog 77 #[.slice (some ⟨g, 0, none⟩) (n + 3) (n + 3), .slice A n c] w (BackPost w g) := by
  have hl : l.length = n := by have := (r w (Upd.refl _ _)).len; rwa [nums_length] at this
  have HR := Lib.hid r
  clear r
  go_enter Try.func77, Try.ntmps77
  go_wp2
  go_loopg [5, 6] (n + 3) (fun gk v5 v6 wr => ∃ (i : Nat) (L : List Value), v5 = .bool true ∧ v6 = .int .i64 i ∧ gk + i = n + 3 ∧ Row wr 5 (some ⟨g, 0, none⟩) (n + 3) (n + 3) L ∧ Hid (∀ j, i ≤ j → L[j]? = (nums .u8 (l ++ [201, 201, 201]))[j]?) ∧ Hid (Upd w wr (fun b => b = g)))
  case atStart => exact ⟨0, _, rfl, rfl, by omega, R, Lib.hid (fun j _ => rfl), Lib.hid (Upd.refl _ _)⟩
  case round =>
    clear R
    obtain ⟨i, L, rfl, rfl, hi, hrow, hL, hu⟩ := hrel
    have HH : Hid (∀ v, Row (wr.setCell ⟨g, i, none⟩ v) 5 (some ⟨g, 0, none⟩) (n + 3) (n + 3) (L.set i v) ∧ (∀ j, i + 1 ≤ j → (L.set i v)[j]? = (nums .u8 (l ++ [201, 201, 201]))[j]?) ∧ Upd w (wr.setCell ⟨g, i, none⟩ v) (fun b => b = g)) := by
      refine Lib.hid (fun v => ⟨hrow.store i v, fun j hj => ?_, hu.out.setCell (a := ⟨g, i, none⟩) (fun _ => rfl) v⟩)
      rw [List.getElem?_set_ne (by omega)]
      exact hL.out j (by omega)
    by_cases h1 : i < n
    · obtain ⟨x, hx⟩ : ∃ x, l[i]? = some x := ⟨_, List.getElem?_eq_getElem (by omega)⟩
      obtain ⟨ad, rfl, hc⟩ := (HR.out wr hu.out).at (i := i) (u := .int .u8 x) (by rw [nums_get, hx]; rfl)
      have hc2 := hrow.cell (i := i) (u := .int .u8 x) (by rw [hL.out i (Nat.le_refl _), nums_get, List.getElem?_append_left (by omega), hx]; rfl)
      have hf := hrow.free i
      clear hx hrow hu hL
      go_wp2
      go_roundg (n + 2 - i)
      case measure => omega
      case rel => exact ⟨i + 1, _, rfl, by go_num, by omega, (HH.out _).1, Lib.hid (HH.out _).2.1, Lib.hid (HH.out _).2.2⟩
    · by_cases h2 : i < n + 3
      · have hc2 := hrow.cell (i := i) (u := .int .u8 201) (by
          rw [hL.out i (Nat.le_refl _), nums_get, List.getElem?_append_right (by omega), hl]
          have : i - n = 0 ∨ i - n = 1 ∨ i - n = 2 := by omega
          rcases this with h | h | h <;> rw [h] <;> rfl)
        have hf := hrow.free i
        clear hrow hu hL
        go_wp2
        go_roundg (n + 2 - i)
        case measure => omega
        case rel => exact ⟨i + 1, _, rfl, by go_num, by omega, (HH.out _).1, Lib.hid (HH.out _).2.1, Lib.hid (HH.out _).2.2⟩
      · clear hrow HH hL
        go_wp2
        go_ret
        exact ⟨rfl, hu.out⟩
end Go.Proofs.Ytipiohkpdkandaa
