/-
  Put: walk. Conditions: none.
-/
import Derived.Test.YtipiohkpdkandaaRecB
import Derived.Test.YtipiohkpdkandaaStr
import Derived.BigRegion
import Derived.Deep.CutBlock
import Derived.StillTailTactics
namespace Go.Proofs.Ytipiohkpdkandaa
set_option linter.unusedVariables false
set_option linter.unusedSimpArgs false
open Go.RowKit

/-- The state of Put on its way: the coder, the record's box, the bytes so far. -/
structure PutSt (W w : World) (p q : Nat) (c : CC) (T S0 : Nat → Prop) (r : Rec) (A : Option Addr) (co : Nat) (l : List Int) : Prop where
  coder : CoderB w p q c T
  box : w.heap[W.heap.size]? = some (.cells #[.int .i64 r.tick, .string r.key, .int .i64 r.cost, .int .i64 r.verdict] 34 (0, 0))
  row : Row w 5 A l.length co (nums .u8 l)
  own : ∀ g, blk A = some g → W.heap.size < g ∧ ¬ T g
  upd : Upd W w S0
  new : ∀ b, b = p ∨ T b → S0 b ∨ W.heap.size < b
  old : ∀ b, S0 b → b < W.heap.size
  head : S0 p
section
variable {W w : World} {p q : Nat} {c : CC} {T S0 : Nat → Prop} {r : Rec} {A : Option Addr} {co : Nat} {l : List Int}
theorem PutSt.lt (h : PutSt W w p q c T S0 r A co l) : W.heap.size < w.heap.size := (Array.getElem?_eq_some_iff.1 h.box).1
theorem PutSt.drew (h : PutSt W w p q c T S0 r A co l) : PutSt W w.drew p q c T S0 r A co l :=
  ⟨⟨h.coder.head, h.coder.dict.kept ((Upd.refl w (fun _ => False)).drew) (fun _ _ h => h), h.coder.apart, h.coder.inv⟩, h.box, h.row.drew, h.own, h.upd.drew, h.new, h.old, h.head⟩
theorem PutSt.drewN (h : PutSt W w p q c T S0 r A co l) (m : Nat) : PutSt W (w.drewN m) p q c T S0 r A co l :=
  ⟨⟨h.coder.head, h.coder.dict.kept (T := fun _ => False) ⟨rfl, rfl, rfl, Nat.le_refl _, fun _ _ _ => rfl⟩ (fun _ _ h => h), h.coder.apart, h.coder.inv⟩, h.box, h.row.drewN m, h.own, ⟨h.upd.os, h.upd.tape, h.upd.output, h.upd.size, h.upd.block⟩, h.new, h.old, h.head⟩
theorem PutSt.cells (h : PutSt W w p q c T S0 r A co l) : w.cell? ⟨p, 0, none⟩ = some (.pointer (some ⟨q, 0, none⟩)) ∧ w.cell? ⟨p, 1, none⟩ = some (.int .i64 c.tick) ∧ w.cell? ⟨p, 2, none⟩ = some (.int .i64 c.cost) ∧
    w.cell? ⟨W.heap.size, 0, none⟩ = some (.int .i64 r.tick) ∧ w.cell? ⟨W.heap.size, 1, none⟩ = some (.string r.key) ∧ w.cell? ⟨W.heap.size, 2, none⟩ = some (.int .i64 r.cost) ∧ w.cell? ⟨W.heap.size, 3, none⟩ = some (.int .i64 r.verdict) := by
  refine ⟨h.coder.c0, h.coder.c1, h.coder.c2, ?_, ?_, ?_, ?_⟩ <;> simp [World.cell?, h.box]
/-- A write into the row of bytes alone. -/
theorem PutSt.grow {w1 w2 : World} {A1 : Option Addr} {c1 : Nat} {l1 : List Int} (h : PutSt W w p q c T S0 r A co l) (hb : Below w.heap.size w w1) (hg : Grew w1 w2 A A1 co c1) (hr : Row w2 5 A1 l1.length c1 (nums .u8 l1)) : PutSt W w2 p q c T S0 r A1 c1 l1 := by
  have hlt := h.lt
  have hu : Upd w w2 (fun k => blk A = some k ∨ w.heap.size ≤ k) := ((Upd.of_below hb).mono (fun b _ hh => .inr hh)).trans (hg.upd) (fun b _ hh => .inl hh)
  have hk : ∀ b, b < w.heap.size → (∀ g, blk A = some g → b ≠ g) → ¬ (blk A = some b ∨ w.heap.size ≤ b) := by
    rintro b hb hn (hh | hh)
    · exact hn b hh rfl
    · omega
  have hp : p < W.heap.size := h.old p h.head
  refine ⟨h.coder.kept hu (hk p h.coder.lt (fun g hg e => by have := (h.own g hg).1; omega)) (fun b hb => hk b (h.coder.dict.lt hb) (fun g hg e => by subst e; exact (h.own b hg).2 hb)), ?_, hr, ?_, ?_, h.new, h.old, h.head⟩
  · exact (hu.block _ hlt (hk _ hlt (fun g hg e => by have := (h.own g hg).1; omega))).trans h.box
  · intro g hg'
    rcases hg.at with e | e
    · exact h.own g (by rw [← e]; exact hg')
    · rw [e] at hg'
      injection hg' with hg'
      have := hb.size
      exact ⟨by omega, fun ht => by have := h.coder.dict.lt ht; omega⟩
  · refine h.upd.trans hu (fun b hbW hh => ?_)
    rcases hh with hh | hh
    · have := (h.own b hh).1; omega
    · have := h.upd.size; omega
theorem PutSt.number {x : Nat} {e : Ending} {w' : World} (h : PutSt W w p q c T S0 r A co l) (hn : NumberPost w A co (l ++ digs x) e w') :
    ∃ A1 c1 n, Hid ((l ++ digs x).length = n) ∧ e = .returned (.slice A1 n c1) ∧ PutSt W w' p q c T S0 r A1 c1 (l ++ digs x) := by
  obtain ⟨A1, c1, w1, he, hb, hg, hr⟩ := hn
  exact ⟨A1, c1, _, Lib.hid rfl, he, h.grow hb hg hr⟩
theorem number_at {q n : Nat} {x : Int} (hq : q ≤ 4611686018427387903) (hx : (q : Int) = x) (hn : l.length = n) (h : Row w 5 A l.length co (nums .u8 l)) (hl : n ≤ 1000) :
    Calls Try.prog 44 #[.slice A n co, .int .i64 x] w (NumberPost w A co (l ++ digs q)) := by
  subst hx; subst hn
  exact number_row w A co l q hq h hl
theorem PutSt.use {w' : World} {T' : Nat → Prop} {d' : DD} (h : PutSt W w p q c T S0 r A co l) (hd : DictAt w' q d' T') (hu : Upd w w' T) (hn : ∀ b, T' b → T b ∨ w.heap.size ≤ b) (hi : DInv d') : PutSt W w' p q ⟨d', c.tick, c.cost⟩ T' S0 r A co l := by
  have hlt := h.lt
  have hp : p < W.heap.size := h.old p h.head
  have hpl := h.coder.lt
  refine ⟨⟨(hu.block p hpl h.coder.apart).trans h.coder.head, hd, fun hh => ?_, ⟨hi, h.coder.inv.t0, h.coder.inv.t1, h.coder.inv.c0, h.coder.inv.c1⟩⟩, ?_, h.row.kept hu (fun g hg => (h.own g hg).2), ?_, h.upd.trans hu (fun b hb ht => ?_), ?_, h.old, h.head⟩
  · rcases hn p hh with hh | hh
    · exact h.coder.apart hh
    · omega
  · refine (hu.block _ hlt (fun ht => ?_)).trans h.box
    rcases h.new _ (.inr ht) with hh | hh
    · exact absurd (h.old _ hh) (by omega)
    · omega
  · intro g hg
    refine ⟨(h.own g hg).1, fun ht => ?_⟩
    rcases hn g ht with hh | hh
    · exact (h.own g hg).2 hh
    · have := h.row.lt hg; omega
  · rcases h.new b (.inr ht) with hh | hh
    · exact hh
    · omega
  · rintro b (rfl | hb)
    · exact h.new b (.inl rfl)
    · rcases hn b hb with hh | hh
      · exact h.new b (.inr hh)
      · right; omega
end
theorem coder_set {w : World} {p : Nat} {a b c : Value} {i : Nat} (v : Value) (h : w.heap[p]? = some (.cells #[a, b, c] 100 (0, 0))) : (w.setCell ⟨p, i, none⟩ v).heap[p]? = some (.cells (#[a, b, c].setIfInBounds i v) 100 (0, 0)) := by
  have := setCell_eq_setRow w p i #[a, b, c] 100 (0, 0) v h
  rw [this]
  exact setRow_heap w p _ _ _ _ h
theorem PutSt.done {W w : World} {p q : Nat} {d : DD} {t k : Int} {T S0 : Nat → Prop} {r : Rec} {A : Option Addr} {co : Nat} {l : List Int} (h : PutSt W w p q ⟨d, t, k⟩ T S0 r A co l) (hr : r.ok) :
    PutSt W ((w.setCell ⟨p, 1, none⟩ (.int .i64 r.tick)).setCell ⟨p, 2, none⟩ (.int .i64 r.cost)).drew p q ⟨d, r.tick, r.cost⟩ T S0 r A co l := by
  have h1 := coder_set (i := 1) (.int .i64 r.tick) h.coder.head
  have h2 := coder_set (i := 2) (.int .i64 r.cost) h1
  have hu : Upd w ((w.setCell ⟨p, 1, none⟩ (.int .i64 r.tick)).setCell ⟨p, 2, none⟩ (.int .i64 r.cost)).drew (fun b => b = p) := (((Upd.refl w (fun b => b = p)).setCell (a := ⟨p, 1, none⟩) (fun _ => rfl) _).setCell (a := ⟨p, 2, none⟩) (fun _ => rfl) _).drew
  have hp := h.old p h.head
  have hlt := h.lt
  refine ⟨⟨h2, h.coder.dict.kept hu (fun b hb e => by subst e; exact h.coder.apart hb), h.coder.apart, ⟨h.coder.inv.d, hr.t0, hr.t1, by have := hr.c0; show 0 ≤ r.cost; omega, hr.c1⟩⟩, (hu.block _ hlt (by omega)).trans h.box, h.row.kept hu (fun g hg e => by have := (h.own g hg).1; omega), h.own, h.upd.trans hu (fun b _ e => by rw [e]; exact h.head), h.new, h.old, h.head⟩
theorem PutSt.string {W w w2 : World} {p q : Nat} {c : CC} {T S0 : Nat → Prop} {r : Rec} {A A1 : Option Addr} {co c1 : Nat} {l : List Int} (h : PutSt W w p q c T S0 r A co l) (hg : Grew w w2 A A1 co c1) (hr : Row w2 5 A1 (l.length + r.key.size) c1 (nums .u8 l ++ Go.Lib.strCells r.key)) :
    PutSt W w2 p q c T S0 r A1 c1 (l ++ kb r.key) := by
  have e : nums .u8 l ++ Go.Lib.strCells r.key = nums .u8 (l ++ kb r.key) := by
    rw [nums_append]
    congr 1
    simp [nums, kb, Go.Lib.strCells]
  rw [e, ← kb_length, ← List.length_append] at hr
  exact h.grow (Below.refl _ _) hg hr
/-- What Put leaves. -/
def PutPost (w : World) (p : Nat) (c : CC) (r : Rec) (S : Nat → Prop) (e : Ending) (w' : World) : Prop :=
  ∃ A k S', e = .returned (.tuple #[.slice A (putF c r).2.1.length k, .int .i64 (putF c r).2.2]) ∧ Row w' 5 A (putF c r).2.1.length k (nums .u8 (putF c r).2.1) ∧ (∀ g, blk A = some g → w.heap.size ≤ g ∧ ¬ S' g) ∧
    CoderAt w' p (putF c r).1 S' ∧ Upd w w' S ∧ ∀ b, S' b → S b ∨ w.heap.size ≤ b
theorem putPost_bad {w w' : World} {p : Nat} {c : CC} {r : Rec} {S : Nat → Prop} (h : CoderAt w p c S) {e : Int} (hp : putF c r = (c, [], e)) (hb : Below w.heap.size w w') : PutPost w p c r S (.returned (.tuple #[.slice none 0 0, .int .i64 e])) w' := by
  refine ⟨none, 0, S, by rw [hp]; rfl, by rw [hp]; exact Row.nil _ _, (fun g hg => by cases hg), by rw [hp]; exact h.below hb, (Upd.of_below hb).mono (fun b hlt hh => absurd hh (by omega)), fun b hb => .inl hb⟩

set_option maxRecDepth 100000 in
set_option maxHeartbeats 1000000 in
theorem put_wrong {w : World} {p : Nat} {c : CC} {S : Nat → Prop} (h : CoderAt w p c S) (r : Rec) (hm : r.key.size ≤ maxLen) (hr : recErr r ≠ 0) :
    Calls Try.prog 19 #[.pointer (some ⟨p, 0, none⟩), r.val] w (PutPost w p c r S) := by
  have hright := recRight_any (w.alloc (.cells #[.int .i64 r.tick, .string r.key, .int .i64 r.cost, .int .i64 r.verdict] 34)) r hm
  have hend := fun (w' : World) => putPost_bad (w' := w') h (putF_bad (c := c) hr)
  unfold RecRight at hright
  unfold Rec.val at hright ⊢
  obtain ⟨ee, hee⟩ : ∃ ee, recErr r = ee := ⟨_, rfl⟩
  rw [hee] at hright hend hr
  have hr1 : (ee != 0) = true := by simpa using hr
  have hr2 : (ee == 0) = false := by simpa using hr
  have HE := Lib.hid hend
  obtain ⟨tick, key, cost, verdict⟩ := r
  simp only at hright ⊢
  clear hend h hee hm
  go_enter Try.func19, Try.ntmps19
  go_wp2_with fail
  refine hright.mono ?_
  rintro e w1 ⟨rfl, hb⟩
  have H := Lib.hid hb
  clear hright hb
  go_wp2
  go_ret2
  exact HE.out _ (((Below.refl _ _).alloc (Nat.le_refl _) _).trans (H.out.mono (by simp)))

set_option maxRecDepth 100000 in
set_option maxHeartbeats 1000000 in
theorem put_late {w : World} {p : Nat} {c : CC} {S : Nat → Prop} (h : CoderAt w p c S) (r : Rec) (hr : recErr r = 0) (hl : r.tick < c.tick) :
    Calls Try.prog 19 #[.pointer (some ⟨p, 0, none⟩), r.val] w (PutPost w p c r S) := by
  have hm : r.key.size ≤ maxLen := by have := (recErr_ok.1 hr).key.2; simp only [maxLen]; omega
  have hright := recRight_any (w.alloc (.cells #[.int .i64 r.tick, .string r.key, .int .i64 r.cost, .int .i64 r.verdict] 34)) r hm
  have hend := fun (w' : World) => putPost_bad (w' := w') h (putF_late hr hl)
  unfold RecRight at hright
  rw [hr] at hright
  unfold Rec.val at hright ⊢
  have HE := Lib.hid hend
  obtain ⟨q, T, hB, _⟩ := h
  have hpl := hB.lt
  have hc1 := hB.c1
  obtain ⟨tick, key, cost, verdict⟩ := r
  simp only at hright hl ⊢
  obtain ⟨d, ct, cc⟩ := c
  simp only at hl hc1
  clear hend hm hr hB
  go_enter Try.func19, Try.ntmps19
  go_wp2_with fail
  refine hright.mono ?_
  rintro e w1 ⟨rfl, hb⟩
  have H := Lib.hid hb
  have g1 := (hb.cell (p := ⟨p, 1, none⟩) (by simp; omega)).trans (((Below.refl _ _).alloc (Nat.le_refl _) _).cell (p := ⟨p, 1, none⟩) hpl |>.trans hc1)
  have g2 := (hb.cell (p := ⟨w.heap.size, 0, none⟩) (by simp)).trans (by simp; rfl)
  clear hright hb hc1
  go_wp2_with fail
  go_quiet (fail)
  go_wp2
  go_ret2
  refine HE.out _ ?_
  have h9 := ((Below.refl w.heap.size w).alloc (Nat.le_refl _) (.cells #[.int .i64 tick, .string key, .int .i64 cost, .int .i64 verdict] 34)).trans (H.out.mono (by simp))
  exact ⟨h9.os, h9.tape, h9.output, h9.size, h9.block⟩

theorem putF_ok_len {c : CC} (h : CInv c) {r : Rec} (hr : r.ok) (ht : c.tick ≤ r.tick) : (digs (firstN c r)).length ≤ 9 ∧ (digs (secondN c r)).length ≤ 9 := by
  have h1 := firstN_bd h hr ht
  have h2 := secondN_bd h hr
  exact ⟨(digs_len9 (by omega)).2, (digs_len9 (by omega)).2⟩
theorem putPost_ok {w w' : World} {p q : Nat} {c : CC} {r : Rec} {S T : Nat → Prop} {A : Option Addr} {k : Nat} (hr : r.ok) (ht : c.tick ≤ r.tick) (h : PutSt w w' p q (putC c r) T S r A k (putB c r)) : PutPost w p c r S (.returned (.tuple #[.slice A (putB c r).length k, .int .i64 0])) w' := by
  have e := putF_yes hr ht
  refine ⟨A, k, fun b => b = p ∨ T b, by rw [e], by rw [e]; exact h.row, fun g hg => ⟨Nat.le_of_lt (h.own g hg).1, ?_⟩, by rw [e]; exact ⟨q, T, h.coder, fun b => Iff.rfl⟩, h.upd, fun b hb => (h.new b hb).imp id Nat.le_of_lt⟩
  rintro (rfl | hb)
  · have := (h.own g hg).1; have := h.old g h.head; omega
  · exact (h.own g hg).2 hb

set_option maxRecDepth 100000 in
set_option maxHeartbeats 4000000 in
theorem put_yes {w : World} {p : Nat} {c : CC} {S : Nat → Prop} (h : CoderAt w p c S) (r : Rec) (hr : r.ok) (ht : c.tick ≤ r.tick) :
    Calls Try.prog 19 #[.pointer (some ⟨p, 0, none⟩), r.val] w (PutPost w p c r S) := by
  have hm : r.key.size ≤ maxLen := by have := hr.key.2; simp only [maxLen]; omega
  have hright := recRight_any (w.alloc (.cells #[.int .i64 r.tick, .string r.key, .int .i64 r.cost, .int .i64 r.verdict] 34)) r hm
  unfold RecRight at hright
  rw [recErr_ok.2 hr] at hright
  unfold Rec.val at hright ⊢
  have hinv := h.inv
  have hend := fun (w' : World) (q : Nat) (T : Nat → Prop) (A : Option Addr) (k : Nat) => putPost_ok (w := w) (w' := w') (p := p) (q := q) (S := S) (T := T) (A := A) (k := k) hr ht
  have HE := Lib.hid hend
  obtain ⟨f1, f2⟩ := firstN_bd hinv hr ht
  obtain ⟨s1, s2⟩ := secondN_bd hinv hr
  obtain ⟨q, T, hB, hS⟩ := h
  have hlt : ∀ b, S b → b < w.heap.size := by
    intro b hb
    rcases (hS b).1 hb with rfl | hb
    · exact hB.lt
    · exact hB.dict.lt hb
  have hst : ∀ w', Below (w.heap.size + 1) (w.alloc (.cells #[.int .i64 r.tick, .string r.key, .int .i64 r.cost, .int .i64 r.verdict] 34)) w' → PutSt w w' p q c T S r none 0 [] := fun w' hb => by
    have hbw : Below w.heap.size w w' := ((Below.refl _ _).alloc (Nat.le_refl _) _).trans (hb.mono (by omega))
    have hu : Upd w w' (fun k => w.heap.size ≤ k) := Upd.of_below hbw
    refine ⟨hB.kept hu (by have := hB.lt; omega) (fun b hb => by have := hB.dict.lt hb; omega), ?_, Row.nil _ _, (fun g hg => by cases hg), hu.mono (fun b h1 h2 => absurd h1 (by omega)), fun b hb => .inl ((hS b).2 hb), hlt, (hS p).2 (.inl rfl)⟩
    exact (hb.block w.heap.size (by omega)).trans (heap_alloc_new w _)
  have HS := Lib.hid hst
  have i1 : IntKind.i64.wrap (r.tick - c.tick) = r.tick - c.tick := IntWalk.i64_in _ (by have := hinv.t0; have := hr.t1; omega)
  have i2 : IntKind.i64.wrap (4 * (r.tick - c.tick)) = 4 * (r.tick - c.tick) := IntWalk.i64_in _ (by have := hinv.t0; have := hr.t1; omega)
  have i3 : IntKind.i64.wrap (4 * (r.tick - c.tick) + r.verdict) = (firstN c r : Int) := by rw [f1]; exact IntWalk.i64_in _ (by have := hinv.t0; have := hr.t1; have := hr.v0; have := hr.v1; omega)
  have i4 : IntKind.i64.wrap (r.cost - c.cost) = r.cost - c.cost := IntWalk.i64_in _ (by have := hinv.c0; have := hinv.c1; have := hr.c0; have := hr.c1; omega)
  have hz : (zigF (r.cost - c.cost)) = ((secondN c r : Int), 0) := by
    have := zig_bd (n := r.cost - c.cost) (by have := hinv.c0; have := hinv.c1; have := hr.c0; have := hr.c1; omega) (by have := hinv.c0; have := hinv.c1; have := hr.c0; have := hr.c1; omega)
    exact Prod.ext s1.symm this.2.2
  have F1 := Lib.hid f1
  clear f1 s1
  have hbox1 : PutSt w (w.alloc (.cells #[.int .i64 r.tick, .string r.key, .int .i64 r.cost, .int .i64 r.verdict] 34)) p q c T S r none 0 [] := hst _ (Below.refl _ _)
  clear hend hst hbox1
  go_enter Try.func19, Try.ntmps19
  go_wp2_with fail
  refine hright.mono ?_
  rintro e w1 ⟨rfl, hb⟩
  have H1 := Lib.hid (HS.out w1 (by simpa using hb))
  obtain ⟨d0, d1, d2, b0, b1, b2, b3⟩ := H1.out.cells
  clear hright hb HS hB hS hlt
  go_wp2_with fail
  go_quiet (fail)
  clear d0 d1 d2 b0 b1 b2 b3
  have H2 := H1.out.drewN nq
  generalize w1.drewN nq = u2 at H2 ⊢
  obtain ⟨d0, d1, d2, b0, b1, b2, b3⟩ := H2.cells
  replace H2 := Lib.hid H2
  go_wp2_with fail
  go_still_tail 11, (by kernel_rfl)
  change wpList _ _ _ _ _ u2.drew
  have H3 := H2.out.drew
  have hnum := number_at (q := firstN c r) (n := 0) (by omega) rfl rfl H3.row (by omega)
  clear d0 d1 d2 b0 b1 b2 b3 i1 i2 i3
  go_wp2_with fail
  refine hnum.mono ?_
  intro e w3 h3
  obtain ⟨A1, k1, n1, N1, rfl, H3⟩ := H3.number h3
  obtain ⟨d0, d1, d2, b0, b1, b2, b3⟩ := H3.cells
  replace H3 := Lib.hid H3
  clear h3 hnum H2 H1
  go_wp2_with fail
  have hzig : ∀ n, Calls Try.prog 45 #[.int .i64 (r.cost - c.cost)] (w3.drewN n) (fun e w' => e = .returned (.tuple #[.int .i64 (secondN c r : Int), .int .i64 0]) ∧ w' = w3.drewN n) := fun n => by
    have := zig_any (r.cost - c.cost) (w3.drewN n)
    rw [hz] at this
    exact this.mono fun e w' ⟨a, b⟩ => ⟨a, b.symm⟩
  clear hz
  go_quiet ((go_at_call 45; exact Calls.quiet_of_same (hzig _)))
  clear d0 d1 d2 b0 b1 b2 b3 i4
  have H4 := H3.out.drewN nq
  generalize w3.drewN nq = u4 at H4 ⊢
  have hl := putF_ok_len hinv hr ht
  have hn1 : n1 ≤ 9 := by have := N1.out; simp at this; omega
  have hnum := number_at (q := secondN c r) (by omega) rfl N1.out H4.row (by omega)
  clear hzig
  go_wp2_with fail
  refine hnum.mono ?_
  intro e w5 h5
  obtain ⟨A2, k2, n2, N2, rfl, H5⟩ := H4.number h5
  have hn2 : n2 ≤ 18 := by have := N2.out; simp at this; omega
  obtain ⟨d0, d1, d2, b0, b1, b2, b3⟩ := H5.cells
  replace H5 := Lib.hid H5
  clear h5 hnum H4 H3
  go_wp2_with fail
  have H6 := H5.out.drew
  have huse := use_all H6.coder.dict r.key hm
  have hku := useG_ok hinv.d hr.key
  have hKI := Lib.hid (hinv.d.useG r.key)
  clear d1 d2 b0 b2 b3
  rcases hku with ⟨s, hs, hs64, hu, hmem⟩ | ⟨d', s, hu, hmem, hlk⟩
  · unfold UseAll at huse
    rw [hu] at huse
    have HT := Lib.hid (show putB c r = [] ++ digs (firstN c r) ++ digs (secondN c r) ++ digs (1 + s) by unfold putB tailB; rw [hu]; simp)
    have HC := Lib.hid (show putC c r = ⟨(useG c.d r.key).1, r.tick, r.cost⟩ from rfl)
    have HU := Lib.hid hu
    have hsi : (s : Int) < 64 := by omega
    clear hu hs hmem
    have huse2 : Calls Try.prog 26 #[.pointer (some ⟨q, 0, none⟩), .string r.key] w5.drew (fun e w' => e = .returned (.tuple #[.int .i64 s, .bool true, .int .i64 0]) ∧ ∃ T', PutSt w w' p q ⟨touchF c.d s, c.tick, c.cost⟩ T' S r A2 k2 ([] ++ digs (firstN c r) ++ digs (secondN c r)) ∧ w'.cell? ⟨p, 0, none⟩ = some (.pointer (some ⟨q, 0, none⟩)) ∧ w'.cell? ⟨w.heap.size, 1, none⟩ = some (.string r.key)) := by
      refine huse.mono ?_
      rintro e w6 ⟨T', rfl, u1, u2, u3⟩
      have H7 := H6.use u1 u2 u3 (by have := hKI.out; rw [HU.out] at this; exact this)
      exact ⟨rfl, T', H7, H7.cells.1, H7.cells.2.2.2.2.1⟩
    clear huse H6
    go_region_held3 (fun w' => w'.cell? ⟨p, 0, none⟩ = some (.pointer (some ⟨q, 0, none⟩)) ∧ w'.cell? ⟨w.heap.size, 1, none⟩ = some (.string r.key))
      (first | exact ⟨by assumption, by assumption⟩ | go_keep)
      ((go_at_call 26; refine huse2.mono ?_; rintro e w6 ⟨rfl, T', H7, e0, e1⟩))
    clear huse2 d0 b1
    have hnum := number_at (q := 1 + s) (x := 1 + (s : Int)) (by omega) (by omega) N2.out H7.row (by omega)
    replace H7 := Lib.hid H7
    clear e0 e1
    go_wp2_with fail
    refine hnum.mono ?_
    intro e w7 h7
    obtain ⟨A3, k3, n3, N3, rfl, H8⟩ := H7.out.number h7
    obtain ⟨d0, d1, d2, b0, b1, b2, b3⟩ := H8.cells
    have z1 := H8.coder.free 1
    have z2 := H8.coder.free 2
    replace H8 := Lib.hid H8
    clear h7 hnum H7 d0 b1 b3
    go_wp2_with fail
    go_region
    have H9 := H8.out.done hr
    replace H9 := Lib.hid H9
    clear d1 d2 b0 b2 z1 z2 H8
    go_wp2
    go_ret2
    have hlen := N3.out
    rw [← HT.out] at hlen
    subst hlen
    refine HE.out _ q T' _ _ ?_
    have := H9.out
    rw [HC.out, HU.out, HT.out]
    exact this
  · unfold UseAll at huse
    rw [hu] at huse
    have HT := Lib.hid (show putB c r = [] ++ digs (firstN c r) ++ digs (secondN c r) ++ digs 0 ++ digs r.key.size ++ kb r.key by unfold putB tailB; rw [hu]; simp)
    have HC := Lib.hid (show putC c r = ⟨(useG c.d r.key).1, r.tick, r.cost⟩ from rfl)
    have HU := Lib.hid hu
    have hks : r.key.size ≤ 64 := hr.key.2
    have hd0 : (digs 0).length = 1 := by rw [digs_zero]; rfl
    have HD0 := Lib.hid hd0
    have hd1 := (digs_len9 (n := r.key.size) (by omega)).2
    clear hu hmem hlk hd0
    have huse2 : Calls Try.prog 26 #[.pointer (some ⟨q, 0, none⟩), .string r.key] w5.drew (fun e w' => e = .returned (.tuple #[.int .i64 s, .bool false, .int .i64 0]) ∧ ∃ T', PutSt w w' p q ⟨d', c.tick, c.cost⟩ T' S r A2 k2 ([] ++ digs (firstN c r) ++ digs (secondN c r)) ∧ w'.cell? ⟨p, 0, none⟩ = some (.pointer (some ⟨q, 0, none⟩)) ∧ w'.cell? ⟨w.heap.size, 1, none⟩ = some (.string r.key)) := by
      refine huse.mono ?_
      rintro e w6 ⟨T', rfl, u1, u2, u3⟩
      have H7 := H6.use u1 u2 u3 (by have := hKI.out; rw [HU.out] at this; exact this)
      exact ⟨rfl, T', H7, H7.cells.1, H7.cells.2.2.2.2.1⟩
    clear huse H6
    go_region_held3 (fun w' => w'.cell? ⟨p, 0, none⟩ = some (.pointer (some ⟨q, 0, none⟩)) ∧ w'.cell? ⟨w.heap.size, 1, none⟩ = some (.string r.key))
      (first | exact ⟨by assumption, by assumption⟩ | go_keep)
      ((go_at_call 26; refine huse2.mono ?_; rintro e w6 ⟨rfl, T', H7, e0, e1⟩))
    clear huse2 d0 b1
    have hnum := number_at (q := 0) (x := 0) (by omega) (by omega) N2.out H7.row (by omega)
    replace H7 := Lib.hid H7
    clear e0 e1
    go_wp2_with fail
    refine hnum.mono ?_
    intro e w7 h7
    obtain ⟨A3, k3, n3, N3, rfl, H8⟩ := H7.out.number h7
    have hn3 : n3 ≤ 19 := by have h1 := N3.out; have h2 := HD0.out; simp at h1; omega
    have hnum := number_at (q := r.key.size) (x := (r.key.size : Int)) (by omega) rfl N3.out H8.row (by omega)
    obtain ⟨d0, d1, d2, b0, b1, b2, b3⟩ := H8.cells
    replace H8 := Lib.hid H8
    clear h7 H7 d0 d1 d2 b0 b2 b3
    go_wp2_with fail
    refine hnum.mono ?_
    intro e w8 h8
    obtain ⟨A4, k4, n4, N4, rfl, H9⟩ := H8.out.number h8
    have hn4 : n4 ≤ 28 := by have h1 := N4.out; have h2 := HD0.out; simp at h1; omega
    clear b1
    obtain ⟨d0, d1, d2, b0, b1, b2, b3⟩ := H9.cells
    have hrow := H9.row
    rw [N4.out] at hrow
    replace H9 := Lib.hid H9
    clear h8 hnum H8 d0 d1 d2 b0 b2 b3
    go_wp2_with (at_builtin; go_must (refine row_append_str rfl (.tmp 74) (.tmp 76) 25 9 5 rfl Try.underlying25 Try.underlying9 infoByte A4 n4 k4 _ r.key rfl rfl hrow (by omega) ?_))
    intro A5 k5 w9 a1 a2
    have H10 := H9.out.string a2 (by rw [N4.out]; simpa only [List.nil_append, List.append_assoc] using a1)
    clear a1 a2 hrow b1 H9
    obtain ⟨d0, d1, d2, b0, b1, b2, b3⟩ := H10.cells
    have z1 := H10.coder.free 1
    have z2 := H10.coder.free 2
    have N5 := Lib.hid (show ([] ++ digs (firstN c r) ++ digs (secondN c r) ++ digs 0 ++ digs r.key.size ++ kb r.key).length = n4 + r.key.size by rw [List.length_append, N4.out, kb_length])
    have H8 := Lib.hid H10
    clear H10 d0 b1 b3
    go_wp2_with fail
    go_region
    have H9 := H8.out.done hr
    replace H9 := Lib.hid H9
    clear d1 d2 b0 b2 z1 z2 H8
    go_wp2
    go_ret2
    have hlen := N5.out
    rw [← HT.out] at hlen
    rw [← hlen]
    refine HE.out _ q T' _ _ ?_
    have := H9.out
    rw [HC.out, HU.out, HT.out]
    exact this

/-- Put of any record. -/
theorem put_any {w : World} {p : Nat} {c : CC} {S : Nat → Prop} (h : CoderAt w p c S) (r : Rec) (hm : r.key.size ≤ maxLen) :
    Calls Try.prog 19 #[.pointer (some ⟨p, 0, none⟩), r.val] w (PutPost w p c r S) := by
  by_cases h1 : recErr r = 0
  · by_cases h2 : r.tick < c.tick
    · exact put_late h r h1 h2
    · exact put_yes h r (recErr_ok.1 h1) (by omega)
  · exact put_wrong h r hm h1
end Go.Proofs.Ytipiohkpdkandaa
