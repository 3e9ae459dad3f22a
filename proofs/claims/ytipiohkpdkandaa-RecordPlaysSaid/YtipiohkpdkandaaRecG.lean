/-
  Get: walk. Conditions: none.
-/
import Derived.Test.YtipiohkpdkandaaRecK
import Derived.Test.YtipiohkpdkandaaPolB
import Derived.Scope
import Derived.WalkMore
import Derived.ScopeJumps
import Derived.BigRegion
import Derived.Deep.CutBlock
namespace Go.Proofs.Ytipiohkpdkandaa
set_option linter.unusedVariables false
set_option linter.unusedSimpArgs false
open Go.RowKit

def zr : Array Value := #[.int .i64 0, .string ByteArray.empty, .int .i64 0, .int .i64 0]
def zf : Array Value := #[.int .i64 0, .int .i64 0]
/-- What Get leaves. -/
def GetPost (w : World) (p : Nat) (G : CC × Rec × Int × Int × Int) (S : Nat → Prop) (e : Ending) (w' : World) : Prop :=
  ∃ S', e = .returned (.tuple #[G.2.1.val, .int .i64 G.2.2.1, .agg #[.int .i64 G.2.2.2.1, .int .i64 G.2.2.2.2]]) ∧ CoderAt w' p G.1 S' ∧ Upd w w' S ∧ ∀ b, S' b → S b ∨ w.heap.size ≤ b
/-- The state at the label: what is wrong is known, nothing has changed. -/
structure GetAt (w : World) (p : Nat) (c : CC) (S : Nat → Prop) (l : List Int) (a0 e x : Int) (S' : Nat → Prop) (w' : World) : Prop where
  ans : getF c l a0 = (c, Rec.zero, 0, e, x)
  coder : CoderAt w' p c S'
  upd : Upd w w' S
  new : ∀ b, S' b → S b ∨ w.heap.size + 3 ≤ b
  r0 : w'.heap[w.heap.size]? = some (.cells zr 34 (0, 0))
  f0 : w'.heap[w.heap.size + 1]? = some (.cells zf 37 (0, 0))
def GetJ (w : World) (p : Nat) (c : CC) (S : Nat → Prop) (l : List Int) (a0 : Int) (a' : Act) (w' : World) : Prop :=
  ∃ (e x : Int) (S' : Nat → Prop) (u : Nat → Value), a' = ⟨#[(u 0), (u 1), .int .i64 x, (u 2), (u 3), (u 4), .pointer (some ⟨w.heap.size, 0, none⟩), (u 5), .pointer (some ⟨w.heap.size + 1, 0, none⟩), (u 6), (u 7), (u 8), .int .i64 e, (u 9), (u 10), (u 11), (u 12), (u 13), (u 14), (u 15), (u 16), (u 17), (u 18), (u 19), (u 20), (u 21), (u 22), (u 23), (u 24), (u 25), (u 26), (u 27), (u 28), (u 29), (u 30), (u 31), (u 32), (u 33), (u 34), (u 35), (u 36), (u 37), (u 38), (u 39), (u 40), (u 41), (u 42), (u 43), (u 44), (u 45), (u 46), (u 47), (u 48), (u 49), (u 50), (u 51), (u 52), (u 53), (u 54), (u 55), (u 56), (u 57), (u 58), (u 59), (u 60), (u 61), (u 62), (u 63), (u 64), (u 65), (u 66), (u 67), (u 68), (u 69), (u 70), (u 71), (u 72), (u 73), (u 74), (u 75), (u 76), (u 77), (u 78), (u 79), (u 80), (u 81), (u 82), (u 83), (u 84), (u 85), (u 86), (u 87), (u 88), (u 89), (u 90), (u 91), (u 92), (u 93), (u 94), (u 95), (u 96), (u 97), (u 98), (u 99), (u 100)], []⟩ ∧ GetAt w p c S l a0 e x S' w'

theorem getJ_mk {w : World} {p : Nat} {c : CC} {S : Nat → Prop} {l : List Int} {a0 : Int} {e x : Int} {S' : Nat → Prop} {u0 u1 u3 u4 u5 u7 u9 u10 u11 u13 u14 u15 u16 u17 u18 u19 u20 u21 u22 u23 u24 u25 u26 u27 u28 u29 u30 u31 u32 u33 u34 u35 u36 u37 u38 u39 u40 u41 u42 u43 u44 u45 u46 u47 u48 u49 u50 u51 u52 u53 u54 u55 u56 u57 u58 u59 u60 u61 u62 u63 u64 u65 u66 u67 u68 u69 u70 u71 u72 u73 u74 u75 u76 u77 u78 u79 u80 u81 u82 u83 u84 u85 u86 u87 u88 u89 u90 u91 u92 u93 u94 u95 u96 u97 u98 u99 u100 u101 u102 u103 u104 : Value} {w' : World} (h : GetAt w p c S l a0 e x S' w') : GetJ w p c S l a0 ⟨#[u0, u1, .int .i64 x, u3, u4, u5, .pointer (some ⟨w.heap.size, 0, none⟩), u7, .pointer (some ⟨w.heap.size + 1, 0, none⟩), u9, u10, u11, .int .i64 e, u13, u14, u15, u16, u17, u18, u19, u20, u21, u22, u23, u24, u25, u26, u27, u28, u29, u30, u31, u32, u33, u34, u35, u36, u37, u38, u39, u40, u41, u42, u43, u44, u45, u46, u47, u48, u49, u50, u51, u52, u53, u54, u55, u56, u57, u58, u59, u60, u61, u62, u63, u64, u65, u66, u67, u68, u69, u70, u71, u72, u73, u74, u75, u76, u77, u78, u79, u80, u81, u82, u83, u84, u85, u86, u87, u88, u89, u90, u91, u92, u93, u94, u95, u96, u97, u98, u99, u100, u101, u102, u103, u104], []⟩ w' := ⟨e, x, S', fun i => ([u0, u1, u3, u4, u5, u7, u9, u10, u11, u13, u14, u15, u16, u17, u18, u19, u20, u21, u22, u23, u24, u25, u26, u27, u28, u29, u30, u31, u32, u33, u34, u35, u36, u37, u38, u39, u40, u41, u42, u43, u44, u45, u46, u47, u48, u49, u50, u51, u52, u53, u54, u55, u56, u57, u58, u59, u60, u61, u62, u63, u64, u65, u66, u67, u68, u69, u70, u71, u72, u73, u74, u75, u76, u77, u78, u79, u80, u81, u82, u83, u84, u85, u86, u87, u88, u89, u90, u91, u92, u93, u94, u95, u96, u97, u98, u99, u100, u101, u102, u103, u104] : List Value).getD i undef, rfl, h⟩
section
variable {w : World} {p : Nat} {c : CC} {S : Nat → Prop}
/-- the world when the three blocks have been made -/
def w3 (w : World) (r : Array Value) : World := ((w.alloc (.cells zr 34)).alloc (.cells zf 37)).alloc (.cells r 34)
theorem w3_size (w : World) (r : Array Value) : (w3 w r).heap.size = w.heap.size + 3 := by simp [w3]
theorem w3_0 (w : World) (r : Array Value) : (w3 w r).heap[w.heap.size]? = some (.cells zr 34 (0, 0)) := by
  unfold w3
  rw [Below.heap_alloc _ _ _ (by simp only [alloc_size]; omega), Below.heap_alloc _ _ _ (by simp only [alloc_size]; omega)]
  exact heap_alloc_new w _
theorem w3_1 (w : World) (r : Array Value) : (w3 w r).heap[w.heap.size + 1]? = some (.cells zf 37 (0, 0)) := by
  unfold w3
  rw [Below.heap_alloc _ _ _ (by simp only [alloc_size]; omega)]
  exact alloc_top (by rw [alloc_size])
theorem w3_2 (w : World) (r : Array Value) : (w3 w r).heap[w.heap.size + 2]? = some (.cells r 34 (0, 0)) := by
  unfold w3
  exact alloc_top (by rw [alloc_size, alloc_size])
theorem w3_below (w : World) (r : Array Value) : Below w.heap.size w (w3 w r) := by
  unfold w3
  exact (((Below.refl _ _).alloc (Nat.le_refl _) _).alloc (by simp) _).alloc (by simp; omega) _
theorem getAt_w3 (h : CoderAt w p c S) {l : List Int} {a0 e x : Int} (hg : getF c l a0 = (c, Rec.zero, 0, e, x)) (r : Array Value) : GetAt w p c S l a0 e x S (w3 w r) :=
  ⟨hg, h.below (w3_below w r), (Upd.of_below (w3_below w r)).mono (fun b h1 h2 => absurd h1 (by omega)), fun b hb => .inl hb, w3_0 w r, w3_1 w r⟩
/-- the end behind the label -/
theorem getPost_bad {l : List Int} {a0 e x : Int} {S' : Nat → Prop} {w' : World} (h : GetAt w p c S l a0 e x S' w') (hold : ∀ b, S b → b < w.heap.size) (v1 v2 : Array Value) :
    GetPost w p (getF c l a0) S (.returned (.tuple #[.agg #[.int .i64 0, .string ByteArray.empty, .int .i64 0, .int .i64 0], .int .i64 0, .agg #[.int .i64 e, .int .i64 x]])) ((w'.setRow w.heap.size v1).setRow (w.heap.size + 1) v2) := by
  have hu : Upd w' ((w'.setRow w.heap.size v1).setRow (w.heap.size + 1) v2) (fun b => b = w.heap.size ∨ b = w.heap.size + 1) := by
    refine ⟨rfl, rfl, rfl, by simp [World.setRow], fun k _ hk => ?_⟩
    rw [setRow_other _ _ _ _ (fun e => hk (.inr e)), setRow_other _ _ _ _ (fun e => hk (.inl e))]
  have hd : ∀ b, S' b → ¬ (b = w.heap.size ∨ b = w.heap.size + 1) := by
    rintro b hb (rfl | rfl)
    · rcases h.new _ hb with hh | hh
      · have := hold _ hh; omega
      · omega
    · rcases h.new _ hb with hh | hh
      · have := hold _ hh; omega
      · omega
  refine ⟨S', by rw [h.ans]; rfl, by rw [h.ans]; exact h.coder.kept hu hd, h.upd.trans hu (fun b hb hh => by omega), fun b hb => (h.new b hb).imp id (by omega)⟩
end
/-- The state behind the key. -/
structure GetSt (w u : World) (p q : Nat) (c : CC) (S T : Nat → Prop) (r : Array Value) : Prop where
  coder : CoderB u p q c T
  upd : Upd w u S
  new : ∀ b, b = p ∨ T b → S b ∨ w.heap.size + 3 ≤ b
  r0 : u.heap[w.heap.size]? = some (.cells zr 34 (0, 0))
  f0 : u.heap[w.heap.size + 1]? = some (.cells zf 37 (0, 0))
  r2 : u.heap[w.heap.size + 1 + 1]? = some (.cells r 34 (0, 0))
section
variable {w u : World} {p q : Nat} {c : CC} {S T : Nat → Prop} {r : Array Value}
theorem GetSt.at (h : GetSt w u p q c S T r) {l : List Int} {a0 e x : Int} (hg : getF c l a0 = (c, Rec.zero, 0, e, x)) : GetAt w p c S l a0 e x (fun b => b = p ∨ T b) u :=
  ⟨hg, ⟨q, T, h.coder, fun b => Iff.rfl⟩, h.upd, h.new, h.r0, h.f0⟩
theorem cells_set {w : World} {b i : Nat} {cs : Array Value} {t : TypeId} (v : Value) (h : w.heap[b]? = some (.cells cs t (0, 0))) : (w.setCell ⟨b, i, none⟩ v).heap[b]? = some (.cells (cs.setIfInBounds i v) t (0, 0)) := by
  rw [setCell_eq_setRow w b i cs t (0, 0) v h]
  exact setRow_heap w b _ _ _ _ h
theorem getSt_key {w2 : World} {S' : Nat → Prop} {a0 a2 a3 k : Value} (hold : ∀ b, S b → b < w.heap.size) (k1 : CoderAt w2 p c S') (k2 : Upd (w3 w #[a0, .string ByteArray.empty, a2, a3]) w2 S) (k3 : ∀ b, S' b → S b ∨ (w3 w #[a0, .string ByteArray.empty, a2, a3]).heap.size ≤ b) :
    ∃ q T, GetSt w (w2.setCell ⟨w.heap.size + 1 + 1, 1, none⟩ k) p q c S T #[a0, k, a2, a3] := by
  obtain ⟨q, T, hB, hS⟩ := k1
  rw [w3_size] at k3
  have hn : ∀ b, b = p ∨ T b → S b ∨ w.heap.size + 3 ≤ b := fun b hb => k3 b ((hS b).2 hb)
  have hne : ∀ b, b = p ∨ T b → b ≠ w.heap.size + 1 + 1 := fun b hb e => by
    rcases hn b hb with hh | hh
    · have := hold b hh; omega
    · omega
  have hu : Upd w2 (w2.setCell ⟨w.heap.size + 1 + 1, 1, none⟩ k) (fun b => b = w.heap.size + 1 + 1) := (Upd.refl w2 (fun b => b = w.heap.size + 1 + 1)).setCell (a := ⟨w.heap.size + 1 + 1, 1, none⟩) (fun _ => rfl) _
  have hz := w3_size w #[a0, .string ByteArray.empty, a2, a3]
  have e0 := (k2.block w.heap.size (by omega) (fun h => by have := hold _ h; omega)).trans (w3_0 w _)
  have e1 := (k2.block (w.heap.size + 1) (by omega) (fun h => by have := hold _ h; omega)).trans (w3_1 w _)
  have e2 := (k2.block (w.heap.size + 1 + 1) (by omega) (fun h => by have := hold _ h; omega)).trans (w3_2 w _)
  refine ⟨q, T, hB.kept hu (hne p (.inl rfl)) (fun b hb => hne b (.inr hb)), ?_, hn, (hu.block _ (by have := k2.size; omega) (by omega)).trans e0, (hu.block _ (by have := k2.size; omega) (by omega)).trans e1, cells_set k e2⟩
  exact (((Upd.of_below (w3_below w _)).mono (T := S) (fun b h1 h2 => absurd h1 (by omega))).trans k2 (fun _ _ h => h)).trans hu (fun b h1 h2 => by omega)
theorem getSt_cells {w2 : World} {a0 a2 a3 : Value} (hold : ∀ b, S b → b < w.heap.size) (k2 : Upd (w3 w #[a0, .string ByteArray.empty, a2, a3]) w2 S) : w2.cell? ⟨w.heap.size + 1 + 1, 1, none⟩ = some (.string ByteArray.empty) ∧ w2.frozen? ⟨w.heap.size + 1 + 1, 1, none⟩ = false := by
  have hz := w3_size w #[a0, .string ByteArray.empty, a2, a3]
  have e2 := (k2.block (w.heap.size + 1 + 1) (by omega) (fun h => by have := hold _ h; omega)).trans (w3_2 w _)
  constructor
  · simp [World.cell?, e2]
  · simp [World.frozen?, e2]
theorem GetSt.done {t k : Int} {x y z v : Value} (h : GetSt w u p q c S T #[x, y, z, v]) (hold : ∀ b, S b → b < w.heap.size) (t0 : 0 ≤ t) (t1 : t ≤ 1099511627776) (k0 : 0 ≤ k) (k1 : k ≤ 1048576) :
    GetSt w ((u.setCell ⟨p, 1, none⟩ (.int .i64 t)).setCell ⟨p, 2, none⟩ (.int .i64 k)).drew p q ⟨c.d, t, k⟩ S T #[x, y, z, v] := by
  have h1 := cells_set (i := 1) (.int .i64 t) h.coder.head
  have h2 := cells_set (i := 2) (.int .i64 k) h1
  have hu : Upd u ((u.setCell ⟨p, 1, none⟩ (.int .i64 t)).setCell ⟨p, 2, none⟩ (.int .i64 k)).drew (fun b => b = p) := (((Upd.refl u (fun b => b = p)).setCell (a := ⟨p, 1, none⟩) (fun _ => rfl) _).setCell (a := ⟨p, 2, none⟩) (fun _ => rfl) _).drew
  have hp : ∀ j, j ≤ 2 → w.heap.size + j ≠ p := fun j hj e => by
    rcases h.new p (.inl rfl) with hh | hh
    · have := hold p hh; omega
    · omega
  have hs : ∀ {b : Nat} {o : Obj}, u.heap[b]? = some o → b < u.heap.size := fun h => (Array.getElem?_eq_some_iff.1 h).1
  refine ⟨⟨h2, h.coder.dict.kept hu (fun b hb e => by subst e; exact h.coder.apart hb), h.coder.apart, ⟨h.coder.inv.d, t0, t1, k0, k1⟩⟩, h.upd.trans hu (fun b hb e => by
    subst e
    rcases h.new b (.inl rfl) with hh | hh
    · exact hh
    · omega), h.new, (hu.block _ (hs h.r0) (hp 0 (by omega))).trans h.r0, (hu.block _ (hs h.f0) (hp 1 (by omega))).trans h.f0, (hu.block _ (hs h.r2) (by have := hp 2 (by omega); omega)).trans h.r2⟩
theorem GetSt.post {l : List Int} {a0 : Int} {c0 : CC} {r : Rec} {t : Int} (h : GetSt w u p q c S T #[.int .i64 r.tick, .string r.key, .int .i64 r.cost, .int .i64 r.verdict]) (hold : ∀ b, S b → b < w.heap.size) (hg : getF c0 l a0 = (c, r, t, 0, 0)) (v1 v2 : Array Value) :
    GetPost w p (getF c0 l a0) S (.returned (.tuple #[r.val, .int .i64 t, .agg #[.int .i64 0, .int .i64 0]])) ((u.setRow w.heap.size v1).setRow (w.heap.size + 1) v2) := by
  have hu : Upd u ((u.setRow w.heap.size v1).setRow (w.heap.size + 1) v2) (fun b => b = w.heap.size ∨ b = w.heap.size + 1) := by
    refine ⟨rfl, rfl, rfl, by simp [World.setRow], fun k _ hk => ?_⟩
    rw [setRow_other _ _ _ _ (fun e => hk (.inr e)), setRow_other _ _ _ _ (fun e => hk (.inl e))]
  have hd : ∀ b, b = p ∨ T b → ¬ (b = w.heap.size ∨ b = w.heap.size + 1) := by
    rintro b hb (rfl | rfl)
    · rcases h.new _ hb with hh | hh
      · have := hold _ hh; omega
      · omega
    · rcases h.new _ hb with hh | hh
      · have := hold _ hh; omega
      · omega
  refine ⟨fun b => b = p ∨ T b, by rw [hg], by rw [hg]; exact ⟨q, T, h.coder.kept hu (hd p (.inl rfl)) (fun b hb => hd b (.inr hb)), fun b => Iff.rfl⟩, h.upd.trans hu (fun b hb hh => by omega), fun b hb => (h.new b hb).imp id (by omega)⟩
end
theorem results_ctc {fn : Func} {p q u : Tmp} {ty ty2 : TypeId} (h : fn.results = #[.cell p ty, .tmp u, .cell q ty2]) (tmps : Array Value) (P : Program) (w : World) :
    (results fn tmps).run P w =
      ((asAddr (tmps.getD p undef)).run P w).andThen fun a w₁ => ((loadVar ty a).run P w₁).andThen fun v w₂ => ((asAddr (tmps.getD q undef)).run P w₂).andThen fun a2 w₃ => ((loadVar ty2 a2).run P w₃).andThen fun v2 w₄ => .ok (.tuple #[v, tmps.getD u undef, v2]) w₄ := by
  simp only [results, h]
  simp [Sem.run_bind, Result.andThen]
theorem results_ctc_of {fn : Func} {p q u : Tmp} {ty ty2 : TypeId} (h : fn.results = #[.cell p ty, .tmp u, .cell q ty2]) {tmps : Array Value} {P : Program} {w : World} {a1 a2 : Addr} {v1 v2 : Value} (hp : tmps.getD p undef = .pointer (some a1)) (hq : tmps.getD q undef = .pointer (some a2))
    (h1 : (loadVar ty a1).run P w = .ok v1 w) (h2 : (loadVar ty2 a2).run P w = .ok v2 w) : (results fn tmps).run P w = .ok (.tuple #[v1, tmps.getD u undef, v2]) w := by
  rw [results_ctc h, hp, hq]
  simp only [asAddr]
  simp [Result.andThen, h1, h2]
theorem sizeRec : (Try.prog.info? 34).map (·.size) = some 4 := by kernel_rfl
theorem sizeFault : (Try.prog.info? 37).map (·.size) = some 2 := by kernel_rfl

/-- the ways of Get -/
def GetWays (c : CC) (n : Nat) (l : List Int) (a : Int) : Prop :=
  (a < 0 ∧ getF c l a = (c, Rec.zero, 0, 1, -1)) ∨ (0 ≤ a ∧ (n : Int) < a ∧ getF c l a = (c, Rec.zero, 0, 1, -1)) ∨
  (0 ≤ a ∧ a ≤ n ∧ ∃ e1, (e1 == 0) = false ∧ (e1 != 0) = true ∧ readF l a = (0, 0, e1) ∧ getF c l a = (c, Rec.zero, 0, e1, a)) ∨
  (0 ≤ a ∧ a ≤ n ∧ ∃ (q1 P1 : Nat), readF l a = ((q1 : Int), (P1 : Int), 0) ∧ q1 ≤ 4611686018427387903 ∧ P1 ≤ n ∧
    (((q1 : Int) % 4 = 3 ∧ getF c l a = (c, Rec.zero, 0, 63, a)) ∨
     ((q1 : Int) % 4 ≤ 2 ∧ 1099511627776 < c.tick + (q1 : Int) / 4 ∧ getF c l a = (c, Rec.zero, 0, 60, a)) ∨
     ((q1 : Int) % 4 ≤ 2 ∧ c.tick + (q1 : Int) / 4 ≤ 1099511627776 ∧
       ((∃ e2, (e2 == 0) = false ∧ (e2 != 0) = true ∧ readF l (P1 : Int) = (0, 0, e2) ∧ getF c l a = (c, Rec.zero, 0, e2, (P1 : Int))) ∨
        ∃ (q2 P2 : Nat) (z : Int), readF l (P1 : Int) = ((q2 : Int), (P2 : Int), 0) ∧ P2 ≤ n ∧ (zagF (q2 : Int)).1 = z ∧ -2305843009213693952 ≤ z ∧ z ≤ 2305843009213693952 ∧
          ((¬ (1 ≤ c.cost + z ∧ c.cost + z ≤ 1048576) ∧ getF c l a = (c, Rec.zero, 0, 62, (P1 : Int))) ∨
           ((1 ≤ c.cost + z ∧ c.cost + z ≤ 1048576) ∧
             ((∃ e3 x, (e3 == 0) = false ∧ (e3 != 0) = true ∧ keyF c.d l (P2 : Int) = (c.d, ByteArray.empty, 0, x, e3) ∧ getF c l a = (c, Rec.zero, 0, e3, x)) ∨
              ∃ d k t, keyF c.d l (P2 : Int) = (d, k, t, 0, 0) ∧ getF c l a = (⟨d, c.tick + (q1 : Int) / 4, c.cost + z⟩, ⟨c.tick + (q1 : Int) / 4, k, c.cost + z, (q1 : Int) % 4⟩, t, 0, 0))))))))
theorem getWays {c : CC} (h : CInv c) {l : List Int} (hb : Bytes l) {n : Nat} (hn : l.length = n) (a : Int) : GetWays c n l a := by
  by_cases h1 : a < 0
  · exact .inl ⟨h1, by unfold getF; rw [if_pos (.inl h1)]⟩
  by_cases h2 : (n : Int) < a
  · exact .inr (.inl ⟨by omega, h2, by unfold getF; rw [if_pos (.inr (by omega))]⟩)
  refine .inr (.inr ?_)
  have hg := getF_in (c := c) (l := l) (a := a) (by omega)
  unfold getG at hg
  rcases readF_nat hb a with ⟨e1, he1, he2, he3, hr⟩ | ⟨pp, q1, P1, hpp, hq1, hp1, hP1, hr⟩
  · exact .inl ⟨by omega, by omega, e1, he1, he2, hr, by rw [hg, hr, if_pos he3]⟩
  refine .inr ⟨by omega, by omega, q1, P1, hr, hq1, by omega, ?_⟩
  rw [hr] at hg
  simp only [ne_eq, not_true_eq_false, if_false] at hg
  by_cases hv : (q1 : Int) % 4 = 3
  · exact .inl ⟨hv, by rw [hg, if_pos hv]⟩
  rw [if_neg hv] at hg
  refine .inr ?_
  by_cases ht : 1099511627776 < c.tick + (q1 : Int) / 4
  · exact .inl ⟨by omega, ht, by rw [hg, if_pos ht]⟩
  rw [if_neg ht] at hg
  refine .inr ⟨by omega, by omega, ?_⟩
  rcases readF_nat hb (P1 : Int) with ⟨e2, he1, he2, he3, hr2⟩ | ⟨pp2, q2, P2, hpp2, hq2, hp2, hP2, hr2⟩
  · exact .inl ⟨e2, he1, he2, hr2, by rw [hg, hr2, if_pos he3]⟩
  rw [hr2] at hg
  simp only [not_true_eq_false, if_false] at hg
  refine .inr ⟨q2, P2, _, hr2, by omega, rfl, ?_, ?_, ?_⟩
  · unfold zagF; rw [if_pos (by omega)]; dsimp only; split <;> omega
  · unfold zagF; rw [if_pos (by omega)]; dsimp only; split <;> omega
  by_cases hc : 1 ≤ c.cost + (zagF (q2 : Int)).1 ∧ c.cost + (zagF (q2 : Int)).1 ≤ 1048576
  · rw [if_neg (by omega)] at hg
    refine .inr ⟨hc, ?_⟩
    rcases keyF_cases h.d hb (P2 : Int) with ⟨e3, x, he, hk⟩ | ⟨p3, k3, key, _, _, _, _, hk, _⟩
    · exact .inl ⟨e3, x, by simpa using he, by simpa using he, hk, by rw [hg, hk, if_pos he]⟩
    · refine .inr ⟨_, _, _, hk, ?_⟩
      rw [hg, hk]
      simp
  · exact .inl ⟨hc, by rw [hg, if_pos hc]⟩

set_option maxRecDepth 100000 in
set_option maxHeartbeats 8000000 in
theorem get_any {w : World} {p : Nat} {c : CC} {S : Nat → Prop} (h : CoderAt w p c S) {A : Option Addr} {n cp : Nat} {l : List Int} (hb : BytesIn w A n cp l) (a : Int) :
    Calls Try.prog 21 #[.pointer (some ⟨p, 0, none⟩), .slice A n cp, .int .i64 a] w (GetPost w p (getF c l a) S) := by
  have hold : Hid (∀ b, S b → b < w.heap.size) := Lib.hid (fun b hb => h.lt hb)
  have hways := getWays h.inv hb.bytes hb.len a
  have H := Lib.hid (fun (e x : Int) (hg : getF c l a = (c, Rec.zero, 0, e, x)) => getAt_w3 h hg)
  have hinv := h.inv
  have hread : ∀ (x : Int) (r : Array Value), Calls Try.prog 46 #[.slice A n cp, .int .i64 x] (w3 w r) (fun e w' => e = .returned (.tuple #[.int .i64 (readF l x).1, .int .i64 (readF l x).2.1, .int .i64 (readF l x).2.2]) ∧ w3 w r = w') :=
    fun x r => read_any A n cp l x _ (hb.below (w3_below w r)).rd hb.bytes hb.max
  have hnm : (n : Int) ≤ 140737488355328 := by have := hb.max; omega
  have HK := Lib.hid (And.intro h hb)
  obtain ⟨q, T, hB, hS⟩ := h
  have hpl := hB.lt
  have d1 : ∀ r, (w3 w r).cell? ⟨p, 1, none⟩ = some (.int .i64 c.tick) := fun r => ((w3_below w r).cell (p := ⟨p, 1, none⟩) hpl).trans hB.c1
  have d2 : ∀ r, (w3 w r).cell? ⟨p, 2, none⟩ = some (.int .i64 c.cost) := fun r => ((w3_below w r).cell (p := ⟨p, 2, none⟩) hpl).trans hB.c2
  unfold w3 zr zf at d1 d2 hread
  have ht0 := hinv.t0
  have ht1 := hinv.t1
  have hk0 := hinv.c0
  have hk1 := hinv.c1
  clear hB hS hinv hb
  go_enter Try.func21, Try.ntmps21
  go_wp2
  obtain ⟨J, hJ⟩ : ∃ J, J = GetJ w p c S l a := ⟨_, rfl⟩
  have HJ := Lib.hid hJ
  clear hJ
  refine wp_scope_jumps 0 (fun a' w' => J a' w') (fun _ _ => 0) rfl ?_ ?_
  · unfold GetWays at hways
    rcases hways with ⟨c1, hg⟩ | ⟨c1, c2, hg⟩ | ⟨c1, c2, e1, c3, c4, hr1, hg⟩ | ⟨c1, c2, q1, P1, hr1, hq1, hP1, hways⟩
    · have HG := Lib.hid (H.out _ _ hg)
      clear hg hread d1 d2
      go_wp2
      go_step3
      refine ⟨rfl, ?_⟩
      rw [HJ.out]
      exact getJ_mk (HG.out _)
    · have HG := Lib.hid (H.out _ _ hg)
      clear hg hread d1 d2
      go_wp2
      go_step3
      refine ⟨rfl, ?_⟩
      rw [HJ.out]
      exact getJ_mk (HG.out _)
    · have HG := Lib.hid (H.out _ _ hg)
      have r1 := hread a #[.int .i64 0, .string ByteArray.empty, .int .i64 0, .int .i64 0]
      rw [hr1] at r1
      clear hg hread d1 d2 hr1
      go_wp2_with fail
      refine r1.mono ?_
      rintro e w1 ⟨rfl, rfl⟩
      clear r1
      go_wp2
      go_step3
      refine ⟨rfl, ?_⟩
      rw [HJ.out]
      exact getJ_mk (HG.out _)
    · have r1 := hread a #[.int .i64 0, .string ByteArray.empty, .int .i64 0, .int .i64 0]
      rw [hr1] at r1
      obtain ⟨t, ht⟩ : ∃ t, c.tick + (q1 : Int) / 4 = t := ⟨_, rfl⟩
      obtain ⟨v, hv⟩ : ∃ v, (q1 : Int) % 4 = v := ⟨_, rfl⟩
      have hv0 : 0 ≤ v := by omega
      have htb : 0 ≤ t := by omega
      have hw1 : IntKind.i64.wrap (c.tick + (q1 : Int) / 4) = t := by rw [← ht]; exact IntWalk.i64_in _ (by omega)
      rw [ht, hv] at hways
      have HT := Lib.hid ht
      clear hr1 ht
      rcases hways with ⟨hv3, hg⟩ | ⟨hv2, ht2, hg⟩ | ⟨hv2, ht2, hways⟩
      · have HG := Lib.hid (H.out _ _ hg)
        have hmv := fun w => mayVerdict_no v w (by omega)
        clear hg hread hv3
        go_wp2_with fail
        refine r1.mono ?_
        rintro e w1 ⟨rfl, rfl⟩
        clear r1
        go_wp2_with (go_at_call 47; refine (hmv _).mono ?_; rintro e w1 ⟨rfl, rfl⟩)
        go_step3
        refine ⟨rfl, ?_⟩
        rw [HJ.out]
        exact getJ_mk (HG.out _)
      · have HG := Lib.hid (H.out _ _ hg)
        have hmv := fun w => mayVerdict_yes v w hv0 hv2
        have hmt := fun w => mayTick_no t w (by omega)
        clear hg hread
        go_wp2_with fail
        refine r1.mono ?_
        rintro e w1 ⟨rfl, rfl⟩
        clear r1
        go_wp2_with (first
          | (go_at_call 47; refine (hmv _).mono ?_; rintro e w1 ⟨rfl, rfl⟩)
          | (go_at_call 48; refine (hmt _).mono ?_; rintro e w1 ⟨rfl, rfl⟩))
        go_step3
        refine ⟨rfl, ?_⟩
        rw [HJ.out]
        exact getJ_mk (HG.out _)
      · have hmv := fun w => mayVerdict_yes v w hv0 hv2
        have hmt := fun w => mayTick_yes t w htb ht2
        have r2 := hread (P1 : Int) #[.int .i64 t, .string ByteArray.empty, .int .i64 0, .int .i64 v]
        go_wp2_with fail
        refine r1.mono ?_
        rintro e w1 ⟨rfl, rfl⟩
        clear r1
        rcases hways with ⟨e2, he1, he2, hr2, hg⟩ | ⟨q2, P2, z, hr2, hP2, hz, hz1, hz2, hways⟩
        · rw [hr2] at r2
          have HG := Lib.hid (H.out _ _ hg)
          clear hg hread hr2
          go_wp2_with (first
            | (go_at_call 47; refine (hmv _).mono ?_; rintro e w1 ⟨rfl, rfl⟩)
            | (go_at_call 48; refine (hmt _).mono ?_; rintro e w1 ⟨rfl, rfl⟩)
            | (go_at_call 46; refine r2.mono ?_; rintro e w1 ⟨rfl, rfl⟩))
          go_step3
          refine ⟨rfl, ?_⟩
          rw [HJ.out]
          exact getJ_mk (HG.out _)
        · rw [hr2] at r2
          obtain ⟨er, her⟩ : ∃ er, (zagF (q2 : Int)).2 = er := ⟨_, rfl⟩
          have hzag := fun w => zag_any (q2 : Int) w
          rw [hz, her] at hzag
          obtain ⟨kk, hkk⟩ : ∃ kk, c.cost + z = kk := ⟨_, rfl⟩
          have hw2 : IntKind.i64.wrap (c.cost + z) = kk := by rw [← hkk]; exact IntWalk.i64_in _ (by omega)
          rw [hkk] at hways
          clear hread hr2 hz her hkk
          go_wp2_with (first
            | (go_at_call 47; refine (hmv _).mono ?_; rintro e w1 ⟨rfl, rfl⟩)
            | (go_at_call 48; refine (hmt _).mono ?_; rintro e w1 ⟨rfl, rfl⟩))
          refine r2.mono ?_
          rintro e w1 ⟨rfl, rfl⟩
          clear r2 hmt hmv
          go_wp2_with fail
          refine (hzag _).mono ?_
          rintro e w1 ⟨rfl, rfl⟩
          clear hzag
          rcases hways with ⟨hk, hg⟩ | ⟨hk, hways⟩
          · have HG := Lib.hid (H.out _ _ hg)
            have hmc := fun w => mayCost_no kk w hk
            clear hg hk
            go_wp2_with (go_at_call 50; refine (hmc _).mono ?_; rintro e w1 ⟨rfl, rfl⟩)
            go_step3
            refine ⟨rfl, ?_⟩
            rw [HJ.out]
            exact getJ_mk (HG.out _)
          · have hmc := fun w => mayCost_yes kk w hk.1 hk.2
            have hkey : Calls Try.prog 51 #[.pointer (some ⟨p, 0, none⟩), .slice A n cp, .int .i64 (P2 : Int)] (w3 w #[.int .i64 t, .string ByteArray.empty, .int .i64 kk, .int .i64 v]) _ := key_any (HK.out.1.below (w3_below w _)) (HK.out.2.below (w3_below w _)) (P2 : Int)
            go_wp2_with (go_at_call 50; refine (hmc _).mono ?_; rintro e w1 ⟨rfl, rfl⟩)
            refine hkey.mono ?_
            rintro e w2 ⟨S', rfl, k1, k2, k3⟩
            rcases hways with ⟨e3, x, he1, he2, hkf, hg⟩ | ⟨d, k, tt, hkf, hg⟩
            · rw [hkf] at k1 ⊢
              obtain ⟨g1, g2⟩ := getSt_cells hold.out k2
              obtain ⟨q', T', hst⟩ := getSt_key (k := .string ByteArray.empty) hold.out k1 k2 k3
              have HG := Lib.hid (hst.at hg)
              clear hg hkf k1 k2 k3 hst hkey hmc d1 d2
              go_wp2
              go_step3
              refine ⟨rfl, ?_⟩
              rw [HJ.out]
              exact getJ_mk HG.out
            · rw [hkf] at k1 ⊢
              obtain ⟨g1, g2⟩ := getSt_cells hold.out k2
              obtain ⟨q', T', hst⟩ := getSt_key (k := .string k) hold.out k1 k2 k3
              have HS := Lib.hid hst
              clear hkf k1 k2 k3 hst hkey hmc d1 d2
              go_upto_region 23 with fail
              generalize w2.setCell ⟨w.heap.size + 1 + 1, 1, none⟩ (.string k) = u at HS ⊢
              have f1 := HS.out.coder.c1
              have f2 := HS.out.coder.c2
              have z1 := HS.out.coder.free 1
              have z2 := HS.out.coder.free 2
              have b0 : u.cell? ⟨w.heap.size + 1 + 1, 0, none⟩ = some (.int .i64 t) := by simp [World.cell?, HS.out.r2]
              have b2 : u.cell? ⟨w.heap.size + 1 + 1, 2, none⟩ = some (.int .i64 kk) := by simp [World.cell?, HS.out.r2]
              clear g1 g2
              go_wp2_with fail
              go_region
              have hd := HS.out.done hold.out htb ht2 (by omega) hk.2
              generalize ((u.setCell ⟨p, 1, none⟩ (.int .i64 t)).setCell ⟨p, 2, none⟩ (.int .i64 kk)).drew = u2 at hd ⊢
              have HD := Lib.hid hd
              have HG := Lib.hid hg
              clear hd hg HS f1 f2 z1 z2 b0 b2
              go_wp2_with (first
                | ((with_reducible refine at_list ?_); refine wpList_load_row rfl 34 (.tmp 9) rfl (w.heap.size + 1 + 1) rfl 34 _ (0, 0) _ HD.out.r2 Try.underlying34 rfl sizeRec ?_)
                | ((with_reducible refine at_list ?_); refine wpList_store_row rfl 34 (.tmp 6) (.tmp 98) rfl w.heap.size _ zr 34 rfl rfl HD.out.r0 rfl sizeRec (by kernel_rfl) ?_)
                | ((with_reducible refine at_list ?_); refine wpList_store_row rfl 37 (.tmp 8) (.tmp 100) rfl (w.heap.size + 1) _ zf 37 rfl rfl ((setRow_other _ _ _ _ (by omega)).trans HD.out.f0) rfl sizeFault (by kernel_rfl) ?_))
              try simp only [Exit.inBlock, Exit.then, Exit.jump]
              refine bodyPost_ret_by (v := .tuple #[.agg #[.int .i64 t, .string k, .int .i64 kk, .int .i64 v], .int .i64 tt, .agg #[.int .i64 0, .int .i64 0]]) ?_ rfl (GetSt.post (r := ⟨t, k, kk, v⟩) HD.out hold.out HG.out _ _)
              have e1 := run_loadVar_row (P := Try.prog) _ w.heap.size 34 34 _ (0, 0) _ ((setRow_other _ (w.heap.size + 1) w.heap.size #[.int .i64 0, .int .i64 0] (by omega)).trans (setRow_heap u2 _ _ #[.int .i64 t, .string k, .int .i64 kk, .int .i64 v] _ _ HD.out.r0)) Try.underlying34 rfl sizeRec
              have e2 := run_loadVar_row (P := Try.prog) _ (w.heap.size + 1) 37 37 _ (0, 0) _ (setRow_heap (u2.setRow w.heap.size #[.int .i64 t, .string k, .int .i64 kk, .int .i64 v]) (w.heap.size + 1) _ #[.int .i64 0, .int .i64 0] _ _ ((setRow_other _ _ _ _ (by omega)).trans HD.out.f0)) Try.underlying37 rfl sizeFault
              exact results_ctc_of (p := 6) (q := 8) (u := 7) (ty := 34) (ty2 := 37) rfl rfl rfl e1 e2
  · intro a' w' hJ
    rw [HJ.out] at hJ
    obtain ⟨e, x, S', u, rfl, hJ⟩ := hJ
    have HK := Lib.hid hJ
    clear hJ H HJ hread d1 d2 hways
    dsimp only
    go_wp2_with (first
      | ((with_reducible refine at_list ?_); refine wpList_store_row rfl 34 (.tmp 6) (.tmp 101) rfl w.heap.size _ zr 34 rfl rfl HK.out.r0 rfl sizeRec (by kernel_rfl) ?_)
      | ((with_reducible refine at_list ?_); refine wpList_store_row rfl 37 (.tmp 8) (.tmp 104) rfl (w.heap.size + 1) _ zf 37 rfl rfl ((setRow_other _ _ _ _ (by omega)).trans HK.out.f0) rfl sizeFault (by kernel_rfl) ?_))
    simp only [Exit.jump]
    refine bodyPost_ret_by (v := .tuple #[.agg #[.int .i64 0, .string ByteArray.empty, .int .i64 0, .int .i64 0], .int .i64 0, .agg #[.int .i64 e, .int .i64 x]]) ?_ rfl (getPost_bad HK.out hold.out _ _)
    have e1 := run_loadVar_row (P := Try.prog) _ w.heap.size 34 34 _ (0, 0) _ ((setRow_other _ (w.heap.size + 1) w.heap.size #[.int .i64 e, .int .i64 x] (by omega)).trans (setRow_heap w' _ _ #[.int .i64 0, .string ByteArray.empty, .int .i64 0, .int .i64 0] _ _ HK.out.r0)) Try.underlying34 rfl sizeRec
    have e2 := run_loadVar_row (P := Try.prog) _ (w.heap.size + 1) 37 37 _ (0, 0) _ (setRow_heap (w'.setRow w.heap.size #[.int .i64 0, .string ByteArray.empty, .int .i64 0, .int .i64 0]) (w.heap.size + 1) _ #[.int .i64 e, .int .i64 x] _ _ ((setRow_other _ _ _ _ (by omega)).trans HK.out.f0)) Try.underlying37 rfl sizeFault
    exact results_ctc_of (p := 6) (q := 8) (u := 7) (ty := 34) (ty2 := 37) rfl rfl rfl e1 e2
end Go.Proofs.Ytipiohkpdkandaa
