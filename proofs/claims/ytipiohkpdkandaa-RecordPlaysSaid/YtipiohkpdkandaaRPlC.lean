/-
  A list of ops as an argument; any op on both sides. Conditions: none.
  The walk of the law RecordPlays. Conditions: none.
  The law RecordPlays: its first statement, out of its walk. Conditions: none.
-/
import Derived.Test.YtipiohkpdkandaaRPlB
import Derived.Test.YtipiohkpdkandaaRecArg
import Derived.Deep.Slices
import Derived.Deep.Fields
import Derived.Test.YtipiohkpdkandaaRows
import Derived.Test.YtipiohkpdkandaaOpen
import Derived.JoinedCond
namespace Go.Proofs.Ytipiohkpdkandaa
set_option linter.unusedVariables false
set_option linter.unusedSimpArgs false
open Go.RowKit Go.ChangeShapes Go.WideShapes Go.Deep

/-- A slice argument of ops. -/
structure ROpsArg (w : World) (A : Option Addr) (n c : Nat) (l : List ROp) : Prop where
  len : l.length = n
  cells : ∀ (i : Nat) (r : ROp), l[i]? = some r → ∃ b o, A = some ⟨b, o, none⟩ ∧ ∀ (j : Nat) (v : Value), r.cells[j]? = some v → w.cell? ⟨b, o + (8 * i + j), none⟩ = some v
  ok : ∀ r ∈ l, ROpOk w.heap.size w r
  room : n * 88 ≤ 140737488351232
  cap : n ≤ c
theorem ROpsArg.at {W : World} {A : Option Addr} {n c : Nat} {l : List ROp} (ra : ROpsArg W A n c l) {i : Nat} (hi : i < n) :
    ∃ (b o : Nat) (r : ROp), A = some ⟨b, o, none⟩ ∧ ROpOk W.heap.size W r ∧ ∀ w, Below W.heap.size W w → w.cell? ⟨b, o + i * 8, none⟩ = some (.int .i64 r.on) ∧ w.cell? ⟨b, o + i * 8 + 1, none⟩ = some (.int .i64 r.act) ∧ w.cell? ⟨b, o + i * 8 + 2, none⟩ = some (.int .i64 r.rc.tick) ∧ w.cell? ⟨b, o + i * 8 + 3, none⟩ = some (.string r.rc.key) ∧
      w.cell? ⟨b, o + i * 8 + 4, none⟩ = some (.int .i64 r.rc.cost) ∧ w.cell? ⟨b, o + i * 8 + 5, none⟩ = some (.int .i64 r.rc.verdict) ∧ w.cell? ⟨b, o + i * 8 + 6, none⟩ = some (.slice r.A r.n r.k) ∧ w.cell? ⟨b, o + i * 8 + 7, none⟩ = some (.int .i64 r.frm) := by
  have hl := ra.len
  obtain ⟨r, hr⟩ : ∃ r, l[i]? = some r := ⟨_, List.getElem?_eq_getElem (by omega)⟩
  obtain ⟨b, o, rfl, h⟩ := ra.cells i r hr
  refine ⟨b, o, r, rfl, ra.ok r (List.mem_of_getElem? hr), fun w hb => ?_⟩
  have key : ∀ j v, r.cells[j]? = some v → w.cell? ⟨b, o + i * 8 + j, none⟩ = some v := fun j v hj => by
    have h1 := h j v hj
    rw [show o + (8 * i + j) = o + i * 8 + j by omega] at h1
    exact (hb.cell (p := ⟨b, o + i * 8 + j, none⟩) (World.block_lt_of_cell? W _ h1)).trans h1
  exact ⟨key 0 _ rfl, key 1 _ rfl, key 2 _ rfl, key 3 _ rfl, key 4 _ rfl, key 5 _ rfl, key 6 _ rfl, key 7 _ rfl⟩
theorem spot_none6 {w : World} {ad : Addr} {v : Value} (h : w.cell? (ad.add 0) = some v) : ad.spot = none := by
  obtain ⟨b, off, spot⟩ := ad
  cases spot with
  | none => rfl
  | some s =>
    unfold Addr.add World.cell? at h
    simp at h
    split at h <;> simp_all
theorem ropBytes {W : World} {A : Option Addr} {n cp : Nat} {l : List Int} (ra : IntsArg .u8 1 W A n cp l) (w : World) (hb : Below W.heap.size W w) : BytesIn w A n cp l :=
  ⟨ra.rd.below hb (Nat.le_refl _), fun x hx => wf_u8_bd (ra.wf x hx), ra.cap, by have := ra.room; omega⟩
theorem weightsAll_mem6 {H : Type} {P : Program} {e : TypeId} : ∀ {l : List (DataW H)} {d : DataW H}, d ∈ l → ∀ n ∈ d.weights P e, n ∈ DataW.weightsAll P e l
  | d' :: r, d, hd, n, hn => by
    simp only [DataW.weightsAll, List.mem_append]
    rcases List.mem_cons.1 hd with rfl | h
    · exact .inl hn
    · exact .inr (weightsAll_mem6 h n hn)
section
variable {H : Type} {enc : TypeId × Value → H} {P : Program} {W : World} {base : Nat} {held : Bool} {ts : List TypeId} {ds : List (DataW H)}
set_option maxRecDepth 100000 in
theorem open_rops_arg {a : Option Addr} {len cap : Nat} {d : DataW H} {ps : List MemPlace} {j : Nat}
    (hsz : (DataW.weightsEach Try.prog ts ds).all (· ≤ reachBytes) = true) (ht : ts[j]? = some 86) (hd : ds[j]? = some d)
    (h : DataW.Trod enc Try.prog W base (fun _ => true) held 86 (.slice a len cap) d ps) : ∃ l, ROpsArg W a len cap l := by
  have hu := Try.underlying86
  have hC : Try.prog.cellsOf 95 = 8 := by kernel_rfl
  have hB : Try.prog.bytesOf 95 = 88 := by kernel_rfl
  obtain ⟨fuel, hf⟩ := h
  rcases open_slice hu hf with ⟨h0, _⟩ | ⟨ad, ln, cp, m, n, D, Pl, hcs, hb, hl, hm, hmm, hx, hi⟩
  · simp [Value.cells] at h0
    obtain ⟨rfl, rfl, rfl⟩ := h0
    exact ⟨[], rfl, fun i r h => by simp at h, fun r h => by simp at h, by omega, Nat.le_refl _⟩
  · simp [Value.cells] at hcs
    obtain ⟨rfl, rfl, rfl⟩ := hcs
    simp only [if_true] at hmm
    subst hmm
    obtain ⟨hx, _⟩ := Prod.mk.inj hx
    subst hx
    have z := sized_slice hsz ht hd hu
    rw [hB] at z
    have hlz : len ≤ ((List.range len).map D).length + ((List.range (m - len)).map fun j => D (len + j)).length := by simp
    have hwt : ∀ i, i < m → ∀ x ∈ (D i).weights Try.prog 95, x ≤ reachBytes := by
      intro i him x hx
      refine of_decide_eq_true (List.all_eq_true.1 hsz _ (DataW.weights_mem_each ht hd _ ?_))
      simp only [DataW.weights, hu, List.mem_cons, List.mem_append]
      by_cases hil : i < len
      · exact .inr (.inl (weightsAll_mem6 (List.mem_map.2 ⟨i, List.mem_range.2 hil, rfl⟩) _ hx))
      · exact .inr (.inr (weightsAll_mem6 (List.mem_map.2 ⟨i - len, List.mem_range.2 (by omega), by rw [show len + (i - len) = i by omega]⟩) _ hx))
    have key : ∀ i, i < m → ∃ r : ROp, ROpOk W.heap.size W r ∧ ∀ (k : Nat) (v : Value), r.cells[k]? = some v → W.cell? (ad.add (8 * i + k)) = some v := by
      intro i him
      obtain ⟨cs', hc, ht'⟩ := hi i him
      rw [hC] at hc
      obtain ⟨ys, n', hn', hy, hlen, hyl, hg⟩ := DataW.trod_struct Try.underlying95 ht'
      obtain ⟨_, hcl, hat⟩ := World.cells?_some hc
      match cs', hcl with
      | [c0, c1, c2, c3, c4, c5, c6, c7], _ =>
        match ys, hyl with
        | [y0, y1, y2, y3, y4], _ =>
          have g0 := hg 0 _ rfl
          have g1 := hg 1 _ rfl
          have g2 := hg 2 _ rfl
          have g3 := hg 3 _ rfl
          have g4 := hg 4 _ rfl
          have k1 : Try.prog.cellsOf 3 = 1 := by kernel_rfl
          have k2 : Try.prog.cellsOf 9 = 1 := by kernel_rfl
          have k3 : Try.prog.cellsOf 34 = 4 := by kernel_rfl
          have k4 : Try.prog.cellsOf 25 = 1 := by kernel_rfl
          simp [k1, k2, k3, k4] at g0 g1 g2 g3 g4
          obtain ⟨a0, e0, _, _⟩ := DataW.trod_int Try.underlying3 g0
          obtain ⟨a1, e1, _, _⟩ := DataW.trod_int Try.underlying3 g1
          obtain ⟨a4, e4, _, _⟩ := DataW.trod_int Try.underlying3 g4
          obtain ⟨zs, n2, hn2, hz, hlen2, hzl, hg2⟩ := DataW.trod_struct Try.underlying34 g2
          match zs, hzl with
          | [x0, x1, x2, x3], _ =>
            have q0 := hg2 0 _ rfl
            have q1 := hg2 1 _ rfl
            have q2 := hg2 2 _ rfl
            have q3 := hg2 3 _ rfl
            simp [k1, k2] at q0 q1 q2 q3
            obtain ⟨b0, f0, _, _⟩ := DataW.trod_int Try.underlying3 q0
            obtain ⟨b1, f1, _, hs⟩ := DataW.trod_string Try.underlying9 q1
            obtain ⟨b2, f2, _, _⟩ := DataW.trod_int Try.underlying3 q2
            obtain ⟨b3, f3, _, _⟩ := DataW.trod_int Try.underlying3 q3
            simp only [List.cons.injEq, and_true] at e0 e1 e4 f0 f1 f2 f3
            subst e0; subst e1; subst e4; subst f0; subst f1; subst f2; subst f3
            have hcsl : ∃ (aa : Option Addr) (l1 c1 : Nat), c6 = .slice aa l1 c1 := by
              rcases open_slice Try.underlying25 g3 with ⟨h0, _⟩ | ⟨ad3, ln3, cp3, _, _, _, _, hcs3, _⟩
              · simp at h0; exact ⟨_, _, _, h0⟩
              · simp at hcs3; exact ⟨_, _, _, hcs3⟩
            obtain ⟨aa, l1, c1, rfl⟩ := hcsl
            obtain ⟨hy, _⟩ := Prod.mk.inj hy
            have hsz1 : (DataW.weightsEach Try.prog [25] [y3.1]).all (· ≤ reachBytes) = true := by
              refine List.all_eq_true.2 (fun x hx => decide_eq_true ?_)
              simp only [DataW.weightsEach, List.append_nil] at hx
              refine hwt i him x ?_
              rw [hy]
              simp only [DataW.weights, Try.underlying95]
              exact DataW.weights_mem_each (j := 3) (t := 25) rfl rfl x hx
            obtain ⟨L, hL⟩ := open_ints_arg (k := .u8) (B := 1) hsz1 (j := 0) (t := 25) rfl rfl Try.underlying25 Try.underlying5 (by kernel_rfl) (by kernel_rfl) (a := aa) (len := l1) (cap := c1) (ps := y3.2) ⟨_, g3⟩
            refine ⟨⟨a0, a1, ⟨b0, b1, b2, b3⟩, aa, l1, c1, L, a4⟩, ⟨hs, fun w hb => ropBytes hL w hb, by have := hL.room; simpa using this⟩, fun k v hk => ?_⟩
            have hk8 : k < 8 := by have := (List.getElem?_eq_some_iff.1 hk).1; simpa [ROp.cells] using this
            have h1 := hat k hk8
            rw [Go.Deep.add_add, Nat.mul_comm] at h1
            rw [h1]
            exact hk
    have pick : ∀ i, ∃ r : ROp, i < m → ROpOk W.heap.size W r ∧ ∀ (k : Nat) (v : Value), r.cells[k]? = some v → W.cell? (ad.add (8 * i + k)) = some v := fun i => by
      by_cases him : i < m
      · obtain ⟨r, h⟩ := key i him
        exact ⟨r, fun _ => h⟩
      · exact ⟨⟨0, 0, ⟨0, ByteArray.empty, 0, 0⟩, none, 0, 0, [], 0⟩, fun h => absurd h him⟩
    obtain ⟨f, hfk⟩ : ∃ f : Nat → ROp, ∀ i, i < m → ROpOk W.heap.size W (f i) ∧ ∀ (k : Nat) (v : Value), (f i).cells[k]? = some v → W.cell? (ad.add (8 * i + k)) = some v := ⟨fun i => Classical.choose (pick i), fun i => Classical.choose_spec (pick i)⟩
    refine ⟨(List.range len).map f, by simp, fun i r hr => ?_, fun r hr => ?_, Nat.le_trans (Nat.mul_le_mul_right _ hlz) z, hl⟩
    · rw [List.getElem?_map, Option.map_eq_some_iff] at hr
      obtain ⟨i', hi', rfl⟩ := hr
      obtain ⟨hlt, hii⟩ := List.getElem?_eq_some_iff.1 hi'
      simp at hii hlt
      subst hii
      have hc := (hfk i (by omega)).2
      have hsp : ad.spot = none := by exact spot_none6 ((hfk 0 (by omega)).2 0 _ rfl)
      obtain ⟨b, o, s⟩ := ad
      simp only at hsp
      subst hsp
      refine ⟨b, o, rfl, fun j v hj => ?_⟩
      have h1 := hc j v hj
      have e : (⟨b, o, none⟩ : Addr).add (8 * i + j) = ⟨b, o + (8 * i + j), none⟩ := by unfold Addr.add; split <;> simp_all
      rw [e] at h1
      exact h1
    · obtain ⟨i, hi', rfl⟩ := List.mem_map.1 hr
      exact (hfk i (by simp at hi'; omega)).1
end
theorem rdoes_any {B : Nat} {W w : World} {o : Nat} {N : Int} (h : RPlays B W w o N) (hB : B ≤ W.heap.size) (hN : N ≤ 4611686018427387903) (r : ROp) (hr : ROpOk B W r) :
    Calls Try.prog 41 #[.pointer (some ⟨o, 0, none⟩), .agg #[.int .i64 r.on, .int .i64 r.act, .int .i64 r.rc.tick, .string r.rc.key, .int .i64 r.rc.cost, .int .i64 r.rc.verdict, .slice r.A r.n r.k, .int .i64 r.frm]] w (RDoesIs B W o (N + 1)) := by
  obtain ⟨a, ha, hand⟩ := and_one r.on
  obtain ⟨p, x, c, S, q, y, e, T, A, n, k, l, h2⟩ := h.at ha
  obtain ⟨on, act, rc, C, m, j, L, frm⟩ := r
  obtain ⟨k1, k2, k3⟩ := hr
  dsimp only at hand k1 k2 k3 ⊢
  by_cases e0 : act = 0
  · subst e0; exact rdoes_put h2 ha hB hN on hand rc frm k1
  by_cases e1 : act = 1
  · subst e1; exact rdoes_get h2 ha hB hN on hand rc frm k2 k3
  by_cases e2 : act = 2
  · subst e2; exact rdoes_last h2 ha hB hN on hand rc frm
  by_cases e3 : act = 3
  · subst e3; exact rdoes_clone h2 ha hB hN on hand rc frm
  exact rdoes_none h2 ha hB hN on hand rc frm act (by simpa using e0) (by simpa using e1) (by simpa using e2) (by simpa using e3)
end Go.Proofs.Ytipiohkpdkandaa
namespace Go.Proofs.Ytipiohkpdkandaa
set_option linter.unusedVariables false
set_option linter.unusedSimpArgs false
open Go.RowKit

theorem RPlays.bel {B : Nat} {W w : World} {o : Nat} {N : Int} (h : RPlays B W w o N) : Below B W w := by
  obtain ⟨a, p, x, c, S, q, y, e, T, A, n, k, l, ha, h⟩ := h
  exact h.bel
/-- The world at the beginning. -/
theorem rplays_new {B : Nat} {W w1 w2 w3 w4 w5 : World} {c : CC} {p x q y : Nat} (hB : B ≤ W.heap.size) (hb : Below B W w1) (hd : CoderNew w1 c p w2) (hr : RCoderNew w2 c 0 x w3)
    (hq : CoderNew w3 c q w4) (hy : RCoderNew w4 c 0 y w5) :
    RPlays B W (w5.alloc (.cells #[ptr p, ptr q, ptr x, ptr y, .slice none 0 0] 92)) w5.heap.size 0 := by
  obtain ⟨S1, d1, d2, d3⟩ := hd
  obtain ⟨S2, r1, r2, r3⟩ := hr
  obtain ⟨S3, q1, q2, q3⟩ := hq
  obtain ⟨S4, y1, y2, y3⟩ := hy
  have z0 := hb.size
  have z1 := d3.size
  have z2 := r3.size
  have z3 := q3.size
  have z4 := y3.size
  have hA : Below w5.heap.size w5 (w5.alloc (.cells #[ptr p, ptr q, ptr x, ptr y, .slice none 0 0] 92)) := (Below.refl _ _).alloc (Nat.le_refl _) _
  have l1 : ∀ b, S1 b → b < w2.heap.size := fun b h => d1.lt h
  have l2 : ∀ b, S2 b → b < w3.heap.size := fun b h => r1.lt h
  have l3 : ∀ b, S3 b → b < w4.heap.size := fun b h => q1.lt h
  have l4 : ∀ b, S4 b → b < w5.heap.size := fun b h => y1.lt h
  have k1 := (((d1.below r3).below q3).below y3).below hA
  have k2 := (((r1.below q3).below y3).below hA)
  have k3 := (q1.below y3).below hA
  have k4 := y1.below hA
  refine ⟨0, p, x, c, fun b => S1 b ∨ S2 b, q, y, c, fun b => S3 b ∨ S4 b, none, 0, 0, [], by decide, heap_alloc_new w5 _, ⟨S1, S2, k1, k2, fun b h1 h2 => by have := l1 b h1; have := r2 b h2; omega, fun _ => Iff.rfl⟩,
    ⟨S3, S4, k3, k4, fun b h1 h2 => by have := l3 b h1; have := y2 b h2; omega, fun _ => Iff.rfl⟩, ?_, ?_, by omega, ?_, ⟨Row.nil _ _, fun z hz => by simp at hz, Nat.le_refl _, by omega, fun g hg => by cases hg⟩⟩
  · rintro b (h | h)
    · have := d2 b h; have := l1 b h
      exact ⟨by omega, by omega, by rintro (h3 | h3); have := q2 b h3; omega; have := y2 b h3; omega⟩
    · have := r2 b h; have := l2 b h
      exact ⟨by omega, by omega, by rintro (h3 | h3); have := q2 b h3; omega; have := y2 b h3; omega⟩
  · rintro b (h | h)
    · have := q2 b h; have := l3 b h
      exact ⟨by omega, by omega⟩
    · have := y2 b h; have := l4 b h
      exact ⟨by omega, by omega⟩
  · exact hb.trans ((d3.mono (by omega)).trans ((r3.mono (by omega)).trans ((q3.mono (by omega)).trans ((y3.mono (by omega)).trans (hA.mono (by omega))))))

set_option maxRecDepth 100000 in
set_option maxHeartbeats 8000000 in
theorem recordPlays_walk (W : World) (P : Pol) (A : Option Addr) (n c : Nat) (l : List ROp) (ra : ROpsArg W A n c l) :
    Calls Try.prog 16 #[.agg P.cells.toArray, .slice A n c] W fun e W' => e = .returned (.bool true) ∧ Below W.heap.size W W' := by
  obtain ⟨W2, hW2⟩ : ∃ W2, W.alloc (.cells P.cells.toArray 23) = W2 := ⟨_, rfl⟩
  have hb2 : Below W.heap.size W W2 := by rw [← hW2]; exact (Below.refl _ _).alloc (Nat.le_refl _) _
  have hz2 : W.heap.size < W2.heap.size := by rw [← hW2]; simp
  have hx1 : W2.heap[W.heap.size]? = some (.cells P.cells.toArray 23 (0, 0)) := by rw [← hW2]; exact heap_alloc_new W _
  have HX := Lib.hid (And.intro hb2 (And.intro hz2 hx1))
  have aw := awake6_any W2
  have hpsz : (Try.prog.info? 23).map (·.size) = some 10 := by kernel_rfl
  have HZ := Lib.hid hpsz
  have hroom := ra.room
  have RA := Lib.hid ra
  clear hb2 hz2 hx1 hpsz ra
  by_cases hok : P.ok
  · have hn1 := fun w => recNew_yes w P hok
    have hn2 := fun w => refCoder_yes w P hok
    unfold NewPost at hn1
    unfold RNewPost at hn2
    obtain ⟨cc, hcc⟩ : ∃ cc : CC, (⟨⟨P.slots.toNat, [], []⟩, 0, 0⟩ : CC) = cc := ⟨_, rfl⟩
    simp only [hcc] at hn1 hn2
    clear hok hcc
    go_enter Try.func16, Try.ntmps16
    go_upto_region 1 with fail
    clear hW2
    go_wp2_with fail
    refine aw.mono ?_
    rintro e w1 ⟨rfl, b1⟩
    have hl1 := (b1.block W.heap.size HX.out.2.1).trans HX.out.2.2
    have HL := Lib.hid (And.intro hl1 (HX.out.1.trans (b1.mono (Nat.le_of_lt HX.out.2.1))))
    clear aw b1 hl1
    go_wp2_with ((with_reducible refine at_list ?_); refine wpList_load_row rfl 23 (.tmp 2) rfl W.heap.size rfl 23 P.cells.toArray (0, 0) _ HL.out.1 Try.underlying23 rfl HZ.out ?_)
    refine (hn1 _).mono ?_
    rintro e w2 ⟨p, rfl, hd⟩
    have HD := Lib.hid hd
    have hl2 : w2.heap[W.heap.size]? = some (.cells P.cells.toArray 23 (0, 0)) := by
      obtain ⟨S1, d1, d2, d3⟩ := hd
      exact (d3.block W.heap.size ((Array.getElem?_eq_some_iff.1 HL.out.1).1)).trans HL.out.1
    have HL2 := Lib.hid hl2
    clear hn1 hd hl2
    go_wp2_with ((with_reducible refine at_list ?_); refine wpList_load_row rfl 23 (.tmp 2) rfl W.heap.size rfl 23 P.cells.toArray (0, 0) _ HL2.out Try.underlying23 rfl HZ.out ?_)
    refine (hn2 _).mono ?_
    rintro e w3 ⟨x, rfl, hx⟩
    have hc1 : Calls Try.prog 20 #[.pointer (some ⟨p, 0, none⟩)] w3 (ClonePost w3 cc) := by
      obtain ⟨S1, d1, d2, d3⟩ := HD.out
      obtain ⟨S2, r1, r2, r3⟩ := hx
      exact recClone_any (d1.below r3)
    have HXX := Lib.hid hx
    clear hn2 hx
    go_wp2_with fail
    refine hc1.mono ?_
    rintro e w4 ⟨q, rfl, hq⟩
    have hc2 : Calls Try.prog 40 #[.pointer (some ⟨x, 0, none⟩)] w4 (RClonePost w4 cc 0) := by
      obtain ⟨S2, r1, r2, r3⟩ := HXX.out
      obtain ⟨S3, q1, q2, q3⟩ := hq
      exact refCoderClone_any (r1.below q3)
    have HQ := Lib.hid hq
    clear hc1 hq
    go_wp2_with fail
    refine hc2.mono ?_
    rintro e w5 ⟨y, rfl, hy⟩
    have hp : RPlays W.heap.size W (w5.alloc (.cells #[ptr p, ptr q, ptr x, ptr y, .slice none 0 0] 92)) w5.heap.size 0 := rplays_new (Nat.le_refl _) HL.out.2 HD.out HXX.out HQ.out hy
    unfold ptr at hp
    have HP0 := Lib.hid hp
    clear hc2 hy hp
    go_wp2_with fail
    go_loopg [11] n (fun gk v11 wr => ∃ i : Nat, v11 = .int .i64 i ∧ gk + i = n ∧ RPlays W.heap.size W wr w5.heap.size i)
    case atStart => exact ⟨0, rfl, by omega, HP0.out⟩
    case round =>
      clear HP0
      obtain ⟨i, rfl, hi, hp⟩ := hrel
      by_cases hin : i < n
      · have hini : (i : Int) < n := by omega
        obtain ⟨b, ob, x', rfl, hxok, hcell⟩ := RA.out.at hin
        obtain ⟨g0, g1, g2, g3, g4, g5, g6, g7⟩ := hcell wr hp.bel
        have hdoes := rdoes_any hp (Nat.le_refl _) (by omega) x' hxok
        clear hcell hp hxok
        go_wp2_with fail
        refine hdoes.mono ?_
        rintro e w7 ⟨rfl, hp7⟩
        have HP := Lib.hid hp7
        clear hdoes hp7 g0 g1 g2 g3 g4 g5 g6 g7
        go_wp2
        go_roundg (n - i - 1)
        case measure => omega
        case rel => exact ⟨i + 1, by go_num, by omega, HP.out⟩
      · have hini : (n : Int) ≤ i := by omega
        have HB := Lib.hid hp.bel
        clear hp
        go_wp2
        go_ret
        exact ⟨rfl, HB.out⟩
  · have hn1 := fun w => recNew_no w P hok
    have hn2 := fun w => refCoder_no w P hok
    unfold NewBad at hn1 hn2
    clear hok
    go_enter Try.func16, Try.ntmps16
    go_upto_region 1 with fail
    clear hW2
    go_wp2_with fail
    refine aw.mono ?_
    rintro e w1 ⟨rfl, b1⟩
    have hl1 := (b1.block W.heap.size HX.out.2.1).trans HX.out.2.2
    have HL := Lib.hid (And.intro hl1 (HX.out.1.trans (b1.mono (Nat.le_of_lt HX.out.2.1))))
    clear aw b1 hl1
    go_wp2_with ((with_reducible refine at_list ?_); refine wpList_load_row rfl 23 (.tmp 2) rfl W.heap.size rfl 23 P.cells.toArray (0, 0) _ HL.out.1 Try.underlying23 rfl HZ.out ?_)
    refine (hn1 _).mono ?_
    rintro e w2 ⟨rfl, b2⟩
    have hl2 := (b2.block W.heap.size ((Array.getElem?_eq_some_iff.1 HL.out.1).1)).trans HL.out.1
    have HL2 := Lib.hid (And.intro hl2 (HL.out.2.trans (b2.mono HL.out.2.size)))
    clear hn1 b2 hl2
    go_wp2_with ((with_reducible refine at_list ?_); refine wpList_load_row rfl 23 (.tmp 2) rfl W.heap.size rfl 23 P.cells.toArray (0, 0) _ HL2.out.1 Try.underlying23 rfl HZ.out ?_)
    refine (hn2 _).mono ?_
    rintro e w3 ⟨rfl, b3⟩
    have HB := Lib.hid (HL2.out.2.trans (b3.mono HL2.out.2.size))
    clear hn2 b3
    go_wp2
    go_ret
    exact ⟨rfl, HB.out⟩
end Go.Proofs.Ytipiohkpdkandaa
namespace Go.Proofs.Ytipiohkpdkandaa.recordPlaysRow
open Go.ChangeShapes Go.WideShapes Go.ChangeAt Go.RowKit
set_option linter.unusedVariables false
theorem own : ownKnob Try.prog.godebug = none := by kernel_rfl
theorem laidOut : laidOutB Try.prog = true := by kernel_rfl
set_option maxRecDepth 100000 in
theorem lifted (os : Os) (started : os.Started) (H : Type) (enc : TypeId × Value → H) :
    ReturnsInHanded {} Try.checked os 16 .any (Rows.recordPlaysSpec.pre6 enc Try.prog Try.f16 Rows.recordPlaysRow.domain false) (Rows.recordPlaysSpec.post enc Try.prog Try.f16 false true false false) := by
  refine returnsInHanded_of_change_sized (C := Try.checked) own started (by kernel_rfl) Try.func16
    (ChangeSpec.witness6 (enc := enc) (C := Try.checked) false ⟨#[], #[.agg #[.int .i64 0, .int .i64 0, .int .i64 0, .int .i64 0, .int .i64 0, .int .i64 0, .int .i64 0, .int .i64 0, .int .i64 0, .int .i64 0], .slice none 0 0], []⟩ 8 (by kernel_rfl) (by kernel_rfl) (by kernel_rfl) (by kernel_rfl)) ?_
  intro W base args ds gs before hval0 hW hcnd hsz0 _
  have hsz : (DataW.weightsEach Try.prog (Try.f16.params.toList ++ Rows.recordPlaysSpec.plain.varTypes Try.prog) (ds ++ gs)).all (· ≤ reachBytes) = true := hsz0
  have hval : ∀ (j : Nat) t v, Try.f16.params[j]? = some t → args[j]? = some v → Value.okWide Try.prog W .any base t v := hval0
  have hW' := hW
  obtain ⟨p, q, hA0, hV, rfl, hfz, hnd⟩ := hW
  have hA : DataW.TrodAll enc Try.prog W 0 (fun _ => true) true Try.f16.params.toList args.toList ds p := hA0
  rw [Try.params16] at hA hval hsz
  obtain ⟨v0, vs0, d0, ds0, p0, q0, hargs, rfl, rfl, h0, r0⟩ := trodAll_cons hA
  obtain ⟨v1, vs1, d1, ds1, p1, q1, rfl, rfl, rfl, h1, r1⟩ := trodAll_cons r0
  obtain ⟨rfl, rfl, rfl⟩ := trodAll_nil r1
  obtain rfl : args = #[v0, v1] := by cases args; simp_all
  obtain ⟨rfl, rfl⟩ := trodVars_none hV
  have lt0 : ∀ x ∈ p0, x.block < W.heap.size := by obtain ⟨m, hm⟩ := h0; exact DataW.trod_lt m _ _ _ hm
  obtain ⟨l0, rfl⟩ := open_pol_arg (hval 0 23 v0 rfl rfl) h0
  obtain ⟨a1, len1, cap1, rfl⟩ := okWide_slice Try.underlying86 (hval 1 86 v1 rfl rfl)
  have lt1 : ∀ x ∈ p1, x.block < W.heap.size := by obtain ⟨m, hm⟩ := h1; exact DataW.trod_lt m _ _ _ hm
  obtain ⟨l1, w1⟩ := open_rops_arg hsz (j := 1) rfl rfl h1
  clear hA0 hval0 hsz0 hsz hval
  refine (recordPlays_walk W _ _ _ _ _ w1).mono fun e W' ⟨he, bel⟩ => ?_
  subst he
  exact ⟨_, rfl, _, _, _, [], _, [], hW', trodAll_mk1 (shut_bool Try.underlying4 _), (trodAll_cons_mk (Below.trod laidOut (by kernel_rfl) (of_decide_eq_true (by kernel_rfl)) h0 bel lt0) (trodAll_cons_mk (Below.trod laidOut (by kernel_rfl) (of_decide_eq_true (by kernel_rfl)) h1 bel lt1) trodAll_mk0)), rfl, bel.frame _, fun h => by cases h⟩
theorem over : Rows.recordPlaysRow.holds Try.pinned (OpenSpec.ofChange Rows.recordPlaysSpec) :=
  OpenClaim.holds_of_wide 16 Try.f16 rfl rfl rfl rfl rfl rfl rfl ⟨rfl, rfl, rfl, rfl, rfl⟩ rfl rfl rfl rfl rfl (by kernel_rfl) Try.func16 (by kernel_rfl)
    (of_decide_eq_true (by kernel_rfl)) (by unfold Func.isWrapper; first | (rw [if_pos (by decide +kernel)]; kernel_rfl) | (rw [if_neg (by decide +kernel)]; exact ⟨rfl, rfl⟩))
    (fun os started H enc _ => lifted os started H enc)
theorem proved : Rows.RecordPlaysSaid := over
end Go.Proofs.Ytipiohkpdkandaa.recordPlaysRow
namespace Go.Proofs.Ytipiohkpdkandaa
/-- The statement, under a short name, for the claim. -/
theorem recordPlays_holds : Rows.RecordPlaysSaid := recordPlaysRow.proved
#print axioms recordPlays_holds
end Go.Proofs.Ytipiohkpdkandaa
