/-
  The walk of the law DictPlays. Conditions: none.
-/
import Derived.Test.YtipiohkpdkandaaDDoes
import Derived.Deep.Slices
import Derived.Deep.Fields
namespace Go.Proofs.Ytipiohkpdkandaa
set_option linter.unusedVariables false
set_option linter.unusedSimpArgs false
open Go.RowKit Go.ChangeShapes Go.WideShapes Go.Deep

/-- A slice argument of ops. -/
structure DOpsArg (w : World) (A : Option Addr) (n c : Nat) (l : List DOp) : Prop where
  len : l.length = n
  cells : ∀ (i : Nat) (r : DOp), l[i]? = some r → ∃ b o, A = some ⟨b, o, none⟩ ∧ ∀ (j : Nat) (v : Value), r.cells[j]? = some v → w.cell? ⟨b, o + (4 * i + j), none⟩ = some v
  keys : ∀ r ∈ l, r.key.size ≤ maxLen
  room : n * 40 ≤ 140737488351232
  cap : n ≤ c
theorem DOpsArg.at {W : World} {A : Option Addr} {n c : Nat} {l : List DOp} (ra : DOpsArg W A n c l) {i : Nat} (hi : i < n) :
    ∃ (b o : Nat) (r : DOp), A = some ⟨b, o, none⟩ ∧ r.key.size ≤ maxLen ∧ ∀ w, Below W.heap.size W w → w.cell? ⟨b, o + i * 4, none⟩ = some (.int .i64 r.on) ∧ w.cell? ⟨b, o + i * 4 + 1, none⟩ = some (.int .i64 r.act) ∧ w.cell? ⟨b, o + i * 4 + 2, none⟩ = some (.string r.key) ∧ w.cell? ⟨b, o + i * 4 + 3, none⟩ = some (.int .i64 r.slot) := by
  have hl := ra.len
  obtain ⟨r, hr⟩ : ∃ r, l[i]? = some r := ⟨_, List.getElem?_eq_getElem (by omega)⟩
  obtain ⟨b, o, rfl, h⟩ := ra.cells i r hr
  refine ⟨b, o, r, rfl, ra.keys r (List.mem_of_getElem? hr), fun w hb => ?_⟩
  have key : ∀ j v, r.cells[j]? = some v → w.cell? ⟨b, o + i * 4 + j, none⟩ = some v := fun j v hj => by
    have h1 := h j v hj
    rw [show o + (4 * i + j) = o + i * 4 + j by omega] at h1
    exact (hb.cell (p := ⟨b, o + i * 4 + j, none⟩) (World.block_lt_of_cell? W _ h1)).trans h1
  exact ⟨key 0 _ rfl, key 1 _ rfl, key 2 _ rfl, key 3 _ rfl⟩
theorem spot_none5 {w : World} {ad : Addr} {v : Value} (h : w.cell? (ad.add 0) = some v) : ad.spot = none := by
  obtain ⟨b, off, spot⟩ := ad
  cases spot with
  | none => rfl
  | some s =>
    unfold Addr.add World.cell? at h
    simp at h
    split at h <;> simp_all
section
variable {H : Type} {enc : TypeId × Value → H} {P : Program} {W : World} {base : Nat} {held : Bool} {ts : List TypeId} {ds : List (DataW H)}
set_option maxRecDepth 100000 in
theorem open_ops_arg {a : Option Addr} {len cap : Nat} {d : DataW H} {ps : List MemPlace} {j : Nat}
    (hsz : (DataW.weightsEach Try.prog ts ds).all (· ≤ reachBytes) = true) (ht : ts[j]? = some 59) (hd : ds[j]? = some d)
    (h : DataW.Trod enc Try.prog W base (fun _ => true) held 59 (.slice a len cap) d ps) : ∃ l, DOpsArg W a len cap l := by
  have hu := Try.underlying59
  have hC : Try.prog.cellsOf 71 = 4 := by kernel_rfl
  have hB : Try.prog.bytesOf 71 = 40 := by kernel_rfl
  obtain ⟨fuel, hf⟩ := h
  rcases open_slice hu hf with ⟨h0, _⟩ | ⟨ad, ln, cp, m, n, D, Pl, hcs, hb, hl, hm, hmm, hx, hi⟩
  · simp [Value.cells] at h0
    obtain ⟨rfl, rfl, rfl⟩ := h0
    exact ⟨[], rfl, fun i r h => by simp at h, fun r h => by simp at h, by omega, Nat.le_refl _⟩
  · simp [Value.cells] at hcs
    obtain ⟨rfl, rfl, rfl⟩ := hcs
    simp only [if_true] at hmm
    subst hmm
    obtain ⟨hx, _⟩ := Prod.mk.inj hx
    subst hx
    have z := sized_slice hsz ht hd hu
    rw [hB] at z
    have hlz : len ≤ ((List.range len).map D).length + ((List.range (m - len)).map fun j => D (len + j)).length := by simp
    have key : ∀ i, i < m → ∃ r : DOp, r.key.size ≤ maxLen ∧ ∀ (k : Nat) (v : Value), r.cells[k]? = some v → W.cell? (ad.add (4 * i + k)) = some v := by
      intro i him
      obtain ⟨cs', hc, ht'⟩ := hi i him
      rw [hC] at hc
      obtain ⟨ys, n', hn', hy, hlen, hyl, hg⟩ := DataW.trod_struct Try.underlying71 ht'
      obtain ⟨_, hcl, hat⟩ := World.cells?_some hc
      match cs', hcl with
      | [c0, c1, c2, c3], _ =>
        match ys, hyl with
        | [y0, y1, y2, y3], _ =>
          have g0 := hg 0 _ rfl
          have g1 := hg 1 _ rfl
          have g2 := hg 2 _ rfl
          have g3 := hg 3 _ rfl
          have k1 : Try.prog.cellsOf 3 = 1 := by kernel_rfl
          have k2 : Try.prog.cellsOf 9 = 1 := by kernel_rfl
          simp [k1, k2] at g0 g1 g2 g3
          obtain ⟨a0, e0, _, _⟩ := DataW.trod_int Try.underlying3 g0
          obtain ⟨a1, e1, _, _⟩ := DataW.trod_int Try.underlying3 g1
          obtain ⟨a2, e2, _, hs⟩ := DataW.trod_string Try.underlying9 g2
          obtain ⟨a3, e3, _, _⟩ := DataW.trod_int Try.underlying3 g3
          simp only [List.cons.injEq, and_true] at e0 e1 e2 e3
          subst e0; subst e1; subst e2; subst e3
          refine ⟨⟨a0, a1, a2, a3⟩, hs, fun k v hk => ?_⟩
          have hk4 : k < 4 := by have := (List.getElem?_eq_some_iff.1 hk).1; simpa [DOp.cells] using this
          have h1 := hat k hk4
          rw [Go.Deep.add_add, Nat.mul_comm] at h1
          rw [h1]
          exact hk
    have pick : ∀ i, ∃ r : DOp, i < m → r.key.size ≤ maxLen ∧ ∀ (k : Nat) (v : Value), r.cells[k]? = some v → W.cell? (ad.add (4 * i + k)) = some v := fun i => by
      by_cases him : i < m
      · obtain ⟨r, h⟩ := key i him
        exact ⟨r, fun _ => h⟩
      · exact ⟨⟨0, 0, ByteArray.empty, 0⟩, fun h => absurd h him⟩
    obtain ⟨f, hfk⟩ : ∃ f : Nat → DOp, ∀ i, i < m → (f i).key.size ≤ maxLen ∧ ∀ (k : Nat) (v : Value), (f i).cells[k]? = some v → W.cell? (ad.add (4 * i + k)) = some v := ⟨fun i => Classical.choose (pick i), fun i => Classical.choose_spec (pick i)⟩
    refine ⟨(List.range len).map f, by simp, fun i r hr => ?_, fun r hr => ?_, Nat.le_trans (Nat.mul_le_mul_right _ hlz) z, hl⟩
    · rw [List.getElem?_map, Option.map_eq_some_iff] at hr
      obtain ⟨i', hi', rfl⟩ := hr
      obtain ⟨hlt, hii⟩ := List.getElem?_eq_some_iff.1 hi'
      simp at hii hlt
      subst hii
      have hc := (hfk i (by omega)).2
      have hsp : ad.spot = none := by exact spot_none5 ((hfk 0 (by omega)).2 0 _ rfl)
      obtain ⟨b, o, s⟩ := ad
      simp only at hsp
      subst hsp
      refine ⟨b, o, rfl, fun j v hj => ?_⟩
      have h1 := hc j v hj
      have e : (⟨b, o, none⟩ : Addr).add (4 * i + j) = ⟨b, o + (4 * i + j), none⟩ := by unfold Addr.add; split <;> simp_all
      rw [e] at h1
      exact h1
    · obtain ⟨i, hi', rfl⟩ := List.mem_map.1 hr
      exact (hfk i (by simp at hi'; omega)).1
end

section
variable {B : Nat} {W w w' : World} {o : Nat} {N : Int} {a p x : Nat} {d : DD} {S : Nat → Prop} {q y : Nat} {e : DD} {T : Nat → Prop}
theorem does_any (h : Two B W w o N a p x d S q y e T) (ha : a < 2) (hB : B ≤ W.heap.size) (hN : N ≤ 4611686018427387903) (r : DOp) (hm : r.key.size ≤ maxLen) :
    Calls Try.prog 34 #[.pointer (some ⟨o, 0, none⟩), .agg #[.int .i64 r.on, .int .i64 r.act, .string r.key, .int .i64 r.slot]] w (DoesIs B W o (N + 1)) := by
  obtain ⟨on, act, key, slot⟩ := r
  dsimp only at hm ⊢
  by_cases e0 : act = 0
  · subst e0; exact does_look h ha hB hN on slot key hm
  by_cases e1 : act = 1
  · subst e1; exact does_use h ha hB hN on slot key hm
  by_cases e2 : act = 2
  · subst e2; exact does_touch h ha hB hN on slot key hm
  by_cases e3 : act = 3
  · subst e3; exact does_keys h ha hB hN on slot key hm
  by_cases e4 : act = 4
  · subst e4; exact does_clone h ha hB hN on slot key hm
  exact does_none h ha hB hN on act slot key hm (by simpa using e0) (by simpa using e1) (by simpa using e2) (by simpa using e3) (by simpa using e4)
theorem Two.c4 (h : Two B W w o N a p x d S q y e T) : w.cell? ⟨o, 4, none⟩ = some (.int .i64 (a : Int)) := by
  rw [h.cell 4]
  unfold sides
  split <;> rfl
theorem Plays.open (h : Plays B W w o N) : ∃ a p0 x0 d0 S0 p1 x1 d1 S1, w.heap[o]? = some (.cells #[ptr p0, ptr p1, ptr x0, ptr x1, .int .i64 a] 69 (0, 0)) ∧ PairAt w p0 x0 d0 N S0 ∧ PairAt w p1 x1 d1 N S1 ∧ Below B W w := by
  obtain ⟨a, p, x, d, S, q, y, e, T, ha, h⟩ := h
  by_cases e0 : a = 0
  · exact ⟨a, p, x, d, S, q, y, e, T, by rw [h.head]; unfold sides; rw [if_pos e0], h.one, h.two, h.bel⟩
  · exact ⟨a, q, y, e, T, p, x, d, S, by rw [h.head]; unfold sides; rw [if_neg e0], h.two, h.one, h.bel⟩
end
/-- The world at the beginning. -/
theorem plays_new {B : Nat} {W w1 w2 w3 w4 : World} {r p x q y : Nat} (hB : B ≤ W.heap.size) (hb : Below B W w1) (hd : DictNew w1 ⟨r, [], []⟩ p w2) (hr : RefNew w2 ⟨r, [], []⟩ 0 x w3) {w5 : World}
    (hq : DictNew w3 ⟨r, [], []⟩ q w4) (hy : RefNew w4 ⟨r, [], []⟩ 0 y w5) :
    Plays B W (w5.alloc (.cells #[ptr p, ptr q, ptr x, ptr y, .int .i64 0] 69)) w5.heap.size 0 := by
  obtain ⟨S1, d1, d2, d3⟩ := hd
  obtain ⟨S2, r1, r2, r3⟩ := hr
  obtain ⟨S3, q1, q2, q3⟩ := hq
  obtain ⟨S4, y1, y2, y3⟩ := hy
  have z0 := hb.size
  have z1 := d3.size
  have z2 := r3.size
  have z3 := q3.size
  have z4 := y3.size
  have hA : Below w5.heap.size w5 (w5.alloc (.cells #[ptr p, ptr q, ptr x, ptr y, .int .i64 0] 69)) := (Below.refl _ _).alloc (Nat.le_refl _) _
  have l1 : ∀ b, S1 b → b < w2.heap.size := fun b h => d1.lt h
  have l2 : ∀ b, S2 b → b < w3.heap.size := fun b h => r1.lt h
  have l3 : ∀ b, S3 b → b < w4.heap.size := fun b h => q1.lt h
  have l4 : ∀ b, S4 b → b < w5.heap.size := fun b h => y1.lt h
  have k1 := (((d1.kept (Upd.of_below r3) (fun b h => by have := l1 b h; omega)).kept (Upd.of_below q3) (fun b h => by have := l1 b h; omega)).kept (Upd.of_below y3) (fun b h => by have := l1 b h; omega)).kept (Upd.of_below hA) (fun b h => by have := l1 b h; omega)
  have k2 := (((r1.below q3).below y3).below hA)
  have k3 := (q1.kept (Upd.of_below y3) (fun b h => by have := l3 b h; omega)).kept (Upd.of_below hA) (fun b h => by have := l3 b h; omega)
  have k4 := y1.below hA
  refine ⟨0, p, x, ⟨r, [], []⟩, fun b => S1 b ∨ S2 b, q, y, ⟨r, [], []⟩, fun b => S3 b ∨ S4 b, by decide, heap_alloc_new w5 _, ⟨S1, S2, k1, k2, fun b h1 h2 => by have := l1 b h1; have := r2 b h2; omega, fun _ => Iff.rfl⟩,
    ⟨S3, S4, k3, k4, fun b h1 h2 => by have := l3 b h1; have := y2 b h2; omega, fun _ => Iff.rfl⟩, ?_, ?_, by omega, ?_⟩
  · rintro b (h | h)
    · have := d2 b h; have := l1 b h
      exact ⟨by omega, by omega, by rintro (h3 | h3); have := q2 b h3; omega; have := y2 b h3; omega⟩
    · have := r2 b h; have := l2 b h
      exact ⟨by omega, by omega, by rintro (h3 | h3); have := q2 b h3; omega; have := y2 b h3; omega⟩
  · rintro b (h | h)
    · have := q2 b h; have := l3 b h
      exact ⟨by omega, by omega⟩
    · have := y2 b h; have := l4 b h
      exact ⟨by omega, by omega⟩
  · exact hb.trans ((d3.mono (by omega)).trans ((r3.mono (by omega)).trans ((q3.mono (by omega)).trans ((y3.mono (by omega)).trans (hA.mono (by omega))))))

set_option maxRecDepth 100000 in
set_option maxHeartbeats 8000000 in
theorem dictPlays_walk (W : World) (r : Int) (_w : (Lit.int .i64 r).wf = true) (A : Option Addr) (n c : Nat) (l : List DOp) (ra : DOpsArg W A n c l) :
    Calls Try.prog 8 #[.int .i64 r, .slice A n c] W fun e W' => e = .returned (.bool true) ∧ Below W.heap.size W W' := by
  have aw := awake_any W
  clear _w
  by_cases hr : r < 1 ∨ 64 < r
  · have hnew := fun w => new_no r w hr
    have hnew2 := fun w => refNew_no r w hr
    clear hr ra
    go_enter Try.func8, Try.ntmps8
    go_wp2_with fail
    refine aw.mono ?_
    rintro e w1 ⟨rfl, hb⟩
    clear aw
    go_wp2_with fail
    refine (hnew _).mono ?_
    rintro e w2 ⟨rfl, rfl⟩
    clear hnew
    go_wp2_with fail
    refine (hnew2 _).mono ?_
    rintro e w2 ⟨rfl, rfl⟩
    clear hnew2
    go_wp2
    go_ret
    exact ⟨by simp, hb⟩
  · obtain ⟨z, rfl⟩ := Int.eq_ofNat_of_zero_le (show 0 ≤ r by omega)
    have hq1 : 1 ≤ z := by omega
    have hq2 : z ≤ 64 := by omega
    have hroom := ra.room
    have RA := Lib.hid ra
    have hn1 := fun w => new_yes z w hq1 hq2
    have hn2 := fun w => refNew_yes z w hq1 hq2
    clear hr ra
    go_enter Try.func8, Try.ntmps8
    go_wp2_with fail
    refine aw.mono ?_
    rintro e w1 ⟨rfl, hb⟩
    have HB := Lib.hid hb
    clear aw hb
    go_wp2_with fail
    refine (hn1 _).mono ?_
    rintro e w2 ⟨p, rfl, hd⟩
    have HD := Lib.hid hd
    clear hn1 hd
    go_wp2_with fail
    refine (hn2 _).mono ?_
    rintro e w3 ⟨x, rfl, hx⟩
    have hc1 : Calls Try.prog 32 #[.pointer (some ⟨p, 0, none⟩)] w3 fun e w' => ∃ q, e = .returned (.pointer (some ⟨q, 0, none⟩)) ∧ DictNew w3 ⟨z, [], []⟩ q w' := by
      obtain ⟨S1, d1, d2, d3⟩ := HD.out
      obtain ⟨S2, r1, r2, r3⟩ := hx
      exact dclone (d1.kept (Upd.of_below r3) (fun b h => by have := d1.lt h; omega))
    have HX := Lib.hid hx
    clear hn2 hx
    go_wp2_with fail
    refine hc1.mono ?_
    rintro e w4 ⟨q, rfl, hq⟩
    have hc2 : Calls Try.prog 33 #[.pointer (some ⟨x, 0, none⟩)] w4 fun e w' => ∃ y, e = .returned (.pointer (some ⟨y, 0, none⟩)) ∧ RefNew w4 ⟨z, [], []⟩ 0 y w' := by
      obtain ⟨S2, r1, r2, r3⟩ := HX.out
      obtain ⟨S3, q1, q2, q3⟩ := hq
      exact refClone_any (r1.below q3)
    have HQ := Lib.hid hq
    clear hc1 hq
    go_wp2_with fail
    refine hc2.mono ?_
    rintro e w5 ⟨y, rfl, hy⟩
    have hp : Plays W.heap.size W (w5.alloc (.cells #[ptr p, ptr q, ptr x, ptr y, .int .i64 0] 69)) w5.heap.size 0 := plays_new (Nat.le_refl _) HB.out HD.out HX.out HQ.out hy
    unfold ptr at hp
    have HY := Lib.hid hy
    clear hc2 hy
    go_wp2_with fail
    go_loopg [11] n (fun gk v11 wr => ∃ i : Nat, v11 = .int .i64 i ∧ gk + i = n ∧ Plays W.heap.size W wr w5.heap.size i)
    case atStart => exact ⟨0, rfl, by omega, hp⟩
    case round =>
      clear hp
      obtain ⟨i, rfl, hi, hp⟩ := hrel
      by_cases hin : i < n
      · have hini : (i : Int) < n := by omega
        obtain ⟨b, ob, x', rfl, hxm, hcell⟩ := RA.out.at hin
        obtain ⟨a, p', x1, d', S, q', y', e', T, ha, h2⟩ := hp
        obtain ⟨g0, g1, g2, g3⟩ := hcell wr h2.bel
        obtain ⟨a', ha', hand⟩ := and_one x'.on
        have k4 := h2.c4
        have f4 := h2.free 4
        obtain ⟨p2, x2, d2, S2, q2, y2, e2, T2, h3⟩ := h2.setAt ha ha' (Nat.le_refl _)
        have HC := Lib.hid hcell
        have H3 := Lib.hid h3
        clear hcell h2 h3
        go_upto_region 13 with fail
        obtain ⟨w6, hw6⟩ : ∃ w6, wr.setCell ⟨w5.heap.size, 4, none⟩ (.int .i64 a') = w6 := ⟨_, rfl⟩
        rw [hw6]
        have h3 : Two W.heap.size W w6 w5.heap.size i a' p2 x2 d2 S2 q2 y2 e2 T2 := by rw [← hw6]; exact H3.out
        obtain ⟨g0', g1', g2', g3'⟩ := HC.out w6 h3.bel
        obtain ⟨a9, p0, x0, d0, S0, p9, x9, d9, S9, hh, _⟩ := (h3.plays ha').open
        have m0 : w6.cell? ⟨w5.heap.size, 0, none⟩ = some (.pointer (some ⟨p0, 0, none⟩)) := by simp [World.cell?, hh, ptr]
        have m1 : w6.cell? ⟨w5.heap.size, 1, none⟩ = some (.pointer (some ⟨p9, 0, none⟩)) := by simp [World.cell?, hh, ptr]
        have hdoes := does_any h3 ha' (Nat.le_refl _) (by omega) x' hxm
        clear hw6 g0 g1 g2 g3 k4 f4 hand hh h3
        go_wp2_with fail
        refine hdoes.mono ?_
        rintro e w7 ⟨rfl, hp7⟩
        have HP := Lib.hid hp7
        clear hdoes hp7 g0' g1' g2' g3' m0 m1
        go_wp2
        go_roundg (n - i - 1)
        case measure => omega
        case rel => exact ⟨i + 1, by go_num, by omega, HP.out⟩
      · obtain ⟨a9, p0, x0, d0, S0, p9, x9, d9, S9, hh, pa0, pa9, bel⟩ := hp.open
        have hw : Below wr.heap.size wr wr.drew := (Below.refl _ _).drew
        have m0 : wr.cell? ⟨w5.heap.size, 0, none⟩ = some (.pointer (some ⟨p0, 0, none⟩)) := by simp [World.cell?, hh, ptr]
        have m2 : wr.cell? ⟨w5.heap.size, 2, none⟩ = some (.pointer (some ⟨x0, 0, none⟩)) := by simp [World.cell?, hh, ptr]
        have htold : Calls Try.prog 35 #[.pointer (some ⟨p0, 0, none⟩), .pointer (some ⟨x0, 0, none⟩)] wr.drew fun e w' => e = .returned (.bool true) ∧ Below wr.heap.size wr w' := by
          obtain ⟨S1, S2, h1, h2, _⟩ := pa0
          refine (told_any (h1.kept (Upd.of_below hw) (fun b hb => by have := h1.lt hb; omega)) (h2.below hw) (by omega)).mono ?_
          rintro e w' ⟨rfl, hb⟩
          exact ⟨rfl, hw.trans hb⟩
        have HH := Lib.hid (And.intro hh (And.intro pa9 bel))
        have hini : (n : Int) ≤ i := by omega
        clear hh pa0 pa9 bel hp hw
        go_wp2_with fail
        go_still_tail 10, (by kernel_rfl)
        change wpList _ _ _ _ _ wr.drew
        clear m0 m2
        go_wp2_with fail
        refine htold.mono ?_
        rintro e w6 ⟨rfl, b6⟩
        have hh6 := (b6.block w5.heap.size (Array.getElem?_eq_some_iff.1 HH.out.1).1).trans HH.out.1
        have hw : Below w6.heap.size w6 w6.drew := (Below.refl _ _).drew
        have m1 : w6.cell? ⟨w5.heap.size, 1, none⟩ = some (.pointer (some ⟨p9, 0, none⟩)) := by simp [World.cell?, hh6, ptr]
        have m3 : w6.cell? ⟨w5.heap.size, 3, none⟩ = some (.pointer (some ⟨x9, 0, none⟩)) := by simp [World.cell?, hh6, ptr]
        have htold2 : Calls Try.prog 35 #[.pointer (some ⟨p9, 0, none⟩), .pointer (some ⟨x9, 0, none⟩)] w6.drew fun e w' => e = .returned (.bool true) ∧ Below w6.heap.size w6 w' := by
          obtain ⟨S1, S2, h1, h2, _⟩ := HH.out.2.1.below b6
          refine (told_any (h1.kept (Upd.of_below hw) (fun b hb => by have := h1.lt hb; omega)) (h2.below hw) (by omega)).mono ?_
          rintro e w' ⟨rfl, hb⟩
          exact ⟨rfl, hw.trans hb⟩
        have HB6 : Hid (Below W.heap.size W w6) := HH.out.2.2.trans (b6.mono HH.out.2.2.size)
        clear htold b6 hh6 hw
        go_wp2_with fail
        go_still_tail 10, (by kernel_rfl)
        change wpList _ _ _ _ _ w6.drew
        clear m1 m3
        go_wp2_with fail
        refine htold2.mono ?_
        rintro e w7 ⟨rfl, b7⟩
        have HB7 := Lib.hid b7
        clear htold2 b7
        go_wp2
        go_ret
        exact ⟨by simp, HB6.out.trans (HB7.out.mono HB6.out.size)⟩
end Go.Proofs.Ytipiohkpdkandaa
