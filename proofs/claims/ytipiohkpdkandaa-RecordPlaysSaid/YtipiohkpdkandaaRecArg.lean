/-
  Records, lists of records and policies as arguments. Conditions: none.
-/
import Derived.Test.YtipiohkpdkandaaRecA
import Derived.Test.YtipiohkpdkandaaPolB
import Derived.Test.YtipiohkpdkandaaOpen
import Derived.Deep.Slices
import Derived.Deep.Fields
import Derived.ChangeSame
import Derived.ChangeArms
import Derived.Lib.SmallJoins
namespace Go.Proofs.Ytipiohkpdkandaa
set_option linter.unusedVariables false
set_option linter.unusedSimpArgs false
open Go.RowKit Go.ChangeShapes Go.WideShapes Go.Deep

theorem spot_none {w : World} {ad : Addr} {v : Value} (h : w.cell? (ad.add 0) = some v) : ad.spot = none := by
  obtain ⟨b, off, spot⟩ := ad
  cases spot with
  | none => rfl
  | some s =>
    unfold Addr.add World.cell? at h
    simp at h
    split at h <;> simp_all
/-- A slice argument of records. -/
structure RecsArg (w : World) (A : Option Addr) (n c : Nat) (l : List Rec) : Prop where
  len : l.length = n
  cells : ∀ (i : Nat) (r : Rec), l[i]? = some r → ∃ b o, A = some ⟨b, o, none⟩ ∧ ∀ (j : Nat) (v : Value), r.cells[j]? = some v → w.cell? ⟨b, o + (4 * i + j), none⟩ = some v
  keys : ∀ r ∈ l, r.key.size ≤ maxLen
  room : n * 40 ≤ 140737488351232
  cap : n ≤ c
/-- An element, in any world behind. -/
theorem RecsArg.at {W : World} {A : Option Addr} {n c : Nat} {l : List Rec} (ra : RecsArg W A n c l) {i : Nat} (hi : i < n) :
    ∃ b o r, A = some ⟨b, o, none⟩ ∧ l[i]? = some r ∧ r.key.size ≤ maxLen ∧ ∀ w, Below W.heap.size W w → w.cell? ⟨b, o + i * 4, none⟩ = some (.int .i64 r.tick) ∧ w.cell? ⟨b, o + i * 4 + 1, none⟩ = some (.string r.key) ∧ w.cell? ⟨b, o + i * 4 + 2, none⟩ = some (.int .i64 r.cost) ∧ w.cell? ⟨b, o + i * 4 + 3, none⟩ = some (.int .i64 r.verdict) := by
  have hl := ra.len
  obtain ⟨r, hr⟩ : ∃ r, l[i]? = some r := ⟨_, List.getElem?_eq_getElem (by omega)⟩
  obtain ⟨b, o, rfl, h⟩ := ra.cells i r hr
  refine ⟨b, o, r, rfl, hr, ra.keys r (List.mem_of_getElem? hr), fun w hb => ?_⟩
  have key : ∀ j v, r.cells[j]? = some v → w.cell? ⟨b, o + i * 4 + j, none⟩ = some v := fun j v hj => by
    have h1 := h j v hj
    rw [show o + (4 * i + j) = o + i * 4 + j by omega] at h1
    exact (hb.cell (p := ⟨b, o + i * 4 + j, none⟩) (World.block_lt_of_cell? W _ h1)).trans h1
  exact ⟨key 0 _ rfl, key 1 _ rfl, key 2 _ rfl, key 3 _ rfl⟩

section
variable {H : Type} {enc : TypeId × Value → H} {P : Program} {W : World} {base : Nat} {held : Bool} {ts : List TypeId} {ds : List (DataW H)}
set_option maxRecDepth 100000 in
theorem open_rec_arg {spare : Nat → Bool} {rc : Reach} {b0 : Nat} {v : Value} {d : DataW H} {ps : List MemPlace}
    (hval : Value.okWide Try.prog W rc b0 34 v) (h : DataW.Trod enc Try.prog W base spare held 34 v d ps) : ∃ r : Rec, v = r.val ∧ r.key.size ≤ maxLen := by
  obtain ⟨v0, v1, v2, v3, y0, y1, y2, y3, n, rfl, _, _, h0, h1, h2, h3⟩ := Joins.open_agg4 Try.underlying34 (by kernel_rfl) (by kernel_rfl) hval h
  obtain ⟨a0, e0, _, _⟩ := DataW.trod_int Try.underlying3 h0
  obtain ⟨a1, e1, _, hs⟩ := DataW.trod_string Try.underlying9 h1
  obtain ⟨a2, e2, _, _⟩ := DataW.trod_int Try.underlying3 h2
  obtain ⟨a3, e3, _, _⟩ := DataW.trod_int Try.underlying3 h3
  simp only [List.cons.injEq, and_true] at e0 e1 e2 e3
  subst e0; subst e1; subst e2; subst e3
  exact ⟨⟨a0, a1, a2, a3⟩, rfl, hs⟩
set_option maxRecDepth 100000 in
theorem open_pol_arg {spare : Nat → Bool} {rc : Reach} {b0 : Nat} {v : Value} {d : DataW H} {ps : List MemPlace}
    (hval : Value.okWide Try.prog W rc b0 23 v) (h : DataW.Trod enc Try.prog W base spare held 23 v d ps) : ∃ p : Pol, v = .agg p.cells.toArray := by
  have hu := Try.underlying23
  obtain ⟨cs, rfl, hsz⟩ := okWide_struct hu hval
  obtain ⟨fuel, hf⟩ := h
  obtain ⟨xs, n, _, hx, _, hlen, hg⟩ := DataW.trod_struct hu hf
  have hi : ∀ (j : Nat) (f : Field), (match Try.prog.underlying 23 with | some (.struct fs) => fs | _ => #[])[j]? = some f → f.type = 3 ∧ f.offset = j := by
    intro j f hj
    rw [hu] at hj
    simp only at hj
    match j, hj with
    | 0, h | 1, h | 2, h | 3, h | 4, h | 5, h | 6, h | 7, h | 8, h | 9, h => injection h with h; subst h; exact ⟨rfl, rfl⟩
    | j + 10, h => simp at h
  have h10 : cs.size = 10 := hsz.trans (by kernel_rfl)
  have key : ∀ j, j < 10 → ∃ a, cs.toList[j]? = some (.int .i64 a) := by
    intro j hj
    obtain ⟨f, hfj⟩ : ∃ f, (match Try.prog.underlying 23 with | some (.struct fs) => fs | _ => #[])[j]? = some f := by
      rw [hu]
      match j, hj with
      | 0, _ | 1, _ | 2, _ | 3, _ | 4, _ | 5, _ | 6, _ | 7, _ | 8, _ | 9, _ => exact ⟨_, rfl⟩
    obtain ⟨e1, e2⟩ := hi j f hfj
    rw [hu] at hfj
    have h1 := hg j f hfj
    rw [e1, e2] at h1
    have hc1 : Try.prog.cellsOf 3 = 1 := by kernel_rfl
    have hjc : j < cs.toList.length := by rw [Array.length_toList]; omega
    have ht : ((Value.agg cs).cells.toList.drop j).take (Try.prog.cellsOf 3) = [cs.toList[j]] := by
      rw [hc1]
      show (cs.toList.drop j).take 1 = _
      rw [List.drop_eq_getElem_cons hjc]
      rfl
    rw [ht] at h1
    have hxs : xs[j]? = some (xs[j]'(by rw [hlen]; exact (Array.getElem?_eq_some_iff.1 hfj).1)) := List.getElem?_eq_getElem _
    rw [hxs] at h1
    obtain ⟨a, ha, _⟩ := DataW.trod_int Try.underlying3 h1
    injection ha with ha _
    exact ⟨a, by rw [List.getElem?_eq_getElem hjc, ha]⟩
  obtain ⟨l⟩ := cs
  have hl : l.length = 10 := by simpa using h10
  match l, hl with
  | [v0, v1, v2, v3, v4, v5, v6, v7, v8, v9], _ =>
    obtain ⟨a0, e0⟩ := key 0 (by decide)
    obtain ⟨a1, e1⟩ := key 1 (by decide)
    obtain ⟨a2, e2⟩ := key 2 (by decide)
    obtain ⟨a3, e3⟩ := key 3 (by decide)
    obtain ⟨a4, e4⟩ := key 4 (by decide)
    obtain ⟨a5, e5⟩ := key 5 (by decide)
    obtain ⟨a6, e6⟩ := key 6 (by decide)
    obtain ⟨a7, e7⟩ := key 7 (by decide)
    obtain ⟨a8, e8⟩ := key 8 (by decide)
    obtain ⟨a9, e9⟩ := key 9 (by decide)
    simp at e0 e1 e2 e3 e4 e5 e6 e7 e8 e9
    subst e0; subst e1; subst e2; subst e3; subst e4; subst e5; subst e6; subst e7; subst e8; subst e9
    exact ⟨⟨a0, a1, a2, a3, a4, a5, a6, a7, a8, a9⟩, rfl⟩
set_option maxRecDepth 100000 in
theorem open_recs_arg {a : Option Addr} {len cap : Nat} {d : DataW H} {ps : List MemPlace} {j : Nat}
    (hsz : (DataW.weightsEach Try.prog ts ds).all (· ≤ reachBytes) = true) (ht : ts[j]? = some 24) (hd : ds[j]? = some d)
    (h : DataW.Trod enc Try.prog W base (fun _ => true) held 24 (.slice a len cap) d ps) : ∃ l, RecsArg W a len cap l := by
  have hu := Try.underlying24
  have hC : Try.prog.cellsOf 34 = 4 := by kernel_rfl
  have hB : Try.prog.bytesOf 34 = 40 := by kernel_rfl
  obtain ⟨fuel, hf⟩ := h
  rcases open_slice hu hf with ⟨h0, _⟩ | ⟨ad, ln, cp, m, n, D, Pl, hcs, hb, hl, hm, hmm, hx, hi⟩
  · simp [Value.cells] at h0
    obtain ⟨rfl, rfl, rfl⟩ := h0
    exact ⟨[], rfl, fun i r h => by simp at h, fun r h => by simp at h, by omega, Nat.le_refl _⟩
  · simp [Value.cells] at hcs
    obtain ⟨rfl, rfl, rfl⟩ := hcs
    simp only [if_true] at hmm
    subst hmm
    obtain ⟨hx, _⟩ := Prod.mk.inj hx
    subst hx
    have z := sized_slice hsz ht hd hu
    rw [hB] at z
    have hlz : len ≤ ((List.range len).map D).length + ((List.range (m - len)).map fun j => D (len + j)).length := by simp
    have key : ∀ i, i < m → ∃ r : Rec, r.key.size ≤ maxLen ∧ ∀ (k : Nat) (v : Value), r.cells[k]? = some v → W.cell? (ad.add (4 * i + k)) = some v := by
      intro i him
      obtain ⟨cs', hc, ht'⟩ := hi i him
      rw [hC] at hc
      obtain ⟨ys, n', hn', hy, hlen, hyl, hg⟩ := DataW.trod_struct Try.underlying34 ht'
      obtain ⟨_, hcl, hat⟩ := World.cells?_some hc
      match cs', hcl with
      | [c0, c1, c2, c3], _ =>
        match ys, hyl with
        | [y0, y1, y2, y3], _ =>
          have g0 := hg 0 _ rfl
          have g1 := hg 1 _ rfl
          have g2 := hg 2 _ rfl
          have g3 := hg 3 _ rfl
          have k1 : Try.prog.cellsOf 3 = 1 := by kernel_rfl
          have k2 : Try.prog.cellsOf 9 = 1 := by kernel_rfl
          simp [k1, k2] at g0 g1 g2 g3
          obtain ⟨a0, e0, _, _⟩ := DataW.trod_int Try.underlying3 g0
          obtain ⟨a1, e1, _, hs⟩ := DataW.trod_string Try.underlying9 g1
          obtain ⟨a2, e2, _, _⟩ := DataW.trod_int Try.underlying3 g2
          obtain ⟨a3, e3, _, _⟩ := DataW.trod_int Try.underlying3 g3
          simp only [List.cons.injEq, and_true] at e0 e1 e2 e3
          subst e0; subst e1; subst e2; subst e3
          refine ⟨⟨a0, a1, a2, a3⟩, hs, fun k v hk => ?_⟩
          have hk4 : k < 4 := by have := (List.getElem?_eq_some_iff.1 hk).1; simpa [Rec.cells] using this
          have h1 := hat k hk4
          rw [Go.Deep.add_add, Nat.mul_comm] at h1
          rw [h1]
          exact hk
    have pick : ∀ i, ∃ r : Rec, i < m → r.key.size ≤ maxLen ∧ ∀ (k : Nat) (v : Value), r.cells[k]? = some v → W.cell? (ad.add (4 * i + k)) = some v := fun i => by
      by_cases him : i < m
      · obtain ⟨r, h⟩ := key i him
        exact ⟨r, fun _ => h⟩
      · exact ⟨Rec.zero, fun h => absurd h him⟩
    obtain ⟨f, hfk⟩ : ∃ f : Nat → Rec, ∀ i, i < m → (f i).key.size ≤ maxLen ∧ ∀ (k : Nat) (v : Value), (f i).cells[k]? = some v → W.cell? (ad.add (4 * i + k)) = some v := ⟨fun i => Classical.choose (pick i), fun i => Classical.choose_spec (pick i)⟩
    refine ⟨(List.range len).map f, by simp, fun i r hr => ?_, fun r hr => ?_, Nat.le_trans (Nat.mul_le_mul_right _ hlz) z, hl⟩
    · rw [List.getElem?_map, Option.map_eq_some_iff] at hr
      obtain ⟨i', hi', rfl⟩ := hr
      obtain ⟨hlt, hii⟩ := List.getElem?_eq_some_iff.1 hi'
      simp at hii hlt
      subst hii
      have hc := (hfk i (by omega)).2
      have hsp : ad.spot = none := by exact spot_none ((hfk 0 (by omega)).2 0 _ rfl)
      obtain ⟨b, o, s⟩ := ad
      simp only at hsp
      subst hsp
      refine ⟨b, o, rfl, fun j v hj => ?_⟩
      have h1 := hc j v hj
      have e : (⟨b, o, none⟩ : Addr).add (4 * i + j) = ⟨b, o + (4 * i + j), none⟩ := by unfold Addr.add; split <;> simp_all
      rw [e] at h1
      exact h1
    · obtain ⟨i, hi', rfl⟩ := List.mem_map.1 hr
      exact (hfk i (by simp at hi'; omega)).1
end
end Go.Proofs.Ytipiohkpdkandaa
