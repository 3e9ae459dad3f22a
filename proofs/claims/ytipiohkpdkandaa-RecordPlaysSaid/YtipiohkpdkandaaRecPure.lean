/-
  Records as bytes, plainly: what Put writes, what Get reads. No program in sight. Conditions: none.
-/
import Derived.Test.YtipiohkpdkandaaDecPure
import Derived.Test.YtipiohkpdkandaaDictR
namespace Go.Proofs.Ytipiohkpdkandaa
set_option linter.unusedVariables false
set_option linter.unusedSimpArgs false

/-- a key's bytes -/
def kb (k : ByteArray) : List Int := k.data.toList.map fun c => (c.toNat : Int)
theorem kb_length (k : ByteArray) : (kb k).length = k.size := by rw [kb, List.length_map, Array.length_toList]; rfl
theorem kb_bytes (k : ByteArray) : Bytes (kb k) := by
  intro x hx
  obtain ⟨c, _, rfl⟩ := List.mem_map.1 hx
  have := c.toNat_lt
  omega
theorem str_kb (k : ByteArray) : strOfNums (kb k) = k := by
  have : ((kb k).map fun n => UInt8.ofNat n.toNat) = k.data.toList := by
    unfold kb
    rw [List.map_map]
    conv => rhs; rw [← List.map_id k.data.toList]
    refine List.map_congr_left fun c _ => ?_
    simp
  unfold strOfNums
  rw [this]
theorem kb_str {l : List Int} (h : Bytes l) : kb (strOfNums l) = l := by
  unfold kb
  rw [strOfNums_data, List.map_map]
  conv => rhs; rw [← List.map_id l]
  refine List.map_congr_left fun x hx => ?_
  have := h x hx
  simp
  omega

/-- a record -/
structure Rec where
  tick : Int
  key : ByteArray
  cost : Int
  verdict : Int
def Rec.zero : Rec := ⟨0, ByteArray.empty, 0, 0⟩
structure Rec.ok (r : Rec) : Prop where
  t0 : 0 ≤ r.tick
  t1 : r.tick ≤ 1099511627776
  key : keyOk r.key
  c0 : 1 ≤ r.cost
  c1 : r.cost ≤ 1048576
  v0 : 0 ≤ r.verdict
  v1 : r.verdict ≤ 2
/-- why a record may not be -/
def recErr (r : Rec) : Int :=
  if ¬ (0 ≤ r.tick ∧ r.tick ≤ 1099511627776) then 60 else if ¬ keyOk r.key then 61 else if ¬ (1 ≤ r.cost ∧ r.cost ≤ 1048576) then 62 else if ¬ (0 ≤ r.verdict ∧ r.verdict ≤ 2) then 63 else 0
theorem recErr_ok {r : Rec} : recErr r = 0 ↔ r.ok := by
  unfold recErr
  constructor
  · intro h
    by_cases h1 : 0 ≤ r.tick ∧ r.tick ≤ 1099511627776
    · by_cases h2 : keyOk r.key
      · by_cases h3 : 1 ≤ r.cost ∧ r.cost ≤ 1048576
        · by_cases h4 : 0 ≤ r.verdict ∧ r.verdict ≤ 2
          · exact ⟨h1.1, h1.2, h2, h3.1, h3.2, h4.1, h4.2⟩
          · simp [h1, h2, h3, h4] at h
        · simp [h1, h2, h3] at h
      · simp [h1, h2] at h
    · simp [h1] at h
  · rintro ⟨a1, a2, a3, a4, a5, a6, a7⟩
    rw [if_neg (by simp [a1, a2]), if_neg (by simp [a3]), if_neg (by simp [a4, a5]), if_neg (by simp [a6, a7])]

/-- a coder -/
structure CC where
  d : DD
  tick : Int
  cost : Int
structure CInv (c : CC) : Prop where
  d : DInv c.d
  t0 : 0 ≤ c.tick
  t1 : c.tick ≤ 1099511627776
  c0 : 0 ≤ c.cost
  c1 : c.cost ≤ 1048576
theorem CInv.new {n : Nat} (h1 : 1 ≤ n) (h2 : n ≤ 64) : CInv ⟨⟨n, [], []⟩, 0, 0⟩ := ⟨DInv.new h1 h2, by simp, by simp, by simp, by simp⟩

/-- the first two pieces, as numbers -/
def firstN (c : CC) (r : Rec) : Nat := (4 * (r.tick - c.tick) + r.verdict).toNat
def secondN (c : CC) (r : Rec) : Nat := (zigF (r.cost - c.cost)).1.toNat
/-- the last pieces -/
noncomputable def tailB (c : CC) (r : Rec) : List Int := if (useG c.d r.key).2.2.1 = true then digs (1 + (useG c.d r.key).2.1) else digs 0 ++ digs r.key.size ++ kb r.key
noncomputable def putB (c : CC) (r : Rec) : List Int := digs (firstN c r) ++ digs (secondN c r) ++ tailB c r
noncomputable def putC (c : CC) (r : Rec) : CC := ⟨(useG c.d r.key).1, r.tick, r.cost⟩
noncomputable def putF (c : CC) (r : Rec) : CC × List Int × Int :=
  if recErr r = 0 then (if r.tick < c.tick then (c, [], 60) else (putC c r, putB c r, 0)) else (c, [], recErr r)
theorem putF_bad {c : CC} {r : Rec} (h : recErr r ≠ 0) : putF c r = (c, [], recErr r) := by rw [putF, if_neg h]
theorem putF_late {c : CC} {r : Rec} (h : recErr r = 0) (h2 : r.tick < c.tick) : putF c r = (c, [], 60) := by rw [putF, if_pos h, if_pos h2]
theorem putF_yes {c : CC} {r : Rec} (h : r.ok) (h2 : c.tick ≤ r.tick) : putF c r = (putC c r, putB c r, 0) := by rw [putF, if_pos (recErr_ok.2 h), if_neg (by omega)]
/-- the ways of Put -/
theorem putF_cases (c : CC) (r : Rec) : (r.ok ∧ c.tick ≤ r.tick ∧ putF c r = (putC c r, putB c r, 0)) ∨ (∃ e, e ≠ 0 ∧ putF c r = (c, [], e)) := by
  by_cases h : recErr r = 0
  · by_cases h2 : r.tick < c.tick
    · exact .inr ⟨60, by decide, putF_late h h2⟩
    · exact .inl ⟨recErr_ok.1 h, by omega, putF_yes (recErr_ok.1 h) (by omega)⟩
  · exact .inr ⟨_, h, putF_bad h⟩

theorem useG_ok {d : DD} (hd : DInv d) {k : ByteArray} (hk : keyOk k) :
    (∃ s, d.keys[s]? = some k ∧ s < 64 ∧ useG d k = (touchF d s, s, true, 0) ∧ k ∈ d.keys) ∨ (∃ d' s, useG d k = (d', s, false, 0) ∧ k ∉ d.keys ∧ lookF d k = -1) := by
  by_cases hm : k ∈ d.keys
  · have := posK_lt hm
    have h1 := hd.le
    have h2 := hd.hi
    exact .inl ⟨_, posK_get hm, by omega, useG_had hk hm, hm⟩
  · by_cases hr : d.keys.length < d.room
    · exact .inr ⟨_, _, useG_new hk hm hr, hm, lookF_no hm⟩
    · exact .inr ⟨_, _, useG_full hk hm hr, hm, lookF_no hm⟩
theorem CInv.put {c : CC} (h : CInv c) {r : Rec} (hr : r.ok) : CInv (putC c r) := ⟨h.d.useG r.key, hr.t0, hr.t1, by have := hr.c0; show 0 ≤ r.cost; omega, hr.c1⟩
theorem CInv.putF {c : CC} (h : CInv c) (r : Rec) : CInv (putF c r).1 := by
  rcases putF_cases c r with ⟨h1, h2, e⟩ | ⟨e, _, h1⟩
  · rw [e]; exact h.put h1
  · rw [h1]; exact h

theorem zig_bd {n : Int} (h1 : -1048576 ≤ n) (h2 : n ≤ 1048576) : 0 ≤ (zigF n).1 ∧ (zigF n).1 ≤ 2097152 ∧ (zigF n).2 = 0 := by
  unfold zigF
  rw [if_pos (by omega)]
  split <;> simp <;> omega
theorem zag_zig {n : Int} (h1 : -1048576 ≤ n) (h2 : n ≤ 1048576) : (zagF (zigF n).1).1 = n := by
  have e : (zigF n).1 = if n < 0 then -2 * n - 1 else 2 * n := by unfold zigF; rw [if_pos (by omega)]
  rw [e]
  by_cases h : n < 0
  · rw [if_pos h]; unfold zagF; rw [if_pos (by omega)]; dsimp only; rw [if_pos (by omega)]; omega
  · rw [if_neg h]; unfold zagF; rw [if_pos (by omega)]; dsimp only; rw [if_neg (by omega)]; omega
theorem zig_zag {u : Int} (h1 : 0 ≤ u) (h2 : u ≤ 4611686018427387903) : (zigF (zagF u).1).1 = u := by
  unfold zagF
  rw [if_pos (by omega)]
  dsimp only
  unfold zigF
  by_cases h : u % 2 = 1
  · rw [if_pos h, if_pos (by omega)]; dsimp only; rw [if_pos (by omega)]; omega
  · rw [if_neg h, if_pos (by omega)]; dsimp only; rw [if_neg (by omega)]; omega
theorem firstN_bd {c : CC} (h : CInv c) {r : Rec} (hr : r.ok) (ht : c.tick ≤ r.tick) : (firstN c r : Int) = 4 * (r.tick - c.tick) + r.verdict ∧ firstN c r ≤ 4398046511106 := by
  have := h.t0; have := hr.t1; have := hr.v0; have := hr.v1
  unfold firstN
  omega
theorem secondN_bd {c : CC} (h : CInv c) {r : Rec} (hr : r.ok) : (secondN c r : Int) = (zigF (r.cost - c.cost)).1 ∧ secondN c r ≤ 2097152 := by
  have := h.c0; have := h.c1; have := hr.c0; have := hr.c1
  have := zig_bd (n := r.cost - c.cost) (by omega) (by omega)
  unfold secondN
  omega

/-- The key that stands next: the dictionary then, the key, where it ends, where that begins which is wrong, the error. -/
noncomputable def keyF (d : DD) (l : List Int) (at_ : Int) : DD × ByteArray × Int × Int × Int :=
  if (readF l at_).2.2 ≠ 0 then (d, ByteArray.empty, 0, at_, (readF l at_).2.2)
  else if 0 < (readF l at_).1 then
    (if (touchG d ((readF l at_).1 - 1)).2.2 ≠ 0 then (d, ByteArray.empty, 0, at_, 64) else ((touchG d ((readF l at_).1 - 1)).1, (touchG d ((readF l at_).1 - 1)).2.1, (readF l at_).2.1, 0, 0))
  else
    let p := (readF l at_).2.1
    let n := (readF l p).1
    let to := (readF l p).2.1
    if (readF l p).2.2 ≠ 0 then (d, ByteArray.empty, 0, p, (readF l p).2.2)
    else if ¬ (1 ≤ n ∧ n ≤ 64) then (d, ByteArray.empty, 0, p, 61)
    else if (l.length : Int) - to < n then (d, ByteArray.empty, 0, to, 10)
    else
      let k := strOfNums ((l.drop to.toNat).take n.toNat)
      if 0 ≤ lookF d k then (d, ByteArray.empty, 0, to, 64)
      else ((useG d k).1, k, to + n, 0, 0)
/-- The next record: the coder then, the record, where it ends, the error, where. -/
noncomputable def getG (c : CC) (l : List Int) (at_ : Int) : CC × Rec × Int × Int × Int :=
  if (readF l at_).2.2 ≠ 0 then (c, Rec.zero, 0, (readF l at_).2.2, at_)
  else
    let n := (readF l at_).1
    let p := (readF l at_).2.1
    if n % 4 = 3 then (c, Rec.zero, 0, 63, at_)
    else if 1099511627776 < c.tick + n / 4 then (c, Rec.zero, 0, 60, at_)
    else if (readF l p).2.2 ≠ 0 then (c, Rec.zero, 0, (readF l p).2.2, p)
    else
      let cost := c.cost + (zagF (readF l p).1).1
      let q := (readF l p).2.1
      if ¬ (1 ≤ cost ∧ cost ≤ 1048576) then (c, Rec.zero, 0, 62, p)
      else if (keyF c.d l q).2.2.2.2 ≠ 0 then (c, Rec.zero, 0, (keyF c.d l q).2.2.2.2, (keyF c.d l q).2.2.2.1)
      else (⟨(keyF c.d l q).1, c.tick + n / 4, cost⟩, ⟨c.tick + n / 4, (keyF c.d l q).2.1, cost, n % 4⟩, (keyF c.d l q).2.2.1, 0, 0)
noncomputable def getF (c : CC) (l : List Int) (at_ : Int) : CC × Rec × Int × Int × Int := if at_ < 0 ∨ (l.length : Int) < at_ then (c, Rec.zero, 0, 1, -1) else getG c l at_
theorem getF_in {c : CC} {l : List Int} {a : Int} (h : ¬ (a < 0 ∨ (l.length : Int) < a)) : getF c l a = getG c l a := if_neg h

/-! ### What was written is read -/
theorem readF_mid {q : Nat} (hq : q ≤ 4611686018427387903) (ahead behind : List Int) {p : Int} (hp : p = ahead.length) : readF (ahead ++ (digs q ++ behind)) p = ((q : Int), (ahead.length : Int) + (digs q).length, 0) := by
  subst hp
  rw [← List.append_assoc]
  exact readF_digs hq ahead behind
theorem digs_zero : digs 0 = [0] := digs_lo (by decide)
theorem keyF_tail {c : CC} (h : CInv c) {r : Rec} (hr : r.ok) (ahead behind : List Int) :
    keyF c.d (ahead ++ (tailB c r ++ behind)) ahead.length = ((useG c.d r.key).1, r.key, (ahead.length : Int) + (tailB c r).length, 0, 0) := by
  rcases useG_ok h.d hr.key with ⟨s, hs, hs64, hu, hm⟩ | ⟨d', s, hu, hm, hl⟩
  · have ht : tailB c r = digs (1 + s) := by unfold tailB; rw [hu]; rfl
    rw [ht, hu]
    have hread := readF_mid (q := 1 + s) (by omega) ahead behind (p := ahead.length) rfl
    unfold keyF
    rw [hread]
    have hlt : s < c.d.keys.length := (List.getElem?_eq_some_iff.1 hs).1
    have htg : touchG c.d (((1 + s : Nat) : Int) - 1) = (touchF c.d s, r.key, 0) := by
      rw [show ((1 + s : Nat) : Int) - 1 = (s : Int) by omega]
      unfold touchG
      rw [if_pos (by omega)]
      simp [hs]
    simp only [ne_eq, not_true_eq_false, if_false]
    rw [if_pos (by omega), htg]
    simp
  · have ht : tailB c r = digs 0 ++ digs r.key.size ++ kb r.key := by unfold tailB; rw [hu]; simp
    rw [ht, hu]
    have hk := hr.key
    unfold keyOk at hk
    have h1 := readF_mid (q := 0) (by omega) ahead (digs r.key.size ++ kb r.key ++ behind) (p := ahead.length) rfl
    have h2 := readF_mid (q := r.key.size) (by omega) (ahead ++ digs 0) (kb r.key ++ behind) (p := (ahead.length : Int) + (digs 0).length) (by simp)
    have e1 : ahead ++ (digs 0 ++ digs r.key.size ++ kb r.key ++ behind) = ahead ++ (digs 0 ++ (digs r.key.size ++ kb r.key ++ behind)) := by simp
    have e2 : ahead ++ (digs 0 ++ digs r.key.size ++ kb r.key ++ behind) = ahead ++ digs 0 ++ (digs r.key.size ++ (kb r.key ++ behind)) := by simp
    rw [← e1] at h1
    rw [← e2] at h2
    unfold keyF
    rw [h1]
    simp only [ne_eq, not_true_eq_false, if_false]
    rw [if_neg (by simp)]
    rw [h2]
    simp only [not_true_eq_false, if_false]
    rw [if_neg (by omega), if_neg (by simp [kb_length]; omega)]
    have e3 : ((ahead ++ (digs 0 ++ digs r.key.size ++ kb r.key ++ behind)).drop ((((ahead ++ digs 0).length : Nat) : Int) + ((digs r.key.size).length : Nat)).toNat).take ((r.key.size : Nat) : Int).toNat = kb r.key := by
      rw [show ((((ahead ++ digs 0).length : Nat) : Int) + ((digs r.key.size).length : Nat)).toNat = (ahead ++ (digs 0 ++ digs r.key.size)).length by simp; omega]
      rw [show ahead ++ (digs 0 ++ digs r.key.size ++ kb r.key ++ behind) = ahead ++ (digs 0 ++ digs r.key.size) ++ (kb r.key ++ behind) by simp]
      rw [List.drop_left, Int.toNat_natCast, ← kb_length, List.take_left]
    rw [e3, str_kb, hl, if_neg (by decide), hu]
    refine Prod.ext rfl (Prod.ext rfl (Prod.ext ?_ rfl))
    simp [kb_length]
    omega
/-- T1: a coder that stands alike reads what was written. -/
theorem getF_put {c : CC} (h : CInv c) {r : Rec} (hr : r.ok) (ht : c.tick ≤ r.tick) (ahead behind : List Int) {p : Int} (hp : p = ahead.length) :
    getF c (ahead ++ (putB c r ++ behind)) p = (putC c r, r, (ahead.length : Int) + (putB c r).length, 0, 0) := by
  subst hp
  obtain ⟨f1, f2⟩ := firstN_bd h hr ht
  obtain ⟨s1, s2⟩ := secondN_bd h hr
  have a0 := hr.v0; have a1 := hr.v1; have a2 := hr.c0; have a3 := hr.c1; have a4 := hr.t1; have a5 := h.c0; have a6 := h.c1
  have e1 : ahead ++ (putB c r ++ behind) = ahead ++ (digs (firstN c r) ++ (digs (secondN c r) ++ tailB c r ++ behind)) := by simp [putB]
  have e2 : ahead ++ (putB c r ++ behind) = ahead ++ digs (firstN c r) ++ (digs (secondN c r) ++ (tailB c r ++ behind)) := by simp [putB]
  have e3 : ahead ++ (putB c r ++ behind) = ahead ++ digs (firstN c r) ++ digs (secondN c r) ++ (tailB c r ++ behind) := by simp [putB]
  have h1 := readF_mid (q := firstN c r) (by omega) ahead (digs (secondN c r) ++ tailB c r ++ behind) (p := ahead.length) rfl
  have h2 := readF_mid (q := secondN c r) (by omega) (ahead ++ digs (firstN c r)) (tailB c r ++ behind) (p := (ahead.length : Int) + (digs (firstN c r)).length) (by simp)
  have h3 := keyF_tail h hr (ahead ++ digs (firstN c r) ++ digs (secondN c r)) behind
  rw [← e1] at h1
  rw [← e2] at h2
  rw [← e3] at h3
  have hz : c.cost + (zagF (secondN c r : Int)).1 = r.cost := by rw [s1, zag_zig (by omega) (by omega)]; omega
  rw [getF_in (by simp; omega)]
  unfold getG
  rw [h1]
  simp only [ne_eq, not_true_eq_false, if_false]
  rw [if_neg (by rw [f1]; omega), if_neg (by rw [f1]; omega), h2]
  simp only [not_true_eq_false, if_false]
  rw [hz, if_neg (by omega)]
  have e4 : (((ahead ++ digs (firstN c r)).length : Nat) : Int) + ((digs (secondN c r)).length : Nat) = ((ahead ++ digs (firstN c r) ++ digs (secondN c r)).length : Nat) := by simp; omega
  rw [e4, h3]
  simp only [not_true_eq_false, if_false]
  have e5 : c.tick + (firstN c r : Int) / 4 = r.tick := by rw [f1]; omega
  have e6 : (firstN c r : Int) % 4 = r.verdict := by rw [f1]; omega
  rw [e5, e6]
  refine Prod.ext rfl (Prod.ext rfl (Prod.ext ?_ rfl))
  simp [putB]
  omega

/-! ### What is read is what would have been written -/
noncomputable def tailD (d : DD) (k : ByteArray) : List Int := if (useG d k).2.2.1 = true then digs (1 + (useG d k).2.1) else digs 0 ++ digs k.size ++ kb k
theorem take_more {l : List Int} {p a b : Nat} : (l.drop p).take (a + b) = (l.drop p).take a ++ (l.drop (p + a)).take b := by rw [List.take_add, List.drop_drop]
theorem keyF_cases {d : DD} (hd : DInv d) {l : List Int} (hb : Bytes l) (a : Int) :
    (∃ e x, e ≠ 0 ∧ keyF d l a = (d, ByteArray.empty, 0, x, e)) ∨
    ∃ (p k : Nat) (key : ByteArray), a = p ∧ keyOk key ∧ 1 ≤ k ∧ p + k ≤ l.length ∧ keyF d l a = ((useG d key).1, key, (p : Int) + k, 0, 0) ∧ (l.drop p).take k = tailD d key := by
  rcases readF_cases hb a with ⟨e, _, he, hr⟩ | ⟨p, q, k, rfl, hq, hk, hk1, hpk, hr, hdg⟩
  · left
    have he : e ≠ 0 := by simpa using he
    exact ⟨e, a, he, by unfold keyF; rw [hr]; simp [he]⟩
  · by_cases h0 : 0 < q
    · -- a slot
      by_cases hs : q - 1 < d.keys.length
      · right
        obtain ⟨key, hkey⟩ : ∃ key, d.keys[q - 1]? = some key := ⟨_, List.getElem?_eq_getElem hs⟩
        have hm := List.mem_of_getElem? hkey
        have hok := hd.ok key hm
        have hu := useG_had (d := d) (k := key) hok hm
        rw [posK_of hd.nodup hkey] at hu
        have htg : touchG d ((q : Int) - 1) = (touchF d (q - 1), key, 0) := by
          rw [show (q : Int) - 1 = ((q - 1 : Nat) : Int) by omega]
          unfold touchG
          rw [if_pos (by omega)]
          simp [hkey]
        refine ⟨p, k, key, rfl, hok, hk1, hpk, ?_, ?_⟩
        · unfold keyF
          rw [hr]
          simp only [ne_eq, not_true_eq_false, if_false]
          rw [if_pos (by omega), htg, hu]
          simp
        · rw [hdg]; unfold tailD; rw [hu, if_pos rfl]; show digs q = digs (1 + (q - 1)); congr 1; omega
      · left
        have htg : touchG d ((q : Int) - 1) = (d, ByteArray.empty, 50) := by unfold touchG; rw [if_neg (by omega)]
        refine ⟨64, p, by decide, ?_⟩
        unfold keyF
        rw [hr]
        simp only [ne_eq, not_true_eq_false, if_false]
        rw [if_pos (by omega), htg]
        simp
    · obtain rfl : q = 0 := by omega
      have hstep : keyF d l p = (if (readF l ((p : Int) + k)).2.2 ≠ 0 then (d, ByteArray.empty, 0, (p : Int) + k, (readF l ((p : Int) + k)).2.2)
          else if ¬ (1 ≤ (readF l ((p : Int) + k)).1 ∧ (readF l ((p : Int) + k)).1 ≤ 64) then (d, ByteArray.empty, 0, (p : Int) + k, 61)
          else if (l.length : Int) - (readF l ((p : Int) + k)).2.1 < (readF l ((p : Int) + k)).1 then (d, ByteArray.empty, 0, (readF l ((p : Int) + k)).2.1, 10)
          else if 0 ≤ lookF d (strOfNums ((l.drop (readF l ((p : Int) + k)).2.1.toNat).take (readF l ((p : Int) + k)).1.toNat)) then (d, ByteArray.empty, 0, (readF l ((p : Int) + k)).2.1, 64)
          else ((useG d (strOfNums ((l.drop (readF l ((p : Int) + k)).2.1.toNat).take (readF l ((p : Int) + k)).1.toNat))).1, strOfNums ((l.drop (readF l ((p : Int) + k)).2.1.toNat).take (readF l ((p : Int) + k)).1.toNat), (readF l ((p : Int) + k)).2.1 + (readF l ((p : Int) + k)).1, 0, 0)) := by
        unfold keyF
        rw [hr]
        simp only [ne_eq, not_true_eq_false, if_false]
        rw [if_neg (by simp)]
      rcases readF_cases hb ((p : Int) + k) with ⟨e, _, he, hr2⟩ | ⟨p2, q2, k2, hp2, hq2, hk2, hk21, hpk2, hr2, hdg2⟩
      · left
        have he : e ≠ 0 := by simpa using he
        exact ⟨e, (p : Int) + k, he, by rw [hstep, hr2]; simp [he]⟩
      · obtain rfl : p2 = p + k := by omega
        rw [hr2] at hstep
        simp only [ne_eq, not_true_eq_false, if_false] at hstep
        by_cases hsz : 1 ≤ q2 ∧ q2 ≤ 64
        · rw [if_neg (by omega)] at hstep
          by_cases hlen : l.length < p + k + k2 + q2
          · left
            exact ⟨10, _, by decide, by rw [hstep, if_pos (by omega)]⟩
          · rw [if_neg (by omega)] at hstep
            rw [show (((p + k : Nat) : Int) + (k2 : Int)).toNat = p + k + k2 by omega, show ((q2 : Int)).toNat = q2 by omega] at hstep
            obtain ⟨X, hX⟩ : ∃ X, (l.drop (p + k + k2)).take q2 = X := ⟨_, rfl⟩
            rw [hX] at hstep
            have hXl : X.length = q2 := by rw [← hX]; simp; omega
            have hXb : Bytes X := fun x hx => hb x (List.mem_of_mem_drop (List.mem_of_mem_take (hX ▸ hx)))
            have hks : (strOfNums X).size = q2 := by rw [strOfNums_size, hXl]
            have hok : keyOk (strOfNums X) := by unfold keyOk; omega
            by_cases hl : 0 ≤ lookF d (strOfNums X)
            · left
              exact ⟨64, _, by decide, by rw [hstep, if_pos hl]⟩
            · right
              have hm : strOfNums X ∉ d.keys := fun hm => by unfold lookF at hl; rw [if_pos hm] at hl; omega
              have hu : (useG d (strOfNums X)).2.2.1 = false := by
                by_cases hr : d.keys.length < d.room
                · rw [useG_new hok hm hr]
                · rw [useG_full hok hm hr]
              refine ⟨p, k + (k2 + q2), strOfNums X, rfl, hok, by omega, by omega, ?_, ?_⟩
              · rw [hstep, if_neg hl]
                refine Prod.ext rfl (Prod.ext rfl (Prod.ext ?_ rfl))
                simp
                omega
              · unfold tailD
                rw [hu, if_neg (by decide), take_more, take_more, hdg, hdg2, hX, kb_str hXb, hks, List.append_assoc]
        · left
          exact ⟨61, _, by decide, by rw [hstep, if_pos (by omega)]⟩
/-- T2, T3: what is refused has changed nothing; what is read is just what is written of the record. -/
theorem getF_cases {c : CC} (h : CInv c) {l : List Int} (hb : Bytes l) (a : Int) :
    (∃ e x, e ≠ 0 ∧ getF c l a = (c, Rec.zero, 0, e, x)) ∨
    ∃ (p : Nat) (r : Rec), a = p ∧ r.ok ∧ c.tick ≤ r.tick ∧ p + (putB c r).length ≤ l.length ∧ getF c l a = (putC c r, r, (p : Int) + (putB c r).length, 0, 0) ∧ (l.drop p).take (putB c r).length = putB c r := by
  by_cases h1 : a < 0 ∨ (l.length : Int) < a
  · exact .inl ⟨1, -1, by decide, by unfold getF; rw [if_pos h1]⟩
  · have hg := getF_in (c := c) h1
    unfold getG at hg
    rcases readF_cases hb a with ⟨e, _, he, hr⟩ | ⟨p, q, k, rfl, hq, hk, hk1, hpk, hr, hdg⟩
    · left
      have he : e ≠ 0 := by simpa using he
      exact ⟨e, a, he, by rw [hg, hr, if_pos he]⟩
    · have h0 := h.t0
      rw [hr] at hg
      simp only [ne_eq, not_true_eq_false, if_false] at hg
      by_cases hv : (q : Int) % 4 = 3
      · exact .inl ⟨63, _, by decide, by rw [hg, if_pos hv]⟩
      rw [if_neg hv] at hg
      by_cases ht : 1099511627776 < c.tick + (q : Int) / 4
      · exact .inl ⟨60, _, by decide, by rw [hg, if_pos ht]⟩
      rw [if_neg ht] at hg
      rcases readF_cases hb ((p : Int) + k) with ⟨e, _, he, hr2⟩ | ⟨p2, u, k2, hp2, hu, hk2, hk21, hpk2, hr2, hdg2⟩
      · have he : e ≠ 0 := by simpa using he
        exact .inl ⟨e, _, he, by rw [hg, hr2, if_pos he]⟩
      obtain rfl : p2 = p + k := by omega
      rw [hr2] at hg
      simp only [not_true_eq_false, if_false] at hg
      by_cases hc : 1 ≤ c.cost + (zagF (u : Int)).1 ∧ c.cost + (zagF (u : Int)).1 ≤ 1048576
      · rw [if_neg (by omega)] at hg
        rcases keyF_cases h.d hb (((p + k : Nat) : Int) + k2) with ⟨e, x, he, hkf⟩ | ⟨p3, k3, key, hp3, hok, hk31, hpk3, hkf, hdg3⟩
        · exact .inl ⟨e, x, he, by rw [hg, hkf, if_pos he]⟩
        · right
          obtain rfl : p3 = p + k + k2 := by omega
          rw [hkf] at hg
          simp only [not_true_eq_false, if_false] at hg
          obtain ⟨r, hrd⟩ : ∃ r : Rec, r = ⟨c.tick + (q : Int) / 4, key, c.cost + (zagF (u : Int)).1, (q : Int) % 4⟩ := ⟨_, rfl⟩
          have e1 : r.tick = c.tick + (q : Int) / 4 := by rw [hrd]
          have e2 : r.key = key := by rw [hrd]
          have e3 : r.cost = c.cost + (zagF (u : Int)).1 := by rw [hrd]
          have e4 : r.verdict = (q : Int) % 4 := by rw [hrd]
          have hrok : r.ok := ⟨by omega, by omega, by rw [e2]; exact hok, by omega, by omega, by omega, by omega⟩
          have f1 : firstN c r = q := by unfold firstN; rw [e1, e4]; omega
          have f2 : secondN c r = u := by
            unfold secondN
            rw [e3, show c.cost + (zagF (u : Int)).1 - c.cost = (zagF (u : Int)).1 by omega, zig_zag (by omega) (by omega)]
            omega
          have f3 : tailB c r = tailD c.d key := by unfold tailB tailD; rw [e2]
          have hk3 : (tailD c.d key).length = k3 := by rw [← hdg3]; simp; omega
          have hB : putB c r = digs q ++ (digs u ++ tailD c.d key) := by unfold putB; rw [f1, f2, f3, List.append_assoc]
          have hl : (putB c r).length = k + (k2 + k3) := by rw [hB]; simp [← hk, ← hk2, hk3]
          refine ⟨p, r, rfl, hrok, by omega, by omega, ?_, ?_⟩
          · rw [hg, hl, hrd]
            refine Prod.ext rfl (Prod.ext rfl (Prod.ext ?_ rfl))
            simp
            omega
          · rw [hl, take_more, take_more, hdg, hdg2, hdg3, hB]
      · exact .inl ⟨62, _, by decide, by rw [hg, if_pos hc]⟩

/-! ### None of a record's beginnings is read -/
theorem readF_cut {q : Nat} (hq : q ≤ 4611686018427387903) (ahead : List Int) {m : Nat} (hm : m < (digs q).length) {p : Int} (hp : p = ahead.length) : readF (ahead ++ (digs q).take m) p = (0, 0, 10) := by
  subst hp
  have h := dec_short q q 0 0 m (Nat.le_refl _) (by omega) (by omega) (by simpa using hq) hm
  have h' : dec ((ahead ++ (digs q).take m).drop ahead.length) 0 0 = (10, 0, 0) := by rw [List.drop_left]; exact h
  have := readF_of (l := ahead ++ (digs q).take m) (p := ahead.length) (by simp) h'
  rwa [if_neg (by decide)] at this
theorem keyF_cut {c : CC} (h : CInv c) {r : Rec} (hr : r.ok) (ahead : List Int) {m : Nat} (hm : m < (tailB c r).length) :
    ∃ x, keyF c.d (ahead ++ (tailB c r).take m) ahead.length = (c.d, ByteArray.empty, 0, x, 10) ∧ (ahead.length : Int) ≤ x ∧ x ≤ (ahead.length : Int) + m := by
  rcases useG_ok h.d hr.key with ⟨s, hs, hs64, hu, hmem⟩ | ⟨d', s, hu, hmem, hl⟩
  · have ht : tailB c r = digs (1 + s) := by unfold tailB; rw [hu]; rfl
    rw [ht] at hm ⊢
    refine ⟨ahead.length, ?_, by omega, by omega⟩
    unfold keyF
    rw [readF_cut (by omega) ahead hm rfl]
    simp
  · have ht : tailB c r = digs 0 ++ (digs r.key.size ++ kb r.key) := by unfold tailB; rw [hu]; simp
    have hk := hr.key
    unfold keyOk at hk
    rw [ht] at hm ⊢
    cases m with
    | zero =>
      refine ⟨ahead.length, ?_, by omega, by omega⟩
      unfold keyF
      have := readF_cut (q := 0) (by omega) ahead (m := 0) (by rw [digs_zero]; decide) rfl
      rw [List.take_zero] at this ⊢
      rw [this]
      simp
    | succ m =>
      rw [digs_zero] at hm ⊢
      have e0 : ahead ++ List.take (m + 1) ([0] ++ (digs r.key.size ++ kb r.key)) = ahead ++ ([0] ++ (digs r.key.size ++ kb r.key).take m) := by simp
      rw [e0]
      have h1 := readF_mid (q := 0) (by omega) ahead ((digs r.key.size ++ kb r.key).take m) (p := ahead.length) rfl
      rw [digs_zero] at h1
      by_cases hm2 : m < (digs r.key.size).length
      · have h2 := readF_cut (q := r.key.size) (by omega) (ahead ++ [0]) (m := m) hm2 (p := (ahead.length : Int) + 1) (by simp)
        rw [List.append_assoc] at h2
        rw [List.take_append_of_le_length (by omega)] at h1 ⊢
        refine ⟨(ahead.length : Int) + 1, ?_, by omega, by omega⟩
        unfold keyF
        rw [h1]
        simp only [ne_eq, not_true_eq_false, if_false]
        rw [if_neg (by simp)]
        simp only [List.length_cons, List.length_nil, Nat.zero_add, Int.natCast_one]
        rw [h2]
        simp
      · have e1 : (digs r.key.size ++ kb r.key).take m = digs r.key.size ++ (kb r.key).take (m - (digs r.key.size).length) := by
          rw [List.take_append, List.take_of_length_le (by omega)]
        have h2 := readF_mid (q := r.key.size) (by omega) (ahead ++ [0]) ((kb r.key).take (m - (digs r.key.size).length)) (p := (ahead.length : Int) + 1) (by simp)
        rw [List.append_assoc, ← e1] at h2
        have hmk : m - (digs r.key.size).length < r.key.size := by simp [kb_length] at hm; omega
        refine ⟨((ahead ++ [0]).length : Int) + (digs r.key.size).length, ?_, by simp; omega, by simp; omega⟩
        unfold keyF
        rw [h1]
        simp only [ne_eq, not_true_eq_false, if_false]
        rw [if_neg (by simp)]
        simp only [List.length_cons, List.length_nil, Nat.zero_add, Int.natCast_one]
        rw [h2]
        simp only [not_true_eq_false, if_false]
        rw [if_neg (by omega), if_pos]
        rw [e1]
        simp [kb_length]
        omega
/-- T4, T7: of a beginning nothing is read; where bytes end is told within. -/
theorem getF_cut {c : CC} (h : CInv c) {r : Rec} (hr : r.ok) (ht : c.tick ≤ r.tick) (ahead : List Int) {m : Nat} (hm : m < (putB c r).length) {p : Int} (hp : p = ahead.length) :
    ∃ x, getF c (ahead ++ (putB c r).take m) p = (c, Rec.zero, 0, 10, x) ∧ (ahead.length : Int) ≤ x ∧ x ≤ (ahead.length : Int) + m := by
  subst hp
  obtain ⟨f1, f2⟩ := firstN_bd h hr ht
  obtain ⟨s1, s2⟩ := secondN_bd h hr
  have a0 := hr.v0; have a1 := hr.v1; have a2 := hr.c0; have a3 := hr.c1; have a4 := hr.t1; have a5 := h.c0; have a6 := h.c1
  have hB : putB c r = digs (firstN c r) ++ (digs (secondN c r) ++ tailB c r) := by simp [putB]
  have hg1 := getF_in (c := c) (l := ahead ++ (putB c r).take m) (a := ahead.length) (by simp; omega)
  unfold getG at hg1
  by_cases h1 : m < (digs (firstN c r)).length
  · refine ⟨ahead.length, ?_, by omega, by omega⟩
    have e1 : (putB c r).take m = (digs (firstN c r)).take m := by rw [hB, List.take_append_of_le_length (by omega)]
    rw [hg1, e1, readF_cut (by omega) ahead h1 rfl]
    simp
  · obtain ⟨m1, rfl⟩ : ∃ m1, m = (digs (firstN c r)).length + m1 := ⟨m - (digs (firstN c r)).length, by omega⟩
    have e1 : (putB c r).take ((digs (firstN c r)).length + m1) = digs (firstN c r) ++ (digs (secondN c r) ++ tailB c r).take m1 := by rw [hB, List.take_append, List.take_of_length_le (by omega), Nat.add_sub_cancel_left]
    have r1 := readF_mid (q := firstN c r) (by omega) ahead ((digs (secondN c r) ++ tailB c r).take m1) (p := ahead.length) rfl
    rw [hB] at hm
    simp only [List.length_append] at hm
    rw [e1] at hg1 ⊢
    rw [r1] at hg1
    simp only [ne_eq, not_true_eq_false, if_false] at hg1
    rw [if_neg (by rw [f1]; omega), if_neg (by rw [f1]; omega)] at hg1
    by_cases h2 : m1 < (digs (secondN c r)).length
    · refine ⟨(ahead.length : Int) + (digs (firstN c r)).length, ?_, by omega, by omega⟩
      have r2 := readF_cut (q := secondN c r) (by omega) (ahead ++ digs (firstN c r)) h2 (p := (ahead.length : Int) + (digs (firstN c r)).length) (by simp)
      rw [List.append_assoc] at r2
      have e2 : (digs (secondN c r) ++ tailB c r).take m1 = (digs (secondN c r)).take m1 := by rw [List.take_append_of_le_length (by omega)]
      rw [e2] at hg1 ⊢
      rw [hg1, r2]
      simp
    · obtain ⟨m2, rfl⟩ : ∃ m2, m1 = (digs (secondN c r)).length + m2 := ⟨m1 - (digs (secondN c r)).length, by omega⟩
      have e2 : (digs (secondN c r) ++ tailB c r).take ((digs (secondN c r)).length + m2) = digs (secondN c r) ++ (tailB c r).take m2 := by rw [List.take_append, List.take_of_length_le (by omega), Nat.add_sub_cancel_left]
      have r2 := readF_mid (q := secondN c r) (by omega) (ahead ++ digs (firstN c r)) ((tailB c r).take m2) (p := (ahead.length : Int) + (digs (firstN c r)).length) (by simp)
      rw [List.append_assoc] at r2
      obtain ⟨x, k1, k2, k3⟩ := keyF_cut h hr (ahead ++ digs (firstN c r) ++ digs (secondN c r)) (m := m2) (by omega)
      have e3 : ahead ++ digs (firstN c r) ++ digs (secondN c r) ++ (tailB c r).take m2 = ahead ++ (digs (firstN c r) ++ (digs (secondN c r) ++ (tailB c r).take m2)) := by simp
      rw [e3] at k1
      have hz : c.cost + (zagF (secondN c r : Int)).1 = r.cost := by rw [s1, zag_zig (by omega) (by omega)]; omega
      have e4 : (((ahead ++ digs (firstN c r)).length : Nat) : Int) + ((digs (secondN c r)).length : Nat) = ((ahead ++ digs (firstN c r) ++ digs (secondN c r)).length : Nat) := by simp; omega
      rw [e2] at hg1 ⊢
      rw [r2] at hg1
      simp only [not_true_eq_false, if_false] at hg1
      rw [hz, if_neg (by omega), e4, k1] at hg1
      refine ⟨x, ?_, ?_, ?_⟩
      · rw [hg1]; simp
      · simp only [List.length_append] at k2; omega
      · simp only [List.length_append] at k3; omega
end Go.Proofs.Ytipiohkpdkandaa
