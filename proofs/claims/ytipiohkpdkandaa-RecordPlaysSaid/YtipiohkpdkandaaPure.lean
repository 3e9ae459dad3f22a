/-
  A region that draws, by an invariant on what has been carried out. Conditions: none.
-/
import Derived.Orders
import Derived.Still
import Derived.StillTail
import Derived.Tactics
namespace Go.Proofs.Ytipiohkpdkandaa
set_option linter.unusedVariables false
set_option linter.unusedSimpArgs false

section
variable {P : Program} {ops : Array Oper} {md : Region.Mode} {Q : Exit → Act → World → Prop}

/-- how many are not yet carried out -/
def unl (listed : Array Bool) : Nat := listed.toList.count false
theorem unl_set {listed : Array Bool} {i : Nat} (h : listed.getD i true = false) : unl (listed.setIfInBounds i true) + 1 = unl listed := by
  have hi : i < listed.size := by
    rcases Nat.lt_or_ge i listed.size with h' | h'
    · exact h'
    · simp [Array.getElem?_eq_none h'] at h
  have hv : listed.toList[i] = false := by simpa [hi] using h
  unfold unl
  rw [Array.toList_setIfInBounds, List.count_set (by simpa using hi), hv]
  have : 0 < listed.toList.count false := List.count_pos_iff.2 (hv ▸ List.getElem_mem _)
  rw [if_pos (by rfl), if_neg (by decide)]
  omega
theorem unl_zero {listed : Array Bool} (h : unl listed = 0) (i : Nat) : listed.getD i true = true := by
  rcases Nat.lt_or_ge i listed.size with h' | h'
  · have : false ∉ listed.toList := List.count_eq_zero.1 h
    cases hb : listed[i] with
    | true => simp [h', hb]
    | false => exact absurd (by rw [← hb]; simp) this
  · simp [Array.getElem?_eq_none h']

theorem wpAny_inv (I : Array Bool → Act → World → Prop)
    (hstep : ∀ listed a w i, I listed a w → i ∈ Region.ready md ops listed → ∃ o, ops[i]? = some o ∧ o.guard = none ∧ ∃ x v w', (execOp a.eval o).run P w = .ok x w' ∧ (x = .value v ∨ (x = .skip ∧ v = undef)) ∧ I (listed.setIfInBounds i true) (a.put o.dst v) w')
    (hend : ∀ listed a w, I listed a w → Region.ready md ops listed = [] → Q .normal a w) :
    ∀ (f : Nat) (listed : Array Bool) (a : Act) (w : World), unl listed ≤ f → I listed a w → wpAny P md ops Q f listed a w
  | 0, listed, a, w, hf, hI => by
    have hr : Region.ready md ops listed = [] := by
      refine List.eq_nil_iff_forall_not_mem.2 fun i hi => ?_
      have h1 := (mem_ready.1 hi).1
      rw [unl_zero (by omega) i] at h1
      cases h1
    exact ⟨hr, hend _ _ _ hI hr⟩
  | f + 1, listed, a, w, hf, hI => by
    refine ⟨fun hr => hend _ _ _ hI hr, fun i hi => ?_⟩
    have h1 := (mem_ready.1 hi).1
    obtain ⟨o, ho, hg, x, v, w', hrun, hx, hI'⟩ := hstep _ _ _ _ hI hi
    have hw : Region.wanted o (yielded ops a.tmps) = true := by simp [Region.wanted, hg]
    unfold wpOp
    simp only [ho, hw, if_true]
    left
    unfold Oper.wp
    rw [hrun]
    have e : ∀ (K : Act → World → Prop) (Q' : Exit → Act → World → Prop), Oper.upon P o a K Q' (.ok x w') = K (a.put o.dst v) w' := by
      intro K Q'
      rcases hx with rfl | ⟨rfl, rfl⟩ <;> simp [Oper.upon]
    rw [e]
    exact wpAny_inv I hstep hend f _ _ _ (by have := unl_set h1; omega) hI'

/-- the frame where some have been carried out: T where one of these writes, else base -/
def fillT (dsts : List (Option Tmp)) (base T : Array Value) (listed : Array Bool) : Array Value :=
  base.mapIdx fun s b => if (List.range dsts.length).any (fun (j : Nat) => listed.getD j false && dsts[j]? == some (some s)) then T.getD s undef else b
theorem fillT_get {dsts : List (Option Tmp)} {base T : Array Value} {listed : Array Bool} {s : Nat} (hs : s < base.size) :
    (fillT dsts base T listed)[s]? = some (if (List.range dsts.length).any (fun (j : Nat) => listed.getD j false && dsts[j]? == some (some s)) then T.getD s undef else base[s]) := by
  unfold fillT
  rw [Array.getElem?_mapIdx, Array.getElem?_eq_getElem hs]
  rfl
theorem fillT_in {dsts : List (Option Tmp)} {base T : Array Value} {listed : Array Bool} {s j : Nat} (hs : s < base.size) (hj : listed.getD j false = true) (hd : dsts[j]? = some (some s)) :
    (fillT dsts base T listed).getD s undef = T.getD s undef := by
  rw [Array.getD_eq_getD_getElem?, fillT_get hs, if_pos]
  · rfl
  · exact List.any_eq_true.2 ⟨j, List.mem_range.2 (List.getElem?_eq_some_iff.1 hd).1, by rw [hj, hd]; simp⟩
theorem fillT_out {dsts : List (Option Tmp)} {base T : Array Value} {listed : Array Bool} {s : Nat} (hs : s < base.size) (hd : ∀ j : Nat, dsts[j]? ≠ some (some s)) :
    (fillT dsts base T listed).getD s undef = base.getD s undef := by
  rw [Array.getD_eq_getD_getElem?, fillT_get hs, if_neg]
  · simp [Array.getD_eq_getD_getElem?, hs]
  · intro h
    obtain ⟨j, _, hj⟩ := List.any_eq_true.1 h
    simp only [Bool.and_eq_true, beq_iff_eq] at hj
    exact hd j hj.2
theorem getD_set_same {listed : Array Bool} {i : Nat} (hi : i < listed.size) : (listed.setIfInBounds i true).getD i false = true := by
  simp [hi]
theorem getD_set_other {listed : Array Bool} {i j : Nat} (h : i ≠ j) : (listed.setIfInBounds i true).getD j false = listed.getD j false := by
  simp [Array.getD_eq_getD_getElem?, Array.getElem?_setIfInBounds, h]
theorem fillT_set {dsts : List (Option Tmp)} {base T : Array Value} {listed : Array Bool} {i d : Nat} (hi : i < listed.size) (hd : dsts[i]? = some (some d)) (hs : d < base.size) :
    fillT dsts base T (listed.setIfInBounds i true) = (fillT dsts base T listed).setIfInBounds d (T.getD d undef) := by
  refine Array.ext_getElem? fun s => ?_
  by_cases hsz : s < base.size
  · rw [fillT_get hsz, Array.getElem?_setIfInBounds]
    by_cases e : d = s
    · subst e
      have hany : (List.range dsts.length).any (fun (j : Nat) => (listed.setIfInBounds i true).getD j false && dsts[j]? == some (some d)) = true :=
        List.any_eq_true.2 ⟨i, List.mem_range.2 (List.getElem?_eq_some_iff.1 hd).1, by rw [getD_set_same hi, hd]; simp⟩
      rw [if_pos hany, if_pos rfl, if_pos (by unfold fillT; rw [Array.size_mapIdx]; exact hs)]
    · rw [if_neg e, fillT_get hsz]
      congr 3
      refine List.any_congr rfl ?_
      intro j
      by_cases hij : i = j
      · subst hij
        have : (dsts[i]? == some (some s)) = false := by rw [hd]; simpa using e
        rw [this]; simp
      · rw [getD_set_other hij]
  · have h1 : (fillT dsts base T (listed.setIfInBounds i true)).size ≤ s := by simp [fillT]; omega
    have h2 : ((fillT dsts base T listed).setIfInBounds d (T.getD d undef)).size ≤ s := by simp [fillT]; omega
    rw [Array.getElem?_eq_none h1, Array.getElem?_eq_none h2]
theorem fillT_none {dsts : List (Option Tmp)} {base T : Array Value} {listed : Array Bool} {i : Nat} (hd : dsts[i]? = some none) :
    fillT dsts base T (listed.setIfInBounds i true) = fillT dsts base T listed := by
  refine Array.ext_getElem? fun s => ?_
  by_cases hsz : s < base.size
  · rw [fillT_get hsz, fillT_get hsz]
    congr 3
    refine List.any_congr rfl ?_
    intro j
    by_cases hij : i = j
    · subst hij
      have : (dsts[i]? == some (some s)) = false := by rw [hd]; rfl
      rw [this]; simp
    · rw [getD_set_other hij]
  · have h1 : (fillT dsts base T (listed.setIfInBounds i true)).size ≤ s := by simp [fillT]; omega
    have h2 : (fillT dsts base T listed).size ≤ s := by simp [fillT]; omega
    rw [Array.getElem?_eq_none h1, Array.getElem?_eq_none h2]
theorem fillT_start {dsts : List (Option Tmp)} {base T : Array Value} {n : Nat} : fillT dsts base T (Array.replicate n false) = base := by
  refine Array.ext_getElem? fun s => ?_
  by_cases hsz : s < base.size
  · rw [fillT_get hsz, if_neg]
    · simp [hsz]
    · intro h
      obtain ⟨j, _, hj⟩ := List.any_eq_true.1 h
      rw [getD_replicate_false] at hj
      simp at hj
  · rw [Array.getElem?_eq_none (by simp [fillT]; omega), Array.getElem?_eq_none (by omega)]

theorem all_spec {α : Type} (p : α → Bool) {l : List α} (h : l.all p = true) : ∀ o ∈ l, p o = true := List.all_eq_true.1 h
def lowB (l : List Oper) : Bool := (List.range l.length).all fun i => match l[i]? with | some o => o.after.all (fun e => decide (e.on < i)) | none => true
theorem low_spec {l : List Oper} (h : lowB l = true) : ∀ (i : Nat) (o : Oper), l[i]? = some o → ∀ e ∈ o.after, e.on < i := by
  intro i o ho e he
  have h1 := List.all_eq_true.1 h i (List.mem_range.2 (List.getElem?_eq_some_iff.1 ho).1)
  simp only [ho] at h1
  exact of_decide_eq_true (Array.all_eq_true'.1 h1 e he)
/-! ## Operations that leave the world alone, beside a chain of writers -/
/-- a slot that is read was written by an operation that is waited for, or by none of the region -/
def readB (l : List Oper) (o : Oper) (x : Operand) : Bool :=
  match x with
  | .tmp s => l.all (fun p => p.dst != some s) || o.after.any (fun e => Region.binds .any e && (match l[e.on]? with | some p => p.dst == some s | none => false))
  | _ => true
def opB (l : List Oper) (n i : Nat) (o : Oper) : Bool :=
  o.guard.isNone && (match o.op with | .select .. => false | _ => true) && (match o.dst with | some d => decide (d < n) | none => true) &&
  o.after.all (fun e => !Region.binds .any e || decide (e.on < i)) && o.op.operands.all (readB l o)
def writersB (l : List Oper) : List Nat → Bool
  | i :: j :: cs => (match l[j]? with | some o => o.after.any (fun e => Region.binds .any e && e.on == i) | none => false) && writersB l (j :: cs)
  | _ => true
def chainB (l : List Oper) (cs : List Nat) (n : Nat) : Bool :=
  (List.range l.length).all (fun i => match l[i]? with | some o => opB l n i o | none => true) && writersB l cs && decide cs.Nodup && cs.all (fun i => decide (i < l.length))

theorem chain_op {l : List Oper} {cs : List Nat} {n i : Nat} {o : Oper} (h : chainB l cs n = true) (ho : l[i]? = some o) : opB l n i o = true := by
  unfold chainB at h
  simp only [Bool.and_eq_true] at h
  have h1 := List.all_eq_true.1 h.1.1.1 i (List.mem_range.2 (List.getElem?_eq_some_iff.1 ho).1)
  simpa only [ho] using h1
theorem writers_next {l : List Oper} : ∀ {cs : List Nat}, writersB l cs = true → ∀ {k i j : Nat}, cs[k]? = some i → cs[k + 1]? = some j → ∃ o, l[j]? = some o ∧ ∃ e ∈ o.after, Region.binds .any e = true ∧ e.on = i
  | [], _, k, i, j, h, _ => by simp at h
  | [_], _, k, i, j, _, h => by simp at h
  | a :: b :: cs, h, 0, i, j, h1, h2 => by
    simp only [List.getElem?_cons_zero, Option.some.injEq, List.getElem?_cons_succ] at h1 h2
    subst h1; subst h2
    unfold writersB at h
    simp only [Bool.and_eq_true] at h
    cases ho : l[b]? with
    | none => rw [ho] at h; exact absurd h.1 Bool.false_ne_true
    | some o =>
      rw [ho] at h
      obtain ⟨e, he, h3⟩ := Array.any_eq_true'.1 h.1
      simp only [Bool.and_eq_true, beq_iff_eq] at h3
      exact ⟨o, rfl, e, he, h3.1, h3.2⟩
  | a :: b :: cs, h, k + 1, i, j, h1, h2 => by
    unfold writersB at h
    simp only [Bool.and_eq_true] at h
    exact writers_next h.2 (k := k) h1 h2

/-- what each operation yields, in the frame where all have been carried out -/
def valsOk (P : Program) (a : Act) (cs : List Nat) (ws : List World) : Nat → List Oper → Prop
  | _, [] => True
  | i, o :: rest => (i ∈ cs ∨ ∀ w' ∈ ws, (execOp a.eval o).run P w' = .ok (.value (a.tmps.getD (o.dst.getD 0) undef)) w') ∧ valsOk P a cs ws (i + 1) rest
theorem valsOk_at {a : Act} {cs : List Nat} {ws : List World} : ∀ {l : List Oper} {k : Nat}, valsOk P a cs ws k l → ∀ {i : Nat} {o : Oper}, l[i]? = some o → k + i ∉ cs → ∀ w' ∈ ws, (execOp a.eval o).run P w' = .ok (.value (a.tmps.getD (o.dst.getD 0) undef)) w'
  | [], _, _, i, o, h, _ => by simp at h
  | p :: l, k, hv, 0, o, h, hn => by
    simp only [List.getElem?_cons_zero, Option.some.injEq] at h
    subst h
    rcases hv.1 with h1 | h1
    · exact absurd h1 hn
    · exact h1
  | p :: l, k, hv, i + 1, o, h, hn => valsOk_at hv.2 (i := i) (by simpa using h) (by rwa [show k + 1 + i = k + (i + 1) by omega])
theorem wrote_value {P : Program} {a : Act} {w w1 : World} {l : List Oper} {i : Nat} (o : Oper) (ho : l[i]? = some o) (v : Value) (h : (execOp a.eval o).run P w = .ok (.value v) w1) (hd : ∀ d, o.dst = some d → v = a.tmps.getD d undef) :
    ∃ o, l[i]? = some o ∧ ∃ x v, (execOp a.eval o).run P w = .ok x w1 ∧ (x = .value v ∨ (x = .skip ∧ v = undef)) ∧ ∀ d, o.dst = some d → v = a.tmps.getD d undef := ⟨o, ho, _, v, h, .inl rfl, hd⟩
theorem wrote_skip {P : Program} {a : Act} {w w1 : World} {l : List Oper} {i : Nat} (o : Oper) (ho : l[i]? = some o) (h : (execOp a.eval o).run P w = .ok .skip w1) (hd : o.dst = none) :
    ∃ o, l[i]? = some o ∧ ∃ x v, (execOp a.eval o).run P w = .ok x w1 ∧ (x = .value v ∨ (x = .skip ∧ v = undef)) ∧ ∀ d, o.dst = some d → v = a.tmps.getD d undef := ⟨o, ho, _, undef, h, .inr ⟨rfl, rfl⟩, fun d h => by rw [hd] at h; cases h⟩
/-- what the writers do, one behind another -/
def writesOk (P : Program) (a : Act) (l : List Oper) : List Nat → List World → Prop
  | [], [_] => True
  | i :: cs, w :: w1 :: ws => (∃ o, l[i]? = some o ∧ ∃ x v, (execOp a.eval o).run P w = .ok x w1 ∧ (x = .value v ∨ (x = .skip ∧ v = undef)) ∧ ∀ d, o.dst = some d → v = a.tmps.getD d undef) ∧ writesOk P a l cs (w1 :: ws)
  | _, _ => False
theorem writesOk_len {a : Act} {l : List Oper} : ∀ {cs : List Nat} {ws : List World}, writesOk P a l cs ws → ws.length = cs.length + 1
  | [], [_], _ => rfl
  | [], [], h => h.elim
  | [], _ :: _ :: _, h => h.elim
  | _ :: _, [], h => h.elim
  | _ :: _, [_], h => h.elim
  | i :: cs, w :: w1 :: ws, h => by have := writesOk_len h.2; simp at this ⊢; omega
theorem writesOk_at {a : Act} {l : List Oper} : ∀ {cs : List Nat} {ws : List World}, writesOk P a l cs ws → ∀ {k i : Nat} {w w1 : World}, cs[k]? = some i → ws[k]? = some w → ws[k + 1]? = some w1 →
    ∃ o, l[i]? = some o ∧ ∃ x v, (execOp a.eval o).run P w = .ok x w1 ∧ (x = .value v ∨ (x = .skip ∧ v = undef)) ∧ ∀ d, o.dst = some d → v = a.tmps.getD d undef
  | [], _, _, k, i, _, _, h, _, _ => by simp at h
  | _ :: _, [], h, _, _, _, _, _, _, _ => h.elim
  | _ :: _, [_], h, _, _, _, _, _, _, _ => h.elim
  | j :: cs, x :: y :: ws, h, 0, i, w, w1, h1, h2, h3 => by
    simp only [List.getElem?_cons_zero, Option.some.injEq, List.getElem?_cons_succ] at h1 h2 h3
    subst h1; subst h2; subst h3
    exact h.1
  | j :: cs, x :: y :: ws, h, k + 1, i, w, w1, h1, h2, h3 => writesOk_at h.2 (k := k) (by simpa using h1) (by simpa using h2) (by simpa using h3)

theorem fillT_all {dsts : List (Option Tmp)} {base T : Array Value} {l1 l2 : Array Bool} (h : ∀ j, j < dsts.length → l1.getD j false = l2.getD j false) : fillT dsts base T l1 = fillT dsts base T l2 := by
  refine Array.ext_getElem? fun s => ?_
  by_cases hsz : s < base.size
  · rw [fillT_get hsz, fillT_get hsz]
    congr 3
    refine Bool.eq_iff_iff.2 ⟨fun hh => ?_, fun hh => ?_⟩
    · obtain ⟨j, hj, hx⟩ := List.any_eq_true.1 hh
      exact List.any_eq_true.2 ⟨j, hj, by rw [← h j (List.mem_range.1 hj)]; exact hx⟩
    · obtain ⟨j, hj, hx⟩ := List.any_eq_true.1 hh
      exact List.any_eq_true.2 ⟨j, hj, by rw [h j (List.mem_range.1 hj)]; exact hx⟩
  · rw [Array.getElem?_eq_none (by simp [fillT]; omega), Array.getElem?_eq_none (by simp [fillT]; omega)]
theorem getD_replicate_true {n j : Nat} (h : j < n) : (Array.replicate n true).getD j false = true := by simp [h]

/-- Operations that leave the world alone whatever it is, and writers, each of which waits for the one ahead. -/
theorem wp_region_chain {id : Nat} {l : List Oper} {base T : Array Value} {ds : List Deferred} {w W2 : World} (cs : List Nat) (ws : List World) (hm : P.follows .mixedOrders = true)
    (hB : chainB l cs base.size = true) (hT : fillT (l.map (·.dst)) base T (Array.replicate l.length true) = T) (h0 : ws[0]? = some w.drew) (h2 : ws[cs.length]? = some W2)
    (hval : valsOk P ⟨T, ds⟩ cs ws 0 l) (hwr : writesOk P ⟨T, ds⟩ l cs ws)
    (hQ : Q .normal ⟨T, ds⟩ W2) : (Code.region id l.toArray true).wp P Q ⟨base, ds⟩ w := by
  have hlen := writesOk_len hwr
  have hwB : writersB l cs = true := by unfold chainB at hB; simp only [Bool.and_eq_true] at hB; exact hB.1.1.2
  have hnd : cs.Nodup := by unfold chainB at hB; simp only [Bool.and_eq_true] at hB; exact of_decide_eq_true hB.1.2
  have hcl : ∀ i ∈ cs, i < l.length := by
    unfold chainB at hB; simp only [Bool.and_eq_true] at hB
    intro i hi
    exact of_decide_eq_true (List.all_eq_true.1 hB.2 i hi)
  have hinj : ∀ {j k i : Nat}, cs[j]? = some i → cs[k]? = some i → j = k := fun h1 h2 => by
    obtain ⟨a1, a2⟩ := List.getElem?_eq_some_iff.1 h1
    obtain ⟨b1, b2⟩ := List.getElem?_eq_some_iff.1 h2
    exact (List.getElem_inj hnd).1 (a2.trans b2.symm)
  -- an operation's values at the frame so far are those at the last one
  have hev : ∀ {i : Nat} {o : Oper} {listed : Array Bool}, l[i]? = some o → (∀ e ∈ o.after, Region.binds .any e = true → listed.getD e.on false = true) →
      execOp (Act.eval ⟨fillT (l.map (·.dst)) base T listed, ds⟩) o = execOp (Act.eval ⟨T, ds⟩) o := by
    intro i o listed ho hall
    have hop := chain_op hB ho
    unfold opB at hop
    simp only [Bool.and_eq_true] at hop
    obtain ⟨⟨⟨⟨_, hsel⟩, _⟩, _⟩, hrd⟩ := hop
    refine execOp_congr o (fun c b e => by rw [e] at hsel; exact absurd hsel Bool.false_ne_true) fun x hx => ?_
    cases x with
    | tmp s =>
      have h1 := Array.all_eq_true'.1 hrd (.tmp s) hx
      unfold readB at h1
      show (fillT (l.map (·.dst)) base T listed).getD s undef = T.getD s undef
      by_cases hs : s < base.size
      · rcases Bool.or_eq_true _ _ ▸ h1 with h1 | h1
        · rw [← hT]
          have hno : ∀ j : Nat, (l.map (·.dst))[j]? ≠ some (some s) := by
            intro j hj
            rw [List.getElem?_map, Option.map_eq_some_iff] at hj
            obtain ⟨p, hp, hps⟩ := hj
            have := List.all_eq_true.1 h1 p (List.mem_of_getElem? hp)
            rw [hps] at this
            simp at this
          rw [fillT_out hs hno, fillT_out hs hno]
        · obtain ⟨e, he, h3⟩ := Array.any_eq_true'.1 h1
          simp only [Bool.and_eq_true] at h3
          obtain ⟨hb, h3⟩ := h3
          cases hp : l[e.on]? with
          | none => rw [hp] at h3; exact absurd h3 Bool.false_ne_true
          | some p =>
            rw [hp] at h3
            exact fillT_in hs (hall e he hb) (by rw [List.getElem?_map, hp]; simpa using h3)
      · have hs2 : ¬ s < T.size := by rw [← hT]; simpa [fillT] using hs
        have hs3 : ¬ s < (fillT (l.map (·.dst)) base T listed).size := by simpa [fillT] using hs
        simp only [Array.getD, hs2, hs3, dite_false]
    | const v => rfl
    | global g => rfl
    | func f => rfl
  refine wp_region_any hm ?_
  refine wpAny_inv (fun listed a w' => listed.size = l.length ∧ a = ⟨fillT (l.map (·.dst)) base T listed, ds⟩ ∧ ∃ k, k ≤ cs.length ∧ ws[k]? = some w' ∧ ∀ j i, cs[j]? = some i → (listed.getD i false = true ↔ j < k)) ?_ ?_ _ _ _ _ ?_ ?_
  · rintro listed a w' i ⟨hsz, rfl, k, hk, hw, hlk⟩ hi
    obtain ⟨hun, o, ho, hall⟩ := mem_ready.1 hi
    have hol : l[i]? = some o := by simpa using ho
    have hil : i < l.length := (List.getElem?_eq_some_iff.1 hol).1
    have hop := chain_op hB hol
    unfold opB at hop
    simp only [Bool.and_eq_true] at hop
    obtain ⟨⟨⟨⟨hgd, _⟩, hdb⟩, _⟩, _⟩ := hop
    have hdi : (l.map (·.dst))[i]? = some o.dst := by simp [hol]
    have hunf := getD_both hun
    have hfr : ∀ v, (∀ d, o.dst = some d → v = T.getD d undef) → (⟨fillT (l.map (·.dst)) base T (listed.setIfInBounds i true), ds⟩ : Act) = (⟨fillT (l.map (·.dst)) base T listed, ds⟩ : Act).put o.dst v := by
      intro v hv
      cases hd : o.dst with
      | none => rw [fillT_none (by rw [hdi, hd])]; rfl
      | some d =>
        rw [hd] at hdb
        rw [fillT_set (by omega) (by rw [hdi, hd]) (of_decide_eq_true hdb), hv d hd]
        rfl
    refine ⟨o, ho, Option.isNone_iff_eq_none.1 hgd, ?_⟩
    rw [hev hol hall]
    by_cases him : i ∈ cs
    · obtain ⟨j, hj⟩ := List.getElem?_of_mem him
      have hjl : j < cs.length := (List.getElem?_eq_some_iff.1 hj).1
      have hjk : ¬ j < k := fun h => by rw [(hlk j i hj).2 h] at hunf; cases hunf
      obtain rfl : j = k := by
        rcases Nat.lt_or_ge k j with h | h
        · obtain ⟨j', rfl⟩ : ∃ j', j = j' + 1 := ⟨j - 1, by omega⟩
          obtain ⟨i', hi'⟩ : ∃ i', cs[j']? = some i' := ⟨_, List.getElem?_eq_getElem (by omega)⟩
          obtain ⟨o', ho', e, he, hb, rfl⟩ := writers_next hwB hi' hj
          rw [hol] at ho'
          obtain rfl := Option.some.inj ho'
          have := (hlk j' _ hi').1 (hall e he hb)
          omega
        · omega
      obtain ⟨w1, hw1⟩ : ∃ w1, ws[j + 1]? = some w1 := ⟨_, List.getElem?_eq_getElem (by omega)⟩
      obtain ⟨o', ho', x, v, hrun, hx, hv⟩ := writesOk_at hwr hj hw hw1
      rw [hol] at ho'
      obtain rfl := Option.some.inj ho'
      refine ⟨x, v, w1, hrun, hx, by simpa using hsz, (hfr v hv).symm, j + 1, by omega, hw1, fun j' i' hi' => ?_⟩
      by_cases e : i = i'
      · subst e
        obtain rfl := hinj hj hi'
        rw [getD_set_same (by omega)]
        simp
      · rw [getD_set_other e, hlk j' i' hi']
        have : j' ≠ j := fun e2 => e (by subst e2; rw [hj] at hi'; exact Option.some.inj hi')
        omega
    · have hrun := valsOk_at hval hol (by simpa using him) w' (List.mem_of_getElem? hw)
      refine ⟨_, _, w', hrun, .inl rfl, by simpa using hsz, (hfr _ (fun d hd => by rw [hd]; rfl)).symm, k, hk, hw, fun j' i' hi' => ?_⟩
      rw [getD_set_other (fun e => him (by rw [e]; exact List.mem_of_getElem? hi')), hlk j' i' hi']
  · rintro listed a w' ⟨hsz, rfl, k, hk, hw, hlk⟩ hr
    have hfull : ∀ i, i < l.length → listed.getD i false = true := by
      intro i
      induction i using Nat.strongRecOn with
      | _ i ih =>
        intro hi
        cases h : listed.getD i false with
        | true => rfl
        | false =>
          obtain ⟨o, ho⟩ : ∃ o, l[i]? = some o := ⟨_, List.getElem?_eq_getElem (by omega)⟩
          have hop := chain_op hB ho
          unfold opB at hop
          simp only [Bool.and_eq_true] at hop
          have hlow : ∀ e ∈ o.after, Region.binds .any e = true → e.on < i := fun e he hb => by
            have h9 := Array.all_eq_true'.1 hop.1.2 e he
            rw [hb] at h9
            exact of_decide_eq_true (by simpa using h9)
          have : i ∈ Region.ready .any l.toArray listed := mem_ready.2 ⟨getD_in (listed := listed) (i := i) (by rw [hsz]; exact hi) h, o, by simpa using ho, fun e he hb => ih _ (hlow e he hb) (by have h9 := hlow e he hb; omega)⟩
          rw [hr] at this
          cases this
    obtain rfl : k = cs.length := by
      rcases Nat.lt_or_ge k cs.length with h | h
      · obtain ⟨i', hi'⟩ : ∃ i', cs[k]? = some i' := ⟨_, List.getElem?_eq_getElem h⟩
        have := (hlk k i' hi').1 (hfull i' (hcl i' (List.mem_of_getElem? hi')))
        omega
      · omega
    rw [h2] at hw
    obtain rfl := Option.some.inj hw
    rw [fillT_all (l2 := Array.replicate l.length true) (fun j hj => by rw [hfull j (by simpa using hj), getD_replicate_true (by simpa using hj)]), hT]
    exact hQ
  · unfold unl
    simp
  · refine ⟨by simp, by rw [fillT_start], 0, Nat.zero_le _, h0, fun j i hj => ?_⟩
    rw [show l.toArray.size = l.length by simp, getD_replicate_false]
    simp
end
end Go.Proofs.Ytipiohkpdkandaa
