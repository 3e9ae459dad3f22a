/-
  The records that a coder takes, and the bytes of each (reevelaw06.written): walk. Conditions: none.
-/
import Derived.Test.YtipiohkpdkandaaRecBack
namespace Go.Proofs.Ytipiohkpdkandaa
set_option linter.unusedVariables false
set_option linter.unusedSimpArgs false
open Go.RowKit

/-- the records of a list that are taken -/
noncomputable def accR (c : CC) : List Rec → List Rec
  | [] => []
  | r :: l => if (putF c r).2.2 = 0 then r :: accR (putC c r) l else accR c l
/-- the bytes of each -/
noncomputable def rowsB (c : CC) : List Rec → List (List Int)
  | [] => []
  | r :: rs => putB c r :: rowsB (putC c r) rs
theorem rowsB_length (rs : List Rec) : ∀ c, (rowsB c rs).length = rs.length := by
  induction rs with
  | nil => intro c; rfl
  | cons r rs ih => intro c; simp [rowsB, ih]
theorem rowsB_snoc (rs : List Rec) (r : Rec) : ∀ c, rowsB c (rs ++ [r]) = rowsB c rs ++ [putB (stC c rs) r] := by
  induction rs with
  | nil => intro c; rfl
  | cons x rs ih => intro c; show putB c x :: rowsB (putC c x) (rs ++ [r]) = _; rw [ih]; rfl
theorem rowsB_get {rs : List Rec} : ∀ {c : CC} {i : Nat} {r : Rec}, rs[i]? = some r → (rowsB c rs)[i]? = some (putB (stC c (rs.take i)) r) := by
  induction rs with
  | nil => intro c i r h; simp at h
  | cons x rs ih =>
    intro c i r h
    cases i with
    | zero => simp at h; subst h; rfl
    | succ i => exact ih (by simpa using h)
theorem rowsB_flat (rs : List Rec) : ∀ c, (rowsB c rs).flatten = stB c rs := by
  induction rs with
  | nil => intro c; rfl
  | cons r rs ih => intro c; simp [rowsB, stB, ih]
theorem accR_snoc_yes (l : List Rec) (r : Rec) : ∀ c, (putF (stC c (accR c l)) r).2.2 = 0 → accR c (l ++ [r]) = accR c l ++ [r] := by
  induction l with
  | nil => intro c h; simp only [accR, stC] at h; simp [accR, h]
  | cons x l ih =>
    intro c h
    by_cases hx : (putF c x).2.2 = 0
    · simp only [accR, hx, if_true, stC] at h ⊢
      show accR c (x :: (l ++ [r])) = _
      simp only [accR, hx, if_true]
      rw [ih _ h]; rfl
    · simp only [accR, hx, if_false] at h ⊢
      show accR c (x :: (l ++ [r])) = _
      simp only [accR, hx, if_false]
      exact ih _ h
theorem accR_snoc_no (l : List Rec) (r : Rec) : ∀ c, (putF (stC c (accR c l)) r).2.2 ≠ 0 → accR c (l ++ [r]) = accR c l := by
  induction l with
  | nil => intro c h; simp only [accR, stC] at h; simp [accR, h]
  | cons x l ih =>
    intro c h
    by_cases hx : (putF c x).2.2 = 0
    · simp only [accR, hx, if_true, stC] at h ⊢
      show accR c (x :: (l ++ [r])) = _
      simp only [accR, hx, if_true]
      rw [ih _ h]
    · simp only [accR, hx, if_false] at h ⊢
      show accR c (x :: (l ++ [r])) = _
      simp only [accR, hx, if_false]
      exact ih _ h
theorem accR_ok (l : List Rec) : ∀ c, okAll c (accR c l) := by
  induction l with
  | nil => intro c; trivial
  | cons x l ih =>
    intro c
    by_cases hx : (putF c x).2.2 = 0
    · simp only [accR, hx, if_true]
      rcases putF_cases c x with ⟨h1, h2, _⟩ | ⟨e, he, h⟩
      · exact ⟨h1, h2, ih _⟩
      · rw [h] at hx; exact absurd hx he
    · simp only [accR, hx, if_false]; exact ih _
theorem accR_all (l : List Rec) : ∀ c, okAll c l → accR c l = l := by
  induction l with
  | nil => intro c _; rfl
  | cons x l ih =>
    intro c h
    have hp := putF_yes h.1 h.2.1
    simp only [accR, hp, if_true]
    rw [ih _ h.2.2]
theorem accR_keys {l : List Rec} {r : Rec} : ∀ {c : CC}, r ∈ accR c l → r ∈ l := by
  induction l with
  | nil => intro c h; simp [accR] at h
  | cons x l ih =>
    intro c h
    by_cases hx : (putF c x).2.2 = 0
    · simp only [accR, hx, if_true] at h
      rcases List.mem_cons.1 h with rfl | h
      · exact List.mem_cons_self
      · exact List.mem_cons_of_mem _ (ih h)
    · simp only [accR, hx, if_false] at h
      exact List.mem_cons_of_mem _ (ih h)
theorem accR_le (l : List Rec) : ∀ c, (accR c l).length ≤ l.length := by
  induction l with
  | nil => intro c; simp [accR]
  | cons x l ih =>
    intro c
    by_cases hx : (putF c x).2.2 = 0
    · simp only [accR, hx, if_true, List.length_cons]; have := ih (putC c x); omega
    · simp only [accR, hx, if_false, List.length_cons]; have := ih c; omega

/-- Slices of bytes, each a row of its own. -/
def RowsAt (w : World) (vs : List Value) (bss : List (List Int)) : Prop :=
  vs.length = bss.length ∧ ∀ (j : Nat) (v : Value) (bs : List Int), vs[j]? = some v → bss[j]? = some bs → ∃ B k, v = .slice B bs.length k ∧ Row w 5 B bs.length k (nums .u8 bs)
/-- the blocks of such slices -/
def inB (vs : List Value) (b : Nat) : Prop := ∃ v ∈ vs, v.ownBlock = some b
theorem RowsAt.nil (w : World) : RowsAt w [] [] := ⟨rfl, fun j v bs h => by simp at h⟩
theorem RowsAt.block {w w' : World} {vs : List Value} {bss : List (List Int)} (h : RowsAt w vs bss) (hb : ∀ g, inB vs g → w'.heap[g]? = w.heap[g]?) : RowsAt w' vs bss :=
  ⟨h.1, fun j v bs hv hbs => by
    obtain ⟨B, k, rfl, hr⟩ := h.2 j v bs hv hbs
    exact ⟨B, k, rfl, hr.block fun g hg => hb g ⟨_, List.mem_of_getElem? hv, by rw [ownBlock_slice]; exact hg⟩⟩⟩
theorem RowsAt.lt {w : World} {vs : List Value} {bss : List (List Int)} (h : RowsAt w vs bss) {g : Nat} (hg : inB vs g) : g < w.heap.size := by
  obtain ⟨v, hv, hb⟩ := hg
  obtain ⟨j, hj⟩ := List.getElem?_of_mem hv
  have hjl := (List.getElem?_eq_some_iff.1 hj).1
  obtain ⟨bs, hbs⟩ : ∃ bs, bss[j]? = some bs := ⟨_, List.getElem?_eq_getElem (by rw [← h.1]; exact hjl)⟩
  obtain ⟨B, k, rfl, hr⟩ := h.2 j v bs hj hbs
  exact hr.lt (by rw [← ownBlock_slice]; exact hb)
theorem RowsAt.snoc {w : World} {vs : List Value} {bss : List (List Int)} (h : RowsAt w vs bss) {B : Option Addr} {bs : List Int} {m k : Nat} (hm : bs.length = m) (hr : Row w 5 B m k (nums .u8 bs)) : RowsAt w (vs ++ [.slice B m k]) (bss ++ [bs]) := by
  subst hm
  refine ⟨by simp [h.1], fun j v b hv hb => ?_⟩
  by_cases hj : j < vs.length
  · rw [List.getElem?_append_left hj] at hv
    rw [List.getElem?_append_left (by rw [← h.1]; exact hj)] at hb
    exact h.2 j v b hv hb
  · have h1 := (List.getElem?_eq_some_iff.1 hv).1
    simp at h1
    obtain rfl : j = vs.length := by omega
    rw [List.getElem?_append_right (by omega)] at hv
    rw [List.getElem?_append_right (by rw [h.1]; exact Nat.le_refl _), h.1] at hb
    simp at hv hb
    subst hv; subst hb
    exact ⟨B, k, rfl, hr⟩
theorem inB_snoc {vs : List Value} {B : Option Addr} {m k b : Nat} : inB (vs ++ [.slice B m k]) b ↔ inB vs b ∨ blk B = some b := by
  constructor
  · rintro ⟨v, hv, hb⟩
    rcases List.mem_append.1 hv with h | h
    · exact .inl ⟨v, h, hb⟩
    · rw [List.mem_singleton.1 h, ownBlock_slice] at hb; exact .inr hb
  · rintro (⟨v, hv, hb⟩ | h)
    · exact ⟨v, List.mem_append_left _ hv, hb⟩
    · exact ⟨_, List.mem_append_right _ (List.mem_singleton.2 rfl), by rw [ownBlock_slice]; exact h⟩
/-- What a block holds has one type. -/
theorem cells_ty {w : World} {g : Nat} {c1 c2 : Array Value} {t1 t2 : TypeId} (h1 : w.heap[g]? = some (.cells c1 t1 (0, 0))) (h2 : w.heap[g]? = some (.cells c2 t2 (0, 0))) : t1 = t2 := by
  rw [h1] at h2
  injection h2 with h2
  injection h2
theorem Row.ty {w : World} {e : TypeId} {A : Option Addr} {n k : Nat} {xs : List Value} (h : Row w e A n k xs) {g : Nat} (hg : blk A = some g) : ∃ cur, w.heap[g]? = some (.cells cur e (0, 0)) := by
  rcases h.form with ⟨rfl, _⟩ | ⟨g1, cur, rfl, e1, _⟩
  · cases hg
  · injection hg with hg; subst hg; exact ⟨cur, e1⟩
theorem RowN.ty {w : World} {e : TypeId} {kk : Nat} {A : Option Addr} {n k : Nat} {xs : List Value} (h : RowN w e kk A n k xs) {g : Nat} (hg : blk A = some g) : ∃ cur, w.heap[g]? = some (.cells cur e (0, 0)) := by
  rcases h.form with ⟨rfl, _⟩ | ⟨g1, cur, rfl, e1, _⟩
  · cases hg
  · injection hg with hg; subst hg; exact ⟨cur, e1⟩
theorem RowsAt.ty {w : World} {vs : List Value} {bss : List (List Int)} (h : RowsAt w vs bss) {g : Nat} (hg : inB vs g) : ∃ cur, w.heap[g]? = some (.cells cur 5 (0, 0)) := by
  obtain ⟨v, hv, hb⟩ := hg
  obtain ⟨j, hj⟩ := List.getElem?_of_mem hv
  have hjl := (List.getElem?_eq_some_iff.1 hj).1
  obtain ⟨bs, hbs⟩ : ∃ bs, bss[j]? = some bs := ⟨_, List.getElem?_eq_getElem (by rw [← h.1]; exact hjl)⟩
  obtain ⟨B, k, rfl, hr⟩ := h.2 j v bs hj hbs
  exact hr.ty (by rw [← ownBlock_slice]; exact hb)
theorem OwnC.regrow {F G : Nat → Prop} {B : Nat} {W w w1 : World} {p : Nat} {c : CC} {U : Nat → Prop} (h : OwnC F B W w p c) (hB : B ≤ W.heap.size) (hu : Upd w w1 U) (hU : ∀ b, b < w.heap.size → U b → F b ∧ B ≤ b)
    (hG : ∀ b, G b → b < w1.heap.size ∧ (F b ∨ w.heap.size ≤ b)) : OwnC G B W w1 p c := by
  have h' := h.upd hu hU hB
  obtain ⟨S, h1, h2, h3, h4⟩ := h
  refine ⟨S, h1.kept hu (fun b hb hUb => (h2 b hb).2 (hU b (h1.lt hb) hUb).1), fun b hb => ⟨(h2 b hb).1, fun hg => ?_⟩, fun b hg => (hG b hg).1, h'.bel⟩
  rcases (hG b hg).2 with hh | hh
  · exact (h2 b hb).2 hh
  · have := h1.lt hb; omega
theorem infoSl : (Try.prog.info? 25).map (fun i => (i.zero, i.size, i.bytes)) = some (some (.slice none 0 0), 1, 24) := by kernel_rfl
/-- the coder of a policy, at the beginning -/
def polC (P : Pol) : CC := ⟨⟨P.slots.toNat, [], []⟩, 0, 0⟩
def WrittenIs (w : World) (P : Pol) (l : List Rec) (e : Ending) (w' : World) : Prop :=
  ∃ A1 k1 A2 k2 vs m, (accR (polC P) l).length = m ∧ e = .returned (.tuple #[.slice A1 m k1, .slice A2 m k2, .bool true]) ∧ RowN w' 34 4 A1 m k1 (recsV (accR (polC P) l)) ∧ Row w' 25 A2 m k2 vs ∧ RowsAt w' vs (rowsB (polC P) (accR (polC P) l)) ∧
    (∀ g, blk A1 = some g ∨ blk A2 = some g ∨ inB vs g → w.heap.size ≤ g) ∧ Below w.heap.size w w'
def WrittenNo (w : World) (e : Ending) (w' : World) : Prop := e = .returned (.tuple #[.slice none 0 0, .slice none 0 0, .bool false]) ∧ Below w.heap.size w w'
theorem take_step {l : List Rec} {i : Nat} {x : Rec} (hx : l[i]? = some x) : l.take (i + 1) = l.take i ++ [x] := take_succ_get hx

set_option maxRecDepth 100000 in
set_option maxHeartbeats 8000000 in
theorem written_yes (W : World) (P : Pol) (hok : P.ok) (A : Option Addr) (n cp : Nat) (l : List Rec) (ra : RecsArg W A n cp l) :
    Calls Try.prog 39 #[.agg P.cells.toArray, .slice A n cp] W (WrittenIs W P l) := by
  have hroom := ra.room
  have RA := Lib.hid ra
  have hlen := Lib.hid ra.len
  have HCI : Hid (CInv (polC P)) := by
    have h := hok.2.2.2.1
    exact CInv.new (by omega) (by omega)
  clear ra
  obtain ⟨W2, hW2⟩ : ∃ W2, (W.alloc (.cells P.cells.toArray 23)) = W2 := ⟨_, rfl⟩
  have hb2 : Below W.heap.size W W2 := by rw [← hW2]; exact ((Below.refl _ _).alloc (Nat.le_refl _) _)
  have hz2 : W2.heap.size = W.heap.size + 1 := by rw [← hW2, alloc_size]
  have hx1 : W2.heap[W.heap.size]? = some (.cells P.cells.toArray 23 (0, 0)) := by rw [← hW2]; exact heap_alloc_new W _
  have HX := Lib.hid (And.intro hb2 (And.intro hz2 hx1))
  have hnew : Calls Try.prog 18 #[.agg P.cells.toArray] W2 fun e w' => ∃ p, e = .returned (.tuple #[.pointer (some ⟨p, 0, none⟩), .int .i64 0]) ∧ OwnC (fun _ => False) W2.heap.size W2 w' p (polC P) := ownC_new P hok (Below.refl _ _) (Nat.le_refl _)
  have HL := Lib.hid hx1
  clear hb2 hz2 hx1 hok
  have hpsz : (Try.prog.info? 23).map (·.size) = some 10 := by kernel_rfl
  have HZ := Lib.hid hpsz
  clear hpsz
  go_enter Try.func39, Try.ntmps39
  go_upto_region 1 with fail
  clear hW2
  go_wp2_with ((with_reducible refine at_list ?_); refine wpList_load_row rfl 23 (.tmp 2) rfl W.heap.size rfl 23 P.cells.toArray (0, 0) _ HL.out Try.underlying23 rfl HZ.out ?_)
  refine hnew.mono ?_
  rintro e w2 ⟨p, rfl, o⟩
  clear hnew
  go_wp2_with fail
  go_loopg [9, 10, 11] n (fun gk v9 v10 v11 wr => ∃ (i m k1 k2 : Nat) (A1 A2 : Option Addr) (vs : List Value), v11 = .int .i64 i ∧ v9 = .slice A1 m k1 ∧ v10 = .slice A2 m k2 ∧ gk + i = n ∧ m ≤ i ∧
    OwnC (fun b => blk A1 = some b ∨ blk A2 = some b ∨ inB vs b) W2.heap.size W2 wr p (stC (polC P) (accR (polC P) (l.take i))) ∧ RowN wr 34 4 A1 m k1 (recsV (accR (polC P) (l.take i))) ∧ Row wr 25 A2 m k2 vs ∧ RowsAt wr vs (rowsB (polC P) (accR (polC P) (l.take i))) ∧
    (∀ g, blk A1 = some g ∨ blk A2 = some g ∨ inB vs g → W2.heap.size ≤ g) ∧ Hid ((accR (polC P) (l.take i)).length = m))
  case atStart => exact ⟨0, 0, 0, 0, none, none, [], rfl, rfl, rfl, by omega, Nat.le_refl _, o.mono (fun b h => by rcases h with h | h | ⟨v, h, _⟩ <;> simp [blk] at h), RowN.nil _ _ _, Row.nil _ _, RowsAt.nil _, (fun g h => by rcases h with h | h | ⟨v, h, _⟩ <;> simp [blk] at h), rfl⟩
  case round =>
    clear o
    obtain ⟨i, m, k1, k2, A1, A2, vs, rfl, rfl, rfl, hi, hmi, o, hr1, hr2, hvs, hA, hml⟩ := hrel
    by_cases hin : i < n
    · have hini : (i : Int) < n := by omega
      obtain ⟨b, ob, x, rfl, hx, hxm, hcell⟩ := RA.out.at hin
      obtain ⟨g0, g1, g2, g3⟩ := hcell wr (HX.out.1.trans (o.bel.mono (by have := HX.out.2.1; omega)))
      have hszr : W2.heap.size ≤ wr.heap.size := o.bel.size
      have hput := ownC_put o (Nat.le_refl _) x hxm
      unfold PutRow Rec.val at hput
      have HCE := Lib.hid hcell
      have HR := Lib.hid (And.intro hr1 (And.intro hr2 (And.intro hvs hA)))
      have HTK := Lib.hid (take_step hx)
      clear hcell hx o hr1 hr2 hvs hA
      rcases putF_cases (stC (polC P) (accR (polC P) (l.take i))) x with ⟨hr, ht, hpf⟩ | ⟨er, her, hpf⟩
      · rw [hpf] at hput
        have HACC : Hid (accR (polC P) (l.take (i + 1)) = accR (polC P) (l.take i) ++ [x]) := by
          show _ = _
          rw [HTK.out]
          exact accR_snoc_yes _ _ _ (by rw [hpf])
        obtain ⟨mb, hmb⟩ : ∃ mb, (putB (stC (polC P) (accR (polC P) (l.take i))) x).length = mb := ⟨_, rfl⟩
        dsimp only at hput
        rw [hmb] at hput
        have HMB := Lib.hid hmb
        clear hpf hmb hr ht
        go_wp2_with fail
        refine hput.mono ?_
        rintro e w4 ⟨B, kB, ⟨rfl, rB, aB⟩, o, k4⟩
        have h1 := HR.out.1.block (fun g hg => k4 g (.inl hg))
        have h2 := HR.out.2.1.keeps k4 (fun g hg => .inr (.inl hg))
        have h3 := HR.out.2.2.1.block (fun g hg => k4 g (.inr (.inr hg)))
        obtain ⟨g0, g1, g2, g3⟩ := HCE.out w4 (HX.out.1.trans (o.bel.mono (by have := HX.out.2.1; omega)))
        have HO := Lib.hid (And.intro o (And.intro h1 (And.intro h2 (And.intro h3 (And.intro rB aB)))))
        clear hput o k4 h2 h3 rB aB
        go_wp2_with (at_builtin; go_must (refine rowN_append1 rfl (.tmp 38) (.tmp 43) 24 34 (.agg #[.int .i64 0, .string ByteArray.empty, .int .i64 0, .int .i64 0]) 4 40 rfl Try.underlying24 infoRec rfl (by decide) (by decide) A1 m k1 _ #[.int .i64 x.tick, .string x.key, .int .i64 x.cost, .int .i64 x.verdict] rfl rfl rfl h1 (recsV_oneCell x) (by omega) ?_))
        intro A3 k3 w5 a1 a2 a3
        have n12 : ∀ g, blk A1 = some g → blk A2 ≠ some g := fun g hg h => by
          obtain ⟨c1, e1⟩ := HO.out.2.1.ty hg
          obtain ⟨c2, e2⟩ := HO.out.2.2.1.ty h
          exact absurd (cells_ty e1 e2) (by decide)
        have n1v : ∀ g, blk A1 = some g → ¬ inB vs g := fun g hg h => by
          obtain ⟨c1, e1⟩ := HO.out.2.1.ty hg
          obtain ⟨c2, e2⟩ := HO.out.2.2.2.1.ty h
          exact absurd (cells_ty e1 e2) (by decide)
        have n1B : ∀ g, blk A1 = some g → blk B ≠ some g := fun g hg h => by
          obtain ⟨c1, e1⟩ := HO.out.2.1.ty hg
          obtain ⟨c2, e2⟩ := HO.out.2.2.2.2.1.ty h
          exact absurd (cells_ty e1 e2) (by decide)
        have h2 := HO.out.2.2.1.kept a2 (fun g hg hg1 => n12 g hg1 hg)
        have h3 := HO.out.2.2.2.1.block (fun g hg => a2.block g (HO.out.2.2.2.1.lt hg) (fun hg1 => n1v g hg1 hg))
        have h4 := HO.out.2.2.2.2.1.kept a2 (fun g hg hg1 => n1B g hg1 hg)
        have o5 : OwnC (fun g => blk A3 = some g ∨ blk A2 = some g ∨ inB (vs ++ [.slice B mb kB]) g) W2.heap.size W2 w5 p (putC (stC (polC P) (accR (polC P) (l.take i))) x) := by
          refine HO.out.1.regrow (Nat.le_refl _) a2 (fun g _ hg => ⟨.inl (.inl hg), HR.out.2.2.2 g (.inl hg)⟩) ?_
          rintro g (hg | hg | hg)
          · refine ⟨a1.lt hg, ?_⟩
            rcases a3 with e | ⟨g', e, hg'⟩
            · exact .inl (.inl (.inl (by rw [← e]; exact hg)))
            · rw [e] at hg; injection hg with hg; right; omega
          · exact ⟨h2.lt hg, .inl (.inl (.inr (.inl hg)))⟩
          · rcases inB_snoc.1 hg with hg | hg
            · exact ⟨h3.lt hg, .inl (.inl (.inr (.inr hg)))⟩
            · exact ⟨h4.lt hg, .inl (.inr hg)⟩
        have HY := Lib.hid (And.intro a1 (And.intro a2 (And.intro a3 (And.intro o5 (And.intro h2 (And.intro h3 h4))))))
        clear a1 a2 a3 n12 n1v n1B h3 h4 o5 h1 g0 g1 g2 g3
        go_wp2_with (at_builtin; go_must (refine row_append1 rfl (.tmp 45) (.tmp 47) 82 25 (.slice none 0 0) 24 rfl Try.underlying82 infoSl rfl (by decide) A2 m k2 vs (.slice B mb kB) rfl rfl rfl h2 (by omega) ?_))
        intro A4 k4' w6 c1 c2 c3
        have HC6 := Lib.hid (And.intro c1 (And.intro c2 c3))
        clear c1 c2 c3 h2
        go_wp2
        go_roundg (n - i - 1)
        case measure => omega
        case rel =>
          obtain ⟨a1, a2, a3, o5, h2, h3, h4⟩ := HY.out
          obtain ⟨c1, c2, c3⟩ := HC6.out
          have hv5 := h3.snoc HMB.out h4
          have n32 : ∀ g, blk A2 = some g → blk A3 ≠ some g := fun g hg h => by
            obtain ⟨x1, e1⟩ := h2.ty hg
            obtain ⟨x2, e2⟩ := a1.ty h
            exact absurd (cells_ty e1 e2) (by decide)
          have n2v : ∀ g, blk A2 = some g → ¬ inB (vs ++ [.slice B mb kB]) g := fun g hg h => by
            obtain ⟨x1, e1⟩ := h2.ty hg
            obtain ⟨x2, e2⟩ := hv5.ty h
            exact absurd (cells_ty e1 e2) (by decide)
          have r3 := a1.kept c2 (fun g hg hg2 => n32 g hg2 hg)
          have v6 := hv5.block (fun g hg => c2.block g (hv5.lt hg) (fun hg2 => n2v g hg2 hg))
          have hb5 := o5.bel.size
          have hb4 := HO.out.1.bel.size
          have hA2 : ∀ g, blk A2 = some g → W2.heap.size ≤ g := fun g hg => HR.out.2.2.2 g (.inr (.inl hg))
          refine ⟨i + 1, m + 1, k3, k4', A3, A4, vs ++ [.slice B mb kB], by go_num, by first | rfl | go_num, by first | rfl | go_num, by omega, by omega, ?_, ?_, c1, ?_, ?_, ?_⟩
          · rw [HACC.out, stC_snoc]
            refine o5.regrow (Nat.le_refl _) c2 (fun g _ hg => ⟨.inr (.inl hg), hA2 g hg⟩) ?_
            rintro g (hg | hg | hg)
            · exact ⟨r3.lt hg, .inl (.inl hg)⟩
            · refine ⟨c1.lt hg, ?_⟩
              rcases c3 with e | ⟨g', e, hg'⟩
              · exact .inl (.inr (.inl (by rw [← e]; exact hg)))
              · rw [e] at hg; injection hg with hg; right; omega
            · exact ⟨v6.lt hg, .inl (.inr (.inr hg))⟩
          · rw [HACC.out, recsV_snoc]; exact r3
          · rw [HACC.out, rowsB_snoc]; exact v6
          · rintro g (hg | hg | hg)
            · rcases a3 with e | ⟨g', e, hg'⟩
              · exact HR.out.2.2.2 g (.inl (by rw [← e]; exact hg))
              · rw [e] at hg; injection hg with hg; omega
            · rcases c3 with e | ⟨g', e, hg'⟩
              · exact hA2 g (by rw [← e]; exact hg)
              · rw [e] at hg; injection hg with hg; omega
            · rcases inB_snoc.1 hg with hg | hg
              · exact HR.out.2.2.2 g (.inr (.inr hg))
              · have h9 := HO.out.2.2.2.2.2 g hg
                have h8 := HR.out.2.1
                omega
          · show (accR (polC P) (l.take (i + 1))).length = m + 1
            rw [HACC.out, List.length_append, hml.out]
            rfl
      · rw [hpf] at hput
        have HACC : Hid (accR (polC P) (l.take (i + 1)) = accR (polC P) (l.take i)) := by
          show _ = _
          rw [HTK.out]
          exact accR_snoc_no _ _ _ (by rw [hpf]; exact her)
        have her1 : (er != 0) = true := by simpa using her
        have her2 : (er == 0) = false := by simpa using her
        clear hpf her
        go_wp2_with fail
        refine hput.mono ?_
        rintro e w4 ⟨B, kB, ⟨rfl, _, _⟩, o, k4⟩
        have h1 := HR.out.1.block (fun g hg => k4 g (.inl hg))
        have h2 := HR.out.2.1.keeps k4 (fun g hg => .inr (.inl hg))
        have h3 := HR.out.2.2.1.block (fun g hg => k4 g (.inr (.inr hg)))
        have HO := Lib.hid (And.intro (OwnC.mono (G := fun b => blk A1 = some b ∨ blk A2 = some b ∨ inB vs b) o (fun b hb => .inl hb)) (And.intro h1 (And.intro h2 h3)))
        clear hput o g0 g1 g2 g3 k4 h1 h2 h3
        go_wp2
        go_roundg (n - i - 1)
        case measure => omega
        case rel =>
          refine ⟨i + 1, m, k1, k2, A1, A2, vs, by go_num, rfl, rfl, by omega, by omega, ?_, ?_, HO.out.2.2.1, ?_, HR.out.2.2.2, ?_⟩
          · rw [HACC.out]; exact HO.out.1
          · rw [HACC.out]; exact HO.out.2.1
          · rw [HACC.out]; exact HO.out.2.2.2
          · show (accR (polC P) (l.take (i + 1))).length = m
            rw [HACC.out]; exact hml.out
    · have hini : (n : Int) ≤ i := by omega
      have htk : l.take i = l := List.take_of_length_le (by rw [hlen.out]; omega)
      rw [htk] at hr1 hvs
      have hml2 := hml.out
      rw [htk] at hml2
      have HF := Lib.hid (And.intro hml2 (And.intro hr1 (And.intro hr2 (And.intro hvs (And.intro hA o.bel)))))
      clear hr1 hr2 hvs hA o hml htk hml2
      go_wp2
      go_ret3
      obtain ⟨f1, f2, f3, f4, f5, f6⟩ := HF.out
      have hz := HX.out.2.1
      exact ⟨A1, k1, A2, k2, vs, m, f1, rfl, f2, f3, f4, fun g hg => by have := f5 g hg; omega, HX.out.1.trans (f6.mono (by omega))⟩

set_option maxRecDepth 100000 in
set_option maxHeartbeats 2000000 in
theorem written_no (W : World) (P : Pol) (hok : ¬ P.ok) (A : Option Addr) (n cp : Nat) :
    Calls Try.prog 39 #[.agg P.cells.toArray, .slice A n cp] W (WrittenNo W) := by
  obtain ⟨W2, hW2⟩ : ∃ W2, (W.alloc (.cells P.cells.toArray 23)) = W2 := ⟨_, rfl⟩
  have hb2 : Below W.heap.size W W2 := by rw [← hW2]; exact ((Below.refl _ _).alloc (Nat.le_refl _) _)
  have hx1 : W2.heap[W.heap.size]? = some (.cells P.cells.toArray 23 (0, 0)) := by rw [← hW2]; exact heap_alloc_new W _
  have HX := Lib.hid (And.intro hb2 hx1)
  have hnew := recNew_no W2 P hok
  clear hb2 hx1 hok
  have hpsz : (Try.prog.info? 23).map (·.size) = some 10 := by kernel_rfl
  have HZ := Lib.hid hpsz
  clear hpsz
  go_enter Try.func39, Try.ntmps39
  go_upto_region 1 with fail
  clear hW2
  go_wp2_with ((with_reducible refine at_list ?_); refine wpList_load_row rfl 23 (.tmp 2) rfl W.heap.size rfl 23 P.cells.toArray (0, 0) _ HX.out.2 Try.underlying23 rfl HZ.out ?_)
  refine hnew.mono ?_
  rintro e w2 ⟨rfl, b2⟩
  have HB := Lib.hid b2
  clear hnew b2
  go_wp2
  go_ret3
  exact ⟨rfl, HX.out.1.trans (HB.out.mono HX.out.1.size)⟩
end Go.Proofs.Ytipiohkpdkandaa
