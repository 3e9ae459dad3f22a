/-
  One coder and two coders in one world: the calls' contracts. Conditions: none.
-/
import Derived.Test.YtipiohkpdkandaaRecE
import Derived.Test.YtipiohkpdkandaaRecP
import Derived.Test.YtipiohkpdkandaaDictO
namespace Go.Proofs.Ytipiohkpdkandaa
set_option linter.unusedVariables false
set_option linter.unusedSimpArgs false
open Go.RowKit

/-- A coder, all blocks at or past B and none of F; nothing below B was written since W. -/
def OwnC (F : Nat → Prop) (B : Nat) (W w : World) (p : Nat) (c : CC) : Prop := ∃ S, CoderAt w p c S ∧ (∀ b, S b → B ≤ b ∧ ¬ F b) ∧ (∀ b, F b → b < w.heap.size) ∧ Below B W w
/-- Two coders apart. -/
def OwnC2 (F : Nat → Prop) (B : Nat) (W w : World) (p : Nat) (c : CC) (q : Nat) (d : CC) : Prop :=
  ∃ S T, CoderAt w p c S ∧ CoderAt w q d T ∧ (∀ b, S b → B ≤ b ∧ ¬ T b ∧ ¬ F b) ∧ (∀ b, T b → B ≤ b ∧ ¬ F b) ∧ (∀ b, F b → b < w.heap.size) ∧ Below B W w
section
variable {F : Nat → Prop} {B : Nat} {W w : World} {p q : Nat} {c d : CC}
theorem OwnC.inv (h : OwnC F B W w p c) : CInv c := by obtain ⟨S, h, _⟩ := h; exact h.inv
theorem OwnC.bel (h : OwnC F B W w p c) : Below B W w := by obtain ⟨S, _, _, _, h⟩ := h; exact h
theorem OwnC2.inv (h : OwnC2 F B W w p c q d) : CInv c := by obtain ⟨S, T, h, _⟩ := h; exact h.inv
theorem OwnC2.bel (h : OwnC2 F B W w p c q d) : Below B W w := by obtain ⟨S, T, _, _, _, _, _, h⟩ := h; exact h
theorem OwnC2.swap (h : OwnC2 F B W w p c q d) : OwnC2 F B W w q d p c := by
  obtain ⟨S, T, h1, h2, h3, h4, h5, h6⟩ := h
  exact ⟨T, S, h2, h1, fun b hb => ⟨(h4 b hb).1, fun hs => (h3 b hs).2.1 hb, (h4 b hb).2⟩, fun b hb => ⟨(h3 b hb).1, (h3 b hb).2.2⟩, h5, h6⟩
theorem OwnC2.one (h : OwnC2 F B W w p c q d) : OwnC F B W w p c := by
  obtain ⟨S, T, h1, h2, h3, h4, h5, h6⟩ := h
  exact ⟨S, h1, fun b hb => ⟨(h3 b hb).1, (h3 b hb).2.2⟩, h5, h6⟩
theorem OwnC.mono {G : Nat → Prop} (h : OwnC F B W w p c) (hg : ∀ b, G b → F b) : OwnC G B W w p c := by
  obtain ⟨S, h1, h2, h3, h4⟩ := h
  exact ⟨S, h1, fun b hb => ⟨(h2 b hb).1, fun hg' => (h2 b hb).2 (hg b hg')⟩, fun b hb => h3 b (hg b hb), h4⟩
theorem OwnC2.mono {G : Nat → Prop} (h : OwnC2 F B W w p c q d) (hg : ∀ b, G b → F b) : OwnC2 G B W w p c q d := by
  obtain ⟨S, T, h1, h2, h3, h4, h5, h6⟩ := h
  exact ⟨S, T, h1, h2, fun b hb => ⟨(h3 b hb).1, (h3 b hb).2.1, fun hg' => (h3 b hb).2.2 (hg b hg')⟩, fun b hb => ⟨(h4 b hb).1, fun hg' => (h4 b hb).2 (hg b hg')⟩, fun b hb => h5 b (hg b hb), h6⟩
/-- A write into blocks of F (or below nothing) by another hand. -/
theorem OwnC.upd {U : Nat → Prop} {w' : World} (h : OwnC F B W w p c) (hu : Upd w w' U) (hU : ∀ b, b < w.heap.size → U b → F b ∧ B ≤ b) (hB : B ≤ W.heap.size) : OwnC F B W w' p c := by
  obtain ⟨S, h1, h2, h3, h4⟩ := h
  have := h4.size
  have := hu.size
  refine ⟨S, h1.kept hu (fun b hb hUb => (h2 b hb).2 (hU b (h1.lt hb) hUb).1), h2, fun b hb => by have := h3 b hb; omega, h4.trans (hu.below (by omega) (fun b hl hb => (hU b hl hb).2))⟩
theorem OwnC2.upd {U : Nat → Prop} {w' : World} (h : OwnC2 F B W w p c q d) (hu : Upd w w' U) (hU : ∀ b, b < w.heap.size → U b → F b ∧ B ≤ b) (hB : B ≤ W.heap.size) : OwnC2 F B W w' p c q d := by
  obtain ⟨S, T, h1, h2, h3, h4, h5, h6⟩ := h
  have := h6.size
  have := hu.size
  refine ⟨S, T, h1.kept hu (fun b hb hUb => (h3 b hb).2.2 (hU b (h1.lt hb) hUb).1), h2.kept hu (fun b hb hUb => (h4 b hb).2 (hU b (h2.lt hb) hUb).1), h3, h4, fun b hb => by have := h5 b hb; omega, h6.trans (hu.below (by omega) (fun b hl hb => (hU b hl hb).2))⟩
theorem OwnC.below {w' : World} (h : OwnC F B W w p c) (hb : Below w.heap.size w w') (hB : B ≤ W.heap.size) : OwnC F B W w' p c :=
  h.upd (Upd.of_below hb) (fun b h1 h2 => absurd h1 (by omega)) hB
theorem OwnC2.below {w' : World} (h : OwnC2 F B W w p c q d) (hb : Below w.heap.size w w') (hB : B ≤ W.heap.size) : OwnC2 F B W w' p c q d :=
  h.upd (Upd.of_below hb) (fun b h1 h2 => absurd h1 (by omega)) hB
/-- New blocks that stay. -/
theorem OwnC.frame {G : Nat → Prop} {w' : World} (h : OwnC F B W w p c) (hb : Below w.heap.size w w') (hB : B ≤ W.heap.size) (hG : ∀ b, G b → F b ∨ w.heap.size ≤ b ∧ b < w'.heap.size) : OwnC G B W w' p c := by
  have h' := h.below hb hB
  obtain ⟨S, h1, h2, h3, h4⟩ := h
  have := hb.size
  refine ⟨S, h1.below hb, fun b hs => ⟨(h2 b hs).1, fun hg => ?_⟩, fun b hg => ?_, h'.bel⟩
  · rcases hG b hg with hh | hh
    · exact (h2 b hs).2 hh
    · have := h1.lt hs; omega
  · rcases hG b hg with hh | hh
    · have := h3 b hh; omega
    · omega
theorem OwnC2.frame {G : Nat → Prop} {w' : World} (h : OwnC2 F B W w p c q d) (hb : Below w.heap.size w w') (hB : B ≤ W.heap.size) (hG : ∀ b, G b → F b ∨ w.heap.size ≤ b ∧ b < w'.heap.size) : OwnC2 G B W w' p c q d := by
  have h' := h.below hb hB
  obtain ⟨S, T, h1, h2, h3, h4, h5, h6⟩ := h
  have := hb.size
  refine ⟨S, T, h1.below hb, h2.below hb, fun b hs => ⟨(h3 b hs).1, (h3 b hs).2.1, fun hg => ?_⟩, fun b hs => ⟨(h4 b hs).1, fun hg => ?_⟩, fun b hg => ?_, h'.bel⟩
  · rcases hG b hg with hh | hh
    · exact (h3 b hs).2.2 hh
    · have := h1.lt hs; omega
  · rcases hG b hg with hh | hh
    · exact (h4 b hs).2 hh
    · have := h2.lt hs; omega
  · rcases hG b hg with hh | hh
    · have := h5 b hh; omega
    · omega
theorem ownC_new (P : Pol) (hp : P.ok) (hW : Below B W w) (hB : B ≤ W.heap.size) :
    Calls Try.prog 18 #[.agg P.cells.toArray] w fun e w' => ∃ p, e = .returned (.tuple #[.pointer (some ⟨p, 0, none⟩), .int .i64 0]) ∧ OwnC (fun _ => False) B W w' p ⟨⟨P.slots.toNat, [], []⟩, 0, 0⟩ := by
  refine (recNew_yes w P hp).mono ?_
  rintro e w' ⟨p, rfl, S, a1, a2, a3⟩
  have := hW.size
  exact ⟨p, rfl, S, a1, fun b hb => ⟨by have := a2 b hb; omega, id⟩, fun b hb => hb.elim, hW.trans (a3.mono (by omega))⟩
theorem ownC2_new (P : Pol) (hp : P.ok) (h : OwnC F B W w p c) (hB : B ≤ W.heap.size) :
    Calls Try.prog 18 #[.agg P.cells.toArray] w fun e w' => ∃ q, e = .returned (.tuple #[.pointer (some ⟨q, 0, none⟩), .int .i64 0]) ∧ OwnC2 F B W w' p c q ⟨⟨P.slots.toNat, [], []⟩, 0, 0⟩ := by
  refine (recNew_yes w P hp).mono ?_
  rintro e w' ⟨q, rfl, T, a1, a2, a3⟩
  obtain ⟨S, h1, h2, h3, h4⟩ := h
  have := h4.size
  have := a3.size
  exact ⟨q, rfl, S, T, h1.below a3, a1, fun b hb => ⟨(h2 b hb).1, fun ht => by have := h1.lt hb; have := a2 b ht; omega, (h2 b hb).2⟩, fun b hb => ⟨by have := a2 b hb; omega, fun hf => by have := a2 b hb; have := h3 b hf; omega⟩, fun b hb => by have := h3 b hb; omega, h4.trans (a3.mono (by omega))⟩
theorem ownC2_clone (h : OwnC F B W w p c) (hB : B ≤ W.heap.size) :
    Calls Try.prog 20 #[.pointer (some ⟨p, 0, none⟩)] w fun e w' => ∃ q, e = .returned (.pointer (some ⟨q, 0, none⟩)) ∧ OwnC2 F B W w' p c q c := by
  obtain ⟨S, h1, h2, h3, h4⟩ := h
  refine (recClone_any h1).mono ?_
  rintro e w' ⟨q, rfl, T, a1, a2, a3⟩
  have := h4.size
  have := a3.size
  exact ⟨q, rfl, S, T, h1.below a3, a1, fun b hb => ⟨(h2 b hb).1, fun ht => by have := h1.lt hb; have := a2 b ht; omega, (h2 b hb).2⟩, fun b hb => ⟨by have := a2 b hb; omega, fun hf => by have := a2 b hb; have := h3 b hf; omega⟩, fun b hb => by have := h3 b hb; omega, h4.trans (a3.mono (by omega))⟩
/-- What a Put leaves: its row, new and the caller's own. -/
def PutRow (w : World) (c : CC) (r : Rec) (A : Option Addr) (k : Nat) (e : Ending) (w' : World) : Prop :=
  e = .returned (.tuple #[.slice A (putF c r).2.1.length k, .int .i64 (putF c r).2.2]) ∧ Row w' 5 A (putF c r).2.1.length k (nums .u8 (putF c r).2.1) ∧ ∀ g, blk A = some g → w.heap.size ≤ g
theorem ownC_put (h : OwnC F B W w p c) (hB : B ≤ W.heap.size) (r : Rec) (hm : r.key.size ≤ maxLen) :
    Calls Try.prog 19 #[.pointer (some ⟨p, 0, none⟩), r.val] w fun e w' => ∃ A k, PutRow w c r A k e w' ∧ OwnC (fun b => F b ∨ blk A = some b) B W w' p (putF c r).1 ∧ Keeps F w w' := by
  obtain ⟨S, h1, h2, h3, h4⟩ := h
  refine (put_any h1 r hm).mono ?_
  rintro e w' ⟨A, k, S', rfl, a1, a2, a3, a4, a5⟩
  have := h4.size
  have := a4.size
  refine ⟨A, k, ⟨rfl, a1, fun g hg => (a2 g hg).1⟩, ⟨S', a3, fun b hb => ⟨?_, ?_⟩, ?_, h4.trans (a4.below (by omega) (fun b _ hb => (h2 b hb).1))⟩, fun b hb => a4.block b (h3 b hb) (fun hs => (h2 b hs).2 hb)⟩
  · rcases a5 b hb with hh | hh
    · exact (h2 b hh).1
    · omega
  · rintro (hf | hf)
    · rcases a5 b hb with hh | hh
      · exact (h2 b hh).2 hf
      · have := h3 b hf; omega
    · exact (a2 b hf).2 hb
  · rintro b (hf | hf)
    · have := h3 b hf; omega
    · exact a1.lt hf
theorem ownC2_put (h : OwnC2 F B W w p c q d) (hB : B ≤ W.heap.size) (r : Rec) (hm : r.key.size ≤ maxLen) :
    Calls Try.prog 19 #[.pointer (some ⟨p, 0, none⟩), r.val] w fun e w' => ∃ A k, PutRow w c r A k e w' ∧ OwnC2 (fun b => F b ∨ blk A = some b) B W w' p (putF c r).1 q d ∧ Keeps F w w' := by
  obtain ⟨S, T, h1, h2, h3, h4, h5, h6⟩ := h
  refine (put_any h1 r hm).mono ?_
  rintro e w' ⟨A, k, S', rfl, a1, a2, a3, a4, a5⟩
  have := h6.size
  have := a4.size
  have hT : ∀ b, T b → ¬ S b := fun b hb hs => (h3 b hs).2.1 hb
  refine ⟨A, k, ⟨rfl, a1, fun g hg => (a2 g hg).1⟩, ⟨S', T, a3, h2.kept a4 hT, fun b hb => ⟨?_, ?_, ?_⟩, fun b hb => ⟨(h4 b hb).1, ?_⟩, ?_, h6.trans (a4.below (by omega) (fun b _ hb => (h3 b hb).1))⟩, fun b hb => a4.block b (h5 b hb) (fun hs => (h3 b hs).2.2 hb)⟩
  · rcases a5 b hb with hh | hh
    · exact (h3 b hh).1
    · omega
  · intro ht
    rcases a5 b hb with hh | hh
    · exact (h3 b hh).2.1 ht
    · have := h2.lt ht; omega
  · rintro (hf | hf)
    · rcases a5 b hb with hh | hh
      · exact (h3 b hh).2.2 hf
      · have := h5 b hf; omega
    · exact (a2 b hf).2 hb
  · rintro (hf | hf)
    · exact (h4 b hb).2 hf
    · have := (a2 b hf).1; have := h2.lt hb; omega
  · rintro b (hf | hf)
    · have := h5 b hf; omega
    · exact a1.lt hf
def GetIs (G : CC × Rec × Int × Int × Int) (e : Ending) : Prop := e = .returned (.tuple #[G.2.1.val, .int .i64 G.2.2.1, .agg #[.int .i64 G.2.2.2.1, .int .i64 G.2.2.2.2]])
theorem ownC_get (h : OwnC F B W w p c) (hB : B ≤ W.heap.size) {A : Option Addr} {n cp : Nat} {l : List Int} (hb : BytesIn w A n cp l) (a : Int) :
    Calls Try.prog 21 #[.pointer (some ⟨p, 0, none⟩), .slice A n cp, .int .i64 a] w fun e w' => GetIs (getF c l a) e ∧ OwnC F B W w' p (getF c l a).1 ∧ Keeps F w w' := by
  obtain ⟨S, h1, h2, h3, h4⟩ := h
  refine (get_any h1 hb a).mono ?_
  rintro e w' ⟨S', rfl, a3, a4, a5⟩
  have := h4.size
  have := a4.size
  refine ⟨rfl, ⟨S', a3, fun b hb => ⟨?_, ?_⟩, fun b hf => by have := h3 b hf; omega, h4.trans (a4.below (by omega) (fun b _ hb => (h2 b hb).1))⟩, fun b hb => a4.block b (h3 b hb) (fun hs => (h2 b hs).2 hb)⟩
  · rcases a5 b hb with hh | hh
    · exact (h2 b hh).1
    · omega
  · intro hf
    rcases a5 b hb with hh | hh
    · exact (h2 b hh).2 hf
    · have := h3 b hf; omega
theorem ownC2_get (h : OwnC2 F B W w p c q d) (hB : B ≤ W.heap.size) {A : Option Addr} {n cp : Nat} {l : List Int} (hb : BytesIn w A n cp l) (a : Int) :
    Calls Try.prog 21 #[.pointer (some ⟨p, 0, none⟩), .slice A n cp, .int .i64 a] w fun e w' => GetIs (getF c l a) e ∧ OwnC2 F B W w' p (getF c l a).1 q d ∧ Keeps F w w' := by
  obtain ⟨S, T, h1, h2, h3, h4, h5, h6⟩ := h
  refine (get_any h1 hb a).mono ?_
  rintro e w' ⟨S', rfl, a3, a4, a5⟩
  have := h6.size
  have := a4.size
  have hT : ∀ b, T b → ¬ S b := fun b hb hs => (h3 b hs).2.1 hb
  refine ⟨rfl, ⟨S', T, a3, h2.kept a4 hT, fun b hb => ⟨?_, ?_, ?_⟩, h4, fun b hf => by have := h5 b hf; omega, h6.trans (a4.below (by omega) (fun b _ hb => (h3 b hb).1))⟩, fun b hb => a4.block b (h5 b hb) (fun hs => (h3 b hs).2.2 hb)⟩
  · rcases a5 b hb with hh | hh
    · exact (h3 b hh).1
    · omega
  · intro ht
    rcases a5 b hb with hh | hh
    · exact (h3 b hh).2.1 ht
    · have := h2.lt ht; omega
  · intro hf
    rcases a5 b hb with hh | hh
    · exact (h3 b hh).2.2 hf
    · have := h5 b hf; omega
theorem Row.keeps {w w' : World} {t : TypeId} {A : Option Addr} {n k : Nat} {xs : List Value} (h : Row w t A n k xs) (hk : Keeps F w w') (hF : ∀ g, blk A = some g → F g) : Row w' t A n k xs := h.block fun g hg => hk g (hF g hg)
theorem Row.bytesIn {w : World} {A : Option Addr} {n k : Nat} {l : List Int} (h : Row w 5 A n k (nums .u8 l)) (hb : Bytes l) (hn : n ≤ 140737488355328) : BytesIn w A n k l := ⟨h.rd, hb, h.le, hn⟩
end
theorem digs_byt (n : Nat) : Bytes (digs n) := digs_bytes n n (Nat.le_refl _)
theorem Bytes.append {a b : List Int} (h1 : Bytes a) (h2 : Bytes b) : Bytes (a ++ b) := fun x hx => (List.mem_append.1 hx).elim (h1 x) (h2 x)
theorem putB_bytes (c : CC) (r : Rec) : Bytes (putB c r) := by
  unfold putB tailB
  refine ((digs_byt _).append (digs_byt _)).append ?_
  split
  · exact digs_byt _
  · exact ((digs_byt _).append (digs_byt _)).append (kb_bytes _)
theorem putF_bytes (c : CC) (r : Rec) : Bytes (putF c r).2.1 := by
  rcases putF_cases c r with ⟨_, _, e⟩ | ⟨x, _, e⟩
  · rw [e]; exact putB_bytes c r
  · rw [e]; intro y hy; simp at hy
/-- How long a record's bytes are. -/
theorem putB_len {c : CC} (h : CInv c) {r : Rec} (hr : r.ok) (ht : c.tick ≤ r.tick) :
    3 ≤ (putB c r).length ∧ (putB c r).length ≤ 13 + r.key.size ∧ (r.key ∈ c.d.keys → (putB c r).length ≤ 13) := by
  obtain ⟨f1, f2⟩ := firstN_bd h hr ht
  obtain ⟨s1, s2⟩ := secondN_bd h hr
  have l1 := digs_len 6 (firstN c r) (by omega)
  have l2 := digs_len 3 (secondN c r) (by omega)
  have hk := hr.key
  unfold keyOk at hk
  unfold putB tailB
  rcases useG_ok h.d hr.key with ⟨s, hs, hs64, hu, hm⟩ | ⟨d', s, hu, hm, hl⟩
  · rw [hu, if_pos rfl]
    have l3 := digs_len 0 (1 + s) (by omega)
    simp only [List.length_append]
    exact ⟨by omega, by omega, fun _ => by omega⟩
  · rw [hu, if_neg (by simp)]
    have l3 := digs_len 0 0 (by omega)
    have l4 := digs_len 0 r.key.size (by omega)
    simp only [List.length_append, kb_length]
    exact ⟨by omega, by omega, fun h => absurd h hm⟩
theorem putF_len {c : CC} (h : CInv c) (r : Rec) : (putF c r).2.1.length ≤ 77 := by
  rcases putF_cases c r with ⟨h1, h2, e⟩ | ⟨x, _, e⟩
  · rw [e]
    have := (putB_len h h1 h2).2.1
    have := h1.key.2
    show (putB c r).length ≤ 77
    omega
  · rw [e]; simp
end Go.Proofs.Ytipiohkpdkandaa
