/-
  Clone of the dictionary: walks. Conditions: none.
-/
import Derived.Test.YtipiohkpdkandaaDictO
import Derived.Shelf.SlMaps.Clone
import Derived.Deep.RegionHeld3
namespace Go.Proofs.Ytipiohkpdkandaa
set_option linter.unusedVariables false
set_option linter.unusedSimpArgs false
open Go.RowKit

theorem run_eql_slice_nil {P : Program} (w : World) (t e : TypeId) (a : Option Addr) (l c : Nat) (h : P.underlying t = some (.slice e)) : (binOp .eql t (.slice a l c) (.slice none 0 0)).run P w = .ok (.bool a.isNone) w := by
  simp only [binOp]
  simp [run_equal_slice_nil w t e a l c h]
/-- A row that the callee made. -/
def RowNew (t : TypeId) (w : World) (xs : List Value) (n : Nat) (e : Ending) (w' : World) : Prop :=
  ∃ A c, e = .returned (.slice A n c) ∧ Row w' t A n c xs ∧ (∀ g, blk A = some g → w.heap.size ≤ g) ∧ Below w.heap.size w w'

set_option maxRecDepth 100000 in
theorem sclone_strs (w : World) (A : Option Addr) (n c : Nat) (l : List ByteArray) (h : Row w 9 A n c (strs l)) (hn : n ≤ 64) :
    Calls Try.prog 54 #[.slice A n c] w (RowNew 9 w (strs l) n) := by
  rcases h.form with ⟨rfl, rfl, rfl⟩ | ⟨g, cur, rfl, _⟩
  · have hl : strs l = [] := by have := h.len; exact List.length_eq_zero_iff.1 this
    rw [hl]
    clear h hl
    have hq := fun w => run_eql_slice_nil (P := Try.prog) w 43 _ none 0 0 Try.underlying43
    go_enter Try.func54, Try.ntmps54
    go_wp2
    go_ret
    exact ⟨none, 0, rfl, Row.nil _ _, (fun g h => by cases h), Below.refl _ _⟩
  · have H := Lib.hid h
    have h0 : Row (w.alloc (.cells #[] 9)) 9 (some ⟨w.heap.size, 0, none⟩) 0 0 [] := Row.made #[] 0 [] (by simp) (by simp [maxLen]) (by simp)
    have h1 := (h.alloc (.cells #[] 9)).rd
    clear h
    have hq := fun w => run_eql_slice_nil (P := Try.prog) w 43 _ (some ⟨g, 0, none⟩) n c Try.underlying43
    go_enter Try.func54, Try.ntmps54
    go_wp2_with (at_builtin; go_must (refine row_append rfl (.tmp 5) (.tmp 6) 43 9 (.string ByteArray.empty) 16 rfl Try.underlying43 infoStr rfl (by decide) (some ⟨w.heap.size, 0, none⟩) 0 0 [] (some ⟨g, 0, none⟩) n c (strs l) rfl rfl h0 h1 (strs_oneCell l) (by omega) ?_))
    intro A1 c1 w1 a1 a2 a3
    try simp only [Nat.zero_add, List.nil_append] at a1
    have HX := Lib.hid (And.intro a1 (And.intro a2 a3))
    clear a1 a2 a3 h0 h1
    go_wp2
    go_ret
    refine ⟨A1, c1, by simp, HX.out.1, ?_, ?_⟩
    · intro g' hg'
      rcases HX.out.2.2 with h | h
      · rw [h] at hg'; injection hg' with hg'; simp at hg'; omega
      · rw [h] at hg'; injection hg' with hg'; rw [← hg']; exact Nat.le_succ _
    · exact ((Below.refl _ _).alloc (Nat.le_refl _) _).trans (HX.out.2.1.below (by rw [alloc_size]; omega) (fun b _ hb => by injection hb with hb; simp at hb; omega))

set_option maxRecDepth 100000 in
theorem sclone_ints (w : World) (A : Option Addr) (n c : Nat) (l : List Nat) (h : Row w 3 A n c (ints l)) (hn : n ≤ 64) :
    Calls Try.prog 56 #[.slice A n c] w (RowNew 3 w (ints l) n) := by
  rcases h.form with ⟨rfl, rfl, rfl⟩ | ⟨g, cur, rfl, _⟩
  · have hl : ints l = [] := by have := h.len; exact List.length_eq_zero_iff.1 this
    rw [hl]
    clear h hl
    have hq := fun w => run_eql_slice_nil (P := Try.prog) w 55 _ none 0 0 Try.underlying55
    go_enter Try.func56, Try.ntmps56
    go_wp2
    go_ret
    exact ⟨none, 0, rfl, Row.nil _ _, (fun g h => by cases h), Below.refl _ _⟩
  · have H := Lib.hid h
    have h0 : Row (w.alloc (.cells #[] 3)) 3 (some ⟨w.heap.size, 0, none⟩) 0 0 [] := Row.made #[] 0 [] (by simp) (by simp [maxLen]) (by simp)
    have h1 := (h.alloc (.cells #[] 3)).rd
    clear h
    have hq := fun w => run_eql_slice_nil (P := Try.prog) w 55 _ (some ⟨g, 0, none⟩) n c Try.underlying55
    go_enter Try.func56, Try.ntmps56
    go_wp2_with (at_builtin; go_must (refine row_append rfl (.tmp 5) (.tmp 6) 55 3 (.int .i64 0) 8 rfl Try.underlying55 infoInt rfl (by decide) (some ⟨w.heap.size, 0, none⟩) 0 0 [] (some ⟨g, 0, none⟩) n c (ints l) rfl rfl h0 h1 (ints_oneCell l) (by omega) ?_))
    intro A1 c1 w1 a1 a2 a3
    try simp only [Nat.zero_add, List.nil_append] at a1
    have HX := Lib.hid (And.intro a1 (And.intro a2 a3))
    clear a1 a2 a3 h0 h1
    go_wp2
    go_ret
    refine ⟨A1, c1, by simp, HX.out.1, ?_, ?_⟩
    · intro g' hg'
      rcases HX.out.2.2 with h | h
      · rw [h] at hg'; injection hg' with hg'; simp at hg'; omega
      · rw [h] at hg'; injection hg' with hg'; rw [← hg']; exact Nat.le_succ _
    · exact ((Below.refl _ _).alloc (Nat.le_refl _) _).trans (HX.out.2.1.below (by rw [alloc_size]; omega) (fun b _ hb => by injection hb with hb; simp at hb; omega))

/-- A map that the callee made. -/
def MapNew (w : World) (R : ByteArray → Nat → Prop) (e : Ending) (w' : World) : Prop :=
  ∃ M, e = .returned (.map (some M)) ∧ MapIs w' M R ∧ w.heap.size ≤ M ∧ Below w.heap.size w w'
set_option maxRecDepth 100000 in
theorem mclone (w : World) (M : Nat) (R : ByteArray → Nat → Prop) (h : MapIs w M R) :
    Calls Try.prog 55 #[.map (some M)] w (MapNew w R) := by
  have H := Lib.hid h
  obtain ⟨es, clock, hb, _⟩ := h.out
  have hq := fun w => run_eql_map_nil_sl (P := Try.prog) w 109 _ _ (some M) Try.underlying109
  clear h
  go_enter Try.func55, Try.ntmps55
  go_wp2
  rw [run_callFunc_extern Try.func69 (by kernel_rfl) (by kernel_rfl) (by kernel_rfl) (e := Extern.MapsClone.clone) (by kernel_rfl), run_maps_clone_sl w 109 hb]
  simp only [Result.andThen]
  rw [Oper.upon_value]
  go_wp2
  rw [run_typeAssert_map_sl _ 109 20 _ _ _ Try.underlying109]
  simp only [Result.andThen]
  rw [Oper.upon_value]
  go_wp2
  go_ret
  exact ⟨_, rfl, H.out.clone hb, Nat.le_refl _, (Below.refl _ _).alloc (Nat.le_refl _) _⟩

theorem below_alloc {a w : World} (h : Below a.heap.size a w) (o : Obj) : Below a.heap.size a (w.alloc o) := h.alloc h.size o
/-- The cells of a dictionary's head, and that no old block was written. -/
def HeadIs (w : World) (p M : Nat) (K O : Option Addr) (n ck co room : Nat) (w' : World) : Prop :=
  w'.cell? ⟨p, 0, none⟩ = some (.int .i64 room) ∧ w'.cell? ⟨p, 1, none⟩ = some (.slice K n ck) ∧ w'.cell? ⟨p, 2, none⟩ = some (.map (some M)) ∧ w'.cell? ⟨p, 3, none⟩ = some (.slice O n co) ∧ Below w.heap.size w w'
theorem DictB.headIs {w w' : World} {p M n ck co : Nat} {K O : Option Addr} {d : DD} (h : DictB w p M K O n ck co d) (hb : Below w.heap.size w w') : HeadIs w p M K O n ck co d.room w' := by
  have hB := h.kept (Upd.of_below hb) (by have := h.lt; omega) (by have := h.map.lt; omega) (fun g hg => by have := h.keys.lt hg; omega) (fun g hg => by have := h.order.lt hg; omega)
  exact ⟨hB.c0, hB.c1, hB.c2, hB.c3, hb⟩

set_option maxRecDepth 100000 in
set_option maxHeartbeats 2000000 in
theorem dclone {w : World} {p : Nat} {d : DD} {S : Nat → Prop} (h : DictAt w p d S) :
    Calls Try.prog 32 #[.pointer (some ⟨p, 0, none⟩)] w fun e w' => ∃ q, e = .returned (.pointer (some ⟨q, 0, none⟩)) ∧ DictNew w d q w' := by
  obtain ⟨M, K, O, n, ck, co, hB, hS⟩ := h
  have hn : n ≤ 64 := by have := hB.inv.le; have := hB.inv.hi; have := hB.len; omega
  have HK : ∀ w', Below w.heap.size w w' → HeadIs w p M K O n ck co d.room w' := fun w' hb => hB.headIs hb
  have hk : ∀ w', Below w.heap.size w w' → Calls Try.prog 54 #[.slice K n ck] w' (fun e w'' => RowNew 9 w' (strs d.keys) n e w'' ∧ Below w.heap.size w w'') := fun w' hb => by
    refine (sclone_strs w' K n ck d.keys (hB.keys.block fun g hg => hb.block g (hB.keys.lt hg)) hn).mono ?_
    rintro e w'' ⟨A, c, rfl, h1, h2, h3⟩
    exact ⟨⟨A, c, rfl, h1, h2, h3⟩, hb.trans (h3.mono hb.size)⟩
  have ho : ∀ w', Below w.heap.size w w' → Calls Try.prog 56 #[.slice O n co] w' (fun e w'' => RowNew 3 w' (ints d.order) n e w'' ∧ Below w.heap.size w w'') := fun w' hb => by
    refine (sclone_ints w' O n co d.order (hB.order.block fun g hg => hb.block g (hB.order.lt hg)) hn).mono ?_
    rintro e w'' ⟨A, c, rfl, h1, h2, h3⟩
    exact ⟨⟨A, c, rfl, h1, h2, h3⟩, hb.trans (h3.mono hb.size)⟩
  have hm : ∀ w', Below w.heap.size w w' → Calls Try.prog 55 #[.map (some M)] w' (fun e w'' => MapNew w' (fun k v => d.keys[v]? = some k) e w'' ∧ Below w.heap.size w w'') := fun w' hb => by
    refine (mclone w' M _ (hB.map.block (hb.block M hB.map.lt))).mono ?_
    rintro e w'' ⟨A, rfl, h1, h2, h3⟩
    exact ⟨⟨A, rfl, h1, h2, h3⟩, hb.trans (h3.mono hb.size)⟩
  have HB := Lib.hid hB
  have B0 : Below w.heap.size w w := Below.refl _ _
  clear hB hS
  go_enter Try.func32, Try.ntmps32
  go_wp2_with fail
  go_region_held3 (fun w' => w'.cell? ⟨p, 0, none⟩ = some (.int .i64 d.room) ∧ w'.cell? ⟨p, 1, none⟩ = some (.slice K n ck) ∧ w'.cell? ⟨p, 2, none⟩ = some (.map (some M)) ∧ w'.cell? ⟨p, 3, none⟩ = some (.slice O n co) ∧ Below w.heap.size w w')
    (first | exact HK _ (by assumption) | exact HK _ (Below.drew (by assumption)) | exact HK _ (below_alloc (by assumption) _) | exact HK _ (Below.drew (below_alloc (by assumption) _)) | go_keep)
    (first
      | (go_at_call 54; refine (hk _ (by first | assumption | exact Below.drew (by assumption) | exact Below.drew (Below.drew (by assumption)))).mono ?_; rintro e w1 ⟨⟨A1, c1, rfl, a1, a2, a3⟩, b1⟩)
      | (go_at_call 56; refine (ho _ (by first | assumption | exact Below.drew (by assumption) | exact Below.drew (Below.drew (by assumption)))).mono ?_; rintro e w2 ⟨⟨A2, c2, rfl, d1, d2, d3⟩, b2⟩)
      | (go_at_call 55; refine (hm _ (by first | assumption | exact Below.drew (by assumption) | exact Below.drew (Below.drew (by assumption)))).mono ?_; rintro e w3 ⟨⟨M1, rfl, e1, e2, e3⟩, b3⟩))
  have s1 : w.heap.size ≤ w1.heap.size := b1.size
  have s2 : w1.heap.size ≤ w3.heap.size := e3.size
  have s3 : w3.heap.size ≤ w2.heap.size := d3.size
  have r1 : Row (w2.alloc (.cells #[.int .i64 d.room, .slice A1 n c1, .map (some M1), .slice A2 n c2] 111)) 9 A1 n c1 (strs d.keys) :=
    ((a1.block fun g hg => e3.block g (a1.lt hg)).block fun g hg => d3.block g (by have := a1.lt hg; omega)).alloc _
  have r2 : Row (w2.alloc (.cells #[.int .i64 d.room, .slice A1 n c1, .map (some M1), .slice A2 n c2] 111)) 3 A2 n c2 (ints d.order) := d1.alloc _
  have r3 : MapIs (w2.alloc (.cells #[.int .i64 d.room, .slice A1 n c1, .map (some M1), .slice A2 n c2] 111)) M1 _ := (e1.block (d3.block M1 e1.lt)).alloc _
  have HX := Lib.hid (And.intro r1 (And.intro r2 (And.intro r3 (below_alloc b2 (.cells #[.int .i64 d.room, .slice A1 n c1, .map (some M1), .slice A2 n c2] 111)))))
  have HY : Hid ((∀ g, blk A1 = some g → w.heap.size ≤ g) ∧ w.heap.size ≤ M1 ∧ ∀ g, blk A2 = some g → w.heap.size ≤ g) := ⟨a2, by omega, fun g hg => by have := d2 g hg; omega⟩
  clear HK hk ho hm a1 a2 a3 e1 e2 e3 d1 d2 d3 r1 r2 r3 b1 b3 hn
  go_wp2
  go_ret
  refine ⟨_, rfl, _, DictB.at (M := M1) (K := A1) (O := A2) (n := n) (ck := c1) (co := c2) ⟨HB.out.len, alloc_top rfl, HX.out.1, HX.out.2.1, HX.out.2.2.1, HB.out.inv⟩, ?_, HX.out.2.2.2⟩
  rintro b (rfl | rfl | h | h)
  · omega
  · exact HY.out.2.1
  · exact HY.out.1 b h
  · exact HY.out.2.2 b h
/-- The clone beside its first one. -/
theorem own2_clone {B : Nat} {W w : World} {p : Nat} {d : DD} (h : Own B W w p d) (hB : B ≤ W.heap.size) :
    Calls Try.prog 32 #[.pointer (some ⟨p, 0, none⟩)] w fun e w' => ∃ q, e = .returned (.pointer (some ⟨q, 0, none⟩)) ∧ Own2 (fun _ => False) B W w' p d q d := by
  obtain ⟨S, h, h3, h4⟩ := h
  refine (dclone h).mono ?_
  rintro e w' ⟨q, rfl, T, a1, a2, a3⟩
  have := h4.size
  exact ⟨q, rfl, S, T, h.kept (Upd.of_below a3) (fun b hb => by have := h.lt hb; omega), a1, fun b hb => ⟨h3 b hb, fun ht => by have := h.lt hb; have := a2 b ht; omega, id⟩, fun b hb => ⟨by have := a2 b hb; omega, id⟩, fun b hb => hb.elim, h4.trans (a3.mono (by omega))⟩
end Go.Proofs.Ytipiohkpdkandaa
