/-
  Use of a key that has no slot: walks. Conditions: none.
-/
import Derived.Test.YtipiohkpdkandaaDictT
namespace Go.Proofs.Ytipiohkpdkandaa
set_option linter.unusedVariables false
set_option linter.unusedSimpArgs false
open Go.RowKit

theorem infoStr : (Try.prog.info? 9).map (fun i => (i.zero, i.size, i.bytes)) = some (some (.string ByteArray.empty), 1, 16) := by kernel_rfl
theorem infoInt : (Try.prog.info? 3).map (fun i => (i.zero, i.size, i.bytes)) = some (some (.int .i64 0), 1, 8) := by kernel_rfl

/-- A store into the head of the dictionary. -/
theorem head_set {w : World} {p : Nat} {a b c d : Value} {i : Nat} (v : Value) (h : w.heap[p]? = some (.cells #[a, b, c, d] 111 (0, 0))) : (w.setCell ⟨p, i, none⟩ v).heap[p]? = some (.cells (#[a, b, c, d].setIfInBounds i v) 111 (0, 0)) := by
  simp [World.setCell, Array.getElem?_modify, h]

set_option maxRecDepth 100000 in
set_option maxHeartbeats 1000000 in
theorem use_new {w : World} {p : Nat} {d : DD} {S : Nat → Prop} (h : DictAt w p d S) (k : ByteArray) (hk : keyOk k) (hm : k ∉ d.keys) (hroom : d.keys.length < d.room) :
    Calls Try.prog 26 #[.pointer (some ⟨p, 0, none⟩), .string k] w (UseYes w p d k S) := by
  have hk1 := hk.1
  have hk2 := hk.2
  have hkm : k.size ≤ maxLen := by unfold maxLen; omega
  have hl := look_any h k hkm
  obtain ⟨M, K, O, n, ck, co, hB, hS⟩ := h
  have e1 : lookF d k = -1 := by unfold lookF; rw [if_neg hm]
  have e2 : useF d k = (⟨d.room, d.keys ++ [k], d.keys.length :: d.order⟩, d.keys.length, false) := by unfold useF; rw [if_neg hm, if_pos hroom]
  rw [e1] at hl
  have hinv := hB.inv.use hk
  rw [e2] at hinv
  have E2 := Lib.hid e2
  have HS := Lib.hid hS
  have HB := Lib.hid hB
  have HM := Lib.hid hm
  have HI := Lib.hid hinv
  have hlen := hB.len
  have hr64 := hB.inv.hi
  rw [hlen] at hroom
  obtain ⟨room, hrm⟩ : ∃ room, room = d.room := ⟨_, rfl⟩
  have HRM := Lib.hid hrm
  have c0 := hB.c0
  rw [← hrm] at hroom hr64 c0
  have c1 := hB.c1
  have c3 := hB.c3
  have hkr := hB.keys
  have hlt := hB.lt
  have f1 := hB.free 1
  have f3 := hB.free 3
  have hpK := hB.pK
  have hpO := hB.pO
  clear hk hm hB hS e1 e2 hinv hlen hrm
  go_enter Try.func26, Try.ntmps26
  go_wp2_with fail
  refine hl.mono ?_
  rintro e w1 ⟨rfl, rfl⟩
  clear hl
  go_wp2_with (at_builtin; with_reducible refine row_append1_g rfl (.tmp 41) (.tmp 43) 43 9 (.string ByteArray.empty) 16 rfl Try.underlying43 infoStr rfl (by decide) K n ck (strs d.keys) (.string k) rfl rfl rfl hkr (by omega) ?_)
  intro K1 ck1 w1 a1 a2
  have hu1 : Upd w w1 (fun b => blk K = some b) := ((Upd.refl w _).alloc _).trans a2.upd (fun b _ h => h)
  have k0 : w1.cell? ⟨p, 0, none⟩ = some (.int .i64 room) := hu1.cell c0 (fun h => hpK h)
  have k1 : w1.cell? ⟨p, 1, none⟩ = some (.slice K n ck) := hu1.cell c1 (fun h => hpK h)
  have hd1 : w1.heap[p]? = w.heap[p]? := hu1.block p hlt (fun h => hpK h)
  have g1 : w1.frozen? ⟨p, 1, none⟩ = false := (World.frozen?_of_block (w := w) hd1).trans f1
  clear c0 c1 f1
  have k3 : w1.cell? ⟨p, 3, none⟩ = some (.slice O n co) := hu1.cell c3 (fun h => hpK h)
  have g3 : w1.frozen? ⟨p, 3, none⟩ = false := (World.frozen?_of_block (w := w) hd1).trans f3
  have ho1 : Row w1 3 O n co (ints d.order) := HB.out.order.kept hu1 (fun g hg h => HB.out.KO h hg)
  have ho2 : Row (w1.setCell ⟨p, 1, none⟩ (.slice K1 (n + 1) ck1)) 3 O n co (ints d.order) := ho1.block (fun g hg => Below.heap_setCell _ _ _ _ (fun e => hpO (by rw [hg, e])))
  clear c3 f3 hkr
  go_wp2_with (at_builtin; go_must (refine row_append1_at (by simp) rfl (.tmp 51) (.tmp 53) 55 3 (.int .i64 0) 8 rfl Try.underlying55 infoInt rfl (by decide) O n co (ints d.order) (.int .i64 n) rfl rfl rfl ho2 (by omega) ?_))
  intro O1 co1 w2 b1 b2
  have hH1 : w1.heap[p]? = some (.cells #[.int .i64 room, .slice K n ck, .map (some M), .slice O n co] 111 (0, 0)) := by rw [hd1, HB.out.head, HRM.out]
  have hHA := head_set (i := 1) (.slice K1 (n + 1) ck1) hH1
  have hu2 : Upd (w1.setCell ⟨p, 1, none⟩ (.slice K1 (n + 1) ck1)) w2 (fun b => blk O = some b) := ((Upd.refl _ _).alloc _).trans b2.upd (fun b _ h => h)
  have hltA : p < (w1.setCell ⟨p, 1, none⟩ (.slice K1 (n + 1) ck1)).heap.size := (Array.getElem?_eq_some_iff.1 hHA).1
  have hH2 : w2.heap[p]? = some (.cells #[.int .i64 room, .slice K1 (n + 1) ck1, .map (some M), .slice O n co] 111 (0, 0)) := (hu2.block p hltA (fun h => hpO h)).trans hHA
  have q2 : w2.cell? ⟨p, 2, none⟩ = some (.map (some M)) := by simp [World.cell?, hH2]
  have q3 : w2.cell? ⟨p, 3, none⟩ = some (.slice O n co) := by simp [World.cell?, hH2]
  have r3 : w2.frozen? ⟨p, 3, none⟩ = false := by simp [World.frozen?, hH2]
  have hm1 : MapIs w1 M _ := HB.out.map.kept hu1 (fun h => HB.out.KM h)
  have hmA : MapIs (w1.setCell ⟨p, 1, none⟩ (.slice K1 (n + 1) ck1)) M _ := hm1.block (Below.heap_setCell _ _ _ _ (fun e => HB.out.pM e.symm))
  have hm2 : MapIs w2 M _ := hmA.kept hu2 (fun h => HB.out.OM h)
  have hmB : MapIs (w2.setCell ⟨p, 3, none⟩ (.slice O1 (n + 1) co1)) M _ := hm2.block (Below.heap_setCell _ _ _ _ (fun e => HB.out.pM e.symm))
  have hHB := head_set (i := 3) (.slice O1 (n + 1) co1) hH2
  have hpK1 : blk K1 ≠ some p := fun e => by
    rcases a2.at with h | h
    · exact hpK (h ▸ e)
    · rw [h] at e; injection e with e; simp at e; omega
  have hpO1 : blk O1 ≠ some p := fun e => by
    rcases b2.at with h | h
    · exact hpO (h ▸ e)
    · rw [h] at e; injection e with e; simp at e hltA; omega
  have s1 := hu1.size
  have s2 : w1.heap.size ≤ w2.heap.size := by have := hu2.size; simpa [World.setCell] using this
  have hKA : Row (w1.setCell ⟨p, 1, none⟩ (.slice K1 (n + 1) ck1)) 9 K1 (n + 1) ck1 (strs d.keys ++ [.string k]) := a1.block (fun g hg => Below.heap_setCell _ _ _ _ (fun e => hpK1 (by rw [hg, e])))
  have hK2 : Row w2 9 K1 (n + 1) ck1 (strs d.keys ++ [.string k]) := hKA.kept hu2 (fun g hg h => hKA.type_ne ho2 (by decide) hg h)
  have hKB : Row (w2.setCell ⟨p, 3, none⟩ (.slice O1 (n + 1) co1)) 9 K1 (n + 1) ck1 (strs d.keys ++ [.string k]) := hK2.block (fun g hg => Below.heap_setCell _ _ _ _ (fun e => hpK1 (by rw [hg, e])))
  have hOB : Row (w2.setCell ⟨p, 3, none⟩ (.slice O1 (n + 1) co1)) 3 O1 (n + 1) co1 (ints d.order ++ [.int .i64 (n : Int)]) := b1.block (fun g hg => Below.heap_setCell _ _ _ _ (fun e => hpO1 (by rw [hg, e])))
  have huB : Upd w (w2.setCell ⟨p, 3, none⟩ (.slice O1 (n + 1) co1)) (fun b => b = p ∨ blk K = some b ∨ blk O = some b) :=
    ((((hu1.mono (fun b _ h => .inr (.inl h))).setCell (a := ⟨p, 1, none⟩) (fun _ => .inl rfl) _).trans hu2 (fun b _ h => .inr (.inr h)))).setCell (a := ⟨p, 3, none⟩) (fun _ => .inl rfl) _
  have hK1b : ∀ b, blk K1 = some b → blk K = some b ∨ w.heap.size ≤ b := by
    intro b e
    rcases a2.at with h | h
    · exact .inl (h ▸ e)
    · rw [h] at e; injection e with e; simp at e; exact .inr (by omega)
  have hO1b : ∀ b, blk O1 = some b → blk O = some b ∨ w.heap.size ≤ b := by
    intro b e
    rcases b2.at with h | h
    · exact .inl (h ▸ e)
    · rw [h] at e; injection e with e; simp [World.setCell] at e; exact .inr (by omega)
  have HX := Lib.hid (And.intro hHB (And.intro hKB (And.intro hOB (And.intro huB (And.intro hK1b (And.intro hO1b (And.intro hpK1 hpO1)))))))
  clear hH1 hHA hu2 hltA hH2 hm1 hmA hm2 hHB s1 s2 hKA hK2 hKB hOB huB hK1b hO1b hpK1 hpO1 a1 a2 b1 b2 ho1 ho2 k0 k1 k3 g1 g3 hu1 hd1 hpK hpO
  go_wp2_with (at_mapUpdate; go_must (refine map_put rfl (.tmp 89) (.tmp 90) (.tmp 91) 109 rfl Try.underlying109 Try.underlying9 M _ rfl hmB k rfl hkm n rfl (fun v hv => HM.out (List.mem_of_getElem? hv)) ?_))
  intro w3 m1 m2
  have hM : Hid (MapIs w3 M (fun k' v' => (d.keys ++ [k])[v']? = some k')) := m1.congr (fun k' v' => by rw [get_snoc HM.out, HB.out.len])
  have hD : DictB w3 p M K1 O1 (n + 1) ck1 co1 ⟨room, d.keys ++ [k], d.order ++ [n]⟩ := by
    refine ⟨by simp [HB.out.len], (m2.block p ((Array.getElem?_eq_some_iff.1 HX.out.1).1) (fun e => HB.out.pM e)).trans HX.out.1, ?_, ?_, hM.out, ?_⟩
    · have := HX.out.2.1.kept m2 (fun g hg e => by
        subst e
        rcases HX.out.2.1.form with ⟨h, _⟩ | ⟨g', cur, h, h2, _⟩
        · rw [h] at hg; cases hg
        · rw [h] at hg
          obtain rfl : g' = g := by simpa [blk] using hg
          exact hmB.no_cells h2)
      rw [show strs (d.keys ++ [k]) = strs d.keys ++ [.string k] by simp [strs]]
      exact this
    · have := HX.out.2.2.1.kept m2 (fun g hg e => by
        subst e
        rcases HX.out.2.2.1.form with ⟨h, _⟩ | ⟨g', cur, h, h2, _⟩
        · rw [h] at hg; cases hg
        · rw [h] at hg
          obtain rfl : g' = g := by simpa [blk] using hg
          exact hmB.no_cells h2)
      rw [show ints (d.order ++ [n]) = ints d.order ++ [.int .i64 (n : Int)] by simp [ints]]
      exact this
    · have := HB.out.inv.grow ⟨hk1, hk2⟩ HM.out (by rw [HB.out.len, ← HRM.out]; exact hroom)
      rw [HB.out.len, ← HRM.out] at this
      exact this
  have hused := used_any hD (s := n) (by simp [HB.out.len])
  have hu3 : Upd w w3 (fun b => b = p ∨ b = M ∨ blk K = some b ∨ blk O = some b) := (HX.out.2.2.2.1.mono (fun b _ h => by rcases h with h | h | h; exact .inl h; exact .inr (.inr (.inl h)); exact .inr (.inr (.inr h)))).trans m2 (fun b _ h => .inr (.inl h))
  have HU := Lib.hid hu3
  clear hD m1 m2 hmB hu3 q2 q3 r3
  go_wp2_with fail
  refine hused.mono ?_
  rintro e w4 ⟨rfl, d1, d2⟩
  have HZ := Lib.hid (And.intro d1 d2)
  clear hused d1 d2
  go_wp2
  go_ret3
  have e3 : touchF ⟨room, d.keys ++ [k], d.order ++ [n]⟩ n = (useF d k).1 := by
    rw [E2.out, HB.out.len, ← HRM.out]
    unfold touchF
    rw [front_snoc (fun hm => by have := HB.out.inv.below n hm; have := HB.out.len; omega)]
  refine ⟨fun b => b = p ∨ b = M ∨ blk K1 = some b ∨ blk O1 = some b, by rw [E2.out, HB.out.len]; rfl, ⟨M, K1, O1, n + 1, ck1, co1, by rw [← e3]; exact HZ.out.1, fun _ => Iff.rfl⟩, ?_, ?_⟩
  · have h1 : Upd w w3 (fun b => S b) := HU.out.mono (fun b _ h => (HS.out b).2 h)
    exact h1.trans HZ.out.2 (fun b hb h => by
      rcases HX.out.2.2.2.2.2.1 b h with h | h
      · exact (HS.out b).2 (.inr (.inr (.inr h)))
      · omega)
  · intro b hb
    rcases hb with h | h | h | h
    · exact .inl ((HS.out b).2 (.inl h))
    · exact .inl ((HS.out b).2 (.inr (.inl h)))
    · rcases HX.out.2.2.2.2.1 b h with h | h
      · exact .inl ((HS.out b).2 (.inr (.inr (.inl h))))
      · exact .inr h
    · rcases HX.out.2.2.2.2.2.1 b h with h | h
      · exact .inl ((HS.out b).2 (.inr (.inr (.inr h))))
      · exact .inr h
end Go.Proofs.Ytipiohkpdkandaa
