/-
  An op on both sides (reevelaw05.world.does): walks. Conditions: none.
-/
import Derived.Test.YtipiohkpdkandaaDPair
import Derived.Deep.CutBlock
import Derived.Deep.RegionHeld3
namespace Go.Proofs.Ytipiohkpdkandaa
set_option linter.unusedVariables false
set_option linter.unusedSimpArgs false
open Go.RowKit

theorem quiet_left {P : Program} {f : FuncId} {args : Array Value} {w : World} {n : Nat} {v : Value}
    (h : Calls P f args (w.drewN n) fun e w'' => e = .returned v ∧ w.drewN n = w'') : Calls P f args (w.drewN n) fun e w'' => e = .returned v ∧ ∃ m, w'' = w.drewN m :=
  h.mono fun _ _ ⟨he, hw⟩ => ⟨he, n, hw.symm⟩
def DoesIs (B : Nat) (W : World) (o : Nat) (N : Int) (e : Ending) (w' : World) : Prop := e = .returned (.bool true) ∧ Plays B W w' o N
theorem bool_ret {b : Bool} (h : b = true) : Ending.returned (.bool b) = .returned (.bool true) := by rw [h]
theorem Plays.fin {B : Nat} {W w : World} {o : Nat} {N M : Int} (h : Plays B W w o N) (hm : N ≤ M) (hB : B ≤ W.heap.size) (n : Nat) : Plays B W (w.drewN n) o M := by
  obtain ⟨a, p, x, d, S, q, y, e, T, ha, h⟩ := h
  exact ((h.drewN n hB).more hm).plays ha
theorem Two.used {B : Nat} {W w1 : World} {o : Nat} {N : Int} {a p x : Nat} {d : DD} {S : Nat → Prop} {q y : Nat} {e : DD} {T : Nat → Prop} (h1 : Two B W w1 o N a p x d S q y e T) {S1 S2 : Nat → Prop}
    (d1 : DictAt w1 p d S1) (r1 : RefAt w1 x d N S2) (dis : ∀ b, S1 b → ¬ S2 b) (hiff : ∀ b, S b ↔ S1 b ∨ S2 b) {w3 w4 : World} {d' : DD} {S1' : Nat → Prop} {N' : Int}
    (a1 : DictAt w3 p d' S1') (a2 : Upd w1 w3 S1) (a3 : ∀ b, S1' b → S1 b ∨ w1.heap.size ≤ b) (b1 : RefAt w4 x d' N' S2) (b2 : Upd w3 w4 S2) (hN : N ≤ N') (hB : B ≤ W.heap.size) :
    Two B W w4 o N' a p x d' (fun b => S1' b ∨ S2 b) q y e T := by
  have dis' : ∀ b, S1' b → ¬ S2 b := fun b hb h2 => by
    rcases a3 b hb with hh | hh
    · exact dis b hh h2
    · have := r1.lt h2; omega
  refine h1.step ⟨S1', S2, a1.kept b2 dis', b1, dis', fun b => Iff.rfl⟩ ((a2.mono (fun b _ hb => (hiff b).2 (.inl hb))).trans b2 (fun b _ hb => (hiff b).2 (.inr hb))) ?_ hN hB
  rintro b (hb | hb)
  · rcases a3 b hb with hh | hh
    · exact .inl ((hiff b).2 (.inl hh))
    · exact .inr hh
  · exact .inl ((hiff b).2 (.inr hb))

theorem quiet_add_left {P : Program} {f : FuncId} {args : Array Value} {w : World} {a n : Nat} {v : Value}
    (h : Calls P f args (w.drewN (a + n)) fun e w' => e = .returned v ∧ w.drewN (a + n) = w') : Calls P f args (w.drewN (a + n)) fun e w'' => e = .returned v ∧ ∃ m, w'' = w.drewN (a + m) :=
  h.mono fun _ _ ⟨he, hm⟩ => ⟨he, n, hm.symm⟩


set_option maxRecDepth 100000 in
set_option maxHeartbeats 4000000 in
theorem does_look {B : Nat} {W w : World} {o : Nat} {N : Int} {a p x : Nat} {d : DD} {S : Nat → Prop} {q y : Nat} {e : DD} {T : Nat → Prop} (h : Two B W w o N a p x d S q y e T) (ha : a < 2) (hB : B ≤ W.heap.size) (hN : N ≤ 4611686018427387903) (on slot : Int) (key : ByteArray) (hm : key.size ≤ maxLen) :
    Calls Try.prog 34 #[ptr o, .agg #[.int .i64 on, .int .i64 0, .string key, .int .i64 slot]] w (DoesIs B W o (N + 1)) := by
  have hol := h.olt
  have hHN := Lib.hid (show N ≤ N + 1 by omega)
  have hSbox : ¬ S w.heap.size := fun hb => by have := h.one.lt hb; omega
  have HSB := Lib.hid hSbox
  have hb0 := h.bel.size
  obtain ⟨w1, hw1⟩ : ∃ w1, w.alloc (.cells #[.int .i64 on, .int .i64 0, .string key, .int .i64 slot] 71) = w1 := ⟨_, rfl⟩
  have b1 : Below w.heap.size w w1 := by rw [← hw1]; exact (Below.refl _ _).alloc (Nat.le_refl _) _
  have hbox : w1.heap[w.heap.size]? = some (.cells #[.int .i64 on, .int .i64 0, .string key, .int .i64 slot] 71 (0, 0)) := by rw [← hw1]; exact heap_alloc_new w _
  have HBX := Lib.hid hbox
  have h1 := h.below b1 hB
  have H1 := Lib.hid h1
  have z0 : w1.cell? ⟨w.heap.size, 0, none⟩ = some (.int .i64 on) := by simp [World.cell?, hbox]
  have z1 : w1.cell? ⟨w.heap.size, 1, none⟩ = some (.int .i64 0) := by simp [World.cell?, hbox]
  have z2 : w1.cell? ⟨w.heap.size, 2, none⟩ = some (.string key) := by simp [World.cell?, hbox]
  have z3 : w1.cell? ⟨w.heap.size, 3, none⟩ = some (.int .i64 slot) := by simp [World.cell?, hbox]
  clear h b1 hbox hSbox hb0
  unfold ptr
  have hcs : a = 0 ∨ a = 1 := by omega
  rcases hcs with rfl | rfl
  all_goals
    have k4 := h1.cell 4
    have k0 := h1.cell 0
    have k1 := h1.cell 1
    have k2 := h1.cell 2
    have k3 := h1.cell 3
    simp [sides, ptr] at k0 k1 k2 k3 k4
    clear h1
    go_enter Try.func34, Try.ntmps34
    go_upto_region 1 with fail
    clear hw1
    go_wp2_with fail
    go_quiet (fail)
    go_wp2_with fail
    go_quiet (fail)
    obtain ⟨S1, S2, d1, r1, dis, hiff⟩ := H1.out.one
    have c1 := fun m => look_any (d1.kept (upd_drewN m) (fun _ _ h => h)) key hm
    have c2 := fun m => refLook_any (r1.kept (upd_drewN m) (fun _ _ h => h)) key hm
    obtain ⟨lk, hlk⟩ : ∃ lk, lookF d key = lk := ⟨_, rfl⟩
    simp only [hlk] at c1 c2
    clear d1 r1 dis hiff hlk
    go_wp2_with fail
    go_quiet ((first | (go_at_call 25; exact quiet_add_left (c1 _)) | (go_at_call 57; exact quiet_add_left (c2 _))))
    go_wp2
    go_ret
    exact ⟨bool_ret (by simp), (((H1.out.drewN _ hB).drewN _ hB).more hHN.out).plays (by decide)⟩


set_option maxRecDepth 100000 in
set_option maxHeartbeats 4000000 in
theorem does_use {B : Nat} {W w : World} {o : Nat} {N : Int} {a p x : Nat} {d : DD} {S : Nat → Prop} {q y : Nat} {e : DD} {T : Nat → Prop} (h : Two B W w o N a p x d S q y e T) (ha : a < 2) (hB : B ≤ W.heap.size) (hN : N ≤ 4611686018427387903) (on slot : Int) (key : ByteArray) (hm : key.size ≤ maxLen) :
    Calls Try.prog 34 #[ptr o, .agg #[.int .i64 on, .int .i64 1, .string key, .int .i64 slot]] w (DoesIs B W o (N + 1)) := by
  have hol := h.olt
  have hHN := Lib.hid (show N ≤ N + 1 by omega)
  have hSbox : ¬ S w.heap.size := fun hb => by have := h.one.lt hb; omega
  have HSB := Lib.hid hSbox
  have hb0 := h.bel.size
  obtain ⟨w1, hw1⟩ : ∃ w1, w.alloc (.cells #[.int .i64 on, .int .i64 1, .string key, .int .i64 slot] 71) = w1 := ⟨_, rfl⟩
  have b1 : Below w.heap.size w w1 := by rw [← hw1]; exact (Below.refl _ _).alloc (Nat.le_refl _) _
  have hbox : w1.heap[w.heap.size]? = some (.cells #[.int .i64 on, .int .i64 1, .string key, .int .i64 slot] 71 (0, 0)) := by rw [← hw1]; exact heap_alloc_new w _
  have HBX := Lib.hid hbox
  have h1 := h.below b1 hB
  have H1 := Lib.hid h1
  have z0 : w1.cell? ⟨w.heap.size, 0, none⟩ = some (.int .i64 on) := by simp [World.cell?, hbox]
  have z1 : w1.cell? ⟨w.heap.size, 1, none⟩ = some (.int .i64 1) := by simp [World.cell?, hbox]
  have z2 : w1.cell? ⟨w.heap.size, 2, none⟩ = some (.string key) := by simp [World.cell?, hbox]
  have z3 : w1.cell? ⟨w.heap.size, 3, none⟩ = some (.int .i64 slot) := by simp [World.cell?, hbox]
  clear h b1 hbox hSbox hb0
  unfold ptr
  have hcs : a = 0 ∨ a = 1 := by omega
  rcases hcs with rfl | rfl
  all_goals
    have k4 := h1.cell 4
    have k0 := h1.cell 0
    have k1 := h1.cell 1
    have k2 := h1.cell 2
    have k3 := h1.cell 3
    simp [sides, ptr] at k0 k1 k2 k3 k4
    clear h1
    go_enter Try.func34, Try.ntmps34
    go_upto_region 1 with fail
    clear hw1
    go_wp2_with fail
    go_quiet (fail)
    go_wp2_with fail
    go_quiet (fail)
    obtain ⟨S1, S2, d1, r1, dis, hiff⟩ := H1.out.one
    have c1 := fun m => use_all (d1.kept (upd_drewN m) (fun _ _ h => h)) key hm
    obtain ⟨d', us, uh, ue, hu⟩ : ∃ d' us uh ue, useG d key = (d', us, uh, ue) := ⟨_, _, _, _, rfl⟩
    unfold UseAll at c1
    simp only [hu] at c1
    have HD := Lib.hid (And.intro d1 (And.intro r1 (And.intro dis (And.intro hiff hu))))
    clear d1 r1 dis hiff hu
    go_wp2_with fail
    refine (c1 _).mono ?_
    rintro e w3 ⟨S1', rfl, a1, a2, a3⟩
    have a2' : Upd w1 w3 S1 := ⟨a2.os, a2.tape, a2.output, a2.size, a2.block⟩
    have a3' : ∀ b, S1' b → S1 b ∨ w1.heap.size ≤ b := a3
    obtain ⟨d1, r1, dis, hiff, hu⟩ := HD.out
    have c2 := refUse_any (r1.kept a2' (fun b h2 h1 => dis b h1 h2)) hN key hm
    unfold RUse at c2
    simp only [hu] at c2
    have hb3 := (a2'.block w.heap.size (Array.getElem?_eq_some_iff.1 HBX.out).1 (fun h => HSB.out ((hiff _).2 (.inl h)))).trans HBX.out
    have y2 : w3.cell? ⟨w.heap.size, 2, none⟩ = some (.string key) := by simp [World.cell?, hb3]
    have HA := Lib.hid (And.intro a1 (And.intro a2' a3'))
    clear c1 a1 a2 a3 a2' a3' d1 r1 dis hiff hu hb3
    go_wp2_with fail
    refine c2.mono ?_
    rintro e w4 ⟨rfl, b1, b2⟩
    have HB := Lib.hid (And.intro b1 b2)
    clear c2 b1 b2
    go_wp2
    go_ret
    exact ⟨bool_ret (by simp), (H1.out.used HD.out.1 HD.out.2.1 HD.out.2.2.1 HD.out.2.2.2.1 HA.out.1 HA.out.2.1 HA.out.2.2 HB.out.1 HB.out.2 hHN.out hB).plays (by decide)⟩


set_option maxRecDepth 100000 in
set_option maxHeartbeats 4000000 in
theorem does_touch {B : Nat} {W w : World} {o : Nat} {N : Int} {a p x : Nat} {d : DD} {S : Nat → Prop} {q y : Nat} {e : DD} {T : Nat → Prop} (h : Two B W w o N a p x d S q y e T) (ha : a < 2) (hB : B ≤ W.heap.size) (hN : N ≤ 4611686018427387903) (on slot : Int) (key : ByteArray) (hm : key.size ≤ maxLen) :
    Calls Try.prog 34 #[ptr o, .agg #[.int .i64 on, .int .i64 2, .string key, .int .i64 slot]] w (DoesIs B W o (N + 1)) := by
  have hol := h.olt
  have hHN := Lib.hid (show N ≤ N + 1 by omega)
  have hSbox : ¬ S w.heap.size := fun hb => by have := h.one.lt hb; omega
  have HSB := Lib.hid hSbox
  have hb0 := h.bel.size
  obtain ⟨w1, hw1⟩ : ∃ w1, w.alloc (.cells #[.int .i64 on, .int .i64 2, .string key, .int .i64 slot] 71) = w1 := ⟨_, rfl⟩
  have b1 : Below w.heap.size w w1 := by rw [← hw1]; exact (Below.refl _ _).alloc (Nat.le_refl _) _
  have hbox : w1.heap[w.heap.size]? = some (.cells #[.int .i64 on, .int .i64 2, .string key, .int .i64 slot] 71 (0, 0)) := by rw [← hw1]; exact heap_alloc_new w _
  have HBX := Lib.hid hbox
  have h1 := h.below b1 hB
  have H1 := Lib.hid h1
  have z0 : w1.cell? ⟨w.heap.size, 0, none⟩ = some (.int .i64 on) := by simp [World.cell?, hbox]
  have z1 : w1.cell? ⟨w.heap.size, 1, none⟩ = some (.int .i64 2) := by simp [World.cell?, hbox]
  have z2 : w1.cell? ⟨w.heap.size, 2, none⟩ = some (.string key) := by simp [World.cell?, hbox]
  have z3 : w1.cell? ⟨w.heap.size, 3, none⟩ = some (.int .i64 slot) := by simp [World.cell?, hbox]
  clear h b1 hbox hSbox hb0
  unfold ptr
  have hcs : a = 0 ∨ a = 1 := by omega
  rcases hcs with rfl | rfl
  all_goals
    have k4 := h1.cell 4
    have k0 := h1.cell 0
    have k1 := h1.cell 1
    have k2 := h1.cell 2
    have k3 := h1.cell 3
    simp [sides, ptr] at k0 k1 k2 k3 k4
    clear h1
    go_enter Try.func34, Try.ntmps34
    go_upto_region 1 with fail
    clear hw1
    go_wp2_with fail
    go_quiet (fail)
    go_wp2_with fail
    go_quiet (fail)
    obtain ⟨S1, S2, d1, r1, dis, hiff⟩ := H1.out.one
    have c1 := fun m => touch_all (d1.kept (upd_drewN m) (fun _ _ h => h)) slot
    obtain ⟨d', tk, te, hu⟩ : ∃ d' tk te, touchG d slot = (d', tk, te) := ⟨_, _, _, rfl⟩
    unfold TouchAll at c1
    simp only [hu] at c1
    have HD := Lib.hid (And.intro d1 (And.intro r1 (And.intro dis (And.intro hiff hu))))
    clear d1 r1 dis hiff hu
    go_wp2_with fail
    refine (c1 _).mono ?_
    rintro e w3 ⟨rfl, a1, a2⟩
    have a2' : Upd w1 w3 S1 := ⟨a2.os, a2.tape, a2.output, a2.size, a2.block⟩
    obtain ⟨d1, r1, dis, hiff, hu⟩ := HD.out
    have c2 := refTouch_any (r1.kept a2' (fun b h2 h1 => dis b h1 h2)) hN slot
    unfold RTouch at c2
    simp only [hu] at c2
    have hb3 := (a2'.block w.heap.size (Array.getElem?_eq_some_iff.1 HBX.out).1 (fun h => HSB.out ((hiff _).2 (.inl h)))).trans HBX.out
    have y2 : w3.cell? ⟨w.heap.size, 3, none⟩ = some (.int .i64 slot) := by simp [World.cell?, hb3]
    have HA := Lib.hid (And.intro a1 a2')
    clear c1 a1 a2 a2' d1 r1 dis hiff hu hb3
    go_wp2_with fail
    refine c2.mono ?_
    rintro e w4 ⟨rfl, b1, b2⟩
    have HB := Lib.hid (And.intro b1 b2)
    clear c2 b1 b2
    go_wp2
    go_ret
    exact ⟨bool_ret (by simp [bytes_same]), (H1.out.used HD.out.1 HD.out.2.1 HD.out.2.2.1 HD.out.2.2.2.1 HA.out.1 HA.out.2 (fun b hb => .inl hb) HB.out.1 HB.out.2 hHN.out hB).plays (by decide)⟩


set_option maxRecDepth 100000 in
set_option maxHeartbeats 4000000 in
theorem does_keys {B : Nat} {W w : World} {o : Nat} {N : Int} {a p x : Nat} {d : DD} {S : Nat → Prop} {q y : Nat} {e : DD} {T : Nat → Prop} (h : Two B W w o N a p x d S q y e T) (ha : a < 2) (hB : B ≤ W.heap.size) (hN : N ≤ 4611686018427387903) (on slot : Int) (key : ByteArray) (hm : key.size ≤ maxLen) :
    Calls Try.prog 34 #[ptr o, .agg #[.int .i64 on, .int .i64 3, .string key, .int .i64 slot]] w (DoesIs B W o (N + 1)) := by
  have hol := h.olt
  have hHN := Lib.hid (show N ≤ N + 1 by omega)
  have hSbox : ¬ S w.heap.size := fun hb => by have := h.one.lt hb; omega
  have HSB := Lib.hid hSbox
  have hb0 := h.bel.size
  obtain ⟨w1, hw1⟩ : ∃ w1, w.alloc (.cells #[.int .i64 on, .int .i64 3, .string key, .int .i64 slot] 71) = w1 := ⟨_, rfl⟩
  have b1 : Below w.heap.size w w1 := by rw [← hw1]; exact (Below.refl _ _).alloc (Nat.le_refl _) _
  have hbox : w1.heap[w.heap.size]? = some (.cells #[.int .i64 on, .int .i64 3, .string key, .int .i64 slot] 71 (0, 0)) := by rw [← hw1]; exact heap_alloc_new w _
  have HBX := Lib.hid hbox
  have h1 := h.below b1 hB
  have H1 := Lib.hid h1
  have z0 : w1.cell? ⟨w.heap.size, 0, none⟩ = some (.int .i64 on) := by simp [World.cell?, hbox]
  have z1 : w1.cell? ⟨w.heap.size, 1, none⟩ = some (.int .i64 3) := by simp [World.cell?, hbox]
  have z2 : w1.cell? ⟨w.heap.size, 2, none⟩ = some (.string key) := by simp [World.cell?, hbox]
  have z3 : w1.cell? ⟨w.heap.size, 3, none⟩ = some (.int .i64 slot) := by simp [World.cell?, hbox]
  clear h b1 hbox hSbox hb0
  unfold ptr
  have hcs : a = 0 ∨ a = 1 := by omega
  rcases hcs with rfl | rfl
  all_goals
    have k4 := h1.cell 4
    have k0 := h1.cell 0
    have k1 := h1.cell 1
    have k2 := h1.cell 2
    have k3 := h1.cell 3
    simp [sides, ptr] at k0 k1 k2 k3 k4
    clear h1
    go_enter Try.func34, Try.ntmps34
    go_upto_region 1 with fail
    clear hw1
    go_wp2_with fail
    go_quiet (fail)
    go_wp2_with fail
    go_quiet (fail)
    obtain ⟨S1, S2, d1, r1, dis, hiff⟩ := H1.out.one
    have c1 := fun m => told_any (d1.kept (upd_drewN m) (fun _ _ h => h)) (r1.kept (upd_drewN m) (fun _ _ h => h)) hN
    clear d1 r1 dis hiff
    go_wp2_with fail
    refine (c1 _).mono ?_
    rintro e w3 ⟨rfl, b3⟩
    have b3' : Below w1.heap.size w1 w3 := ⟨b3.os, b3.tape, b3.output, b3.size, b3.block⟩
    have HB := Lib.hid b3'
    clear c1 b3 b3'
    go_wp2
    go_ret
    exact ⟨rfl, ((H1.out.below HB.out hB).more hHN.out).plays (by decide)⟩


set_option maxRecDepth 100000 in
set_option maxHeartbeats 4000000 in
theorem does_clone {B : Nat} {W w : World} {o : Nat} {N : Int} {a p x : Nat} {d : DD} {S : Nat → Prop} {q y : Nat} {e : DD} {T : Nat → Prop} (h : Two B W w o N a p x d S q y e T) (ha : a < 2) (hB : B ≤ W.heap.size) (hN : N ≤ 4611686018427387903) (on slot : Int) (key : ByteArray) (hm : key.size ≤ maxLen) :
    Calls Try.prog 34 #[ptr o, .agg #[.int .i64 on, .int .i64 4, .string key, .int .i64 slot]] w (DoesIs B W o (N + 1)) := by
  have hol := h.olt
  have hHN := Lib.hid (show N ≤ N + 1 by omega)
  have hSbox : ¬ S w.heap.size := fun hb => by have := h.one.lt hb; omega
  have HSB := Lib.hid hSbox
  have hb0 := h.bel.size
  obtain ⟨w1, hw1⟩ : ∃ w1, w.alloc (.cells #[.int .i64 on, .int .i64 4, .string key, .int .i64 slot] 71) = w1 := ⟨_, rfl⟩
  have b1 : Below w.heap.size w w1 := by rw [← hw1]; exact (Below.refl _ _).alloc (Nat.le_refl _) _
  have hbox : w1.heap[w.heap.size]? = some (.cells #[.int .i64 on, .int .i64 4, .string key, .int .i64 slot] 71 (0, 0)) := by rw [← hw1]; exact heap_alloc_new w _
  have HBX := Lib.hid hbox
  have h1 := h.below b1 hB
  have H1 := Lib.hid h1
  have z0 : w1.cell? ⟨w.heap.size, 0, none⟩ = some (.int .i64 on) := by simp [World.cell?, hbox]
  have z1 : w1.cell? ⟨w.heap.size, 1, none⟩ = some (.int .i64 4) := by simp [World.cell?, hbox]
  have z2 : w1.cell? ⟨w.heap.size, 2, none⟩ = some (.string key) := by simp [World.cell?, hbox]
  have z3 : w1.cell? ⟨w.heap.size, 3, none⟩ = some (.int .i64 slot) := by simp [World.cell?, hbox]
  clear h b1 hbox hSbox hb0
  unfold ptr
  have hcs : a = 0 ∨ a = 1 := by omega
  rcases hcs with rfl | rfl
  · have hwr : IntKind.i64.wrap 1 = 1 := IntWalk.i64_in _ (by decide)
    have k4 := h1.cell 4
    have k0 := h1.cell 0
    have k1 := h1.cell 1
    have k2 := h1.cell 2
    have k3 := h1.cell 3
    simp [sides, ptr] at k0 k1 k2 k3 k4
    clear h1
    have hdr : ∀ m, Below w1.heap.size w1 (w1.drewN m) := fun m => below_drewN (Below.refl _ _) m
    have hcl : ∀ w', Below w1.heap.size w1 w' → Calls Try.prog 32 #[.pointer (some ⟨p, 0, none⟩)] w' (fun e w'' => ∃ q, e = .returned (.pointer (some ⟨q, 0, none⟩)) ∧ DictNew w1 d q w'' ∧ Below w1.heap.size w1 w'') := fun w' hb => by
      obtain ⟨S1, S2, d1, r1, dis, hiff⟩ := H1.out.one
      refine (dclone (d1.kept (Upd.of_below hb) (fun b h1 h2 => by have := d1.lt h1; omega))).mono ?_
      rintro e w'' ⟨q, rfl, S3, a1, a2, a3⟩
      have hb3 := hb.trans (a3.mono hb.size)
      exact ⟨q, rfl, ⟨S3, a1, fun b hb' => by have := a2 b hb'; have := hb.size; omega, hb3⟩, hb3⟩
    go_enter Try.func34, Try.ntmps34
    go_upto_region 1 with fail
    clear hw1
    go_wp2_with fail
    go_quiet (fail)
    go_wp2_with fail
    go_quiet (fail)
    go_wp2_with fail
    go_region_held3 (fun w' => w'.cell? ⟨o, 4, none⟩ = some (.int .i64 0))
      (first | go_keep | (rw [World.cell?_setCell_other _ _ _ _ (by simp)]; assumption))
      ((go_at_call 32; refine (hcl _ (by first | exact hdr _ | exact (hdr _).drew | exact ((hdr _).drew).drew)).mono ?_; rintro e w3 ⟨pn, rfl, dn, b3⟩; have c4 : w3.cell? ⟨o, 4, none⟩ = some (.int .i64 0) := (b3.cell (p := ⟨o, 4, none⟩) H1.out.olt).trans k4; have cb : w3.cell? ⟨o, 1, none⟩ = some (.pointer (some ⟨q, 0, none⟩)) := (b3.cell (p := ⟨o, 1, none⟩) H1.out.olt).trans k1; have fb : w3.frozen? ⟨o, 1, none⟩ = false := (World.frozen?_of_block (w := w1) (b3.block o H1.out.olt)).trans (H1.out.free 1)))
    obtain ⟨w4, hw4⟩ : ∃ w4, w3.setCell ⟨o, 1, none⟩ (.pointer (some ⟨pn, 0, none⟩)) = w4 := ⟨_, rfl⟩
    have u4 : Upd w3 w4 (fun b => b = o) := by rw [← hw4]; exact setCell_upd w3 o 1 _
    have e3 : w3.heap[o]? = some (.cells (sides 0 p q x y 0) 69 (0, 0)) := (b3.block o H1.out.olt).trans H1.out.head
    have e4 := cells_set5 (i := 1) (.pointer (some ⟨pn, 0, none⟩)) e3
    have hs13 := b3.size
    rw [hw4] at e4 ⊢
    have m4 : w4.cell? ⟨o, 4, none⟩ = some (.int .i64 0) := by simp [World.cell?, e4, sides, ptr]
    have HW4 := Lib.hid (And.intro hw4 (And.intro u4 (And.intro e4 (And.intro b3 dn))))
    have hol4 : o < w4.heap.size := (Array.getElem?_eq_some_iff.1 e4).1
    have hdr4 : ∀ m, Below w4.heap.size w4 (w4.drewN m) := fun m => below_drewN (Below.refl _ _) m
    have hcl2 : ∀ w', Below w4.heap.size w4 w' → Calls Try.prog 33 #[.pointer (some ⟨x, 0, none⟩)] w' (fun e w'' => ∃ q, e = .returned (.pointer (some ⟨q, 0, none⟩)) ∧ RefNew w4 d N q w'' ∧ Below w4.heap.size w4 w'') := fun w' hb => by
      obtain ⟨S1, S2, d1, r1, dis, hiff⟩ := H1.out.one
      have r4 := (r1.below HW4.out.2.2.2.1).kept HW4.out.2.1 (fun b h2 h => (H1.out.s b ((hiff b).2 (.inr h2))).2.1 h)
      refine (refClone_any (r4.below hb)).mono ?_
      rintro e w'' ⟨q, rfl, S3, a1, a2, a3⟩
      have hb3 := hb.trans (a3.mono hb.size)
      exact ⟨q, rfl, ⟨S3, a1, fun b hb' => by have := a2 b hb'; have := hb.size; omega, hb3⟩, hb3⟩
    clear hcl hdr k0 k1 k2 k3 k4 c4 cb fb b3 dn hw4 u4 e3 e4 z0 z1 z2 z3
    go_wp2_with fail
    go_region_held3 (fun w' => w'.cell? ⟨o, 4, none⟩ = some (.int .i64 0))
      (first | go_keep | (rw [World.cell?_setCell_other _ _ _ _ (by simp)]; assumption))
      ((go_at_call 33; refine (hcl2 _ (by first | exact Below.refl _ _ | exact (Below.refl _ _).drew | exact ((Below.refl _ _).drew).drew | exact hdr4 _ | exact (hdr4 _).drew | exact ((hdr4 _).drew).drew)).mono ?_; rintro e w5 ⟨xn, rfl, rn, b5⟩; have e5 := Lib.hid ((b5.block o hol4).trans HW4.out.2.2.1); have c4 : w5.cell? ⟨o, 4, none⟩ = some (.int .i64 0) := (by simp [World.cell?, e5.out, sides, ptr]); have cb : w5.cell? ⟨o, 3, none⟩ = some (.pointer (some ⟨y, 0, none⟩)) := (by simp [World.cell?, e5.out, sides, ptr]); have fb : w5.frozen? ⟨o, 3, none⟩ = false := (by simp [World.frozen?, e5.out])))
    obtain ⟨w6, hw6⟩ : ∃ w6, w5.setCell ⟨o, 3, none⟩ (.pointer (some ⟨xn, 0, none⟩)) = w6 := ⟨_, rfl⟩
    have e6 := cells_set5 (i := 3) (.pointer (some ⟨xn, 0, none⟩)) e5.out
    rw [hw6] at e6 ⊢
    have m4' : w6.cell? ⟨o, 4, none⟩ = some (.int .i64 0) := by simp [World.cell?, e6, sides, ptr]
    have mb' : w6.cell? ⟨o, 1, none⟩ = some (.pointer (some ⟨pn, 0, none⟩)) := by simp [World.cell?, e6, sides, ptr]
    have HP : Hid (Plays B W w6 o N) := by
      have hc := H1.out.cloned ha hB HW4.out.2.2.2.1 HW4.out.2.2.2.2 (w2 := w5) (xn := xn) (by
        show RefNew (w3.setCell ⟨o, 1, none⟩ (.pointer (some ⟨pn, 0, none⟩))) d N xn w5
        rw [HW4.out.1]; exact rn)
      have e : w5.setCell ⟨o, 2 + (1 - 0), none⟩ (ptr xn) = w6 := hw6
      rw [e] at hc
      exact hc
    clear hcl2 hdr4 m4 c4 cb fb rn b5 e5 e6 hw6
    go_wp2_with fail
    go_quiet (fail)
    go_wp2
    go_ret
    exact ⟨rfl, HP.out.fin hHN.out hB _⟩
  · have hwr : IntKind.i64.wrap 0 = 0 := IntWalk.i64_in _ (by decide)
    have k4 := h1.cell 4
    have k0 := h1.cell 0
    have k1 := h1.cell 1
    have k2 := h1.cell 2
    have k3 := h1.cell 3
    simp [sides, ptr] at k0 k1 k2 k3 k4
    clear h1
    have hdr : ∀ m, Below w1.heap.size w1 (w1.drewN m) := fun m => below_drewN (Below.refl _ _) m
    have hcl : ∀ w', Below w1.heap.size w1 w' → Calls Try.prog 32 #[.pointer (some ⟨p, 0, none⟩)] w' (fun e w'' => ∃ q, e = .returned (.pointer (some ⟨q, 0, none⟩)) ∧ DictNew w1 d q w'' ∧ Below w1.heap.size w1 w'') := fun w' hb => by
      obtain ⟨S1, S2, d1, r1, dis, hiff⟩ := H1.out.one
      refine (dclone (d1.kept (Upd.of_below hb) (fun b h1 h2 => by have := d1.lt h1; omega))).mono ?_
      rintro e w'' ⟨q, rfl, S3, a1, a2, a3⟩
      have hb3 := hb.trans (a3.mono hb.size)
      exact ⟨q, rfl, ⟨S3, a1, fun b hb' => by have := a2 b hb'; have := hb.size; omega, hb3⟩, hb3⟩
    go_enter Try.func34, Try.ntmps34
    go_upto_region 1 with fail
    clear hw1
    go_wp2_with fail
    go_quiet (fail)
    go_wp2_with fail
    go_quiet (fail)
    go_wp2_with fail
    go_region_held3 (fun w' => w'.cell? ⟨o, 4, none⟩ = some (.int .i64 1))
      (first | go_keep | (rw [World.cell?_setCell_other _ _ _ _ (by simp)]; assumption))
      ((go_at_call 32; refine (hcl _ (by first | exact hdr _ | exact (hdr _).drew | exact ((hdr _).drew).drew)).mono ?_; rintro e w3 ⟨pn, rfl, dn, b3⟩; have c4 : w3.cell? ⟨o, 4, none⟩ = some (.int .i64 1) := (b3.cell (p := ⟨o, 4, none⟩) H1.out.olt).trans k4; have cb : w3.cell? ⟨o, 0, none⟩ = some (.pointer (some ⟨q, 0, none⟩)) := (b3.cell (p := ⟨o, 0, none⟩) H1.out.olt).trans k0; have fb : w3.frozen? ⟨o, 0, none⟩ = false := (World.frozen?_of_block (w := w1) (b3.block o H1.out.olt)).trans (H1.out.free 0)))
    obtain ⟨w4, hw4⟩ : ∃ w4, w3.setCell ⟨o, 0, none⟩ (.pointer (some ⟨pn, 0, none⟩)) = w4 := ⟨_, rfl⟩
    have u4 : Upd w3 w4 (fun b => b = o) := by rw [← hw4]; exact setCell_upd w3 o 0 _
    have e3 : w3.heap[o]? = some (.cells (sides 1 p q x y 1) 69 (0, 0)) := (b3.block o H1.out.olt).trans H1.out.head
    have e4 := cells_set5 (i := 0) (.pointer (some ⟨pn, 0, none⟩)) e3
    have hs13 := b3.size
    rw [hw4] at e4 ⊢
    have m4 : w4.cell? ⟨o, 4, none⟩ = some (.int .i64 1) := by simp [World.cell?, e4, sides, ptr]
    have HW4 := Lib.hid (And.intro hw4 (And.intro u4 (And.intro e4 (And.intro b3 dn))))
    have hol4 : o < w4.heap.size := (Array.getElem?_eq_some_iff.1 e4).1
    have hdr4 : ∀ m, Below w4.heap.size w4 (w4.drewN m) := fun m => below_drewN (Below.refl _ _) m
    have hcl2 : ∀ w', Below w4.heap.size w4 w' → Calls Try.prog 33 #[.pointer (some ⟨x, 0, none⟩)] w' (fun e w'' => ∃ q, e = .returned (.pointer (some ⟨q, 0, none⟩)) ∧ RefNew w4 d N q w'' ∧ Below w4.heap.size w4 w'') := fun w' hb => by
      obtain ⟨S1, S2, d1, r1, dis, hiff⟩ := H1.out.one
      have r4 := (r1.below HW4.out.2.2.2.1).kept HW4.out.2.1 (fun b h2 h => (H1.out.s b ((hiff b).2 (.inr h2))).2.1 h)
      refine (refClone_any (r4.below hb)).mono ?_
      rintro e w'' ⟨q, rfl, S3, a1, a2, a3⟩
      have hb3 := hb.trans (a3.mono hb.size)
      exact ⟨q, rfl, ⟨S3, a1, fun b hb' => by have := a2 b hb'; have := hb.size; omega, hb3⟩, hb3⟩
    clear hcl hdr k0 k1 k2 k3 k4 c4 cb fb b3 dn hw4 u4 e3 e4 z0 z1 z2 z3
    go_wp2_with fail
    go_region_held3 (fun w' => w'.cell? ⟨o, 4, none⟩ = some (.int .i64 1))
      (first | go_keep | (rw [World.cell?_setCell_other _ _ _ _ (by simp)]; assumption))
      ((go_at_call 33; refine (hcl2 _ (by first | exact Below.refl _ _ | exact (Below.refl _ _).drew | exact ((Below.refl _ _).drew).drew | exact hdr4 _ | exact (hdr4 _).drew | exact ((hdr4 _).drew).drew)).mono ?_; rintro e w5 ⟨xn, rfl, rn, b5⟩; have e5 := Lib.hid ((b5.block o hol4).trans HW4.out.2.2.1); have c4 : w5.cell? ⟨o, 4, none⟩ = some (.int .i64 1) := (by simp [World.cell?, e5.out, sides, ptr]); have cb : w5.cell? ⟨o, 2, none⟩ = some (.pointer (some ⟨y, 0, none⟩)) := (by simp [World.cell?, e5.out, sides, ptr]); have fb : w5.frozen? ⟨o, 2, none⟩ = false := (by simp [World.frozen?, e5.out])))
    obtain ⟨w6, hw6⟩ : ∃ w6, w5.setCell ⟨o, 2, none⟩ (.pointer (some ⟨xn, 0, none⟩)) = w6 := ⟨_, rfl⟩
    have e6 := cells_set5 (i := 2) (.pointer (some ⟨xn, 0, none⟩)) e5.out
    rw [hw6] at e6 ⊢
    have m4' : w6.cell? ⟨o, 4, none⟩ = some (.int .i64 1) := by simp [World.cell?, e6, sides, ptr]
    have mb' : w6.cell? ⟨o, 0, none⟩ = some (.pointer (some ⟨pn, 0, none⟩)) := by simp [World.cell?, e6, sides, ptr]
    have HP : Hid (Plays B W w6 o N) := by
      have hc := H1.out.cloned ha hB HW4.out.2.2.2.1 HW4.out.2.2.2.2 (w2 := w5) (xn := xn) (by
        show RefNew (w3.setCell ⟨o, 0, none⟩ (.pointer (some ⟨pn, 0, none⟩))) d N xn w5
        rw [HW4.out.1]; exact rn)
      have e : w5.setCell ⟨o, 2 + (1 - 1), none⟩ (ptr xn) = w6 := hw6
      rw [e] at hc
      exact hc
    clear hcl2 hdr4 m4 c4 cb fb rn b5 e5 e6 hw6
    go_wp2_with fail
    go_quiet (fail)
    go_wp2
    go_ret
    exact ⟨rfl, HP.out.fin hHN.out hB _⟩


set_option maxRecDepth 100000 in
set_option maxHeartbeats 4000000 in
theorem does_none {B : Nat} {W w : World} {o : Nat} {N : Int} {a p x : Nat} {d : DD} {S : Nat → Prop} {q y : Nat} {e : DD} {T : Nat → Prop} (h : Two B W w o N a p x d S q y e T) (ha : a < 2) (hB : B ≤ W.heap.size) (hN : N ≤ 4611686018427387903) (on act slot : Int) (key : ByteArray) (hm : key.size ≤ maxLen) (e0 : (act == 0) = false) (e1 : (act == 1) = false) (e2 : (act == 2) = false) (e3 : (act == 3) = false) (e4 : (act == 4) = false) :
    Calls Try.prog 34 #[ptr o, .agg #[.int .i64 on, .int .i64 act, .string key, .int .i64 slot]] w (DoesIs B W o (N + 1)) := by
  have hol := h.olt
  have hHN := Lib.hid (show N ≤ N + 1 by omega)
  have hSbox : ¬ S w.heap.size := fun hb => by have := h.one.lt hb; omega
  have HSB := Lib.hid hSbox
  have hb0 := h.bel.size
  obtain ⟨w1, hw1⟩ : ∃ w1, w.alloc (.cells #[.int .i64 on, .int .i64 act, .string key, .int .i64 slot] 71) = w1 := ⟨_, rfl⟩
  have b1 : Below w.heap.size w w1 := by rw [← hw1]; exact (Below.refl _ _).alloc (Nat.le_refl _) _
  have hbox : w1.heap[w.heap.size]? = some (.cells #[.int .i64 on, .int .i64 act, .string key, .int .i64 slot] 71 (0, 0)) := by rw [← hw1]; exact heap_alloc_new w _
  have HBX := Lib.hid hbox
  have h1 := h.below b1 hB
  have H1 := Lib.hid h1
  have z0 : w1.cell? ⟨w.heap.size, 0, none⟩ = some (.int .i64 on) := by simp [World.cell?, hbox]
  have z1 : w1.cell? ⟨w.heap.size, 1, none⟩ = some (.int .i64 act) := by simp [World.cell?, hbox]
  have z2 : w1.cell? ⟨w.heap.size, 2, none⟩ = some (.string key) := by simp [World.cell?, hbox]
  have z3 : w1.cell? ⟨w.heap.size, 3, none⟩ = some (.int .i64 slot) := by simp [World.cell?, hbox]
  clear h b1 hbox hSbox hb0
  unfold ptr
  have hcs : a = 0 ∨ a = 1 := by omega
  rcases hcs with rfl | rfl
  all_goals
    have k4 := h1.cell 4
    have k0 := h1.cell 0
    have k1 := h1.cell 1
    have k2 := h1.cell 2
    have k3 := h1.cell 3
    simp [sides, ptr] at k0 k1 k2 k3 k4
    clear h1
    go_enter Try.func34, Try.ntmps34
    go_upto_region 1 with fail
    clear hw1
    go_wp2_with fail
    go_quiet (fail)
    go_wp2_with fail
    go_quiet (fail)
    clear k0 k1 k2 k3 k4
    go_wp2
    go_ret
    exact ⟨rfl, ((H1.out.drewN _ hB).more hHN.out).plays (by decide)⟩

end Go.Proofs.Ytipiohkpdkandaa
