/-
  The document's examples of chapter 06: walk. Conditions: none.
-/
import Derived.Test.YtipiohkpdkandaaRecO
namespace Go.Proofs.Ytipiohkpdkandaa
set_option linter.unusedVariables false
set_option linter.unusedSimpArgs false
open Go.RowKit

theorem row_text {w : World} {A : Option Addr} {n k : Nat} {l : List Int} (h : Row w 5 A n k (nums .u8 l)) (hn : 0 < n) :
    (convert 25 9 (.slice A n k)).run Try.prog w = .ok (.string (strOfNums l)) w := by
  have hl : l.length = n := by have := h.len; rwa [nums_length] at this
  obtain ⟨b, o, rfl, hc⟩ := h.rd.form hn
  refine run_convert_bytes_arg (P := Try.prog) w 25 5 Try.underlying25 Try.underlying5 b o n k l hl (fun i hi => ?_) 9 Try.underlying9
  refine hc i _ ?_
  rw [nums_get, List.getElem?_eq_getElem (show i < l.length by omega)]
  simp [List.getD_eq_getElem?_getD, List.getElem?_eq_getElem (show i < l.length by omega)]

set_option maxRecDepth 100000 in
set_option maxHeartbeats 4000000 in
theorem awake6_any (W : World) : Calls Try.prog 17 #[] W fun e w' => e = .returned (.bool true) ∧ Below W.heap.size W w' := by
  have hpl := plain_any
  have hbad := fun w => recNew_no w zeroP zero_no
  go_enter Try.func17, Try.ntmps17
  go_wp2_with fail
  refine (hpl _).mono ?_
  rintro e w1 ⟨rfl, b1⟩
  have hn := ownC_new (B := W.heap.size) plainP plain_ok b1 (Nat.le_refl _)
  clear b1
  go_wp2_with fail
  refine hn.mono ?_
  rintro e w2 ⟨p, rfl, o⟩
  clear hn
  go_wp2_with fail
  refine (hpl _).mono ?_
  rintro e w3 ⟨rfl, b3⟩
  replace o := o.below b3 (Nat.le_refl _)
  have hn := ownC2_new plainP plain_ok o (Nat.le_refl _)
  clear b3 hpl o
  go_wp2_with fail
  refine hn.mono ?_
  rintro e w4 ⟨q, rfl, o⟩
  have HO := Lib.hid o
  clear hn o
  go_wp2_with fail
  refine (hbad _).mono ?_
  rintro e w5 ⟨rfl, b5⟩
  have o := HO.out.below b5 (Nat.le_refl _)
  replace o : OwnC2 (fun b => False ∨ b = w5.heap.size) W.heap.size W (w5.alloc (.cells #[.int .i64 5, .string ⟨#[97]⟩, .int .i64 3, .int .i64 1] 34)) p c0 q c0 := o.frame ((Below.refl _ _).alloc (Nat.le_refl _) _) (Nat.le_refl _) (by
    rintro b (h | rfl)
    · exact h.elim
    · exact .inr ⟨Nat.le_refl _, by simp⟩)
  have hput := ownC2_put o (Nat.le_refl _) r0 (by decide)
  unfold PutRow at hput
  rw [put_r0] at hput
  clear hbad b5 HO o
  go_wp2_with fail
  refine hput.mono ?_
  rintro e w6 ⟨A, k, ⟨rfl, r6, a6⟩, o, k6⟩
  have g0 := k6 w5.heap.size (.inr rfl)
  rw [heap_alloc_new] at g0
  have hget := ownC2_get o.swap (Nat.le_refl _) (r6.bytesIn (by have := putF_bytes c0 r0; rw [put_r0] at this; exact this) (by decide)) 0
  rw [get_r0] at hget
  unfold GetIs at hget
  dsimp only at hget
  rw [show r0.val = .agg #[.int .i64 5, .string ⟨#[97]⟩, .int .i64 3, .int .i64 1] from rfl] at hget
  have HR := Lib.hid (And.intro r6 g0)
  clear hput a6 k6 o r6 g0
  go_wp2_with fail
  refine hget.mono ?_
  rintro e w7 ⟨rfl, o, k7⟩
  have r7 := HR.out.1.keeps k7 (fun g hg => .inr hg)
  have g7 := (k7 w5.heap.size (.inl (.inr rfl))).trans HR.out.2
  replace o := o.swap
  have hs5 : w5.heap.size < w7.heap.size := (Array.getElem?_eq_some_iff.1 g7).1
  obtain ⟨w8, hw8⟩ : ∃ w8, (w7.alloc (.cells #[.int .i64 5, .string ⟨#[97]⟩, .int .i64 3, .int .i64 1] 34)).alloc (.cells #[.int .i64 0, .int .i64 0] 37) = w8 := ⟨_, rfl⟩
  have b8 : Below w7.heap.size w7 w8 := by rw [← hw8]; exact ((Below.refl _ _).alloc (Nat.le_refl _) _).alloc (by simp) _
  have e1 : w8.heap[w7.heap.size]? = some (.cells #[.int .i64 5, .string ⟨#[97]⟩, .int .i64 3, .int .i64 1] 34 (0, 0)) := by rw [← hw8, Below.heap_alloc _ _ _ (by simp)]; exact heap_alloc_new w7 _
  have e2 : w8.heap[w7.heap.size + 1]? = some (.cells #[.int .i64 0, .int .i64 0] 37 (0, 0)) := by rw [← hw8]; exact alloc_top (by rw [alloc_size])
  have o8 : OwnC2 (fun b => ((False ∨ b = w5.heap.size) ∨ blk A = some b) ∨ b = w7.heap.size ∨ b = w7.heap.size + 1) W.heap.size W w8 p c1 q c1 := o.frame b8 (Nat.le_refl _) (by
    have hz : w8.heap.size = w7.heap.size + 1 + 1 := by rw [← hw8, alloc_size, alloc_size]
    rintro b (h | rfl | rfl)
    · exact .inl h
    · exact .inr ⟨Nat.le_refl _, by omega⟩
    · exact .inr ⟨by omega, by omega⟩)
  have r8 := r7.block (fun g hg => b8.block g (r7.lt hg))
  have g8 := (b8.block _ hs5).trans g7
  have hput := ownC2_put o8 (Nat.le_refl _) ⟨4, ⟨#[97]⟩, 1, 0⟩ (by decide)
  unfold PutRow Rec.val at hput
  rw [put_r1] at hput
  have H8 := Lib.hid (And.intro r8 (And.intro g8 (And.intro e1 e2)))
  clear hget k7 r7 g7 o HR b8 e1 e2 o8 r8 g8
  subst hw8
  go_wp2_with fail
  refine hput.mono ?_
  rintro e w9 ⟨A2, k2, ⟨rfl, _, _⟩, o, k9⟩
  have r9 := H8.out.1.keeps k9 (fun g hg => .inl (.inr hg))
  have x1 := (k9 _ (.inl (.inl (.inr rfl)))).trans H8.out.2.1
  have x2 := (k9 _ (.inr (.inl rfl))).trans H8.out.2.2.1
  have x3 := (k9 _ (.inr (.inr rfl))).trans H8.out.2.2.2
  have hcv : (convert 25 9 (.slice A 5 k)).run Try.prog w9 = .ok (.string ⟨#[21, 6, 0, 1, 97]⟩) w9 := row_text r9 (by decide)
  have HO := Lib.hid o.bel
  clear hput k9 o r9 H8
  have y0 : ∀ i v, #[Value.int .i64 5, .string ⟨#[97]⟩, .int .i64 3, .int .i64 1][i]? = some v → w9.cell? ⟨w5.heap.size, i, none⟩ = some v := fun i v h => by simp [World.cell?, x1]; simpa using h
  have y1 : w9.cell? ⟨w5.heap.size, 0, none⟩ = some (.int .i64 5) := y0 0 _ rfl
  have y2 : w9.cell? ⟨w5.heap.size, 1, none⟩ = some (.string ⟨#[97]⟩) := y0 1 _ rfl
  have y3 : w9.cell? ⟨w5.heap.size, 2, none⟩ = some (.int .i64 3) := y0 2 _ rfl
  have y4 : w9.cell? ⟨w5.heap.size, 3, none⟩ = some (.int .i64 1) := y0 3 _ rfl
  have z0 : ∀ i v, #[Value.int .i64 5, .string ⟨#[97]⟩, .int .i64 3, .int .i64 1][i]? = some v → w9.cell? ⟨w7.heap.size, i, none⟩ = some v := fun i v h => by simp [World.cell?, x2]; simpa using h
  have z1 : w9.cell? ⟨w7.heap.size, 0, none⟩ = some (.int .i64 5) := z0 0 _ rfl
  have z2 : w9.cell? ⟨w7.heap.size, 1, none⟩ = some (.string ⟨#[97]⟩) := z0 1 _ rfl
  have z3 : w9.cell? ⟨w7.heap.size, 2, none⟩ = some (.int .i64 3) := z0 2 _ rfl
  have z4 : w9.cell? ⟨w7.heap.size, 3, none⟩ = some (.int .i64 1) := z0 3 _ rfl
  have u0 : w9.cell? ⟨w7.heap.size + 1, 0, none⟩ = some (.int .i64 0) := by simp [World.cell?, x3]
  have u1 : w9.cell? ⟨w7.heap.size + 1, 1, none⟩ = some (.int .i64 0) := by simp [World.cell?, x3]
  clear x1 x2 x3 y0 z0
  go_wp2
  go_ret
  exact ⟨rfl, HO.out⟩
end Go.Proofs.Ytipiohkpdkandaa
