/-
  Right of a policy and of a record by the reference: walks. Conditions: none.
-/
import Derived.Test.YtipiohkpdkandaaRecA
import Derived.Test.YtipiohkpdkandaaPolB
import Derived.Deep.CutRange
namespace Go.Proofs.Ytipiohkpdkandaa
set_option linter.unusedVariables false
set_option linter.unusedSimpArgs false
open Go.RowKit

/-- within, both ends with it? -/
def inB (n lo hi : Int) : Bool := decide (lo ≤ n ∧ n ≤ hi)
theorem inB_eq (n lo hi : Int) : inB n lo hi = true ↔ lo ≤ n ∧ n ≤ hi := by simp [inB]
theorem in_any (n lo hi : Int) (w : World) :
    Calls Try.prog 72 #[.int .i64 n, .int .i64 lo, .int .i64 hi] w fun e w' => e = .returned (.bool (inB n lo hi)) ∧ w = w' := by
  by_cases h1 : lo ≤ n
  · by_cases h2 : n ≤ hi
    · have e : inB n lo hi = true := (inB_eq _ _ _).2 ⟨h1, h2⟩
      rw [e]
      clear e
      go_enter Try.func72, Try.ntmps72
      go_wp2
      go_ret
      exact ⟨by simp [h1, h2], rfl⟩
    · have h3 : hi < n := by omega
      have e : inB n lo hi = false := by simp [inB, h1, h2]
      rw [e]
      clear e h2
      go_enter Try.func72, Try.ntmps72
      go_wp2
      go_ret
      exact ⟨by simp [h1, h3], rfl⟩
  · have h3 : n < lo := by omega
    have e : inB n lo hi = false := by simp [inB, h1]
    rw [e]
    clear e h1
    go_enter Try.func72, Try.ntmps72
    go_wp2
    go_ret
    exact ⟨rfl, rfl⟩

def allB (p : Pol) : Bool := inB p.cap 1 1048576 && (inB p.keys 1 1000 && (inB p.slots 1 64 && (inB p.every 0 1000 && inB p.seg 1 1000)))
def bucketB (p : Pol) : Bool := p.kind == 1 && (inB p.num 1 65536 && (inB p.den 1 65536 && (p.width == 0 && p.count == 0)))
def windowB (p : Pol) : Bool := p.kind == 2 && (inB p.width 1 1048576 && (inB p.count 1 32 && (p.num == 0 && p.den == 0)))
theorem pol_okB (p : Pol) : p.ok ↔ allB p = true ∧ (bucketB p = true ∨ windowB p = true) := by
  unfold Pol.ok allB bucketB windowB
  simp only [Bool.and_eq_true, inB_eq, beq_iff_eq]
  constructor
  · rintro ⟨h | h, h2⟩
    · exact ⟨h2, .inl ⟨h.1, h.2.2.2.1, h.2.2.2.2, h.2.1, h.2.2.1⟩⟩
    · exact ⟨h2, .inr ⟨h.1, h.2.2.2.1, h.2.2.2.2, h.2.1, h.2.2.1⟩⟩
  · rintro ⟨h2, h | h⟩
    · exact ⟨.inl ⟨h.1, h.2.2.2.1, h.2.2.2.2, h.2.1, h.2.2.1⟩, h2⟩
    · exact ⟨.inr ⟨h.1, h.2.2.2.1, h.2.2.2.2, h.2.1, h.2.2.1⟩, h2⟩

theorem beq_cases (x y : Int) : (x == y) = true ∨ (x == y) = false := by cases (x == y) <;> simp
set_option maxRecDepth 100000 in
set_option maxHeartbeats 4000000 in
theorem refPol_any (w : World) (p : Pol) : Calls Try.prog 61 #[.agg p.cells.toArray] w (RightIs w p) := by
  have hok := Lib.hid (pol_okB p)
  have ci := in_any
  obtain ⟨ab, hab⟩ : ∃ b, allB p = b := ⟨_, rfl⟩
  obtain ⟨bb, hbb⟩ : ∃ b, bucketB p = b := ⟨_, rfl⟩
  obtain ⟨wb, hwb⟩ : ∃ b, windowB p = b := ⟨_, rfl⟩
  have HA := Lib.hid hab
  have HBB := Lib.hid hbb
  have HWB := Lib.hid hwb
  clear hab hbb hwb
  obtain ⟨rp, hrp⟩ : ∃ rp, RightIs w p = rp := ⟨_, rfl⟩
  rw [hrp]
  have HRP := Lib.hid hrp
  clear hrp
  obtain ⟨cs, hcs⟩ : ∃ cs, p.cells.toArray = cs := ⟨_, rfl⟩
  rw [hcs]
  obtain ⟨W2, hW2⟩ : ∃ W2, w.alloc (.cells cs 23) = W2 := ⟨_, rfl⟩
  have HW' : Hid (Below w.heap.size w W2) := by rw [← hW2]; exact (Below.refl _ _).alloc (Nat.le_refl _) _
  have hb2 : W2.heap[w.heap.size]? = some (.cells cs 23 (0, 0)) := by rw [← hW2]; exact heap_alloc_new w _
  have F1 : Hid ((inB p.cap 1 1048576 && (inB p.keys 1 1000 && (inB p.slots 1 64 && (inB p.every 0 1000 && inB p.seg 1 1000)))) = ab) := HA.out
  have F2 : Hid ((p.kind == 1 && (inB p.num 1 65536 && (inB p.den 1 65536 && (p.width == 0 && p.count == 0)))) = bb) := HBB.out
  have F3 : Hid ((p.kind == 2 && (inB p.width 1 1048576 && (inB p.count 1 32 && (p.num == 0 && p.den == 0)))) = wb) := HWB.out
  have yy : ∀ i v, p.cells[i]? = some v → W2.cell? ⟨w.heap.size, i, none⟩ = some v := fun i v hv => by
    rw [← hcs] at hb2
    simp [World.cell?, hb2]
    simpa using hv
  have y0 := yy 0 _ rfl
  have y1 := yy 1 _ rfl
  have y2 := yy 2 _ rfl
  have y3 := yy 3 _ rfl
  have y4 := yy 4 _ rfl
  have y5 := yy 5 _ rfl
  have y6 := yy 6 _ rfl
  have y7 := yy 7 _ rfl
  have y8 := yy 8 _ rfl
  have y9 := yy 9 _ rfl
  clear yy hb2 hcs
  have hc : ((p.kind == 1) = true ∧ (p.kind == 2) = false ∧ ((p.width == 0) = true ∨ (p.width == 0) = false) ∧ ((p.count == 0) = true ∨ (p.count == 0) = false)) ∨ ((p.kind == 1) = false ∧ (p.kind == 2) = true ∧ ((p.num == 0) = true ∨ (p.num == 0) = false) ∧ ((p.den == 0) = true ∨ (p.den == 0) = false)) ∨ ((p.kind == 1) = false ∧ (p.kind == 2) = false) := by
    rcases beq_cases p.kind 1 with h | h
    · have h1 : p.kind = 1 := by simpa using h
      exact .inl ⟨h, by rw [h1]; rfl, beq_cases _ _, beq_cases _ _⟩
    · rcases beq_cases p.kind 2 with h2 | h2
      · exact .inr (.inl ⟨h, h2, beq_cases _ _, beq_cases _ _⟩)
      · exact .inr (.inr ⟨h, h2⟩)
  obtain ⟨kind, cap, num, den, width, count, keys, slots, every, seg⟩ := p
  dsimp only at y0 y1 y2 y3 y4 y5 y6 y7 y8 y9 hc F1 F2 F3
  rcases hc with ⟨hk1, hk2, hw1 | hw1, hw2 | hw2⟩ | ⟨hk1, hk2, hw1 | hw1, hw2 | hw2⟩ | ⟨hk1, hk2⟩
  all_goals
    go_enter Try.func61, Try.ntmps61
    go_upto_region 1 with fail
    clear hW2
    go_cut [3] from 6 (fun v3 wx => v3 = .bool ab ∧ wx = W2)
    case first =>
      go_wp2_with (go_at_call 72; refine (ci _ _ _ _).mono ?_; rintro e w' ⟨rfl, rfl⟩)
      all_goals
        go_meet
        case rel => exact ⟨congrArg Value.bool (by have f := F1.out; clear F1 F2 F3 HA HBB HWB HRP hok HW' ci y0 y1 y2 y3 y4 y5 y6 y7 y8 y9; rw [← f]; clear f; simp [*]), rfl⟩
    case rest =>
      obtain ⟨rfl, hwc⟩ := hcut
      have hwc2 := hwc.symm
      clear hwc
      subst hwc2
      go_upto_region 2 with fail
      go_cut [4] from 6 (fun v4 wx => v4 = .bool bb ∧ wx = W2)
      case first =>
        go_wp2_with (go_at_call 72; refine (ci _ _ _ _).mono ?_; rintro e w' ⟨rfl, rfl⟩)
        all_goals
          go_meet
          case rel => exact ⟨congrArg Value.bool (by have f := F2.out; clear F1 F2 F3 HA HBB HWB HRP hok HW' ci y0 y1 y2 y3 y4 y5 y6 y7 y8 y9; rw [← f]; clear f; simp [*]), rfl⟩
      case rest =>
        obtain ⟨rfl, hwc⟩ := hcut
        have hwc2 := hwc.symm
        clear hwc
        subst hwc2
        go_upto_region 3 with fail
        go_cut [5] from 6 (fun v5 wx => v5 = .bool wb ∧ wx = W2)
        case first =>
          go_wp2_with (go_at_call 72; refine (ci _ _ _ _).mono ?_; rintro e w' ⟨rfl, rfl⟩)
          all_goals
            go_meet
            case rel => exact ⟨congrArg Value.bool (by have f := F3.out; clear F1 F2 F3 HA HBB HWB HRP hok HW' ci y0 y1 y2 y3 y4 y5 y6 y7 y8 y9; rw [← f]; clear f; simp [*]), rfl⟩
        case rest =>
          obtain ⟨rfl, hwc⟩ := hcut
          have hwc2 := hwc.symm
          clear hwc
          subst hwc2
          clear ci F1 F2 F3
          have hk := hok.out
          have e1 := HA.out
          have e2 := HBB.out
          have e3 := HWB.out
          rw [e1, e2, e3] at hk
          have HK := Lib.hid hk
          clear hk e1 e2 e3 hok HA HBB HWB
          cases ab <;> cases bb <;> cases wb
          all_goals
            go_wp2
            rw [← HRP.out]
            first
            | exact ⟨yes_right (HK.out.2 (by simp)), HW'.out⟩
            | exact ⟨no_right (fun h => by simpa using HK.out.1 h), HW'.out⟩

set_option maxRecDepth 100000 in
set_option maxHeartbeats 1000000 in
/-- a record, by the reference -/
theorem refRec_any (w : World) (r : Rec) (hm : r.key.size ≤ maxLen) : Calls Try.prog 37 #[r.val] w (RecRight w r) := by
  obtain ⟨tick, key, cost, verdict⟩ := r
  unfold Rec.val
  simp only at hm ⊢
  unfold maxLen at hm
  obtain ⟨x, hx⟩ : ∃ x, recErr ⟨tick, key, cost, verdict⟩ = x := ⟨_, rfl⟩
  have HX := Lib.hid hx
  have hb : ∀ (o : Obj), Below w.heap.size w (w.alloc o) := fun o => (Below.refl _ _).alloc (Nat.le_refl _) o
  have HB := Lib.hid hb
  have hx2 : x = if ¬ (0 ≤ tick ∧ tick ≤ 1099511627776) then 60 else if ¬ (1 ≤ key.size ∧ key.size ≤ 64) then 61 else if ¬ (1 ≤ cost ∧ cost ≤ 1048576) then 62 else if ¬ (0 ≤ verdict ∧ verdict ≤ 2) then 63 else 0 := by
    rw [← hx]; rfl
  have HX2 := Lib.hid hx2
  clear hb hx hx2
  unfold RecRight
  go_enter Try.func37, Try.ntmps37
  go_wp2
  all_goals
    go_ret
    refine ⟨?_, HB.out _⟩
    have e := HX.out
    have e2 := HX2.out
    rw [e, e2]
    refine congrArg (fun z => Ending.returned (.int .i64 z)) ?_
    first
    | (rw [if_pos (by omega)])
    | (rw [if_neg (by omega), if_pos (by omega)])
    | (rw [if_neg (by omega), if_neg (by omega), if_pos (by omega)])
    | (rw [if_neg (by omega), if_neg (by omega), if_neg (by omega), if_pos (by omega)])
    | (rw [if_neg (by omega), if_neg (by omega), if_neg (by omega), if_neg (by omega)])
end Go.Proofs.Ytipiohkpdkandaa
