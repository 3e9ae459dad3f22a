/-
  The walk of the law RecordPrefix. Conditions: none.
-/
import Derived.Test.YtipiohkpdkandaaRecW
import Derived.Test.YtipiohkpdkandaaRecArg
import Derived.Deep.CutBlock
namespace Go.Proofs.Ytipiohkpdkandaa
set_option linter.unusedVariables false
set_option linter.unusedSimpArgs false
open Go.RowKit

theorem szByte : (Try.prog.info? 5).map (·.size) = some 1 := by kernel_rfl
set_option maxRecDepth 100000 in
set_option maxHeartbeats 8000000 in
theorem recordPrefix_walk (W : World) (P : Pol) (A : Option Addr) (n cp : Nat) (l : List Rec) (ra : RecsArg W A n cp l) (r : Rec) (hm : r.key.size ≤ maxLen) :
    Calls Try.prog 4 #[.agg P.cells.toArray, .slice A n cp, r.val] W fun e W' => e = .returned (.bool true) ∧ Below W.heap.size W W' := by
  have hroom := ra.room
  have RA := Lib.hid ra
  clear ra
  have HP := Lib.hid (show ∃ Q, Q = P from ⟨_, rfl⟩)
  obtain ⟨W2, hW2⟩ : ∃ W2, (W.alloc (.cells P.cells.toArray 23)).alloc (.cells #[.int .i64 r.tick, .string r.key, .int .i64 r.cost, .int .i64 r.verdict] 34) = W2 := ⟨_, rfl⟩
  have hb2 : Below W.heap.size W W2 := by rw [← hW2]; exact ((Below.refl _ _).alloc (Nat.le_refl _) _).alloc (by simp) _
  have hz2 : W2.heap.size = W.heap.size + 1 + 1 := by rw [← hW2, alloc_size, alloc_size]
  have hx1 : W2.heap[W.heap.size]? = some (.cells P.cells.toArray 23 (0, 0)) := by rw [← hW2, Below.heap_alloc _ _ _ (by simp)]; exact heap_alloc_new W _
  have hx2 : W2.heap[W.heap.size + 1]? = some (.cells #[.int .i64 r.tick, .string r.key, .int .i64 r.cost, .int .i64 r.verdict] 34 (0, 0)) := by rw [← hW2]; exact alloc_top (by rw [alloc_size])
  have HX := Lib.hid (And.intro hb2 (And.intro hz2 (And.intro hx1 hx2)))
  have aw := awake6_any W2
  clear hb2 hz2 hx1 hx2 HP
  have hpsz : (Try.prog.info? 23).map (·.size) = some 10 := by kernel_rfl
  have HZ := Lib.hid hpsz
  clear hpsz
  unfold Rec.val
  by_cases hok : P.ok
  · have HOK := Lib.hid hok
    clear hok
    go_enter Try.func4, Try.ntmps4
    go_upto_region 1 with fail
    clear hW2
    go_wp2_with fail
    refine aw.mono ?_
    rintro e w1 ⟨rfl, b1⟩
    have hnew := ownC_new (B := W2.heap.size) P HOK.out b1 (Nat.le_refl _)
    have hl1 := (b1.block W.heap.size (by have := HX.out.2.1; omega)).trans HX.out.2.2.1
    have HL := Lib.hid hl1
    clear aw b1 hl1
    go_wp2_with ((with_reducible refine at_list ?_); refine wpList_load_row rfl 23 (.tmp 3) rfl W.heap.size rfl 23 P.cells.toArray (0, 0) _ HL.out Try.underlying23 rfl HZ.out ?_)
    refine hnew.mono ?_
    rintro e w2 ⟨p, rfl, o⟩
    clear hnew
    go_wp2_with fail
    go_loopg [10] n (fun gk v10 wr => ∃ (i : Nat) (c : CC), v10 = .int .i64 i ∧ gk + i = n ∧ OwnC (fun _ => False) W2.heap.size W2 wr p c)
    case atStart => exact ⟨0, _, rfl, by omega, o⟩
    case round =>
      clear o
      obtain ⟨i, c, rfl, hi, o⟩ := hrel
      by_cases hin : i < n
      · have hini : (i : Int) < n := by omega
        obtain ⟨b, ob, x, rfl, hx, hxm, hcell⟩ := RA.out.at hin
        obtain ⟨g0, g1, g2, g3⟩ := hcell wr (HX.out.1.trans (o.bel.mono (by have := HX.out.2.1; omega)))
        have hput := ownC_put o (Nat.le_refl _) x hxm
        unfold PutRow Rec.val at hput
        clear hcell hx o
        go_wp2_with fail
        refine hput.mono ?_
        rintro e w3 ⟨B, kB, ⟨rfl, _, _⟩, o, _⟩
        have HO := Lib.hid (OwnC.mono (G := fun _ => False) o (fun b hb => hb.elim))
        clear hput o g0 g1 g2 g3
        go_wp2
        go_roundg (n - i - 1)
        case measure => omega
        case rel => exact ⟨i + 1, _, by go_num, by omega, HO.out⟩
      · have hini : (n : Int) ≤ i := by omega
        have hcl := ownC2_clone o (Nat.le_refl _)
        clear o
        go_wp2_with fail
        refine hcl.mono ?_
        rintro e w3 ⟨q, rfl, o⟩
        have hinv := o.inv
        have hbel := o.bel
        have x2 := (hbel.block (W.heap.size + 1) (by have := HX.out.2.1; omega)).trans HX.out.2.2.2
        have y1 : w3.cell? ⟨W.heap.size + 1, 0, none⟩ = some (.int .i64 r.tick) := by simp [World.cell?, x2]
        have y2 : w3.cell? ⟨W.heap.size + 1, 1, none⟩ = some (.string r.key) := by simp [World.cell?, x2]
        have y3 : w3.cell? ⟨W.heap.size + 1, 2, none⟩ = some (.int .i64 r.cost) := by simp [World.cell?, x2]
        have y4 : w3.cell? ⟨W.heap.size + 1, 3, none⟩ = some (.int .i64 r.verdict) := by simp [World.cell?, x2]
        have hput := ownC2_put o (Nat.le_refl _) r hm
        unfold PutRow Rec.val at hput
        have HI := Lib.hid hinv
        clear hcl o hinv hbel x2
        rcases putF_cases c r with ⟨hr, ht, hpf⟩ | ⟨er, her, hpf⟩
        · rw [hpf] at hput
          dsimp only at hput
          obtain ⟨m, hmm⟩ : ∃ m, (putB c r).length = m := ⟨_, rfl⟩
          have hm77 : m ≤ 77 := by have := putF_len HI.out r; rw [hpf] at this; dsimp only at this; omega
          rw [hmm] at hput
          have HM := Lib.hid hmm
          clear hpf hmm
          go_wp2_with fail
          refine hput.mono ?_
          rintro e w4 ⟨B, kB, ⟨rfl, rB, _⟩, o, _⟩
          replace o := o.mono (G := fun b => blk B = some b) (fun b hb => .inr hb)
          have hkB := rB.le
          clear hput y1 y2 y3 y4
          go_wp2_with fail
          go_loopg [14] m (fun gk v14 wr => ∃ k : Nat, v14 = .int .i64 k ∧ gk + k = m ∧ OwnC2 (fun b => blk B = some b) W2.heap.size W2 wr p (putC c r) q c ∧ Row wr 5 B m kB (nums .u8 (putB c r)))
          case atStart => exact ⟨0, rfl, by omega, o, rB⟩
          case round =>
            clear o rB
            obtain ⟨k, rfl, hk, o, rB⟩ := hrel
            by_cases hkm : k < m
            · have hkmi : (k : Int) < m := by omega
              have hsl := run_sub_h (P := Try.prog) (t := 25) Try.underlying25 szByte B m kB k (by omega)
              have hbi : BytesIn wr B k kB ((putB c r).take k) := ⟨by have := (rB.rd).take (m := k) (by omega); rwa [nums, ← List.map_take] at this, fun y hy => putB_bytes c r y (List.mem_of_mem_take hy), by omega, by omega⟩
              obtain ⟨x, hx, hx0, hxk⟩ := getF_cut HI.out hr ht [] (m := k) (by rw [HM.out]; exact hkm) (p := 0) rfl
              simp only [List.nil_append, List.length_nil] at hx hx0 hxk
              have hget := ownC2_get o.swap (Nat.le_refl _) hbi 0
              rw [hx] at hget
              unfold GetIs at hget
              dsimp only at hget
              rw [show Rec.zero.val = .agg #[.int .i64 0, .string ByteArray.empty, .int .i64 0, .int .i64 0] from rfl] at hget
              have hx0 : (0 : Int) ≤ x := by omega
              have hxk : x ≤ (k : Int) := by omega
              have HR := Lib.hid rB
              clear hx hbi o rB
              go_wp2_with fail
              refine hget.mono ?_
              rintro e w5 ⟨rfl, o, k5⟩
              have rB := HR.out.keeps k5 (fun g hg => hg)
              have ho : ∀ X Y, OwnC2 (fun b => blk B = some b) W2.heap.size W2 ((w5.alloc X).alloc Y) p (putC c r) q c := fun X Y => o.swap.below (((Below.refl _ _).alloc (Nat.le_refl _) _).alloc (by simp) _) (Nat.le_refl _)
              have HO := Lib.hid (And.intro ho rB)
              clear hget o k5 rB ho hsl
              go_wp2
              go_roundg (m - k - 1)
              case measure => omega
              case rel => exact ⟨k + 1, by go_num, by omega, HO.out.1 _ _, (HO.out.2.alloc _).alloc _⟩
            · obtain rfl : k = m := by omega
              have hbi := rB.bytesIn (putB_bytes c r) (by omega)
              have hg := getF_put HI.out hr ht [] [] (p := 0) rfl
              simp only [List.nil_append, List.append_nil, List.length_nil] at hg
              rw [HM.out] at hg
              have hget := ownC2_get o.swap (Nat.le_refl _) hbi 0
              rw [hg] at hget
              unfold GetIs Rec.val at hget
              dsimp only at hget
              clear hg hbi o rB
              go_wp2_with fail
              refine hget.mono ?_
              rintro e w5 ⟨rfl, o, k5⟩
              have hbel := o.bel
              have hlt : W.heap.size + 1 < w5.heap.size := by have := HX.out.2.1; have := hbel.size; omega
              have x2 : ∀ X Y, ((w5.alloc X).alloc Y).heap[W.heap.size + 1]? = some (.cells #[.int .i64 r.tick, .string r.key, .int .i64 r.cost, .int .i64 r.verdict] 34 (0, 0)) := fun X Y => by
                rw [Below.heap_alloc _ _ _ (by simp; omega), Below.heap_alloc _ _ _ hlt]
                exact (hbel.block (W.heap.size + 1) (by have := HX.out.2.1; omega)).trans HX.out.2.2.2
              have y1 : ∀ X Y, ((w5.alloc X).alloc Y).cell? ⟨W.heap.size + 1, 0, none⟩ = some (.int .i64 r.tick) := fun X Y => by simp only [World.cell?, x2]; rfl
              have y2 : ∀ X Y, ((w5.alloc X).alloc Y).cell? ⟨W.heap.size + 1, 1, none⟩ = some (.string r.key) := fun X Y => by simp only [World.cell?, x2]; rfl
              have y3 : ∀ X Y, ((w5.alloc X).alloc Y).cell? ⟨W.heap.size + 1, 2, none⟩ = some (.int .i64 r.cost) := fun X Y => by simp only [World.cell?, x2]; rfl
              have y4 : ∀ X Y, ((w5.alloc X).alloc Y).cell? ⟨W.heap.size + 1, 3, none⟩ = some (.int .i64 r.verdict) := fun X Y => by simp only [World.cell?, x2]; rfl
              have HO := Lib.hid (fun X Y => hbel.trans ((((Below.refl w5.heap.size w5).alloc (Nat.le_refl _) X).alloc (by simp) Y).mono hbel.size))
              clear hget o k5 hbel x2
              go_wp2
              go_ret
              exact ⟨rfl, HX.out.1.trans ((HO.out _ _).mono (by have := HX.out.2.1; omega))⟩
        · rw [hpf] at hput
          have her1 : (er != 0) = true := by simpa using her
          have her2 : (er == 0) = false := by simpa using her
          clear hpf her
          go_wp2_with fail
          refine hput.mono ?_
          rintro e w4 ⟨B, kB, ⟨rfl, rB, _⟩, o, _⟩
          have HO := Lib.hid o.bel
          clear hput y1 y2 y3 y4 rB o
          go_wp2
          go_ret
          exact ⟨rfl, HX.out.1.trans (HO.out.mono (by have := HX.out.2.1; omega))⟩
  · have hnew := fun w => recNew_no w P hok
    clear hok
    go_enter Try.func4, Try.ntmps4
    go_upto_region 1 with fail
    clear hW2
    go_wp2_with fail
    refine aw.mono ?_
    rintro e w1 ⟨rfl, b1⟩
    have hl1 := (b1.block W.heap.size (by have := HX.out.2.1; omega)).trans HX.out.2.2.1
    have HL := Lib.hid (And.intro hl1 b1)
    clear aw b1 hl1
    go_wp2_with ((with_reducible refine at_list ?_); refine wpList_load_row rfl 23 (.tmp 3) rfl W.heap.size rfl 23 P.cells.toArray (0, 0) _ HL.out.1 Try.underlying23 rfl HZ.out ?_)
    refine (hnew _).mono ?_
    rintro e w2 ⟨rfl, b2⟩
    have HB := Lib.hid b2
    clear hnew b2
    go_wp2
    go_ret
    exact ⟨rfl, HX.out.1.trans ((HL.out.2.trans (HB.out.mono HL.out.2.size)).mono (by have := HX.out.2.1; omega))⟩
end Go.Proofs.Ytipiohkpdkandaa
