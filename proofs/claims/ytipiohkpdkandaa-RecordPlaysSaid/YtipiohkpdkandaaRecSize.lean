/-
  The walk of the law RecordSize. Conditions: none.
-/
import Derived.Test.YtipiohkpdkandaaRecW
import Derived.Test.YtipiohkpdkandaaRecArg
import Derived.Test.YtipiohkpdkandaaRecLate
import Derived.Deep.CutBlock
import Derived.StillTailTactics
namespace Go.Proofs.Ytipiohkpdkandaa
set_option linter.unusedVariables false
set_option linter.unusedSimpArgs false
open Go.RowKit

/-- A row of F has been written, or moved. -/
theorem OwnC.grow {F : Nat → Prop} {B : Nat} {W w w1 : World} {p : Nat} {c : CC} {A A1 : Option Addr} {t : TypeId} {n k : Nat} {xs : List Value} (h : OwnC F B W w p c) (hB : B ≤ W.heap.size) (hA : ∀ b, blk A = some b → F b ∧ B ≤ b)
    (hu : Upd w w1 (fun b => blk A = some b)) (hat : blk A1 = blk A ∨ ∃ b, blk A1 = some b ∧ w.heap.size ≤ b) (hr : Row w1 t A1 n k xs) : OwnC (fun b => blk A1 = some b) B W w1 p c := by
  have h' := h.upd hu (fun b _ hb => hA b hb) hB
  obtain ⟨S, h1, h2, h3, h4⟩ := h
  obtain ⟨S', g1, g2, g3, g4⟩ := h'
  have := h4.size
  refine ⟨S, h1.kept hu (fun b hb hAb => (h2 b hb).2 (hA b hAb).1), fun b hb => ⟨(h2 b hb).1, fun hA1 => ?_⟩, fun b hb => hr.lt hb, g4⟩
  rcases hat with e | ⟨g, e, hg⟩
  · exact (h2 b hb).2 (hA b (by rw [← e]; exact hA1)).1
  · rw [e] at hA1
    injection hA1 with hA1
    have := h1.lt hb
    omega

set_option maxRecDepth 100000 in
set_option maxHeartbeats 8000000 in
theorem recordSize_walk (W : World) (P : Pol) (A : Option Addr) (n cp : Nat) (l : List Rec) (ra : RecsArg W A n cp l) :
    Calls Try.prog 13 #[.agg P.cells.toArray, .slice A n cp] W fun e W' => e = .returned (.bool true) ∧ Below W.heap.size W W' := by
  have hroom := ra.room
  have RA := Lib.hid ra
  clear ra
  obtain ⟨W2, hW2⟩ : ∃ W2, (W.alloc (.cells P.cells.toArray 23)) = W2 := ⟨_, rfl⟩
  have hb2 : Below W.heap.size W W2 := by rw [← hW2]; exact ((Below.refl _ _).alloc (Nat.le_refl _) _)
  have hz2 : W2.heap.size = W.heap.size + 1 := by rw [← hW2, alloc_size]
  have hx1 : W2.heap[W.heap.size]? = some (.cells P.cells.toArray 23 (0, 0)) := by rw [← hW2]; exact heap_alloc_new W _
  have HX := Lib.hid (And.intro hb2 (And.intro hz2 hx1))
  have aw := awake6_any W2
  clear hb2 hz2 hx1
  have hpsz : (Try.prog.info? 23).map (·.size) = some 10 := by kernel_rfl
  have HZ := Lib.hid hpsz
  clear hpsz
  by_cases hok : P.ok
  · have HOK := Lib.hid hok
    clear hok
    go_enter Try.func13, Try.ntmps13
    go_upto_region 1 with fail
    clear hW2
    go_wp2_with fail
    refine aw.mono ?_
    rintro e w1 ⟨rfl, b1⟩
    have hnew := ownC_new (B := W2.heap.size) P HOK.out b1 (Nat.le_refl _)
    have hl1 := (b1.block W.heap.size (by have := HX.out.2.1; omega)).trans HX.out.2.2
    have HL := Lib.hid hl1
    clear aw b1 hl1
    go_wp2_with ((with_reducible refine at_list ?_); refine wpList_load_row rfl 23 (.tmp 2) rfl W.heap.size rfl 23 P.cells.toArray (0, 0) _ HL.out Try.underlying23 rfl HZ.out ?_)
    refine hnew.mono ?_
    rintro e w2 ⟨p, rfl, o⟩
    clear hnew
    go_wp2_with fail
    go_loopg [8, 9] n (fun gk v8 v9 wr => ∃ (i : Nat) (c : CC) (ks : List ByteArray) (m ck : Nat) (A' : Option Addr), v9 = .int .i64 i ∧ v8 = .slice A' m ck ∧ gk + i = n ∧ m ≤ i ∧ OwnC (fun b => blk A' = some b) W2.heap.size W2 wr p c ∧ Row wr 9 A' m ck (strs ks) ∧ (∀ g, blk A' = some g → W2.heap.size ≤ g) ∧
      Hid (recent c.d = late (c.d.room : Int) ks ∧ c.d.room = P.slots.toNat ∧ ∀ k ∈ ks, keyOk k))
    case atStart => exact ⟨0, _, [], 0, 0, none, rfl, rfl, by omega, Nat.le_refl _, o.mono (fun b h => by cases h), Row.nil _ _, (fun g h => by cases h), ⟨rfl, rfl, fun k h => by simp at h⟩⟩
    case round =>
      clear o
      obtain ⟨i, c, ks, m, ck, A', rfl, rfl, hi, hmi, o, hr', hA', hks⟩ := hrel
      by_cases hin : i < n
      · have hini : (i : Int) < n := by omega
        obtain ⟨b, ob, x, rfl, hx, hxm, hcell⟩ := RA.out.at hin
        obtain ⟨g0, g1, g2, g3⟩ := hcell wr (HX.out.1.trans (o.bel.mono (by have := HX.out.2.1; omega)))
        have hput := ownC_put o (Nat.le_refl _) x hxm
        unfold PutRow Rec.val at hput
        have HC := Lib.hid hcell
        have HI := Lib.hid o.inv
        have HR := Lib.hid (And.intro hr' hA')
        clear hcell hx o hr' hA'
        rcases putF_cases c x with ⟨hr, ht, hpf⟩ | ⟨er, her, hpf⟩
        · rw [hpf] at hput
          obtain ⟨h3, h13, hhad⟩ := putB_len HI.out hr ht
          obtain ⟨mb, hmb⟩ : ∃ mb, (putB c x).length = mb := ⟨_, rfl⟩
          dsimp only at hput
          rw [hmb] at hput h3 h13 hhad
          have hx64 : x.key.size ≤ 64 := hr.key.2
          have h3i : (3 : Int) ≤ mb := by omega
          have h13i : (mb : Int) ≤ 13 + (x.key.size : Int) := by omega
          have hwx : IntKind.i64.wrap (13 + (x.key.size : Int)) = 13 + (x.key.size : Int) := IntWalk.i64_in _ (by omega)
          have HH := Lib.hid (And.intro hhad (And.intro hr ht))
          clear hpf hmb hhad hr ht
          go_wp2_with fail
          refine hput.mono ?_
          rintro e w3 ⟨B, kB, ⟨rfl, rB, _⟩, o, k3⟩
          have hr3 := HR.out.1.keeps k3 (fun g hg => hg)
          have hbel := o.bel
          obtain ⟨g0, g1, g2, g3⟩ := HC.out w3 (HX.out.1.trans (hbel.mono (by have := HX.out.2.1; omega)))
          have hpb := (hbel.block W.heap.size (by have := HX.out.2.1; omega)).trans HX.out.2.2
          have p7 : w3.cell? ⟨W.heap.size, 7, none⟩ = some (.int .i64 P.slots) := by simp [World.cell?, hpb, Pol.cells]
          have hlate := lately6_any w3.drew A' m ck ks x.key P.slots (hr3.rd.heap rfl) (by omega) hks.out.2.2
          replace o := o.mono (G := fun b => blk A' = some b) (fun b hb => .inl hb)
          have HO := Lib.hid (And.intro o hr3)
          clear hput rB k3 hr3 hbel hpb o
          go_wp2_with fail
          go_still_tail 8, (by kernel_rfl)
          change wpList _ _ _ _ _ w3.drew
          clear g0 g1 g2 g3 p7
          go_wp2_with fail
          refine hlate.mono ?_
          rintro e w4 ⟨near, rfl, hnear, b4⟩
          have b4' : Below w3.heap.size w3 w4 := ⟨b4.os, b4.tape, b4.output, b4.size, b4.block⟩
          have o4 := HO.out.1.below b4' (Nat.le_refl _)
          have hr4 := HO.out.2.block (fun g hg => b4'.block g (HO.out.2.lt hg))
          obtain ⟨g0, g1, g2, g3⟩ := HC.out w4 (HX.out.1.trans (o4.bel.mono (by have := HX.out.2.1; omega)))
          have hs0 : (c.d.room : Int) = P.slots := by have h1 := hks.out.2.1; have := HOK.out.2.2.2.1; omega
          have hn13 : near = true → (mb : Int) ≤ 13 := fun h => by
            have h1 := hnear h
            rw [← hs0, ← hks.out.1] at h1
            have := HH.out.1 ((mem_recent HI.out.d).1 h1)
            omega
          have HK' : Hid (recent (putC c x).d = late ((putC c x).d.room : Int) (ks ++ [x.key]) ∧ (putC c x).d.room = P.slots.toNat ∧ ∀ k ∈ ks ++ [x.key], keyOk k) := by
            have e := useG_room c.d x.key
            refine ⟨?_, e.trans hks.out.2.1, fun k hk => ?_⟩
            · show recent (useG c.d x.key).1 = _
              rw [recent_step HI.out.d hks.out.1 x.key]
              show late _ _ = late ((useG c.d x.key).1.room : Int) _
              rw [e]
            · rcases List.mem_append.1 hk with h | h
              · exact hks.out.2.2 k h
              · rw [List.mem_singleton.1 h]; exact HH.out.2.1.key
          have HB := Lib.hid (And.intro o4 hs0)
          clear hlate hnear b4 b4' o4 hs0
          cases near
          · clear hn13
            go_wp2_with (at_builtin; go_must (refine row_append1 rfl (.tmp 76) (.tmp 82) 43 9 (.string ByteArray.empty) 16 rfl Try.underlying43 infoStr rfl (by decide) A' m ck (strs ks) (.string x.key) rfl rfl rfl hr4 (by omega) ?_))
            intro A1 c1' w5 a1 a2 a3
            have HY := Lib.hid (And.intro a1 (And.intro a2 a3))
            clear a1 a2 a3 hr4 g0 g1 g2 g3
            go_wp2
            go_roundg (n - i - 1)
            case measure => omega
            case rel =>
              refine ⟨i + 1, putC c x, ks ++ [x.key], m + 1, c1', A1, by go_num, by first | rfl | go_num, by omega, by omega, OwnC.grow HB.out.1 (Nat.le_refl _) (fun b hb => ⟨hb, HR.out.2 b hb⟩) HY.out.2.1 HY.out.2.2 HY.out.1, ?_, ?_, HK'⟩
              · have := HY.out.1
                rwa [show strs (ks ++ [x.key]) = strs ks ++ [.string x.key] by simp [strs]]
              · intro g hg
                rcases HY.out.2.2 with h | ⟨b, h, hb⟩
                · exact HR.out.2 g (h ▸ hg)
                · rw [h] at hg; injection hg with hg; have := HB.out.1.bel.size; omega
          · have h13j := hn13 rfl
            clear hn13
            go_wp2_with (at_builtin; go_must (refine row_append1 rfl (.tmp 76) (.tmp 82) 43 9 (.string ByteArray.empty) 16 rfl Try.underlying43 infoStr rfl (by decide) A' m ck (strs ks) (.string x.key) rfl rfl rfl hr4 (by omega) ?_))
            intro A1 c1' w5 a1 a2 a3
            have HY := Lib.hid (And.intro a1 (And.intro a2 a3))
            clear a1 a2 a3 hr4 g0 g1 g2 g3
            go_wp2
            go_roundg (n - i - 1)
            case measure => omega
            case rel =>
              refine ⟨i + 1, putC c x, ks ++ [x.key], m + 1, c1', A1, by go_num, by first | rfl | go_num, by omega, by omega, OwnC.grow HB.out.1 (Nat.le_refl _) (fun b hb => ⟨hb, HR.out.2 b hb⟩) HY.out.2.1 HY.out.2.2 HY.out.1, ?_, ?_, HK'⟩
              · have := HY.out.1
                rwa [show strs (ks ++ [x.key]) = strs ks ++ [.string x.key] by simp [strs]]
              · intro g hg
                rcases HY.out.2.2 with h | ⟨b, h, hb⟩
                · exact HR.out.2 g (h ▸ hg)
                · rw [h] at hg; injection hg with hg; have := HB.out.1.bel.size; omega
        · rw [hpf] at hput
          have her1 : (er != 0) = true := by simpa using her
          have her2 : (er == 0) = false := by simpa using her
          clear hpf her
          go_wp2_with fail
          refine hput.mono ?_
          rintro e w3 ⟨B, kB, ⟨rfl, _, _⟩, o, k3⟩
          have hr3 := HR.out.1.keeps k3 (fun g hg => hg)
          have HO := Lib.hid (And.intro (OwnC.mono (G := fun b => blk A' = some b) o (fun b hb => .inl hb)) hr3)
          clear hput o g0 g1 g2 g3 k3 hr3
          go_wp2
          go_roundg (n - i - 1)
          case measure => omega
          case rel => exact ⟨i + 1, c, ks, m, ck, A', by go_num, rfl, by omega, by omega, HO.out.1, HO.out.2, HR.out.2, hks⟩
      · have hini : (n : Int) ≤ i := by omega
        have HO := Lib.hid o.bel
        clear o hr' hA' hks
        go_wp2
        go_ret
        exact ⟨rfl, HX.out.1.trans (HO.out.mono (by have := HX.out.2.1; omega))⟩
  · have hnew := fun w => recNew_no w P hok
    clear hok
    go_enter Try.func13, Try.ntmps13
    go_upto_region 1 with fail
    clear hW2
    go_wp2_with fail
    refine aw.mono ?_
    rintro e w1 ⟨rfl, b1⟩
    have hl1 := (b1.block W.heap.size (by have := HX.out.2.1; omega)).trans HX.out.2.2
    have HL := Lib.hid (And.intro hl1 b1)
    clear aw b1 hl1
    go_wp2_with ((with_reducible refine at_list ?_); refine wpList_load_row rfl 23 (.tmp 2) rfl W.heap.size rfl 23 P.cells.toArray (0, 0) _ HL.out.1 Try.underlying23 rfl HZ.out ?_)
    refine (hnew _).mono ?_
    rintro e w2 ⟨rfl, b2⟩
    have HB := Lib.hid b2
    clear hnew b2
    go_wp2
    go_ret
    exact ⟨rfl, HX.out.1.trans ((HL.out.2.trans (HB.out.mono HL.out.2.size)).mono (by have := HX.out.2.1; omega))⟩
end Go.Proofs.Ytipiohkpdkandaa
