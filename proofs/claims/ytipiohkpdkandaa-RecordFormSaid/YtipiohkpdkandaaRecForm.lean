/-
  The walk of the law RecordForm. Conditions: none.
-/
import Derived.Test.YtipiohkpdkandaaRecW
import Derived.Test.YtipiohkpdkandaaRecArg
import Derived.Deep.CutBlock
namespace Go.Proofs.Ytipiohkpdkandaa
set_option linter.unusedVariables false
set_option linter.unusedSimpArgs false
open Go.RowKit

theorem keyK_ok : keyOk ⟨#[107]⟩ := by decide
theorem bytesArg_in {W w : World} {A : Option Addr} {n cp : Nat} {l : List Int} (ra : IntsArg .u8 1 W A n cp l) (hb : Below W.heap.size W w) : BytesIn w A n cp l :=
  ⟨ra.rd.below hb (Nat.le_refl _), fun x hx => wf_u8_bd (ra.wf x hx), ra.cap, by have := ra.room; omega⟩
theorem bytes_text {A : Option Addr} {n cp lo m hi : Nat} {l : List Int} (hl : l.length = n) (hcp : n ≤ cp) (hm : 1 ≤ m) (he : lo + m = hi) (hhi : hi ≤ n) :
    ∃ A', (∀ w', (Instr.slice 25 (.slice A n cp) (some (.int .i64 lo)) (some (.int .i64 (hi : Int))) none).run Try.prog w' = .ok (.slice A' m (cp - lo)) w') ∧
      ∀ w, BytesIn w A n cp l → (convert 25 9 (.slice A' m (cp - lo))).run Try.prog w = .ok (.string (strOfNums ((l.drop lo).take m))) w := by
  subst he
  obtain ⟨A', h1, h2⟩ := run_sub_lh (P := Try.prog) (t := 25) Try.underlying25 (by kernel_rfl) A n cp lo (lo + m) (by omega) (by omega)
  rw [Nat.add_sub_cancel_left] at h1
  refine ⟨A', h1, fun w h => ?_⟩
  obtain ⟨b, o, rfl, hc⟩ := h.rd.form (by omega)
  have hA := h2 (by omega)
  rw [hA]
  have e : (Option.map (fun x => x.add lo) (some (⟨b, o, none⟩ : Addr))) = some ⟨b, o + lo, none⟩ := by simp [Addr.add]
  rw [e]
  refine run_convert_bytes_arg (P := Try.prog) w 25 5 Try.underlying25 Try.underlying5 b (o + lo) m (cp - lo) _ (by simp; omega) (fun i hi => ?_) 9 Try.underlying9
  rw [Nat.add_assoc]
  refine hc (lo + i) _ ?_
  rw [nums_get, List.getElem?_eq_getElem (show lo + i < l.length by omega)]
  simp [List.getD_eq_getElem?_getD, hi, List.getElem?_eq_getElem (show lo + i < l.length by omega)]
theorem BytesIn.drewN {w : World} {A : Option Addr} {n cp : Nat} {l : List Int} (h : BytesIn w A n cp l) (m : Nat) : BytesIn (w.drewN m) A n cp l := ⟨h.rd.drewN m, h.bytes, h.cap, h.max⟩

set_option maxRecDepth 100000 in
set_option maxHeartbeats 8000000 in
theorem recordForm_walk (W : World) (P : Pol) (A : Option Addr) (n cp : Nat) (l : List Rec) (ra : RecsArg W A n cp l) (Bb : Option Addr) (nb cb : Nat) (bs : List Int) (rb : IntsArg .u8 1 W Bb nb cb bs) (a : Int) (_wa : (Lit.int .i64 a).wf = true) :
    Calls Try.prog 3 #[.agg P.cells.toArray, .slice A n cp, .slice Bb nb cb, .int .i64 a] W fun e W' => e = .returned (.bool true) ∧ Below W.heap.size W W' := by
  clear _wa
  have hroom := ra.room
  have RA := Lib.hid ra
  have RB := Lib.hid rb
  clear ra rb
  obtain ⟨W2, hW2⟩ : ∃ W2, (W.alloc (.cells P.cells.toArray 23)) = W2 := ⟨_, rfl⟩
  have hb2 : Below W.heap.size W W2 := by rw [← hW2]; exact ((Below.refl _ _).alloc (Nat.le_refl _) _)
  have hz2 : W2.heap.size = W.heap.size + 1 := by rw [← hW2, alloc_size]
  have hx1 : W2.heap[W.heap.size]? = some (.cells P.cells.toArray 23 (0, 0)) := by rw [← hW2]; exact heap_alloc_new W _
  have HX := Lib.hid (And.intro hb2 (And.intro hz2 hx1))
  have aw := awake6_any W2
  clear hb2 hz2 hx1
  have hpsz : (Try.prog.info? 23).map (·.size) = some 10 := by kernel_rfl
  have HZ := Lib.hid hpsz
  clear hpsz
  by_cases hok : P.ok
  · have HOK := Lib.hid hok
    clear hok
    go_enter Try.func3, Try.ntmps3
    go_upto_region 1 with fail
    clear hW2
    go_wp2_with fail
    refine aw.mono ?_
    rintro e w1 ⟨rfl, b1⟩
    have hnew := ownC_new (B := W2.heap.size) P HOK.out b1 (Nat.le_refl _)
    have hl1 := (b1.block W.heap.size (by have := HX.out.2.1; omega)).trans HX.out.2.2
    have HL := Lib.hid hl1
    clear aw b1 hl1
    go_wp2_with ((with_reducible refine at_list ?_); refine wpList_load_row rfl 23 (.tmp 4) rfl W.heap.size rfl 23 P.cells.toArray (0, 0) _ HL.out Try.underlying23 rfl HZ.out ?_)
    refine hnew.mono ?_
    rintro e w2 ⟨p, rfl, o⟩
    clear hnew
    go_wp2_with fail
    go_loopg [12, 13] n (fun gk v12 v13 wr => ∃ (i : Nat) (c : CC), v13 = .int .i64 i ∧ v12 = .int .i64 c.tick ∧ gk + i = n ∧ OwnC (fun _ => False) W2.heap.size W2 wr p c)
    case atStart => exact ⟨0, _, rfl, rfl, by omega, o⟩
    case round =>
      clear o
      obtain ⟨i, c, rfl, rfl, hi, o⟩ := hrel
      by_cases hin : i < n
      · have hini : (i : Int) < n := by omega
        obtain ⟨b, ob, x, rfl, hx, hxm, hcell⟩ := RA.out.at hin
        obtain ⟨g0, g1, g2, g3⟩ := hcell wr (HX.out.1.trans (o.bel.mono (by have := HX.out.2.1; omega)))
        have hput := ownC_put o (Nat.le_refl _) x hxm
        unfold PutRow Rec.val at hput
        have HC := Lib.hid hcell
        clear hcell hx o
        rcases putF_cases c x with ⟨hr, ht, hpf⟩ | ⟨er, her, hpf⟩
        · rw [hpf] at hput
          clear hpf
          go_wp2_with fail
          refine hput.mono ?_
          rintro e w3 ⟨B, kB, ⟨rfl, _, _⟩, o, _⟩
          obtain ⟨h0, _⟩ := HC.out w3 (HX.out.1.trans (o.bel.mono (by have := HX.out.2.1; omega)))
          have HO := Lib.hid (OwnC.mono (G := fun _ => False) o (fun b hb => hb.elim))
          clear hput o g0 g1 g2 g3
          go_wp2
          go_roundg (n - i - 1)
          case measure => omega
          case rel => exact ⟨i + 1, _, by go_num, rfl, by omega, HO.out⟩
        · rw [hpf] at hput
          have her1 : (er != 0) = true := by simpa using her
          have her2 : (er == 0) = false := by simpa using her
          clear hpf her
          go_wp2_with fail
          refine hput.mono ?_
          rintro e w3 ⟨B, kB, ⟨rfl, _, _⟩, o, _⟩
          have HO := Lib.hid (OwnC.mono (G := fun _ => False) o (fun b hb => hb.elim))
          clear hput o g0 g1 g2 g3
          go_wp2
          go_roundg (n - i - 1)
          case measure => omega
          case rel => exact ⟨i + 1, c, by go_num, rfl, by omega, HO.out⟩
      · have hini : (n : Int) ≤ i := by omega
        have hcl := ownC2_clone o (Nat.le_refl _)
        clear o
        go_wp2_with fail
        refine hcl.mono ?_
        rintro e w3 ⟨q, rfl, o⟩
        have hinv := o.inv
        have hbi := bytesArg_in RB.out (HX.out.1.trans (o.bel.mono (by have := HX.out.2.1; omega)))
        have hget := ownC2_get o (Nat.le_refl _) hbi a
        have hways := getF_cases hinv hbi.bytes a
        have HI := Lib.hid hinv
        clear hcl o hinv hbi
        rcases hways with ⟨er, xx, her, hg⟩ | ⟨pa, r, rfl, hr, ht, hlen, hg, htk⟩
        · rw [hg] at hget
          unfold GetIs at hget
          dsimp only at hget
          rw [show Rec.zero.val = .agg #[.int .i64 0, .string ByteArray.empty, .int .i64 0, .int .i64 0] from rfl] at hget
          have her1 : (er != 0) = true := by simpa using her
          have her2 : (er == 0) = false := by simpa using her
          obtain ⟨s, hs⟩ : ∃ s : Rec, s = ⟨c.tick, ⟨#[107]⟩, 2, 1⟩ := ⟨_, rfl⟩
          have hsok : s.ok := by rw [hs]; exact ⟨HI.out.t0, HI.out.t1, keyK_ok, (show (1 : Int) ≤ 2 by decide), (show (2 : Int) ≤ 1048576 by decide), (show (0 : Int) ≤ 1 by decide), (show (1 : Int) ≤ 2 by decide)⟩
          have hst : c.tick ≤ s.tick := by rw [hs]; exact Int.le_refl _
          have hpf := putF_yes hsok hst
          clear hg her
          go_wp2_with fail
          refine hget.mono ?_
          rintro e w4 ⟨rfl, o, _⟩
          clear hget
          -- the record that both coders write
          obtain ⟨w5, hw5⟩ : ∃ w5, ((w4.alloc (.cells #[.int .i64 0, .string ByteArray.empty, .int .i64 0, .int .i64 0] 34)).alloc (.cells #[.int .i64 er, .int .i64 xx] 37)).alloc (.cells #[.int .i64 c.tick, .string ⟨#[107]⟩, .int .i64 2, .int .i64 1] 34) = w5 := ⟨_, rfl⟩
          have b5 : Below w4.heap.size w4 w5 := by rw [← hw5]; exact (((Below.refl _ _).alloc (Nat.le_refl _) _).alloc (by simp) _).alloc (by simp; omega) _
          have e1 : w5.heap[w4.heap.size]? = some (.cells #[.int .i64 0, .string ByteArray.empty, .int .i64 0, .int .i64 0] 34 (0, 0)) := by
            rw [← hw5, Below.heap_alloc _ _ _ (by simp only [alloc_size]; omega), Below.heap_alloc _ _ _ (by simp only [alloc_size]; omega)]; exact heap_alloc_new w4 _
          have e3 : w5.heap[w4.heap.size + 1 + 1]? = some (.cells #[.int .i64 c.tick, .string ⟨#[107]⟩, .int .i64 2, .int .i64 1] 34 (0, 0)) := by rw [← hw5]; exact alloc_top (by rw [alloc_size, alloc_size])
          have z5 : w5.heap.size = w4.heap.size + 1 + 1 + 1 := by rw [← hw5, alloc_size, alloc_size, alloc_size]
          have o5 : OwnC2 (fun b => b = w4.heap.size ∨ b = w4.heap.size + 1 + 1) W2.heap.size W2 w5 p c q c := o.frame b5 (Nat.le_refl _) (by
            rintro b (rfl | rfl)
            · exact .inr ⟨Nat.le_refl _, by omega⟩
            · exact .inr ⟨by omega, by omega⟩)
          have hput := ownC2_put o5 (Nat.le_refl _) s (by rw [hs]; show (⟨#[107]⟩ : ByteArray).size ≤ maxLen; decide)
          unfold PutRow at hput
          rw [hpf] at hput
          dsimp only at hput
          rw [show s.val = .agg #[.int .i64 c.tick, .string ⟨#[107]⟩, .int .i64 2, .int .i64 1] by rw [hs]; rfl] at hput
          obtain ⟨m, hm⟩ : ∃ m, (putB c s).length = m := ⟨_, rfl⟩
          have hm3 : 0 < m := by have := (putB_len HI.out hsok hst).1; omega
          rw [hm] at hput
          have HE := Lib.hid (And.intro e1 e3)
          have HM := Lib.hid (And.intro hm (And.intro hpf hs))
          clear o b5 e1 e3 z5 o5 hm hpf hs hst hsok
          subst hw5
          go_wp2_with fail
          refine hput.mono ?_
          rintro e w6 ⟨B1, k1, ⟨rfl, r1, _⟩, o6, k6⟩
          have e1 := (k6 w4.heap.size (.inl rfl)).trans HE.out.1
          have e3 := (k6 (w4.heap.size + 1 + 1) (.inr rfl)).trans HE.out.2
          have hput := ownC2_put o6.swap (Nat.le_refl _) s (by rw [HM.out.2.2]; show (⟨#[107]⟩ : ByteArray).size ≤ maxLen; decide)
          unfold PutRow at hput
          rw [HM.out.2.1] at hput
          dsimp only at hput
          rw [show s.val = .agg #[.int .i64 c.tick, .string ⟨#[107]⟩, .int .i64 2, .int .i64 1] by rw [HM.out.2.2]; rfl, HM.out.1] at hput
          have y0 : w6.cell? ⟨w4.heap.size + 1 + 1, 0, none⟩ = some (.int .i64 c.tick) := by simp [World.cell?, e3]
          have y1 : w6.cell? ⟨w4.heap.size + 1 + 1, 1, none⟩ = some (.string ⟨#[107]⟩) := by simp [World.cell?, e3]
          have y2 : w6.cell? ⟨w4.heap.size + 1 + 1, 2, none⟩ = some (.int .i64 2) := by simp [World.cell?, e3]
          have y3 : w6.cell? ⟨w4.heap.size + 1 + 1, 3, none⟩ = some (.int .i64 1) := by simp [World.cell?, e3]
          have HR := Lib.hid (And.intro r1 e1)
          clear r1 o6 k6 e1 e3 HE
          go_wp2_with fail
          refine hput.mono ?_
          rintro e w7 ⟨B2, k2, ⟨rfl, r2, _⟩, o7, k7⟩
          have r1 := HR.out.1.keeps k7 (fun g hg => .inr hg)
          have e1 := (k7 w4.heap.size (.inl (.inl rfl))).trans HR.out.2
          have t1 := row_text r1 hm3
          have t2 := row_text r2 hm3
          have x0 : w7.cell? ⟨w4.heap.size, 0, none⟩ = some (.int .i64 0) := by simp [World.cell?, e1]
          have x1 : w7.cell? ⟨w4.heap.size, 1, none⟩ = some (.string ByteArray.empty) := by simp [World.cell?, e1]
          have x2 : w7.cell? ⟨w4.heap.size, 2, none⟩ = some (.int .i64 0) := by simp [World.cell?, e1]
          have x3 : w7.cell? ⟨w4.heap.size, 3, none⟩ = some (.int .i64 0) := by simp [World.cell?, e1]
          obtain ⟨K, hK⟩ : ∃ K, strOfNums (putB c s) = K := ⟨_, rfl⟩
          rw [hK] at t1 t2
          have HO := Lib.hid o7.bel
          clear hput r1 r2 e1 o7 k7 hK HR y0 y1 y2 y3
          go_wp2
          go_ret
          exact ⟨by simp, HX.out.1.trans (HO.out.mono (by have := HX.out.2.1; omega))⟩
        · have hbl : bs.length = nb := RB.out.len
          have hcb := RB.out.cap
          have hbroom := RB.out.room
          obtain ⟨m, hm⟩ : ∃ m, (putB c r).length = m := ⟨_, rfl⟩
          have hm3 : 0 < m := by have := (putB_len HI.out hr ht).1; omega
          rw [hm] at hlen hg htk
          obtain ⟨P3, hP3⟩ : ∃ P3, pa + m = P3 := ⟨_, rfl⟩
          have hP3n : P3 ≤ nb := by omega
          rw [show (pa : Int) + m = (P3 : Int) by omega] at hg
          obtain ⟨A', t1, t2⟩ := bytes_text (A := Bb) hbl hcb hm3 hP3 hP3n
          rw [htk] at t2
          obtain ⟨K, hK⟩ : ∃ K, strOfNums (putB c r) = K := ⟨_, rfl⟩
          rw [hK] at t2
          have hw : IntKind.i64.wrap ((pa : Int) + m) = (P3 : Int) := by rw [show (pa : Int) + m = (P3 : Int) by omega]; exact IntWalk.i64_in _ (by omega)
          have hP3i : (P3 : Int) ≤ nb := by omega
          rw [hg] at hget
          unfold GetIs Rec.val at hget
          dsimp only at hget
          have hpf := putF_yes hr ht
          have hright := fun w => recRight_any w r (by have := hr.key.2; simp only [maxLen]; omega)
          unfold RecRight Rec.val at hright
          rw [recErr_ok.2 hr] at hright
          clear hg htk hP3 hlen hbl
          go_wp2_with fail
          refine hget.mono ?_
          rintro e w4 ⟨rfl, o, _⟩
          clear hget
          obtain ⟨w5, hw5⟩ : ∃ w5, ((w4.alloc (.cells #[.int .i64 r.tick, .string r.key, .int .i64 r.cost, .int .i64 r.verdict] 34)).alloc (.cells #[.int .i64 0, .int .i64 0] 37)) = w5 := ⟨_, rfl⟩
          have b5 : Below w4.heap.size w4 w5 := by rw [← hw5]; exact ((Below.refl _ _).alloc (Nat.le_refl _) _).alloc (by simp) _
          have e1 : w5.heap[w4.heap.size]? = some (.cells #[.int .i64 r.tick, .string r.key, .int .i64 r.cost, .int .i64 r.verdict] 34 (0, 0)) := by
            rw [← hw5, Below.heap_alloc _ _ _ (by simp only [alloc_size]; omega)]; exact heap_alloc_new w4 _
          have z5 : w5.heap.size = w4.heap.size + 1 + 1 := by rw [← hw5, alloc_size, alloc_size]
          have o5 : OwnC2 (fun b => b = w4.heap.size) W2.heap.size W2 w5 p (putC c r) q c := o.frame b5 (Nat.le_refl _) (by
            rintro b rfl
            exact .inr ⟨Nat.le_refl _, by omega⟩)
          have hput := ownC2_put o5.swap (Nat.le_refl _) r (by have := hr.key.2; simp only [maxLen]; omega)
          unfold PutRow Rec.val at hput
          rw [hpf] at hput
          dsimp only at hput
          rw [hm] at hput
          have HE := Lib.hid e1
          have HM := Lib.hid (And.intro hm (And.intro hpf hK))
          clear o b5 e1 z5 o5 hm hpf hK
          subst hw5
          go_wp2_with fail
          refine hput.mono ?_
          rintro e w6 ⟨B1, k1, ⟨rfl, r1, _⟩, o6, k6⟩
          have e1 := (k6 w4.heap.size rfl).trans HE.out
          have y0 : w6.cell? ⟨w4.heap.size, 0, none⟩ = some (.int .i64 r.tick) := by simp [World.cell?, e1]
          have y1 : w6.cell? ⟨w4.heap.size, 1, none⟩ = some (.string r.key) := by simp [World.cell?, e1]
          have y2 : w6.cell? ⟨w4.heap.size, 2, none⟩ = some (.int .i64 r.cost) := by simp [World.cell?, e1]
          have y3 : w6.cell? ⟨w4.heap.size, 3, none⟩ = some (.int .i64 r.verdict) := by simp [World.cell?, e1]
          have HR := Lib.hid (And.intro r1 (And.intro e1 o6))
          clear hput r1 o6 k6 e1 HE
          go_wp2_with fail
          refine (hright _).mono ?_
          rintro e w7 ⟨rfl, b7⟩
          have e1 := (b7.block _ ((Array.getElem?_eq_some_iff.1 HR.out.2.1).1)).trans HR.out.2.1
          have r1 := HR.out.1.block (fun g hg => b7.block g (HR.out.1.lt hg))
          have hbel := HR.out.2.2.bel.trans (b7.mono HR.out.2.2.bel.size)
          have hbi := bytesArg_in RB.out (HX.out.1.trans (hbel.mono (by have := HX.out.2.1; omega)))
          have t3 : ∀ k, (convert 25 9 (.slice A' m (cb - pa))).run Try.prog (w7.drewN k) = .ok (.string K) (w7.drewN k) := fun k => t2 _ (hbi.drewN k)
          have t4 : ∀ k, (convert 25 9 (.slice B1 m k1)).run Try.prog (w7.drewN k) = .ok (.string K) (w7.drewN k) := fun k => by rw [row_text (r1.drewN k) hm3, HM.out.2.2]
          have x0 : w7.cell? ⟨w4.heap.size, 0, none⟩ = some (.int .i64 r.tick) := by simp [World.cell?, e1]
          have HO := Lib.hid hbel
          clear hright b7 e1 r1 hbel hbi t2 HR y0 y1 y2 y3
          go_wp2_with fail
          go_quiet (fail)
          go_wp2
          go_ret
          have hfin := HX.out.1.trans (HO.out.mono (by have := HX.out.2.1; omega))
          exact ⟨by simp, ⟨hfin.os, hfin.tape, hfin.output, hfin.size, hfin.block⟩⟩
  · have hnew := fun w => recNew_no w P hok
    clear hok
    go_enter Try.func3, Try.ntmps3
    go_upto_region 1 with fail
    clear hW2
    go_wp2_with fail
    refine aw.mono ?_
    rintro e w1 ⟨rfl, b1⟩
    have hl1 := (b1.block W.heap.size (by have := HX.out.2.1; omega)).trans HX.out.2.2
    have HL := Lib.hid (And.intro hl1 b1)
    clear aw b1 hl1
    go_wp2_with ((with_reducible refine at_list ?_); refine wpList_load_row rfl 23 (.tmp 4) rfl W.heap.size rfl 23 P.cells.toArray (0, 0) _ HL.out.1 Try.underlying23 rfl HZ.out ?_)
    refine (hnew _).mono ?_
    rintro e w2 ⟨rfl, b2⟩
    have HB := Lib.hid b2
    clear hnew b2
    go_wp2
    go_ret
    exact ⟨rfl, HX.out.1.trans ((HL.out.2.trans (HB.out.mono HL.out.2.size)).mono (by have := HX.out.2.1; omega))⟩
end Go.Proofs.Ytipiohkpdkandaa
