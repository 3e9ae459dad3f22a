/-
  The walk of the law RecordBack. Conditions: the statement's own bound on what is read.
-/
import Derived.Test.YtipiohkpdkandaaRecW
import Derived.Test.YtipiohkpdkandaaRecArg
import Derived.Test.YtipiohkpdkandaaRecSize
import Derived.Test.YtipiohkpdkandaaRecList
import Derived.Test.YtipiohkpdkandaaRowN
import Derived.Deep.CutBlock
namespace Go.Proofs.Ytipiohkpdkandaa
set_option linter.unusedVariables false
set_option linter.unusedSimpArgs false
open Go.RowKit

theorem infoRec : (Try.prog.info? 34).map (fun i => (i.zero, i.size, i.bytes)) = some (some (.agg #[.int .i64 0, .string ByteArray.empty, .int .i64 0, .int .i64 0]), 4, 40) := by kernel_rfl
/-- A row of bytes and one of records lie apart. -/
theorem row_rowN_ne {w : World} {A A2 : Option Addr} {n n2 k k2 : Nat} {xs ys : List Value} (h : Row w 5 A n k xs) (h2 : RowN w 34 4 A2 n2 k2 ys) {g : Nat} (hg : blk A = some g) : blk A2 ≠ some g := by
  rcases h.form with ⟨rfl, _⟩ | ⟨g1, cur, rfl, e1, _⟩
  · cases hg
  · rcases h2.form with ⟨rfl, _⟩ | ⟨g2, cur2, rfl, e2, _⟩
    · intro h; cases h
    · intro h
      have a1 : g1 = g := by simpa [blk] using hg
      have a2 : g2 = g := by simpa [blk] using h
      subst a1; subst a2
      rw [e1] at e2
      injection e2 with e2
      injection e2 with _ ht
      exact absurd ht (by decide)
theorem row_text0 {w : World} {A : Option Addr} {k : Nat} {l : List Int} (h : Row w 5 A 0 k (nums .u8 l)) :
    (convert 25 9 (.slice A 0 k)).run Try.prog w = .ok (.string ByteArray.empty) w := by
  rcases h.form with ⟨rfl, _, _⟩ | ⟨g, cur, rfl, _⟩
  · exact run_convert_bytes_nil (P := Try.prog) w 25 5 Try.underlying25 Try.underlying5 0 k 9 Try.underlying9
  · exact run_convert_bytes_arg (P := Try.prog) w 25 5 Try.underlying25 Try.underlying5 g 0 0 k [] rfl (fun i hi => absurd hi (Nat.not_lt_zero _)) 9 Try.underlying9
/-- 'string(b)' of any row. -/
theorem row_text_any {w : World} {A : Option Addr} {n k : Nat} {l : List Int} (h : Row w 5 A n k (nums .u8 l)) :
    (convert 25 9 (.slice A n k)).run Try.prog w = .ok (.string (strOfNums l)) w := by
  by_cases hn : 0 < n
  · exact row_text h hn
  · obtain rfl : n = 0 := by omega
    have hl : l = [] := by have := h.len; rw [nums_length] at this; exact List.length_eq_zero_iff.1 this
    subst hl
    exact row_text0 h
/-- Rows of F have been written or moved: the coders are as they were. -/
theorem OwnC2.regrow {F G : Nat → Prop} {B : Nat} {W w w1 : World} {p q : Nat} {c d : CC} {U : Nat → Prop} (h : OwnC2 F B W w p c q d) (hB : B ≤ W.heap.size) (hu : Upd w w1 U) (hU : ∀ b, b < w.heap.size → U b → F b ∧ B ≤ b)
    (hG : ∀ b, G b → b < w1.heap.size ∧ (F b ∨ w.heap.size ≤ b)) : OwnC2 G B W w1 p c q d := by
  have h' := h.upd hu hU hB
  obtain ⟨S, T, h1, h2, h3, h4, h5, h6⟩ := h
  refine ⟨S, T, h1.kept hu (fun b hb hUb => (h3 b hb).2.2 (hU b (h1.lt hb) hUb).1), h2.kept hu (fun b hb hUb => (h4 b hb).2 (hU b (h2.lt hb) hUb).1), fun b hb => ⟨(h3 b hb).1, (h3 b hb).2.1, fun hg => ?_⟩, fun b hb => ⟨(h4 b hb).1, fun hg => ?_⟩, fun b hg => (hG b hg).1, h'.bel⟩
  · rcases (hG b hg).2 with hh | hh
    · exact (h3 b hb).2.2 hh
    · have := h1.lt hb; omega
  · rcases (hG b hg).2 with hh | hh
    · exact (h4 b hb).2 hh
    · have := h2.lt hb; omega

set_option maxRecDepth 100000 in
set_option maxHeartbeats 8000000 in
theorem recordBack_walk (W : World) (P : Pol) (A : Option Addr) (n cp : Nat) (l : List Rec) (ra : RecsArg W A n cp l) (hn : n ≤ 1048576) (r : Rec) (hm : r.key.size ≤ maxLen) :
    Calls Try.prog 12 #[.agg P.cells.toArray, .slice A n cp, r.val] W fun e W' => e = .returned (.bool true) ∧ Below W.heap.size W W' := by
  have RA := Lib.hid ra
  clear ra
  obtain ⟨W2, hW2⟩ : ∃ W2, (W.alloc (.cells P.cells.toArray 23)).alloc (.cells #[.int .i64 r.tick, .string r.key, .int .i64 r.cost, .int .i64 r.verdict] 34) = W2 := ⟨_, rfl⟩
  have hb2 : Below W.heap.size W W2 := by rw [← hW2]; exact ((Below.refl _ _).alloc (Nat.le_refl _) _).alloc (by simp) _
  have hz2 : W2.heap.size = W.heap.size + 1 + 1 := by rw [← hW2, alloc_size, alloc_size]
  have hx1 : W2.heap[W.heap.size]? = some (.cells P.cells.toArray 23 (0, 0)) := by rw [← hW2, Below.heap_alloc _ _ _ (by simp)]; exact heap_alloc_new W _
  have hx2 : W2.heap[W.heap.size + 1]? = some (.cells #[.int .i64 r.tick, .string r.key, .int .i64 r.cost, .int .i64 r.verdict] 34 (0, 0)) := by rw [← hW2]; exact alloc_top (by rw [alloc_size])
  have HX := Lib.hid (And.intro hb2 (And.intro hz2 (And.intro hx1 hx2)))
  have aw := awake6_any W2
  clear hb2 hz2 hx1 hx2
  have hpsz : (Try.prog.info? 23).map (·.size) = some 10 := by kernel_rfl
  have HZ := Lib.hid hpsz
  clear hpsz
  unfold Rec.val
  by_cases hok : P.ok
  · have HOK := Lib.hid hok
    have HC0 : Hid (CInv ⟨⟨P.slots.toNat, [], []⟩, 0, 0⟩) := by
      have h := hok.2.2.2.1
      exact CInv.new (by omega) (by omega)
    obtain ⟨c0', hc0'⟩ : ∃ c0' : CC, c0' = ⟨⟨P.slots.toNat, [], []⟩, 0, 0⟩ := ⟨_, rfl⟩
    rw [← hc0'] at HC0
    clear hok
    go_enter Try.func12, Try.ntmps12
    go_upto_region 1 with fail
    clear hW2
    go_wp2_with fail
    refine aw.mono ?_
    rintro e w1 ⟨rfl, b1⟩
    have hnew := ownC_new (B := W2.heap.size) P HOK.out b1 (Nat.le_refl _)
    rw [← hc0'] at hnew
    have hl1 := (b1.block W.heap.size (by have := HX.out.2.1; omega)).trans HX.out.2.2.1
    have HL := Lib.hid hl1
    clear aw b1 hl1
    go_wp2_with ((with_reducible refine at_list ?_); refine wpList_load_row rfl 23 (.tmp 3) rfl W.heap.size rfl 23 P.cells.toArray (0, 0) _ HL.out Try.underlying23 rfl HZ.out ?_)
    refine hnew.mono ?_
    rintro e w2 ⟨p, rfl, o⟩
    have hnew2 := ownC2_new P HOK.out o (Nat.le_refl _)
    rw [← hc0'] at hnew2
    have hl1 := (o.bel.block W.heap.size (by have := HX.out.2.1; omega)).trans HX.out.2.2.1
    have HL2 := Lib.hid hl1
    have HC := Lib.hid hc0'
    clear hnew o hl1 hc0' HL
    go_wp2_with ((with_reducible refine at_list ?_); refine wpList_load_row rfl 23 (.tmp 3) rfl W.heap.size rfl 23 P.cells.toArray (0, 0) _ HL2.out Try.underlying23 rfl HZ.out ?_)
    refine hnew2.mono ?_
    rintro e w3 ⟨q, rfl, o⟩
    clear hnew2
    go_wp2_with fail
    go_loopg [12, 13, 14] n (fun gk v12 v13 v14 wr => ∃ (i : Nat) (rs : List Rec) (m1 k1 m2 k2 : Nat) (A1 A2 : Option Addr), v14 = .int .i64 i ∧ v12 = .slice A1 m1 k1 ∧ v13 = .slice A2 m2 k2 ∧ gk + i = n ∧ m1 ≤ 77 * i ∧ m2 ≤ i ∧
      OwnC2 (fun b => blk A1 = some b ∨ blk A2 = some b) W2.heap.size W2 wr p (stC c0' rs) q c0' ∧ Row wr 5 A1 m1 k1 (nums .u8 (stB c0' rs)) ∧ RowN wr 34 4 A2 m2 k2 (recsV rs) ∧
      (∀ g, blk A1 = some g ∨ blk A2 = some g → W2.heap.size ≤ g) ∧ Hid (okAll c0' rs ∧ rs.length = m2))
    case atStart => exact ⟨0, [], 0, 0, 0, 0, none, none, rfl, rfl, rfl, by omega, by omega, by omega, o.mono (fun b h => by rcases h with h | h <;> cases h), Row.nil _ _, RowN.nil _ _ _, (fun g h => by rcases h with h | h <;> cases h), ⟨trivial, rfl⟩⟩
    case round =>
      clear o
      obtain ⟨i, rs, m1, k1, m2, k2, A1, A2, rfl, rfl, rfl, hi, hm1, hm2, o, hr1, hr2, hA, hrs⟩ := hrel
      by_cases hin : i < n
      · have hini : (i : Int) < n := by omega
        obtain ⟨b, ob, x, rfl, hx, hxm, hcell⟩ := RA.out.at hin
        obtain ⟨g0, g1, g2, g3⟩ := hcell wr (HX.out.1.trans (o.bel.mono (by have := HX.out.2.1; omega)))
        have hput := ownC2_put o (Nat.le_refl _) x hxm
        unfold PutRow Rec.val at hput
        have HCE := Lib.hid hcell
        have HI := Lib.hid o.inv
        have HR := Lib.hid (And.intro hr1 (And.intro hr2 hA))
        clear hcell hx o hr1 hr2 hA
        rcases putF_cases (stC c0' rs) x with ⟨hr, ht, hpf⟩ | ⟨er, her, hpf⟩
        · have hlen := putF_len HI.out x
          rw [hpf] at hput hlen
          obtain ⟨mb, hmb⟩ : ∃ mb, (putB (stC c0' rs) x).length = mb := ⟨_, rfl⟩
          dsimp only at hput hlen
          rw [hmb] at hput hlen
          have HH := Lib.hid (And.intro hr ht)
          clear hpf hmb hr ht
          go_wp2_with fail
          refine hput.mono ?_
          rintro e w4 ⟨B, kB, ⟨rfl, rB, aB⟩, o, k4⟩
          have h1 := HR.out.1.keeps k4 (fun g hg => .inl hg)
          have h2 := HR.out.2.1.block (fun g hg => k4 g (.inr hg))
          obtain ⟨g0, g1, g2, g3⟩ := HCE.out w4 (HX.out.1.trans (o.bel.mono (by have := HX.out.2.1; omega)))
          have HO := Lib.hid (And.intro o h2)
          clear hput o k4 h2 aB
          go_wp2_with (at_builtin; go_must (refine row_append_g rfl (.tmp 69) (.tmp 70) 25 5 (.int .u8 0) 1 rfl Try.underlying25 infoByte rfl (by decide) A1 m1 k1 _ B mb kB _ rfl rfl h1 rB.rd (nums_oneCell _ _) (by omega) ?_))
          intro A3 k3 w5 a1 a2
          rw [← nums_append] at a1
          have HY := Lib.hid (And.intro a1 a2)
          clear a1 a2 h1 rB g0 g1 g2 g3
          have hS := HY.out.2.at
          have ne12 : ∀ g, blk A1 = some g → blk A2 ≠ some g := fun g hg => row_rowN_ne HR.out.1 HR.out.2.1 hg
          have h2 := HO.out.2.kept HY.out.2.upd (fun g hg hg1 => ne12 g hg1 hg)
          have o5 : OwnC2 (fun b => blk A3 = some b ∨ blk A2 = some b) W2.heap.size W2 w5 p (putC (stC c0' rs) x) q c0' := by
            refine (OwnC2.mono (G := fun b => blk A1 = some b ∨ blk A2 = some b) HO.out.1 (fun b hb => .inl hb)).regrow (Nat.le_refl _) HY.out.2.upd (fun b _ hb => ⟨.inl hb, HR.out.2.2 b (.inl hb)⟩) ?_
            rintro b (hb | hb)
            · refine ⟨HY.out.1.lt hb, ?_⟩
              rcases hS with e | e
              · exact .inl (.inl (by rw [← e]; exact hb))
              · rw [e] at hb; injection hb with hb; right; omega
            · exact ⟨h2.lt hb, .inl (.inr hb)⟩
          obtain ⟨g0, g1, g2, g3⟩ := HCE.out w5 (HX.out.1.trans (o5.bel.mono (by have := HX.out.2.1; omega)))
          have HO5 := Lib.hid (And.intro o5 h2)
          clear hS ne12 o5
          go_wp2_with (at_builtin; go_must (refine rowN_append1 rfl (.tmp 72) (.tmp 77) 24 34 (.agg #[.int .i64 0, .string ByteArray.empty, .int .i64 0, .int .i64 0]) 4 40 rfl Try.underlying24 infoRec rfl (by decide) (by decide) A2 m2 k2 (recsV rs) #[.int .i64 x.tick, .string x.key, .int .i64 x.cost, .int .i64 x.verdict] rfl rfl rfl h2 (recsV_oneCell x) (by omega) ?_))
          intro A4 k4' w6 a1 a2 a3
          have HZ4 := Lib.hid (And.intro a1 (And.intro a2 a3))
          clear a1 a2 a3 h2 g0 g1 g2 g3
          go_wp2
          go_roundg (n - i - 1)
          case measure => omega
          case rel =>
            have ne32 : ∀ g, blk A3 = some g → blk A2 ≠ some g := fun g hg => row_rowN_ne HY.out.1 HO5.out.2 hg
            have r3 := HY.out.1.kept HZ4.out.2.1 (fun g hg hg2 => ne32 g hg hg2)
            have r4 : RowN w6 34 4 A4 (m2 + 1) k4' (recsV (rs ++ [x])) := by have := HZ4.out.1; rwa [recsV_snoc]
            have hb5 := HO5.out.1.bel.size
            refine ⟨i + 1, rs ++ [x], m1 + mb, k3, m2 + 1, k4', A3, A4, by go_num, by first | rfl | go_num, by first | rfl | go_num, by omega, by omega, by omega, ?_, ?_, r4, ?_, ?_⟩
            · rw [stC_snoc]
              refine HO5.out.1.regrow (Nat.le_refl _) HZ4.out.2.1 (fun b _ hb => ⟨.inr hb, HR.out.2.2 b (.inr hb)⟩) ?_
              rintro b (hb | hb)
              · exact ⟨r3.lt hb, .inl (.inl hb)⟩
              · refine ⟨r4.lt hb, ?_⟩
                rcases HZ4.out.2.2 with e | ⟨g, e, hg⟩
                · exact .inl (.inr (by rw [← e]; exact hb))
                · rw [e] at hb; injection hb with hb; right; omega
            · rw [stB_snoc]; exact r3
            · rintro g (hg | hg)
              · rcases HY.out.2.at with e | e
                · exact HR.out.2.2 g (.inl (by rw [← e]; exact hg))
                · rw [e] at hg; injection hg with hg; have := HO.out.1.bel.size; omega
              · rcases HZ4.out.2.2 with e | ⟨g', e, hg'⟩
                · exact HR.out.2.2 g (.inr (by rw [← e]; exact hg))
                · rw [e] at hg; injection hg with hg; omega
            · exact ⟨(okAll_snoc rs x c0').2 ⟨hrs.out.1, HH.out.1, HH.out.2⟩, by rw [List.length_append, hrs.out.2]; rfl⟩
        · rw [hpf] at hput
          have her1 : (er != 0) = true := by simpa using her
          have her2 : (er == 0) = false := by simpa using her
          clear hpf her
          go_wp2_with fail
          refine hput.mono ?_
          rintro e w4 ⟨B, kB, ⟨rfl, _, _⟩, o, k4⟩
          have h1 := HR.out.1.keeps k4 (fun g hg => .inl hg)
          have h2 := HR.out.2.1.block (fun g hg => k4 g (.inr hg))
          have HO := Lib.hid (And.intro (OwnC2.mono (G := fun b => blk A1 = some b ∨ blk A2 = some b) o (fun b hb => .inl hb)) (And.intro h1 h2))
          clear hput o g0 g1 g2 g3 k4 h1 h2
          go_wp2
          go_roundg (n - i - 1)
          case measure => omega
          case rel => exact ⟨i + 1, rs, m1, k1, m2, k2, A1, A2, by go_num, rfl, rfl, by omega, by omega, by omega, HO.out.1, HO.out.2.1, HO.out.2.2, HR.out.2.2, hrs⟩
      · have hini : (n : Int) ≤ i := by omega
        have HS := Lib.hid (And.intro hrs.out.1 (And.intro hrs.out.2 hA))
        have hkk := hr1.le
        obtain ⟨C, hC⟩ : ∃ C, stC c0' rs = C := ⟨_, rfl⟩
        rw [hC] at o
        have HCC := Lib.hid hC
        clear hC hrs hA
        go_wp2_with fail
        go_loopg [17, 18] m2 (fun gk v17 v18 wr => ∃ (j at_ : Nat), v18 = .int .i64 j ∧ v17 = .int .i64 at_ ∧ gk + j = m2 ∧ Hid ((stB c0' (rs.take j)).length = at_) ∧ OwnC2 (fun b => blk A1 = some b ∨ blk A2 = some b) W2.heap.size W2 wr p C q (stC c0' (rs.take j)) ∧ Row wr 5 A1 m1 k1 (nums .u8 (stB c0' rs)) ∧ RowN wr 34 4 A2 m2 k2 (recsV rs))
        case atStart => exact ⟨0, 0, rfl, rfl, by omega, rfl, o, hr1, hr2⟩
        case round =>
          clear o hr1 hr2
          obtain ⟨j, at_, rfl, rfl, hj, hat, o, hr1, hr2⟩ := hrel
          by_cases hjm : j < m2
          · have hjmi : (j : Int) < m2 := by omega
            obtain ⟨x, hx⟩ : ∃ x, rs[j]? = some x := ⟨_, List.getElem?_eq_getElem (by rw [HS.out.2.1]; exact hjm)⟩
            obtain ⟨ok1, xok, xt, htk, rest, hsp⟩ := mid_rec HS.out.1 hx
            have hinv := stC_inv _ _ HC0.out ok1
            obtain ⟨A2g, hA2g⟩ := hr2.some_of (by omega)
            have hg := getF_put hinv xok xt (stB c0' (rs.take j)) rest (p := (at_ : Int)) (by rw [hat.out])
            rw [← hsp, hat.out] at hg
            have h3 := (putB_len hinv xok xt).1
            obtain ⟨at2, hat2⟩ : ∃ at2, at_ + (putB (stC c0' (rs.take j)) x).length = at2 := ⟨_, rfl⟩
            rw [show (at_ : Int) + ((putB (stC c0' (rs.take j)) x).length : Int) = (at2 : Int) by omega] at hg
            have hlt2 : (at_ : Int) < at2 := by omega
            have hget := ownC2_get o.swap (Nat.le_refl _) (hr1.bytesIn (stB_bytes rs c0') (by omega)) (at_ : Int)
            rw [hg] at hget
            unfold GetIs Rec.val at hget
            dsimp only at hget
            have HT := Lib.hid (And.intro htk hat2)
            subst hA2g
            have HR := Lib.hid (And.intro hr1 hr2)
            have HXX := Lib.hid hx
            clear hx ok1 xok xt htk hsp hinv hg h3 hat2 o hr1 hr2
            go_wp2_with fail
            refine hget.mono ?_
            rintro e w5 ⟨rfl, o, k5⟩
            have r1 := HR.out.1.keeps k5 (fun g hg => .inl hg)
            have r2 := HR.out.2.block (fun g hg => k5 g (.inr hg))
            have y : ∀ (X Y : Obj) (t : Nat) (v : Value), x.cells[t]? = some v → ((w5.alloc X).alloc Y).cell? ⟨A2g, j * 4 + t, none⟩ = some v := fun X Y t v hv => ((r2.alloc X).alloc Y).cell (recsV_get HXX.out hv)
            have y0 : ∀ X Y, ((w5.alloc X).alloc Y).cell? ⟨A2g, j * 4, none⟩ = some (.int .i64 x.tick) := fun X Y => y X Y 0 _ rfl
            have y1 : ∀ X Y, ((w5.alloc X).alloc Y).cell? ⟨A2g, j * 4 + 1, none⟩ = some (.string x.key) := fun X Y => y X Y 1 _ rfl
            have y2 : ∀ X Y, ((w5.alloc X).alloc Y).cell? ⟨A2g, j * 4 + 2, none⟩ = some (.int .i64 x.cost) := fun X Y => y X Y 2 _ rfl
            have y3 : ∀ X Y, ((w5.alloc X).alloc Y).cell? ⟨A2g, j * 4 + 3, none⟩ = some (.int .i64 x.verdict) := fun X Y => y X Y 3 _ rfl
            have ho : ∀ X Y k, OwnC2 (fun b => blk A1 = some b ∨ blk (some ⟨A2g, 0, none⟩) = some b) W2.heap.size W2 (((w5.alloc X).alloc Y).drewN k) p C q (putC (stC c0' (rs.take j)) x) := fun X Y k => o.swap.below (below_drewN ((((Below.refl w5.heap.size w5).alloc (Nat.le_refl _) X).alloc (by simp) Y)) k) (Nat.le_refl _)
            have HO := Lib.hid (And.intro ho (And.intro r1 r2))
            clear hget o k5 r1 r2 ho y
            go_wp2_with fail
            go_quiet (fail)
            go_wp2
            go_roundg (m2 - j - 1)
            case measure => omega
            case rel =>
              refine ⟨j + 1, at2, by go_num, rfl, by omega, ?_, ?_, ((HO.out.2.1.alloc _).alloc _).drewN _, ((HO.out.2.2.alloc _).alloc _).block (fun _ _ => rfl)⟩
              · show (stB c0' (rs.take (j + 1))).length = at2
                rw [HT.out.1, stB_snoc, List.length_append, hat.out]
                exact HT.out.2
              · rw [HT.out.1, stC_snoc]
                exact HO.out.1 _ _ _
          · obtain rfl : j = m2 := by omega
            have htake : rs.take j = rs := List.take_of_length_le (by rw [HS.out.2.1]; exact Nat.le_refl _)
            rw [htake, HCC.out] at o
            have hat' : at_ = m1 := by
              have h1 := hat.out
              rw [htake] at h1
              have h2 := hr1.len
              rw [nums_length] at h2
              omega
            subst hat'
            have hbel := o.bel
            have x2 := (hbel.block (W.heap.size + 1) (by have := HX.out.2.1; omega)).trans HX.out.2.2.2
            have y1 : wr.cell? ⟨W.heap.size + 1, 0, none⟩ = some (.int .i64 r.tick) := by simp [World.cell?, x2]
            have y2 : wr.cell? ⟨W.heap.size + 1, 1, none⟩ = some (.string r.key) := by simp [World.cell?, x2]
            have y3 : wr.cell? ⟨W.heap.size + 1, 2, none⟩ = some (.int .i64 r.cost) := by simp [World.cell?, x2]
            have y4 : wr.cell? ⟨W.heap.size + 1, 3, none⟩ = some (.int .i64 r.verdict) := by simp [World.cell?, x2]
            obtain ⟨C2, bl, er, hpf⟩ : ∃ C2 bl er, putF C r = (C2, bl, er) := ⟨_, _, _, rfl⟩
            obtain ⟨ml, hml⟩ : ∃ ml, bl.length = ml := ⟨_, rfl⟩
            have hput := ownC2_put o (Nat.le_refl _) r hm
            unfold PutRow Rec.val at hput
            rw [hpf] at hput
            dsimp only at hput
            rw [hml] at hput
            have HM := Lib.hid (And.intro hpf hml)
            clear hat o hr1 hr2 hbel x2 hpf hml htake
            go_wp2_with fail
            refine hput.mono ?_
            rintro e w6 ⟨B1, kb1, ⟨rfl, q1, _⟩, o6, _⟩
            have hput := ownC2_put o6.swap (Nat.le_refl _) r hm
            unfold PutRow Rec.val at hput
            rw [HM.out.1] at hput
            dsimp only at hput
            rw [HM.out.2] at hput
            have hbel := o6.bel
            have x2 := (hbel.block (W.heap.size + 1) (by have := HX.out.2.1; omega)).trans HX.out.2.2.2
            clear y1 y2 y3 y4
            have y1 : w6.cell? ⟨W.heap.size + 1, 0, none⟩ = some (.int .i64 r.tick) := by simp [World.cell?, x2]
            have y2 : w6.cell? ⟨W.heap.size + 1, 1, none⟩ = some (.string r.key) := by simp [World.cell?, x2]
            have y3 : w6.cell? ⟨W.heap.size + 1, 2, none⟩ = some (.int .i64 r.cost) := by simp [World.cell?, x2]
            have y4 : w6.cell? ⟨W.heap.size + 1, 3, none⟩ = some (.int .i64 r.verdict) := by simp [World.cell?, x2]
            have HQ := Lib.hid q1
            clear q1 o6 hbel x2
            go_wp2_with fail
            refine hput.mono ?_
            rintro e w7 ⟨B2, kb2, ⟨rfl, q2, _⟩, o7, k7⟩
            have t1 := row_text_any (HQ.out.keeps k7 (fun g hg => .inr hg))
            have t2 := row_text_any q2
            obtain ⟨K, hK⟩ : ∃ K, strOfNums bl = K := ⟨_, rfl⟩
            rw [hK] at t1 t2
            have HO := Lib.hid o7.bel
            clear hput q2 o7 k7 hK y1 y2 y3 y4
            go_wp2
            go_ret
            exact ⟨by simp, HX.out.1.trans (HO.out.mono (by have := HX.out.2.1; omega))⟩
  · have hnew := fun w => recNew_no w P hok
    clear hok
    go_enter Try.func12, Try.ntmps12
    go_upto_region 1 with fail
    clear hW2
    go_wp2_with fail
    refine aw.mono ?_
    rintro e w1 ⟨rfl, b1⟩
    have hl1 := (b1.block W.heap.size (by have := HX.out.2.1; omega)).trans HX.out.2.2.1
    have HL := Lib.hid (And.intro hl1 b1)
    clear aw b1 hl1
    go_wp2_with ((with_reducible refine at_list ?_); refine wpList_load_row rfl 23 (.tmp 3) rfl W.heap.size rfl 23 P.cells.toArray (0, 0) _ HL.out.1 Try.underlying23 rfl HZ.out ?_)
    refine (hnew _).mono ?_
    rintro e w2 ⟨rfl, b2⟩
    have hl2 := (b2.block W.heap.size ((Array.getElem?_eq_some_iff.1 HL.out.1).1)).trans HL.out.1
    have HL2 := Lib.hid (And.intro hl2 b2)
    clear b2 hl2
    go_wp2_with ((with_reducible refine at_list ?_); refine wpList_load_row rfl 23 (.tmp 3) rfl W.heap.size rfl 23 P.cells.toArray (0, 0) _ HL2.out.1 Try.underlying23 rfl HZ.out ?_)
    refine (hnew _).mono ?_
    rintro e w3 ⟨rfl, b3⟩
    have HB := Lib.hid b3
    clear hnew b3
    go_wp2
    go_ret
    have hf := HL.out.2.trans ((HL2.out.2.trans (HB.out.mono HL2.out.2.size)).mono HL.out.2.size)
    exact ⟨rfl, HX.out.1.trans (hf.mono (by have := HX.out.2.1; omega))⟩
end Go.Proofs.Ytipiohkpdkandaa
