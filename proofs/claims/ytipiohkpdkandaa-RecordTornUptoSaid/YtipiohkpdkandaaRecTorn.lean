/-
  The walk of the law RecordTorn. Conditions: the statement's own bound on what is read.
-/
import Derived.Test.YtipiohkpdkandaaRecWr
namespace Go.Proofs.Ytipiohkpdkandaa
set_option linter.unusedVariables false
set_option linter.unusedSimpArgs false
open Go.RowKit

theorem szByte2 : (Try.prog.info? 5).map (·.size) = some 1 := by kernel_rfl
theorem RecsArg.below {W w : World} {A : Option Addr} {n c : Nat} {l : List Rec} (h : RecsArg W A n c l) (hb : Below W.heap.size W w) : RecsArg w A n c l :=
  ⟨h.len, fun i r hr => by
    obtain ⟨b, o, rfl, hc⟩ := h.cells i r hr
    exact ⟨b, o, rfl, fun j v hj => (hb.cell (p := ⟨b, o + (4 * i + j), none⟩) (World.block_lt_of_cell? W _ (hc j v hj))).trans (hc j v hj)⟩, h.keys, h.room, h.cap⟩
theorem take_whole {a b r : List Int} {k : Nat} (h : a.length + b.length ≤ k) : (a ++ (b ++ r)).take k = a ++ (b ++ r.take (k - a.length - b.length)) := by
  rw [List.take_append, List.take_of_length_le (by omega), List.take_append, List.take_of_length_le (l := b) (by omega)]
theorem take_part {a b r : List Int} {k : Nat} (h1 : a.length ≤ k) (h2 : k < a.length + b.length) : (a ++ (b ++ r)).take k = a ++ b.take (k - a.length) := by
  rw [List.take_append, List.take_of_length_le (by omega), List.take_append_of_le_length (by omega)]
theorem flatten_snoc {bss : List (List Int)} {i : Nat} {bs : List Int} (h : bss[i]? = some bs) : (bss.take (i + 1)).flatten = (bss.take i).flatten ++ bs := by
  rw [take_succ_get h, List.flatten_append]
  simp

set_option maxRecDepth 100000 in
set_option maxHeartbeats 8000000 in
theorem recordTorn_walk (W : World) (P : Pol) (A : Option Addr) (n cp : Nat) (l : List Rec) (ra : RecsArg W A n cp l) (hn : n ≤ 1048576) (cut : Int) (wc : (Lit.int .i64 cut).wf = true) :
    Calls Try.prog 15 #[.agg P.cells.toArray, .slice A n cp, .int .i64 cut] W fun e W' => e = .returned (.bool true) ∧ Below W.heap.size W W' := by
  have hcb : -9223372036854775808 ≤ cut ∧ cut ≤ 9223372036854775807 := by simpa [Lit.wf, IntKind.min, IntKind.max, IntKind.signed, IntKind.bits] using wc
  clear wc
  have RA := Lib.hid ra
  have hll := Lib.hid ra.len
  clear ra
  obtain ⟨W2, hW2⟩ : ∃ W2, (W.alloc (.cells P.cells.toArray 23)) = W2 := ⟨_, rfl⟩
  have hb2 : Below W.heap.size W W2 := by rw [← hW2]; exact ((Below.refl _ _).alloc (Nat.le_refl _) _)
  have hz2 : W2.heap.size = W.heap.size + 1 := by rw [← hW2, alloc_size]
  have hx1 : W2.heap[W.heap.size]? = some (.cells P.cells.toArray 23 (0, 0)) := by rw [← hW2]; exact heap_alloc_new W _
  have HX := Lib.hid (And.intro hb2 (And.intro hz2 hx1))
  have aw := awake6_any W2
  clear hb2 hz2 hx1
  have hpsz : (Try.prog.info? 23).map (·.size) = some 10 := by kernel_rfl
  have HZ := Lib.hid hpsz
  clear hpsz
  by_cases hok : P.ok
  · have HOK := Lib.hid hok
    have HCI : Hid (CInv (polC P)) := by
      have h := hok.2.2.2.1
      exact CInv.new (by omega) (by omega)
    clear hok
    go_enter Try.func15, Try.ntmps15
    go_upto_region 1 with fail
    clear hW2
    go_wp2_with fail
    refine aw.mono ?_
    rintro e w1 ⟨rfl, b1⟩
    have hl1 := (b1.block W.heap.size (by have := HX.out.2.1; omega)).trans HX.out.2.2
    have hwr := written_yes w1 P HOK.out A n cp l (RA.out.below (HX.out.1.trans (b1.mono (by have := HX.out.2.1; omega))))
    have HL := Lib.hid (And.intro hl1 b1)
    clear aw b1 hl1
    go_wp2_with ((with_reducible refine at_list ?_); refine wpList_load_row rfl 23 (.tmp 3) rfl W.heap.size rfl 23 P.cells.toArray (0, 0) _ HL.out.1 Try.underlying23 rfl HZ.out ?_)
    refine hwr.mono ?_
    rintro e w2 ⟨A1, k1, A2, k2, vs, m, hm, rfl, r1, r2, hvs, hnew, b2⟩
    have hl2 := (b2.block W.heap.size ((Array.getElem?_eq_some_iff.1 HL.out.1).1)).trans HL.out.1
    have hml : m ≤ n := by have := accR_le l (polC P); have := hll.out; omega
    obtain ⟨rs, hrs⟩ : ∃ rs, accR (polC P) l = rs := ⟨_, rfl⟩
    rw [hrs] at hm r1 hvs
    have hokr : okAll (polC P) rs := by rw [← hrs]; exact accR_ok _ _
    have hnw : Calls Try.prog 18 #[.agg P.cells.toArray] w2 fun e w' => ∃ p, e = .returned (.tuple #[.pointer (some ⟨p, 0, none⟩), .int .i64 0]) ∧ OwnC (fun _ => False) w2.heap.size w2 w' p (polC P) := ownC_new P HOK.out (Below.refl _ _) (Nat.le_refl _)
    have HL2 := Lib.hid hl2
    have HB2 : Hid (Below W.heap.size W w2) := HX.out.1.trans ((HL.out.2.trans (b2.mono HL.out.2.size)).mono (by have := HX.out.2.1; omega))
    have HR := Lib.hid (And.intro r1 (And.intro r2 (And.intro hvs (And.intro hm hokr))))
    clear hwr r1 r2 hvs hm hokr hrs hl2 b2 hnew HL
    go_wp2_with ((with_reducible refine at_list ?_); refine wpList_load_row rfl 23 (.tmp 3) rfl W.heap.size rfl 23 P.cells.toArray (0, 0) _ HL2.out Try.underlying23 rfl HZ.out ?_)
    refine hnw.mono ?_
    rintro e w3 ⟨p, rfl, o⟩
    clear hnw HL2
    go_wp2_with fail
    go_loopg [13, 14] m (fun gk v13 v14 wr => ∃ (i m5 k5 : Nat) (A5 : Option Addr), v14 = .int .i64 i ∧ v13 = .slice A5 m5 k5 ∧ gk + i = m ∧ m5 ≤ 77 * i ∧ OwnC (fun b => blk A5 = some b) w2.heap.size w2 wr p (polC P) ∧ Row wr 5 A5 m5 k5 (nums .u8 (((rowsB (polC P) rs).take i).flatten)) ∧ (∀ g, blk A5 = some g → w2.heap.size ≤ g))
    case atStart => exact ⟨0, 0, 0, none, rfl, rfl, by omega, Nat.le_refl _, o.mono (fun b h => by cases h), Row.nil _ _, (fun g h => by cases h)⟩
    case round =>
      clear o
      obtain ⟨i, m5, k5, A5, rfl, rfl, hi, hm5, o, r5, hA5⟩ := hrel
      by_cases him : i < m
      · have himi : (i : Int) < m := by omega
        obtain ⟨A2g, hA2g⟩ : ∃ g, A2 = some ⟨g, 0, none⟩ := by
          rcases HR.out.2.1.form with ⟨_, h0, _⟩ | ⟨g, _, h0, _⟩
          · omega
          · exact ⟨g, h0⟩
        have hvl : vs.length = m := by have := HR.out.2.1.len; exact this
        obtain ⟨v, hv⟩ : ∃ v, vs[i]? = some v := ⟨_, List.getElem?_eq_getElem (by omega)⟩
        obtain ⟨x, hx⟩ : ∃ x, rs[i]? = some x := ⟨_, List.getElem?_eq_getElem (by rw [HR.out.2.2.2.1]; exact him)⟩
        have hbs := rowsB_get (c := polC P) hx
        obtain ⟨B, kB, rfl, rB⟩ := HR.out.2.2.1.2 i v _ hv hbs
        obtain ⟨ok1, xok, xt, _, _⟩ := mid_rec HR.out.2.2.2.2 hx
        have hlb := (putB_len (stC_inv _ _ HCI.out ok1) xok xt).2.1
        have hx64 := xok.key.2
        obtain ⟨mb, hmb⟩ : ∃ mb, (putB (stC (polC P) (rs.take i)) x).length = mb := ⟨_, rfl⟩
        rw [hmb] at rB hlb hv
        have hbel := o.bel
        subst hA2g
        have cell := (hbel.cell (p := ⟨A2g, i, none⟩) (HR.out.2.1.lt rfl)).trans (HR.out.2.1.cell hv)
        have rB' := rB.block (fun g hg => hbel.block g (rB.lt hg))
        have HO := Lib.hid (And.intro o (And.intro hA5 hbs))
        clear hv hx hbs rB ok1 xok xt hmb hbel o hA5
        go_wp2_with (at_builtin; go_must (refine row_append_g rfl (.tmp 51) (.tmp 55) 25 5 (.int .u8 0) 1 rfl Try.underlying25 infoByte rfl (by decide) A5 m5 k5 _ B mb kB _ rfl rfl r5 rB'.rd (nums_oneCell _ _) (by omega) ?_))
        intro A6 k6 w5 a1 a2
        rw [← nums_append] at a1
        have HY := Lib.hid (And.intro a1 a2)
        clear a1 a2 r5 rB' cell
        go_wp2
        go_roundg (m - i - 1)
        case measure => omega
        case rel =>
          refine ⟨i + 1, m5 + mb, k6, A6, by go_num, by first | rfl | go_num, by omega, by omega, OwnC.grow HO.out.1 (Nat.le_refl _) (fun b hb => ⟨hb, HO.out.2.1 b hb⟩) HY.out.2.upd ?_ HY.out.1, ?_, ?_⟩
          · rcases HY.out.2.at with h | h
            · exact .inl h
            · exact .inr ⟨_, h, Nat.le_refl _⟩
          · rw [flatten_snoc HO.out.2.2]; exact HY.out.1
          · intro g hg
            rcases HY.out.2.at with h | h
            · exact HO.out.2.1 g (by rw [← h]; exact hg)
            · rw [h] at hg; injection hg with hg; have := HO.out.1.bel.size; omega
      · have himi : (m : Int) ≤ i := by omega
        obtain rfl : i = m := by omega
        have hflat : ((rowsB (polC P) rs).take i).flatten = stB (polC P) rs := by
          rw [List.take_of_length_le (by rw [rowsB_length, HR.out.2.2.2.1]; exact Nat.le_refl _), rowsB_flat]
        rw [hflat] at r5
        have hm5l : (stB (polC P) rs).length = m5 := by have := r5.len; rwa [nums_length] at this
        have hk5 := r5.le
        have hcase : (cut < 0 ∧ ∃ u : Nat, IntKind.i64.wrap (cut + 1) = cut + 1 ∧ IntKind.i64.wrap (-(cut + 1)) = (u : Int) ∧ (u : Int) ≤ 9223372036854775807) ∨ ∃ u : Nat, cut = u ∧ (u : Int) ≤ 9223372036854775807 := by
          by_cases h : cut < 0
          · refine .inl ⟨h, (-(cut + 1)).toNat, IntWalk.i64_in _ (by omega), ?_, by omega⟩
            rw [IntWalk.i64_in _ (by omega)]
            omega
          · exact .inr ⟨cut.toNat, by omega, by omega⟩
        have HQ := Lib.hid (And.intro hm5l (And.intro o hA5))
        have hw5 : IntKind.i64.wrap ((m5 : Int) + 1) = (m5 : Int) + 1 := IntWalk.i64_in _ (by omega)
        clear hflat hm5l hA5 hcb
        rcases hcase with ⟨c1, u, cw1, cw2, hu⟩ | ⟨u, rfl, hu⟩
        all_goals
          obtain ⟨ct, hct⟩ : ∃ ct, u % (m5 + 1) = ct := ⟨_, rfl⟩
          have hctm : ct ≤ m5 := by have := Nat.mod_lt u (show 0 < m5 + 1 by omega); omega
          have hrem : (u : Int) % ((m5 : Int) + 1) = (ct : Int) := by
            rw [← hct]
            first | (exact (Int.natCast_emod u (m5 + 1)).symm) | (push_cast; rfl) | simp
          have hsl := run_sub_h (P := Try.prog) (t := 25) Try.underlying25 szByte2 A5 m5 k5 ct (by omega)
          clear hct
          go_wp2_with fail
          go_loopg [17, 16] i (fun gk v17 v16 wr => ∃ (j at_ : Nat), v17 = .int .i64 j ∧ v16 = .int .i64 at_ ∧ gk + j = i ∧ Hid ((stB (polC P) (rs.take j)).length = at_) ∧ at_ ≤ ct ∧ OwnC (fun b => blk A5 = some b) w2.heap.size w2 wr p (stC (polC P) (rs.take j)) ∧ Row wr 5 A5 m5 k5 (nums .u8 (stB (polC P) rs)))
          case atStart => exact ⟨0, 0, rfl, rfl, by omega, Lib.hid rfl, Nat.zero_le _, o, r5⟩
          case round =>
            clear o r5
            obtain ⟨j, at_, rfl, rfl, hj, hat, hac, o, r5⟩ := hrel
            by_cases hjm : j < i
            · have hjmi : (j : Int) < i := by omega
              obtain ⟨A2g, hA2g⟩ : ∃ g, A2 = some ⟨g, 0, none⟩ := by
                rcases HR.out.2.1.form with ⟨_, h0, _⟩ | ⟨g, _, h0, _⟩
                · omega
                · exact ⟨g, h0⟩
              obtain ⟨A1g, hA1g⟩ := HR.out.1.some_of (by omega)
              have hvl : vs.length = i := by have := HR.out.2.1.len; exact this
              obtain ⟨v, hv⟩ : ∃ v, vs[j]? = some v := ⟨_, List.getElem?_eq_getElem (by omega)⟩
              obtain ⟨x, hx⟩ : ∃ x, rs[j]? = some x := ⟨_, List.getElem?_eq_getElem (by rw [HR.out.2.2.2.1]; exact hjm)⟩
              have hbs := rowsB_get (c := polC P) hx
              obtain ⟨B, kB, rfl, rB⟩ := HR.out.2.2.1.2 j v _ hv hbs
              obtain ⟨ok1, xok, xt, htk, rest, hsp⟩ := mid_rec HR.out.2.2.2.2 hx
              have hinv := stC_inv _ _ HCI.out ok1
              obtain ⟨mb, hmb⟩ : ∃ mb, (putB (stC (polC P) (rs.take j)) x).length = mb := ⟨_, rfl⟩
              rw [hmb] at hv rB
              have hbi : BytesIn wr A5 ct k5 ((stB (polC P) rs).take ct) := ⟨by have := (r5.rd).take (m := ct) (by omega); rwa [nums, ← List.map_take] at this, fun y hy => stB_bytes rs (polC P) y (List.mem_of_mem_take hy), by omega, by omega⟩
              subst hA2g hA1g
              have HV := Lib.hid (And.intro hv hx)
              by_cases hcut : ct < at_ + mb
              · obtain ⟨xx, hx1, hx0, hxk⟩ := getF_cut hinv xok xt (stB (polC P) (rs.take j)) (m := ct - at_) (by rw [hmb]; omega) (p := (at_ : Int)) (by rw [hat.out])
                have hsp' : (stB (polC P) rs).take ct = stB (polC P) (rs.take j) ++ (putB (stC (polC P) (rs.take j)) x).take (ct - at_) := by
                  rw [hsp, take_part (by rw [hat.out]; omega) (by rw [hat.out, hmb]; omega), hat.out]
                rw [hat.out] at hx0 hxk
                have hget := ownC_get o (Nat.le_refl _) hbi (at_ : Int)
                rw [hsp', hx1] at hget
                unfold GetIs at hget
                dsimp only at hget
                rw [show Rec.zero.val = .agg #[.int .i64 0, .string ByteArray.empty, .int .i64 0, .int .i64 0] from rfl] at hget
                have hlb := (putB_len hinv xok xt).2.1
                have hx64 := xok.key.2
                rw [hmb] at hlb
                have hcutI : (ct : Int) < (at_ : Int) + (mb : Int) := by omega
                have hwI : IntKind.i64.wrap ((at_ : Int) + (mb : Int)) = (at_ : Int) + (mb : Int) := IntWalk.i64_in _ (by omega)
                have hx2 : (at_ : Int) ≤ xx := by omega
                have hx3 : xx ≤ (ct : Int) := by omega
                clear hsp' hx1 hbi hsp hx hv hbs rB ok1 xok xt htk hinv hmb o r5 hsl hrem hw5 hx0 hxk
                go_wp2_with fail
                refine hget.mono ?_
                rintro e w5 ⟨rfl, o, k5'⟩
                have hbel := o.bel
                have y0 : ∀ X Y, ((w5.alloc X).alloc Y).cell? ⟨A2g, j, none⟩ = some (.slice B mb kB) := fun X Y => (hbel.trans (((Below.refl w5.heap.size w5).alloc (Nat.le_refl _) X).alloc (by simp) Y |>.mono hbel.size)).cell (p := ⟨A2g, j, none⟩) (HR.out.2.1.lt rfl) |>.trans (HR.out.2.1.cell HV.out.1)
                have HO := Lib.hid (fun X Y => hbel.trans ((((Below.refl w5.heap.size w5).alloc (Nat.le_refl _) X).alloc (by simp) Y).mono hbel.size))
                clear hget o k5' hbel
                go_wp2
                all_goals
                  first
                  | (go_ret; exact ⟨rfl, HB2.out.trans ((HO.out _ _).mono HB2.out.size)⟩)
                  | (exfalso; rename_i hwrong; rw [IntWalk.i64_in _ (by omega)] at hwrong; omega)
                  | (exfalso; rename_i hwrong; simp at hwrong; omega)
                  | (exfalso; go_num)
              · have hg := getF_put hinv xok xt (stB (polC P) (rs.take j)) (rest.take (ct - at_ - mb)) (p := (at_ : Int)) (by rw [hat.out])
                have hsp' : (stB (polC P) rs).take ct = stB (polC P) (rs.take j) ++ (putB (stC (polC P) (rs.take j)) x ++ rest.take (ct - at_ - mb)) := by
                  rw [hsp, take_whole (by rw [hat.out, hmb]; omega), hat.out, hmb]
                rw [← hsp', hat.out, hmb] at hg
                obtain ⟨at2, hat2⟩ : ∃ at2, at_ + mb = at2 := ⟨_, rfl⟩
                rw [show (at_ : Int) + (mb : Int) = (at2 : Int) by omega] at hg
                have hget := ownC_get o (Nat.le_refl _) hbi (at_ : Int)
                rw [hg] at hget
                unfold GetIs Rec.val at hget
                dsimp only at hget
                have hlb := (putB_len hinv xok xt).2.1
                have hx64 := xok.key.2
                rw [hmb] at hlb
                have hcutI : (at2 : Int) ≤ (ct : Int) := by omega
                have hwI : IntKind.i64.wrap ((at_ : Int) + (mb : Int)) = (at2 : Int) := by rw [IntWalk.i64_in _ (by omega)]; omega
                have HT := Lib.hid (And.intro htk (And.intro hat2 hmb))
                have HR5 := Lib.hid r5
                clear hsp' hg hbi hsp hx hv hbs rB ok1 xok xt htk hinv hmb hat2 o r5 hsl hrem hw5 hcut hlb hx64
                go_wp2_with fail
                refine hget.mono ?_
                rintro e w5 ⟨rfl, o, k5'⟩
                have hbel := o.bel
                have hbx : ∀ X Y, Below w2.heap.size w2 ((w5.alloc X).alloc Y) := fun X Y => hbel.trans ((((Below.refl w5.heap.size w5).alloc (Nat.le_refl _) X).alloc (by simp) Y).mono hbel.size)
                have y0 : ∀ X Y, ((w5.alloc X).alloc Y).cell? ⟨A2g, j, none⟩ = some (.slice B mb kB) := fun X Y => (hbx X Y).cell (p := ⟨A2g, j, none⟩) (HR.out.2.1.lt rfl) |>.trans (HR.out.2.1.cell HV.out.1)
                have y : ∀ (X Y : Obj) (t : Nat) (v : Value), x.cells[t]? = some v → ((w5.alloc X).alloc Y).cell? ⟨A1g, j * 4 + t, none⟩ = some v := fun X Y t v hv => (hbx X Y).cell (p := ⟨A1g, j * 4 + t, none⟩) (HR.out.1.lt rfl) |>.trans (HR.out.1.cell (recsV_get HV.out.2 hv))
                have y1 : ∀ X Y, ((w5.alloc X).alloc Y).cell? ⟨A1g, j * 4, none⟩ = some (.int .i64 x.tick) := fun X Y => y X Y 0 _ rfl
                have y2 : ∀ X Y, ((w5.alloc X).alloc Y).cell? ⟨A1g, j * 4 + 1, none⟩ = some (.string x.key) := fun X Y => y X Y 1 _ rfl
                have y3 : ∀ X Y, ((w5.alloc X).alloc Y).cell? ⟨A1g, j * 4 + 2, none⟩ = some (.int .i64 x.cost) := fun X Y => y X Y 2 _ rfl
                have y4 : ∀ X Y, ((w5.alloc X).alloc Y).cell? ⟨A1g, j * 4 + 3, none⟩ = some (.int .i64 x.verdict) := fun X Y => y X Y 3 _ rfl
                have ho : ∀ X Y k, OwnC (fun b => blk A5 = some b) w2.heap.size w2 (((w5.alloc X).alloc Y).drewN k) p (putC (stC (polC P) (rs.take j)) x) := fun X Y k => o.below (below_drewN ((((Below.refl w5.heap.size w5).alloc (Nat.le_refl _) X).alloc (by simp) Y)) k) (Nat.le_refl _)
                have r5 : ∀ X Y k, Row (((w5.alloc X).alloc Y).drewN k) 5 A5 m5 k5 (nums .u8 (stB (polC P) rs)) := fun X Y k => (((HR5.out.keeps k5' (fun g hg => hg)).alloc X).alloc Y).drewN k
                have HO := Lib.hid (And.intro ho r5)
                clear hget o k5' hbel hbx y ho r5
                go_wp2_with fail
                go_quiet (fail)
                go_wp2
                go_roundg (i - j - 1)
                case measure => omega
                case rel =>
                  refine ⟨j + 1, at2, by go_num, rfl, by omega, ?_, by omega, ?_, HO.out.2 _ _ _⟩
                  · show (stB (polC P) (rs.take (j + 1))).length = at2
                    rw [HT.out.1, stB_snoc, List.length_append, hat.out, HT.out.2.2]
                    exact HT.out.2.1
                  · rw [HT.out.1, stC_snoc]
                    exact HO.out.1 _ _ _
            · obtain rfl : j = i := by omega
              have htake : rs.take j = rs := List.take_of_length_le (by rw [HR.out.2.2.2.1]; exact Nat.le_refl _)
              have hat' : at_ = m5 := by
                have h1 := hat.out
                rw [htake, HQ.out.1] at h1
                omega
              obtain rfl : at_ = ct := by omega
              have HO := Lib.hid o.bel
              clear o r5 hat hat' htake hsl hrem hw5
              go_wp2
              go_ret
              exact ⟨by simp, HB2.out.trans (HO.out.mono HB2.out.size)⟩
  · have hnew := fun w => recNew_no w P hok
    have hno := fun w A n c => written_no w P hok A n c
    clear hok
    go_enter Try.func15, Try.ntmps15
    go_upto_region 1 with fail
    clear hW2
    go_wp2_with fail
    refine aw.mono ?_
    rintro e w1 ⟨rfl, b1⟩
    have hl1 := (b1.block W.heap.size (by have := HX.out.2.1; omega)).trans HX.out.2.2
    have HL := Lib.hid (And.intro hl1 b1)
    clear aw b1 hl1
    go_wp2_with ((with_reducible refine at_list ?_); refine wpList_load_row rfl 23 (.tmp 3) rfl W.heap.size rfl 23 P.cells.toArray (0, 0) _ HL.out.1 Try.underlying23 rfl HZ.out ?_)
    refine (hno _ _ _ _).mono ?_
    rintro e w2 ⟨rfl, b2⟩
    have hl2 := (b2.block W.heap.size ((Array.getElem?_eq_some_iff.1 HL.out.1).1)).trans HL.out.1
    have HL2 := Lib.hid (And.intro hl2 (HL.out.2.trans (b2.mono HL.out.2.size)))
    clear hno b2 hl2
    go_wp2_with ((with_reducible refine at_list ?_); refine wpList_load_row rfl 23 (.tmp 3) rfl W.heap.size rfl 23 P.cells.toArray (0, 0) _ HL2.out.1 Try.underlying23 rfl HZ.out ?_)
    refine (hnew _).mono ?_
    rintro e w3 ⟨rfl, b3⟩
    have HB := Lib.hid b3
    clear hnew b3
    go_wp2
    go_ret
    exact ⟨rfl, HX.out.1.trans ((HL2.out.2.trans (HB.out.mono HL2.out.2.size)).mono (by have := HX.out.2.1; omega))⟩
end Go.Proofs.Ytipiohkpdkandaa
