/-
  The walk of the law RecordLater. Conditions: none.
-/
import Derived.Test.YtipiohkpdkandaaRecLtrP
namespace Go.Proofs.Ytipiohkpdkandaa
set_option linter.unusedVariables false
set_option linter.unusedSimpArgs false
open Go.RowKit

theorem RecsArg.below {W w : World} {A : Option Addr} {n c : Nat} {l : List Rec} (h : RecsArg W A n c l) (hb : Below W.heap.size W w) : RecsArg w A n c l :=
  ⟨h.len, fun i r hr => by
    obtain ⟨b, o, rfl, hc⟩ := h.cells i r hr
    exact ⟨b, o, rfl, fun j v hj => (hb.cell (p := ⟨b, o + (4 * i + j), none⟩) (World.block_lt_of_cell? W _ (hc j v hj))).trans (hc j v hj)⟩, h.keys, h.room, h.cap⟩

section
variable {P : Program} {ops : Array Oper} {rest : List Oper} {o : Oper} {a : Act} {Q : Exit → Act → World → Prop}
/-- 'append(v, y)': the box's block under another spelling. -/
theorem rowN_append1_at {W : World} {gb : Nat} (hgb : W.heap.size = gb) (hgd : o.guard = none) (s x : Operand) (t e : TypeId) (z : Value) (k bytes : Nat)
    (ho : o.op = .call { callee := .builtin .append, args := #[s, x], argTypes := #[t, t] })
    (ht : P.underlying t = some (.slice e)) (hinfo : (P.info? e).map (fun i => (i.zero, i.size, i.bytes)) = some (some z, k, bytes)) (hz : z.cells.size = k) (hb0 : 0 < bytes) (hk0 : 0 < k)
    (A : Option Addr) (n c : Nat) (xs : List Value) (box : Array Value) (hbs : box.size = k) (hs : a.eval s = .slice A n c) (hx : a.eval x = .slice (some ⟨gb, 0, none⟩) 1 1)
    (HO : RowN W e k A n c xs) (h1 : ∀ u ∈ box.toList, u.oneCell' = true) (hl : (n + 1) * bytes ≤ 140737488355328)
    (h : ∀ A1 c1 w1, RowN w1 e k A1 (n + 1) c1 (xs ++ box.toList) → Upd W w1 (fun j => blk A = some j) → (blk A1 = blk A ∨ ∃ b, blk A1 = some b ∧ W.heap.size ≤ b) → wpList P ops Q rest (a.put o.dst (.slice A1 (n + 1) c1)) w1) :
    wpList P ops Q (o :: rest) a (W.alloc (.cells box e)) := by
  subst hgb
  exact rowN_append1 hgd s x t e z k bytes ho ht hinfo hz hb0 hk0 A n c xs box hbs hs hx HO h1 hl h
end

set_option maxRecDepth 100000 in
set_option maxHeartbeats 8000000 in
theorem recordLater_walk (W : World) (P : Pol) (A : Option Addr) (n cp : Nat) (l : List Rec) (ra : RecsArg W A n cp l) (later : Int) (wc : (Lit.int .i64 later).wf = true) :
    Calls Try.prog 14 #[.agg P.cells.toArray, .slice A n cp, .int .i64 later] W fun e W' => e = .returned (.bool true) ∧ Below W.heap.size W W' := by
  have hcb : -9223372036854775808 ≤ later ∧ later ≤ 9223372036854775807 := by simpa [Lit.wf, IntKind.min, IntKind.max, IntKind.signed, IntKind.bits] using wc
  clear wc
  have hroom := ra.room
  have RA := Lib.hid ra
  have hll := Lib.hid ra.len
  clear ra
  obtain ⟨W2, hW2⟩ : ∃ W2, (W.alloc (.cells P.cells.toArray 23)) = W2 := ⟨_, rfl⟩
  have hb2 : Below W.heap.size W W2 := by rw [← hW2]; exact ((Below.refl _ _).alloc (Nat.le_refl _) _)
  have hz2 : W2.heap.size = W.heap.size + 1 := by rw [← hW2, alloc_size]
  have hx1 : W2.heap[W.heap.size]? = some (.cells P.cells.toArray 23 (0, 0)) := by rw [← hW2]; exact heap_alloc_new W _
  have HX := Lib.hid (And.intro hb2 (And.intro hz2 hx1))
  have aw := awake6_any W2
  clear hb2 hz2 hx1
  have hpsz : (Try.prog.info? 23).map (·.size) = some 10 := by kernel_rfl
  have HZ := Lib.hid hpsz
  clear hpsz
  by_cases hok : P.ok
  · have HOK := Lib.hid hok
    have HCI : Hid (CInv (polC P)) := by
      have h := hok.2.2.2.1
      exact CInv.new (by omega) (by omega)
    clear hok
    go_enter Try.func14, Try.ntmps14
    go_upto_region 1 with fail
    clear hW2
    go_wp2_with fail
    refine aw.mono ?_
    rintro e w1 ⟨rfl, b1⟩
    have hl1 := (b1.block W.heap.size (by have := HX.out.2.1; omega)).trans HX.out.2.2
    have hwr := written_yes w1 P HOK.out A n cp l (RA.out.below (HX.out.1.trans (b1.mono (by have := HX.out.2.1; omega))))
    have HL := Lib.hid (And.intro hl1 b1)
    clear aw b1 hl1
    go_wp2_with ((with_reducible refine at_list ?_); refine wpList_load_row rfl 23 (.tmp 3) rfl W.heap.size rfl 23 P.cells.toArray (0, 0) _ HL.out.1 Try.underlying23 rfl HZ.out ?_)
    refine hwr.mono ?_
    rintro e w2 ⟨A1, k1, A2, k2, vs, m, hm, rfl, r1, r2, hvs, hnew, b2⟩
    have hl2 := (b2.block W.heap.size ((Array.getElem?_eq_some_iff.1 HL.out.1).1)).trans HL.out.1
    have hml : m ≤ n := by have := accR_le l (polC P); have := hll.out; omega
    obtain ⟨rs, hrs⟩ : ∃ rs, accR (polC P) l = rs := ⟨_, rfl⟩
    rw [hrs] at hm r1 hvs
    have hokr : okAll (polC P) rs := by rw [← hrs]; exact accR_ok _ _
    have HL2 := Lib.hid hl2
    have HB2 : Hid (Below W.heap.size W w2) := HX.out.1.trans ((HL.out.2.trans (b2.mono HL.out.2.size)).mono (by have := HX.out.2.1; omega))
    have HR := Lib.hid (And.intro r1 (And.intro r2 (And.intro hvs (And.intro hm hokr))))
    clear hwr r1 r2 hvs hm hokr hrs hl2 b2 hnew HL
    by_cases hm0 : m = 0
    · subst hm0
      go_wp2
      go_ret
      exact ⟨by simp, HB2.out⟩
    · obtain ⟨m1, hm1⟩ : ∃ m1, m = m1 + 1 := ⟨m - 1, by omega⟩
      obtain ⟨A1g, hA1g⟩ := HR.out.1.some_of (by omega)
      obtain ⟨z, hz⟩ : ∃ z, rs[m1]? = some z := ⟨_, List.getElem?_eq_getElem (by rw [HR.out.2.2.2.1]; omega)⟩
      obtain ⟨ok1, zok, zt, _, _⟩ := mid_rec HR.out.2.2.2.2 hz
      obtain ⟨ztk, hztk⟩ : ∃ t, z.tick = t := ⟨_, rfl⟩
      have z0 := zok.t0
      have z1 := zok.t1
      rw [hztk] at z0 z1
      subst hA1g
      have czt : w2.cell? ⟨A1g, m1 * 4, none⟩ = some (.int .i64 ztk) := by have := HR.out.1.cell (recsV_get (j := 0) hz rfl); rwa [hztk] at this
      have hcase : (later < 0 ∧ ∃ u : Nat, IntKind.i64.wrap (later + 1) = later + 1 ∧ IntKind.i64.wrap (-(later + 1)) = (u : Int) ∧ (u : Int) ≤ 9223372036854775807) ∨ ∃ u : Nat, later = u ∧ (u : Int) ≤ 9223372036854775807 := by
        by_cases h : later < 0
        · refine .inl ⟨h, (-(later + 1)).toNat, IntWalk.i64_in _ (by omega), ?_, by omega⟩
          rw [IntWalk.i64_in _ (by omega)]
          omega
        · exact .inr ⟨later.toNat, by omega, by omega⟩
      obtain ⟨D, hD⟩ : ∃ D : Nat, (D : Int) = 1099511627776 - ztk + 1 := ⟨(1099511627776 - ztk + 1).toNat, by omega⟩
      have hw0 : IntKind.i64.wrap ((m : Int) - 1) = (m1 : Int) := by rw [IntWalk.i64_in _ (by omega)]; omega
      have hw1 : IntKind.i64.wrap (1099511627776 - ztk) = 1099511627776 - ztk := IntWalk.i64_in _ (by omega)
      have hw2 : IntKind.i64.wrap (1099511627776 - ztk + 1) = (D : Int) := by rw [IntWalk.i64_in _ (by omega)]; omega
      have hm0b : ((m : Int) == 0) = false := by
        have h : ¬ (m : Int) = 0 := by omega
        simpa using h
      have hm1m : m1 < m := by omega
      have hm1mi : (m1 : Int) < m := by omega
      have hD0 : (0 : Int) < D := by omega
      have hDn : (D : Int) ≤ 1099511627777 := by omega
      have hDD := Lib.hid hD
      have hlast : ∀ r ∈ rs, r.tick ≤ ztk := by
        have := okAll_last rs (polC P) z HR.out.2.2.2.2 (by rw [HR.out.2.2.2.1]; rw [show m - 1 = m1 by omega]; exact hz)
        intro r hr
        have := this r hr
        omega
      have HLA := Lib.hid hlast
      have HM1 := Lib.hid hm1
      clear hcb hD hlast hz ok1 zok zt hztk hm1 hm0
      rcases hcase with ⟨c1, u, cw1, cw2, hu⟩ | ⟨u, rfl, hu⟩
      all_goals
        obtain ⟨t, ht⟩ : ∃ t, u % D = t := ⟨_, rfl⟩
        have htD : t < D := by rw [← ht]; exact Nat.mod_lt u (by omega)
        have hrem : (u : Int) % (D : Int) = (t : Int) := by rw [← ht]; first | (exact (Int.natCast_emod u D).symm) | (push_cast; rfl)
        have HT := Lib.hid (later_rows HCI.out (t : Int) (by omega) rs HR.out.2.2.2.2 (fun r hr => by have := HLA.out r hr; have := hDD.out; omega))
        have htb : (t : Int) ≤ 1099511627776 := by omega
        have HREM := Lib.hid hrem
        clear ht hrem
        go_wp2_with fail
        rw [HREM.out]
        go_loopg [12, 13] m (fun gk v12 v13 wr => ∃ (i k4 : Nat) (A4 : Option Addr), v13 = .int .i64 i ∧ v12 = .slice A4 i k4 ∧ gk + i = m ∧ RowN wr 34 4 A4 i k4 (recsV ((rs.map (Rec.shift t)).take i)) ∧ (∀ g, blk A4 = some g → w2.heap.size ≤ g) ∧ Below w2.heap.size w2 wr)
        case atStart => exact ⟨0, 0, none, rfl, rfl, by omega, RowN.nil _ _ _, (fun g h => by cases h), Below.refl _ _⟩
        case round =>
          clear czt
          obtain ⟨i, k4, A4, rfl, rfl, hi, r4, hA4, bel⟩ := hrel
          by_cases him : i < m
          · have himi : (i : Int) < m := by omega
            obtain ⟨x, hx⟩ : ∃ x, rs[i]? = some x := ⟨_, List.getElem?_eq_getElem (by rw [HR.out.2.2.2.1]; exact him)⟩
            have xb := HLA.out x (List.mem_of_getElem? hx)
            have x0 := (mid_rec HR.out.2.2.2.2 hx).2.1.t0
            have hwx : IntKind.i64.wrap (x.tick + (t : Int)) = x.tick + (t : Int) := by have := hDD.out; exact IntWalk.i64_in _ (by omega)
            have y : ∀ (j : Nat) (v : Value), x.cells[j]? = some v → wr.cell? ⟨A1g, i * 4 + j, none⟩ = some v := fun j v hv => (bel.cell (p := ⟨A1g, i * 4 + j, none⟩) (HR.out.1.lt rfl)).trans (HR.out.1.cell (recsV_get hx hv))
            have y1 : wr.cell? ⟨A1g, i * 4, none⟩ = some (.int .i64 x.tick) := y 0 _ rfl
            have y2 : wr.cell? ⟨A1g, i * 4 + 1, none⟩ = some (.string x.key) := y 1 _ rfl
            have y3 : wr.cell? ⟨A1g, i * 4 + 2, none⟩ = some (.int .i64 x.cost) := y 2 _ rfl
            have y4 : wr.cell? ⟨A1g, i * 4 + 3, none⟩ = some (.int .i64 x.verdict) := y 3 _ rfl
            have HI := Lib.hid (And.intro (take_succ_get (l := rs.map (Rec.shift t)) (i := i) (x := x.shift t) (by rw [List.getElem?_map, hx]; rfl)) (And.intro hA4 bel))
            clear hx xb x0 y hA4 bel
            go_wp2_with (at_builtin; go_must (refine rowN_append1_at (by simp) rfl (.tmp 69) (.tmp 71) 24 34 (.agg #[.int .i64 0, .string ByteArray.empty, .int .i64 0, .int .i64 0]) 4 40 rfl Try.underlying24 infoRec rfl (by decide) (by decide) A4 i k4 (recsV ((rs.map (Rec.shift t)).take i)) #[.int .i64 (x.tick + t), .string x.key, .int .i64 x.cost, .int .i64 x.verdict] rfl rfl rfl (r4.alloc _) (recsV_oneCell (x.shift t)) (by omega) ?_))
            intro A5 k5 w5 a1 a2 a3
            have HZ4 := Lib.hid (And.intro a1 (And.intro a2 a3))
            clear a1 a2 a3 r4 y1 y2 y3 y4
            go_wp2
            go_roundg (m - i - 1)
            case measure => omega
            case rel =>
              refine ⟨i + 1, k5, A5, by go_num, by first | rfl | go_num, by omega, ?_, ?_, ?_⟩
              · rw [HI.out.1, recsV_snoc]; exact HZ4.out.1
              · intro g hg
                rcases HZ4.out.2.2 with e | ⟨b, e, hb⟩
                · exact HI.out.2.1 g (by rw [← e]; exact hg)
                · rw [e] at hg; injection hg with hg; have := HI.out.2.2.size; omega
              · exact HI.out.2.2.trans (((Upd.refl wr _).alloc _).trans HZ4.out.2.1 (fun b _ h => h) |>.below HI.out.2.2.size (fun b _ h => HI.out.2.1 b h))
          · obtain rfl : i = m := by omega
            have htk : (rs.map (Rec.shift t)).take i = rs.map (Rec.shift t) := List.take_of_length_le (by rw [List.length_map, HR.out.2.2.2.1]; exact Nat.le_refl _)
            rw [htk] at r4
            obtain ⟨ts, hts⟩ : ∃ ts, rs.map (Rec.shift t) = ts := ⟨_, rfl⟩
            rw [hts] at r4
            have htl : ts.length = i := by rw [← hts, List.length_map]; exact HR.out.2.2.2.1
            have hok2 : okAll (polC P) ts := by rw [← hts]; exact HT.out.1
            have hwr := written_yes wr P HOK.out A4 i k4 ts (r4.recsArg htl (fun r hr => by
              rw [← hts] at hr
              obtain ⟨q, hq, rfl⟩ := List.mem_map.1 hr
              obtain ⟨jq, hjq⟩ := List.getElem?_of_mem hq
              have := (mid_rec HR.out.2.2.2.2 hjq).2.1.key.2
              show q.key.size ≤ maxLen
              unfold maxLen; omega) (by omega))
            unfold WrittenIs at hwr
            rw [accR_all ts _ hok2] at hwr
            have hl3 := (bel.block W.heap.size ((Array.getElem?_eq_some_iff.1 HL2.out).1)).trans HL2.out
            have HL3 := Lib.hid hl3
            have HTS := Lib.hid (And.intro hts (And.intro htl bel))
            clear r4 htk hts htl hok2 hl3 hA4 bel
            go_wp2_with ((with_reducible refine at_list ?_); refine wpList_load_row rfl 23 (.tmp 3) rfl W.heap.size rfl 23 P.cells.toArray (0, 0) _ HL3.out Try.underlying23 rfl HZ.out ?_)
            refine hwr.mono ?_
            rintro e w5 ⟨B1, j1, B2, j2, us, m', hm', rfl, q1, q2, hus, hnew, b5⟩
            obtain rfl : i = m' := by have := HTS.out.2.1; omega
            have HQ := Lib.hid (And.intro q2 (And.intro hus b5))
            clear hwr q1 q2 hus hnew b5 hm'
            obtain ⟨A2g, hA2g⟩ : ∃ g, A2 = some ⟨g, 0, none⟩ := by
              rcases HR.out.2.1.form with ⟨_, h0, _⟩ | ⟨g, _, h0, _⟩
              · omega
              · exact ⟨g, h0⟩
            obtain ⟨B2g, hB2g⟩ : ∃ g, B2 = some ⟨g, 0, none⟩ := by
              rcases HQ.out.1.form with ⟨_, h0, _⟩ | ⟨g, _, h0, _⟩
              · omega
              · exact ⟨g, h0⟩
            subst hA2g hB2g
            have bw : Below w2.heap.size w2 w5 := HTS.out.2.2.trans (HQ.out.2.2.mono HTS.out.2.2.size)
            have hvl : vs.length = i := HR.out.2.1.len
            have hul : us.length = i := HQ.out.1.len
            have HBW := Lib.hid (And.intro bw (And.intro hvl hul))
            clear bw hvl hul
            go_wp2_with fail
            go_loopg [17] (i - 1) (fun gk v17 wr => ∃ j : Nat, v17 = .int .i64 j ∧ gk + j = i ∧ 1 ≤ j ∧ Below w5.heap.size w5 wr)
            case atStart => exact ⟨1, rfl, by omega, Nat.le_refl _, Below.refl _ _⟩
            case round =>
              obtain ⟨j, rfl, hj, hj1, b6⟩ := hrel
              by_cases hji : j < i
              · have hjii : (j : Int) < i := by omega
                obtain ⟨v, hv⟩ : ∃ v, vs[j]? = some v := ⟨_, List.getElem?_eq_getElem (by have := HBW.out.2.1; omega)⟩
                obtain ⟨u', hu'⟩ : ∃ u, us[j]? = some u := ⟨_, List.getElem?_eq_getElem (by have := HBW.out.2.2; omega)⟩
                obtain ⟨x, hx⟩ : ∃ x, rs[j]? = some x := ⟨_, List.getElem?_eq_getElem (by rw [HR.out.2.2.2.1]; exact hji)⟩
                have hbs := rowsB_get (c := polC P) hx
                have hbs2 := HT.out.2.1 j _ hj1 hbs
                rw [HTS.out.1] at hbs2
                obtain ⟨B, kB, rfl, rB⟩ := HR.out.2.2.1.2 j v _ hv hbs
                obtain ⟨C, kC, rfl, rC⟩ := HQ.out.2.1.2 j u' _ hu' hbs2
                have bb : Below w2.heap.size w2 wr := HBW.out.1.trans (b6.mono HBW.out.1.size)
                have t1 := fun k => row_text_any ((rB.block (fun g hg => bb.block g (rB.lt hg))).drewN k)
                have t2 := fun k => row_text_any ((rC.block (fun g hg => b6.block g (rC.lt hg))).drewN k)
                have y1 : wr.cell? ⟨A2g, j, none⟩ = some (.slice B (putB (stC (polC P) (List.take j rs)) x).length kB) := (bb.cell (p := ⟨A2g, j, none⟩) (HR.out.2.1.lt rfl)).trans (HR.out.2.1.cell hv)
                have y2 : wr.cell? ⟨B2g, j, none⟩ = some (.slice C (putB (stC (polC P) (List.take j rs)) x).length kC) := (b6.cell (p := ⟨B2g, j, none⟩) (HQ.out.1.lt rfl)).trans (HQ.out.1.cell hu')
                obtain ⟨mb, hmb⟩ : ∃ mb, (putB (stC (polC P) (List.take j rs)) x).length = mb := ⟨_, rfl⟩
                obtain ⟨K, hK⟩ : ∃ K, strOfNums (putB (stC (polC P) (List.take j rs)) x) = K := ⟨_, rfl⟩
                rw [hmb] at y1 y2
                simp only [hmb, hK] at t1 t2
                have hne := bytes_bne K
                have HB6 := Lib.hid b6
                clear hv hu' hx hbs hbs2 rB rC bb hmb hK b6
                go_wp2_with fail
                go_quiet (fail)
                go_wp2
                go_roundg (i - j - 1)
                case measure => omega
                case rel => exact ⟨j + 1, by go_num, by omega, by omega, below_drewN HB6.out _⟩
              · have hjii : (i : Int) ≤ j := by omega
                obtain ⟨v, hv⟩ : ∃ v, vs[0]? = some v := ⟨_, List.getElem?_eq_getElem (by have := HBW.out.2.1; omega)⟩
                obtain ⟨u', hu'⟩ : ∃ u, us[0]? = some u := ⟨_, List.getElem?_eq_getElem (by have := HBW.out.2.2; omega)⟩
                obtain ⟨a0, ha0⟩ : ∃ a, (rowsB (polC P) rs)[0]? = some a := ⟨_, List.getElem?_eq_getElem (by rw [rowsB_length, HR.out.2.2.2.1]; omega)⟩
                obtain ⟨b0, hb0⟩ : ∃ a, (rowsB (polC P) ts)[0]? = some a := ⟨_, List.getElem?_eq_getElem (by rw [rowsB_length, HTS.out.2.1]; omega)⟩
                have hle := HT.out.2.2 a0 b0 ha0 (by rw [HTS.out.1]; exact hb0)
                obtain ⟨B, kB, rfl, rB⟩ := HR.out.2.2.1.2 0 v _ hv ha0
                obtain ⟨C, kC, rfl, rC⟩ := HQ.out.2.1.2 0 u' _ hu' hb0
                have bb : Below w2.heap.size w2 wr := HBW.out.1.trans (b6.mono HBW.out.1.size)
                have y1 : wr.cell? ⟨A2g, 0, none⟩ = some (.slice B a0.length kB) := (bb.cell (p := ⟨A2g, 0, none⟩) (HR.out.2.1.lt rfl)).trans (HR.out.2.1.cell hv)
                have y2 : wr.cell? ⟨B2g, 0, none⟩ = some (.slice C b0.length kC) := (b6.cell (p := ⟨B2g, 0, none⟩) (HQ.out.1.lt rfl)).trans (HQ.out.1.cell hu')
                have hi0 : 0 < i := by omega
                have hlei : (a0.length : Int) ≤ (b0.length : Int) := by omega
                have HB6 := Lib.hid (HB2.out.trans ((HBW.out.1.trans (b6.mono HBW.out.1.size)).mono HB2.out.size))
                clear hv hu' ha0 hb0 rB rC bb b6 hle
                go_wp2_with fail
                go_quiet (fail)
                go_wp2
                go_ret
                exact ⟨by simp [hlei], below_drewN HB6.out _⟩
  · have hno := fun w A n c => written_no w P hok A n c
    clear hok
    go_enter Try.func14, Try.ntmps14
    go_upto_region 1 with fail
    clear hW2
    go_wp2_with fail
    refine aw.mono ?_
    rintro e w1 ⟨rfl, b1⟩
    have hl1 := (b1.block W.heap.size (by have := HX.out.2.1; omega)).trans HX.out.2.2
    have HL := Lib.hid (And.intro hl1 b1)
    clear aw b1 hl1
    go_wp2_with ((with_reducible refine at_list ?_); refine wpList_load_row rfl 23 (.tmp 3) rfl W.heap.size rfl 23 P.cells.toArray (0, 0) _ HL.out.1 Try.underlying23 rfl HZ.out ?_)
    refine (hno _ _ _ _).mono ?_
    rintro e w2 ⟨rfl, b2⟩
    have HB := Lib.hid b2
    clear hno b2
    go_wp2
    go_ret
    exact ⟨by simp, HX.out.1.trans ((HL.out.2.trans (HB.out.mono HL.out.2.size)).mono (by have := HX.out.2.1; omega))⟩
end Go.Proofs.Ytipiohkpdkandaa
