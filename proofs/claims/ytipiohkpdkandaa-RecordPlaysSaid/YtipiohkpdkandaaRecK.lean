/-
  The key of a record that is read: walk. Conditions: none.
-/
import Derived.Test.YtipiohkpdkandaaRecC
import Derived.Test.YtipiohkpdkandaaDictL
import Derived.Laws.BytesArg
namespace Go.Proofs.Ytipiohkpdkandaa
set_option linter.unusedVariables false
set_option linter.unusedSimpArgs false
open Go.RowKit

theorem results_tmp4 {fn : Func} {t u v x : Tmp} (h : fn.results = #[.tmp t, .tmp u, .tmp v, .tmp x]) (tmps : Array Value) (P : Program) (w : World) :
    (results fn tmps).run P w = .ok (.tuple #[tmps.getD t undef, tmps.getD u undef, tmps.getD v undef, tmps.getD x undef]) w := by
  simp [results, h]
theorem readF_nat {l : List Int} (hb : Bytes l) (a : Int) :
    (∃ e, (e == 0) = false ∧ (e != 0) = true ∧ e ≠ 0 ∧ readF l a = (0, 0, e)) ∨ ∃ (p q P1 : Nat), a = p ∧ q ≤ 4611686018427387903 ∧ p < P1 ∧ P1 ≤ l.length ∧ readF l a = ((q : Int), (P1 : Int), 0) := by
  rcases readF_cases hb a with ⟨e, h1, h2, h3⟩ | ⟨p, q, k, h1, h2, h3, h4, h5, h6, h7⟩
  · exact .inl ⟨e, h1, h2, by simpa using h1, h3⟩
  · exact .inr ⟨p, q, p + k, h1, h2, by omega, h5, by rw [h6]; simp⟩
/-- A slice of bytes that is read. -/
structure BytesIn (w : World) (A : Option Addr) (n cp : Nat) (l : List Int) : Prop where
  rd : Rd w A n (nums .u8 l)
  bytes : Bytes l
  cap : n ≤ cp
  max : n ≤ 140737488355328
theorem BytesIn.len {w : World} {A : Option Addr} {n cp : Nat} {l : List Int} (h : BytesIn w A n cp l) : l.length = n := by have := h.rd.len; rwa [nums_length] at this
theorem BytesIn.below {w w' : World} {A : Option Addr} {n cp : Nat} {l : List Int} (h : BytesIn w A n cp l) (hb : Below w.heap.size w w') : BytesIn w' A n cp l := ⟨h.rd.below hb (Nat.le_refl _), h.bytes, h.cap, h.max⟩
/-- 'string(b[lo:hi])' -/
theorem BytesIn.text {w : World} {A : Option Addr} {n cp lo m hi : Nat} {l : List Int} (h : BytesIn w A n cp l) (hm : 1 ≤ m) (he : lo + m = hi) (hhi : hi ≤ n) :
    ∃ A', (∀ w', (Instr.slice 25 (.slice A n cp) (some (.int .i64 lo)) (some (.int .i64 (hi : Int))) none).run Try.prog w' = .ok (.slice A' m (cp - lo)) w') ∧
      (convert 25 9 (.slice A' m (cp - lo))).run Try.prog w = .ok (.string (strOfNums ((l.drop lo).take m))) w := by
  subst he
  have hl := h.len
  have hcp := h.cap
  obtain ⟨A', h1, h2⟩ := run_sub_lh (P := Try.prog) (t := 25) Try.underlying25 (by kernel_rfl) A n cp lo (lo + m) (by omega) (by omega)
  rw [Nat.add_sub_cancel_left] at h1
  obtain ⟨b, o, rfl, hc⟩ := h.rd.form (by omega)
  have hA := h2 (by omega)
  refine ⟨A', h1, ?_⟩
  rw [hA]
  have e : (Option.map (fun x => x.add lo) (some (⟨b, o, none⟩ : Addr))) = some ⟨b, o + lo, none⟩ := by simp [Addr.add]
  rw [e]
  refine run_convert_bytes_arg (P := Try.prog) w 25 5 Try.underlying25 Try.underlying5 b (o + lo) m (cp - lo) _ (by simp; omega) (fun i hi => ?_) 9 Try.underlying9
  rw [Nat.add_assoc]
  refine hc (lo + i) _ ?_
  rw [nums_get, List.getElem?_eq_getElem (show lo + i < l.length by omega)]
  simp [List.getD_eq_getElem?_getD, hi, List.getElem?_eq_getElem (show lo + i < l.length by omega)]

def KeyPost (w : World) (p : Nat) (c : CC) (K : DD × ByteArray × Int × Int × Int) (S : Nat → Prop) (e : Ending) (w' : World) : Prop :=
  ∃ S', e = .returned (.tuple #[.string K.2.1, .int .i64 K.2.2.1, .int .i64 K.2.2.2.1, .int .i64 K.2.2.2.2]) ∧ CoderAt w' p ⟨K.1, c.tick, c.cost⟩ S' ∧ Upd w w' S ∧ ∀ b, S' b → S b ∨ w.heap.size ≤ b
theorem keyPost_bad {w : World} {p : Nat} {c : CC} {S : Nat → Prop} (h : CoderAt w p c S) {K : DD × ByteArray × Int × Int × Int} {x e : Int} (hK : K = (c.d, ByteArray.empty, 0, x, e)) :
    KeyPost w p c K S (.returned (.tuple #[.string ByteArray.empty, .int .i64 0, .int .i64 x, .int .i64 e])) w := by
  subst hK
  exact ⟨S, rfl, h, Upd.refl _ _, fun b hb => .inl hb⟩

theorem touch_no' {w : World} {q : Nat} {d : DD} {T : Nat → Prop} (h : DictAt w q d T) {s : Int} (hs : s < 0 ∨ (d.keys.length : Int) ≤ s) :
    Calls Try.prog 30 #[.pointer (some ⟨q, 0, none⟩), .int .i64 s] w fun e w' => e = .returned (.tuple #[.string ByteArray.empty, .int .i64 50]) ∧ w = w' := by
  obtain ⟨M, K, O, n, ck, co, hB, _⟩ := h
  exact touch_no hB s (by have := hB.len; omega)
/-- the dictionary of a coder has turned -/
theorem CoderB.turned {w w' : World} {p q : Nat} {c : CC} {T T' : Nat → Prop} (h : CoderB w p q c T) {d : DD} (hd : DictAt w' q d T') (hu : Upd w w' T) (hn : ∀ b, T' b → T b ∨ w.heap.size ≤ b) : CoderB w' p q ⟨d, c.tick, c.cost⟩ T' :=
  ⟨(hu.block p h.lt h.apart).trans h.head, hd, fun hp => by
    rcases hn p hp with hh | hh
    · exact h.apart hh
    · have := h.lt; omega, ⟨hd.inv, h.inv.t0, h.inv.t1, h.inv.c0, h.inv.c1⟩⟩
theorem keyPost_ok {w w' : World} {p q : Nat} {c : CC} {S T T' : Nat → Prop} (h : CoderB w p q c T) (hS : ∀ b, S b ↔ b = p ∨ T b) {K : DD × ByteArray × Int × Int × Int} {d : DD} {k : ByteArray} {tt : Int} (hK : K = (d, k, tt, 0, 0))
    (hd : DictAt w' q d T') (hu : Upd w w' T) (hn : ∀ b, T' b → T b ∨ w.heap.size ≤ b) : KeyPost w p c K S (.returned (.tuple #[.string k, .int .i64 tt, .int .i64 0, .int .i64 0])) w' := by
  subst hK
  refine ⟨fun b => b = p ∨ T' b, rfl, ⟨q, T', h.turned hd hu hn, fun b => Iff.rfl⟩, hu.mono (fun b _ hb => (hS b).2 (.inr hb)), ?_⟩
  rintro b (rfl | hb)
  · exact .inl ((hS b).2 (.inl rfl))
  · exact (hn b hb).imp (fun h => (hS b).2 (.inr h)) id
set_option maxRecDepth 100000 in
set_option maxHeartbeats 4000000 in
theorem key_any {w : World} {p : Nat} {c : CC} {S : Nat → Prop} (h : CoderAt w p c S) {A : Option Addr} {n cp : Nat} {l : List Int} (hb : BytesIn w A n cp l) (a : Int) :
    Calls Try.prog 51 #[.pointer (some ⟨p, 0, none⟩), .slice A n cp, .int .i64 a] w (KeyPost w p c (keyF c.d l a) S) := by
  have hln := hb.len
  have hread := fun a => read_any A n cp l a w hb.rd hb.bytes hb.max
  have r1 := hread a
  have hbad := fun {K : DD × ByteArray × Int × Int × Int} {x e : Int} => keyPost_bad (K := K) (x := x) (e := e) h
  rcases readF_nat hb.bytes a with ⟨e1, he1, he2, he3, hr1⟩ | ⟨pp, q1, P1, rfl, hq1, hp1, hP1, hr1⟩
  · have hK : keyF c.d l a = (c.d, ByteArray.empty, 0, a, e1) := by unfold keyF; rw [hr1]; simp [he3]
    rw [hr1] at r1
    have HE := Lib.hid (hbad hK)
    clear hread hbad hr1 hK h hb he3 hln
    go_enter Try.func51, Try.ntmps51
    go_wp2_with fail
    refine r1.mono ?_
    rintro e w1 ⟨rfl, rfl⟩
    clear r1
    go_wp2
    try simp only [Exit.inBlock, Exit.then]
    refine bodyPost_ret (results_tmp4 rfl _ _ _) rfl ?_
    exact HE.out
  · obtain ⟨q, T, hB, hS⟩ := h
    have d0 := hB.c0
    have hokp := fun {w' : World} {T' : Nat → Prop} {d : DD} {k : ByteArray} {tt : Int} => keyPost_ok (w' := w') (T' := T') (K := keyF c.d l pp) (d := d) (k := k) (tt := tt) hB hS
    have hbad := fun {K : DD × ByteArray × Int × Int × Int} {x e : Int} => keyPost_bad (K := K) (x := x) (e := e) (⟨q, T, hB, hS⟩ : CoderAt w p c S)
    rw [hr1] at r1
    by_cases hq : 0 < q1
    · have hqi : (0 : Int) < q1 := by omega
      have hm1 : IntKind.i64.wrap ((q1 : Int) - 1) = ((q1 - 1 : Nat) : Int) := by rw [show (q1 : Int) - 1 = ((q1 - 1 : Nat) : Int) by omega]; exact IntWalk.i64_in _ (by omega)
      have htouch := touch_all hB.dict ((q1 - 1 : Nat) : Int)
      unfold TouchAll at htouch
      by_cases hs : q1 - 1 < c.d.keys.length
      · obtain ⟨k, hk⟩ : ∃ k, c.d.keys[q1 - 1]? = some k := ⟨_, List.getElem?_eq_getElem hs⟩
        have htg : touchG c.d ((q1 - 1 : Nat) : Int) = (touchF c.d (q1 - 1), k, 0) := by
          unfold touchG
          rw [if_pos (by omega)]
          simp [hk]
        have hK : keyF c.d l pp = (touchF c.d (q1 - 1), k, (P1 : Int), 0, 0) := by
          unfold keyF
          rw [hr1]
          simp only [ne_eq, not_true_eq_false, if_false]
          rw [if_pos (by omega), show (q1 : Int) - 1 = ((q1 - 1 : Nat) : Int) by omega, htg]
          simp
        rw [htg] at htouch
        have HE := Lib.hid (fun w' h1 h2 => hokp (w' := w') (T' := T) hK h1 h2 (fun b hb => .inl hb))
        clear hread hbad hokp hr1 hK hb hln hB hS hs hk htg
        go_enter Try.func51, Try.ntmps51
        go_wp2_with fail
        refine r1.mono ?_
        rintro e w1 ⟨rfl, rfl⟩
        clear r1
        go_wp2_with fail
        refine htouch.mono ?_
        rintro e w1 ⟨rfl, h1, h2⟩
        have HH := Lib.hid (HE.out w1 h1 h2)
        clear htouch h1 h2 HE
        go_wp2
        try simp only [Exit.inBlock, Exit.then]
        refine bodyPost_ret (results_tmp4 rfl _ _ _) rfl ?_
        exact HH.out
      · have htg : touchG c.d ((q1 - 1 : Nat) : Int) = (c.d, ByteArray.empty, 50) := by unfold touchG; rw [if_neg (by omega)]
        have hK : keyF c.d l pp = (c.d, ByteArray.empty, 0, (pp : Int), 64) := by
          unfold keyF
          rw [hr1]
          simp only [ne_eq, not_true_eq_false, if_false]
          rw [if_pos (by omega), show (q1 : Int) - 1 = ((q1 - 1 : Nat) : Int) by omega, htg]
          simp
        have hno := touch_no' hB.dict (s := ((q1 - 1 : Nat) : Int)) (by omega)
        have HE := Lib.hid (hbad hK)
        clear hread hbad hokp hr1 hK hb hln hB hS hs htg htouch
        go_enter Try.func51, Try.ntmps51
        go_wp2_with fail
        refine r1.mono ?_
        rintro e w1 ⟨rfl, rfl⟩
        clear r1
        go_wp2_with fail
        refine hno.mono ?_
        rintro e w1 ⟨rfl, rfl⟩
        clear hno
        go_wp2
        try simp only [Exit.inBlock, Exit.then]
        refine bodyPost_ret (results_tmp4 rfl _ _ _) rfl ?_
        exact HE.out
    · obtain rfl : q1 = 0 := by omega
      have r2 := hread (P1 : Int)
      have hstep : keyF c.d l pp = (if (readF l (P1 : Int)).2.2 ≠ 0 then (c.d, ByteArray.empty, 0, (P1 : Int), (readF l (P1 : Int)).2.2)
          else if ¬ (1 ≤ (readF l (P1 : Int)).1 ∧ (readF l (P1 : Int)).1 ≤ 64) then (c.d, ByteArray.empty, 0, (P1 : Int), 61)
          else if (l.length : Int) - (readF l (P1 : Int)).2.1 < (readF l (P1 : Int)).1 then (c.d, ByteArray.empty, 0, (readF l (P1 : Int)).2.1, 10)
          else if 0 ≤ lookF c.d (strOfNums ((l.drop (readF l (P1 : Int)).2.1.toNat).take (readF l (P1 : Int)).1.toNat)) then (c.d, ByteArray.empty, 0, (readF l (P1 : Int)).2.1, 64)
          else ((useG c.d (strOfNums ((l.drop (readF l (P1 : Int)).2.1.toNat).take (readF l (P1 : Int)).1.toNat))).1, strOfNums ((l.drop (readF l (P1 : Int)).2.1.toNat).take (readF l (P1 : Int)).1.toNat), (readF l (P1 : Int)).2.1 + (readF l (P1 : Int)).1, 0, 0)) := by
        unfold keyF
        rw [hr1]
        simp only [ne_eq, not_true_eq_false, if_false]
        rw [if_neg (by omega)]
      rcases readF_nat hb.bytes (P1 : Int) with ⟨e1, he1, he2, he3, hr2⟩ | ⟨pp2, q2, P2, hpp2, hq2, hp2, hP2, hr2⟩
      · rw [hr2, if_pos he3] at hstep
        rw [hr2] at r2
        have HE := Lib.hid (hbad hstep)
        clear hread hbad hokp hr1 hr2 hstep hb hln hB hS d0 he3
        go_enter Try.func51, Try.ntmps51
        go_wp2_with fail
        refine r1.mono ?_
        rintro e w1 ⟨rfl, rfl⟩
        clear r1
        go_wp2_with fail
        refine r2.mono ?_
        rintro e w1 ⟨rfl, rfl⟩
        clear r2
        go_wp2
        try simp only [Exit.inBlock, Exit.then]
        refine bodyPost_ret (results_tmp4 rfl _ _ _) rfl ?_
        exact HE.out
      · obtain rfl : P1 = pp2 := by omega
        clear hpp2
        rw [hr2] at hstep r2
        simp only [ne_eq, not_true_eq_false, if_false] at hstep
        by_cases hsz : 1 ≤ q2 ∧ q2 ≤ 64
        · rw [if_neg (by omega)] at hstep
          have hmay := fun w => mayKey_yes (q2 : Int) w (by omega) (by omega)
          have hwn : IntKind.i64.wrap ((n : Int) - P2) = (n : Int) - P2 := IntWalk.i64_in _ (by have := hb.max; omega)
          by_cases hlen : n < P2 + q2
          · rw [if_pos (by omega)] at hstep
            have hlti : (n : Int) - P2 < q2 := by omega
            have hlei : (P2 : Int) ≤ n := by omega
            have HE := Lib.hid (hbad hstep)
            clear hread hbad hokp hr1 hr2 hstep hb hB hS d0 hsz hlen
            go_enter Try.func51, Try.ntmps51
            go_wp2_with fail
            refine r1.mono ?_
            rintro e w1 ⟨rfl, rfl⟩
            clear r1
            go_wp2_with fail
            refine r2.mono ?_
            rintro e w1 ⟨rfl, rfl⟩
            clear r2
            go_wp2_with (go_at_call 52; refine (hmay _).mono ?_; rintro e w1 ⟨rfl, rfl⟩)
            try simp only [Exit.inBlock, Exit.then]
            refine bodyPost_ret (results_tmp4 rfl _ _ _) rfl ?_
            exact HE.out
          · rw [if_neg (by omega), show ((P2 : Int)).toNat = P2 by omega, show ((q2 : Int)).toNat = q2 by omega] at hstep
            obtain ⟨P3, hP3⟩ : ∃ P3, P2 + q2 = P3 := ⟨_, rfl⟩
            obtain ⟨A', t1, t2⟩ := hb.text (lo := P2) (m := q2) hsz.1 hP3 (by omega)
            obtain ⟨K, hK⟩ : ∃ K, strOfNums ((l.drop P2).take q2) = K := ⟨_, rfl⟩
            have hKs : K.size = q2 := by rw [← hK, strOfNums_size]; simp; omega
            rw [hK] at hstep t2
            rw [show (P2 : Int) + q2 = (P3 : Int) by omega] at hstep
            have hw : IntKind.i64.wrap ((P2 : Int) + q2) = (P3 : Int) := by rw [show (P2 : Int) + q2 = (P3 : Int) by omega]; exact IntWalk.i64_in _ (by have := hb.max; omega)
            have hgei : (q2 : Int) ≤ (n : Int) - P2 := by omega
            have hlei : (P2 : Int) ≤ n := by omega
            have hKm : K.size ≤ maxLen := by simp only [maxLen]; omega
            have hlook := look_any hB.dict K hKm
            have huse := use_all hB.dict K hKm
            unfold UseAll at huse
            by_cases hlk : 0 ≤ lookF c.d K
            · rw [if_pos hlk] at hstep
              have HE := Lib.hid (hbad hstep)
              obtain ⟨v, hv⟩ : ∃ v, lookF c.d K = v := ⟨_, rfl⟩
              rw [hv] at hlook hlk
              clear hread hbad hokp hr1 hr2 hstep hb hB hS hsz hlen hP3 hK hKs hKm hv huse
              go_enter Try.func51, Try.ntmps51
              go_wp2_with fail
              refine r1.mono ?_
              rintro e w1 ⟨rfl, rfl⟩
              clear r1
              go_wp2_with fail
              refine r2.mono ?_
              rintro e w1 ⟨rfl, rfl⟩
              clear r2
              go_wp2_with (first
                | (go_at_call 52; refine (hmay _).mono ?_; rintro e w1 ⟨rfl, rfl⟩)
                | (go_at_call 25; refine hlook.mono ?_; rintro e w1 ⟨rfl, rfl⟩))
              try simp only [Exit.inBlock, Exit.then]
              refine bodyPost_ret (results_tmp4 rfl _ _ _) rfl ?_
              exact HE.out
            · rw [if_neg hlk] at hstep
              have HE := Lib.hid (fun w' T' h1 h2 h3 => hokp (w' := w') (T' := T') hstep h1 h2 h3)
              obtain ⟨v, hv⟩ : ∃ v, lookF c.d K = v := ⟨_, rfl⟩
              rw [hv] at hlook hlk
              have hlk2 : v < 0 := by omega
              clear hread hbad hokp hr1 hr2 hstep hb hB hS hsz hlen hP3 hK hKs hKm hv hlk
              go_enter Try.func51, Try.ntmps51
              go_wp2_with fail
              refine r1.mono ?_
              rintro e w1 ⟨rfl, rfl⟩
              clear r1
              go_wp2_with fail
              refine r2.mono ?_
              rintro e w1 ⟨rfl, rfl⟩
              clear r2
              go_wp2_with (first
                | (go_at_call 52; refine (hmay _).mono ?_; rintro e w1 ⟨rfl, rfl⟩)
                | (go_at_call 25; refine hlook.mono ?_; rintro e w1 ⟨rfl, rfl⟩)
                | (go_at_call 26; refine huse.mono ?_; rintro e w2 ⟨T', rfl, h1, h2, h3⟩))
              try simp only [Exit.inBlock, Exit.then]
              refine bodyPost_ret (results_tmp4 rfl _ _ _) rfl ?_
              exact HE.out w2 T' h1 h2 h3
        · rw [if_pos (by omega)] at hstep
          have hmay := fun w => mayKey_no (q2 : Int) w (by omega)
          have HE := Lib.hid (hbad hstep)
          clear hread hbad hokp hr1 hr2 hstep hb hln hB hS d0 hsz
          go_enter Try.func51, Try.ntmps51
          go_wp2_with fail
          refine r1.mono ?_
          rintro e w1 ⟨rfl, rfl⟩
          clear r1
          go_wp2_with fail
          refine r2.mono ?_
          rintro e w1 ⟨rfl, rfl⟩
          clear r2
          go_wp2_with (go_at_call 52; refine (hmay _).mono ?_; rintro e w1 ⟨rfl, rfl⟩)
          try simp only [Exit.inBlock, Exit.then]
          refine bodyPost_ret (results_tmp4 rfl _ _ _) rfl ?_
          exact HE.out
end Go.Proofs.Ytipiohkpdkandaa
