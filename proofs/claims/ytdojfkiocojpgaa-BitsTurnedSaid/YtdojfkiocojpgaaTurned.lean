/-
  The walk of the law BitsTurned. Conditions: none.
-/
import Derived.Test.YtdojfkiocojpgaaForm
namespace Go.Proofs.Ytdojfkiocojpgaa
set_option linter.unusedVariables false
set_option linter.unusedSimpArgs false
open Go.RowKit

/-- A number's bytes, one of them turned: read as another number, or as none. -/
theorem turned {q : Nat} (hq : q ≤ 4611686018427387903) {k : Nat} (hk : k < (digs q).length) {x t : Int} (hx : (digs q)[k]? = some x) (ht : 0 ≤ t ∧ t ≤ 255) (hne : x ≠ t) :
    (∃ e, (e != 0) = true ∧ readF ((digs q).set k t) 0 = (0, 0, e)) ∨ ∃ m b, (m == (q : Int)) = false ∧ (m != (q : Int)) = true ∧ readF ((digs q).set k t) 0 = (m, b, 0) := by
  have hb : Bytes ((digs q).set k t) := by
    intro y hy
    rcases List.mem_or_eq_of_mem_set hy with h | rfl
    · exact digs_bytes q q (Nat.le_refl _) y h
    · exact ht
  rcases readF_cases hb 0 with ⟨e, _, h2, h3⟩ | ⟨p, m, j, hp, hm, hj, hj1, hpj, he, hd⟩
  · exact .inl ⟨e, h2, h3⟩
  · right
    obtain rfl : p = 0 := by omega
    have hmq : m ≠ q := by
      rintro rfl
      rw [List.drop_zero, List.take_of_length_le (by simp; omega)] at hd
      have := congrArg (fun l => l[k]?) hd
      simp only [List.getElem?_set_self hk, hx] at this
      exact hne (Option.some.inj this).symm
    exact ⟨m, _, by simp; omega, by simp; omega, he⟩

set_option maxRecDepth 100000 in
set_option maxHeartbeats 8000000 in
theorem bitsTurned_walk (W : World) (n : Int) (_w0 : (Lit.int .i64 n).wf = true) (a : Int) (w1 : (Lit.int .i64 a).wf = true) (t : Int) (w2 : (Lit.int .u8 t).wf = true) :
    Calls Try.prog 10 #[.int .i64 n, .int .i64 a, .int .u8 t] W fun e W' => e = .returned (.bool true) ∧ Below W.heap.size W W' := by
  have aw := awake_any W
  have ht := wf_u8_bd w2
  have ha : -9223372036854775808 ≤ a ∧ a ≤ 9223372036854775807 := by simpa [Lit.wf, IntKind.min, IntKind.max, IntKind.signed, IntKind.bits] using w1
  clear w1 w2 _w0
  by_cases hn : n < 0 ∨ 4611686018427387903 < n
  · have hnum := fun w => number_no n w hn
    clear hn
    go_enter Try.func10, Try.ntmps10
    go_wp2_with fail
    refine aw.mono ?_
    rintro e w1 ⟨rfl, hb⟩
    clear aw
    go_wp2_with fail
    refine (hnum _).mono ?_
    rintro e w2 ⟨rfl, rfl⟩
    clear hnum
    go_wp2
    go_ret
    exact ⟨rfl, hb⟩
  · obtain ⟨q, rfl⟩ := Int.eq_ofNat_of_zero_le (show 0 ≤ n by omega)
    have hq : q ≤ 4611686018427387903 := by omega
    have hnum := fun w => number_yes q w hq
    have hl := digs_len9 hq
    obtain ⟨len, hlen⟩ : ∃ len, len = (digs q).length := ⟨_, rfl⟩
    obtain ⟨a', ha'⟩ : ∃ a' : Int, a' = if a < 0 then -(a + 1) else a := ⟨_, rfl⟩
    have ha0 : 0 ≤ a' := by rw [ha']; split <;> omega
    obtain ⟨k, hk⟩ := Int.eq_ofNat_of_zero_le (show 0 ≤ a' % len from Int.emod_nonneg _ (by omega))
    have hkl : k < len := by have := Int.emod_lt_of_pos a' (show (0 : Int) < len by omega); omega
    obtain ⟨x, hx⟩ : ∃ x, (digs q)[k]? = some x := ⟨_, List.getElem?_eq_getElem (by omega)⟩
    have hread : ∀ A c w, Row w 5 A len c (nums .u8 ((digs q).set k t)) → Calls Try.prog 18 #[.slice A len c, .int .i64 0] w fun e w' => e = .returned (.tuple #[.int .i64 (readF ((digs q).set k t) 0).1, .int .i64 (readF ((digs q).set k t) 0).2.1, .int .i64 (readF ((digs q).set k t) 0).2.2]) ∧ w = w' := by
      intro A c w h
      refine read_any A len c _ 0 w h.rd ?_ (by omega)
      intro y hy
      rcases List.mem_or_eq_of_mem_set hy with h | rfl
      · exact digs_bytes q q (Nat.le_refl _) y h
      · exact ht
    have key : (x == t) = true ∧ readF ((digs q).set k t) 0 = ((q : Int), (len : Int), 0) ∨ (x == t) = false ∧ ((∃ e, (e != 0) = true ∧ readF ((digs q).set k t) 0 = (0, 0, e)) ∨ ∃ m b, (m == (q : Int)) = false ∧ (m != (q : Int)) = true ∧ readF ((digs q).set k t) 0 = (m, b, 0)) := by
      by_cases hxt : x = t
      · left
        refine ⟨by simpa using hxt, ?_⟩
        subst hxt
        obtain ⟨h1, h2⟩ := List.getElem?_eq_some_iff.1 hx
        rw [← h2, List.set_getElem_self]
        have := readF_digs hq [] []
        simpa [← hlen] using this
      · exact .inr ⟨by simpa using hxt, turned hq (by omega) hx ht hxt⟩
    have hx' := Lib.hid hx
    have hlen' := Lib.hid hlen
    rw [← hlen] at hl
    have HL := Lib.hid hl
    have hl1 : 1 ≤ len := hl.1
    have hl9 : len ≤ 9 := hl.2
    have hl0 : ((len : Int) == 0) = false := by simp; omega
    clear hx hq hn hl hlen
    by_cases hneg : a < 0
    · have hk' : (a + 1).tmod (len : Int) = -(k : Int) := by
        rw [← hk, ha', if_pos hneg, ← Int.tmod_eq_emod_of_nonneg (by omega), Int.neg_tmod, Int.neg_neg]
      have ha0' : 0 ≤ -(a + 1) := by omega
      clear ha' hk ha0
      rcases key with ⟨hxt, he⟩ | ⟨hxt, ⟨e, h1, he⟩ | ⟨m, b, h1, h2, he⟩⟩
      all_goals simp only [he] at hread
      all_goals
        clear he
        go_enter Try.func10, Try.ntmps10
        go_wp2_with fail
        refine aw.mono ?_
        rintro e w1 ⟨rfl, hb⟩
        clear aw
        go_wp2_with fail
        refine (hnum _).mono ?_
        rintro e w2 ⟨A2, c2, rfl, r2, r3, r4⟩
        clear hnum
        rw [← hlen'.out] at *
        obtain ⟨g, rfl⟩ : ∃ g, A2 = some ⟨g, 0, none⟩ := by
          rcases r2.form with ⟨_, h, _⟩ | ⟨g, _, rfl, _⟩
          · omega
          · exact ⟨g, rfl⟩
        have hg := r3 g rfl
        have hc := r2.cell (i := k) (u := .int .u8 x) (by rw [nums_get, hx'.out]; rfl)
        have hf := r2.free k
        have hst := r2.store k (.int .u8 t)
        rw [show (nums .u8 (digs q)).set k (.int .u8 t) = nums .u8 ((digs q).set k t) by simp [nums, List.map_set]] at hst
        have hcall := hread _ c2 _ hst
        have hfin : Below W.heap.size W (w2.setCell ⟨g, k, none⟩ (.int .u8 t)) := (hb.trans (r4.mono hb.size)).setCell (by have := hb.size; show _ ≤ g; omega) _
        have HF := Lib.hid hfin
        clear hst r2 r3 r4 hb hread hfin hg
        go_wp2_with fail
        refine hcall.mono ?_
        rintro e w3 ⟨rfl, rfl⟩
        clear hcall
        go_wp2
        go_ret
        exact ⟨by simp [*], HF.out⟩
    · have hk' : a % (len : Int) = k := by rw [← hk, ha', if_neg hneg]
      have ha0' : 0 ≤ a := by omega
      clear ha' hk ha0
      rcases key with ⟨hxt, he⟩ | ⟨hxt, ⟨e, h1, he⟩ | ⟨m, b, h1, h2, he⟩⟩
      all_goals simp only [he] at hread
      all_goals
        clear he
        go_enter Try.func10, Try.ntmps10
        go_wp2_with fail
        refine aw.mono ?_
        rintro e w1 ⟨rfl, hb⟩
        clear aw
        go_wp2_with fail
        refine (hnum _).mono ?_
        rintro e w2 ⟨A2, c2, rfl, r2, r3, r4⟩
        clear hnum
        rw [← hlen'.out] at *
        obtain ⟨g, rfl⟩ : ∃ g, A2 = some ⟨g, 0, none⟩ := by
          rcases r2.form with ⟨_, h, _⟩ | ⟨g, _, rfl, _⟩
          · omega
          · exact ⟨g, rfl⟩
        have hg := r3 g rfl
        have hc := r2.cell (i := k) (u := .int .u8 x) (by rw [nums_get, hx'.out]; rfl)
        have hf := r2.free k
        have hst := r2.store k (.int .u8 t)
        rw [show (nums .u8 (digs q)).set k (.int .u8 t) = nums .u8 ((digs q).set k t) by simp [nums, List.map_set]] at hst
        have hcall := hread _ c2 _ hst
        have hfin : Below W.heap.size W (w2.setCell ⟨g, k, none⟩ (.int .u8 t)) := (hb.trans (r4.mono hb.size)).setCell (by have := hb.size; show _ ≤ g; omega) _
        have HF := Lib.hid hfin
        clear hst r2 r3 r4 hb hread hfin hg
        go_wp2_with fail
        refine hcall.mono ?_
        rintro e w3 ⟨rfl, rfl⟩
        clear hcall
        go_wp2
        go_ret
        exact ⟨by simp [*], HF.out⟩
end Go.Proofs.Ytdojfkiocojpgaa
