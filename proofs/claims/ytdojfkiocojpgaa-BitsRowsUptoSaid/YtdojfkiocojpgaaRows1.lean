/-
  The walk of the law BitsRows. Conditions: what is handed in is no longer than a million numbers.
-/
import Derived.Test.YtdojfkiocojpgaaBack
namespace Go.Proofs.Ytdojfkiocojpgaa
set_option linter.unusedVariables false
set_option linter.unusedSimpArgs false
open Go.RowKit

def okNum (x : Int) : Bool := decide (0 ≤ x ∧ x ≤ 4611686018427387903)
/-- the bytes of numbers, one behind another -/
def flat (p : List Int) : List Int := p.flatMap fun x => digs x.toNat
theorem flat_append (p q : List Int) : flat (p ++ q) = flat p ++ flat q := by simp [flat]
theorem flat_one (x : Int) : flat [x] = digs x.toNat := by simp [flat]
theorem flat_one' (q : Nat) : flat [(q : Int)] = digs q := by rw [flat_one]; simp
theorem flat_cons (x : Int) (q : List Int) : flat (x :: q) = digs x.toNat ++ flat q := by simp [flat]
theorem flat_bytes (p : List Int) : Bytes (flat p) := by
  intro x hx
  obtain ⟨y, _, h⟩ := List.mem_flatMap.1 hx
  exact digs_bytes _ _ (Nat.le_refl _) x h
theorem flat_len {p : List Int} (h : ∀ x ∈ p, okNum x = true) : (flat p).length ≤ 9 * p.length := by
  induction p with
  | nil => simp [flat]
  | cons x p ih =>
    rw [flat_cons, List.length_append, List.length_cons]
    have h1 := ih fun y hy => h y (List.mem_cons_of_mem _ hy)
    have h2 := of_decide_eq_true (h x List.mem_cons_self)
    have h3 := digs_len9 (n := x.toNat) (by omega)
    omega
theorem readF_end (l : List Int) : readF l l.length = (0, 0, 10) := by
  rw [readF_of (e := 10) (n := 0) (k := 0) (Nat.le_refl _) (by rw [List.drop_length]; rfl), if_neg (by decide)]

def goods (l : List Int) : List Int := l.filter okNum
theorem goods_ok (l : List Int) : ∀ x ∈ goods l, okNum x = true := fun x hx => (List.mem_filter.1 hx).2
theorem goods_len (l : List Int) : (goods l).length ≤ l.length := List.length_filter_le _ _
theorem goods_snoc {l : List Int} {k : Nat} {x : Int} (hx : l[k]? = some x) : goods (l.take (k + 1)) = goods (l.take k) ++ (if okNum x = true then [x] else []) := by
  obtain ⟨h1, h2⟩ := List.getElem?_eq_some_iff.1 hx
  rw [List.take_succ_eq_append_getElem h1, h2]
  unfold goods
  rw [List.filter_append]
  simp [List.filter_cons]

theorem infoInt : (Try.prog.info? 3).map (fun i => (i.zero, i.size, i.bytes)) = some (some (.int .i64 0), 1, 8) := by kernel_rfl

set_option maxRecDepth 100000 in
set_option maxHeartbeats 8000000 in
theorem bitsRows_walk (W : World) (A : Option Addr) (n c : Nat) (l : List Int) (r : IntsArg .i64 8 W A n c l) (hn : n ≤ 1048576) :
    Calls Try.prog 9 #[.slice A n c] W fun e W' => e = .returned (.bool true) ∧ Below W.heap.size W W' := by
  have aw := awake_any W
  have hl := r.len
  have HR := Lib.hid r
  clear r
  go_enter Try.func9, Try.ntmps9
  go_wp2_with fail
  refine aw.mono ?_
  rintro e w1 ⟨rfl, hb⟩
  clear aw
  go_wp2_with fail
  go_loopg [4, 5, 6, 7] n (fun gk v4 v5 v6 v7 wr => ∃ (k m b : Nat) (A4 A5 : Option Addr) (c4 c5 : Nat), v7 = .int .i64 k ∧ v4 = .slice A4 b c4 ∧ v5 = .slice A5 m c5 ∧ v6 = .int .i64 b ∧ gk + k = n ∧ m ≤ k ∧ b ≤ 9 * k ∧
    Row wr 5 A4 b c4 (nums .u8 (flat (goods (l.take k)))) ∧ Row wr 3 A5 m c5 (nums .i64 (goods (l.take k))) ∧ (∀ g, blk A4 = some g → W.heap.size ≤ g) ∧ (∀ g, blk A5 = some g → W.heap.size ≤ g) ∧ Below W.heap.size W wr)
  case atStart => exact ⟨0, 0, 0, none, none, 0, 0, rfl, rfl, rfl, rfl, by omega, by omega, by omega, by simpa [goods, flat, nums] using Row.nil _ _, by simpa [goods, nums] using Row.nil _ _, (fun g h => by cases h), (fun g h => by cases h), hb⟩
  case round =>
    clear hb
    obtain ⟨k, m, b, A4, A5, c4, c5, rfl, rfl, rfl, rfl, hk, hm, hbk, h4, h5, g4, g5, hb⟩ := hrel
    by_cases hkn : k < n
    · obtain ⟨x, hx⟩ : ∃ x, l[k]? = some x := ⟨_, List.getElem?_eq_getElem (by omega)⟩
      obtain ⟨ad, rfl, hc⟩ := (HR.out.rd.below hb (Nat.le_refl _)).at (i := k) (u := .int .i64 x) (by rw [nums_get, hx]; rfl)
      have hsn := goods_snoc hx
      have hblk := Lib.hid (World.block_lt_of_cell? _ _ (((HR.out.rd).at (i := k) (u := .int .i64 x) (by rw [nums_get, hx]; rfl)).elim fun ad' h => (Option.some.inj h.1) ▸ h.2))
      by_cases hok : okNum x = true
      · rw [if_pos hok] at hsn
        have hokk := of_decide_eq_true hok
        obtain ⟨q, rfl⟩ := Int.eq_ofNat_of_zero_le hokk.1
        have hq : q ≤ 4611686018427387903 := by omega
        have hnum := fun w => number_yes q w hq
        have hsz := fun w => size_any q w
        rw [size_of hq] at hsz
        have hd9 := digs_len9 hq
        have hsn1 := Lib.hid hsn
        obtain ⟨d, hd⟩ : ∃ d, d = (digs q).length := ⟨_, rfl⟩
        rw [← hd] at hsz hd9
        have hd1 := Lib.hid hd
        have hd9' : d ≤ 9 := hd9.2
        have hd0' : 1 ≤ d := hd9.1
        clear hok hokk hq hsn hx hd hd9
        go_wp2_with fail
        refine (hnum _).mono ?_
        rintro e w2 ⟨A2, c2, rfl, r2, r3, r4⟩
        rw [← hd1.out] at r2
        rw [← hd1.out]
        have hu2 := Upd.of_below r4
        have k4 := h4.kept hu2 (fun g hg h => by have := h4.lt hg; omega)
        have k5 := h5.kept hu2 (fun g hg h => by have := h5.lt hg; omega)
        have hb2 := hb.trans (r4.mono hb.size)
        have hc2 : w2.cell? (ad.add k) = some (.int .i64 q) := hu2.cell hc (by show ¬ _ ≤ _; have := World.block_lt_of_cell? _ _ hc; omega)
        have n4 : ∀ g, blk A4 = some g → blk A2 ≠ some g := fun g hg h => by have := h4.lt hg; have := r3 g h; omega
        clear h4 h5 hu2 hb hc hnum r3 r4
        go_wp2_with (at_builtin; with_reducible refine row_append rfl (.tmp 35) (.tmp 36) 23 5 (.int .u8 0) 1 rfl Try.underlying23 infoByte rfl (by decide) A4 b c4 _ A2 d c2 (nums .u8 (digs q)) rfl rfl k4 r2.rd (nums_oneCell _ _) (by omega) ?_)
        intro A6 c6 w3 a1 a2 a3
        rw [← nums_append, ← flat_one' q, ← flat_append, ← hsn1.out] at a1
        have hc3 : w3.cell? (ad.add k) = some (.int .i64 q) := a2.cell hc2 (fun h => by have := g4 _ h; have := hblk.out; omega)
        have j5 := k5.kept a2 (fun g hg h => k5.type_ne k4 (by decide) hg h)
        have hb3 : Below W.heap.size W w3 := hb2.trans (a2.below hb2.size (fun k _ hk => g4 k hk))
        have g6 : ∀ g, blk A6 = some g → W.heap.size ≤ g := by
          intro g hg
          rcases a3 with h | h
          · exact g4 g (h ▸ hg)
          · rw [h] at hg; injection hg with hg; have := hb2.size; omega
        clear a2 a3 k5 k4 hb2 hc2 r2 n4 g4
        go_wp2_with (at_builtin; with_reducible refine row_append1 rfl (.tmp 38) (.tmp 43) 40 3 (.int .i64 0) 8 rfl Try.underlying40 infoInt rfl (by decide) A5 m c5 (nums .i64 (goods (l.take k))) (.int .i64 q) rfl rfl rfl j5 (by omega) ?_)
        intro A7 c7 w4 b1 b2 b3
        rw [show [Value.int .i64 (q : Int)] = nums .i64 [(q : Int)] by rfl, ← nums_append, ← hsn1.out] at b1
        have hc4 : w4.cell? (ad.add k) = some (.int .i64 q) := b2.cell hc3 (fun h => by have := g5 _ h; have := hblk.out; omega)
        have j6 := a1.kept b2 (fun g hg h => a1.type_ne j5 (by decide) hg h)
        have hb4 : Below W.heap.size W w4 := hb3.trans (b2.below hb3.size (fun k _ hk => g5 k hk))
        have g7 : ∀ g, blk A7 = some g → W.heap.size ≤ g := by
          intro g hg
          rcases b3 with h | ⟨z, h, hz⟩
          · exact g5 g (h ▸ hg)
          · rw [h] at hg; injection hg with hg; have := hb3.size; omega
        clear b2 b3 j5 hb3 hc3 a1 g5
        go_wp2_with fail
        refine (hsz _).mono ?_
        rintro e w5 ⟨rfl, rfl⟩
        have HH := Lib.hid (And.intro j6 (And.intro b1 (And.intro g6 (And.intro g7 hb4))))
        clear hsz j6 b1 g6 g7 hb4 hc4
        go_wp2
        go_roundg (n - k - 1)
        case measure => omega
        case rel => exact ⟨k + 1, m + 1, b + d, A6, A7, c6, c7, by go_num, rfl, rfl, by go_num, by omega, by omega, by omega, HH.out.1, HH.out.2.1, HH.out.2.2.1, HH.out.2.2.2.1, HH.out.2.2.2.2⟩
      · rw [if_neg hok, List.append_nil] at hsn
        have hbad : x < 0 ∨ 4611686018427387903 < x := by
          by_cases h0 : x < 0
          · exact .inl h0
          · by_cases h1 : 4611686018427387903 < x
            · exact .inr h1
            · exact absurd (show okNum x = true from decide_eq_true (by omega)) hok
        have hnum := fun w => number_no x w hbad
        have hsz := fun w => size_any x w
        rw [show sizeF x = 0 by unfold sizeF; rw [if_neg (by omega)]] at hsz
        rw [← hsn] at h4 h5
        have HH := Lib.hid (And.intro h4 (And.intro h5 (And.intro g4 (And.intro g5 hb))))
        clear hsn hok hx h4 h5 g4 g5 hb hbad
        go_wp2_with fail
        refine (hnum _).mono ?_
        rintro e w2 ⟨rfl, rfl⟩
        go_wp2_with fail
        refine (hsz _).mono ?_
        rintro e w5 ⟨rfl, rfl⟩
        clear hsz hnum
        go_wp2
        go_roundg (n - k - 1)
        case measure => omega
        case rel => exact ⟨k + 1, m, b, A4, A5, c4, c5, by go_num, rfl, rfl, by go_num, by omega, by omega, by omega, HH.out.1, HH.out.2.1, HH.out.2.2.1, HH.out.2.2.2.1, HH.out.2.2.2.2⟩
    · obtain rfl : k = n := by omega
      rw [List.take_of_length_le (by omega)] at h4 h5
      obtain ⟨P, hP⟩ : ∃ P, P = goods l := ⟨_, rfl⟩
      rw [← hP] at h4 h5
      have hPok : ∀ x ∈ P, okNum x = true := hP ▸ goods_ok l
      have hPl : P.length = m := by have := h5.len; rwa [nums_length] at this
      have hFl : (flat P).length = b := by have := h4.len; rwa [nums_length] at this
      have hread : ∀ p, Calls Try.prog 18 #[.slice A4 b c4, .int .i64 p] wr fun e w' => e = .returned (.tuple #[.int .i64 (readF (flat P) p).1, .int .i64 (readF (flat P) p).2.1, .int .i64 (readF (flat P) p).2.2]) ∧ wr = w' :=
        fun p => read_any A4 b c4 (flat P) p wr h4.rd (flat_bytes P) (by omega)
      have HF := Lib.hid (And.intro hPok (And.intro hPl hFl))
      have H5 := h5
      clear h4 h5 hP hPok hPl hFl g4 g5 hl HR
      go_wp2_with fail
      have hmk : m ≤ 1048576 := by omega
      have hb9 : b ≤ 9437184 := by omega
      clear hm hbk hk hkn
      go_loopg [10, 11] m (fun gk v10 v11 wq => ∃ j p : Nat, v11 = .int .i64 j ∧ v10 = .int .i64 p ∧ gk + j = m ∧ p ≤ b ∧ Hid (p = (flat (P.take j)).length) ∧ wr = wq)
      case atStart => exact ⟨0, 0, rfl, rfl, rfl, Nat.zero_le _, by show _ = _; simp [flat], rfl⟩
      case round =>
        obtain ⟨j, p, rfl, rfl, hj, hpb, hp, rfl⟩ := hrel
        by_cases hjm : j < m
        · obtain ⟨x, hx⟩ : ∃ x, P[j]? = some x := ⟨_, List.getElem?_eq_getElem (by have := HF.out.2.1; omega)⟩
          have hok := of_decide_eq_true (HF.out.1 x (List.mem_of_getElem? hx))
          obtain ⟨q, rfl⟩ := Int.eq_ofNat_of_zero_le hok.1
          obtain ⟨ad, rfl, hc⟩ := H5.rd.at (i := j) (u := .int .i64 q) (by rw [nums_get, hx]; rfl)
          have hq : q ≤ 4611686018427387903 := by omega
          obtain ⟨hlt, hxx⟩ := List.getElem?_eq_some_iff.1 hx
          have hsplit : flat P = flat (P.take j) ++ digs q ++ flat (P.drop (j + 1)) := by
            conv => lhs; rw [← List.take_append_drop j P, List.drop_eq_getElem_cons hlt, hxx]
            rw [flat_append, flat_cons, ← List.append_assoc]; simp
          have htk : (flat (P.take (j + 1))).length = p + (digs q).length := by
            rw [List.take_succ_eq_append_getElem hlt, hxx, flat_append, flat_one', List.length_append, hp.out]
          have hd9 := digs_len9 hq
          obtain ⟨d, hd⟩ : ∃ d, d = (digs q).length := ⟨_, rfl⟩
          have hrd := hread p
          have hval : readF (flat P) p = ((q : Int), (p : Int) + d, 0) := by
            rw [hsplit, hp.out, readF_digs hq, hd]
          have hpd : p + d ≤ b := by
            have := HF.out.2.2
            rw [hsplit, List.length_append, List.length_append, ← hp.out, ← hd] at this
            omega
          rw [hval] at hrd
          rw [← hd] at hd9 htk
          have hd1 : 1 ≤ d := hd9.1
          have HT := Lib.hid htk
          clear hval hread hx hlt hxx hsplit htk hd hd9 hok hq H5 hp
          go_wp2_with fail
          refine hrd.mono ?_
          rintro e w5 ⟨rfl, rfl⟩
          clear hrd
          go_wp2
          go_roundg (m - j - 1)
          case measure => omega
          case rel => exact ⟨j + 1, p + d, by go_num, by go_num, by omega, hpd, HT.out.symm, rfl⟩
        · obtain rfl : j = m := by omega
          have hpe : p = b := by
            rw [hp.out, List.take_of_length_le (by have := HF.out.2.1; omega)]
            exact HF.out.2.2
          subst hpe
          have hrd := hread p
          have hval : readF (flat P) p = (0, 0, 10) := by
            have := readF_end (flat P)
            rwa [HF.out.2.2] at this
          rw [hval] at hrd
          clear hval hread H5 hp
          go_wp2_with fail
          refine hrd.mono ?_
          rintro e w5 ⟨rfl, rfl⟩
          clear hrd
          go_wp2
          go_ret
          exact ⟨by simp, hb⟩
end Go.Proofs.Ytdojfkiocojpgaa
