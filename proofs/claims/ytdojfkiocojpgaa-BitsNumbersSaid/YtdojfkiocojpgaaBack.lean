/-
  The walk of the law BitsBack. Conditions: what is handed in is no longer than a million bytes.
-/
import Derived.Test.YtdojfkiocojpgaaForm
namespace Go.Proofs.Ytdojfkiocojpgaa
set_option linter.unusedVariables false
set_option linter.unusedSimpArgs false
open Go.RowKit

theorem size_of {q : Nat} (hq : q ≤ 4611686018427387903) : sizeF q = (digs q).length := by unfold sizeF; rw [if_pos (by omega)]; simp

set_option maxRecDepth 100000 in
set_option maxHeartbeats 8000000 in
theorem bitsBack_walk (W : World) (A : Option Addr) (na ca : Nat) (la : List Int) (ra : IntsArg .u8 1 W A na ca la) (hna : na ≤ 1048576) (n : Int) (_w : (Lit.int .i64 n).wf = true)
    (D : Option Addr) (nd cd : Nat) (ld : List Int) (rd : IntsArg .u8 1 W D nd cd ld) (hnd : nd ≤ 1048576) :
    Calls Try.prog 6 #[.slice A na ca, .int .i64 n, .slice D nd cd] W fun e W' => e = .returned (.bool true) ∧ Below W.heap.size W W' := by
  have aw := awake_any W
  have hla := ra.len
  have hld := rd.len
  by_cases hn : n < 0 ∨ 4611686018427387903 < n
  · have hnum := fun w => number_no n w hn
    clear ra rd hla hld hna hnd _w
    by_cases hneg : n < 0
    · clear hn
      go_enter Try.func6, Try.ntmps6
      go_wp2_with fail
      refine aw.mono ?_
      rintro e w1 ⟨rfl, hb⟩
      clear aw
      go_wp2_with fail
      refine (hnum _).mono ?_
      rintro e w2 ⟨rfl, rfl⟩
      clear hnum
      go_wp2
      go_ret
      exact ⟨rfl, hb⟩
    · have hbig : 4611686018427387903 < n := by omega
      clear hn
      go_enter Try.func6, Try.ntmps6
      go_wp2_with fail
      refine aw.mono ?_
      rintro e w1 ⟨rfl, hb⟩
      clear aw
      go_wp2_with fail
      refine (hnum _).mono ?_
      rintro e w2 ⟨rfl, rfl⟩
      clear hnum
      go_wp2
      go_ret
      exact ⟨rfl, hb⟩
  · obtain ⟨q, rfl⟩ := Int.eq_ofNat_of_zero_le (show 0 ≤ n by omega)
    have hq : q ≤ 4611686018427387903 := by omega
    have hqi : (q : Int) ≤ 4611686018427387903 := by omega
    have hq0 : (0 : Int) ≤ q := by omega
    have hnum := fun w => number_yes q w hq
    have hl := digs_len9 hq
    obtain ⟨len, hlen⟩ : ∃ len, len = (digs q).length := ⟨_, rfl⟩
    have hsize := fun w => size_any q w
    rw [size_of hq, ← hlen] at hsize
    have hB : Bytes (la ++ digs q ++ ld) := by
      intro x hx
      rcases List.mem_append.1 hx with hx | hx
      · rcases List.mem_append.1 hx with hx | hx
        · exact bytes_arg ra x hx
        · exact digs_bytes q q (Nat.le_refl _) x hx
      · exact bytes_arg rd x hx
    have hread : ∀ A' c w, Rd w A' (na + len + nd) (nums .u8 (la ++ digs q ++ ld)) → Calls Try.prog 18 #[.slice A' (na + len + nd) c, .int .i64 na] w fun e w' => e = .returned (.tuple #[.int .i64 q, .int .i64 ((na : Int) + len), .int .i64 0]) ∧ w = w' := by
      intro A' c w h
      have := read_any A' _ c _ na w h hB (by omega)
      rw [← hla, readF_digs hq, hla, ← hlen] at this
      exact this
    have hshort : ∀ m, m < len → ∀ A' c w, Rd w A' m (nums .u8 ((digs q).take m)) → Calls Try.prog 18 #[.slice A' m c, .int .i64 0] w fun e w' => e = .returned (.tuple #[.int .i64 0, .int .i64 0, .int .i64 10]) ∧ w = w' := by
      intro m hm A' c w h
      have := read_any A' _ c _ 0 w h (fun x hx => digs_bytes q q (Nat.le_refl _) x (List.mem_of_mem_take hx)) (by omega)
      rw [readF_short hq (by omega)] at this
      exact this
    rw [← hlen] at hl
    have hl1 : 1 ≤ len := hl.1
    have hl9 : len ≤ 9 := hl.2
    have hlen' := Lib.hid hlen
    clear hq hn hl hlen hB
    have HA := Lib.hid ra
    have HD := Lib.hid rd
    clear ra rd
    go_enter Try.func6, Try.ntmps6
    go_wp2_with fail
    refine aw.mono ?_
    rintro e w1 ⟨rfl, hb⟩
    clear aw
    go_wp2_with fail
    refine (hnum _).mono ?_
    rintro e w2 ⟨A2, c2, rfl, r2, r3, r4⟩
    clear hnum
    rw [← hlen'.out] at r2
    rw [← hlen'.out]
    have hb2 := hb.trans (r4.mono hb.size)
    have hA2 : ∀ g, blk A2 = some g → W.heap.size ≤ g := fun g hg => Nat.le_trans hb.size (r3 g hg)
    clear hb r3 r4
    go_wp2_with (at_builtin; with_reducible refine row_append rfl (.tmp 44) (.tmp 45) 23 5 (.int .u8 0) 1 rfl Try.underlying23 infoByte rfl (by decide) none 0 0 [] A na ca (nums .u8 la) rfl rfl (Row.nil _ _) (HA.out.rd.below hb2 (Nat.le_refl _)) (nums_oneCell _ _) (by omega) ?_)
    intro A3 c3 w3 a1 a2 a3
    try simp only [Nat.zero_add, List.nil_append] at a1
    try simp only [Nat.zero_add]
    have r2b := r2.kept a2 (fun g hg h => by cases h)
    have hb3 : Below W.heap.size W w3 := hb2.trans (a2.below hb2.size (fun k _ hk => by cases hk))
    have hA3 : ∀ g, blk A3 = some g → W.heap.size ≤ g ∧ blk A2 ≠ some g := by
      intro g hg
      rcases a3 with h | h
      · rw [h] at hg; cases hg
      · rw [h] at hg; injection hg with hg
        have := hb2.size
        exact ⟨by omega, fun h2 => by have := r2.lt h2; omega⟩
    clear a2 a3 r2 hb2
    go_wp2_with (at_builtin; with_reducible refine row_append rfl (.tmp 47) (.tmp 48) 23 5 (.int .u8 0) 1 rfl Try.underlying23 infoByte rfl (by decide) A3 na c3 (nums .u8 la) A2 len c2 (nums .u8 (digs q)) rfl rfl a1 r2b.rd (nums_oneCell _ _) (by omega) ?_)
    intro A4 c4 w4 b1 b2 b3
    rw [← nums_append] at b1
    have r2c := r2b.kept b2 (fun g hg h => (hA3 g h).2 hg)
    have hb4 : Below W.heap.size W w4 := hb3.trans (b2.below hb3.size (fun k _ hk => (hA3 k hk).1))
    have hA4 : ∀ g, blk A4 = some g → W.heap.size ≤ g ∧ blk A2 ≠ some g := by
      intro g hg
      rcases b3 with h | h
      · exact hA3 g (h ▸ hg)
      · rw [h] at hg; injection hg with hg
        have := hb3.size
        exact ⟨by omega, fun h2 => by have := r2b.lt h2; omega⟩
    clear b2 b3 r2b hb3 hA3 a1
    go_wp2_with (at_builtin; with_reducible refine row_append rfl (.tmp 50) (.tmp 51) 23 5 (.int .u8 0) 1 rfl Try.underlying23 infoByte rfl (by decide) A4 (na + len) c4 (nums .u8 (la ++ digs q)) D nd cd (nums .u8 ld) rfl rfl b1 (HD.out.rd.below hb4 (Nat.le_refl _)) (nums_oneCell _ _) (by omega) ?_)
    intro A5 c5 w5 d1 d2 d3
    rw [← nums_append] at d1
    have r2d := r2c.kept d2 (fun g hg h => (hA4 g h).2 hg)
    have hb5 : Below W.heap.size W w5 := hb4.trans (d2.below hb4.size (fun k _ hk => (hA4 k hk).1))
    clear d2 d3 r2c hb4 hA4 b1 hA2
    have hcall := hread A5 c5 w5 d1.rd
    clear hread d1
    go_wp2_with fail
    refine hcall.mono ?_
    rintro e w6 ⟨rfl, rfl⟩
    clear hcall
    go_wp2_with fail
    refine (hsize _).mono ?_
    rintro e w6 ⟨rfl, rfl⟩
    clear hsize
    go_wp2_with fail
    obtain ⟨g, hg⟩ : ∃ g, A2 = some ⟨g, 0, none⟩ := by
      rcases r2d.form with ⟨_, h, _⟩ | ⟨g, _, h, _⟩
      · omega
      · exact ⟨g, h⟩
    subst hg
    go_loopg [14] len (fun gk v14 wr => ∃ k : Nat, v14 = .int .i64 k ∧ gk + k = len ∧ w5 = wr)
    case atStart => exact ⟨0, rfl, rfl, rfl⟩
    case round =>
      obtain ⟨k, rfl, hk, rfl⟩ := hrel
      by_cases hkl : k < len
      · have hc := hshort k hkl (some ⟨g, 0, none⟩) c2 w5 (by
          have := r2d.rd.take (m := k) (by omega)
          rwa [show (nums .u8 (digs q)).take k = nums .u8 ((digs q).take k) by simp [nums, List.map_take]] at this)
        have hlec : k ≤ c2 := by have := r2d.le; omega
        clear hshort r2d
        go_wp2_with fail
        refine hc.mono ?_
        rintro e w6 ⟨rfl, rfl⟩
        clear hc
        go_wp2
        go_roundg (len - k - 1)
        case measure => omega
        case rel => exact ⟨k + 1, by go_num, by omega, rfl⟩
      · clear hshort r2d
        go_wp2
        go_ret
        exact ⟨by simp [*], hb5⟩
end Go.Proofs.Ytdojfkiocojpgaa
