/-
  Records: the small walks (mayTick .. Right, number). Conditions: none.
-/
import Derived.Test.YtipiohkpdkandaaRecPure
import Derived.Test.YtipiohkpdkandaaBits
import Derived.Test.YtipiohkpdkandaaRead
import Derived.Test.YtipiohkpdkandaaDictC
namespace Go.Proofs.Ytipiohkpdkandaa
set_option linter.unusedVariables false
set_option linter.unusedSimpArgs false
open Go.RowKit

def Rec.cells (r : Rec) : List Value := [.int .i64 r.tick, .string r.key, .int .i64 r.cost, .int .i64 r.verdict]
def Rec.val (r : Rec) : Value := .agg #[.int .i64 r.tick, .string r.key, .int .i64 r.cost, .int .i64 r.verdict]
theorem mayTick_yes (n : Int) (w : World) (h1 : 0 ≤ n) (h2 : n ≤ 1099511627776) :
    Calls Try.prog 48 #[.int .i64 n] w fun e w' => e = .returned (.bool true) ∧ w = w' := by
  go_enter Try.func48, Try.ntmps48
  go_wp2
  go_ret
  exact ⟨by simp [h1, h2], rfl⟩
theorem mayTick_no (n : Int) (w : World) (h : ¬ (0 ≤ n ∧ n ≤ 1099511627776)) :
    Calls Try.prog 48 #[.int .i64 n] w fun e w' => e = .returned (.bool false) ∧ w = w' := by
  by_cases h1 : 0 ≤ n
  · have h2 : 1099511627776 < n := by omega
    clear h
    go_enter Try.func48, Try.ntmps48
    go_wp2
    go_ret
    exact ⟨by simp [h1, h2], rfl⟩
  · clear h
    go_enter Try.func48, Try.ntmps48
    go_wp2
    go_ret
    exact ⟨rfl, rfl⟩
theorem mayKey_yes (n : Int) (w : World) (h1 : 1 ≤ n) (h2 : n ≤ 64) :
    Calls Try.prog 52 #[.int .i64 n] w fun e w' => e = .returned (.bool true) ∧ w = w' := by
  go_enter Try.func52, Try.ntmps52
  go_wp2
  go_ret
  exact ⟨by simp [h1, h2], rfl⟩
theorem mayKey_no (n : Int) (w : World) (h : ¬ (1 ≤ n ∧ n ≤ 64)) :
    Calls Try.prog 52 #[.int .i64 n] w fun e w' => e = .returned (.bool false) ∧ w = w' := by
  by_cases h1 : 1 ≤ n
  · have h2 : 64 < n := by omega
    clear h
    go_enter Try.func52, Try.ntmps52
    go_wp2
    go_ret
    exact ⟨by simp [h1, h2], rfl⟩
  · clear h
    go_enter Try.func52, Try.ntmps52
    go_wp2
    go_ret
    exact ⟨rfl, rfl⟩
theorem mayCost_yes (n : Int) (w : World) (h1 : 1 ≤ n) (h2 : n ≤ 1048576) :
    Calls Try.prog 50 #[.int .i64 n] w fun e w' => e = .returned (.bool true) ∧ w = w' := by
  go_enter Try.func50, Try.ntmps50
  go_wp2
  go_ret
  exact ⟨by simp [h1, h2], rfl⟩
theorem mayCost_no (n : Int) (w : World) (h : ¬ (1 ≤ n ∧ n ≤ 1048576)) :
    Calls Try.prog 50 #[.int .i64 n] w fun e w' => e = .returned (.bool false) ∧ w = w' := by
  by_cases h1 : 1 ≤ n
  · have h2 : 1048576 < n := by omega
    clear h
    go_enter Try.func50, Try.ntmps50
    go_wp2
    go_ret
    exact ⟨by simp [h1, h2], rfl⟩
  · clear h
    go_enter Try.func50, Try.ntmps50
    go_wp2
    go_ret
    exact ⟨rfl, rfl⟩
theorem mayVerdict_yes (n : Int) (w : World) (h1 : 0 ≤ n) (h2 : n ≤ 2) :
    Calls Try.prog 47 #[.int .i64 n] w fun e w' => e = .returned (.bool true) ∧ w = w' := by
  go_enter Try.func47, Try.ntmps47
  go_wp2
  go_ret
  exact ⟨by simp [h1, h2], rfl⟩
theorem mayVerdict_no (n : Int) (w : World) (h : ¬ (0 ≤ n ∧ n ≤ 2)) :
    Calls Try.prog 47 #[.int .i64 n] w fun e w' => e = .returned (.bool false) ∧ w = w' := by
  by_cases h1 : 0 ≤ n
  · have h2 : 2 < n := by omega
    clear h
    go_enter Try.func47, Try.ntmps47
    go_wp2
    go_ret
    exact ⟨by simp [h1, h2], rfl⟩
  · clear h
    go_enter Try.func47, Try.ntmps47
    go_wp2
    go_ret
    exact ⟨rfl, rfl⟩

def RecRight (w : World) (r : Rec) (e : Ending) (w' : World) : Prop := e = .returned (.int .i64 (recErr r)) ∧ Below w.heap.size w w'
set_option maxRecDepth 100000 in
set_option maxHeartbeats 1000000 in
theorem recRight_any (w : World) (r : Rec) (hm : r.key.size ≤ maxLen) : Calls Try.prog 22 #[r.val] w (RecRight w r) := by
  obtain ⟨tick, key, cost, verdict⟩ := r
  unfold Rec.val
  simp only at hm ⊢
  unfold maxLen at hm
  have HM := Lib.hid hm
  have hb : ∀ (o : Obj), Below w.heap.size w (w.alloc o) := fun o => (Below.refl _ _).alloc (Nat.le_refl _) o
  have HB := Lib.hid hb
  clear hb
  by_cases h1 : 0 ≤ tick ∧ tick ≤ 1099511627776
  · have c1 := fun w => mayTick_yes tick w h1.1 h1.2
    by_cases h2 : 1 ≤ key.size ∧ key.size ≤ 64
    · have c2 := fun w => mayKey_yes key.size w (by omega) (by omega)
      by_cases h3 : 1 ≤ cost ∧ cost ≤ 1048576
      · have c3 := fun w => mayCost_yes cost w h3.1 h3.2
        by_cases h4 : 0 ≤ verdict ∧ verdict ≤ 2
        · have c4 := fun w => mayVerdict_yes verdict w h4.1 h4.2
          have he : recErr ⟨tick, key, cost, verdict⟩ = 0 := recErr_ok.2 ⟨h1.1, h1.2, h2, h3.1, h3.2, h4.1, h4.2⟩
          have HE := Lib.hid he
          clear h1 h2 h3 h4 he hm
          go_enter Try.func22, Try.ntmps22
          go_wp2_with (first
            | (go_at_call 48; refine (c1 _).mono ?_; rintro e w' ⟨rfl, rfl⟩)
            | (go_at_call 52; refine (c2 _).mono ?_; rintro e w' ⟨rfl, rfl⟩)
            | (go_at_call 50; refine (c3 _).mono ?_; rintro e w' ⟨rfl, rfl⟩)
            | (go_at_call 47; refine (c4 _).mono ?_; rintro e w' ⟨rfl, rfl⟩))
          go_ret
          exact ⟨by rw [HE.out]; rfl, HB.out _⟩
        · have c4 := fun w => mayVerdict_no verdict w h4
          have he : recErr ⟨tick, key, cost, verdict⟩ = 63 := by unfold recErr keyOk; rw [if_neg (by simp [h1]), if_neg (by simp [h2]), if_neg (by simp [h3]), if_pos h4]
          have HE := Lib.hid he
          clear h1 h2 h3 h4 he hm
          go_enter Try.func22, Try.ntmps22
          go_wp2_with (first
            | (go_at_call 48; refine (c1 _).mono ?_; rintro e w' ⟨rfl, rfl⟩)
            | (go_at_call 52; refine (c2 _).mono ?_; rintro e w' ⟨rfl, rfl⟩)
            | (go_at_call 50; refine (c3 _).mono ?_; rintro e w' ⟨rfl, rfl⟩)
            | (go_at_call 47; refine (c4 _).mono ?_; rintro e w' ⟨rfl, rfl⟩))
          go_ret
          exact ⟨by rw [HE.out]; rfl, HB.out _⟩
      · have c3 := fun w => mayCost_no cost w h3
        have he : recErr ⟨tick, key, cost, verdict⟩ = 62 := by unfold recErr keyOk; rw [if_neg (by simp [h1]), if_neg (by simp [h2]), if_pos h3]
        have HE := Lib.hid he
        clear h1 h2 h3 he hm
        go_enter Try.func22, Try.ntmps22
        go_wp2_with (first
            | (go_at_call 48; refine (c1 _).mono ?_; rintro e w' ⟨rfl, rfl⟩)
            | (go_at_call 52; refine (c2 _).mono ?_; rintro e w' ⟨rfl, rfl⟩)
            | (go_at_call 50; refine (c3 _).mono ?_; rintro e w' ⟨rfl, rfl⟩))
        go_ret
        exact ⟨by rw [HE.out]; rfl, HB.out _⟩
    · have c2 := fun w => mayKey_no key.size w (by omega)
      have he : recErr ⟨tick, key, cost, verdict⟩ = 61 := by unfold recErr keyOk; rw [if_neg (by simp [h1]), if_pos h2]
      have HE := Lib.hid he
      clear h1 h2 he hm
      go_enter Try.func22, Try.ntmps22
      go_wp2_with (first
            | (go_at_call 48; refine (c1 _).mono ?_; rintro e w' ⟨rfl, rfl⟩)
            | (go_at_call 52; refine (c2 _).mono ?_; rintro e w' ⟨rfl, rfl⟩))
      go_ret
      exact ⟨by rw [HE.out]; rfl, HB.out _⟩
  · have c1 := fun w => mayTick_no tick w h1
    have he : recErr ⟨tick, key, cost, verdict⟩ = 60 := by unfold recErr; rw [if_pos h1]
    have HE := Lib.hid he
    clear h1 he hm
    go_enter Try.func22, Try.ntmps22
    go_wp2_with (go_at_call 48; refine (c1 _).mono ?_; rintro e w' ⟨rfl, rfl⟩)
    go_ret
    exact ⟨by rw [HE.out]; rfl, HB.out _⟩

/-- A number behind some bytes: what was there is still there, the row may have moved. -/
def NumberPost (w : World) (A : Option Addr) (c : Nat) (l : List Int) (e : Ending) (w' : World) : Prop :=
  ∃ A1 c1 w1, e = .returned (.slice A1 l.length c1) ∧ Below w.heap.size w w1 ∧ Grew w1 w' A A1 c c1 ∧ Row w' 5 A1 l.length c1 (nums .u8 l)
set_option maxRecDepth 100000 in
theorem number_row (w : World) (A : Option Addr) (c : Nat) (l : List Int) (q : Nat) (hq : q ≤ 4611686018427387903) (h : Row w 5 A l.length c (nums .u8 l)) (hl : l.length ≤ 1000) :
    Calls Try.prog 44 #[.slice A l.length c, .int .i64 q] w (NumberPost w A c (l ++ digs q)) := by
  have hd := (digs_len9 hq).2
  have hn := number_yes q w hq
  obtain ⟨n, hn0⟩ : ∃ n, l.length = n := ⟨_, rfl⟩
  have HL := Lib.hid hn0
  have hn1 : n ≤ 1000 := by omega
  rw [hn0] at h ⊢
  have H := Lib.hid h
  clear h hn0 hl hq
  go_enter Try.func44, Try.ntmps44
  go_wp2_with fail
  refine hn.mono ?_
  rintro e w1 ⟨B, cb, rfl, rB, aB, bB⟩
  have hrow := H.out.block (fun g hg => bB.block g (H.out.lt hg))
  have HB := Lib.hid bB
  clear hn aB bB
  go_wp2_with (at_builtin; go_must (refine row_append_g rfl (.tmp 12) (.tmp 13) 25 5 (.int .u8 0) 1 rfl Try.underlying25 infoByte rfl (by decide) A n c _ B (digs q).length cb _ rfl rfl hrow rB.rd (nums_oneCell _ _) (by omega) ?_))
  intro A1 c1 w2 a1 a2
  rw [← nums_append] at a1
  have HX := Lib.hid (And.intro a1 a2)
  clear a1 a2 hrow rB
  go_wp2
  go_ret
  have e : (l ++ digs q).length = n + (digs q).length := by rw [List.length_append, HL.out]
  exact ⟨A1, c1, w1, by rw [e]; rfl, HB.out, HX.out.2, by rw [e]; exact HX.out.1⟩
end Go.Proofs.Ytipiohkpdkandaa
