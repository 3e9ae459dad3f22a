/-
  The walk of the law BitsNumbers. Conditions: none.
-/
import Derived.Test.YtdojfkiocojpgaaOwned
namespace Go.Proofs.Ytdojfkiocojpgaa
set_option linter.unusedVariables false
set_option linter.unusedSimpArgs false
open Go.RowKit

/-- a number's bytes, and the error -/
def numF (n : Int) : List Int × Int := if 0 ≤ n ∧ n ≤ 4611686018427387903 then (digs n.toNat, 0) else ([], 1)
def NumAny (w : World) (l : List Int) (x : Int) (len : Nat) (e : Ending) (w' : World) : Prop :=
  ∃ A c, e = .returned (.tuple #[.slice A len c, .int .i64 x]) ∧ Row w' 5 A len c (nums .u8 l) ∧ (∀ g, blk A = some g → w.heap.size ≤ g) ∧ Below w.heap.size w w'

theorem num_cases (n : Int) : ((n < 0 ∨ 4611686018427387903 < n) ∧ numF n = ([], 1)) ∨ ∃ q : Nat, n = q ∧ q ≤ 4611686018427387903 ∧ numF n = (digs q, 0) := by
  unfold numF
  by_cases h : 0 ≤ n ∧ n ≤ 4611686018427387903
  · right
    obtain ⟨q, rfl⟩ := Int.eq_ofNat_of_zero_le h.1
    exact ⟨q, rfl, by omega, by rw [if_pos h]; simp⟩
  · left
    exact ⟨by omega, by rw [if_neg h]⟩
theorem numF_len (n : Int) : (numF n).1.length ≤ 9 := by
  rcases num_cases n with ⟨_, h⟩ | ⟨q, _, hq, h⟩ <;> rw [h]
  · simp
  · exact (digs_len9 hq).2
theorem number_any (n : Int) (w : World) : Calls Try.prog 12 #[.int .i64 n] w (NumAny w (numF n).1 (numF n).2 (numF n).1.length) := by
  rcases num_cases n with ⟨h, e⟩ | ⟨q, rfl, hq, e⟩ <;> rw [e]
  · refine (number_no n w h).mono ?_
    rintro e w' ⟨rfl, rfl⟩
    exact ⟨none, 0, rfl, Row.nil _ _, (fun g h => by cases h), Below.refl _ _⟩
  · exact number_yes q w hq
theorem refNumber_any (n : Int) (w : World) : Calls Try.prog 13 #[.int .i64 n] w (NumAny w (numF n).1 (numF n).2 (numF n).1.length) := by
  rcases num_cases n with ⟨h, e⟩ | ⟨q, rfl, hq, e⟩ <;> rw [e]
  · refine (refNumber_no n w h).mono ?_
    rintro e w' ⟨rfl, rfl⟩
    exact ⟨none, 0, rfl, Row.nil _ _, (fun g h => by cases h), Below.refl _ _⟩
  · exact refNumber_yes q w hq

set_option maxRecDepth 100000 in
set_option maxHeartbeats 8000000 in
theorem bitsNumbers_walk (W : World) (n : Int) (_w0 : (Lit.int .i64 n).wf = true) (m : Int) (_w1 : (Lit.int .i64 m).wf = true) :
    Calls Try.prog 3 #[.int .i64 n, .int .i64 m] W fun e W' => e = .returned (.bool true) ∧ Below W.heap.size W W' := by
  have aw := awake_any W
  obtain ⟨l, x, ln, hl, hx, hln, hl9⟩ : ∃ l x ln, (numF n).1 = l ∧ (numF n).2 = x ∧ (numF n).1.length = ln ∧ ln ≤ 9 := ⟨_, _, _, rfl, rfl, rfl, numF_len n⟩
  obtain ⟨k, y, kn, hk, hy, hkn, hk9⟩ : ∃ l x ln, (numF m).1 = l ∧ (numF m).2 = x ∧ (numF m).1.length = ln ∧ ln ≤ 9 := ⟨_, _, _, rfl, rfl, rfl, numF_len m⟩
  have c1 := fun w => number_any n w
  have c2 := fun w => number_any m w
  have c3 := fun w => refNumber_any n w
  have c4 := fun w => refNumber_any m w
  have c5 := fun w => size_any n w
  have c6 := fun w => refSize_any n w
  obtain ⟨s, hs⟩ : ∃ s, sizeF n = s := ⟨_, rfl⟩
  simp only [hl, hx, hln, hk, hy, hkn, hs] at c1 c2 c3 c4 c5 c6
  rw [hl] at hln
  rw [hk] at hkn
  simp only [hln, hkn] at c1 c2 c3 c4
  clear hl hx hk hy hs hln hkn _w0 _w1
  go_enter Try.func3, Try.ntmps3
  go_wp2_with fail
  refine aw.mono ?_
  rintro e w1 ⟨rfl, hb1⟩
  clear aw
  go_wp2_with fail
  refine (c1 _).mono ?_
  rintro e w2 ⟨A, ca, rfl, ra, la, hb2⟩
  go_wp2_with fail
  refine (c2 _).mono ?_
  rintro e w3 ⟨B, cb, rfl, rb, lb, hb3⟩
  go_wp2_with fail
  refine (c1 _).mono ?_
  rintro e w4 ⟨C, cc, rfl, rc, lc, hb4⟩
  go_wp2_with fail
  refine (c3 _).mono ?_
  rintro e w5 ⟨D, cd, rfl, rd, ld, hb5⟩
  go_wp2_with fail
  refine (c4 _).mono ?_
  rintro e w6 ⟨E, ce, rfl, re, le, hb6⟩
  go_wp2_with fail
  refine (c5 _).mono ?_
  rintro e w7 ⟨rfl, rfl⟩
  have s1 := hb1.size
  have s2 := hb2.size
  have s3 := hb3.size
  have s4 := hb4.size
  have s5 := hb5.size
  have s6 := hb6.size
  have keep : ∀ {w w' : World} {A : Option Addr} {n c : Nat} {xs : List Value}, Row w 5 A n c xs → Below w.heap.size w w' → Row w' 5 A n c xs := fun h hb => h.block fun g hg => hb.block g (h.lt hg)
  have ab : Apart A B := fun g h1 h2 => by have := ra.lt h1; have := lb g h2; omega
  have ac : Apart A C := fun g h1 h2 => by have := ra.lt h1; have := lc g h2; omega
  have bc : Apart B C := fun g h1 h2 => by have := rb.lt h1; have := lc g h2; omega
  have ra6 := keep (keep (keep (keep ra hb3) hb4) hb5) hb6
  have rb6 := keep (keep (keep rb hb4) hb5) hb6
  have rc6 := keep (keep rc hb5) hb6
  have rd6 := keep rd hb6
  have hbW : Below W.heap.size W w6 := ((((hb1.trans (hb2.mono (by omega))).trans (hb3.mono (by omega))).trans (hb4.mono (by omega))).trans (hb5.mono (by omega))).trans (hb6.mono (by omega))
  have va := ra6.conv (P := Try.prog) Try.underlying23 Try.underlying5 Try.underlying9 ca
  have vb := rb6.conv (P := Try.prog) Try.underlying23 Try.underlying5 Try.underlying9 cb
  have vc := rc6.conv (P := Try.prog) Try.underlying23 Try.underlying5 Try.underlying9 cc
  have vd := rd6.conv (P := Try.prog) Try.underlying23 Try.underlying5 Try.underlying9 cd
  have ve := re.conv (P := Try.prog) Try.underlying23 Try.underlying5 Try.underlying9 ce
  have hown : Calls Try.prog 15 #[.slice (some ⟨w6.heap.size, 0, none⟩) 3 3] (w6.alloc (.cells #[.slice A ln ca, .slice B kn cb, .slice C ln cc] 23)) fun e w' => e = .returned (.bool true) ∧ Below W.heap.size (w6.alloc (.cells #[.slice A ln ca, .slice B kn cb, .slice C ln cc] 23)) w' := by
    refine owned_any [(A, ln, ca), (B, kn, cb), (C, ln, cc)] w6.heap.size 3 _ W.heap.size (by omega) (by simp; omega) (by omega)
      (Row.made (w := w6) (e := 23) #[.slice A ln ca, .slice B kn cb, .slice C ln cc] 3 _ (by simp) (by simp [maxLen]) rfl) ?_ ?_ ?_ ?_
    · intro j r hr
      have : j = 0 ∨ j = 1 ∨ j = 2 := by have := (List.getElem?_eq_some_iff.1 hr).1; simp at this; omega
      rcases this with rfl | rfl | rfl <;> (obtain rfl := Option.some.inj hr)
      · exact ⟨_, ra6.alloc _⟩
      · exact ⟨_, rb6.alloc _⟩
      · exact ⟨_, rc6.alloc _⟩
    · intro j r hr
      have : j = 0 ∨ j = 1 ∨ j = 2 := by have := (List.getElem?_eq_some_iff.1 hr).1; simp at this; omega
      rcases this with rfl | rfl | rfl <;> (obtain rfl := Option.some.inj hr) <;> assumption
    · intro i j r r' hij hr hr'
      have h1 : j = 0 ∨ j = 1 ∨ j = 2 := by have := (List.getElem?_eq_some_iff.1 hr').1; simp at this; omega
      have h2 : i = 0 ∨ i = 1 ∨ i = 2 := by have := (List.getElem?_eq_some_iff.1 hr).1; simp at this; omega
      rcases h1 with rfl | rfl | rfl <;> rcases h2 with rfl | rfl | rfl <;> (first | omega | (obtain rfl := Option.some.inj hr; obtain rfl := Option.some.inj hr'; assumption))
    · intro j r hr g hg
      have : j = 0 ∨ j = 1 ∨ j = 2 := by have := (List.getElem?_eq_some_iff.1 hr).1; simp at this; omega
      rcases this with rfl | rfl | rfl <;> (obtain rfl := Option.some.inj hr)
      · have := la g hg; omega
      · have := lb g hg; omega
      · have := lc g hg; omega
  have HB := Lib.hid (And.intro hbW s1)
  have HW : Hid (W.heap.size ≤ w6.heap.size) := hbW.size
  clear c1 c2 c3 c4 c5 ra rb rc rd re ra6 rb6 rc6 rd6 la lb lc ld le hb1 hb2 hb3 hb4 hb5 hb6 s1 s2 s3 s4 s5 s6 keep ab ac bc hbW
  go_wp2_with fail
  refine hown.mono ?_
  rintro e w8 ⟨rfl, hb8⟩
  clear hown va vb vc vd ve
  go_wp2_with fail
  refine (c6 _).mono ?_
  rintro e w9 ⟨rfl, rfl⟩
  go_wp2
  go_ret
  exact ⟨by simp, (HB.out.1.alloc HW.out _).trans hb8⟩
end Go.Proofs.Ytdojfkiocojpgaa
