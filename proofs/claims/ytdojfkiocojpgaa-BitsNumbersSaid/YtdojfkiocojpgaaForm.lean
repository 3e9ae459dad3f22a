/-
  The walk of the law BitsForm. Conditions: none.
-/
import Derived.Test.YtdojfkiocojpgaaAwake
import Derived.Test.YtdojfkiocojpgaaOpen
namespace Go.Proofs.Ytdojfkiocojpgaa
set_option linter.unusedVariables false
set_option linter.unusedSimpArgs false
open Go.RowKit

theorem bytes_arg {w : World} {A : Option Addr} {n c : Nat} {l : List Int} (h : IntsArg .u8 1 w A n c l) : Bytes l := fun x hx => wf_u8_bd (h.wf x hx)

set_option maxRecDepth 100000 in
set_option maxHeartbeats 4000000 in
theorem bitsForm_walk (W : World) (A : Option Addr) (n c : Nat) (l : List Int) (r : IntsArg .u8 1 W A n c l) (a : Int) (_w : (Lit.int .i64 a).wf = true) :
    Calls Try.prog 7 #[.slice A n c, .int .i64 a] W fun e W' => e = .returned (.bool true) ∧ Below W.heap.size W W' := by
  have hl := r.len
  have hrd : ∀ w, Below W.heap.size W w → Calls Try.prog 18 #[.slice A n c, .int .i64 a] w fun e w' => e = .returned (.tuple #[.int .i64 (readF l a).1, .int .i64 (readF l a).2.1, .int .i64 (readF l a).2.2]) ∧ w = w' :=
    fun w hb => read_any A n c l a w (r.rd.below hb (Nat.le_refl _)) (bytes_arg r) (by have := r.room; omega)
  have aw := awake_any W
  rcases readF_cases (bytes_arg r) a with ⟨e, he1, he2, he⟩ | ⟨p, q, k, rfl, hq, hk, hk1, hpk, he, hd⟩
  · rw [he] at hrd
    clear he hl
    have R := Lib.hid r
    clear r
    go_enter Try.func7, Try.ntmps7
    go_wp2_with fail
    refine aw.mono ?_
    rintro e w1 ⟨rfl, hb⟩
    clear aw
    go_wp2_with fail
    refine (hrd _ hb).mono ?_
    rintro e w1 ⟨rfl, rfl⟩
    clear hrd
    go_wp2
    go_ret
    exact ⟨rfl, hb⟩
  · rw [he] at hrd
    clear he
    obtain ⟨b, off, rfl, hc⟩ := r.rd.form (by omega)
    have R := r.rd
    have hcap := r.cap
    have hroom := r.room
    clear r hc
    have hnum := fun w => number_yes q w hq
    have HQ := Lib.hid hq
    have HD := Lib.hid hd
    have HK := Lib.hid hk
    clear hq hd hk
    go_enter Try.func7, Try.ntmps7
    go_wp2_with fail
    refine aw.mono ?_
    rintro e w1 ⟨rfl, hb⟩
    clear aw
    go_wp2_with fail
    refine (hrd _ hb).mono ?_
    rintro e w1 ⟨rfl, rfl⟩
    clear hrd
    go_wp2_with fail
    refine (hnum _).mono ?_
    rintro e w2 ⟨A2, c2, rfl, h2, h3, h4⟩
    clear hnum
    rw [← HK.out] at *
    have hb2 : Below W.heap.size W w2 := hb.trans (h4.mono hb.size)
    have R2 := (R.below hb2 (Nat.le_refl _)).sub (lo := p) (m := k) (by omega) (by omega)
    have hcv1 : ∀ m c, (convert 23 9 (.slice (some ⟨b, off + p, none⟩) k c)).run Try.prog (w2.drewN m) = .ok (.string (strOfNums (digs q))) (w2.drewN m) := fun m c => by
      rw [← HD.out]
      refine Rd.conv ?_ (fun h => by omega) Try.underlying23 Try.underlying5 Try.underlying9 c
      rw [show nums .u8 ((l.drop p).take k) = ((nums .u8 l).drop p).take k by simp [nums, List.map_take, List.map_drop]]
      exact R2.drewN m
    have hcv2 := fun m => (h2.drewN m).conv (P := Try.prog) Try.underlying23 Try.underlying5 Try.underlying9 c2
    have HH := Lib.hid hb2
    have H2 := Lib.hid h2
    clear R2 R h2 h3 h4 hb hb2 HD
    go_wp2_with fail
    have hwr : IntKind.i64.wrap ((p : Int) + k) = p + k := IntWalk.i64_in _ (by omega)
    have hq1 : ((p : Int) + k == p + k) = true := by simp
    have hq2 : decide ((p : Int) + k ≤ n) = true := decide_eq_true (by omega)
    go_quiet (fail)
    go_wp2
    go_ret
    exact ⟨rfl, below_drewN HH.out _⟩
end Go.Proofs.Ytdojfkiocojpgaa
