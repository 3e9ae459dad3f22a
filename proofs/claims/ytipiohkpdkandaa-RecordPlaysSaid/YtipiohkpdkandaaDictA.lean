/-
  slices.Index and 'ahead': walks. Conditions: none.
-/
import Derived.Test.YtipiohkpdkandaaProg
import Derived.Test.YtipiohkpdkandaaMap
import Derived.StillTailTactics
import Derived.Deep.RegionLaw
namespace Go.Proofs.Ytipiohkpdkandaa
set_option linter.unusedVariables false
set_option linter.unusedSimpArgs false
open Go.RowKit

def ints (l : List Nat) : List Value := l.map fun (s : Nat) => .int .i64 (s : Int)
theorem ints_length (l : List Nat) : (ints l).length = l.length := by simp [ints]
theorem ints_get {l : List Nat} {i s : Nat} (h : l[i]? = some s) : (ints l)[i]? = some (.int .i64 (s : Int)) := by simp [ints, h]
theorem ints_oneCell (l : List Nat) : ∀ u ∈ ints l, u.oneCell' = true := by
  intro u hu
  obtain ⟨_, _, rfl⟩ := List.mem_map.1 hu
  rfl

set_option maxRecDepth 100000 in
theorem index_any (O : Option Addr) (n c : Nat) (l : List Nat) (s : Nat) (w : World) (hr : Rd w O n (ints l)) (hs : s ∈ l) (hn : n ≤ 64) :
    Calls Try.prog 68 #[.slice O n c, .int .i64 s] w fun e w' => e = .returned (.int .i64 (l.idxOf s : Nat)) ∧ w = w' := by
  have hl : l.length = n := by have := hr.len; rwa [ints_length] at this
  have hlt := List.idxOf_lt_length_of_mem hs
  obtain ⟨p, hp⟩ : ∃ p, l.idxOf s = p := ⟨_, rfl⟩
  have hpn : p < n := by omega
  have hps : l[p]? = some s := by rw [← hp, List.getElem?_eq_getElem hlt, List.getElem_idxOf hlt]
  have hbefore : ∀ i, i < p → ∀ x, l[i]? = some x → ¬ (s : Int) = x := by
    intro i hi x hx e
    obtain ⟨h1, h2⟩ := List.getElem?_eq_some_iff.1 hx
    have := List.not_of_lt_findIdx (p := (· == s)) (xs := l) (i := i) (by unfold List.idxOf at hp; omega)
    simp [h2] at this
    omega
  rw [hp]
  have HB := Lib.hid (And.intro hps hbefore)
  clear hp hs hlt hps hbefore
  go_enter Try.func68, Try.ntmps68
  go_wp2
  go_loopg [8] (p + 1) (fun gk v8 wr => ∃ i : Nat, v8 = .int .i64 i ∧ gk + i = p + 1 ∧ i ≤ p ∧ w = wr)
  case atStart => exact ⟨0, rfl, rfl, Nat.zero_le _, rfl⟩
  case round =>
    obtain ⟨i, rfl, hi, hip, rfl⟩ := hrel
    obtain ⟨x, hx⟩ : ∃ x, l[i]? = some x := ⟨_, List.getElem?_eq_getElem (by omega)⟩
    obtain ⟨ad, rfl, hc⟩ := hr.at (ints_get hx)
    by_cases hii : i = p
    · subst hii
      obtain rfl : x = s := Option.some.inj (hx.symm.trans HB.out.1)
      clear hx hr HB
      go_wp2
      go_ret
      exact ⟨rfl, rfl⟩
    · have hne : ((s : Int) == x) = false := by simpa using HB.out.2 i (by omega) x hx
      clear hx hr HB
      go_wp2
      go_roundg (p - i)
      case measure => omega
      case rel => exact ⟨i + 1, by go_num, by omega, by omega, rfl⟩

theorem ahead_list {l : List Nat} {p n : Nat} (hl : l.length = n) (hp : p < n) (x : Nat) : (splice (ints l) 1 ((ints l).take p)).set 0 (.int .i64 (x : Int)) = ints (x :: l.eraseIdx p) := by
  unfold splice
  cases l with
  | nil => simp at hl; omega
  | cons y l =>
    simp only [ints, List.map_cons, List.take_succ_cons, List.take_zero, List.cons_append, List.nil_append, List.set_cons_zero, List.eraseIdx_eq_take_drop_succ, List.map_append, List.map_take, List.map_drop]
    congr 2
    rw [List.length_take, List.length_cons, List.length_map, Nat.min_eq_left (by simp at hl; omega), Nat.add_comm]

theorem szInt : (Try.prog.info? 3).map (·.size) = some 1 := by kernel_rfl

set_option maxRecDepth 100000 in
theorem ahead_any (g n c : Nat) (l : List Nat) (p x : Nat) (w : World) (hr : Row w 3 (some ⟨g, 0, none⟩) n c (ints l)) (hx : l[p]? = some x) (hn : n ≤ 64) :
    Calls Try.prog 67 #[.slice (some ⟨g, 0, none⟩) n c, .int .i64 p] w fun e w' => e = .returned (.tuple #[]) ∧ Row w' 3 (some ⟨g, 0, none⟩) n c (ints (x :: l.eraseIdx p)) ∧ Upd w w' (fun b => b = g) := by
  have hl : l.length = n := by have := hr.len; rwa [ints_length] at this
  have hpn : p < n := by have := (List.getElem?_eq_some_iff.1 hx).1; omega
  have hc := hr.cell (ints_get hx)
  have hle := hr.le
  obtain ⟨X1, hs1, hX1⟩ := run_sub_lh (P := Try.prog) Try.underlying55 szInt (some ⟨g, 0, none⟩) n c 1 (p + 1) (by omega) (by omega)
  have hs2 := run_sub_h (P := Try.prog) Try.underlying55 szInt (some ⟨g, 0, none⟩) n c p (by omega)
  have hw1 : IntKind.i64.wrap ((p : Int) + 1) = (p : Int) + 1 := IntWalk.i64_in _ (by omega)
  rw [show ((p + 1 : Nat) : Int) = (p : Int) + 1 by omega, show ((1 : Nat) : Int) = 1 by rfl, show p + 1 - 1 = p by omega] at hs1
  have hX : 0 < p → X1 = some ⟨g, 1, none⟩ := fun h => by rw [hX1 (by omega)]; rfl
  have HX := Lib.hid hX
  have HR := Lib.hid hr
  clear hX1 hX hr
  go_enter Try.func67, Try.ntmps67
  go_wp2
  go_still_tail 7, (by kernel_rfl)
  change wpList _ _ _ _ _ w.drew
  have hrow := HR.out.drew
  have hrd := (hrow.rd.take (m := p) (by omega))
  refine row_copy rfl (.tmp 12) (.tmp 15) 55 55 rfl 3 Try.underlying55 szInt X1 (some ⟨g, 0, none⟩) p (c - 1) p c rfl rfl g 1 n c 3 (ints l) ((ints l).take p) hrow hrd (fun u hu => ints_oneCell l u (List.mem_of_mem_take hu)) p (Nat.min_self p).symm (by omega) HX.out ?_
  intro w1 h1 h2
  rw [List.take_take, Nat.min_self] at h1
  have hst := h1.store 0 (.int .i64 (x : Int))
  rw [ahead_list hl hpn] at hst
  have hu : Upd w (w1.setCell ⟨g, 0, none⟩ (.int .i64 (x : Int))) (fun b => b = g) := (((Upd.refl w _).drew).trans h2 (fun _ _ h => h)).setCell (fun _ => rfl) _
  obtain ⟨u, hu0⟩ : ∃ u, (splice (ints l) 1 ((ints l).take p))[0]? = some u := ⟨_, List.getElem?_eq_getElem (by have := h1.len; omega)⟩
  have hc0 := h1.cell hu0
  have hf0 := h1.free 0
  have HH := Lib.hid (And.intro hst hu)
  clear h1 h2 hst hu hu0 hrow hrd hs1 hs2 hw1 hc
  go_wp2
  go_end0
  exact ⟨rfl, HH.out.1, HH.out.2⟩
end Go.Proofs.Ytipiohkpdkandaa
