/-
  Use of a key that has no slot where all slots are taken: walk; Use for every key. Conditions: none.
-/
import Derived.Test.YtipiohkpdkandaaDictU
namespace Go.Proofs.Ytipiohkpdkandaa
set_option linter.unusedVariables false
set_option linter.unusedSimpArgs false
open Go.RowKit

theorem DictB.heapEq {w w' : World} {p M n ck co : Nat} {K O : Option Addr} {d : DD} (h : DictB w p M K O n ck co d) (e : w'.heap = w.heap) : DictB w' p M K O n ck co d :=
  ⟨h.len, by rw [e]; exact h.head, h.keys.block (fun g hg => by rw [e]), h.order.block (fun g hg => by rw [e]), h.map.block (by rw [e]), h.inv⟩

set_option maxRecDepth 100000 in
set_option maxHeartbeats 1000000 in
theorem use_full {w : World} {p : Nat} {d : DD} {S : Nat → Prop} (h : DictAt w p d S) (k : ByteArray) (hk : keyOk k) (hm : k ∉ d.keys) (hroom : ¬ d.keys.length < d.room) :
    Calls Try.prog 26 #[.pointer (some ⟨p, 0, none⟩), .string k] w (UseYes w p d k S) := by
  have hk1 := hk.1
  have hk2 := hk.2
  have hkm : k.size ≤ maxLen := by unfold maxLen; omega
  have hl := look_any h k hkm
  obtain ⟨M, K, O, n, ck, co, hB, hS⟩ := h
  have e1 : lookF d k = -1 := by unfold lookF; rw [if_neg hm]
  have e2 : useF d k = (⟨d.room, d.keys.set (oldest d) k, front (oldest d) d.order⟩, oldest d, false) := by unfold useF; rw [if_neg hm, if_neg hroom]
  rw [e1] at hl
  have hlen := hB.len
  have hle := hB.inv.le
  have hlo := hB.inv.lo
  have hr64 := hB.inv.hi
  have hrn : d.room = n := by omega
  have hn1 : 1 ≤ n := by omega
  have hol := hB.inv.len
  obtain ⟨s, hs⟩ : ∃ s, oldest d = s := ⟨_, rfl⟩
  have hos : d.order[n - 1]? = some s := by
    have : oldest d = d.order[n - 1]?.getD 0 := by unfold oldest; rw [hol, hlen]
    rw [List.getElem?_eq_getElem (by omega)] at this ⊢
    simp at this
    rw [← this, hs]
  have hsm : s ∈ d.order := List.mem_of_getElem? hos
  have hsk := hB.inv.below s hsm
  obtain ⟨old, hold⟩ : ∃ old, d.keys[s]? = some old := ⟨_, List.getElem?_eq_getElem hsk⟩
  have hoks := hB.inv.ok old (List.mem_of_getElem? hold)
  obtain ⟨gk, hK⟩ : ∃ g, K = some ⟨g, 0, none⟩ := by
    rcases hB.keys.form with ⟨_, h0, _⟩ | ⟨g, _, h0, _⟩
    · omega
    · exact ⟨g, h0⟩
  obtain ⟨go, hO⟩ : ∃ g, O = some ⟨g, 0, none⟩ := by
    rcases hB.order.form with ⟨_, h0, _⟩ | ⟨g, _, h0, _⟩
    · omega
    · exact ⟨g, h0⟩
  subst hK
  subst hO
  rw [hs] at e2
  have c0 := hB.c0
  rw [hrn] at c0
  have c1 := hB.c1
  have c3 := hB.c3
  have co1 : w.cell? ⟨go, n - 1, none⟩ = some (.int .i64 (s : Int)) := hB.order.cell (ints_get hos)
  have ck1 : w.cell? ⟨gk, s, none⟩ = some (.string old) := hB.keys.cell (strs_get hold)
  have hsn : s < n := by omega
  have hn64 : n ≤ 64 := by omega
  have E2 := Lib.hid e2
  have HS := Lib.hid hS
  have HB := Lib.hid hB
  have HM := Lib.hid hm
  have HI := Lib.hid (And.intro hlen (And.intro hrn (And.intro hsm (And.intro hold hoks))))
  have hw1 : IntKind.i64.wrap ((n : Int) - 1) = (n : Int) - 1 := IntWalk.i64_in _ (by omega)
  have hq1 : ((n : Int) - 1).toNat = n - 1 := by omega
  have hq2 : (0 : Int) ≤ (n : Int) - 1 := by omega
  have hq3 : ((n : Int) - 1) < n := by omega
  clear hk hm hB hS e1 e2 hlen hrn hos hsm hold hle hlo hr64 hol hs hroom hsk hoks
  go_enter Try.func26, Try.ntmps26
  go_wp2_with fail
  refine hl.mono ?_
  rintro e w1 ⟨rfl, rfl⟩
  clear hl
  go_wp2_with fail
  go_quiet (fail)
  obtain ⟨w2, hw2⟩ : ∃ w2, w.drewN nq = w2 := ⟨_, rfl⟩
  rw [hw2]
  have hu2 : Upd w w2 (fun _ => False) := by rw [← hw2]; exact ⟨rfl, rfl, rfl, Nat.le_refl _, fun _ _ _ => rfl⟩
  have hB2 := HB.out.heapEq (w' := w2) (by rw [← hw2]; rfl)
  clear hw2 c0 c1 c3 co1 ck1
  have HU2 := Lib.hid hu2
  have HB2 := Lib.hid hB2
  have ck1 : w2.cell? ⟨gk, s, none⟩ = some (.string old) := HB2.out.keys.cell (strs_get HI.out.2.2.2.1)
  have c1 := HB2.out.c1
  have c2 := HB2.out.c2
  clear hu2 hB2
  go_wp2_with fail
  go_still_tail 11, (by kernel_rfl)
  change wpList _ _ _ _ _ w2.drew
  have hmw : MapIs w2.drew M _ := HB2.out.map.block rfl
  (refine map_del rfl (.tmp 71) (.tmp 78) 109 9 rfl Try.underlying109 Try.underlying9 M _ rfl hmw old rfl (by unfold maxLen; have := HI.out.2.2.2.2.2; omega) s HI.out.2.2.2.1 ?_)
  intro w3 m1 m2
  have hu3 : Upd w2 w3 (fun b => b = M) := ((Upd.refl w2 _).drew).trans m2 (fun _ _ h => h)
  have hpM := HB2.out.pM
  have k1 : w3.cell? ⟨p, 1, none⟩ = some (.slice (some ⟨gk, 0, none⟩) n ck) := hu3.cell c1 (fun h => hpM h)
  have k2 : w3.cell? ⟨p, 2, none⟩ = some (.map (some M)) := hu3.cell c2 (fun h => hpM h)
  have hkr := HB2.out.keys.kept hu3 (fun g hg h => HB2.out.KM (h ▸ hg))
  have hor := HB2.out.order.kept hu3 (fun g hg h => HB2.out.OM (h ▸ hg))
  have hhd := (hu3.block p HB2.out.lt (fun h => hpM h)).trans HB2.out.head
  have kf := hkr.free s
  have kc : w3.cell? ⟨gk, s, none⟩ = some (.string old) := hkr.cell (strs_get HI.out.2.2.2.1)
  have hst := hkr.store s (.string k)
  have hgp : gk ≠ p := fun e => HB2.out.pK (by rw [← e]; rfl)
  have hgM : gk ≠ M := fun e => HB2.out.KM (by rw [← e]; rfl)
  have hgO : gk ≠ go := fun e => HB2.out.KO (g := gk) rfl (by rw [e]; rfl)
  have k2' : (w3.setCell ⟨gk, s, none⟩ (.string k)).cell? ⟨p, 2, none⟩ = some (.map (some M)) := ((Upd.refl w3 (fun b => b = gk)).setCell (a := ⟨gk, s, none⟩) (fun _ => rfl) (.string k)).cell k2 (fun h => hgp h.symm)
  have hmB : MapIs (w3.setCell ⟨gk, s, none⟩ (.string k)) M _ := m1.block (Below.heap_setCell _ _ _ _ (fun e => hgM e.symm))
  have hor2 : Row (w3.setCell ⟨gk, s, none⟩ (.string k)) 3 (some ⟨go, 0, none⟩) n co (ints d.order) := hor.block (fun g hg => Below.heap_setCell _ _ _ _ (fun e => hgO (by have e : g = gk := e; rw [← e]; simpa [blk] using hg.symm)))
  have hhd2 : (w3.setCell ⟨gk, s, none⟩ (.string k)).heap[p]? = _ := (Below.heap_setCell _ _ _ _ (fun e => hgp e.symm)).trans hhd
  have huB : Upd w (w3.setCell ⟨gk, s, none⟩ (.string k)) (fun b => b = M ∨ b = gk) := (((HU2.out.mono (fun _ _ h => h.elim)).trans hu3 (fun b _ h => .inl h))).setCell (a := ⟨gk, s, none⟩) (fun _ => .inr rfl) _
  have HX := Lib.hid (And.intro hst (And.intro hor2 (And.intro hhd2 huB)))
  clear hkr hor hhd hst hor2 hhd2 huB m1 m2 hu3 k2 hmw c1 c2 ck1
  go_wp2_with (at_mapUpdate; go_must (refine map_put rfl (.tmp 89) (.tmp 90) (.tmp 91) 109 rfl Try.underlying109 Try.underlying9 M _ rfl hmB k rfl hkm s rfl (fun v hv => HM.out (List.mem_of_getElem? hv.1)) ?_))
  intro w4 m1 m2
  have hM : Hid (MapIs w4 M (fun k' v' => (d.keys.set s k)[v']? = some k')) := m1.congr (fun k' v' => by rw [get_set HB2.out.inv.nodup HI.out.2.2.2.1])
  have hMp : M ≠ p := fun e => hpM e.symm
  have hD : DictB w4 p M (some ⟨gk, 0, none⟩) (some ⟨go, 0, none⟩) n ck co ⟨d.room, d.keys.set s k, d.order⟩ := by
    refine ⟨by simp [HI.out.1], (m2.block p ((Array.getElem?_eq_some_iff.1 HX.out.2.2.1).1) (fun e => hpM e)).trans HX.out.2.2.1, ?_, ?_, hM.out, HB2.out.inv.swap ⟨hk1, hk2⟩ HM.out s⟩
    · have := HX.out.1.kept m2 (fun g hg e => hgM (by rw [← e]; simpa [blk] using hg))
      rw [show strs (d.keys.set s k) = (strs d.keys).set s (.string k) by simp [strs, List.map_set]]
      exact this
    · exact HX.out.2.1.kept m2 (fun g hg e => HB2.out.OM (by rw [hg, e]))
  have hused := used_any hD (s := s) (by simp; rw [HI.out.1]; exact hsn)
  have hu4 : Upd w w4 (fun b => b = M ∨ b = gk) := HX.out.2.2.2.trans m2 (fun b _ h => .inl h)
  have HU := Lib.hid hu4
  clear hD m1 m2 hmB hu4 k2'
  go_wp2_with fail
  refine hused.mono ?_
  rintro e w5 ⟨rfl, d1, d2⟩
  have HZ := Lib.hid (And.intro d1 d2)
  clear hused d1 d2
  go_wp2
  go_ret3
  refine ⟨S, by rw [E2.out]; rfl, by rw [E2.out]; exact ⟨M, some ⟨gk, 0, none⟩, some ⟨go, 0, none⟩, n, ck, co, HZ.out.1, HS.out⟩, ?_, fun b hb => .inl hb⟩
  have h1 : Upd w w4 (fun b => S b) := HU.out.mono (fun b _ h => (HS.out b).2 (by
    rcases h with h | h
    · exact .inr (.inl h)
    · exact .inr (.inr (.inl (by rw [h]; rfl)))))
  exact h1.trans HZ.out.2 (fun b _ h => (HS.out b).2 (.inr (.inr (.inr h))))

theorem use_any {w : World} {p : Nat} {d : DD} {S : Nat → Prop} (h : DictAt w p d S) (k : ByteArray) (hk : keyOk k) :
    Calls Try.prog 26 #[.pointer (some ⟨p, 0, none⟩), .string k] w (UseYes w p d k S) := by
  by_cases hm : k ∈ d.keys
  · exact use_had h k hk hm
  · by_cases hr : d.keys.length < d.room
    · exact use_new h k hk hm hr
    · exact use_full h k hk hm hr
end Go.Proofs.Ytipiohkpdkandaa
