/-
  The reference's dictionary: Clone: walk. Conditions: none.
-/
import Derived.Test.YtipiohkpdkandaaRefU
import Derived.Deep.AppendLies
import Derived.Deep.RegionHeld3
namespace Go.Proofs.Ytipiohkpdkandaa
set_option linter.unusedVariables false
set_option linter.unusedSimpArgs false
open Go.RowKit
theorem RowN.of_own {w : World} {e : TypeId} {k : Nat} {A : Option Addr} {n c : Nat} {xs : List Value} (h : w.ownsRow 0 e k (.slice A n c) n xs) : RowN w e k A n c xs := by
  refine ⟨h.1, ?_⟩
  rcases h.2 with ⟨h1, h2⟩ | ⟨g, cap, cur, h1, _, h2, h3, h4, h5, h6⟩
  · injection h1 with h1 h1b h1c
    exact .inl ⟨h1, h2, h1c⟩
  · injection h1 with h1 h1b h1c
    subst h1c
    exact .inr ⟨g, cur, h1, h2, h3, h4, h5, h6⟩
def RefIs (w : World) (q g room cap : Nat) (now : Int) (w' : World) : Prop :=
  w'.cell? ⟨q, 0, none⟩ = some (.slice (some ⟨g, 0, none⟩) room cap) ∧ w'.cell? ⟨q, 1, none⟩ = some (.int .i64 now) ∧ Below w.heap.size w w'
set_option maxRecDepth 100000 in
set_option maxHeartbeats 4000000 in
theorem refClone_any {w : World} {q : Nat} {d : DD} {N : Int} {S : Nat → Prop} (h : RefAt w q d N S) :
    Calls Try.prog 33 #[.pointer (some ⟨q, 0, none⟩)] w fun e w' => ∃ p, e = .returned (.pointer (some ⟨p, 0, none⟩)) ∧ RefNew w d N p w' := by
  obtain ⟨g, cap, us, now, hB, hNow, hS⟩ := h
  have hr64 := hB.inv.inv.hi
  have hlo := hB.inv.inv.lo
  have HB := Lib.hid hB
  have hlt := hB.lt
  have hgt := hB.glt
  have c0 := hB.c0
  have c1 := hB.c1
  obtain ⟨room, hroom⟩ : ∃ room, d.room = room := ⟨_, rfl⟩
  rw [hroom] at c0 hr64 hlo
  have HR := Lib.hid hroom
  have HK : ∀ w', Below w.heap.size w w' → RefIs w q g room cap now w' := fun w' hb => by
    have h1 := HB.out.below hb
    exact ⟨by rw [← HR.out]; exact h1.c0, h1.c1, hb⟩
  have hnews : ∀ w', Below w.heap.size w w' → ∀ j u, (pairs (keyAt d) us room)[j]? = some u → w'.cell? ((⟨g, 0, none⟩ : Addr).add j) = some u := fun w' hb j u hu => by
    rw [addr_add]
    rw [← HR.out] at hu
    exact (HB.out.below hb).row.cell hu
  have hnl : (pairs (keyAt d) us room).length = room * 2 := pairs_length _ _ _
  have h1c := pairs_oneCell (keyAt d) us room
  obtain ⟨ps, hps⟩ : ∃ ps, pairs (keyAt d) us room = ps := ⟨_, rfl⟩
  rw [hps] at hnews hnl h1c
  have HPS := Lib.hid hps
  obtain ⟨i0, hi0, hzz⟩ := Option.map_eq_some_iff.1 infoSlot
  simp only [Prod.mk.injEq] at hzz
  obtain ⟨hz0, hz1, hz2⟩ := hzz
  have B0 : Below w.heap.size w w := Below.refl _ _
  have BA : Below w.heap.size w (w.alloc (.cells #[] 136)).drew := (below_alloc B0 _).drew
  have hown : ∀ w' : World, (w'.alloc (.cells #[] 136)).ownsRow 0 136 2 (.slice (some ⟨w'.heap.size, 0, none⟩) 0 0) 0 [] := fun w' =>
    ⟨rfl, .inr ⟨_, 0, #[], rfl, Nat.zero_le _, heap_alloc_new w' _, Nat.le_refl _, Nat.zero_le _, rfl, rfl⟩⟩
  clear hB hS hroom hps
  go_enter Try.func33, Try.ntmps33
  go_wp2_with fail
  go_region_held3 (fun w' => w'.cell? ⟨q, 0, none⟩ = some (.slice (some ⟨g, 0, none⟩) room cap) ∧ w'.cell? ⟨q, 1, none⟩ = some (.int .i64 now) ∧ Below w.heap.size w w')
    (first | exact HK _ (by assumption) | exact HK _ (Below.drew (by assumption)) | exact HK _ (below_alloc (by assumption) _) | exact HK _ (Below.drew (below_alloc (by assumption) _)) | go_keep)
    ((refine step_append_lies _ (by rfl) _ _ _ (by rfl) 0 136 i0 _ 2 24 Try.underlying114 hi0 hz0 hz1 hz2 rfl (by omega) (.slice (some ⟨w.heap.size, 0, none⟩) 0 0) 0 [] (by rfl) (by first | exact hown _ | exact (hown _).drew)
        ⟨g, 0, none⟩ room cap ps (by rfl) hnl (hnews _ BA) h1c (by omega) (by unfold maxLen; omega) (by omega) (Nat.zero_le _) (w.heap.size + 1) (by simp) ?_; intro gg cap1 w1 hown1 hgrow hat hlt1; have hb1 := BA.grown hgrow (by simp) (by intro k hk; simp [Value.ownBlock] at hk; omega)))
  have hrow := RowN.of_own hown1
  simp only [Nat.zero_add, List.nil_append] at hrow
  have hgg : w.heap.size ≤ gg := by
    rcases hat with h | h
    · have h' : w.heap.size = gg := by simpa [Value.ownBlock] using h
      omega
    · omega
  have HX := Lib.hid (And.intro hrow (And.intro hgg hb1))
  clear hown1 hgrow hat hlt1 hb1 hrow hgg hown hnews HK BA B0 hi0 hz0 hz1 hz2
  go_wp2
  go_ret
  have hs := HX.out.2.2.size
  refine ⟨w1.heap.size, rfl, _, RefB.at (g := gg) (cap := cap1) (us := us) (now := now) ⟨?_, ?_, HB.out.inv⟩ hNow, ?_, HX.out.2.2.alloc hs _⟩
  · rw [HR.out]; exact heap_alloc_new w1 _
  · rw [HR.out, HPS.out]; exact HX.out.1.alloc _
  · rintro b (rfl | rfl)
    · exact hs
    · exact HX.out.2.1
end Go.Proofs.Ytipiohkpdkandaa
