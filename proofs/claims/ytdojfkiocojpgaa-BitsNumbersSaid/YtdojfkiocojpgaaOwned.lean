/-
  The walk of 'owned': lists that are their owner's are written over and grown, each reads its own mark in the end. Conditions: none.
-/
import Derived.Test.YtdojfkiocojpgaaBack
namespace Go.Proofs.Ytdojfkiocojpgaa
set_option linter.unusedVariables false
set_option linter.unusedSimpArgs false
open Go.RowKit

/-- a slice: address, length, capacity -/
abbrev SL := Option Addr × Nat × Nat
def sv (r : SL) : Value := .slice r.1 r.2.1 r.2.2
def Apart (A A' : Option Addr) : Prop := ∀ g, blk A = some g → blk A' ≠ some g
def mark (t : Nat) : Value := .int .u8 (1 + (t : Int))
def marks (n t : Nat) : List Value := List.replicate n (mark t)
theorem marks_succ (n t : Nat) : marks (n + 1) t = marks n t ++ [mark t] := by simp [marks, List.replicate_succ']
theorem marks_front (n k t : Nat) : marks (n + k) t = marks n t ++ marks k t := by simp [marks, List.replicate_append_replicate]

/-- What is so at the head of the outer loop. -/
structure OwnInv (B : Nat) (rs : List SL) (G m : Nat) (w0 : World) (i : Nat) (L : List SL) (A3 : Option Addr) (c3 : Nat) (w : World) : Prop where
  long : Row w 23 A3 (2 * i) c3 (L.map sv)
  rows : Row w 23 (some ⟨G, 0, none⟩) m m (rs.map sv)
  apart : blk A3 ≠ some G
  rest : ∀ j r, i ≤ j → rs[j]? = some r → ∃ xs, Row w 5 r.1 r.2.1 r.2.2 xs
  done : ∀ t s, L[t]? = some s → Row w 5 s.1 s.2.1 s.2.2 (marks s.2.1 (t / 2)) ∧ s.2.1 ≤ 29 ∧ ∀ j r, i ≤ j → rs[j]? = some r → Apart s.1 r.1
  lowL : ∀ s ∈ L, ∀ g, blk s.1 = some g → B ≤ g
  low3 : ∀ g, blk A3 = some g → B ≤ g
  below : Below B w0 w

theorem OwnInv.step {B : Nat} {rs : List SL} {G m : Nat} {w0 : World} {i : Nat} {L : List SL} {A3 : Option Addr} {c3 : Nat} {w : World} (h : OwnInv B rs G m w0 i L A3 c3 w) {A A6 : Option Addr} {n c c6 : Nat} (hr : rs[i]? = some (A, n, c)) (hn : n ≤ 9)
    (hap : ∀ j r, i < j → rs[j]? = some r → Apart A r.1) (hlow : ∀ g, blk A = some g → B ≤ g) (hBw : B ≤ w.heap.size)
    {w2 w3 : World} {A4 : Option Addr} {c4 : Nat} (hu : Upd w w2 (fun k => blk A = some k)) (hA6 : Row w2 5 A6 (n + 20) c6 (marks (n + 20) i)) (hA : Row w2 5 A n c (marks n i)) (h6 : blk A6 = blk A ∨ ∃ b, blk A6 = some b ∧ w.heap.size ≤ b)
    (hg : Grew (w2.alloc (.cells #[.slice A6 (n + 20) c6, .slice A n c] 23)) w3 A3 A4 c3 c4)
    (hrow : Row w3 23 A4 (2 * i + 2) c4 (L.map sv ++ [.slice A6 (n + 20) c6, .slice A n c])) :
    OwnInv B rs G m w0 (i + 1) (L ++ [(A6, n + 20, c6), (A, n, c)]) A4 c4 w3 := by
  have hlong2 := h.long.kept hu (fun g hg hA2 => (h.rest i _ (Nat.le_refl _) hr).elim fun xs hx => hx.type_ne h.long (by decide) hA2 hg)
  have hu2 : Upd w w3 (fun k => blk A = some k ∨ blk A3 = some k) := ((hu.alloc _).mono (fun _ _ h => .inl h)).trans hg.upd (fun b _ h => .inr h)
  have hu3 : Upd w2 w3 (fun k => blk A3 = some k) := ((Upd.refl w2 _).alloc _).trans hg.upd (fun b _ h => h)
  have keep5 : ∀ {A' : Option Addr} {n' c' : Nat} {xs : List Value}, Row w 5 A' n' c' xs → Apart A' A → Row w3 5 A' n' c' xs := fun hx hne =>
    hx.kept hu2 (fun g hg h' => h'.elim (hne g hg) (fun h3 => hx.type_ne h.long (by decide) hg h3))
  have keep52 : ∀ {A' : Option Addr} {n' c' : Nat} {xs : List Value}, Row w2 5 A' n' c' xs → Row w3 5 A' n' c' xs := fun hx =>
    hx.kept hu3 (fun g hg h' => hx.type_ne hlong2 (by decide) hg h')
  have hblkG : ∀ {A' : Option Addr}, Apart A A' → Apart A' A := fun h g h1 h2 => h g h2 h1
  constructor
  · rw [List.map_append]; exact hrow
  · exact h.rows.kept hu2 (fun g hg h' => by
      have : g = G := by simpa [blk] using hg.symm
      subst this
      rcases h' with h' | h'
      · obtain ⟨xs, hx⟩ := h.rest i _ (Nat.le_refl _) hr
        exact hx.type_ne h.rows (by decide) h' rfl
      · exact h.apart h')
  · intro h4
    rcases hg.at with h5 | h5
    · exact h.apart (h5 ▸ h4)
    · rw [h5] at h4; injection h4 with h4
      have := h.rows.lt (g := G) rfl
      have := hu.size
      simp at h4
      omega
  · intro j r hj hrj
    obtain ⟨xs, hx⟩ := h.rest j r (by omega) hrj
    exact ⟨xs, keep5 hx (hblkG (hap j r (by omega) hrj))⟩
  · intro t s hs
    have hL : L.length = 2 * i := by have := h.long.len; rwa [List.length_map] at this
    by_cases ht : t < L.length
    · rw [List.getElem?_append_left ht] at hs
      obtain ⟨h1, h2, h3⟩ := h.done t s hs
      exact ⟨keep5 h1 (h3 i _ (Nat.le_refl _) hr), h2, fun j r hj hrj => h3 j r (by omega) hrj⟩
    · rw [List.getElem?_append_right (by omega)] at hs
      have h01 : t - L.length = 0 ∨ t - L.length = 1 := by
        have := (List.getElem?_eq_some_iff.1 hs).1
        simp at this
        omega
      rcases h01 with h0 | h0
      · rw [h0] at hs
        obtain rfl : (A6, n + 20, c6) = s := Option.some.inj hs
        rw [show t / 2 = i by omega]
        refine ⟨keep52 hA6, by dsimp only; omega, fun j r hj hrj g hg => ?_⟩
        rcases h6 with h6 | ⟨b, h6, hb⟩
        · exact hap j r (by omega) hrj g (h6 ▸ hg)
        · dsimp only at hg
          rw [h6] at hg
          injection hg with hg
          intro h7
          obtain ⟨xs, hx⟩ := h.rest j r (by omega) hrj
          have := hx.lt h7
          omega
      · rw [h0] at hs
        obtain rfl : (A, n, c) = s := Option.some.inj hs
        rw [show t / 2 = i by omega]
        exact ⟨keep52 hA, by dsimp only; omega, fun j r hj hrj => hap j r (by omega) hrj⟩
  · intro s hs g hg
    rcases List.mem_append.1 hs with hs | hs
    · exact h.lowL s hs g hg
    · rcases List.mem_cons.1 hs with rfl | hs
      · rcases h6 with h6 | ⟨b, h6, hb⟩
        · exact hlow g (h6 ▸ hg)
        · dsimp only at hg; rw [h6] at hg; injection hg with hg; omega
      · rcases List.mem_cons.1 hs with rfl | hs
        · exact hlow g hg
        · cases hs
  · intro g hg4
    rcases hg.at with h5 | h5
    · exact h.low3 g (h5 ▸ hg4)
    · rw [h5] at hg4; injection hg4 with hg4
      have := hu.size
      simp at hg4
      omega
  · exact h.below.trans (hu2.below hBw (fun k _ hk => hk.elim (hlow k) (h.low3 k)))

theorem infoBytes : (Try.prog.info? 23).map (fun i => (i.zero, i.size, i.bytes)) = some (some (.slice none 0 0), 1, 24) := by kernel_rfl

theorem set_mark {xs : List Value} {k n i : Nat} (h : xs.take k = marks k i) (hl : xs.length = n) (hk : k < n) : (xs.set k (mark i)).take (k + 1) = marks (k + 1) i := by
  rw [marks_succ, ← h]
  apply List.ext_getElem?
  intro j
  rw [List.getElem?_take]
  by_cases h1 : j < k
  · rw [if_pos (by omega), List.getElem?_set_ne (by omega), List.getElem?_append_left (by simp; omega), List.getElem?_take, if_pos h1]
  · by_cases h2 : j = k
    · subst h2
      rw [if_pos (by omega), List.getElem?_set_self (by omega), List.getElem?_append_right (by rw [List.length_take]; omega)]
      rw [List.length_take, Nat.min_eq_left (by omega), Nat.sub_self]
      rfl
    · rw [if_neg (by omega), List.getElem?_eq_none (by simp; omega)]

theorem grow_step {w2 wr w3 : World} {e : TypeId} {A A6 A7 : Option Addr} {k j c c6 c7 i : Nat} {o : Obj} (h0 : Row w2 e A k c (marks k i)) (h1 : Row wr e A6 (k + j) c6 (marks (k + j) i))
    (h2 : (A6 = A ∧ c6 = c) ∨ (Row wr e A k c (marks k i) ∧ ∃ b, blk A6 = some b ∧ w2.heap.size ≤ b)) (h3 : Upd w2 wr (fun b => blk A = some b)) (hg : Grew (wr.alloc o) w3 A6 A7 c6 c7) :
    ((A7 = A ∧ c7 = c) ∨ (Row w3 e A k c (marks k i) ∧ ∃ b, blk A7 = some b ∧ w2.heap.size ≤ b)) ∧ Upd w2 w3 (fun b => blk A = some b) := by
  have hs := h3.size
  rcases h2 with ⟨rfl, rfl⟩ | ⟨h2, b, h4, h5⟩
  · refine ⟨?_, (h3.alloc _).trans hg.upd (fun b _ h => h)⟩
    rcases hg with ⟨rfl, rfl, hu⟩ | ⟨h6, hu⟩
    · exact .inl ⟨rfl, rfl⟩
    · refine .inr ⟨?_, _, h6, by simp; omega⟩
      rw [marks_front] at h1
      exact ((h1.front (n := k) (by simp [marks])).alloc _).kept hu (fun _ _ h => h)
  · have hne : ∀ g, blk A = some g → ¬ blk A6 = some g := fun g hg h => by
      rw [h4] at h; injection h with h
      have := h0.lt hg; omega
    refine ⟨.inr ⟨(h2.alloc _).kept hg.upd hne, ?_⟩, (h3.alloc _).trans hg.upd (fun b' hb' h => by rw [h4] at h; injection h with h; omega)⟩
    rcases hg.at with h6 | h6
    · exact ⟨b, h6.trans h4, h5⟩
    · exact ⟨_, h6, by simp; omega⟩

set_option maxRecDepth 100000 in
set_option maxHeartbeats 8000000 in
theorem owned_any (rs : List SL) (G m : Nat) (w : World) (B : Nat) (hm : m ≤ 3) (hBw : B ≤ w.heap.size) (hBG : B ≤ G)
    (hR : Row w 23 (some ⟨G, 0, none⟩) m m (rs.map sv)) (hrest : ∀ (j : Nat) (r : SL), rs[j]? = some r → ∃ xs, Row w 5 r.1 r.2.1 r.2.2 xs) (hlen : ∀ (j : Nat) (r : SL), rs[j]? = some r → r.2.1 ≤ 9)
    (hap : ∀ (i j : Nat) (r r' : SL), i < j → rs[i]? = some r → rs[j]? = some r' → Apart r.1 r'.1) (hlow : ∀ (j : Nat) (r : SL), rs[j]? = some r → ∀ g, blk r.1 = some g → B ≤ g) :
    Calls Try.prog 15 #[.slice (some ⟨G, 0, none⟩) m m] w fun e w' => e = .returned (.bool true) ∧ Below B w w' := by
  have hrl : rs.length = m := by have := hR.len; rwa [List.length_map] at this
  go_enter Try.func15, Try.ntmps15
  go_wp2_with fail
  go_loopg [3, 4] m (fun gk v3 v4 wr => ∃ (i : Nat) (L : List SL) (A3 : Option Addr) (c3 : Nat), v4 = .int .i64 i ∧ v3 = .slice A3 (2 * i) c3 ∧ gk + i = m ∧ OwnInv B rs G m w i L A3 c3 wr)
  case atStart => exact ⟨0, [], none, 0, rfl, rfl, rfl, ⟨Row.nil _ _, hR, (fun h => by cases h), fun j r _ h => hrest j r h, (fun t s h => by simp at h), (fun s h => by cases h), (fun g h => by cases h), Below.refl _ _⟩⟩
  case round =>
    obtain ⟨i, L, A3, c3, rfl, rfl, hgi, hI⟩ := hrel
    by_cases him : i < m
    · obtain ⟨⟨A, n, c⟩, hri⟩ : ∃ r, rs[i]? = some r := ⟨_, List.getElem?_eq_getElem (by omega)⟩
      obtain ⟨xs0, hx0⟩ := hI.rest i _ (Nat.le_refl _) hri
      have hn9 : n ≤ 9 := hlen i _ hri
      have hAG : blk A ≠ some G := fun h => hx0.type_ne hI.rows (by decide) h rfl
      have hcell : ∀ w2, Upd wr w2 (fun g => blk A = some g) → w2.cell? ⟨G, i, none⟩ = some (.slice A n c) := fun w2 hu =>
        (hI.rows.kept hu (fun g hg h => hAG (by have : g = G := by simpa [blk] using hg.symm
                                                rwa [← this]))).cell (by rw [List.getElem?_map, hri]; rfl)
      have HB := Lib.hid (And.intro hBw (And.intro hBG (And.intro hR (And.intro hrest (And.intro hlen (And.intro hap hlow))))))
      have HI := Lib.hid hI
      have HX := Lib.hid (And.intro hri hx0)
      clear hBw hBG hR hrest hlen hap hlow hI hri hx0 hrl hAG
      go_wp2_with fail
      obtain ⟨w1, rfl⟩ : ∃ w1 : World, w1 = wr := ⟨_, rfl⟩
      have hcell0 := hcell w1 (Upd.refl _ _)
      go_loopg [5] n (fun gk v5 wq => ∃ (k : Nat) (xs : List Value), v5 = .int .i64 k ∧ gk + k = n ∧ Row wq 5 A n c xs ∧ Hid (xs.take k = marks k i) ∧ Upd w1 wq (fun g => blk A = some g))
      case atStart => exact ⟨0, xs0, rfl, rfl, HX.out.2, rfl, Upd.refl _ _⟩
      case round =>
        clear hcell0
        obtain ⟨k, xs, rfl, hk, hrow, htk, hu⟩ := hrel
        have hc1 := hcell _ hu
        by_cases hkn : k < n
        · obtain ⟨g, hA⟩ : ∃ g, A = some ⟨g, 0, none⟩ := by
            rcases hrow.form with ⟨_, h, _⟩ | ⟨g, _, h, _⟩
            · omega
            · exact ⟨g, h⟩
          subst hA
          have hxl := hrow.len
          obtain ⟨u, hu1⟩ : ∃ u, xs[k]? = some u := ⟨_, List.getElem?_eq_getElem (by omega)⟩
          have hc2 := hrow.cell hu1
          have hf2 := hrow.free k
          have hst := hrow.store k (mark i)
          have hu2 : Upd w1 (wr.setCell ⟨g, k, none⟩ (mark i)) (fun b => blk (some (⟨g, 0, none⟩ : Addr)) = some b) := hu.setCell (a := ⟨g, k, none⟩) (fun _ => rfl) _
          have HH := Lib.hid (And.intro hst (And.intro (set_mark htk.out hxl hkn) hu2))
          clear hcell hrow htk hu hu1 hst hu2
          go_wp2
          go_roundg (n - k - 1)
          case measure => omega
          case rel => exact ⟨k + 1, xs.set k (mark i), by go_num, by omega, HH.out.1, HH.out.2.1, HH.out.2.2⟩
        · obtain rfl : k = n := by omega
          have hxs : xs = marks k i := by
            have := htk.out
            rwa [List.take_of_length_le (by rw [hrow.len]; exact Nat.le_refl _)] at this
          subst hxs
          clear htk
          go_wp2_with fail
          obtain ⟨w2, rfl⟩ : ∃ w2 : World, w2 = wr := ⟨_, rfl⟩
          have HR0 := Lib.hid hrow
          have HU := Lib.hid hu
          go_loopg [6, 7] (20 : Nat) (fun gk v6 v7 wq => ∃ (j : Nat) (A6 : Option Addr) (c6 : Nat), v6 = .slice A6 (k + j) c6 ∧ v7 = .int .i64 j ∧ gk + j = 20 ∧ Row wq 5 A6 (k + j) c6 (marks (k + j) i) ∧
            Hid ((A6 = A ∧ c6 = c) ∨ (Row wq 5 A k c (marks k i) ∧ ∃ b, blk A6 = some b ∧ w2.heap.size ≤ b)) ∧ Upd w2 wq (fun g => blk A = some g))
          case atStart => exact ⟨0, A, c, rfl, rfl, rfl, hrow, .inl ⟨rfl, rfl⟩, Upd.refl _ _⟩
          case round =>
            clear hrow hu hc1
            obtain ⟨j, A6, c6, rfl, rfl, hj, hrow6, hor, hu6⟩ := hrel
            by_cases hj20 : j < 20
            · clear hcell
              go_wp2_with (at_builtin; with_reducible refine row_append1_g rfl (.tmp 42) (.tmp 46) 23 5 (.int .u8 0) 1 rfl Try.underlying23 infoByte rfl (by decide) A6 (k + j) c6 (marks (k + j) i) (.int .u8 (1 + (i : Int))) rfl rfl rfl hrow6 (by omega) ?_)
              intro A7 c7 w3 a1 a2
              replace a1 : Row w3 5 A7 (k + j + 1) c7 (marks (k + j + 1) i) := by rw [marks_succ]; exact a1
              have hs := grow_step HR0.out hrow6 hor.out hu6 a2
              have HH := Lib.hid (And.intro a1 hs)
              clear hrow6 hor hu6 a1 a2 hs
              go_wp2
              go_roundg (19 - j)
              case measure => omega
              case rel => exact ⟨j + 1, A7, c7, rfl, by go_num, by omega, HH.out.1, HH.out.2.1, HH.out.2.2⟩
            · obtain rfl : j = 20 := by omega
              have hu12 : Upd w1 wr (fun g => blk A = some g) := HU.out.trans hu6 (fun b _ h => h)
              have hcw := hcell _ hu12
              have hlong : Row wr 23 A3 (2 * i) c3 (L.map sv) := HI.out.long.kept hu12 (fun g hg hA2 => HX.out.2.type_ne HI.out.long (by decide) hA2 hg)
              have hA : Row wr 5 A k c (marks k i) := by
                rcases hor.out with ⟨rfl, rfl⟩ | ⟨h, _⟩
                · rw [marks_front] at hrow6
                  exact hrow6.front (by simp [marks])
                · exact h
              have hbox : Rd (wr.alloc (.cells #[.slice A6 (k + 20) c6, .slice A k c] 23)) (some ⟨wr.heap.size, 0, none⟩) 2 [.slice A6 (k + 20) c6, .slice A k c] :=
                (Row.made (w := wr) (e := 23) #[.slice A6 (k + 20) c6, .slice A k c] 2 [.slice A6 (k + 20) c6, .slice A k c] (by simp) (by simp [maxLen]) (by simp)).rd
              have h6 : blk A6 = blk A ∨ ∃ b, blk A6 = some b ∧ w1.heap.size ≤ b := by
                rcases hor.out with ⟨rfl, rfl⟩ | ⟨_, b, h, hb⟩
                · exact .inl rfl
                · exact .inr ⟨b, h, by have := HU.out.size; omega⟩
              have HH := Lib.hid (And.intro hrow6 (And.intro hor (And.intro hu12 (And.intro hA h6))))
              clear hcell hrow6 hor hu6 hu12 hA h6
              go_wp2_with (at_builtin; with_reducible refine row_append_g rfl (.tmp 48) (.tmp 54) 29 23 (.slice none 0 0) 24 rfl Try.underlying29 infoBytes rfl (by decide) A3 (2 * i) c3 (L.map sv) (some ⟨wr.heap.size, 0, none⟩) 2 2 [.slice A6 (k + 20) c6, .slice A k c] rfl rfl (hlong.alloc _) hbox (by intro u hu; simp at hu; rcases hu with rfl | rfl <;> simp [Value.oneCell']) (by omega) ?_)
              intro A4 c4 w4 d1 d2
              have hnew : OwnInv B rs G m w (i + 1) (L ++ [(A6, k + 20, c6), (A, k, c)]) A4 c4 w4 :=
                HI.out.step HX.out.1 hn9 (fun j r hj hr => HB.out.2.2.2.2.2.1 i j _ r hj HX.out.1 hr) (HB.out.2.2.2.2.2.2 i _ HX.out.1)
                  (Nat.le_trans HB.out.1 HI.out.below.size) HH.out.2.2.1 HH.out.1 HH.out.2.2.2.1 HH.out.2.2.2.2 d2 d1
              have HN := Lib.hid hnew
              clear d1 d2 hlong hcw hbox HH hnew
              go_wp2
              go_roundg (m - i - 1)
              case measure => omega
              case rel => exact ⟨i + 1, _, A4, c4, by go_num, rfl, by omega, HN.out⟩
    · obtain rfl : i = m := by omega
      have hll : L.length = 2 * i := by have := hI.long.len; rwa [List.length_map] at this
      have hd := hI.done
      have hlg := hI.long
      have hbel := hI.below
      have HD := Lib.hid hd
      have HBL := Lib.hid hbel
      clear hI hd hbel hR hrest hlen hap hlow hrl hBw hBG
      go_wp2_with fail
      obtain ⟨w2, rfl⟩ : ∃ w2 : World, w2 = wr := ⟨_, rfl⟩
      go_loopg [8] (2 * i) (fun gk v8 wq => ∃ t : Nat, v8 = .int .i64 t ∧ gk + t = 2 * i ∧ w2 = wq)
      case atStart => exact ⟨0, rfl, rfl, rfl⟩
      case round =>
        obtain ⟨t, rfl, ht, rfl⟩ := hrel
        by_cases hti : t < 2 * i
        · obtain ⟨⟨A, n, c⟩, hs⟩ : ∃ s, L[t]? = some s := ⟨_, List.getElem?_eq_getElem (by omega)⟩
          obtain ⟨h1, h2, _⟩ := HD.out t _ hs
          obtain ⟨ad, hA3, hc⟩ := hlg.rd.at (i := t) (u := .slice A n c) (by rw [List.getElem?_map, hs]; rfl)
          subst hA3
          dsimp only at h1 h2
          clear hs hlg
          go_wp2_with fail
          go_loopg [9] n (fun gk v9 wq => ∃ k : Nat, v9 = .int .i64 k ∧ gk + k = n ∧ w2 = wq)
          case atStart => exact ⟨0, rfl, rfl, rfl⟩
          case round =>
            obtain ⟨k, rfl, hk, rfl⟩ := hrel
            by_cases hkn : k < n
            · obtain ⟨ad2, hA, hc2⟩ := h1.rd.at (i := k) (u := mark (t / 2)) (by simp [marks, hkn])
              subst hA
              have hm2 : mark (t / 2) = .int .u8 (1 + (t : Int) / 2) := by unfold mark; congr 1
              rw [hm2] at hc2
              clear h1 hm2
              go_wp2
              go_roundg (n - k - 1)
              case measure => omega
              case rel => exact ⟨k + 1, by go_num, by omega, rfl⟩
            · clear h1
              go_wp2
              go_roundg (2 * i - t - 1)
              case measure => omega
              case rel => exact ⟨t + 1, by go_num, by omega, rfl⟩
        · clear hlg
          go_wp2
          go_ret
          exact ⟨rfl, HBL.out⟩
end Go.Proofs.Ytdojfkiocojpgaa
