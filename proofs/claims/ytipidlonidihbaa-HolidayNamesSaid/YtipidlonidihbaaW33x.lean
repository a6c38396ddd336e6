import Derived.Test.YtipidlonidihbaaW33n
import Derived.Test.YtipidlonidihbaaW33u
/-! The walk of the statement HolidayNames. (Printed by gen33names.py.) -/
namespace Go.Proofs.Ytipidlonidihbaa
open Go.RowKit Go.Deep
set_option linter.unusedVariables false
set_option maxRecDepth 100000

theorem newRd2 {w : World} {T : Nat} {vs : List Value} {F : List (List Int)} (hl : vs.length = F.length) (hv : ∀ i, i < F.length → ∃ A c, vs[i]? = some (.slice A (F.getD i []).length c) ∧ Rd w w.heap.size A (F.getD i [])) (hF : F.length ≤ 1000) :
    Rd2 (w.alloc (.cells vs.toArray T)) (w.heap.size + 1) (some ⟨w.heap.size, 0, none⟩) F := by
  refine ⟨by omega, fun hn => ⟨w.heap.size, 0, rfl, by omega, fun i L hi => ?_⟩⟩
  have hlt := (List.getElem?_eq_some_iff.1 hi).1
  obtain ⟨A, c, h1, h2⟩ := hv i hlt
  have hL : F.getD i [] = L := by rw [List.getD_eq_getElem?_getD, hi]; rfl
  rw [hL] at h1 h2
  refine ⟨A, c, ?_, ((h2.below ((Below.refl _ _).alloc (Nat.le_refl _) _) (Nat.le_refl _)).more (by omega))⟩
  rw [cell_of_row _ _ _ vs.toArray T (0, 0) (heap_alloc_new _ _)]
  simpa using h1
theorem newRows {w : World} {T : Nat} (n : Nat) (hn : n ≤ 1000) :
    Rd2 (w.alloc (.cells (madeCells #[.slice none 0 0] n) T)) (w.heap.size + 1) (some ⟨w.heap.size, 0, none⟩) (List.replicate n []) := by
  refine ⟨by simp; omega, fun h0 => ⟨w.heap.size, 0, rfl, by omega, fun i L hi => ?_⟩⟩
  have hlt := (List.getElem?_eq_some_iff.1 hi).1
  rw [List.length_replicate] at hlt
  have hL : L = [] := by rw [List.getElem?_replicate] at hi; simp [hlt] at hi; exact hi
  subst hL
  refine ⟨none, 0, ?_, Rd.nil _ _ _⟩
  rw [cell_of_row _ _ _ (madeCells #[.slice none 0 0] n) T (0, 0) (heap_alloc_new _ _)]
  simp [madeCells, hlt, Nat.mod_one]
theorem newH {w : World} {T : Nat} (n : Nat) (hn : n ≤ 1000) :
    RdH (w.alloc (.cells (madeCells #[.int .i64 0, .slice none 0 0] (2 * n)) T)) (w.heap.size + 1) (some ⟨w.heap.size, 0, none⟩) (List.replicate n (0, [])) := by
  refine ⟨by simp; omega, fun h0 => ⟨w.heap.size, 0, rfl, by omega, fun i L hi => ?_⟩⟩
  have hlt := (List.getElem?_eq_some_iff.1 hi).1
  rw [List.length_replicate] at hlt
  have hL : L = (0, []) := by rw [List.getElem?_replicate] at hi; simp [hlt] at hi; exact hi.symm
  subst hL
  have q1 : i * 2 < 2 * n := by omega
  have q2 : i * 2 + 1 < 2 * n := by omega
  have q3 : (i * 2) % 2 = 0 := by omega
  have q4 : (i * 2 + 1) % 2 = 1 := by omega
  refine ⟨by unfold I64; omega, ?_, none, 0, ?_, Rd.nil _ _ _⟩
  · rw [cell_of_row _ _ _ (madeCells #[.int .i64 0, .slice none 0 0] (2 * n)) T (0, 0) (heap_alloc_new _ _)]
    simp [madeCells, q1, q3]
  · rw [cell_of_row _ _ _ (madeCells #[.int .i64 0, .slice none 0 0] (2 * n)) T (0, 0) (heap_alloc_new _ _)]
    simp [madeCells, q2, q4]
theorem row1 {w : World} {v : Value} {L : List Int} (h : ∃ A c, v = .slice A L.length c ∧ Rd w w.heap.size A L) : ∀ i, i < [L].length → ∃ A c, [v][i]? = some (.slice A ([L].getD i []).length c) ∧ Rd w w.heap.size A ([L].getD i []) := by
  intro i hi
  obtain rfl : i = 0 := by simpa using hi
  obtain ⟨A, c, rfl, h⟩ := h
  exact ⟨A, c, rfl, h⟩
theorem row3 {w : World} {v1 v2 v3 : Value} {L1 L2 L3 : List Int} (h1 : ∃ A c, v1 = .slice A L1.length c ∧ Rd w w.heap.size A L1) (h2 : ∃ A c, v2 = .slice A L2.length c ∧ Rd w w.heap.size A L2) (h3 : ∃ A c, v3 = .slice A L3.length c ∧ Rd w w.heap.size A L3) :
    ∀ i, i < [L1, L2, L3].length → ∃ A c, [v1, v2, v3][i]? = some (.slice A ([L1, L2, L3].getD i []).length c) ∧ Rd w w.heap.size A ([L1, L2, L3].getD i []) := by
  intro i hi
  have hc : i = 0 ∨ i = 1 ∨ i = 2 := by simp at hi; omega
  rcases hc with rfl | rfl | rfl
  · obtain ⟨A, c, rfl, h⟩ := h1; exact ⟨A, c, rfl, h⟩
  · obtain ⟨A, c, rfl, h⟩ := h2; exact ⟨A, c, rfl, h⟩
  · obtain ⟨A, c, rfl, h⟩ := h3; exact ⟨A, c, rfl, h⟩

set_option maxHeartbeats 8000000 in
theorem names {w : World} : Calls Try.prog 8 #[] w fun e w' => e = .returned (.bool true) ∧ Below w.heap.size w w' := by
  have hmk : ∀ u : World, (Instr.makeSlice 22 (.int .i64 13) (.int .i64 13)).run Try.prog u = .ok (.slice (some ⟨u.heap.size, 0, none⟩) 13 13) (u.alloc (.cells #[.int .i64 0, .int .i64 0, .int .i64 0, .int .i64 0, .int .i64 0, .int .i64 0, .int .i64 0, .int .i64 0, .int .i64 0, .int .i64 0, .int .i64 0, .int .i64 0, .int .i64 0] 3)) := fun u => by kernel_rfl
  have hmH : ∀ u : World, (Instr.makeSlice 43 (.int .i64 401) (.int .i64 401)).run Try.prog u = .ok (.slice (some ⟨u.heap.size, 0, none⟩) 401 401) (u.alloc (.cells (madeCells #[.int .i64 0, .slice none 0 0] 802) 55)) := fun u => by kernel_rfl
  have hmH1 : ∀ u : World, (Instr.makeSlice 43 (.int .i64 1) (.int .i64 1)).run Try.prog u = .ok (.slice (some ⟨u.heap.size, 0, none⟩) 1 1) (u.alloc (.cells (madeCells #[.int .i64 0, .slice none 0 0] 2) 55)) := fun u => by kernel_rfl
  have hmR : ∀ u : World, (Instr.makeSlice 44 (.int .i64 401) (.int .i64 401)).run Try.prog u = .ok (.slice (some ⟨u.heap.size, 0, none⟩) 401 401) (u.alloc (.cells (madeCells #[.slice none 0 0] 401) 22)) := fun u => by kernel_rfl
  go_enter Try.func8, Try.ntmps8
  have HB0 := Lib.hid (Below.refl w.heap.size w)
  go_wp2_with fail
  have hg0 := newRd (w := w) (T := 3) (L := [0, 0, 0, 0, 0, 0, 0, 0, 0, 0, 0, 0, 0]) (by decide) (by decide)
  have ha : Below w.heap.size w (w.alloc (.cells ([0, 0, 0, 0, 0, 0, 0, 0, 0, 0, 0, 0, 0].map (Value.int .i64)).toArray 3)) := (Below.refl _ _).alloc (by simp <;> omega) _
  have hs : (w.alloc (.cells ([0, 0, 0, 0, 0, 0, 0, 0, 0, 0, 0, 0, 0].map (Value.int .i64)).toArray 3)).heap.size = w.heap.size + 1 := by simp
  try simp only [List.map_cons, List.map_nil] at hg0 ha hs
  generalize w.alloc (.cells #[.int .i64 0, .int .i64 0, .int .i64 0, .int .i64 0, .int .i64 0, .int .i64 0, .int .i64 0, .int .i64 0, .int .i64 0, .int .i64 0, .int .i64 0, .int .i64 0, .int .i64 0] 3) = a1 at *
  have HG0 := Lib.hid hg0
  have HS := Lib.hid hs
  have HA := Lib.hid ha
  clear ha hs hg0
  refine (hCheck (cap := 13) HG0.out).mono ?_
  rw [show hck [0, 0, 0, 0, 0, 0, 0, 0, 0, 0, 0, 0, 0] = 4 by decide]
  rintro e u1 ⟨rfl, hu⟩
  replace hu : Below a1.heap.size a1 u1 := by rw [← hu]; exact Below.refl _ _
  have HST := Lib.hid (HA.out.trans (hu.mono HA.out.size))
  have HB1 := Lib.hid (HB0.out.trans (HST.out.mono HB0.out.size))
  clear hu HA HS HST HB0 HG0
  go_wp2_with fail
  have HS : Hid (u1.heap.size = u1.heap.size + 0) := Lib.hid rfl
  have HA := Lib.hid (Below.refl u1.heap.size u1)
  refine (hCheck (cap := 0) (Rd.nil u1 u1.heap.size none)).mono ?_
  rw [show hck [] = 8 by decide]
  rintro e u2 ⟨rfl, hu⟩
  replace hu : Below u1.heap.size u1 u2 := by rw [← hu]; exact Below.refl _ _
  have HST := Lib.hid (HA.out.trans (hu.mono HA.out.size))
  have HB2 := Lib.hid (HB1.out.trans (HST.out.mono HB1.out.size))
  clear hu HA HS HST HB1 
  go_wp2_with fail
  have hg0 := newRd (w := u2) (T := 3) (L := [1]) (by decide) (by decide)
  have ha : Below u2.heap.size u2 (u2.alloc (.cells ([1].map (Value.int .i64)).toArray 3)) := (Below.refl _ _).alloc (by simp <;> omega) _
  have hs : (u2.alloc (.cells ([1].map (Value.int .i64)).toArray 3)).heap.size = u2.heap.size + 1 := by simp
  try simp only [List.map_cons, List.map_nil] at hg0 ha hs
  generalize u2.alloc (.cells #[.int .i64 1] 3) = a3 at *
  have HG0 := Lib.hid hg0
  have HS := Lib.hid hs
  have HA := Lib.hid ha
  clear ha hs hg0
  refine (hCheck (cap := 1) HG0.out).mono ?_
  rw [show hck [1] = 8 by decide]
  rintro e u3 ⟨rfl, hu⟩
  replace hu : Below a3.heap.size a3 u3 := by rw [← hu]; exact Below.refl _ _
  have HST := Lib.hid (HA.out.trans (hu.mono HA.out.size))
  have HB3 := Lib.hid (HB2.out.trans (HST.out.mono HB2.out.size))
  clear hu HA HS HST HB2 HG0
  go_wp2_with fail
  have hg0 := newRd (w := u3) (T := 3) (L := [1000001, (-1000001)]) (by decide) (by decide)
  have ha : Below u3.heap.size u3 (u3.alloc (.cells ([1000001, (-1000001)].map (Value.int .i64)).toArray 3)) := (Below.refl _ _).alloc (by simp <;> omega) _
  have hs : (u3.alloc (.cells ([1000001, (-1000001)].map (Value.int .i64)).toArray 3)).heap.size = u3.heap.size + 1 := by simp
  try simp only [List.map_cons, List.map_nil] at hg0 ha hs
  generalize u3.alloc (.cells #[.int .i64 1000001, .int .i64 (-1000001)] 3) = a4 at *
  have HG0 := Lib.hid hg0
  have HS := Lib.hid hs
  have HA := Lib.hid ha
  clear ha hs hg0
  refine (hCheck (cap := 2) HG0.out).mono ?_
  rw [show hck [1000001, (-1000001)] = 8 by decide]
  rintro e u4 ⟨rfl, hu⟩
  replace hu : Below a4.heap.size a4 u4 := by rw [← hu]; exact Below.refl _ _
  have HST := Lib.hid (HA.out.trans (hu.mono HA.out.size))
  have HB4 := Lib.hid (HB3.out.trans (HST.out.mono HB3.out.size))
  clear hu HA HS HST HB3 HG0
  go_wp2_with fail
  have hg0 := newRd (w := u4) (T := 3) (L := [0, 0]) (by decide) (by decide)
  have hz1 : (u4.alloc (.cells ([0, 0].map (Value.int .i64)).toArray 3)).heap.size = u4.heap.size + 1 := by simp
  have hg1 := newRd (w := (u4.alloc (.cells ([0, 0].map (Value.int .i64)).toArray 3))) (T := 3) (L := [1]) (by decide) (by decide)
  rw [hz1] at hg1
  replace hg0 := hg0.below (C := u4.heap.size + 1) ((Below.refl _ _).alloc (by simp <;> omega) _ : Below (u4.heap.size + 1) (u4.alloc (.cells ([0, 0].map (Value.int .i64)).toArray 3)) ((u4.alloc (.cells ([0, 0].map (Value.int .i64)).toArray 3)).alloc (.cells ([1].map (Value.int .i64)).toArray 3))) (by omega)
  have ha : Below u4.heap.size u4 ((u4.alloc (.cells ([0, 0].map (Value.int .i64)).toArray 3)).alloc (.cells ([1].map (Value.int .i64)).toArray 3)) := ((Below.refl _ _).alloc (by simp <;> omega) _).alloc (by simp <;> omega) _
  have hs : ((u4.alloc (.cells ([0, 0].map (Value.int .i64)).toArray 3)).alloc (.cells ([1].map (Value.int .i64)).toArray 3)).heap.size = u4.heap.size + 2 := by simp
  try simp only [List.map_cons, List.map_nil] at hg0 hg1 ha hs
  generalize (u4.alloc (.cells #[.int .i64 0, .int .i64 0] 3)).alloc (.cells #[.int .i64 1] 3) = a5 at *
  have HG0 := Lib.hid hg0
  have HG1 := Lib.hid hg1
  have HS := Lib.hid hs
  have HA := Lib.hid ha
  clear ha hs hg0 hg1
  clear hz1
  refine (hRank (cap := 2) (cap' := 1) HG0.out HG1.out (by rw [HS.out]; omega) (by rw [HS.out]; omega)).mono ?_
  rw [show rkL [0, 0] [1] = [] by decide, show hlk [0, 0] [1] = 8 by decide]
  rintro e u5 ⟨A1, c1, rfl, _, hu⟩
  have HST := Lib.hid (HA.out.trans (hu.mono HA.out.size))
  have HB5 := Lib.hid (HB4.out.trans (HST.out.mono HB4.out.size))
  clear hu HA HS HST HB4 HG0 HG1
  go_wp2_with fail
  have hg0 := newRd (w := u5) (T := 3) (L := [0, 0]) (by decide) (by decide)
  have hz1 : (u5.alloc (.cells ([0, 0].map (Value.int .i64)).toArray 3)).heap.size = u5.heap.size + 1 := by simp
  have hg1 := newRd (w := (u5.alloc (.cells ([0, 0].map (Value.int .i64)).toArray 3))) (T := 3) (L := [1, (-1)]) (by decide) (by decide)
  rw [hz1] at hg1
  replace hg0 := hg0.below (C := u5.heap.size + 1) ((Below.refl _ _).alloc (by simp <;> omega) _ : Below (u5.heap.size + 1) (u5.alloc (.cells ([0, 0].map (Value.int .i64)).toArray 3)) ((u5.alloc (.cells ([0, 0].map (Value.int .i64)).toArray 3)).alloc (.cells ([1, (-1)].map (Value.int .i64)).toArray 3))) (by omega)
  have ha : Below u5.heap.size u5 ((u5.alloc (.cells ([0, 0].map (Value.int .i64)).toArray 3)).alloc (.cells ([1, (-1)].map (Value.int .i64)).toArray 3)) := ((Below.refl _ _).alloc (by simp <;> omega) _).alloc (by simp <;> omega) _
  have hs : ((u5.alloc (.cells ([0, 0].map (Value.int .i64)).toArray 3)).alloc (.cells ([1, (-1)].map (Value.int .i64)).toArray 3)).heap.size = u5.heap.size + 2 := by simp
  try simp only [List.map_cons, List.map_nil] at hg0 hg1 ha hs
  generalize (u5.alloc (.cells #[.int .i64 0, .int .i64 0] 3)).alloc (.cells #[.int .i64 1, .int .i64 (-1)] 3) = a6 at *
  have HG0 := Lib.hid hg0
  have HG1 := Lib.hid hg1
  have HS := Lib.hid hs
  have HA := Lib.hid ha
  clear ha hs hg0 hg1
  clear hz1
  refine (hRank (cap := 2) (cap' := 2) HG0.out HG1.out (by rw [HS.out]; omega) (by rw [HS.out]; omega)).mono ?_
  rw [show rkL [0, 0] [1, (-1)] = [] by decide, show hlk [0, 0] [1, (-1)] = 8 by decide]
  rintro e u6 ⟨A1, c1, rfl, _, hu⟩
  have HST := Lib.hid (HA.out.trans (hu.mono HA.out.size))
  have HB6 := Lib.hid (HB5.out.trans (HST.out.mono HB5.out.size))
  clear hu HA HS HST HB5 HG0 HG1
  go_wp2_with fail
  have hg0 := newRd (w := u6) (T := 3) (L := [0, 0]) (by decide) (by decide)
  have hz1 : (u6.alloc (.cells ([0, 0].map (Value.int .i64)).toArray 3)).heap.size = u6.heap.size + 1 := by simp
  have hg1 := newRd (w := (u6.alloc (.cells ([0, 0].map (Value.int .i64)).toArray 3))) (T := 3) (L := [1, 1000001]) (by decide) (by decide)
  rw [hz1] at hg1
  replace hg0 := hg0.below (C := u6.heap.size + 1) ((Below.refl _ _).alloc (by simp <;> omega) _ : Below (u6.heap.size + 1) (u6.alloc (.cells ([0, 0].map (Value.int .i64)).toArray 3)) ((u6.alloc (.cells ([0, 0].map (Value.int .i64)).toArray 3)).alloc (.cells ([1, 1000001].map (Value.int .i64)).toArray 3))) (by omega)
  have ha : Below u6.heap.size u6 ((u6.alloc (.cells ([0, 0].map (Value.int .i64)).toArray 3)).alloc (.cells ([1, 1000001].map (Value.int .i64)).toArray 3)) := ((Below.refl _ _).alloc (by simp <;> omega) _).alloc (by simp <;> omega) _
  have hs : ((u6.alloc (.cells ([0, 0].map (Value.int .i64)).toArray 3)).alloc (.cells ([1, 1000001].map (Value.int .i64)).toArray 3)).heap.size = u6.heap.size + 2 := by simp
  try simp only [List.map_cons, List.map_nil] at hg0 hg1 ha hs
  generalize (u6.alloc (.cells #[.int .i64 0, .int .i64 0] 3)).alloc (.cells #[.int .i64 1, .int .i64 1000001] 3) = a7 at *
  have HG0 := Lib.hid hg0
  have HG1 := Lib.hid hg1
  have HS := Lib.hid hs
  have HA := Lib.hid ha
  clear ha hs hg0 hg1
  clear hz1
  refine (hRank (cap := 2) (cap' := 2) HG0.out HG1.out (by rw [HS.out]; omega) (by rw [HS.out]; omega)).mono ?_
  rw [show rkL [0, 0] [1, 1000001] = [] by decide, show hlk [0, 0] [1, 1000001] = 8 by decide]
  rintro e u7 ⟨A1, c1, rfl, _, hu⟩
  have HST := Lib.hid (HA.out.trans (hu.mono HA.out.size))
  have HB7 := Lib.hid (HB6.out.trans (HST.out.mono HB6.out.size))
  clear hu HA HS HST HB6 HG0 HG1
  go_wp2_with fail
  have hg0 := newRd (w := u7) (T := 3) (L := [0, 0]) (by decide) (by decide)
  have hz1 : (u7.alloc (.cells ([0, 0].map (Value.int .i64)).toArray 3)).heap.size = u7.heap.size + 1 := by simp
  have hg1 := newRd (w := (u7.alloc (.cells ([0, 0].map (Value.int .i64)).toArray 3))) (T := 3) (L := [1, 2]) (by decide) (by decide)
  rw [hz1] at hg1
  replace hg0 := hg0.below (C := u7.heap.size + 1) ((Below.refl _ _).alloc (by simp <;> omega) _ : Below (u7.heap.size + 1) (u7.alloc (.cells ([0, 0].map (Value.int .i64)).toArray 3)) ((u7.alloc (.cells ([0, 0].map (Value.int .i64)).toArray 3)).alloc (.cells ([1, 2].map (Value.int .i64)).toArray 3))) (by omega)
  have ha : Below u7.heap.size u7 ((u7.alloc (.cells ([0, 0].map (Value.int .i64)).toArray 3)).alloc (.cells ([1, 2].map (Value.int .i64)).toArray 3)) := ((Below.refl _ _).alloc (by simp <;> omega) _).alloc (by simp <;> omega) _
  have hs : ((u7.alloc (.cells ([0, 0].map (Value.int .i64)).toArray 3)).alloc (.cells ([1, 2].map (Value.int .i64)).toArray 3)).heap.size = u7.heap.size + 2 := by simp
  try simp only [List.map_cons, List.map_nil] at hg0 hg1 ha hs
  generalize (u7.alloc (.cells #[.int .i64 0, .int .i64 0] 3)).alloc (.cells #[.int .i64 1, .int .i64 2] 3) = a8 at *
  have HG0 := Lib.hid hg0
  have HG1 := Lib.hid hg1
  have HS := Lib.hid hs
  have HA := Lib.hid ha
  clear ha hs hg0 hg1
  clear hz1
  refine (hPrice (cap := 2) (cap' := 2) HG0.out HG1.out (by rw [HS.out]; omega) (by rw [HS.out]; omega) 3).mono ?_
  rw [show pcV [0, 0] [1, 2] 3 = 0 by decide, show pcE [0, 0] [1, 2] 3 = 2 by decide]
  rintro e u8 ⟨rfl, hu⟩
  have HST := Lib.hid (HA.out.trans (hu.mono HA.out.size))
  have HB8 := Lib.hid (HB7.out.trans (HST.out.mono HB7.out.size))
  clear hu HA HS HST HB7 HG0 HG1
  go_wp2_with fail
  have hg0 := newRd (w := u8) (T := 3) (L := [0, 0]) (by decide) (by decide)
  have hz1 : (u8.alloc (.cells ([0, 0].map (Value.int .i64)).toArray 3)).heap.size = u8.heap.size + 1 := by simp
  have hg1 := newRd (w := (u8.alloc (.cells ([0, 0].map (Value.int .i64)).toArray 3))) (T := 3) (L := [1, 2]) (by decide) (by decide)
  rw [hz1] at hg1
  replace hg0 := hg0.below (C := u8.heap.size + 1) ((Below.refl _ _).alloc (by simp <;> omega) _ : Below (u8.heap.size + 1) (u8.alloc (.cells ([0, 0].map (Value.int .i64)).toArray 3)) ((u8.alloc (.cells ([0, 0].map (Value.int .i64)).toArray 3)).alloc (.cells ([1, 2].map (Value.int .i64)).toArray 3))) (by omega)
  have ha : Below u8.heap.size u8 ((u8.alloc (.cells ([0, 0].map (Value.int .i64)).toArray 3)).alloc (.cells ([1, 2].map (Value.int .i64)).toArray 3)) := ((Below.refl _ _).alloc (by simp <;> omega) _).alloc (by simp <;> omega) _
  have hs : ((u8.alloc (.cells ([0, 0].map (Value.int .i64)).toArray 3)).alloc (.cells ([1, 2].map (Value.int .i64)).toArray 3)).heap.size = u8.heap.size + 2 := by simp
  try simp only [List.map_cons, List.map_nil] at hg0 hg1 ha hs
  generalize (u8.alloc (.cells #[.int .i64 0, .int .i64 0] 3)).alloc (.cells #[.int .i64 1, .int .i64 2] 3) = a9 at *
  have HG0 := Lib.hid hg0
  have HG1 := Lib.hid hg1
  have HS := Lib.hid hs
  have HA := Lib.hid ha
  clear ha hs hg0 hg1
  clear hz1
  refine (hPrice (cap := 2) (cap' := 2) HG0.out HG1.out (by rw [HS.out]; omega) (by rw [HS.out]; omega) (-1)).mono ?_
  rw [show pcV [0, 0] [1, 2] (-1) = 0 by decide, show pcE [0, 0] [1, 2] (-1) = 2 by decide]
  rintro e u9 ⟨rfl, hu⟩
  have HST := Lib.hid (HA.out.trans (hu.mono HA.out.size))
  have HB9 := Lib.hid (HB8.out.trans (HST.out.mono HB8.out.size))
  clear hu HA HS HST HB8 HG0 HG1
  go_wp2_with fail
  have hg0 := newRd (w := u9) (T := 3) (L := [0, 0]) (by decide) (by decide)
  have hz1 : (u9.alloc (.cells ([0, 0].map (Value.int .i64)).toArray 3)).heap.size = u9.heap.size + 1 := by simp
  have hg1 := newRd (w := (u9.alloc (.cells ([0, 0].map (Value.int .i64)).toArray 3))) (T := 3) (L := [1, 2]) (by decide) (by decide)
  rw [hz1] at hg1
  replace hg0 := hg0.below (C := u9.heap.size + 1) ((Below.refl _ _).alloc (by simp <;> omega) _ : Below (u9.heap.size + 1) (u9.alloc (.cells ([0, 0].map (Value.int .i64)).toArray 3)) ((u9.alloc (.cells ([0, 0].map (Value.int .i64)).toArray 3)).alloc (.cells ([1, 2].map (Value.int .i64)).toArray 3))) (by omega)
  have ha : Below u9.heap.size u9 ((u9.alloc (.cells ([0, 0].map (Value.int .i64)).toArray 3)).alloc (.cells ([1, 2].map (Value.int .i64)).toArray 3)) := ((Below.refl _ _).alloc (by simp <;> omega) _).alloc (by simp <;> omega) _
  have hs : ((u9.alloc (.cells ([0, 0].map (Value.int .i64)).toArray 3)).alloc (.cells ([1, 2].map (Value.int .i64)).toArray 3)).heap.size = u9.heap.size + 2 := by simp
  try simp only [List.map_cons, List.map_nil] at hg0 hg1 ha hs
  generalize (u9.alloc (.cells #[.int .i64 0, .int .i64 0] 3)).alloc (.cells #[.int .i64 1, .int .i64 2] 3) = a10 at *
  have HG0 := Lib.hid hg0
  have HG1 := Lib.hid hg1
  have HS := Lib.hid hs
  have HA := Lib.hid ha
  clear ha hs hg0 hg1
  clear hz1
  refine (hPrice (cap := 2) (cap' := 2) HG0.out HG1.out (by rw [HS.out]; omega) (by rw [HS.out]; omega) 0).mono ?_
  rw [show pcV [0, 0] [1, 2] 0 = 0 by decide, show pcE [0, 0] [1, 2] 0 = 0 by decide]
  rintro e u10 ⟨rfl, hu⟩
  have HST := Lib.hid (HA.out.trans (hu.mono HA.out.size))
  have HB10 := Lib.hid (HB9.out.trans (HST.out.mono HB9.out.size))
  clear hu HA HS HST HB9 HG0 HG1
  go_wp2_with fail
  have hg0 := newRd (w := u10) (T := 3) (L := [0, 0]) (by decide) (by decide)
  have hz1 : (u10.alloc (.cells ([0, 0].map (Value.int .i64)).toArray 3)).heap.size = u10.heap.size + 1 := by simp
  have hg1 := newRd (w := (u10.alloc (.cells ([0, 0].map (Value.int .i64)).toArray 3))) (T := 3) (L := [1, 2]) (by decide) (by decide)
  rw [hz1] at hg1
  replace hg0 := hg0.below (C := u10.heap.size + 1) ((Below.refl _ _).alloc (by simp <;> omega) _ : Below (u10.heap.size + 1) (u10.alloc (.cells ([0, 0].map (Value.int .i64)).toArray 3)) ((u10.alloc (.cells ([0, 0].map (Value.int .i64)).toArray 3)).alloc (.cells ([1, 2].map (Value.int .i64)).toArray 3))) (by omega)
  have ha : Below u10.heap.size u10 ((u10.alloc (.cells ([0, 0].map (Value.int .i64)).toArray 3)).alloc (.cells ([1, 2].map (Value.int .i64)).toArray 3)) := ((Below.refl _ _).alloc (by simp <;> omega) _).alloc (by simp <;> omega) _
  have hs : ((u10.alloc (.cells ([0, 0].map (Value.int .i64)).toArray 3)).alloc (.cells ([1, 2].map (Value.int .i64)).toArray 3)).heap.size = u10.heap.size + 2 := by simp
  try simp only [List.map_cons, List.map_nil] at hg0 hg1 ha hs
  generalize (u10.alloc (.cells #[.int .i64 0, .int .i64 0] 3)).alloc (.cells #[.int .i64 1, .int .i64 2] 3) = a11 at *
  have HG0 := Lib.hid hg0
  have HG1 := Lib.hid hg1
  have HS := Lib.hid hs
  have HA := Lib.hid ha
  clear ha hs hg0 hg1
  clear hz1
  refine (hPrice (cap := 2) (cap' := 2) HG0.out HG1.out (by rw [HS.out]; omega) (by rw [HS.out]; omega) 2).mono ?_
  rw [show pcV [0, 0] [1, 2] 2 = 0 by decide, show pcE [0, 0] [1, 2] 2 = 0 by decide]
  rintro e u11 ⟨rfl, hu⟩
  have HST := Lib.hid (HA.out.trans (hu.mono HA.out.size))
  have HB11 := Lib.hid (HB10.out.trans (HST.out.mono HB10.out.size))
  clear hu HA HS HST HB10 HG0 HG1
  go_wp2_with fail
  have hg0 := newRd (w := u11) (T := 3) (L := [(-1000000), 1000000]) (by decide) (by decide)
  have hz1 : (u11.alloc (.cells ([(-1000000), 1000000].map (Value.int .i64)).toArray 3)).heap.size = u11.heap.size + 1 := by simp
  have hg1 := newRd (w := (u11.alloc (.cells ([(-1000000), 1000000].map (Value.int .i64)).toArray 3))) (T := 3) (L := [9, 8]) (by decide) (by decide)
  rw [hz1] at hg1
  replace hg0 := hg0.below (C := u11.heap.size + 1) ((Below.refl _ _).alloc (by simp <;> omega) _ : Below (u11.heap.size + 1) (u11.alloc (.cells ([(-1000000), 1000000].map (Value.int .i64)).toArray 3)) ((u11.alloc (.cells ([(-1000000), 1000000].map (Value.int .i64)).toArray 3)).alloc (.cells ([9, 8].map (Value.int .i64)).toArray 3))) (by omega)
  have ha : Below u11.heap.size u11 ((u11.alloc (.cells ([(-1000000), 1000000].map (Value.int .i64)).toArray 3)).alloc (.cells ([9, 8].map (Value.int .i64)).toArray 3)) := ((Below.refl _ _).alloc (by simp <;> omega) _).alloc (by simp <;> omega) _
  have hs : ((u11.alloc (.cells ([(-1000000), 1000000].map (Value.int .i64)).toArray 3)).alloc (.cells ([9, 8].map (Value.int .i64)).toArray 3)).heap.size = u11.heap.size + 2 := by simp
  try simp only [List.map_cons, List.map_nil] at hg0 hg1 ha hs
  generalize (u11.alloc (.cells #[.int .i64 (-1000000), .int .i64 1000000] 3)).alloc (.cells #[.int .i64 9, .int .i64 8] 3) = a12 at *
  have HG0 := Lib.hid hg0
  have HG1 := Lib.hid hg1
  have HS := Lib.hid hs
  have HA := Lib.hid ha
  clear ha hs hg0 hg1
  clear hz1
  refine (hGive (cap := 2) (cap' := 2) HG0.out HG1.out (by rw [HS.out]; omega) (by rw [HS.out]; omega) 1).mono ?_
  rw [show gvF [(-1000000), 1000000] [9, 8] 1 = [] by decide, show gvA [(-1000000), 1000000] [9, 8] 1 = [] by decide, show gvE [(-1000000), 1000000] [9, 8] 1 = 16 by decide]
  rintro e u12 ⟨A54, c54, A55, c55, rfl, r1, r2, hu⟩
  have HST := Lib.hid (HA.out.trans (hu.mono HA.out.size))
  have HB12 := Lib.hid (HB11.out.trans (HST.out.mono HB11.out.size))
  clear hu HA HS HST HB11 HG0 HG1
  go_wp2_with fail
  have hg0 := newRd (w := u12) (T := 3) (L := [3, (-3)]) (by decide) (by decide)
  have hz1 : (u12.alloc (.cells ([3, (-3)].map (Value.int .i64)).toArray 3)).heap.size = u12.heap.size + 1 := by simp
  have hg1 := newRd (w := (u12.alloc (.cells ([3, (-3)].map (Value.int .i64)).toArray 3))) (T := 3) (L := [7, 7]) (by decide) (by decide)
  rw [hz1] at hg1
  replace hg0 := hg0.below (C := u12.heap.size + 1) ((Below.refl _ _).alloc (by simp <;> omega) _ : Below (u12.heap.size + 1) (u12.alloc (.cells ([3, (-3)].map (Value.int .i64)).toArray 3)) ((u12.alloc (.cells ([3, (-3)].map (Value.int .i64)).toArray 3)).alloc (.cells ([7, 7].map (Value.int .i64)).toArray 3))) (by omega)
  have ha : Below u12.heap.size u12 ((u12.alloc (.cells ([3, (-3)].map (Value.int .i64)).toArray 3)).alloc (.cells ([7, 7].map (Value.int .i64)).toArray 3)) := ((Below.refl _ _).alloc (by simp <;> omega) _).alloc (by simp <;> omega) _
  have hs : ((u12.alloc (.cells ([3, (-3)].map (Value.int .i64)).toArray 3)).alloc (.cells ([7, 7].map (Value.int .i64)).toArray 3)).heap.size = u12.heap.size + 2 := by simp
  try simp only [List.map_cons, List.map_nil] at hg0 hg1 ha hs
  generalize (u12.alloc (.cells #[.int .i64 3, .int .i64 (-3)] 3)).alloc (.cells #[.int .i64 7, .int .i64 7] 3) = a13 at *
  have HG0 := Lib.hid hg0
  have HG1 := Lib.hid hg1
  have HS := Lib.hid hs
  have HA := Lib.hid ha
  clear ha hs hg0 hg1
  clear hz1
  refine (hGive (cap := 2) (cap' := 2) HG0.out HG1.out (by rw [HS.out]; omega) (by rw [HS.out]; omega) 1).mono ?_
  rw [show gvF [3, (-3)] [7, 7] 1 = [0] by decide, show gvA [3, (-3)] [7, 7] 1 = [(-1), 1] by decide, show gvE [3, (-3)] [7, 7] 1 = 0 by decide]
  rintro e u13 ⟨A58, c58, A59, c59, rfl, r1, r2, hu⟩
  have HST := Lib.hid (HA.out.trans (hu.mono HA.out.size))
  have HB13 := Lib.hid (HB12.out.trans (HST.out.mono HB12.out.size))
  have L_x := Lib.hid r1
  clear r1
  have L_y := Lib.hid r2
  clear r2
  clear hu HA HS HST HB12 HG0 HG1
  go_wp2_with fail
  have hg0 := newRd (w := u13) (T := 3) (L := [0]) (by decide) (by decide)
  have hz1 : (u13.alloc (.cells ([0].map (Value.int .i64)).toArray 3)).heap.size = u13.heap.size + 1 := by simp
  have hg1 := newH (w := (u13.alloc (.cells ([0].map (Value.int .i64)).toArray 3))) (T := 55) 401 (by decide)
  rw [hz1] at hg1
  replace hg0 := hg0.below (C := u13.heap.size + 1) ((Below.refl _ _).alloc (by simp <;> omega) _ : Below (u13.heap.size + 1) (u13.alloc (.cells ([0].map (Value.int .i64)).toArray 3)) ((u13.alloc (.cells ([0].map (Value.int .i64)).toArray 3)).alloc (.cells (madeCells #[.int .i64 0, .slice none 0 0] 802) 55))) (by omega)
  have ha : Below u13.heap.size u13 ((u13.alloc (.cells ([0].map (Value.int .i64)).toArray 3)).alloc (.cells (madeCells #[.int .i64 0, .slice none 0 0] 802) 55)) := ((Below.refl _ _).alloc (by simp <;> omega) _).alloc (by simp <;> omega) _
  have hs : ((u13.alloc (.cells ([0].map (Value.int .i64)).toArray 3)).alloc (.cells (madeCells #[.int .i64 0, .slice none 0 0] 802) 55)).heap.size = u13.heap.size + 2 := by simp
  try simp only [List.map_cons, List.map_nil, List.map_cons] at hg0 hg1 ha hs
  generalize (u13.alloc (.cells #[.int .i64 0] 3)).alloc (.cells (madeCells #[.int .i64 0, .slice none 0 0] 802) 55) = a14 at *
  have HG0 := Lib.hid hg0
  have HG1 := Lib.hid hg1
  have HS := Lib.hid hs
  have HA := Lib.hid ha
  clear ha hs hg0 hg1
  clear hz1
  replace L_x := Lib.hid ((L_x.out.below HA.out (Nat.le_refl _)).more HA.out.size)
  replace L_y := Lib.hid ((L_y.out.below HA.out (Nat.le_refl _)).more HA.out.size)
  refine (hRun (cap := 1) (cap' := 401) HG0.out HG1.out (by rw [HS.out]; omega) (by rw [HS.out]; omega)).mono ?_
  rw [show runV [0] (List.replicate 401 (0, [])) = (4, [], []) by (exact runV_many (by decide) (by simp))]
  rintro e u14 ⟨An1, cn1, An2, cn2, rfl, _, _, hu⟩
  have HST := Lib.hid (HA.out.trans (hu.mono HA.out.size))
  have HB14 := Lib.hid (HB13.out.trans (HST.out.mono HB13.out.size))
  replace L_x := Lib.hid ((L_x.out.below hu (Nat.le_refl _)).more hu.size)
  replace L_y := Lib.hid ((L_y.out.below hu (Nat.le_refl _)).more hu.size)
  clear hu HA HS HST HB13 HG0 HG1
  go_wp2_with fail
  have hg0 := newRd (w := u14) (T := 3) (L := [0]) (by decide) (by decide)
  have hz1 : (u14.alloc (.cells ([0].map (Value.int .i64)).toArray 3)).heap.size = u14.heap.size + 1 := by simp
  have hg1 := newH (w := (u14.alloc (.cells ([0].map (Value.int .i64)).toArray 3))) (T := 55) 1 (by decide)
  rw [hz1] at hg1
  replace hg0 := hg0.below (C := u14.heap.size + 1) ((Below.refl _ _).alloc (by simp <;> omega) _ : Below (u14.heap.size + 1) (u14.alloc (.cells ([0].map (Value.int .i64)).toArray 3)) ((u14.alloc (.cells ([0].map (Value.int .i64)).toArray 3)).alloc (.cells (madeCells #[.int .i64 0, .slice none 0 0] 2) 55))) (by omega)
  have ha : Below u14.heap.size u14 ((u14.alloc (.cells ([0].map (Value.int .i64)).toArray 3)).alloc (.cells (madeCells #[.int .i64 0, .slice none 0 0] 2) 55)) := ((Below.refl _ _).alloc (by simp <;> omega) _).alloc (by simp <;> omega) _
  have hs : ((u14.alloc (.cells ([0].map (Value.int .i64)).toArray 3)).alloc (.cells (madeCells #[.int .i64 0, .slice none 0 0] 2) 55)).heap.size = u14.heap.size + 2 := by simp
  try simp only [List.map_cons, List.map_nil, List.map_cons] at hg0 hg1 ha hs
  generalize (u14.alloc (.cells #[.int .i64 0] 3)).alloc (.cells (madeCells #[.int .i64 0, .slice none 0 0] 2) 55) = a15 at *
  have HG0 := Lib.hid hg0
  have HG1 := Lib.hid hg1
  have HS := Lib.hid hs
  have HA := Lib.hid ha
  clear ha hs hg0 hg1
  clear hz1
  replace L_x := Lib.hid ((L_x.out.below HA.out (Nat.le_refl _)).more HA.out.size)
  replace L_y := Lib.hid ((L_y.out.below HA.out (Nat.le_refl _)).more HA.out.size)
  refine (hRun (cap := 1) (cap' := 1) HG0.out HG1.out (by rw [HS.out]; omega) (by rw [HS.out]; omega)).mono ?_
  rw [show runV [0] (List.replicate 1 (0, [])) = (8, [], []) by decide]
  rintro e u15 ⟨Ao1, co1, Ao2, co2, rfl, _, _, hu⟩
  have HST := Lib.hid (HA.out.trans (hu.mono HA.out.size))
  have HB15 := Lib.hid (HB14.out.trans (HST.out.mono HB14.out.size))
  replace L_x := Lib.hid ((L_x.out.below hu (Nat.le_refl _)).more hu.size)
  replace L_y := Lib.hid ((L_y.out.below hu (Nat.le_refl _)).more hu.size)
  clear hu HA HS HST HB14 HG0 HG1
  go_wp2_with fail
  have hg0 := newRd (w := u15) (T := 3) (L := [0, 0]) (by decide) (by decide)
  have ha : Below u15.heap.size u15 (u15.alloc (.cells ([0, 0].map (Value.int .i64)).toArray 3)) := (Below.refl _ _).alloc (by simp <;> omega) _
  have hs : (u15.alloc (.cells ([0, 0].map (Value.int .i64)).toArray 3)).heap.size = u15.heap.size + 1 := by simp
  try simp only [List.map_cons, List.map_nil] at hg0 ha hs
  generalize u15.alloc (.cells #[.int .i64 0, .int .i64 0] 3) = a16 at *
  have HG0 := Lib.hid hg0
  have HS := Lib.hid hs
  have HA := Lib.hid ha
  clear ha hs hg0
  replace L_x := Lib.hid ((L_x.out.below HA.out (Nat.le_refl _)).more HA.out.size)
  replace L_y := Lib.hid ((L_y.out.below HA.out (Nat.le_refl _)).more HA.out.size)
  refine (hRun (cap := 2) (cap' := 0) HG0.out (RdOf.nil a16 a16.heap.size none) (by rw [HS.out]; omega) (Nat.le_refl _)).mono ?_
  rw [show runV [0, 0] [] = (0, [], [0, 0]) by decide]
  rintro e u16 ⟨Ar1, cr1, Ar2, cr2, rfl, _, rnow, hu⟩
  have HST := Lib.hid (HA.out.trans (hu.mono HA.out.size))
  have HB16 := Lib.hid (HB15.out.trans (HST.out.mono HB15.out.size))
  replace L_x := Lib.hid ((L_x.out.below hu (Nat.le_refl _)).more hu.size)
  replace L_y := Lib.hid ((L_y.out.below hu (Nat.le_refl _)).more hu.size)
  have L_now := Lib.hid rnow
  clear rnow
  clear hu HA HS HST HB15 HG0
  go_wp2_with fail
  have HS : Hid (u16.heap.size = u16.heap.size + 0) := Lib.hid rfl
  have HA := Lib.hid (Below.refl u16.heap.size u16)
  replace L_x := Lib.hid ((L_x.out.below HA.out (Nat.le_refl _)).more HA.out.size)
  replace L_y := Lib.hid ((L_y.out.below HA.out (Nat.le_refl _)).more HA.out.size)
  replace L_now := Lib.hid ((L_now.out.below HA.out (Nat.le_refl _)).more HA.out.size)
  refine (hHad (cap := 0) (RdOf.nil u16 u16.heap.size none) (Nat.le_refl _) 13).mono ?_
  rw [show hadV 13 [] = [] by decide, show hadE 13 [] = 2 by decide]
  rintro e u17 ⟨As1, cs1, rfl, _, hu⟩
  have HST := Lib.hid (HA.out.trans (hu.mono HA.out.size))
  have HB17 := Lib.hid (HB16.out.trans (HST.out.mono HB16.out.size))
  replace L_x := Lib.hid ((L_x.out.below hu (Nat.le_refl _)).more hu.size)
  replace L_y := Lib.hid ((L_y.out.below hu (Nat.le_refl _)).more hu.size)
  replace L_now := Lib.hid ((L_now.out.below hu (Nat.le_refl _)).more hu.size)
  clear hu HA HS HST HB16 
  go_wp2_with fail
  have hg0 := newRd (w := u17) (T := 3) (L := [1, 0]) (by decide) (by decide)
  have hz1 : (u17.alloc (.cells ([1, 0].map (Value.int .i64)).toArray 3)).heap.size = u17.heap.size + 1 := by simp
  have hg1 := newRd2 (w := (u17.alloc (.cells ([1, 0].map (Value.int .i64)).toArray 3))) (T := 22) (vs := [.slice (some ⟨u17.heap.size, 0, none⟩) 2 2]) (F := [[1, 0]]) rfl (row1 ⟨_, _, rfl, hg0.more (by omega)⟩) (by decide)
  rw [hz1] at hg1
  replace hg0 := hg0.below (C := u17.heap.size + 1) ((Below.refl _ _).alloc (by simp <;> omega) _ : Below (u17.heap.size + 1) (u17.alloc (.cells ([1, 0].map (Value.int .i64)).toArray 3)) ((u17.alloc (.cells ([1, 0].map (Value.int .i64)).toArray 3)).alloc (.cells ([.slice (some ⟨u17.heap.size, 0, none⟩) 2 2] : List Value).toArray 22))) (by omega)
  have ha : Below u17.heap.size u17 ((u17.alloc (.cells ([1, 0].map (Value.int .i64)).toArray 3)).alloc (.cells ([.slice (some ⟨u17.heap.size, 0, none⟩) 2 2] : List Value).toArray 22)) := ((Below.refl _ _).alloc (by simp <;> omega) _).alloc (by simp <;> omega) _
  have hs : ((u17.alloc (.cells ([1, 0].map (Value.int .i64)).toArray 3)).alloc (.cells ([.slice (some ⟨u17.heap.size, 0, none⟩) 2 2] : List Value).toArray 22)).heap.size = u17.heap.size + 2 := by simp
  try simp only [List.map_cons, List.map_nil, List.map_cons] at hg0 hg1 ha hs
  generalize (u17.alloc (.cells #[.int .i64 1, .int .i64 0] 3)).alloc (.cells #[.slice (some ⟨u17.heap.size, 0, none⟩) 2 2] 22) = a18 at *
  have HG0 := Lib.hid hg0
  have HG1 := Lib.hid hg1
  have HS := Lib.hid hs
  have HA := Lib.hid ha
  clear ha hs hg0 hg1
  clear hz1
  replace L_x := Lib.hid ((L_x.out.below HA.out (Nat.le_refl _)).more HA.out.size)
  replace L_y := Lib.hid ((L_y.out.below HA.out (Nat.le_refl _)).more HA.out.size)
  replace L_now := Lib.hid ((L_now.out.below HA.out (Nat.le_refl _)).more HA.out.size)
  refine (hHad (cap := 1) HG1.out (by rw [HS.out]; omega) 2).mono ?_
  rw [show hadV 2 [[1, 0]] = [] by decide, show hadE 2 [[1, 0]] = 8 by decide]
  rintro e u18 ⟨At17, ct17, rfl, _, hu⟩
  have HST := Lib.hid (HA.out.trans (hu.mono HA.out.size))
  have HB18 := Lib.hid (HB17.out.trans (HST.out.mono HB17.out.size))
  replace L_x := Lib.hid ((L_x.out.below hu (Nat.le_refl _)).more hu.size)
  replace L_y := Lib.hid ((L_y.out.below hu (Nat.le_refl _)).more hu.size)
  replace L_now := Lib.hid ((L_now.out.below hu (Nat.le_refl _)).more hu.size)
  clear hu HA HS HST HB17 HG0 HG1
  go_wp2_with fail
  have hg0 := newRd (w := u18) (T := 3) (L := [2]) (by decide) (by decide)
  have hz1 : (u18.alloc (.cells ([2].map (Value.int .i64)).toArray 3)).heap.size = u18.heap.size + 1 := by simp
  have hg1 := newRd2 (w := (u18.alloc (.cells ([2].map (Value.int .i64)).toArray 3))) (T := 22) (vs := [.slice (some ⟨u18.heap.size, 0, none⟩) 1 1]) (F := [[2]]) rfl (row1 ⟨_, _, rfl, hg0.more (by omega)⟩) (by decide)
  rw [hz1] at hg1
  replace hg0 := hg0.below (C := u18.heap.size + 1) ((Below.refl _ _).alloc (by simp <;> omega) _ : Below (u18.heap.size + 1) (u18.alloc (.cells ([2].map (Value.int .i64)).toArray 3)) ((u18.alloc (.cells ([2].map (Value.int .i64)).toArray 3)).alloc (.cells ([.slice (some ⟨u18.heap.size, 0, none⟩) 1 1] : List Value).toArray 22))) (by omega)
  have ha : Below u18.heap.size u18 ((u18.alloc (.cells ([2].map (Value.int .i64)).toArray 3)).alloc (.cells ([.slice (some ⟨u18.heap.size, 0, none⟩) 1 1] : List Value).toArray 22)) := ((Below.refl _ _).alloc (by simp <;> omega) _).alloc (by simp <;> omega) _
  have hs : ((u18.alloc (.cells ([2].map (Value.int .i64)).toArray 3)).alloc (.cells ([.slice (some ⟨u18.heap.size, 0, none⟩) 1 1] : List Value).toArray 22)).heap.size = u18.heap.size + 2 := by simp
  try simp only [List.map_cons, List.map_nil, List.map_cons] at hg0 hg1 ha hs
  generalize (u18.alloc (.cells #[.int .i64 2] 3)).alloc (.cells #[.slice (some ⟨u18.heap.size, 0, none⟩) 1 1] 22) = a19 at *
  have HG0 := Lib.hid hg0
  have HG1 := Lib.hid hg1
  have HS := Lib.hid hs
  have HA := Lib.hid ha
  clear ha hs hg0 hg1
  clear hz1
  replace L_x := Lib.hid ((L_x.out.below HA.out (Nat.le_refl _)).more HA.out.size)
  replace L_y := Lib.hid ((L_y.out.below HA.out (Nat.le_refl _)).more HA.out.size)
  replace L_now := Lib.hid ((L_now.out.below HA.out (Nat.le_refl _)).more HA.out.size)
  refine (hHad (cap := 1) HG1.out (by rw [HS.out]; omega) 2).mono ?_
  rw [show hadV 2 [[2]] = [] by decide, show hadE 2 [[2]] = 8 by decide]
  rintro e u19 ⟨At18, ct18, rfl, _, hu⟩
  have HST := Lib.hid (HA.out.trans (hu.mono HA.out.size))
  have HB19 := Lib.hid (HB18.out.trans (HST.out.mono HB18.out.size))
  replace L_x := Lib.hid ((L_x.out.below hu (Nat.le_refl _)).more hu.size)
  replace L_y := Lib.hid ((L_y.out.below hu (Nat.le_refl _)).more hu.size)
  replace L_now := Lib.hid ((L_now.out.below hu (Nat.le_refl _)).more hu.size)
  clear hu HA HS HST HB18 HG0 HG1
  go_wp2_with fail
  have hg0 := newRows (w := u19) (T := 22) 401 (by decide)
  have ha : Below u19.heap.size u19 (u19.alloc (.cells (madeCells #[.slice none 0 0] 401) 22)) := (Below.refl _ _).alloc (by simp <;> omega) _
  have hs : (u19.alloc (.cells (madeCells #[.slice none 0 0] 401) 22)).heap.size = u19.heap.size + 1 := by simp
  try simp only [List.map_cons, List.map_nil, List.map_cons] at hg0 ha hs
  generalize u19.alloc (.cells (madeCells #[.slice none 0 0] 401) 22) = a20 at *
  have HG0 := Lib.hid hg0
  have HS := Lib.hid hs
  have HA := Lib.hid ha
  clear ha hs hg0
  replace L_x := Lib.hid ((L_x.out.below HA.out (Nat.le_refl _)).more HA.out.size)
  replace L_y := Lib.hid ((L_y.out.below HA.out (Nat.le_refl _)).more HA.out.size)
  replace L_now := Lib.hid ((L_now.out.below HA.out (Nat.le_refl _)).more HA.out.size)
  refine (hHad (cap := 401) HG0.out (by rw [HS.out]; omega) 2).mono ?_
  rw [show hadV 2 (List.replicate 401 []) = [] by (exact (hadE_many (by decide) (by simp)).2), show hadE 2 (List.replicate 401 []) = 4 by (exact (hadE_many (by decide) (by simp)).1)]
  rintro e u20 ⟨Av1, cv1, rfl, _, hu⟩
  have HST := Lib.hid (HA.out.trans (hu.mono HA.out.size))
  have HB20 := Lib.hid (HB19.out.trans (HST.out.mono HB19.out.size))
  replace L_x := Lib.hid ((L_x.out.below hu (Nat.le_refl _)).more hu.size)
  replace L_y := Lib.hid ((L_y.out.below hu (Nat.le_refl _)).more hu.size)
  replace L_now := Lib.hid ((L_now.out.below hu (Nat.le_refl _)).more hu.size)
  clear hu HA HS HST HB19 HG0
  go_wp2_with fail
  have hg0 := newRd (w := u20) (T := 3) (L := [0]) (by decide) (by decide)
  have hz1 : (u20.alloc (.cells ([0].map (Value.int .i64)).toArray 3)).heap.size = u20.heap.size + 1 := by simp
  have hg1 := newRd (w := (u20.alloc (.cells ([0].map (Value.int .i64)).toArray 3))) (T := 3) (L := [0, 1]) (by decide) (by decide)
  rw [hz1] at hg1
  replace hg0 := hg0.below (C := u20.heap.size + 1) ((Below.refl _ _).alloc (by simp <;> omega) _ : Below (u20.heap.size + 1) (u20.alloc (.cells ([0].map (Value.int .i64)).toArray 3)) ((u20.alloc (.cells ([0].map (Value.int .i64)).toArray 3)).alloc (.cells ([0, 1].map (Value.int .i64)).toArray 3))) (by omega)
  have hz2 : ((u20.alloc (.cells ([0].map (Value.int .i64)).toArray 3)).alloc (.cells ([0, 1].map (Value.int .i64)).toArray 3)).heap.size = u20.heap.size + 2 := by simp
  have hg2 := newRd2 (w := ((u20.alloc (.cells ([0].map (Value.int .i64)).toArray 3)).alloc (.cells ([0, 1].map (Value.int .i64)).toArray 3))) (T := 22) (vs := [.slice (some ⟨u20.heap.size, 0, none⟩) 1 1, .slice (some ⟨u20.heap.size + 1, 0, none⟩) 2 2, .slice none 0 0]) (F := [[0], [0, 1], []]) rfl (row3 ⟨_, _, rfl, hg0.more (by omega)⟩ ⟨_, _, rfl, hg1.more (by omega)⟩ ⟨_, _, rfl, Rd.nil _ _ _⟩) (by decide)
  rw [hz2] at hg2
  replace hg0 := hg0.below (C := u20.heap.size + 2) ((Below.refl _ _).alloc (by simp <;> omega) _ : Below (u20.heap.size + 2) ((u20.alloc (.cells ([0].map (Value.int .i64)).toArray 3)).alloc (.cells ([0, 1].map (Value.int .i64)).toArray 3)) (((u20.alloc (.cells ([0].map (Value.int .i64)).toArray 3)).alloc (.cells ([0, 1].map (Value.int .i64)).toArray 3)).alloc (.cells ([.slice (some ⟨u20.heap.size, 0, none⟩) 1 1, .slice (some ⟨u20.heap.size + 1, 0, none⟩) 2 2, .slice none 0 0] : List Value).toArray 22))) (by omega)
  replace hg1 := hg1.below (C := u20.heap.size + 2) ((Below.refl _ _).alloc (by simp <;> omega) _ : Below (u20.heap.size + 2) ((u20.alloc (.cells ([0].map (Value.int .i64)).toArray 3)).alloc (.cells ([0, 1].map (Value.int .i64)).toArray 3)) (((u20.alloc (.cells ([0].map (Value.int .i64)).toArray 3)).alloc (.cells ([0, 1].map (Value.int .i64)).toArray 3)).alloc (.cells ([.slice (some ⟨u20.heap.size, 0, none⟩) 1 1, .slice (some ⟨u20.heap.size + 1, 0, none⟩) 2 2, .slice none 0 0] : List Value).toArray 22))) (by omega)
  have ha : Below u20.heap.size u20 (((u20.alloc (.cells ([0].map (Value.int .i64)).toArray 3)).alloc (.cells ([0, 1].map (Value.int .i64)).toArray 3)).alloc (.cells ([.slice (some ⟨u20.heap.size, 0, none⟩) 1 1, .slice (some ⟨u20.heap.size + 1, 0, none⟩) 2 2, .slice none 0 0] : List Value).toArray 22)) := (((Below.refl _ _).alloc (by simp <;> omega) _).alloc (by simp <;> omega) _).alloc (by simp <;> omega) _
  have hs : (((u20.alloc (.cells ([0].map (Value.int .i64)).toArray 3)).alloc (.cells ([0, 1].map (Value.int .i64)).toArray 3)).alloc (.cells ([.slice (some ⟨u20.heap.size, 0, none⟩) 1 1, .slice (some ⟨u20.heap.size + 1, 0, none⟩) 2 2, .slice none 0 0] : List Value).toArray 22)).heap.size = u20.heap.size + 3 := by simp
  try simp only [List.map_cons, List.map_nil, List.map_cons] at hg0 hg1 hg2 ha hs
  generalize ((u20.alloc (.cells #[.int .i64 0] 3)).alloc (.cells #[.int .i64 0, .int .i64 1] 3)).alloc (.cells #[.slice (some ⟨u20.heap.size, 0, none⟩) 1 1, .slice (some ⟨u20.heap.size + 1, 0, none⟩) 2 2, .slice none 0 0] 22) = a21 at *
  have HG0 := Lib.hid hg0
  have HG1 := Lib.hid hg1
  have HG2 := Lib.hid hg2
  have HS := Lib.hid hs
  have HA := Lib.hid ha
  clear ha hs hg0 hg1 hg2
  clear hz1 hz2
  replace L_x := Lib.hid ((L_x.out.below HA.out (Nat.le_refl _)).more HA.out.size)
  replace L_y := Lib.hid ((L_y.out.below HA.out (Nat.le_refl _)).more HA.out.size)
  replace L_now := Lib.hid ((L_now.out.below HA.out (Nat.le_refl _)).more HA.out.size)
  refine (hHad (cap := 3) HG2.out (by rw [HS.out]; omega) 2).mono ?_
  rw [show hadV 2 [[0], [0, 1], []] = [2, 1] by decide, show hadE 2 [[0], [0, 1], []] = 0 by decide]
  rintro e u21 ⟨Aw1, cw1, rfl, rhad, hu⟩
  have HST := Lib.hid (HA.out.trans (hu.mono HA.out.size))
  have HB21 := Lib.hid (HB20.out.trans (HST.out.mono HB20.out.size))
  replace L_x := Lib.hid ((L_x.out.below hu (Nat.le_refl _)).more hu.size)
  replace L_y := Lib.hid ((L_y.out.below hu (Nat.le_refl _)).more hu.size)
  replace L_now := Lib.hid ((L_now.out.below hu (Nat.le_refl _)).more hu.size)
  have L_had := Lib.hid rhad
  clear rhad
  clear hu HA HS HST HB20 HG0 HG1 HG2
  go_wp2_with fail
  have HS : Hid (u21.heap.size = u21.heap.size + 0) := Lib.hid rfl
  have HA := Lib.hid (Below.refl u21.heap.size u21)
  replace L_x := Lib.hid ((L_x.out.below HA.out (Nat.le_refl _)).more HA.out.size)
  replace L_y := Lib.hid ((L_y.out.below HA.out (Nat.le_refl _)).more HA.out.size)
  replace L_now := Lib.hid ((L_now.out.below HA.out (Nat.le_refl _)).more HA.out.size)
  replace L_had := Lib.hid ((L_had.out.below HA.out (Nat.le_refl _)).more HA.out.size)
  refine (alive _).mono ?_
  rintro e u22 ⟨rfl, hu⟩
  have HST := Lib.hid (HA.out.trans (hu.mono HA.out.size))
  have HB22 := Lib.hid (HB21.out.trans (HST.out.mono HB21.out.size))
  replace L_x := Lib.hid ((L_x.out.below hu (Nat.le_refl _)).more hu.size)
  replace L_y := Lib.hid ((L_y.out.below hu (Nat.le_refl _)).more hu.size)
  replace L_now := Lib.hid ((L_now.out.below hu (Nat.le_refl _)).more hu.size)
  replace L_had := Lib.hid ((L_had.out.below hu (Nat.le_refl _)).more hu.size)
  clear hu HA HS HST HB21 
  go_wp2_with fail
  have hg0 := newRd (w := u22) (T := 3) (L := [0]) (by decide) (by decide)
  have ha : Below u22.heap.size u22 (u22.alloc (.cells ([0].map (Value.int .i64)).toArray 3)) := (Below.refl _ _).alloc (by simp <;> omega) _
  have hs : (u22.alloc (.cells ([0].map (Value.int .i64)).toArray 3)).heap.size = u22.heap.size + 1 := by simp
  try simp only [List.map_cons, List.map_nil] at hg0 ha hs
  generalize u22.alloc (.cells #[.int .i64 0] 3) = a23 at *
  have HG0 := Lib.hid hg0
  have HS := Lib.hid hs
  have HA := Lib.hid ha
  clear ha hs hg0
  replace L_x := Lib.hid ((L_x.out.below HA.out (Nat.le_refl _)).more HA.out.size)
  replace L_y := Lib.hid ((L_y.out.below HA.out (Nat.le_refl _)).more HA.out.size)
  replace L_now := Lib.hid ((L_now.out.below HA.out (Nat.le_refl _)).more HA.out.size)
  replace L_had := Lib.hid ((L_had.out.below HA.out (Nat.le_refl _)).more HA.out.size)
  refine (sameInts (cap := c58) (cap' := 1) L_x.out HG0.out (Nat.le_refl _) (by rw [HS.out]; omega)).mono ?_
  rw [show decide (([0] : List Int) = [0]) = true by decide]
  rintro e u23 ⟨rfl, hu⟩
  have HST := Lib.hid (HA.out.trans (hu.mono HA.out.size))
  have HB23 := Lib.hid (HB22.out.trans (HST.out.mono HB22.out.size))
  replace L_x := Lib.hid ((L_x.out.below hu (Nat.le_refl _)).more hu.size)
  replace L_y := Lib.hid ((L_y.out.below hu (Nat.le_refl _)).more hu.size)
  replace L_now := Lib.hid ((L_now.out.below hu (Nat.le_refl _)).more hu.size)
  replace L_had := Lib.hid ((L_had.out.below hu (Nat.le_refl _)).more hu.size)
  clear hu HA HS HST HB22 HG0
  clear L_x
  go_wp2_with fail
  have hg0 := newRd (w := u23) (T := 3) (L := [(-1), 1]) (by decide) (by decide)
  have ha : Below u23.heap.size u23 (u23.alloc (.cells ([(-1), 1].map (Value.int .i64)).toArray 3)) := (Below.refl _ _).alloc (by simp <;> omega) _
  have hs : (u23.alloc (.cells ([(-1), 1].map (Value.int .i64)).toArray 3)).heap.size = u23.heap.size + 1 := by simp
  try simp only [List.map_cons, List.map_nil] at hg0 ha hs
  generalize u23.alloc (.cells #[.int .i64 (-1), .int .i64 1] 3) = a24 at *
  have HG0 := Lib.hid hg0
  have HS := Lib.hid hs
  have HA := Lib.hid ha
  clear ha hs hg0
  replace L_y := Lib.hid ((L_y.out.below HA.out (Nat.le_refl _)).more HA.out.size)
  replace L_now := Lib.hid ((L_now.out.below HA.out (Nat.le_refl _)).more HA.out.size)
  replace L_had := Lib.hid ((L_had.out.below HA.out (Nat.le_refl _)).more HA.out.size)
  refine (sameInts (cap := c59) (cap' := 2) L_y.out HG0.out (Nat.le_refl _) (by rw [HS.out]; omega)).mono ?_
  rw [show decide (([(-1), 1] : List Int) = [(-1), 1]) = true by decide]
  rintro e u24 ⟨rfl, hu⟩
  have HST := Lib.hid (HA.out.trans (hu.mono HA.out.size))
  have HB24 := Lib.hid (HB23.out.trans (HST.out.mono HB23.out.size))
  replace L_y := Lib.hid ((L_y.out.below hu (Nat.le_refl _)).more hu.size)
  replace L_now := Lib.hid ((L_now.out.below hu (Nat.le_refl _)).more hu.size)
  replace L_had := Lib.hid ((L_had.out.below hu (Nat.le_refl _)).more hu.size)
  clear hu HA HS HST HB23 HG0
  clear L_y
  go_wp2_with fail
  have hg0 := newRd (w := u24) (T := 3) (L := [0, 0]) (by decide) (by decide)
  have ha : Below u24.heap.size u24 (u24.alloc (.cells ([0, 0].map (Value.int .i64)).toArray 3)) := (Below.refl _ _).alloc (by simp <;> omega) _
  have hs : (u24.alloc (.cells ([0, 0].map (Value.int .i64)).toArray 3)).heap.size = u24.heap.size + 1 := by simp
  try simp only [List.map_cons, List.map_nil] at hg0 ha hs
  generalize u24.alloc (.cells #[.int .i64 0, .int .i64 0] 3) = a25 at *
  have HG0 := Lib.hid hg0
  have HS := Lib.hid hs
  have HA := Lib.hid ha
  clear ha hs hg0
  replace L_now := Lib.hid ((L_now.out.below HA.out (Nat.le_refl _)).more HA.out.size)
  replace L_had := Lib.hid ((L_had.out.below HA.out (Nat.le_refl _)).more HA.out.size)
  refine (sameInts (cap := cr2) (cap' := 2) L_now.out HG0.out (Nat.le_refl _) (by rw [HS.out]; omega)).mono ?_
  rw [show decide (([0, 0] : List Int) = [0, 0]) = true by decide]
  rintro e u25 ⟨rfl, hu⟩
  have HST := Lib.hid (HA.out.trans (hu.mono HA.out.size))
  have HB25 := Lib.hid (HB24.out.trans (HST.out.mono HB24.out.size))
  replace L_now := Lib.hid ((L_now.out.below hu (Nat.le_refl _)).more hu.size)
  replace L_had := Lib.hid ((L_had.out.below hu (Nat.le_refl _)).more hu.size)
  clear hu HA HS HST HB24 HG0
  clear L_now
  go_wp2_with fail
  have hg0 := newRd (w := u25) (T := 3) (L := [2, 1]) (by decide) (by decide)
  have ha : Below u25.heap.size u25 (u25.alloc (.cells ([2, 1].map (Value.int .i64)).toArray 3)) := (Below.refl _ _).alloc (by simp <;> omega) _
  have hs : (u25.alloc (.cells ([2, 1].map (Value.int .i64)).toArray 3)).heap.size = u25.heap.size + 1 := by simp
  try simp only [List.map_cons, List.map_nil] at hg0 ha hs
  generalize u25.alloc (.cells #[.int .i64 2, .int .i64 1] 3) = a26 at *
  have HG0 := Lib.hid hg0
  have HS := Lib.hid hs
  have HA := Lib.hid ha
  clear ha hs hg0
  replace L_had := Lib.hid ((L_had.out.below HA.out (Nat.le_refl _)).more HA.out.size)
  refine (sameInts (cap := cw1) (cap' := 2) L_had.out HG0.out (Nat.le_refl _) (by rw [HS.out]; omega)).mono ?_
  rw [show decide (([2, 1] : List Int) = [2, 1]) = true by decide]
  rintro e u26 ⟨rfl, hu⟩
  have HST := Lib.hid (HA.out.trans (hu.mono HA.out.size))
  have HB26 := Lib.hid (HB25.out.trans (HST.out.mono HB25.out.size))
  replace L_had := Lib.hid ((L_had.out.below hu (Nat.le_refl _)).more hu.size)
  clear hu HA HS HST HB25 HG0
  clear L_had
  go_wp2
  go_ret
  exact ⟨rfl, HB26.out⟩
end Go.Proofs.Ytipidlonidihbaa
