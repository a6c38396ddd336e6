import Derived.Test.YtjgobpejifhphaaW35A
import Derived.Test.YtjgobpejifhphaaM35d
/-! The walk of the statement LieNames. (Printed by gen35nm.py.) -/
namespace Go.Proofs.Ytjgobpejifhphaa
open Go.RowKit Go.Deep
set_option linter.unusedVariables false
set_option maxRecDepth 100000

theorem newRd {w : World} {T : Nat} {L : List Int} (hs : ∀ x ∈ L, -10000000 ≤ x ∧ x ≤ 10000000) (hl : L.length ≤ 40) :
    Rd (w.alloc (.cells (L.map (Value.int .i64)).toArray T)) (w.heap.size + 1) (some ⟨w.heap.size, 0, none⟩) L := by
  have ho : Own (w.alloc (.cells (L.map (Value.int .i64)).toArray T)) w.heap.size T L := heap_alloc_new w _
  exact ho.rd (fun x hx => by have := hs x hx; unfold I64; omega) (by omega) (by omega)
theorem newRd2 {w : World} {T : Nat} {vs : List Value} {F : List (List Int)} (hl : vs.length = F.length) (hv : ∀ i, i < F.length → ∃ A c, vs[i]? = some (.slice A (F.getD i []).length c) ∧ Rd w w.heap.size A (F.getD i [])) (hF : F.length ≤ 1000) :
    Rd2 (w.alloc (.cells vs.toArray T)) (w.heap.size + 1) (some ⟨w.heap.size, 0, none⟩) F := by
  refine ⟨by omega, fun hn => ⟨w.heap.size, 0, rfl, by omega, fun i L hi => ?_⟩⟩
  have hlt := (List.getElem?_eq_some_iff.1 hi).1
  obtain ⟨A, c, h1, h2⟩ := hv i hlt
  have hL : F.getD i [] = L := by rw [List.getD_eq_getElem?_getD, hi]; rfl
  rw [hL] at h1 h2
  refine ⟨A, c, ?_, ((h2.below ((Below.refl _ _).alloc (Nat.le_refl _) _) (Nat.le_refl _)).more (by omega))⟩
  rw [cell_of_row _ _ _ vs.toArray T (0, 0) (heap_alloc_new _ _)]
  simpa using h1
theorem newRows {w : World} {T : Nat} (n : Nat) (hn : n ≤ 1000) :
    Rd2 (w.alloc (.cells (madeCells #[.slice none 0 0] n) T)) (w.heap.size + 1) (some ⟨w.heap.size, 0, none⟩) (List.replicate n []) := by
  refine ⟨by simp; omega, fun h0 => ⟨w.heap.size, 0, rfl, by omega, fun i L hi => ?_⟩⟩
  have hlt := (List.getElem?_eq_some_iff.1 hi).1
  rw [List.length_replicate] at hlt
  have hL : L = [] := by rw [List.getElem?_replicate] at hi; simp [hlt] at hi; exact hi
  subst hL
  refine ⟨none, 0, ?_, Rd.nil _ _ _⟩
  rw [cell_of_row _ _ _ (madeCells #[.slice none 0 0] n) T (0, 0) (heap_alloc_new _ _)]
  simp [madeCells, hlt, Nat.mod_one]
theorem row1 {w : World} {v : Value} {L : List Int} (h : ∃ A c, v = .slice A L.length c ∧ Rd w w.heap.size A L) : ∀ i, i < [L].length → ∃ A c, [v][i]? = some (.slice A ([L].getD i []).length c) ∧ Rd w w.heap.size A ([L].getD i []) := by
  intro i hi
  obtain rfl : i = 0 := by simpa using hi
  obtain ⟨A, c, rfl, h⟩ := h
  exact ⟨A, c, rfl, h⟩

set_option maxHeartbeats 16000000 in
theorem lieNames {w : World} : Calls Try.prog 10 #[] w fun e w' => e = .returned (.bool true) ∧ Below w.heap.size w w' := by
  have hmk : ∀ u : World, (Instr.makeSlice 22 (.int .i64 7) (.int .i64 7)).run Try.prog u = .ok (.slice (some ⟨u.heap.size, 0, none⟩) 7 7) (u.alloc (.cells #[.int .i64 0, .int .i64 0, .int .i64 0, .int .i64 0, .int .i64 0, .int .i64 0, .int .i64 0] 3)) := fun u => by kernel_rfl
  have hmR : ∀ u : World, (Instr.makeSlice 29 (.int .i64 7) (.int .i64 7)).run Try.prog u = .ok (.slice (some ⟨u.heap.size, 0, none⟩) 7 7) (u.alloc (.cells (madeCells #[.slice none 0 0] 7) 22)) := fun u => by kernel_rfl
  go_enter Try.func10, Try.ntmps10
  have HB0 := Lib.hid (Below.refl w.heap.size w)
  go_wp2_with fail
  have hl0 := litRd (w := w) (T := 3) (L := [1, 1]) (by decide)
  obtain ⟨hq1, hq2, hq3⟩ := rows2 (w.alloc (.cells #[.int .i64 1, .int .i64 1] 3)) [0] [0] 3 22 (by decide) (by decide) _ rfl
  have hal := (Below.refl w.heap.size w).alloc (Nat.le_refl _) (.cells #[.int .i64 1, .int .i64 1] 3)
  have hs1 : (w.alloc (.cells #[.int .i64 1, .int .i64 1] 3)).heap.size = w.heap.size + 1 := sizeA _ _
  simp only [List.map_cons, List.map_nil, hs1] at hl0 hq1 hq2 hq3
  simp only [List.length_cons, List.length_nil, Nat.zero_add] at hq1 hq2 hq3
  generalize (((w.alloc (.cells #[.int .i64 1, .int .i64 1] 3)).alloc (.cells #[.int .i64 0] 3)).alloc (.cells #[.int .i64 0] 3)).alloc (.cells #[.slice (some ⟨w.heap.size + 1, 0, none⟩) 1 1, .slice (some ⟨w.heap.size + 1 + 1, 0, none⟩) 1 1] 22) = a0 at *
  have hs4 : w.heap.size + 1 + 1 + 1 + 1 = a0.heap.size := by rw [hq2]
  rw [hs4]
  have L_two : Hid (Rd a0 a0.heap.size (some ⟨w.heap.size, 0, none⟩) [1, 1]) := Lib.hid ((hl0.below hq1 (Nat.le_refl _)).more (by omega))
  have L_one := Lib.hid hq3
  replace HB0 := Lib.hid (hal.trans (hq1.mono (by omega)))
  clear hl0 hq1 hq2 hq3 hal hs1 hs4
  have hg0 := newRd (w := a0) (T := 3) (L := [1, 2]) (by decide) (by decide)
  have ha : Below a0.heap.size a0 (a0.alloc (.cells ([1, 2].map (Value.int .i64)).toArray 3)) := (Below.refl _ _).alloc (by simp <;> omega) _
  have hs : (a0.alloc (.cells ([1, 2].map (Value.int .i64)).toArray 3)).heap.size = a0.heap.size + 1 := by simp
  try simp only [List.map_cons, List.map_nil] at hg0 ha hs
  generalize a0.alloc (.cells #[.int .i64 1, .int .i64 2] 3) = a1 at *
  have HG0 := Lib.hid hg0
  have HS := Lib.hid hs
  have HA := Lib.hid ha
  clear ha hs hg0
  replace L_two := Lib.hid ((L_two.out.below HA.out (Nat.le_refl _)).more HA.out.size)
  replace L_one := Lib.hid ((L_one.out.below HA.out (Nat.le_refl _)).more HA.out.size)
  refine (dOffer (cap := 2) (cap' := 2) L_two.out (Nat.le_refl _) HG0.out (by rw [HS.out]; omega) 0 0 5 301).mono ?_
  rw [show (ofR [1, 1] [1, 2] 0 0 5 301).1 = 0 by decide +kernel, show (ofR [1, 1] [1, 2] 0 0 5 301).2 = 0 by decide +kernel, show ofE [1, 1] [1, 2] 0 0 5 301 = 2 by decide +kernel]
  rintro e u1 ⟨rfl, hu⟩
  have HST := Lib.hid (HA.out.trans (hu.mono HA.out.size))
  have HB1 := Lib.hid (HB0.out.trans (HST.out.mono HB0.out.size))
  replace L_two := Lib.hid ((L_two.out.below hu (Nat.le_refl _)).more hu.size)
  replace L_one := Lib.hid ((L_one.out.below hu (Nat.le_refl _)).more hu.size)
  clear hu HA HS HST HB0 HG0
  go_wp2_with fail
  have hg0 := newRd (w := u1) (T := 3) (L := [1, 2]) (by decide) (by decide)
  have ha : Below u1.heap.size u1 (u1.alloc (.cells ([1, 2].map (Value.int .i64)).toArray 3)) := (Below.refl _ _).alloc (by simp <;> omega) _
  have hs : (u1.alloc (.cells ([1, 2].map (Value.int .i64)).toArray 3)).heap.size = u1.heap.size + 1 := by simp
  try simp only [List.map_cons, List.map_nil] at hg0 ha hs
  generalize u1.alloc (.cells #[.int .i64 1, .int .i64 2] 3) = a2 at *
  have HG0 := Lib.hid hg0
  have HS := Lib.hid hs
  have HA := Lib.hid ha
  clear ha hs hg0
  replace L_two := Lib.hid ((L_two.out.below HA.out (Nat.le_refl _)).more HA.out.size)
  replace L_one := Lib.hid ((L_one.out.below HA.out (Nat.le_refl _)).more HA.out.size)
  refine (dOffer (cap := 2) (cap' := 2) L_two.out (Nat.le_refl _) HG0.out (by rw [HS.out]; omega) 0 0 5 (-1)).mono ?_
  rw [show (ofR [1, 1] [1, 2] 0 0 5 (-1)).1 = 0 by decide +kernel, show (ofR [1, 1] [1, 2] 0 0 5 (-1)).2 = 0 by decide +kernel, show ofE [1, 1] [1, 2] 0 0 5 (-1) = 2 by decide +kernel]
  rintro e u2 ⟨rfl, hu⟩
  have HST := Lib.hid (HA.out.trans (hu.mono HA.out.size))
  have HB2 := Lib.hid (HB1.out.trans (HST.out.mono HB1.out.size))
  replace L_two := Lib.hid ((L_two.out.below hu (Nat.le_refl _)).more hu.size)
  replace L_one := Lib.hid ((L_one.out.below hu (Nat.le_refl _)).more hu.size)
  clear hu HA HS HST HB1 HG0
  go_wp2_with fail
  have hg0 := newRd (w := u2) (T := 3) (L := [1, 2]) (by decide) (by decide)
  have ha : Below u2.heap.size u2 (u2.alloc (.cells ([1, 2].map (Value.int .i64)).toArray 3)) := (Below.refl _ _).alloc (by simp <;> omega) _
  have hs : (u2.alloc (.cells ([1, 2].map (Value.int .i64)).toArray 3)).heap.size = u2.heap.size + 1 := by simp
  try simp only [List.map_cons, List.map_nil] at hg0 ha hs
  generalize u2.alloc (.cells #[.int .i64 1, .int .i64 2] 3) = a3 at *
  have HG0 := Lib.hid hg0
  have HS := Lib.hid hs
  have HA := Lib.hid ha
  clear ha hs hg0
  replace L_two := Lib.hid ((L_two.out.below HA.out (Nat.le_refl _)).more HA.out.size)
  replace L_one := Lib.hid ((L_one.out.below HA.out (Nat.le_refl _)).more HA.out.size)
  refine (dOffer (cap := 2) (cap' := 2) L_two.out (Nat.le_refl _) HG0.out (by rw [HS.out]; omega) 2 0 5 301).mono ?_
  rw [show (ofR [1, 1] [1, 2] 2 0 5 301).1 = 0 by decide +kernel, show (ofR [1, 1] [1, 2] 2 0 5 301).2 = 0 by decide +kernel, show ofE [1, 1] [1, 2] 2 0 5 301 = 2 by decide +kernel]
  rintro e u3 ⟨rfl, hu⟩
  have HST := Lib.hid (HA.out.trans (hu.mono HA.out.size))
  have HB3 := Lib.hid (HB2.out.trans (HST.out.mono HB2.out.size))
  replace L_two := Lib.hid ((L_two.out.below hu (Nat.le_refl _)).more hu.size)
  replace L_one := Lib.hid ((L_one.out.below hu (Nat.le_refl _)).more hu.size)
  clear hu HA HS HST HB2 HG0
  go_wp2_with fail
  have hg0 := newRd (w := u3) (T := 3) (L := [1]) (by decide) (by decide)
  have ha : Below u3.heap.size u3 (u3.alloc (.cells ([1].map (Value.int .i64)).toArray 3)) := (Below.refl _ _).alloc (by simp <;> omega) _
  have hs : (u3.alloc (.cells ([1].map (Value.int .i64)).toArray 3)).heap.size = u3.heap.size + 1 := by simp
  try simp only [List.map_cons, List.map_nil] at hg0 ha hs
  generalize u3.alloc (.cells #[.int .i64 1] 3) = a4 at *
  have HG0 := Lib.hid hg0
  have HS := Lib.hid hs
  have HA := Lib.hid ha
  clear ha hs hg0
  replace L_two := Lib.hid ((L_two.out.below HA.out (Nat.le_refl _)).more HA.out.size)
  replace L_one := Lib.hid ((L_one.out.below HA.out (Nat.le_refl _)).more HA.out.size)
  refine (dOffer (cap := 1) (cap' := 0) HG0.out (by rw [HS.out]; omega) (Rd.nil a4 a4.heap.size none) (Nat.le_refl _) 0 0 5 5).mono ?_
  rw [show (ofR [1] [] 0 0 5 5).1 = 0 by decide +kernel, show (ofR [1] [] 0 0 5 5).2 = 0 by decide +kernel, show ofE [1] [] 0 0 5 5 = 8 by decide +kernel]
  rintro e u4 ⟨rfl, hu⟩
  have HST := Lib.hid (HA.out.trans (hu.mono HA.out.size))
  have HB4 := Lib.hid (HB3.out.trans (HST.out.mono HB3.out.size))
  replace L_two := Lib.hid ((L_two.out.below hu (Nat.le_refl _)).more hu.size)
  replace L_one := Lib.hid ((L_one.out.below hu (Nat.le_refl _)).more hu.size)
  clear hu HA HS HST HB3 HG0
  go_wp2_with fail
  have hg0 := newRd (w := u4) (T := 3) (L := [0, 0]) (by decide) (by decide)
  have hz1 : (u4.alloc (.cells ([0, 0].map (Value.int .i64)).toArray 3)).heap.size = u4.heap.size + 1 := by simp
  have hg1 := newRd (w := (u4.alloc (.cells ([0, 0].map (Value.int .i64)).toArray 3))) (T := 3) (L := [1, 2]) (by decide) (by decide)
  rw [hz1] at hg1
  replace hg0 := hg0.below (C := u4.heap.size + 1) ((Below.refl _ _).alloc (by simp <;> omega) _ : Below (u4.heap.size + 1) (u4.alloc (.cells ([0, 0].map (Value.int .i64)).toArray 3)) ((u4.alloc (.cells ([0, 0].map (Value.int .i64)).toArray 3)).alloc (.cells ([1, 2].map (Value.int .i64)).toArray 3))) (by omega)
  have ha : Below u4.heap.size u4 ((u4.alloc (.cells ([0, 0].map (Value.int .i64)).toArray 3)).alloc (.cells ([1, 2].map (Value.int .i64)).toArray 3)) := ((Below.refl _ _).alloc (by simp <;> omega) _).alloc (by simp <;> omega) _
  have hs : ((u4.alloc (.cells ([0, 0].map (Value.int .i64)).toArray 3)).alloc (.cells ([1, 2].map (Value.int .i64)).toArray 3)).heap.size = u4.heap.size + 2 := by simp
  try simp only [List.map_cons, List.map_nil] at hg0 hg1 ha hs
  generalize (u4.alloc (.cells #[.int .i64 0, .int .i64 0] 3)).alloc (.cells #[.int .i64 1, .int .i64 2] 3) = a5 at *
  have HG0 := Lib.hid hg0
  have HG1 := Lib.hid hg1
  have HS := Lib.hid hs
  have HA := Lib.hid ha
  clear ha hs hg0 hg1
  clear hz1
  replace L_two := Lib.hid ((L_two.out.below HA.out (Nat.le_refl _)).more HA.out.size)
  replace L_one := Lib.hid ((L_one.out.below HA.out (Nat.le_refl _)).more HA.out.size)
  refine (pBid (cap := 2) (cap' := 2) HG0.out (by rw [HS.out]; omega) HG1.out (by rw [HS.out]; omega) 1 2 5 5).mono ?_
  rw [show (bdR [0, 0] [1, 2] 1 2 5 5).1 = 0 by decide +kernel, show (bdR [0, 0] [1, 2] 1 2 5 5).2 = 0 by decide +kernel, show bdE [0, 0] [1, 2] 1 2 5 5 = 2 by decide +kernel]
  rintro e u5 ⟨rfl, hu⟩
  have HST := Lib.hid (HA.out.trans (hu.mono HA.out.size))
  have HB5 := Lib.hid (HB4.out.trans (HST.out.mono HB4.out.size))
  replace L_two := Lib.hid ((L_two.out.below hu (Nat.le_refl _)).more hu.size)
  replace L_one := Lib.hid ((L_one.out.below hu (Nat.le_refl _)).more hu.size)
  clear hu HA HS HST HB4 HG0 HG1
  go_wp2_with fail
  have hg0 := newRd (w := u5) (T := 3) (L := [0, 0]) (by decide) (by decide)
  have hz1 : (u5.alloc (.cells ([0, 0].map (Value.int .i64)).toArray 3)).heap.size = u5.heap.size + 1 := by simp
  have hg1 := newRd (w := (u5.alloc (.cells ([0, 0].map (Value.int .i64)).toArray 3))) (T := 3) (L := [1, 2]) (by decide) (by decide)
  rw [hz1] at hg1
  replace hg0 := hg0.below (C := u5.heap.size + 1) ((Below.refl _ _).alloc (by simp <;> omega) _ : Below (u5.heap.size + 1) (u5.alloc (.cells ([0, 0].map (Value.int .i64)).toArray 3)) ((u5.alloc (.cells ([0, 0].map (Value.int .i64)).toArray 3)).alloc (.cells ([1, 2].map (Value.int .i64)).toArray 3))) (by omega)
  have ha : Below u5.heap.size u5 ((u5.alloc (.cells ([0, 0].map (Value.int .i64)).toArray 3)).alloc (.cells ([1, 2].map (Value.int .i64)).toArray 3)) := ((Below.refl _ _).alloc (by simp <;> omega) _).alloc (by simp <;> omega) _
  have hs : ((u5.alloc (.cells ([0, 0].map (Value.int .i64)).toArray 3)).alloc (.cells ([1, 2].map (Value.int .i64)).toArray 3)).heap.size = u5.heap.size + 2 := by simp
  try simp only [List.map_cons, List.map_nil] at hg0 hg1 ha hs
  generalize (u5.alloc (.cells #[.int .i64 0, .int .i64 0] 3)).alloc (.cells #[.int .i64 1, .int .i64 2] 3) = a6 at *
  have HG0 := Lib.hid hg0
  have HG1 := Lib.hid hg1
  have HS := Lib.hid hs
  have HA := Lib.hid ha
  clear ha hs hg0 hg1
  clear hz1
  replace L_two := Lib.hid ((L_two.out.below HA.out (Nat.le_refl _)).more HA.out.size)
  replace L_one := Lib.hid ((L_one.out.below HA.out (Nat.le_refl _)).more HA.out.size)
  refine (pBid (cap := 2) (cap' := 2) HG0.out (by rw [HS.out]; omega) HG1.out (by rw [HS.out]; omega) 1 0 (-1) 5).mono ?_
  rw [show (bdR [0, 0] [1, 2] 1 0 (-1) 5).1 = 0 by decide +kernel, show (bdR [0, 0] [1, 2] 1 0 (-1) 5).2 = 0 by decide +kernel, show bdE [0, 0] [1, 2] 1 0 (-1) 5 = 2 by decide +kernel]
  rintro e u6 ⟨rfl, hu⟩
  have HST := Lib.hid (HA.out.trans (hu.mono HA.out.size))
  have HB6 := Lib.hid (HB5.out.trans (HST.out.mono HB5.out.size))
  replace L_two := Lib.hid ((L_two.out.below hu (Nat.le_refl _)).more hu.size)
  replace L_one := Lib.hid ((L_one.out.below hu (Nat.le_refl _)).more hu.size)
  clear hu HA HS HST HB5 HG0 HG1
  go_wp2_with fail
  have hg0 := newRd (w := u6) (T := 3) (L := [0, 0]) (by decide) (by decide)
  have hz1 : (u6.alloc (.cells ([0, 0].map (Value.int .i64)).toArray 3)).heap.size = u6.heap.size + 1 := by simp
  have hg1 := newRd (w := (u6.alloc (.cells ([0, 0].map (Value.int .i64)).toArray 3))) (T := 3) (L := [1, 2]) (by decide) (by decide)
  rw [hz1] at hg1
  replace hg0 := hg0.below (C := u6.heap.size + 1) ((Below.refl _ _).alloc (by simp <;> omega) _ : Below (u6.heap.size + 1) (u6.alloc (.cells ([0, 0].map (Value.int .i64)).toArray 3)) ((u6.alloc (.cells ([0, 0].map (Value.int .i64)).toArray 3)).alloc (.cells ([1, 2].map (Value.int .i64)).toArray 3))) (by omega)
  have ha : Below u6.heap.size u6 ((u6.alloc (.cells ([0, 0].map (Value.int .i64)).toArray 3)).alloc (.cells ([1, 2].map (Value.int .i64)).toArray 3)) := ((Below.refl _ _).alloc (by simp <;> omega) _).alloc (by simp <;> omega) _
  have hs : ((u6.alloc (.cells ([0, 0].map (Value.int .i64)).toArray 3)).alloc (.cells ([1, 2].map (Value.int .i64)).toArray 3)).heap.size = u6.heap.size + 2 := by simp
  try simp only [List.map_cons, List.map_nil] at hg0 hg1 ha hs
  generalize (u6.alloc (.cells #[.int .i64 0, .int .i64 0] 3)).alloc (.cells #[.int .i64 1, .int .i64 2] 3) = a7 at *
  have HG0 := Lib.hid hg0
  have HG1 := Lib.hid hg1
  have HS := Lib.hid hs
  have HA := Lib.hid ha
  clear ha hs hg0 hg1
  clear hz1
  replace L_two := Lib.hid ((L_two.out.below HA.out (Nat.le_refl _)).more HA.out.size)
  replace L_one := Lib.hid ((L_one.out.below HA.out (Nat.le_refl _)).more HA.out.size)
  refine (pBid (cap := 2) (cap' := 2) HG0.out (by rw [HS.out]; omega) HG1.out (by rw [HS.out]; omega) 1 0 5 301).mono ?_
  rw [show (bdR [0, 0] [1, 2] 1 0 5 301).1 = 0 by decide +kernel, show (bdR [0, 0] [1, 2] 1 0 5 301).2 = 0 by decide +kernel, show bdE [0, 0] [1, 2] 1 0 5 301 = 2 by decide +kernel]
  rintro e u7 ⟨rfl, hu⟩
  have HST := Lib.hid (HA.out.trans (hu.mono HA.out.size))
  have HB7 := Lib.hid (HB6.out.trans (HST.out.mono HB6.out.size))
  replace L_two := Lib.hid ((L_two.out.below hu (Nat.le_refl _)).more hu.size)
  replace L_one := Lib.hid ((L_one.out.below hu (Nat.le_refl _)).more hu.size)
  clear hu HA HS HST HB6 HG0 HG1
  go_wp2_with fail
  have hg0 := newRd (w := u7) (T := 3) (L := [0, 0]) (by decide) (by decide)
  have hz1 : (u7.alloc (.cells ([0, 0].map (Value.int .i64)).toArray 3)).heap.size = u7.heap.size + 1 := by simp
  have hg1 := newRd (w := (u7.alloc (.cells ([0, 0].map (Value.int .i64)).toArray 3))) (T := 3) (L := [1]) (by decide) (by decide)
  rw [hz1] at hg1
  replace hg0 := hg0.below (C := u7.heap.size + 1) ((Below.refl _ _).alloc (by simp <;> omega) _ : Below (u7.heap.size + 1) (u7.alloc (.cells ([0, 0].map (Value.int .i64)).toArray 3)) ((u7.alloc (.cells ([0, 0].map (Value.int .i64)).toArray 3)).alloc (.cells ([1].map (Value.int .i64)).toArray 3))) (by omega)
  have ha : Below u7.heap.size u7 ((u7.alloc (.cells ([0, 0].map (Value.int .i64)).toArray 3)).alloc (.cells ([1].map (Value.int .i64)).toArray 3)) := ((Below.refl _ _).alloc (by simp <;> omega) _).alloc (by simp <;> omega) _
  have hs : ((u7.alloc (.cells ([0, 0].map (Value.int .i64)).toArray 3)).alloc (.cells ([1].map (Value.int .i64)).toArray 3)).heap.size = u7.heap.size + 2 := by simp
  try simp only [List.map_cons, List.map_nil] at hg0 hg1 ha hs
  generalize (u7.alloc (.cells #[.int .i64 0, .int .i64 0] 3)).alloc (.cells #[.int .i64 1] 3) = a8 at *
  have HG0 := Lib.hid hg0
  have HG1 := Lib.hid hg1
  have HS := Lib.hid hs
  have HA := Lib.hid ha
  clear ha hs hg0 hg1
  clear hz1
  replace L_two := Lib.hid ((L_two.out.below HA.out (Nat.le_refl _)).more HA.out.size)
  replace L_one := Lib.hid ((L_one.out.below HA.out (Nat.le_refl _)).more HA.out.size)
  refine (pBid (cap := 2) (cap' := 1) HG0.out (by rw [HS.out]; omega) HG1.out (by rw [HS.out]; omega) 1 0 5 5).mono ?_
  rw [show (bdR [0, 0] [1] 1 0 5 5).1 = 0 by decide +kernel, show (bdR [0, 0] [1] 1 0 5 5).2 = 0 by decide +kernel, show bdE [0, 0] [1] 1 0 5 5 = 8 by decide +kernel]
  rintro e u8 ⟨rfl, hu⟩
  have HST := Lib.hid (HA.out.trans (hu.mono HA.out.size))
  have HB8 := Lib.hid (HB7.out.trans (HST.out.mono HB7.out.size))
  replace L_two := Lib.hid ((L_two.out.below hu (Nat.le_refl _)).more hu.size)
  replace L_one := Lib.hid ((L_one.out.below hu (Nat.le_refl _)).more hu.size)
  clear hu HA HS HST HB7 HG0 HG1
  go_wp2_with fail
  have hg0 := newRd (w := u8) (T := 3) (L := [1000000, (-1000000), 0]) (by decide) (by decide)
  have hz1 : (u8.alloc (.cells ([1000000, (-1000000), 0].map (Value.int .i64)).toArray 3)).heap.size = u8.heap.size + 1 := by simp
  have hg1 := newRd (w := (u8.alloc (.cells ([1000000, (-1000000), 0].map (Value.int .i64)).toArray 3))) (T := 3) (L := [8, 9, 0]) (by decide) (by decide)
  rw [hz1] at hg1
  replace hg0 := hg0.below (C := u8.heap.size + 1) ((Below.refl _ _).alloc (by simp <;> omega) _ : Below (u8.heap.size + 1) (u8.alloc (.cells ([1000000, (-1000000), 0].map (Value.int .i64)).toArray 3)) ((u8.alloc (.cells ([1000000, (-1000000), 0].map (Value.int .i64)).toArray 3)).alloc (.cells ([8, 9, 0].map (Value.int .i64)).toArray 3))) (by omega)
  have ha : Below u8.heap.size u8 ((u8.alloc (.cells ([1000000, (-1000000), 0].map (Value.int .i64)).toArray 3)).alloc (.cells ([8, 9, 0].map (Value.int .i64)).toArray 3)) := ((Below.refl _ _).alloc (by simp <;> omega) _).alloc (by simp <;> omega) _
  have hs : ((u8.alloc (.cells ([1000000, (-1000000), 0].map (Value.int .i64)).toArray 3)).alloc (.cells ([8, 9, 0].map (Value.int .i64)).toArray 3)).heap.size = u8.heap.size + 2 := by simp
  try simp only [List.map_cons, List.map_nil] at hg0 hg1 ha hs
  generalize (u8.alloc (.cells #[.int .i64 1000000, .int .i64 (-1000000), .int .i64 0] 3)).alloc (.cells #[.int .i64 8, .int .i64 9, .int .i64 0] 3) = a9 at *
  have HG0 := Lib.hid hg0
  have HG1 := Lib.hid hg1
  have HS := Lib.hid hs
  have HA := Lib.hid ha
  clear ha hs hg0 hg1
  clear hz1
  replace L_two := Lib.hid ((L_two.out.below HA.out (Nat.le_refl _)).more HA.out.size)
  replace L_one := Lib.hid ((L_one.out.below HA.out (Nat.le_refl _)).more HA.out.size)
  refine (pBid (cap := 3) (cap' := 3) HG0.out (by rw [HS.out]; omega) HG1.out (by rw [HS.out]; omega) 1 2 5 5).mono ?_
  rw [show (bdR [1000000, (-1000000), 0] [8, 9, 0] 1 2 5 5).1 = 0 by decide +kernel, show (bdR [1000000, (-1000000), 0] [8, 9, 0] 1 2 5 5).2 = 0 by decide +kernel, show bdE [1000000, (-1000000), 0] [8, 9, 0] 1 2 5 5 = 6 by decide +kernel]
  rintro e u9 ⟨rfl, hu⟩
  have HST := Lib.hid (HA.out.trans (hu.mono HA.out.size))
  have HB9 := Lib.hid (HB8.out.trans (HST.out.mono HB8.out.size))
  replace L_two := Lib.hid ((L_two.out.below hu (Nat.le_refl _)).more hu.size)
  replace L_one := Lib.hid ((L_one.out.below hu (Nat.le_refl _)).more hu.size)
  clear hu HA HS HST HB8 HG0 HG1
  go_wp2_with fail
  have hg0 := newRd (w := u9) (T := 3) (L := [0, 0]) (by decide) (by decide)
  have hz1 : (u9.alloc (.cells ([0, 0].map (Value.int .i64)).toArray 3)).heap.size = u9.heap.size + 1 := by simp
  have hg1 := newRd (w := (u9.alloc (.cells ([0, 0].map (Value.int .i64)).toArray 3))) (T := 3) (L := [7, 4]) (by decide) (by decide)
  rw [hz1] at hg1
  replace hg0 := hg0.below (C := u9.heap.size + 1) ((Below.refl _ _).alloc (by simp <;> omega) _ : Below (u9.heap.size + 1) (u9.alloc (.cells ([0, 0].map (Value.int .i64)).toArray 3)) ((u9.alloc (.cells ([0, 0].map (Value.int .i64)).toArray 3)).alloc (.cells ([7, 4].map (Value.int .i64)).toArray 3))) (by omega)
  have ha : Below u9.heap.size u9 ((u9.alloc (.cells ([0, 0].map (Value.int .i64)).toArray 3)).alloc (.cells ([7, 4].map (Value.int .i64)).toArray 3)) := ((Below.refl _ _).alloc (by simp <;> omega) _).alloc (by simp <;> omega) _
  have hs : ((u9.alloc (.cells ([0, 0].map (Value.int .i64)).toArray 3)).alloc (.cells ([7, 4].map (Value.int .i64)).toArray 3)).heap.size = u9.heap.size + 2 := by simp
  try simp only [List.map_cons, List.map_nil] at hg0 hg1 ha hs
  generalize (u9.alloc (.cells #[.int .i64 0, .int .i64 0] 3)).alloc (.cells #[.int .i64 7, .int .i64 4] 3) = a10 at *
  have HG0 := Lib.hid hg0
  have HG1 := Lib.hid hg1
  have HS := Lib.hid hs
  have HA := Lib.hid ha
  clear ha hs hg0 hg1
  clear hz1
  replace L_two := Lib.hid ((L_two.out.below HA.out (Nat.le_refl _)).more HA.out.size)
  replace L_one := Lib.hid ((L_one.out.below HA.out (Nat.le_refl _)).more HA.out.size)
  refine (pBid (cap := 2) (cap' := 2) HG0.out (by rw [HS.out]; omega) HG1.out (by rw [HS.out]; omega) 1 0 9 20).mono ?_
  rw [show (bdR [0, 0] [7, 4] 1 0 9 20).1 = 4 by decide +kernel, show (bdR [0, 0] [7, 4] 1 0 9 20).2 = 7 by decide +kernel, show bdE [0, 0] [7, 4] 1 0 9 20 = 0 by decide +kernel]
  rintro e u10 ⟨rfl, hu⟩
  have HST := Lib.hid (HA.out.trans (hu.mono HA.out.size))
  have HB10 := Lib.hid (HB9.out.trans (HST.out.mono HB9.out.size))
  replace L_two := Lib.hid ((L_two.out.below hu (Nat.le_refl _)).more hu.size)
  replace L_one := Lib.hid ((L_one.out.below hu (Nat.le_refl _)).more hu.size)
  clear hu HA HS HST HB9 HG0 HG1
  go_wp2_with fail
  have hg0 := newRd (w := u10) (T := 3) (L := [0, 0, 0, 0, 0, 0, 0]) (by decide) (by decide)
  have ha : Below u10.heap.size u10 (u10.alloc (.cells ([0, 0, 0, 0, 0, 0, 0].map (Value.int .i64)).toArray 3)) := (Below.refl _ _).alloc (by simp <;> omega) _
  have hs : (u10.alloc (.cells ([0, 0, 0, 0, 0, 0, 0].map (Value.int .i64)).toArray 3)).heap.size = u10.heap.size + 1 := by simp
  try simp only [List.map_cons, List.map_nil] at hg0 ha hs
  generalize u10.alloc (.cells #[.int .i64 0, .int .i64 0, .int .i64 0, .int .i64 0, .int .i64 0, .int .i64 0, .int .i64 0] 3) = a11 at *
  have HG0 := Lib.hid hg0
  have HS := Lib.hid hs
  have HA := Lib.hid ha
  clear ha hs hg0
  replace L_two := Lib.hid ((L_two.out.below HA.out (Nat.le_refl _)).more HA.out.size)
  replace L_one := Lib.hid ((L_one.out.below HA.out (Nat.le_refl _)).more HA.out.size)
  refine (lPickE (cap := 7) (cap' := 2) HG0.out L_one.out (by rw [HS.out]; omega) (Nat.le_refl _) (by decide)).mono ?_
  rw [show pkL [0, 0, 0, 0, 0, 0, 0] [[0], [0]] = [] by decide +kernel, show chk35 [0, 0, 0, 0, 0, 0, 0] [[0], [0]] = 4 by decide +kernel]
  rintro e u11 ⟨Ap11, cp11, rfl, _, hu⟩
  have HST := Lib.hid (HA.out.trans (hu.mono HA.out.size))
  have HB11 := Lib.hid (HB10.out.trans (HST.out.mono HB10.out.size))
  replace L_two := Lib.hid ((L_two.out.below hu (Nat.le_refl _)).more hu.size)
  replace L_one := Lib.hid ((L_one.out.below hu (Nat.le_refl _)).more hu.size)
  clear hu HA HS HST HB10 HG0
  go_wp2_with fail
  have hg0 := newRd (w := u11) (T := 3) (L := [0]) (by decide) (by decide)
  have hz1 : (u11.alloc (.cells ([0].map (Value.int .i64)).toArray 3)).heap.size = u11.heap.size + 1 := by simp
  have hg1 := newRows (w := (u11.alloc (.cells ([0].map (Value.int .i64)).toArray 3))) (T := 22) 7 (by decide)
  rw [hz1] at hg1
  replace hg0 := hg0.below (C := u11.heap.size + 1) ((Below.refl _ _).alloc (by simp <;> omega) _ : Below (u11.heap.size + 1) (u11.alloc (.cells ([0].map (Value.int .i64)).toArray 3)) ((u11.alloc (.cells ([0].map (Value.int .i64)).toArray 3)).alloc (.cells (madeCells #[.slice none 0 0] 7) 22))) (by omega)
  have ha : Below u11.heap.size u11 ((u11.alloc (.cells ([0].map (Value.int .i64)).toArray 3)).alloc (.cells (madeCells #[.slice none 0 0] 7) 22)) := ((Below.refl _ _).alloc (by simp <;> omega) _).alloc (by simp <;> omega) _
  have hs : ((u11.alloc (.cells ([0].map (Value.int .i64)).toArray 3)).alloc (.cells (madeCells #[.slice none 0 0] 7) 22)).heap.size = u11.heap.size + 2 := by simp
  try simp only [List.map_cons, List.map_nil, List.map_cons] at hg0 hg1 ha hs
  generalize (u11.alloc (.cells #[.int .i64 0] 3)).alloc (.cells (madeCells #[.slice none 0 0] 7) 22) = a12 at *
  have HG0 := Lib.hid hg0
  have HG1 := Lib.hid hg1
  have HS := Lib.hid hs
  have HA := Lib.hid ha
  clear ha hs hg0 hg1
  clear hz1
  replace L_two := Lib.hid ((L_two.out.below HA.out (Nat.le_refl _)).more HA.out.size)
  replace L_one := Lib.hid ((L_one.out.below HA.out (Nat.le_refl _)).more HA.out.size)
  refine (lPickE (cap := 1) (cap' := 7) HG0.out HG1.out (by rw [HS.out]; omega) (by rw [HS.out]; omega) (by decide)).mono ?_
  rw [show pkL [0] (List.replicate 7 []) = [] by decide +kernel, show chk35 [0] (List.replicate 7 []) = 4 by decide +kernel]
  rintro e u12 ⟨Aq1, cq1, rfl, _, hu⟩
  have HST := Lib.hid (HA.out.trans (hu.mono HA.out.size))
  have HB12 := Lib.hid (HB11.out.trans (HST.out.mono HB11.out.size))
  replace L_two := Lib.hid ((L_two.out.below hu (Nat.le_refl _)).more hu.size)
  replace L_one := Lib.hid ((L_one.out.below hu (Nat.le_refl _)).more hu.size)
  clear hu HA HS HST HB11 HG0 HG1
  go_wp2_with fail
  have hg0 := newRd (w := u12) (T := 3) (L := [2]) (by decide) (by decide)
  have ha : Below u12.heap.size u12 (u12.alloc (.cells ([2].map (Value.int .i64)).toArray 3)) := (Below.refl _ _).alloc (by simp <;> omega) _
  have hs : (u12.alloc (.cells ([2].map (Value.int .i64)).toArray 3)).heap.size = u12.heap.size + 1 := by simp
  try simp only [List.map_cons, List.map_nil] at hg0 ha hs
  generalize u12.alloc (.cells #[.int .i64 2] 3) = a13 at *
  have HG0 := Lib.hid hg0
  have HS := Lib.hid hs
  have HA := Lib.hid ha
  clear ha hs hg0
  replace L_two := Lib.hid ((L_two.out.below HA.out (Nat.le_refl _)).more HA.out.size)
  replace L_one := Lib.hid ((L_one.out.below HA.out (Nat.le_refl _)).more HA.out.size)
  refine (lPickE (cap := 1) (cap' := 2) HG0.out L_one.out (by rw [HS.out]; omega) (Nat.le_refl _) (by decide)).mono ?_
  rw [show pkL [2] [[0], [0]] = [] by decide +kernel, show chk35 [2] [[0], [0]] = 8 by decide +kernel]
  rintro e u13 ⟨Ap13, cp13, rfl, _, hu⟩
  have HST := Lib.hid (HA.out.trans (hu.mono HA.out.size))
  have HB13 := Lib.hid (HB12.out.trans (HST.out.mono HB12.out.size))
  replace L_two := Lib.hid ((L_two.out.below hu (Nat.le_refl _)).more hu.size)
  replace L_one := Lib.hid ((L_one.out.below hu (Nat.le_refl _)).more hu.size)
  clear hu HA HS HST HB12 HG0
  go_wp2_with fail
  have hg0 := newRd (w := u13) (T := 3) (L := [0]) (by decide) (by decide)
  have hz1 : (u13.alloc (.cells ([0].map (Value.int .i64)).toArray 3)).heap.size = u13.heap.size + 1 := by simp
  have hg1 := newRd (w := (u13.alloc (.cells ([0].map (Value.int .i64)).toArray 3))) (T := 3) (L := [1]) (by decide) (by decide)
  rw [hz1] at hg1
  replace hg0 := hg0.below (C := u13.heap.size + 1) ((Below.refl _ _).alloc (by simp <;> omega) _ : Below (u13.heap.size + 1) (u13.alloc (.cells ([0].map (Value.int .i64)).toArray 3)) ((u13.alloc (.cells ([0].map (Value.int .i64)).toArray 3)).alloc (.cells ([1].map (Value.int .i64)).toArray 3))) (by omega)
  have hz2 : ((u13.alloc (.cells ([0].map (Value.int .i64)).toArray 3)).alloc (.cells ([1].map (Value.int .i64)).toArray 3)).heap.size = u13.heap.size + 2 := by simp
  have hg2 := newRd2 (w := ((u13.alloc (.cells ([0].map (Value.int .i64)).toArray 3)).alloc (.cells ([1].map (Value.int .i64)).toArray 3))) (T := 22) (vs := [.slice (some ⟨u13.heap.size + 1, 0, none⟩) 1 1]) (F := [[1]]) rfl (row1 ⟨_, _, rfl, hg1.more (by omega)⟩) (by decide)
  rw [hz2] at hg2
  replace hg0 := hg0.below (C := u13.heap.size + 2) ((Below.refl _ _).alloc (by simp <;> omega) _ : Below (u13.heap.size + 2) ((u13.alloc (.cells ([0].map (Value.int .i64)).toArray 3)).alloc (.cells ([1].map (Value.int .i64)).toArray 3)) (((u13.alloc (.cells ([0].map (Value.int .i64)).toArray 3)).alloc (.cells ([1].map (Value.int .i64)).toArray 3)).alloc (.cells ([.slice (some ⟨u13.heap.size + 1, 0, none⟩) 1 1] : List Value).toArray 22))) (by omega)
  replace hg1 := hg1.below (C := u13.heap.size + 2) ((Below.refl _ _).alloc (by simp <;> omega) _ : Below (u13.heap.size + 2) ((u13.alloc (.cells ([0].map (Value.int .i64)).toArray 3)).alloc (.cells ([1].map (Value.int .i64)).toArray 3)) (((u13.alloc (.cells ([0].map (Value.int .i64)).toArray 3)).alloc (.cells ([1].map (Value.int .i64)).toArray 3)).alloc (.cells ([.slice (some ⟨u13.heap.size + 1, 0, none⟩) 1 1] : List Value).toArray 22))) (by omega)
  have ha : Below u13.heap.size u13 (((u13.alloc (.cells ([0].map (Value.int .i64)).toArray 3)).alloc (.cells ([1].map (Value.int .i64)).toArray 3)).alloc (.cells ([.slice (some ⟨u13.heap.size + 1, 0, none⟩) 1 1] : List Value).toArray 22)) := (((Below.refl _ _).alloc (by simp <;> omega) _).alloc (by simp <;> omega) _).alloc (by simp <;> omega) _
  have hs : (((u13.alloc (.cells ([0].map (Value.int .i64)).toArray 3)).alloc (.cells ([1].map (Value.int .i64)).toArray 3)).alloc (.cells ([.slice (some ⟨u13.heap.size + 1, 0, none⟩) 1 1] : List Value).toArray 22)).heap.size = u13.heap.size + 3 := by simp
  try simp only [List.map_cons, List.map_nil, List.map_cons] at hg0 hg1 hg2 ha hs
  generalize ((u13.alloc (.cells #[.int .i64 0] 3)).alloc (.cells #[.int .i64 1] 3)).alloc (.cells #[.slice (some ⟨u13.heap.size + 1, 0, none⟩) 1 1] 22) = a14 at *
  have HG0 := Lib.hid hg0
  have HG1 := Lib.hid hg1
  have HG2 := Lib.hid hg2
  have HS := Lib.hid hs
  have HA := Lib.hid ha
  clear ha hs hg0 hg1 hg2
  clear hz1 hz2
  replace L_two := Lib.hid ((L_two.out.below HA.out (Nat.le_refl _)).more HA.out.size)
  replace L_one := Lib.hid ((L_one.out.below HA.out (Nat.le_refl _)).more HA.out.size)
  refine (lPickE (cap := 1) (cap' := 1) HG0.out HG2.out (by rw [HS.out]; omega) (by rw [HS.out]; omega) (by decide)).mono ?_
  rw [show pkL [0] [[1]] = [] by decide +kernel, show chk35 [0] [[1]] = 8 by decide +kernel]
  rintro e u14 ⟨Ap14, cp14, rfl, _, hu⟩
  have HST := Lib.hid (HA.out.trans (hu.mono HA.out.size))
  have HB14 := Lib.hid (HB13.out.trans (HST.out.mono HB13.out.size))
  replace L_two := Lib.hid ((L_two.out.below hu (Nat.le_refl _)).more hu.size)
  replace L_one := Lib.hid ((L_one.out.below hu (Nat.le_refl _)).more hu.size)
  clear hu HA HS HST HB13 HG0 HG1 HG2
  go_wp2_with fail
  have HS : Hid (u14.heap.size = u14.heap.size + 0) := Lib.hid rfl
  have HA := Lib.hid (Below.refl u14.heap.size u14)
  replace L_two := Lib.hid ((L_two.out.below HA.out (Nat.le_refl _)).more HA.out.size)
  replace L_one := Lib.hid ((L_one.out.below HA.out (Nat.le_refl _)).more HA.out.size)
  refine (lPickE (cap := 0) (cap' := 0) (Rd.nil u14 u14.heap.size none) (RdOf.nil u14 u14.heap.size none) (Nat.le_refl _) (Nat.le_refl _) (by decide)).mono ?_
  rw [show pkL [] [] = [] by decide +kernel, show chk35 [] [] = 8 by decide +kernel]
  rintro e u15 ⟨Ap15, cp15, rfl, _, hu⟩
  have HST := Lib.hid (HA.out.trans (hu.mono HA.out.size))
  have HB15 := Lib.hid (HB14.out.trans (HST.out.mono HB14.out.size))
  replace L_two := Lib.hid ((L_two.out.below hu (Nat.le_refl _)).more hu.size)
  replace L_one := Lib.hid ((L_one.out.below hu (Nat.le_refl _)).more hu.size)
  clear hu HA HS HST HB14 
  go_wp2_with fail
  have hg0 := newRd2 (w := u15) (T := 22) (vs := [.slice none 0 0]) (F := [[]]) rfl (row1 ⟨none, 0, rfl, Rd.nil _ _ _⟩) (by decide)
  have ha : Below u15.heap.size u15 (u15.alloc (.cells ([.slice none 0 0] : List Value).toArray 22)) := (Below.refl _ _).alloc (by simp <;> omega) _
  have hs : (u15.alloc (.cells ([.slice none 0 0] : List Value).toArray 22)).heap.size = u15.heap.size + 1 := by simp
  try simp only [List.map_cons, List.map_nil, List.map_cons] at hg0 ha hs
  generalize u15.alloc (.cells #[.slice none 0 0] 22) = a16 at *
  have HG0 := Lib.hid hg0
  have HS := Lib.hid hs
  have HA := Lib.hid ha
  clear ha hs hg0
  replace L_two := Lib.hid ((L_two.out.below HA.out (Nat.le_refl _)).more HA.out.size)
  replace L_one := Lib.hid ((L_one.out.below HA.out (Nat.le_refl _)).more HA.out.size)
  refine (lPickE (cap := 0) (cap' := 1) (Rd.nil a16 a16.heap.size none) HG0.out (Nat.le_refl _) (by rw [HS.out]; omega) (by decide)).mono ?_
  rw [show pkL [] [[]] = [] by decide +kernel, show chk35 [] [[]] = 0 by decide +kernel]
  rintro e u16 ⟨Ap16, cp16, rfl, _, hu⟩
  have HST := Lib.hid (HA.out.trans (hu.mono HA.out.size))
  have HB16 := Lib.hid (HB15.out.trans (HST.out.mono HB15.out.size))
  replace L_two := Lib.hid ((L_two.out.below hu (Nat.le_refl _)).more hu.size)
  replace L_one := Lib.hid ((L_one.out.below hu (Nat.le_refl _)).more hu.size)
  clear hu HA HS HST HB15 HG0
  go_wp2_with fail
  have hg0 := newRd (w := u16) (T := 3) (L := [0, 0, 0, 0, 0, 0, 0]) (by decide) (by decide)
  have ha : Below u16.heap.size u16 (u16.alloc (.cells ([0, 0, 0, 0, 0, 0, 0].map (Value.int .i64)).toArray 3)) := (Below.refl _ _).alloc (by simp <;> omega) _
  have hs : (u16.alloc (.cells ([0, 0, 0, 0, 0, 0, 0].map (Value.int .i64)).toArray 3)).heap.size = u16.heap.size + 1 := by simp
  try simp only [List.map_cons, List.map_nil] at hg0 ha hs
  generalize u16.alloc (.cells #[.int .i64 0, .int .i64 0, .int .i64 0, .int .i64 0, .int .i64 0, .int .i64 0, .int .i64 0] 3) = a17 at *
  have HG0 := Lib.hid hg0
  have HS := Lib.hid hs
  have HA := Lib.hid ha
  clear ha hs hg0
  replace L_two := Lib.hid ((L_two.out.below HA.out (Nat.le_refl _)).more HA.out.size)
  replace L_one := Lib.hid ((L_one.out.below HA.out (Nat.le_refl _)).more HA.out.size)
  refine (lTrueE (cap := 7) HG0.out (by rw [HS.out]; omega)).mono ?_
  rw [show trL [0, 0, 0, 0, 0, 0, 0] = [] by decide +kernel, show val35 [0, 0, 0, 0, 0, 0, 0] = 4 by decide +kernel]
  rintro e u17 ⟨At17, ct17, rfl, _, hu⟩
  have HST := Lib.hid (HA.out.trans (hu.mono HA.out.size))
  have HB17 := Lib.hid (HB16.out.trans (HST.out.mono HB16.out.size))
  replace L_two := Lib.hid ((L_two.out.below hu (Nat.le_refl _)).more hu.size)
  replace L_one := Lib.hid ((L_one.out.below hu (Nat.le_refl _)).more hu.size)
  clear hu HA HS HST HB16 HG0
  go_wp2_with fail
  have hg0 := newRd (w := u17) (T := 3) (L := [1001]) (by decide) (by decide)
  have ha : Below u17.heap.size u17 (u17.alloc (.cells ([1001].map (Value.int .i64)).toArray 3)) := (Below.refl _ _).alloc (by simp <;> omega) _
  have hs : (u17.alloc (.cells ([1001].map (Value.int .i64)).toArray 3)).heap.size = u17.heap.size + 1 := by simp
  try simp only [List.map_cons, List.map_nil] at hg0 ha hs
  generalize u17.alloc (.cells #[.int .i64 1001] 3) = a18 at *
  have HG0 := Lib.hid hg0
  have HS := Lib.hid hs
  have HA := Lib.hid ha
  clear ha hs hg0
  replace L_two := Lib.hid ((L_two.out.below HA.out (Nat.le_refl _)).more HA.out.size)
  replace L_one := Lib.hid ((L_one.out.below HA.out (Nat.le_refl _)).more HA.out.size)
  refine (lTrueE (cap := 1) HG0.out (by rw [HS.out]; omega)).mono ?_
  rw [show trL [1001] = [] by decide +kernel, show val35 [1001] = 8 by decide +kernel]
  rintro e u18 ⟨At18, ct18, rfl, _, hu⟩
  have HST := Lib.hid (HA.out.trans (hu.mono HA.out.size))
  have HB18 := Lib.hid (HB17.out.trans (HST.out.mono HB17.out.size))
  replace L_two := Lib.hid ((L_two.out.below hu (Nat.le_refl _)).more hu.size)
  replace L_one := Lib.hid ((L_one.out.below hu (Nat.le_refl _)).more hu.size)
  clear hu HA HS HST HB17 HG0
  go_wp2_with fail
  have hg0 := newRd (w := u18) (T := 3) (L := [3, 9, 9]) (by decide) (by decide)
  have ha : Below u18.heap.size u18 (u18.alloc (.cells ([3, 9, 9].map (Value.int .i64)).toArray 3)) := (Below.refl _ _).alloc (by simp <;> omega) _
  have hs : (u18.alloc (.cells ([3, 9, 9].map (Value.int .i64)).toArray 3)).heap.size = u18.heap.size + 1 := by simp
  try simp only [List.map_cons, List.map_nil] at hg0 ha hs
  generalize u18.alloc (.cells #[.int .i64 3, .int .i64 9, .int .i64 9] 3) = a19 at *
  have HG0 := Lib.hid hg0
  have HS := Lib.hid hs
  have HA := Lib.hid ha
  clear ha hs hg0
  replace L_two := Lib.hid ((L_two.out.below HA.out (Nat.le_refl _)).more HA.out.size)
  replace L_one := Lib.hid ((L_one.out.below HA.out (Nat.le_refl _)).more HA.out.size)
  refine (lTrueE (cap := 3) HG0.out (by rw [HS.out]; omega)).mono ?_
  rw [show trL [3, 9, 9] = [1, 2, 0] by decide +kernel, show val35 [3, 9, 9] = 0 by decide +kernel]
  rintro e u19 ⟨At19, ct19, rfl, rt, hu⟩
  have HST := Lib.hid (HA.out.trans (hu.mono HA.out.size))
  have HB19 := Lib.hid (HB18.out.trans (HST.out.mono HB18.out.size))
  replace L_two := Lib.hid ((L_two.out.below hu (Nat.le_refl _)).more hu.size)
  replace L_one := Lib.hid ((L_one.out.below hu (Nat.le_refl _)).more hu.size)
  have L_t := Lib.hid rt
  clear rt
  clear hu HA HS HST HB18 HG0
  go_wp2_with fail
  have hg0 := newRd (w := u19) (T := 3) (L := [0]) (by decide) (by decide)
  have hz1 : (u19.alloc (.cells ([0].map (Value.int .i64)).toArray 3)).heap.size = u19.heap.size + 1 := by simp
  have hg1 := newRd (w := (u19.alloc (.cells ([0].map (Value.int .i64)).toArray 3))) (T := 3) (L := [1]) (by decide) (by decide)
  rw [hz1] at hg1
  replace hg0 := hg0.below (C := u19.heap.size + 1) ((Below.refl _ _).alloc (by simp <;> omega) _ : Below (u19.heap.size + 1) (u19.alloc (.cells ([0].map (Value.int .i64)).toArray 3)) ((u19.alloc (.cells ([0].map (Value.int .i64)).toArray 3)).alloc (.cells ([1].map (Value.int .i64)).toArray 3))) (by omega)
  have ha : Below u19.heap.size u19 ((u19.alloc (.cells ([0].map (Value.int .i64)).toArray 3)).alloc (.cells ([1].map (Value.int .i64)).toArray 3)) := ((Below.refl _ _).alloc (by simp <;> omega) _).alloc (by simp <;> omega) _
  have hs : ((u19.alloc (.cells ([0].map (Value.int .i64)).toArray 3)).alloc (.cells ([1].map (Value.int .i64)).toArray 3)).heap.size = u19.heap.size + 2 := by simp
  try simp only [List.map_cons, List.map_nil] at hg0 hg1 ha hs
  generalize (u19.alloc (.cells #[.int .i64 0] 3)).alloc (.cells #[.int .i64 1] 3) = a20 at *
  have HG0 := Lib.hid hg0
  have HG1 := Lib.hid hg1
  have HS := Lib.hid hs
  have HA := Lib.hid ha
  clear ha hs hg0 hg1
  clear hz1
  replace L_two := Lib.hid ((L_two.out.below HA.out (Nat.le_refl _)).more HA.out.size)
  replace L_one := Lib.hid ((L_one.out.below HA.out (Nat.le_refl _)).more HA.out.size)
  replace L_t := Lib.hid ((L_t.out.below HA.out (Nat.le_refl _)).more HA.out.size)
  refine (lHasE (cap := 1) (cap' := 2) (cap3 := 1) 2 HG0.out L_one.out HG1.out (by rw [HS.out]; omega) (Nat.le_refl _) (by rw [HS.out]; omega) (by decide)).mono ?_
  rw [show hsV [0] [[0], [0]] 2 [1] = 0 by decide +kernel, show lkd35 [0] [[0], [0]] 2 [1] = 2 by decide +kernel]
  rintro e u20 ⟨rfl, hu⟩
  have HST := Lib.hid (HA.out.trans (hu.mono HA.out.size))
  have HB20 := Lib.hid (HB19.out.trans (HST.out.mono HB19.out.size))
  replace L_two := Lib.hid ((L_two.out.below hu (Nat.le_refl _)).more hu.size)
  replace L_one := Lib.hid ((L_one.out.below hu (Nat.le_refl _)).more hu.size)
  replace L_t := Lib.hid ((L_t.out.below hu (Nat.le_refl _)).more hu.size)
  clear hu HA HS HST HB19 HG0 HG1
  go_wp2_with fail
  have hg0 := newRd (w := u20) (T := 3) (L := [0]) (by decide) (by decide)
  have hz1 : (u20.alloc (.cells ([0].map (Value.int .i64)).toArray 3)).heap.size = u20.heap.size + 1 := by simp
  have hg1 := newRd (w := (u20.alloc (.cells ([0].map (Value.int .i64)).toArray 3))) (T := 3) (L := [1, 2]) (by decide) (by decide)
  rw [hz1] at hg1
  replace hg0 := hg0.below (C := u20.heap.size + 1) ((Below.refl _ _).alloc (by simp <;> omega) _ : Below (u20.heap.size + 1) (u20.alloc (.cells ([0].map (Value.int .i64)).toArray 3)) ((u20.alloc (.cells ([0].map (Value.int .i64)).toArray 3)).alloc (.cells ([1, 2].map (Value.int .i64)).toArray 3))) (by omega)
  have ha : Below u20.heap.size u20 ((u20.alloc (.cells ([0].map (Value.int .i64)).toArray 3)).alloc (.cells ([1, 2].map (Value.int .i64)).toArray 3)) := ((Below.refl _ _).alloc (by simp <;> omega) _).alloc (by simp <;> omega) _
  have hs : ((u20.alloc (.cells ([0].map (Value.int .i64)).toArray 3)).alloc (.cells ([1, 2].map (Value.int .i64)).toArray 3)).heap.size = u20.heap.size + 2 := by simp
  try simp only [List.map_cons, List.map_nil] at hg0 hg1 ha hs
  generalize (u20.alloc (.cells #[.int .i64 0] 3)).alloc (.cells #[.int .i64 1, .int .i64 2] 3) = a21 at *
  have HG0 := Lib.hid hg0
  have HG1 := Lib.hid hg1
  have HS := Lib.hid hs
  have HA := Lib.hid ha
  clear ha hs hg0 hg1
  clear hz1
  replace L_two := Lib.hid ((L_two.out.below HA.out (Nat.le_refl _)).more HA.out.size)
  replace L_one := Lib.hid ((L_one.out.below HA.out (Nat.le_refl _)).more HA.out.size)
  replace L_t := Lib.hid ((L_t.out.below HA.out (Nat.le_refl _)).more HA.out.size)
  refine (lHasE (cap := 1) (cap' := 2) (cap3 := 2) 0 HG0.out L_one.out HG1.out (by rw [HS.out]; omega) (Nat.le_refl _) (by rw [HS.out]; omega) (by decide)).mono ?_
  rw [show hsV [0] [[0], [0]] 0 [1, 2] = 0 by decide +kernel, show lkd35 [0] [[0], [0]] 0 [1, 2] = 8 by decide +kernel]
  rintro e u21 ⟨rfl, hu⟩
  have HST := Lib.hid (HA.out.trans (hu.mono HA.out.size))
  have HB21 := Lib.hid (HB20.out.trans (HST.out.mono HB20.out.size))
  replace L_two := Lib.hid ((L_two.out.below hu (Nat.le_refl _)).more hu.size)
  replace L_one := Lib.hid ((L_one.out.below hu (Nat.le_refl _)).more hu.size)
  replace L_t := Lib.hid ((L_t.out.below hu (Nat.le_refl _)).more hu.size)
  clear hu HA HS HST HB20 HG0 HG1
  go_wp2_with fail
  have hg0 := newRd (w := u21) (T := 3) (L := [0]) (by decide) (by decide)
  have hz1 : (u21.alloc (.cells ([0].map (Value.int .i64)).toArray 3)).heap.size = u21.heap.size + 1 := by simp
  have hg1 := newRd (w := (u21.alloc (.cells ([0].map (Value.int .i64)).toArray 3))) (T := 3) (L := [(-1)]) (by decide) (by decide)
  rw [hz1] at hg1
  replace hg0 := hg0.below (C := u21.heap.size + 1) ((Below.refl _ _).alloc (by simp <;> omega) _ : Below (u21.heap.size + 1) (u21.alloc (.cells ([0].map (Value.int .i64)).toArray 3)) ((u21.alloc (.cells ([0].map (Value.int .i64)).toArray 3)).alloc (.cells ([(-1)].map (Value.int .i64)).toArray 3))) (by omega)
  have ha : Below u21.heap.size u21 ((u21.alloc (.cells ([0].map (Value.int .i64)).toArray 3)).alloc (.cells ([(-1)].map (Value.int .i64)).toArray 3)) := ((Below.refl _ _).alloc (by simp <;> omega) _).alloc (by simp <;> omega) _
  have hs : ((u21.alloc (.cells ([0].map (Value.int .i64)).toArray 3)).alloc (.cells ([(-1)].map (Value.int .i64)).toArray 3)).heap.size = u21.heap.size + 2 := by simp
  try simp only [List.map_cons, List.map_nil] at hg0 hg1 ha hs
  generalize (u21.alloc (.cells #[.int .i64 0] 3)).alloc (.cells #[.int .i64 (-1)] 3) = a22 at *
  have HG0 := Lib.hid hg0
  have HG1 := Lib.hid hg1
  have HS := Lib.hid hs
  have HA := Lib.hid ha
  clear ha hs hg0 hg1
  clear hz1
  replace L_two := Lib.hid ((L_two.out.below HA.out (Nat.le_refl _)).more HA.out.size)
  replace L_one := Lib.hid ((L_one.out.below HA.out (Nat.le_refl _)).more HA.out.size)
  replace L_t := Lib.hid ((L_t.out.below HA.out (Nat.le_refl _)).more HA.out.size)
  refine (lHasE (cap := 1) (cap' := 2) (cap3 := 1) 0 HG0.out L_one.out HG1.out (by rw [HS.out]; omega) (Nat.le_refl _) (by rw [HS.out]; omega) (by decide)).mono ?_
  rw [show hsV [0] [[0], [0]] 0 [(-1)] = 0 by decide +kernel, show lkd35 [0] [[0], [0]] 0 [(-1)] = 8 by decide +kernel]
  rintro e u22 ⟨rfl, hu⟩
  have HST := Lib.hid (HA.out.trans (hu.mono HA.out.size))
  have HB22 := Lib.hid (HB21.out.trans (HST.out.mono HB21.out.size))
  replace L_two := Lib.hid ((L_two.out.below hu (Nat.le_refl _)).more hu.size)
  replace L_one := Lib.hid ((L_one.out.below hu (Nat.le_refl _)).more hu.size)
  replace L_t := Lib.hid ((L_t.out.below hu (Nat.le_refl _)).more hu.size)
  clear hu HA HS HST HB21 HG0 HG1
  go_wp2_with fail
  have hg0 := newRd (w := u22) (T := 3) (L := [0]) (by decide) (by decide)
  have hz1 : (u22.alloc (.cells ([0].map (Value.int .i64)).toArray 3)).heap.size = u22.heap.size + 1 := by simp
  have hg1 := newRd (w := (u22.alloc (.cells ([0].map (Value.int .i64)).toArray 3))) (T := 3) (L := [1]) (by decide) (by decide)
  rw [hz1] at hg1
  replace hg0 := hg0.below (C := u22.heap.size + 1) ((Below.refl _ _).alloc (by simp <;> omega) _ : Below (u22.heap.size + 1) (u22.alloc (.cells ([0].map (Value.int .i64)).toArray 3)) ((u22.alloc (.cells ([0].map (Value.int .i64)).toArray 3)).alloc (.cells ([1].map (Value.int .i64)).toArray 3))) (by omega)
  have ha : Below u22.heap.size u22 ((u22.alloc (.cells ([0].map (Value.int .i64)).toArray 3)).alloc (.cells ([1].map (Value.int .i64)).toArray 3)) := ((Below.refl _ _).alloc (by simp <;> omega) _).alloc (by simp <;> omega) _
  have hs : ((u22.alloc (.cells ([0].map (Value.int .i64)).toArray 3)).alloc (.cells ([1].map (Value.int .i64)).toArray 3)).heap.size = u22.heap.size + 2 := by simp
  try simp only [List.map_cons, List.map_nil] at hg0 hg1 ha hs
  generalize (u22.alloc (.cells #[.int .i64 0] 3)).alloc (.cells #[.int .i64 1] 3) = a23 at *
  have HG0 := Lib.hid hg0
  have HG1 := Lib.hid hg1
  have HS := Lib.hid hs
  have HA := Lib.hid ha
  clear ha hs hg0 hg1
  clear hz1
  replace L_two := Lib.hid ((L_two.out.below HA.out (Nat.le_refl _)).more HA.out.size)
  replace L_one := Lib.hid ((L_one.out.below HA.out (Nat.le_refl _)).more HA.out.size)
  replace L_t := Lib.hid ((L_t.out.below HA.out (Nat.le_refl _)).more HA.out.size)
  refine (lListE (cap := 1) (cap' := 2) (cap3 := 1) (-1) HG0.out L_one.out HG1.out (by rw [HS.out]; omega) (Nat.le_refl _) (by rw [HS.out]; omega) (by decide)).mono ?_
  rw [show lsL [0] [[0], [0]] (-1) [1] = [] by decide +kernel, show lsN [0] [[0], [0]] (-1) [1] = 0 by decide +kernel, show lkd35 [0] [[0], [0]] (-1) [1] = 2 by decide +kernel]
  rintro e u23 ⟨Al23, cl23, rfl, _, hu⟩
  have HST := Lib.hid (HA.out.trans (hu.mono HA.out.size))
  have HB23 := Lib.hid (HB22.out.trans (HST.out.mono HB22.out.size))
  replace L_two := Lib.hid ((L_two.out.below hu (Nat.le_refl _)).more hu.size)
  replace L_one := Lib.hid ((L_one.out.below hu (Nat.le_refl _)).more hu.size)
  replace L_t := Lib.hid ((L_t.out.below hu (Nat.le_refl _)).more hu.size)
  clear hu HA HS HST HB22 HG0 HG1
  go_wp2_with fail
  have hg0 := newRd (w := u23) (T := 3) (L := [0]) (by decide) (by decide)
  have hz1 : (u23.alloc (.cells ([0].map (Value.int .i64)).toArray 3)).heap.size = u23.heap.size + 1 := by simp
  have hg1 := newRd (w := (u23.alloc (.cells ([0].map (Value.int .i64)).toArray 3))) (T := 3) (L := [0, 0, 0, 0, 0, 0, 0]) (by decide) (by decide)
  rw [hz1] at hg1
  replace hg0 := hg0.below (C := u23.heap.size + 1) ((Below.refl _ _).alloc (by simp <;> omega) _ : Below (u23.heap.size + 1) (u23.alloc (.cells ([0].map (Value.int .i64)).toArray 3)) ((u23.alloc (.cells ([0].map (Value.int .i64)).toArray 3)).alloc (.cells ([0, 0, 0, 0, 0, 0, 0].map (Value.int .i64)).toArray 3))) (by omega)
  have ha : Below u23.heap.size u23 ((u23.alloc (.cells ([0].map (Value.int .i64)).toArray 3)).alloc (.cells ([0, 0, 0, 0, 0, 0, 0].map (Value.int .i64)).toArray 3)) := ((Below.refl _ _).alloc (by simp <;> omega) _).alloc (by simp <;> omega) _
  have hs : ((u23.alloc (.cells ([0].map (Value.int .i64)).toArray 3)).alloc (.cells ([0, 0, 0, 0, 0, 0, 0].map (Value.int .i64)).toArray 3)).heap.size = u23.heap.size + 2 := by simp
  try simp only [List.map_cons, List.map_nil] at hg0 hg1 ha hs
  generalize (u23.alloc (.cells #[.int .i64 0] 3)).alloc (.cells #[.int .i64 0, .int .i64 0, .int .i64 0, .int .i64 0, .int .i64 0, .int .i64 0, .int .i64 0] 3) = a24 at *
  have HG0 := Lib.hid hg0
  have HG1 := Lib.hid hg1
  have HS := Lib.hid hs
  have HA := Lib.hid ha
  clear ha hs hg0 hg1
  clear hz1
  replace L_two := Lib.hid ((L_two.out.below HA.out (Nat.le_refl _)).more HA.out.size)
  replace L_one := Lib.hid ((L_one.out.below HA.out (Nat.le_refl _)).more HA.out.size)
  replace L_t := Lib.hid ((L_t.out.below HA.out (Nat.le_refl _)).more HA.out.size)
  refine (lListE (cap := 1) (cap' := 2) (cap3 := 7) 0 HG0.out L_one.out HG1.out (by rw [HS.out]; omega) (Nat.le_refl _) (by rw [HS.out]; omega) (by decide)).mono ?_
  rw [show lsL [0] [[0], [0]] 0 [0, 0, 0, 0, 0, 0, 0] = [] by decide +kernel, show lsN [0] [[0], [0]] 0 [0, 0, 0, 0, 0, 0, 0] = 0 by decide +kernel, show lkd35 [0] [[0], [0]] 0 [0, 0, 0, 0, 0, 0, 0] = 4 by decide +kernel]
  rintro e u24 ⟨Al24, cl24, rfl, _, hu⟩
  have HST := Lib.hid (HA.out.trans (hu.mono HA.out.size))
  have HB24 := Lib.hid (HB23.out.trans (HST.out.mono HB23.out.size))
  replace L_two := Lib.hid ((L_two.out.below hu (Nat.le_refl _)).more hu.size)
  replace L_one := Lib.hid ((L_one.out.below hu (Nat.le_refl _)).more hu.size)
  replace L_t := Lib.hid ((L_t.out.below hu (Nat.le_refl _)).more hu.size)
  clear hu HA HS HST HB23 HG0 HG1
  clear L_two
  clear L_one
  go_wp2_with fail
  have HS : Hid (u24.heap.size = u24.heap.size + 0) := Lib.hid rfl
  have HA := Lib.hid (Below.refl u24.heap.size u24)
  replace L_t := Lib.hid ((L_t.out.below HA.out (Nat.le_refl _)).more HA.out.size)
  refine (alive35).mono ?_
  rintro e u25 ⟨rfl, hu⟩
  have HST := Lib.hid (HA.out.trans (hu.mono HA.out.size))
  have HB25 := Lib.hid (HB24.out.trans (HST.out.mono HB24.out.size))
  replace L_t := Lib.hid ((L_t.out.below hu (Nat.le_refl _)).more hu.size)
  clear hu HA HS HST HB24 
  go_wp2_with fail
  have hg0 := newRd (w := u25) (T := 3) (L := [1, 2, 0]) (by decide) (by decide)
  have ha : Below u25.heap.size u25 (u25.alloc (.cells ([1, 2, 0].map (Value.int .i64)).toArray 3)) := (Below.refl _ _).alloc (by simp <;> omega) _
  have hs : (u25.alloc (.cells ([1, 2, 0].map (Value.int .i64)).toArray 3)).heap.size = u25.heap.size + 1 := by simp
  try simp only [List.map_cons, List.map_nil] at hg0 ha hs
  generalize u25.alloc (.cells #[.int .i64 1, .int .i64 2, .int .i64 0] 3) = a26 at *
  have HG0 := Lib.hid hg0
  have HS := Lib.hid hs
  have HA := Lib.hid ha
  clear ha hs hg0
  replace L_t := Lib.hid ((L_t.out.below HA.out (Nat.le_refl _)).more HA.out.size)
  refine (same35 (cap := ct19) (cap' := 3) L_t.out HG0.out (Nat.le_refl _) (by rw [HS.out]; omega)).mono ?_
  rw [show decide (([1, 2, 0] : List Int) = [1, 2, 0]) = true by decide]
  rintro e u26 ⟨rfl, hu⟩
  have HST := Lib.hid (HA.out.trans (hu.mono HA.out.size))
  have HB26 := Lib.hid (HB25.out.trans (HST.out.mono HB25.out.size))
  replace L_t := Lib.hid ((L_t.out.below hu (Nat.le_refl _)).more hu.size)
  clear hu HA HS HST HB25 HG0
  clear L_t
  go_wp2
  go_ret
  exact ⟨rfl, HB26.out⟩
end Go.Proofs.Ytjgobpejifhphaa
