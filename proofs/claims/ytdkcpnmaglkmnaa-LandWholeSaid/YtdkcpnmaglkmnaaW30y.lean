import Derived.Test.YtdkcpnmaglkmnaaW30u
import Derived.Test.YtdkcpnmaglkmnaaW30w
import Derived.Test.YtdkcpnmaglkmnaaW30x
import Derived.Test.YtdkcpnmaglkmnaaW30f
import Derived.Test.YtdkcpnmaglkmnaaW30j
import Derived.Test.YtdkcpnmaglkmnaaS30n
/-! The walk of the chapter's examples: alive. -/
namespace Go.Proofs.Ytdkcpnmaglkmnaa
open Go.RowKit Go.Deep
set_option linter.unusedVariables false
set_option maxRecDepth 100000

section
variable {u : World} {A : Option Addr}
theorem exParts (h : Rd u u.heap.size A [0, 1, 0]) : Calls Try.prog 19 #[.agg #[.int .i64 3, .int .i64 1, .slice A 3 3], .int .i64 0] u fun e u' => ∃ A' c, e = .returned (.tuple #[.slice A' 2 c, .int .i64 0]) ∧ Rd2 u' u'.heap.size A' [[0], [2]] ∧ Below u.heap.size u u' := by
  have := lPartsE (cap := 3) h (Nat.le_refl _) 3 1 0
  rw [ex_prt, ex_lkd] at this
  exact this
theorem exBdy (h : Rd u u.heap.size A [0, 1, 0]) : Calls Try.prog 12 #[.agg #[.int .i64 3, .int .i64 1, .slice A 3 3], .int .i64 0] u fun e u' => e = .returned (.tuple #[.int .i64 8, .int .i64 0]) ∧ Below u.heap.size u u' := by
  have := lBoundary (cap := 3) h (Nat.le_refl _) 3 1 0
  rw [ex_bdy, ex_lkd] at this
  exact this
theorem exWalk (h : Rd u u.heap.size A [0, 1, 0]) : Calls Try.prog 16 #[.agg #[.int .i64 3, .int .i64 1, .slice A 3 3], .int .i64 0] u fun e u' => ∃ A' c, e = .returned (.tuple #[.slice A' 4 c, .int .i64 0]) ∧ RdP u' u'.heap.size A' [(0, 0), (1, 0), (1, 1), (0, 1)] ∧ Below u.heap.size u u' := by
  have := lWalk (cap := 3) h (Nat.le_refl _) 3 1 0
  rw [ex_wk.1, ex_wk.2] at this
  exact this
theorem exBrd (h : Rd u u.heap.size A [0, 1, 0]) : Calls Try.prog 14 #[.agg #[.int .i64 3, .int .i64 1, .slice A 3 3], .int .i64 0, .int .i64 1] u fun e u' => e = .returned (.tuple #[.int .i64 2, .int .i64 0]) ∧ Below u.heap.size u u' := by
  have := lBorder (cap := 3) h (Nat.le_refl _) 3 1 0 1
  rw [ex_brdN, ex_brdE] at this
  exact this
theorem exGive1 (h : Rd u u.heap.size A [0, 1, 0]) : Calls Try.prog 23 #[.agg #[.int .i64 3, .int .i64 1, .slice A 3 3], .int .i64 1, .int .i64 0] u fun e u' => ∃ A' c, e = .returned (.tuple #[.agg #[.int .i64 3, .int .i64 1, .slice A' 3 c], .int .i64 0]) ∧ Rd u' u'.heap.size A' [0, 0, 0] ∧ Below u.heap.size u u' := by
  have := lGive (cap := 3) h (Nat.le_refl _) 3 1 1 0
  rw [ex_gvE1, ex_gvL1, ex_gvW1, ex_gvH1] at this
  exact this
theorem exGive2 (h : Rd u u.heap.size A [0, 1, 0]) : Calls Try.prog 23 #[.agg #[.int .i64 3, .int .i64 1, .slice A 3 3], .int .i64 0, .int .i64 1] u fun e u' => ∃ A' c, e = .returned (.tuple #[.agg #[.int .i64 3, .int .i64 1, .slice A' 3 c], .int .i64 0]) ∧ Rd u' u'.heap.size A' [1, 1, 0] ∧ Below u.heap.size u u' := by
  have := lGive (cap := 3) h (Nat.le_refl _) 3 1 0 1
  rw [ex_gvE2, ex_gvL2, ex_gvW2, ex_gvH2] at this
  exact this
end
theorem lit_parts {w : World} {n : Nat} (hn : w.heap.size = n) : Rd2 (((w.alloc (.cells #[.int .i64 0] 3)).alloc (.cells #[.int .i64 2] 3)).alloc (.cells #[.slice (some ⟨n, 0, none⟩) 1 1, .slice (some ⟨n + 1, 0, none⟩) 1 1] 22)) (n + 1 + 1 + 1) (some ⟨n + 1 + 1, 0, none⟩) [[0], [2]]
    ∧ Below w.heap.size w (((w.alloc (.cells #[.int .i64 0] 3)).alloc (.cells #[.int .i64 2] 3)).alloc (.cells #[.slice (some ⟨n, 0, none⟩) 1 1, .slice (some ⟨n + 1, 0, none⟩) 1 1] 22)) ∧ (((w.alloc (.cells #[.int .i64 0] 3)).alloc (.cells #[.int .i64 2] 3)).alloc (.cells #[.slice (some ⟨n, 0, none⟩) 1 1, .slice (some ⟨n + 1, 0, none⟩) 1 1] 22)).heap.size = n + 1 + 1 + 1 := by
  subst hn
  have r1 := newRd (w := w) (T := 3) (L := [0]) (by decide) (by decide)
  have r2 := newRd (w := w.alloc (.cells #[.int .i64 0] 3)) (T := 3) (L := [2]) (by decide) (by decide)
  have z1 : (w.alloc (.cells #[.int .i64 0] 3)).heap.size = w.heap.size + 1 := by simp
  have z2 : ((w.alloc (.cells #[.int .i64 0] 3)).alloc (.cells #[.int .i64 2] 3)).heap.size = w.heap.size + 1 + 1 := by simp
  have r1' := (r1.below ((Below.refl _ _).alloc (by rw [← z1]; exact Nat.le_refl _) _ : Below (w.heap.size + 1) (w.alloc (.cells ([0].map (Value.int .i64)).toArray 3)) ((w.alloc (.cells ([0].map (Value.int .i64)).toArray 3)).alloc (.cells #[.int .i64 2] 3))) (Nat.le_refl _)).more (show w.heap.size + 1 ≤ w.heap.size + 1 + 1 by omega)
  rw [z1] at r2
  have P := newRd2 (w := (w.alloc (.cells #[.int .i64 0] 3)).alloc (.cells #[.int .i64 2] 3)) (T := 22) (vs := [.slice (some ⟨w.heap.size, 0, none⟩) 1 1, .slice (some ⟨w.heap.size + 1, 0, none⟩) 1 1]) (F := [[0], [2]]) rfl ?_ (by decide)
  · rw [z2] at P
    exact ⟨P, (((Below.refl _ _).alloc (Nat.le_refl _) _).alloc (by simp) _).alloc (by simp; omega) _, by simp⟩
  · intro i hi
    rw [z2]
    have : i = 0 ∨ i = 1 := by simp at hi; omega
    rcases this with rfl | rfl
    · exact ⟨_, _, rfl, r1'⟩
    · exact ⟨_, _, rfl, r2⟩
set_option maxHeartbeats 4000000 in
theorem alive30 (w : World) : Calls Try.prog 30 #[] w fun e w' => e = .returned (.bool true) ∧ Below w.heap.size w w' := by
  go_enter Try.func30, Try.ntmps30
  go_wp2_with fail
  refine (lExample w).mono ?_
  rintro e u0 ⟨A0, rfl, hr, hb⟩
  have B := Lib.hid hb
  have C := Lib.hid (exParts hr)
  clear hr hb
  go_wp2_with fail
  refine C.out.mono ?_
  rintro e u1 ⟨A1, c1, rfl, hp, hb⟩
  replace B := Lib.hid (B.out.trans (hb.mono B.out.size))
  have R1 := Lib.hid hp
  clear hp hb C
  go_wp2_with fail
  refine (lExample u1).mono ?_
  rintro e u2 ⟨A2, rfl, hr, hb⟩
  replace B := Lib.hid (B.out.trans (hb.mono B.out.size))
  replace R1 := Lib.hid ((R1.out.below hb (Nat.le_refl _)).more hb.size)
  have C := Lib.hid (exBdy hr)
  clear hr hb
  go_wp2_with fail
  refine C.out.mono ?_
  rintro e u3 ⟨rfl, hb⟩
  replace B := Lib.hid (B.out.trans (hb.mono B.out.size))
  replace R1 := Lib.hid ((R1.out.below hb (Nat.le_refl _)).more hb.size)
  clear hb C
  go_wp2_with fail
  refine (lExample u3).mono ?_
  rintro e u4 ⟨A4, rfl, hr, hb⟩
  replace B := Lib.hid (B.out.trans (hb.mono B.out.size))
  replace R1 := Lib.hid ((R1.out.below hb (Nat.le_refl _)).more hb.size)
  have C := Lib.hid (exWalk hr)
  clear hr hb
  go_wp2_with fail
  refine C.out.mono ?_
  rintro e u5 ⟨A5, c5, rfl, hp, hb⟩
  replace B := Lib.hid (B.out.trans (hb.mono B.out.size))
  replace R1 := Lib.hid ((R1.out.below hb (Nat.le_refl _)).more hb.size)
  have R2 := Lib.hid hp
  clear hb C hp
  go_wp2_with fail
  refine (lExample u5).mono ?_
  rintro e u6 ⟨A6, rfl, hr, hb⟩
  replace B := Lib.hid (B.out.trans (hb.mono B.out.size))
  replace R1 := Lib.hid ((R1.out.below hb (Nat.le_refl _)).more hb.size)
  replace R2 := Lib.hid ((R2.out.below hb (Nat.le_refl _)).more hb.size)
  have C := Lib.hid (exBrd hr)
  clear hr hb
  go_wp2_with fail
  refine C.out.mono ?_
  rintro e u7 ⟨rfl, hb⟩
  replace B := Lib.hid (B.out.trans (hb.mono B.out.size))
  replace R1 := Lib.hid ((R1.out.below hb (Nat.le_refl _)).more hb.size)
  replace R2 := Lib.hid ((R2.out.below hb (Nat.le_refl _)).more hb.size)
  clear hb C
  go_wp2_with fail
  refine (lExample u7).mono ?_
  rintro e u8 ⟨A8, rfl, hr, hb⟩
  replace B := Lib.hid (B.out.trans (hb.mono B.out.size))
  replace R1 := Lib.hid ((R1.out.below hb (Nat.le_refl _)).more hb.size)
  replace R2 := Lib.hid ((R2.out.below hb (Nat.le_refl _)).more hb.size)
  have C := Lib.hid (exGive1 hr)
  clear hr hb
  go_wp2_with fail
  refine C.out.mono ?_
  rintro e u9 ⟨A9, c9, rfl, hp, hb⟩
  replace B := Lib.hid (B.out.trans (hb.mono B.out.size))
  replace R1 := Lib.hid ((R1.out.below hb (Nat.le_refl _)).more hb.size)
  replace R2 := Lib.hid ((R2.out.below hb (Nat.le_refl _)).more hb.size)
  have R3 := Lib.hid hp
  clear hb C hp
  have hb : Below u9.heap.size u9 (u9.alloc (.cells #[.int .i64 3, .int .i64 1, .slice A9 3 c9] 24)) := (Below.refl _ _).alloc (Nat.le_refl _) _
  have hn := three_cells (heap_alloc_new u9 (.cells #[.int .i64 3, .int .i64 1, .slice A9 3 c9] 24))
  have hns : u9.heap.size < (u9.alloc (.cells #[.int .i64 3, .int .i64 1, .slice A9 3 c9] 24)).heap.size := by simp
  replace B := Lib.hid (B.out.trans (hb.mono B.out.size))
  replace R1 := Lib.hid ((R1.out.below hb (Nat.le_refl _)).more hb.size)
  replace R2 := Lib.hid ((R2.out.below hb (Nat.le_refl _)).more hb.size)
  replace R3 := Lib.hid ((R3.out.below hb (Nat.le_refl _)).more hb.size)
  have C3 := Lib.hid hn
  have C3z := Lib.hid hns
  clear hb hn hns
  go_wp2_with fail
  generalize u9.alloc (.cells #[.int .i64 3, .int .i64 1, .slice A9 3 c9] 24) = u10 at *
  refine (lExample u10).mono ?_
  rintro e u11 ⟨A11, rfl, hr, hb⟩
  replace B := Lib.hid (B.out.trans (hb.mono B.out.size))
  replace R1 := Lib.hid ((R1.out.below hb (Nat.le_refl _)).more hb.size)
  replace R2 := Lib.hid ((R2.out.below hb (Nat.le_refl _)).more hb.size)
  replace R3 := Lib.hid ((R3.out.below hb (Nat.le_refl _)).more hb.size)
  replace C3 := Lib.hid (cells_below C3.out hb C3z.out)
  replace C3z := Lib.hid (Nat.lt_of_lt_of_le C3z.out hb.size)
  have C := Lib.hid (exGive2 hr)
  clear hr hb
  go_wp2_with fail
  refine C.out.mono ?_
  rintro e u12 ⟨A12, c12, rfl, hp, hb⟩
  replace B := Lib.hid (B.out.trans (hb.mono B.out.size))
  replace R1 := Lib.hid ((R1.out.below hb (Nat.le_refl _)).more hb.size)
  replace R2 := Lib.hid ((R2.out.below hb (Nat.le_refl _)).more hb.size)
  replace R3 := Lib.hid ((R3.out.below hb (Nat.le_refl _)).more hb.size)
  replace C3 := Lib.hid (cells_below C3.out hb C3z.out)
  replace C3z := Lib.hid (Nat.lt_of_lt_of_le C3z.out hb.size)
  have R4 := Lib.hid hp
  clear hb C hp
  have hb : Below u12.heap.size u12 (u12.alloc (.cells #[.int .i64 3, .int .i64 1, .slice A12 3 c12] 24)) := (Below.refl _ _).alloc (Nat.le_refl _) _
  have hn := three_cells (heap_alloc_new u12 (.cells #[.int .i64 3, .int .i64 1, .slice A12 3 c12] 24))
  have hns : u12.heap.size < (u12.alloc (.cells #[.int .i64 3, .int .i64 1, .slice A12 3 c12] 24)).heap.size := by simp
  replace B := Lib.hid (B.out.trans (hb.mono B.out.size))
  replace R1 := Lib.hid ((R1.out.below hb (Nat.le_refl _)).more hb.size)
  replace R2 := Lib.hid ((R2.out.below hb (Nat.le_refl _)).more hb.size)
  replace R3 := Lib.hid ((R3.out.below hb (Nat.le_refl _)).more hb.size)
  replace R4 := Lib.hid ((R4.out.below hb (Nat.le_refl _)).more hb.size)
  replace C3 := Lib.hid (cells_below C3.out hb C3z.out)
  replace C3z := Lib.hid (Nat.lt_of_lt_of_le C3z.out hb.size)
  have C4 := Lib.hid hn
  have C4z := Lib.hid hns
  clear hb hn hns
  have P := lit_parts (w := u12.alloc (.cells #[.int .i64 3, .int .i64 1, .slice A12 3 c12] 24)) (n := u12.heap.size + 1) (by simp)
  have P1 := Lib.hid P.1
  have hb := P.2.1
  have P3 := Lib.hid P.2.2
  clear P
  replace B := Lib.hid (B.out.trans (hb.mono B.out.size))
  replace R1 := Lib.hid ((R1.out.below hb (Nat.le_refl _)).more hb.size)
  replace R2 := Lib.hid ((R2.out.below hb (Nat.le_refl _)).more hb.size)
  replace R3 := Lib.hid ((R3.out.below hb (Nat.le_refl _)).more hb.size)
  replace R4 := Lib.hid ((R4.out.below hb (Nat.le_refl _)).more hb.size)
  replace C3 := Lib.hid (cells_below C3.out hb C3z.out)
  replace C3z := Lib.hid (Nat.lt_of_lt_of_le C3z.out hb.size)
  replace C4 := Lib.hid (cells_below C4.out hb C4z.out)
  replace C4z := Lib.hid (Nat.lt_of_lt_of_le C4z.out hb.size)
  clear hb
  go_wp2_with fail
  generalize (((u12.alloc (.cells #[.int .i64 3, .int .i64 1, .slice A12 3 c12] 24)).alloc (.cells #[.int .i64 0] 3)).alloc (.cells #[.int .i64 2] 3)).alloc (.cells #[.slice (some ⟨u12.heap.size + 1, 0, none⟩) 1 1, .slice (some ⟨u12.heap.size + 1 + 1, 0, none⟩) 1 1] 22) = u13 at *
  refine (sameParts (cap := c1) (cap' := 2) R1.out P1.out (Nat.le_refl _) (Nat.le_of_eq P3.out.symm)).mono ?_
  rintro e u14 ⟨rfl, hb⟩
  rw [show decide (([[0], [2]] : List (List Int)) = [[0], [2]]) = true by decide]
  replace B := Lib.hid (B.out.trans (hb.mono B.out.size))
  replace R2 := Lib.hid ((R2.out.below hb (Nat.le_refl _)).more hb.size)
  replace R3 := Lib.hid ((R3.out.below hb (Nat.le_refl _)).more hb.size)
  replace R4 := Lib.hid ((R4.out.below hb (Nat.le_refl _)).more hb.size)
  replace C3 := Lib.hid (cells_below C3.out hb C3z.out)
  replace C3z := Lib.hid (Nat.lt_of_lt_of_le C3z.out hb.size)
  replace C4 := Lib.hid (cells_below C4.out hb C4z.out)
  replace C4z := Lib.hid (Nat.lt_of_lt_of_le C4z.out hb.size)
  clear hb R1 P1 P3
  have P := newP (w := u14) (T := 62) (vs := [.int .i64 0, .int .i64 0, .int .i64 1, .int .i64 0, .int .i64 1, .int .i64 1, .int .i64 0, .int .i64 1]) (P := [(0, 0), (1, 0), (1, 1), (0, 1)]) rfl (fun i hi => by
    have : i = 0 ∨ i = 1 ∨ i = 2 ∨ i = 3 := by simp at hi; omega
    rcases this with rfl | rfl | rfl | rfl <;> exact ⟨rfl, rfl⟩) (by decide)
  have hb : Below u14.heap.size u14 (u14.alloc (.cells #[.int .i64 0, .int .i64 0, .int .i64 1, .int .i64 0, .int .i64 1, .int .i64 1, .int .i64 0, .int .i64 1] 62)) := (Below.refl _ _).alloc (Nat.le_refl _) _
  have hz : (u14.alloc (.cells #[.int .i64 0, .int .i64 0, .int .i64 1, .int .i64 0, .int .i64 1, .int .i64 1, .int .i64 0, .int .i64 1] 62)).heap.size = u14.heap.size + 1 := by simp
  have P1 := Lib.hid P
  have P3 := Lib.hid hz
  clear P hz
  replace B := Lib.hid (B.out.trans (hb.mono B.out.size))
  replace R2 := Lib.hid ((R2.out.below hb (Nat.le_refl _)).more hb.size)
  replace R3 := Lib.hid ((R3.out.below hb (Nat.le_refl _)).more hb.size)
  replace R4 := Lib.hid ((R4.out.below hb (Nat.le_refl _)).more hb.size)
  replace C3 := Lib.hid (cells_below C3.out hb C3z.out)
  replace C3z := Lib.hid (Nat.lt_of_lt_of_le C3z.out hb.size)
  replace C4 := Lib.hid (cells_below C4.out hb C4z.out)
  replace C4z := Lib.hid (Nat.lt_of_lt_of_le C4z.out hb.size)
  clear hb
  go_wp2_with fail
  generalize u14.alloc (.cells #[.int .i64 0, .int .i64 0, .int .i64 1, .int .i64 0, .int .i64 1, .int .i64 1, .int .i64 0, .int .i64 1] 62) = u15 at *
  refine (samePts (cap := c5) (cap' := 4) R2.out P1.out (Nat.le_refl _) (Nat.le_of_eq P3.out.symm)).mono ?_
  rintro e u16 ⟨rfl, hb⟩
  replace B := Lib.hid (B.out.trans (hb.mono B.out.size))
  replace R3 := Lib.hid ((R3.out.below hb (Nat.le_refl _)).more hb.size)
  replace R4 := Lib.hid ((R4.out.below hb (Nat.le_refl _)).more hb.size)
  replace C3 := Lib.hid (cells_below C3.out hb C3z.out)
  replace C3z := Lib.hid (Nat.lt_of_lt_of_le C3z.out hb.size)
  replace C4 := Lib.hid (cells_below C4.out hb C4z.out)
  replace C4z := Lib.hid (Nat.lt_of_lt_of_le C4z.out hb.size)
  clear hb R2 P1 P3
  obtain ⟨g0, g1, g2⟩ := C3.out
  have P : Rd (u16.alloc (.cells #[.int .i64 0, .int .i64 0, .int .i64 0] 3)) (u16.heap.size + 1) (some ⟨u16.heap.size, 0, none⟩) [0, 0, 0] := newRd (w := u16) (T := 3) (L := [0, 0, 0]) (by decide) (by decide)
  have hb : Below u16.heap.size u16 (u16.alloc (.cells #[.int .i64 0, .int .i64 0, .int .i64 0] 3)) := (Below.refl _ _).alloc (Nat.le_refl _) _
  have hz : (u16.alloc (.cells #[.int .i64 0, .int .i64 0, .int .i64 0] 3)).heap.size = u16.heap.size + 1 := by simp
  have P1 := Lib.hid P
  have P3 := Lib.hid hz
  clear P hz
  replace B := Lib.hid (B.out.trans (hb.mono B.out.size))
  replace R3 := Lib.hid ((R3.out.below hb (Nat.le_refl _)).more hb.size)
  replace R4 := Lib.hid ((R4.out.below hb (Nat.le_refl _)).more hb.size)
  replace C4 := Lib.hid (cells_below C4.out hb C4z.out)
  replace C4z := Lib.hid (Nat.lt_of_lt_of_le C4z.out hb.size)
  clear hb
  go_wp2_with fail
  clear g0 g1 g2
  generalize u16.alloc (.cells #[.int .i64 0, .int .i64 0, .int .i64 0] 3) = u17 at *
  refine (sameInts (cap := c9) (cap' := 3) R3.out (show Rd u17 _ _ [0, 0, 0] from P1.out) (Nat.le_refl _) (Nat.le_of_eq P3.out.symm)).mono ?_
  rintro e u18 ⟨rfl, hb⟩
  rw [show decide (([0, 0, 0] : List Int) = [0, 0, 0]) = true by decide]
  replace B := Lib.hid (B.out.trans (hb.mono B.out.size))
  replace R4 := Lib.hid ((R4.out.below hb (Nat.le_refl _)).more hb.size)
  replace C4 := Lib.hid (cells_below C4.out hb C4z.out)
  replace C4z := Lib.hid (Nat.lt_of_lt_of_le C4z.out hb.size)
  clear hb P1 P3 R3 C3
  obtain ⟨g0, g1, g2⟩ := C4.out
  have P : Rd (u18.alloc (.cells #[.int .i64 1, .int .i64 1, .int .i64 0] 3)) (u18.heap.size + 1) (some ⟨u18.heap.size, 0, none⟩) [1, 1, 0] := newRd (w := u18) (T := 3) (L := [1, 1, 0]) (by decide) (by decide)
  have hb : Below u18.heap.size u18 (u18.alloc (.cells #[.int .i64 1, .int .i64 1, .int .i64 0] 3)) := (Below.refl _ _).alloc (Nat.le_refl _) _
  have hz : (u18.alloc (.cells #[.int .i64 1, .int .i64 1, .int .i64 0] 3)).heap.size = u18.heap.size + 1 := by simp
  have P1 := Lib.hid P
  have P3 := Lib.hid hz
  clear P hz
  replace B := Lib.hid (B.out.trans (hb.mono B.out.size))
  replace R4 := Lib.hid ((R4.out.below hb (Nat.le_refl _)).more hb.size)
  clear hb
  go_wp2_with fail
  clear g0 g1 g2
  generalize u18.alloc (.cells #[.int .i64 1, .int .i64 1, .int .i64 0] 3) = u19 at *
  refine (sameInts (cap := c12) (cap' := 3) R4.out (show Rd u19 _ _ [1, 1, 0] from P1.out) (Nat.le_refl _) (Nat.le_of_eq P3.out.symm)).mono ?_
  rintro e u20 ⟨rfl, hb⟩
  rw [show decide (([1, 1, 0] : List Int) = [1, 1, 0]) = true by decide]
  replace B := Lib.hid (B.out.trans (hb.mono B.out.size))
  clear hb P1 P3 R4 C4
  go_wp2
  go_ret
  exact ⟨rfl, B.out⟩
end Go.Proofs.Ytdkcpnmaglkmnaa
