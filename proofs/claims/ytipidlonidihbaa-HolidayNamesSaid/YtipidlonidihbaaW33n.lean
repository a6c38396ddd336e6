import Derived.Test.YtipidlonidihbaaW33m
/-! The walk of chapter 33's alive. -/
namespace Go.Proofs.Ytipidlonidihbaa
open Go.RowKit Go.Deep
set_option linter.unusedVariables false
set_option maxRecDepth 100000

/-- a new block that holds these integers -/
theorem newRd {w : World} {T : Nat} {L : List Int} (hs : ∀ x ∈ L, -10000000 ≤ x ∧ x ≤ 10000000) (hl : L.length ≤ 40) :
    Rd (w.alloc (.cells (L.map (Value.int .i64)).toArray T)) (w.heap.size + 1) (some ⟨w.heap.size, 0, none⟩) L := by
  have ho : Own (w.alloc (.cells (L.map (Value.int .i64)).toArray T)) w.heap.size T L := heap_alloc_new w _
  exact ho.rd (fun x hx => by have := hs x hx; unfold I64; omega) (by omega) (by omega)

set_option maxRecDepth 100000 in
set_option maxHeartbeats 2000000 in
theorem alive (w : World) : Calls Try.prog 19 #[] w fun e w' => e = .returned (.bool true) ∧ Below w.heap.size w w' := by
  go_enter Try.func19, Try.ntmps19
  go_wp2_with fail
  have r1 := newRd (w := w) (T := 3) (L := [0, 0, 0]) (by decide) (by decide)
  have r2 := newRd (w := w.alloc (.cells ([0, 0, 0].map (Value.int .i64)).toArray 3)) (T := 3) (L := [5, 3, 9]) (by decide) (by decide)
  have b1 : Below (w.heap.size + 1) (w.alloc (.cells ([0, 0, 0].map (Value.int .i64)).toArray 3)) ((w.alloc (.cells ([0, 0, 0].map (Value.int .i64)).toArray 3)).alloc (.cells ([5, 3, 9].map (Value.int .i64)).toArray 3)) := (Below.refl _ _).alloc (by simp) _
  have b0 : Below w.heap.size w ((w.alloc (.cells ([0, 0, 0].map (Value.int .i64)).toArray 3)).alloc (.cells ([5, 3, 9].map (Value.int .i64)).toArray 3)) := ((Below.refl _ _).alloc (Nat.le_refl _) _).alloc (by simp) _
  replace r1 := r1.below b1 (Nat.le_refl _)
  have hsz : ((w.alloc (.cells ([0, 0, 0].map (Value.int .i64)).toArray 3)).alloc (.cells ([5, 3, 9].map (Value.int .i64)).toArray 3)).heap.size = w.heap.size + 2 := by simp
  have e1 : (w.alloc (.cells ([0, 0, 0].map (Value.int .i64)).toArray 3)).heap.size = w.heap.size + 1 := by simp
  rw [e1] at r2
  clear b1 e1
  simp only [List.map_cons, List.map_nil] at r1 r2 b0 hsz
  generalize (w.alloc (.cells #[.int .i64 0, .int .i64 0, .int .i64 0] 3)).alloc (.cells #[.int .i64 5, .int .i64 3, .int .i64 9] 3) = u at *
  have R : ∀ x, Below u.heap.size u x → w.heap.size + 2 ≤ x.heap.size ∧ Rd x (w.heap.size + 2) (some ⟨w.heap.size, 0, none⟩) [0, 0, 0] ∧ Rd x (w.heap.size + 2) (some ⟨w.heap.size + 1, 0, none⟩) [5, 3, 9] :=
    fun x hx => ⟨by have := hx.size; omega, (r1.below hx (by omega)).more (by omega), (r2.below hx (by omega)).more (by omega)⟩
  have HR := Lib.hid R
  have B0 := Lib.hid b0
  clear R r1 r2 b0
  have hb := Below.refl u.heap.size u
  have H1 := HR.out u hb
  refine (hRank (cap := 3) (cap' := 3) H1.2.1 H1.2.2 H1.1 H1.1).mono ?_
  rw [show rkL [0, 0, 0] [5, 3, 9] = [2, 0, 1] by decide, show hlk [0, 0, 0] [5, 3, 9] = 0 by decide]
  rintro e w1 ⟨A1, c1, rfl, r1, hb2⟩
  replace hb := hb.trans (hb2.mono hb.size)
  clear H1 hb2
  have H1 := HR.out w1 hb
  go_wp2_with fail
  refine (hPrice (cap := 3) (cap' := 3) H1.2.1 H1.2.2 H1.1 H1.1 1).mono ?_
  rw [show pcV [0, 0, 0] [5, 3, 9] 1 = 5 by decide, show pcE [0, 0, 0] [5, 3, 9] 1 = 0 by decide]
  rintro e w2 ⟨rfl, hb2⟩
  replace r1 := r1.below hb2 (Nat.le_refl _)
  have z1 := hb2.size
  replace hb := hb.trans (hb2.mono hb.size)
  clear H1 hb2
  have H1 := HR.out w2 hb
  go_wp2_with fail
  refine (hGive (cap := 3) (cap' := 3) H1.2.1 H1.2.2 H1.1 H1.1 1).mono ?_
  rw [show gvF [0, 0, 0] [5, 3, 9] 1 = [2] by decide, show gvA [0, 0, 0] [5, 3, 9] 1 = [2, 2, -4] by decide, show gvE [0, 0, 0] [5, 3, 9] 1 = 0 by decide]
  rintro e w3 ⟨A2, c2, A3, c3, rfl, r2, r3, hb2⟩
  replace r1 := (r1.below hb2 z1).more (Nat.le_trans z1 hb2.size)
  replace hb := Lib.hid (hb.trans (hb2.mono hb.size))
  clear H1 hb2 z1
  have R1 := Lib.hid r1
  have R2 := Lib.hid r2
  have R3 := Lib.hid r3
  clear r1 r2 r3
  go_wp2_with fail
  have b4 : Below w3.heap.size w3 (w3.alloc (.cells #[.int .i64 2, .int .i64 0, .int .i64 1] 3)) := (Below.refl _ _).alloc (Nat.le_refl _) _
  have n4 := newRd (w := w3) (T := 3) (L := [2, 0, 1]) (by decide) (by decide)
  simp only [List.map_cons, List.map_nil] at n4
  have s4 : (w3.alloc (.cells #[.int .i64 2, .int .i64 0, .int .i64 1] 3)).heap.size = w3.heap.size + 1 := by simp
  refine (sameInts (cap := c1) (cap' := 3) (R1.out.below b4 (Nat.le_refl _)) n4 (by omega) (by omega)).mono ?_
  rw [show decide (([2, 0, 1] : List Int) = [2, 0, 1]) = true by decide]
  rintro e w5 ⟨rfl, hb5⟩
  have b5 := Lib.hid (b4.trans (hb5.mono (by omega)))
  clear b4 n4 s4 hb5
  go_wp2_with fail
  have b6 : Below w3.heap.size w3 (w5.alloc (.cells #[.int .i64 2] 3)) := b5.out.alloc b5.out.size _
  have n6 := newRd (w := w5) (T := 3) (L := [2]) (by decide) (by decide)
  simp only [List.map_cons, List.map_nil] at n6
  have s6 : (w5.alloc (.cells #[.int .i64 2] 3)).heap.size = w5.heap.size + 1 := by simp
  have z5 := b5.out.size
  refine (sameInts (cap := c2) (cap' := 1) (R2.out.below b6 (Nat.le_refl _)) n6 (by omega) (by omega)).mono ?_
  rw [show decide (([2] : List Int) = [2]) = true by decide]
  rintro e w7 ⟨rfl, hb7⟩
  have b7 := Lib.hid (b6.trans (hb7.mono (by omega)))
  clear b6 n6 s6 hb7 z5
  go_wp2_with fail
  have b8 : Below w3.heap.size w3 (w7.alloc (.cells #[.int .i64 2, .int .i64 2, .int .i64 (-4)] 3)) := b7.out.alloc b7.out.size _
  have n8 := newRd (w := w7) (T := 3) (L := [2, 2, -4]) (by decide) (by decide)
  simp only [List.map_cons, List.map_nil] at n8
  have s8 : (w7.alloc (.cells #[.int .i64 2, .int .i64 2, .int .i64 (-4)] 3)).heap.size = w7.heap.size + 1 := by simp
  have z7 := b7.out.size
  refine (sameInts (cap := c3) (cap' := 3) (R3.out.below b8 (Nat.le_refl _)) n8 (by omega) (by omega)).mono ?_
  rw [show decide (([2, 2, -4] : List Int) = [2, 2, -4]) = true by decide]
  rintro e w9 ⟨rfl, hb9⟩
  have b9 := Lib.hid (b8.trans (hb9.mono (by omega)))
  clear b8 n8 s8 hb9 z7
  have hfin := Lib.hid (B0.out.trans (Below.mono (hb.out.trans (b9.out.mono hb.out.size)) (by omega)))
  clear HR
  go_wp2
  go_ret
  exact ⟨rfl, hfin.out⟩
end Go.Proofs.Ytipidlonidihbaa
