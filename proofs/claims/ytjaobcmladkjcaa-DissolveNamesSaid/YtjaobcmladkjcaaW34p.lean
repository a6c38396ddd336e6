import Derived.Test.YtjaobcmladkjcaaW34n
/-! The walk of alive: the chapter's examples. -/
namespace Go.Proofs.Ytjaobcmladkjcaa
open Go.RowKit Go.Deep
set_option linter.unusedVariables false

/-- a new block that holds these integers -/
theorem newRd {w : World} {T : Nat} {L : List Int} (hs : ∀ x ∈ L, -10000000 ≤ x ∧ x ≤ 10000000) (hl : L.length ≤ 40) :
    Rd (w.alloc (.cells (L.map (Value.int .i64)).toArray T)) (w.heap.size + 1) (some ⟨w.heap.size, 0, none⟩) L := by
  have ho : Own (w.alloc (.cells (L.map (Value.int .i64)).toArray T)) w.heap.size T L := heap_alloc_new w _
  exact ho.rd (fun x hx => by have := hs x hx; unfold I64; omega) (by omega) (by omega)

set_option maxHeartbeats 2000000 in
theorem alive (w : World) : Calls Try.prog 19 #[] w fun e w' => e = .returned (.bool true) ∧ Below w.heap.size w w' := by
  go_enter Try.func19, Try.ntmps19
  go_wp2_with fail
  have r1 := newRd (w := w) (T := 3) (L := [2, 1, 1]) (by decide) (by decide)
  have r2 := newRd (w := w.alloc (.cells ([2, 1, 1].map (Value.int .i64)).toArray 3)) (T := 3) (L := [100, 60, 80]) (by decide) (by decide)
  have b1 : Below (w.heap.size + 1) (w.alloc (.cells ([2, 1, 1].map (Value.int .i64)).toArray 3)) ((w.alloc (.cells ([2, 1, 1].map (Value.int .i64)).toArray 3)).alloc (.cells ([100, 60, 80].map (Value.int .i64)).toArray 3)) := (Below.refl _ _).alloc (by simp) _
  have b0 : Below w.heap.size w ((w.alloc (.cells ([2, 1, 1].map (Value.int .i64)).toArray 3)).alloc (.cells ([100, 60, 80].map (Value.int .i64)).toArray 3)) := ((Below.refl _ _).alloc (Nat.le_refl _) _).alloc (by simp) _
  replace r1 := r1.below b1 (Nat.le_refl _)
  have hsz : ((w.alloc (.cells ([2, 1, 1].map (Value.int .i64)).toArray 3)).alloc (.cells ([100, 60, 80].map (Value.int .i64)).toArray 3)).heap.size = w.heap.size + 2 := by simp
  have e1 : (w.alloc (.cells ([2, 1, 1].map (Value.int .i64)).toArray 3)).heap.size = w.heap.size + 1 := by simp
  rw [e1] at r2
  clear b1 e1
  simp only [List.map_cons, List.map_nil] at r1 r2 b0 hsz
  generalize (w.alloc (.cells #[.int .i64 2, .int .i64 1, .int .i64 1] 3)).alloc (.cells #[.int .i64 100, .int .i64 60, .int .i64 80] 3) = u at *
  have R : ∀ x, Below u.heap.size u x → w.heap.size + 2 ≤ x.heap.size ∧ Rd x (w.heap.size + 2) (some ⟨w.heap.size, 0, none⟩) [2, 1, 1] ∧ Rd x (w.heap.size + 2) (some ⟨w.heap.size + 1, 0, none⟩) [100, 60, 80] :=
    fun x hx => ⟨by have := hx.size; omega, (r1.below hx (by omega)).more (by omega), (r2.below hx (by omega)).more (by omega)⟩
  have HR := Lib.hid R
  have B0 := Lib.hid b0
  clear R r1 r2 b0
  have hb := Below.refl u.heap.size u
  have H1 := HR.out u hb
  refine (dBuyer (cap := 3) (cap' := 3) H1.2.1 H1.2.2 H1.1).mono ?_
  rw [show byE [2, 1, 1] [100, 60, 80] = 0 by decide, show lok [2, 1, 1] [100, 60, 80] = 0 by decide]
  rintro e w1 ⟨rfl, hb2⟩
  replace hb := hb.trans (hb2.mono hb.size)
  clear H1 hb2
  have H1 := HR.out w1 hb
  go_wp2_with fail
  refine (dPrice (cap := 3) (cap' := 3) H1.2.1 H1.2.2 H1.1 0).mono ?_
  rw [show sP [2, 1, 1] [100, 60, 80] 0 = 80 by decide, show sE [2, 1, 1] [100, 60, 80] 0 = 0 by decide]
  rintro e w2 ⟨rfl, hb2⟩
  replace hb := hb.trans (hb2.mono hb.size)
  clear H1 hb2
  have H1 := HR.out w2 hb
  go_wp2_with fail
  refine (dPrice (cap := 3) (cap' := 3) H1.2.1 H1.2.2 H1.1 1).mono ?_
  rw [show sP [2, 1, 1] [100, 60, 80] 1 = 90 by decide, show sE [2, 1, 1] [100, 60, 80] 1 = 0 by decide]
  rintro e w3 ⟨rfl, hb2⟩
  replace hb := hb.trans (hb2.mono hb.size)
  clear H1 hb2
  have H1 := HR.out w3 hb
  go_wp2_with fail
  refine (dPay (cap := 3) (cap' := 3) H1.2.1 H1.1 H1.2.2 H1.1 0).mono ?_
  rw [show pyL [2, 1, 1] [100, 60, 80] 0 = [-40, 20, 20] by decide, show sE [2, 1, 1] [100, 60, 80] 0 = 0 by decide]
  rintro e w4 ⟨A1, c1, rfl, hr1, hb2⟩
  replace hb := hb.trans (hb2.mono hb.size)
  clear H1 hb2
  have H1 := HR.out w4 hb
  go_wp2_with fail
  refine (dGain (cap := 3) (cap' := 3) H1.2.1 H1.1 H1.2.2 H1.1 0 0 100).mono ?_
  rw [show gV [2, 1, 1] [100, 60, 80] 0 0 100 = 40 by decide, show gE [2, 1, 1] [100, 60, 80] 0 0 100 = 0 by decide]
  rintro e w5 ⟨rfl, hb2⟩
  replace hb := hb.trans (hb2.mono hb.size)
  replace hr1 := hr1.below hb2 (Nat.le_refl _)
  have hsz5 := hb2.size
  clear H1 hb2
  have R1 := Lib.hid hr1
  have HB := Lib.hid hb
  clear hr1 hb
  go_wp2_with fail
  have r3 := newRd (w := w5) (T := 3) (L := [-40, 20, 20]) (by decide) (by decide)
  simp only [List.map_cons, List.map_nil] at r3
  have b5 : Below w5.heap.size w5 (w5.alloc (.cells #[.int .i64 (-40), .int .i64 20, .int .i64 20] 3)) := (Below.refl _ _).alloc (Nat.le_refl _) _
  have r1 := R1.out.below b5 hsz5
  have hs6 : (w5.alloc (.cells #[.int .i64 (-40), .int .i64 20, .int .i64 20] 3)).heap.size = w5.heap.size + 1 := by simp
  refine (sameInts (cap := c1) (cap' := 3) r1 r3 (by omega) (by omega)).mono ?_
  rw [show decide (([-40, 20, 20] : List Int) = [-40, 20, 20]) = true by decide]
  rintro e w7 ⟨rfl, hb2⟩
  have hb3 := Lib.hid (B0.out.trans (Below.mono ((HB.out.trans (b5.mono HB.out.size)).trans (hb2.mono (by have := HB.out.size; omega))) (by omega)))
  clear hb2 b5 r1 r3 hs6 HR
  go_wp2
  go_ret
  exact ⟨rfl, hb3.out⟩
end Go.Proofs.Ytjaobcmladkjcaa
