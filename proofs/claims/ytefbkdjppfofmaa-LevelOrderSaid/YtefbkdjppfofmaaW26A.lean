import Derived.Test.YtefbkdjppfofmaaS26l
import Derived.Test.YtefbkdjppfofmaaW26y
import Derived.Test.YtefbkdjppfofmaaW26o
import Derived.Test.YtefbkdjppfofmaaSame26
/-! The walk of chapter 26's alive. -/
namespace Go.Proofs.Ytefbkdjppfofmaa
open Go.RowKit Go.Deep
set_option linter.unusedVariables false
set_option maxRecDepth 100000

/-- a new block that holds these integers -/
theorem newRd {w : World} {T : Nat} {L : List Int} (hs : ∀ x ∈ L, -10000000 ≤ x ∧ x ≤ 10000000) (hl : L.length ≤ 40) :
    Rd (w.alloc (.cells (L.map (Value.int .i64)).toArray T)) (w.heap.size + 1) (some ⟨w.heap.size, 0, none⟩) L := by
  have ho : Own (w.alloc (.cells (L.map (Value.int .i64)).toArray T)) w.heap.size T L := heap_alloc_new w _
  exact ho.rd (fun x hx => by have := hs x hx; unfold I64; omega) (by omega) (by omega)
/-- .. these bools -/
theorem newRdB {w : World} {T : Nat} {L : List Bool} (hl : L.length ≤ 40) :
    RdB (w.alloc (.cells (L.map Value.bool).toArray T)) (w.heap.size + 1) (some ⟨w.heap.size, 0, none⟩) L :=
  ⟨by omega, fun _ => ⟨w.heap.size, 0, rfl, by omega, fun i x hx => by
    show World.cell? _ _ = _
    rw [Nat.mul_one, cell_of_row _ _ _ _ T (0, 0) (heap_alloc_new w _)]; simp [hx]⟩⟩
def RowsB (w : World) (W : List (List Bool)) (e : Ending) (w' : World) : Prop :=
  ∃ A c, e = .returned (.slice A W.length c) ∧ RdB2 w' w'.heap.size A W ∧ Below w.heap.size w w'
theorem lExample (w : World) : Calls Try.prog 27 #[] w (RowsB w exW) := by
  go_enter Try.func27, Try.ntmps27
  go_wp2
  have b1 : Below w.heap.size w (w.alloc (.cells ([true, true, true].map Value.bool).toArray 4)) := (Below.refl _ _).alloc (Nat.le_refl _) _
  have r1 := newRdB (w := w) (T := 4) (L := [true, true, true]) (by decide)
  have s1 : (w.alloc (.cells ([true, true, true].map Value.bool).toArray 4)).heap.size = w.heap.size + 1 := by simp
  simp only [List.map_cons, List.map_nil] at b1 r1 s1
  generalize w.alloc (.cells #[.bool true, .bool true, .bool true] 4) = w1 at *
  have b2 : Below w1.heap.size w1 (w1.alloc (.cells ([false, false, true].map Value.bool).toArray 4)) := (Below.refl _ _).alloc (Nat.le_refl _) _
  have r2 := newRdB (w := w1) (T := 4) (L := [false, false, true]) (by decide)
  have s2 : (w1.alloc (.cells ([false, false, true].map Value.bool).toArray 4)).heap.size = w1.heap.size + 1 := by simp
  simp only [List.map_cons, List.map_nil] at b2 r2 s2
  replace r1 := r1.below b2 (by omega)
  rw [s1] at r2
  generalize w1.alloc (.cells #[.bool false, .bool false, .bool true] 4) = w2 at *
  have b3 : Below w2.heap.size w2 (w2.alloc (.cells #[.slice (some ⟨w.heap.size, 0, none⟩) 3 3, .slice (some ⟨w.heap.size + 1, 0, none⟩) 3 3] 45)) := (Below.refl _ _).alloc (Nat.le_refl _) _
  have g3 := heap_alloc_new w2 (.cells #[.slice (some ⟨w.heap.size, 0, none⟩) 3 3, .slice (some ⟨w.heap.size + 1, 0, none⟩) 3 3] 45)
  replace r1 := r1.below b3 (by omega)
  replace r2 := r2.below b3 (by omega)
  have s3 : (w2.alloc (.cells #[.slice (some ⟨w.heap.size, 0, none⟩) 3 3, .slice (some ⟨w.heap.size + 1, 0, none⟩) 3 3] 45)).heap.size = w2.heap.size + 1 := by simp
  have hb : Below w.heap.size w (w2.alloc (.cells #[.slice (some ⟨w.heap.size, 0, none⟩) 3 3, .slice (some ⟨w.heap.size + 1, 0, none⟩) 3 3] 45)) := (b1.trans (b2.mono b1.size)).trans (b3.mono (by omega))
  generalize w2.alloc (.cells #[.slice (some ⟨w.heap.size, 0, none⟩) 3 3, .slice (some ⟨w.heap.size + 1, 0, none⟩) 3 3] 45) = w3 at *
  go_ret
  refine ⟨some ⟨w.heap.size + 1 + 1, 0, none⟩, 2, rfl, ⟨by decide, fun _ => ⟨w.heap.size + 1 + 1, 0, rfl, by omega, fun i x hx => ?_⟩⟩, hb⟩
  have e2 : w2.heap.size = w.heap.size + 1 + 1 := by omega
  rw [e2] at g3
  match i, hx with
  | 0, hx =>
    cases hx
    exact ⟨some ⟨w.heap.size, 0, none⟩, 3, (cell_of_row _ _ 0 _ _ (0, 0) g3).trans rfl, r1.more (by omega)⟩
  | 1, hx =>
    cases hx
    exact ⟨some ⟨w.heap.size + 1, 0, none⟩, 3, (cell_of_row _ _ 1 _ _ (0, 0) g3).trans rfl, r2.more (by omega)⟩
  | i + 2, hx => simp [exW] at hx
theorem sameLit {w : World} {A : Option Addr} {L : List Int} {cap : Nat} (h : Rd w w.heap.size A L) (hs : ∀ x ∈ L, -10000000 ≤ x ∧ x ≤ 10000000) (hl : L.length ≤ 40) :
    Calls Try.prog 16 #[.slice A L.length cap, .slice (some ⟨w.heap.size, 0, none⟩) L.length L.length] (w.alloc (.cells (L.map (Value.int .i64)).toArray 3)) fun e w' => e = .returned (.bool true) ∧ Below w.heap.size w w' := by
  have b : Below w.heap.size w (w.alloc (.cells (L.map (Value.int .i64)).toArray 3)) := (Below.refl _ _).alloc (Nat.le_refl _) _
  have s : (w.alloc (.cells (L.map (Value.int .i64)).toArray 3)).heap.size = w.heap.size + 1 := by simp
  refine (same26 (cap := cap) (cap' := L.length) (h.below b (Nat.le_refl _)) (newRd hs hl) (by omega) (by omega)).mono ?_
  rintro e w' ⟨rfl, hb⟩
  exact ⟨by rw [decide_eq_true rfl], b.trans (hb.mono (by omega))⟩
set_option maxHeartbeats 4000000 in
theorem alive26 (w : World) : Calls Try.prog 17 #[] w fun e w' => e = .returned (.bool true) ∧ Below w.heap.size w w' := by
  go_enter Try.func17, Try.ntmps17
  go_wp2_with fail
  refine (lExample w).mono ?_
  rintro e w1 ⟨A1, c1, rfl, r1, b1⟩
  have CE := lEven (cap := c1) r1 (Nat.le_refl _)
  have B1 := Lib.hid b1
  clear r1 b1
  go_wp2_with fail
  refine CE.mono ?_
  rintro e w2 (⟨h1, _⟩ | ⟨m, n, a, A2, c2, _, v, hev, rfl, r2, b2⟩)
  · exact absurd ex_chk h1
  obtain rfl := ex_even v hev
  have R2 := Lib.hid r2
  have B2 := Lib.hid (B1.out.trans (b2.mono B1.out.size))
  have l3 : ([0, 0, 1] : List Int).length = 3 := rfl
  rw [l3]
  clear v hev r2 b2 CE l3
  go_wp2_with fail
  refine (lExample w2).mono ?_
  rintro e w3 ⟨A3, c3, rfl, r3, b3⟩
  have C3 := lCountsE (cap := c3) (cap' := c2) r3 ((R2.out.below b3 (Nat.le_refl _)).more b3.size) (Nat.le_refl _) (Nat.le_refl _)
  rw [ex_cnt, ex_lkd1] at C3
  have R3 := Lib.hid ((R2.out.below b3 (Nat.le_refl _)).more b3.size)
  have B3 := Lib.hid (B2.out.trans (b3.mono B2.out.size))
  have HC3 : Hid (Calls Try.prog 10 #[.slice A3 2 c3, .slice A2 3 c2] w3 (RowRes26 w3 [2, 1] 0)) := Lib.hid C3
  clear r3 b3 C3
  go_wp2_with fail
  refine HC3.out.mono ?_
  rintro e w4 ⟨A4, c4, rfl, r4, b4⟩
  have R4 : Hid (Rd w4 w4.heap.size A4 [2, 1]) := Lib.hid r4
  have R34 := Lib.hid ((R3.out.below b4 (Nat.le_refl _)).more b4.size)
  have B4 := Lib.hid (B3.out.trans (b4.mono B3.out.size))
  have l4 : ([2, 1] : List Int).length = 2 := rfl
  rw [l4]
  clear r4 b4 l4 HC3 R2 R3
  go_wp2_with fail
  refine (lExample w4).mono ?_
  rintro e w5 ⟨A5, c5, rfl, r5, b5⟩
  have b6 : Below w5.heap.size w5 (w5.alloc (.cells ([0, 0, 0].map (Value.int .i64)).toArray 3)) := (Below.refl _ _).alloc (Nat.le_refl _) _
  have r6 := newRd (w := w5) (T := 3) (L := [0, 0, 0]) (by decide) (by decide)
  have s6 : (w5.alloc (.cells ([0, 0, 0].map (Value.int .i64)).toArray 3)).heap.size = w5.heap.size + 1 := by simp
  simp only [List.map_cons, List.map_nil] at b6 r6 s6
  have C6 := lChainE (cap := c5) (cap' := 3) ((r5.below b6 (Nat.le_refl _)).more b6.size) (r6.more (by omega)) (Nat.le_refl _) (Nat.le_refl _)
  rw [ex_ch, ex_chc] at C6
  have HC6 : Hid (Calls Try.prog 12 #[.slice A5 2 c5, .slice (some ⟨w5.heap.size, 0, none⟩) 3 3] (w5.alloc (.cells #[.int .i64 0, .int .i64 0, .int .i64 0] 3)) (RowRes26 (w5.alloc (.cells #[.int .i64 0, .int .i64 0, .int .i64 0] 3)) [0, 1] 0)) := Lib.hid C6
  have R46 := Lib.hid ((((R4.out.below b5 (Nat.le_refl _)).more b5.size).below b6 (Nat.le_refl _)).more b6.size)
  have R36 := Lib.hid ((((R34.out.below b5 (Nat.le_refl _)).more b5.size).below b6 (Nat.le_refl _)).more b6.size)
  have B6 := Lib.hid ((B4.out.trans (b5.mono B4.out.size)).trans (b6.mono (Nat.le_trans B4.out.size b5.size)))
  clear r5 b5 b6 r6 s6 C6 R4 R34
  generalize hw6 : w5.alloc (.cells #[.int .i64 0, .int .i64 0, .int .i64 0] 3) = w6 at *
  go_wp2_with fail
  refine HC6.out.mono ?_
  rintro e w7 ⟨A7, c7, rfl, r7, b7⟩
  have R7 : Hid (Rd w7 w7.heap.size A7 [0, 1]) := Lib.hid r7
  have R47 := Lib.hid ((R46.out.below b7 (Nat.le_refl _)).more b7.size)
  have R37 := Lib.hid ((R36.out.below b7 (Nat.le_refl _)).more b7.size)
  have B7 := Lib.hid (B6.out.trans (b7.mono B6.out.size))
  have l7 : ([0, 1] : List Int).length = 2 := rfl
  rw [l7]
  clear r7 b7 l7 HC6 R46 R36 hw6
  go_wp2_with fail
  refine (lExample w7).mono ?_
  rintro e w8 ⟨A8, c8, rfl, r8, b8⟩
  have C8 := lChainE (cap := c8) (cap' := c2) r8 ((R37.out.below b8 (Nat.le_refl _)).more b8.size) (Nat.le_refl _) (Nat.le_refl _)
  rw [ex_chf1, ex_chc1] at C8
  have HC8 : Hid (Calls Try.prog 12 #[.slice A8 2 c8, .slice A2 3 c2] w8 (RowRes26 w8 [] 6)) := Lib.hid C8
  have R78 := Lib.hid ((R7.out.below b8 (Nat.le_refl _)).more b8.size)
  have R48 := Lib.hid ((R47.out.below b8 (Nat.le_refl _)).more b8.size)
  have R38 := Lib.hid ((R37.out.below b8 (Nat.le_refl _)).more b8.size)
  have B8 := Lib.hid (B7.out.trans (b8.mono B7.out.size))
  clear r8 b8 C8 R7 R47 R37
  go_wp2_with fail
  refine HC8.out.mono ?_
  rintro e w9 ⟨A9, c9, rfl, _, b9⟩
  have R79 := Lib.hid ((R78.out.below b9 (Nat.le_refl _)).more b9.size)
  have R49 := Lib.hid ((R48.out.below b9 (Nat.le_refl _)).more b9.size)
  have R39 := Lib.hid ((R38.out.below b9 (Nat.le_refl _)).more b9.size)
  have B9 := Lib.hid (B8.out.trans (b9.mono B8.out.size))
  have l9 : ([] : List Int).length = 0 := rfl
  rw [l9]
  clear b9 l9 HC8 R78 R48 R38
  go_wp2_with fail
  refine (sameLit (cap := c2) (L := [0, 0, 1]) R39.out (by decide) (by decide)).mono ?_
  rintro e w10 ⟨rfl, b10⟩
  replace R79 := Lib.hid ((R79.out.below b10 (Nat.le_refl _)).more b10.size)
  replace R49 := Lib.hid ((R49.out.below b10 (Nat.le_refl _)).more b10.size)
  have B10 := Lib.hid (B9.out.trans (b10.mono B9.out.size))
  clear b10
  go_wp2_with fail
  refine (sameLit (cap := c4) (L := [2, 1]) R49.out (by decide) (by decide)).mono ?_
  rintro e w11 ⟨rfl, b11⟩
  replace R79 := Lib.hid ((R79.out.below b11 (Nat.le_refl _)).more b11.size)
  have B11 := Lib.hid (B10.out.trans (b11.mono B10.out.size))
  clear b11
  go_wp2_with fail
  refine (sameLit (cap := c7) (L := [0, 1]) R79.out (by decide) (by decide)).mono ?_
  rintro e w12 ⟨rfl, b12⟩
  have B12 := Lib.hid (B11.out.trans (b12.mono B11.out.size))
  clear b12
  go_wp2
  go_ret
  exact ⟨rfl, B12.out⟩
end Go.Proofs.Ytefbkdjppfofmaa
