import Derived.Test.YtjgobpejifhphaaM35b
import Derived.Test.YtjgobpejifhphaaM35c
/-! The walk of chapter 35's alive: the chapter's examples. -/
namespace Go.Proofs.Ytjgobpejifhphaa
open Go.RowKit Go.Deep
set_option linter.unusedVariables false
set_option maxRecDepth 100000

def Sml (L : List Int) : Prop := (∀ x ∈ L, -10000000 ≤ x ∧ x ≤ 10000000) ∧ L.length ≤ 40
instance (L : List Int) : Decidable (Sml L) := inferInstanceAs (Decidable (_ ∧ _))
theorem litRd {w : World} {T : Nat} {L : List Int} (hs : Sml L) :
    Rd (w.alloc (.cells (L.map (Value.int .i64)).toArray T)) (w.heap.size + 1) (some ⟨w.heap.size, 0, none⟩) L := by
  have ho : Own (w.alloc (.cells (L.map (Value.int .i64)).toArray T)) w.heap.size T L := heap_alloc_new w _
  exact ho.rd (fun x hx => by have := hs.1 x hx; unfold I64; omega) (by have := hs.2; omega) (by omega)
/-- two lists, one after another -/
theorem lits2 (w : World) (L M : List Int) (T T' : Nat) (hL : Sml L) (hM : Sml M) (w2 : World) (h : (w.alloc (.cells (L.map (Value.int .i64)).toArray T)).alloc (.cells (M.map (Value.int .i64)).toArray T') = w2) :
    Below w.heap.size w w2 ∧ w2.heap.size = w.heap.size + 2 ∧ Rd w2 w2.heap.size (some ⟨w.heap.size, 0, none⟩) L ∧ Rd w2 w2.heap.size (some ⟨w.heap.size + 1, 0, none⟩) M := by
  have r1 := litRd (w := w) (T := T) hL
  have r2 := litRd (w := w.alloc (.cells (L.map (Value.int .i64)).toArray T)) (T := T') hM
  rw [sizeA] at r2
  have b1 := Below.alloc (B := w.heap.size + 1) (Below.refl _ (w.alloc (.cells (L.map (Value.int .i64)).toArray T))) (by rw [sizeA]; omega) (.cells (M.map (Value.int .i64)).toArray T')
  have hs : w2.heap.size = w.heap.size + 2 := by rw [← h, sizeA, sizeA]
  subst h
  exact ⟨((Below.refl _ _).alloc (Nat.le_refl _) _).alloc (by rw [sizeA]; omega) _, hs, (r1.below b1 (Nat.le_refl _)).more (by omega), r2.more (by omega)⟩
/-- a list of two lists -/
theorem rows2 (w : World) (L M : List Int) (T T' : Nat) (hL : Sml L) (hM : Sml M) (w3 : World)
    (h : ((w.alloc (.cells (L.map (Value.int .i64)).toArray T)).alloc (.cells (M.map (Value.int .i64)).toArray T)).alloc (.cells #[.slice (some ⟨w.heap.size, 0, none⟩) L.length L.length, .slice (some ⟨w.heap.size + 1, 0, none⟩) M.length M.length] T') = w3) :
    Below w.heap.size w w3 ∧ w3.heap.size = w.heap.size + 3 ∧ Rd2 w3 w3.heap.size (some ⟨w.heap.size + 1 + 1, 0, none⟩) [L, M] := by
  obtain ⟨b2, s2, r1, r2⟩ := lits2 w L M T T hL hM _ rfl
  generalize (w.alloc (.cells (L.map (Value.int .i64)).toArray T)).alloc (.cells (M.map (Value.int .i64)).toArray T) = w2 at *
  have b3 := Below.alloc (B := w2.heap.size) (Below.refl _ w2) (Nat.le_refl _) (.cells #[.slice (some ⟨w.heap.size, 0, none⟩) L.length L.length, .slice (some ⟨w.heap.size + 1, 0, none⟩) M.length M.length] T')
  have hh := heap_alloc_new w2 (.cells #[.slice (some ⟨w.heap.size, 0, none⟩) L.length L.length, .slice (some ⟨w.heap.size + 1, 0, none⟩) M.length M.length] T')
  have hs := sizeA w2 (.cells #[.slice (some ⟨w.heap.size, 0, none⟩) L.length L.length, .slice (some ⟨w.heap.size + 1, 0, none⟩) M.length M.length] T')
  rw [h] at b3 hh hs
  refine ⟨b2.trans (b3.mono b2.size), by omega, ⟨by simp, fun _ => ⟨w.heap.size + 1 + 1, 0, rfl, by omega, fun i x hx => ?_⟩⟩⟩
  have e1 := (r1.below b3 (Nat.le_refl _)).more b3.size
  have e2 := (r2.below b3 (Nat.le_refl _)).more b3.size
  rw [s2] at hh
  match i, hx with
  | 0, hx => cases hx; exact ⟨_, _, (cell_of_row _ _ 0 _ _ (0, 0) hh).trans rfl, e1⟩
  | 1, hx => cases hx; exact ⟨_, _, (cell_of_row _ _ 1 _ _ (0, 0) hh).trans rfl, e2⟩
  | i + 2, hx => simp at hx

theorem ex35_of : ofR [1, 1] [100, 50] 1 0 100 120 = (50, 50) ∧ ofE [1, 1] [100, 50] 1 0 100 120 = 0 := by decide +kernel
theorem ex35_lk : lkd35 [0, 1, 0] [[0, 1, 2], [1, 0, 2]] 0 [5, 4, 3] = 0 ∧ lkd35 [0, 1, 0] [[0, 1, 2], [1, 2, 0]] 0 [5, 4, 3] = 0 := by decide +kernel
theorem ex35_has : hsV [0, 1, 0] [[0, 1, 2], [1, 0, 2]] 0 [5, 4, 3] = 8 := by decide +kernel
theorem ex35_l1 : lsL [0, 1, 0] [[0, 1, 2], [1, 0, 2]] 0 [5, 4, 3] = [0, 1, 2] ∧ lsN [0, 1, 0] [[0, 1, 2], [1, 0, 2]] 0 [5, 4, 3] = 8 := by decide +kernel
theorem ex35_l2 : lsL [0, 1, 0] [[0, 1, 2], [1, 2, 0]] 0 [5, 4, 3] = [1, 0, 2] ∧ lsN [0, 1, 0] [[0, 1, 2], [1, 2, 0]] 0 [5, 4, 3] = 9 := by decide +kernel
section
variable {u : World} {A A' A3 : Option Addr}
theorem exOffer (h : Rd u u.heap.size A [1, 1]) (h' : Rd u u.heap.size A' [100, 50]) : Calls Try.prog 11 #[.slice A 2 2, .slice A' 2 2, .int .i64 1, .int .i64 0, .int .i64 100, .int .i64 120] u fun e u' => e = .returned (.tuple #[.int .i64 50, .int .i64 50, .int .i64 0]) ∧ Below u.heap.size u u' := by
  have := dOffer (cap := 2) (cap' := 2) h (Nat.le_refl _) h' (Nat.le_refl _) 1 0 100 120
  rw [ex35_of.1, ex35_of.2] at this
  exact this
theorem exHas (h : Rd u u.heap.size A [0, 1, 0]) (h' : Rd2 u u.heap.size A' [[0, 1, 2], [1, 0, 2]]) (h3 : Rd u u.heap.size A3 [5, 4, 3]) : Calls Try.prog 21 #[.slice A 3 3, .slice A' 2 2, .int .i64 0, .slice A3 3 3] u fun e u' => e = .returned (.tuple #[.int .i64 8, .int .i64 0]) ∧ Below u.heap.size u u' := by
  have := lHasE (cap := 3) (cap' := 2) (cap3 := 3) 0 h h' h3 (Nat.le_refl _) (Nat.le_refl _) (Nat.le_refl _) (by decide)
  rw [ex35_has, ex35_lk.1] at this
  exact this
theorem exList1 (h : Rd u u.heap.size A [0, 1, 0]) (h' : Rd2 u u.heap.size A' [[0, 1, 2], [1, 0, 2]]) (h3 : Rd u u.heap.size A3 [5, 4, 3]) : Calls Try.prog 19 #[.slice A 3 3, .slice A' 2 2, .int .i64 0, .slice A3 3 3] u fun e u' => ∃ B c, e = .returned (.tuple #[.slice B 3 c, .int .i64 8, .int .i64 0]) ∧ Rd u' u'.heap.size B [0, 1, 2] ∧ Below u.heap.size u u' := by
  have := lListE (cap := 3) (cap' := 2) (cap3 := 3) 0 h h' h3 (Nat.le_refl _) (Nat.le_refl _) (Nat.le_refl _) (by decide)
  rw [ex35_l1.1, ex35_l1.2, ex35_lk.1] at this
  exact this
theorem exList2 (h : Rd u u.heap.size A [0, 1, 0]) (h' : Rd2 u u.heap.size A' [[0, 1, 2], [1, 2, 0]]) (h3 : Rd u u.heap.size A3 [5, 4, 3]) : Calls Try.prog 19 #[.slice A 3 3, .slice A' 2 2, .int .i64 0, .slice A3 3 3] u fun e u' => ∃ B c, e = .returned (.tuple #[.slice B 3 c, .int .i64 9, .int .i64 0]) ∧ Rd u' u'.heap.size B [1, 0, 2] ∧ Below u.heap.size u u' := by
  have := lListE (cap := 3) (cap' := 2) (cap3 := 3) 0 h h' h3 (Nat.le_refl _) (Nat.le_refl _) (Nat.le_refl _) (by decide)
  rw [ex35_l2.1, ex35_l2.2, ex35_lk.2] at this
  exact this
theorem exSame {L : List Int} {n c : Nat} (hn : L.length = n) (h : Rd u u.heap.size A L) (hL : Sml L) (T : Nat) : Calls Try.prog 31 #[.slice A n c, .slice (some ⟨u.heap.size, 0, none⟩) n n] (u.alloc (.cells (L.map (Value.int .i64)).toArray T)) fun e u' => e = .returned (.bool true) ∧ Below u.heap.size u u' := by
  subst hn
  have h2 := litRd (w := u) (T := T) hL
  have hb := (Below.refl u.heap.size u).alloc (Nat.le_refl _) (.cells (L.map (Value.int .i64)).toArray T)
  refine (same35 (cap := c) (cap' := L.length) (h.below hb (Nat.le_refl _)) h2 (by rw [sizeA]; omega) (by rw [sizeA]; exact Nat.le_refl _)).mono ?_
  rintro e u' ⟨rfl, hu⟩
  rw [decide_eq_true rfl]
  exact ⟨rfl, hb.trans (hu.mono (by rw [sizeA]; omega))⟩
end
set_option maxHeartbeats 2000000 in
theorem alive35 {w : World} : Calls Try.prog 13 #[] w fun e w' => e = .returned (.bool true) ∧ Below w.heap.size w w' := by
  go_enter Try.func13, Try.ntmps13
  go_wp2_with fail
  generalize hw1 : ((w.alloc (.cells #[.int .i64 1, .int .i64 1] 3)).alloc (.cells #[.int .i64 100, .int .i64 50] 3)) = w1 at *
  obtain ⟨b1, s1, r1, r2⟩ := lits2 w [1, 1] [100, 50] 3 3 (by decide) (by decide) w1 hw1
  have hsz : w1.heap.size = w.heap.size + 1 + 1 := s1
  refine (exOffer r1 r2).mono ?_
  rintro e w2 ⟨rfl, hb⟩
  have HB2 := Lib.hid (b1.trans (hb.mono b1.size))
  clear hb r1 r2 b1 s1 hw1 hsz
  go_wp2_with fail
  generalize hw3 : (w2.alloc (.cells #[.int .i64 0, .int .i64 1, .int .i64 0] 3)).alloc (.cells #[.int .i64 5, .int .i64 4, .int .i64 3] 3) = w3 at *
  obtain ⟨b3, s3, r1, r2⟩ := lits2 w2 [0, 1, 0] [5, 4, 3] 3 3 (by decide) (by decide) w3 hw3
  have hs3 : w2.heap.size + 1 + 1 = w3.heap.size := s3.symm
  rw [hs3]
  clear hw3 hs3 s3
  have HB3 := Lib.hid (HB2.out.trans (b3.mono HB2.out.size))
  clear b3
  generalize w2.heap.size = q0 at *
  generalize hw4 : ((w3.alloc (.cells #[.int .i64 0, .int .i64 1, .int .i64 2] 3)).alloc (.cells #[.int .i64 1, .int .i64 0, .int .i64 2] 3)).alloc (.cells #[.slice (some ⟨w3.heap.size, 0, none⟩) 3 3, .slice (some ⟨w3.heap.size + 1, 0, none⟩) 3 3] 22) = w4 at *
  obtain ⟨b4, s4, r4⟩ := rows2 w3 [0, 1, 2] [1, 0, 2] 3 22 (by decide) (by decide) w4 hw4
  clear hw4
  have RA := (r1.below b4 (Nat.le_refl _)).more b4.size
  have RB := (r2.below b4 (Nat.le_refl _)).more b4.size
  refine (exHas RA r4 RB).mono ?_
  rintro e w5 ⟨rfl, hb⟩
  replace r1 := (RA.below hb (Nat.le_refl _)).more hb.size
  replace r2 := (RB.below hb (Nat.le_refl _)).more hb.size
  have hx := b4.trans (hb.mono b4.size)
  have HB5 := Lib.hid (HB3.out.trans (hx.mono HB3.out.size))
  clear hb hx RA RB r4 b4 s4
  go_wp2_with fail
  generalize hw6 : ((w5.alloc (.cells #[.int .i64 0, .int .i64 1, .int .i64 2] 3)).alloc (.cells #[.int .i64 1, .int .i64 0, .int .i64 2] 3)).alloc (.cells #[.slice (some ⟨w5.heap.size, 0, none⟩) 3 3, .slice (some ⟨w5.heap.size + 1, 0, none⟩) 3 3] 22) = w6 at *
  obtain ⟨b6, s6, r6⟩ := rows2 w5 [0, 1, 2] [1, 0, 2] 3 22 (by decide) (by decide) w6 hw6
  clear hw6
  have RA := (r1.below b6 (Nat.le_refl _)).more b6.size
  have RB := (r2.below b6 (Nat.le_refl _)).more b6.size
  refine (exList1 RA r6 RB).mono ?_
  rintro e w7 ⟨A1, c1, rfl, hr1, hb⟩
  replace r1 := (RA.below hb (Nat.le_refl _)).more hb.size
  replace r2 := (RB.below hb (Nat.le_refl _)).more hb.size
  have hx := b6.trans (hb.mono b6.size)
  have HB7 := Lib.hid (HB5.out.trans (hx.mono HB5.out.size))
  clear hb hx RA RB r6 b6 s6
  go_wp2_with fail
  generalize hw8 : ((w7.alloc (.cells #[.int .i64 0, .int .i64 1, .int .i64 2] 3)).alloc (.cells #[.int .i64 1, .int .i64 2, .int .i64 0] 3)).alloc (.cells #[.slice (some ⟨w7.heap.size, 0, none⟩) 3 3, .slice (some ⟨w7.heap.size + 1, 0, none⟩) 3 3] 22) = w8 at *
  obtain ⟨b8, s8, r8⟩ := rows2 w7 [0, 1, 2] [1, 2, 0] 3 22 (by decide) (by decide) w8 hw8
  clear hw8
  have RA := (r1.below b8 (Nat.le_refl _)).more b8.size
  have RB := (r2.below b8 (Nat.le_refl _)).more b8.size
  refine (exList2 RA r8 RB).mono ?_
  rintro e w9 ⟨A2, c2, rfl, hr2, hb⟩
  replace r1 := (RA.below hb (Nat.le_refl _)).more hb.size
  replace r2 := (RB.below hb (Nat.le_refl _)).more hb.size
  have hx := b8.trans (hb.mono b8.size)
  have HB9 := Lib.hid (HB7.out.trans (hx.mono HB7.out.size))
  have hr1' := (hr1.below hx (Nat.le_refl _)).more hx.size
  clear hb hx RA RB r8 b8 s8
  clear r1 r2
  go_wp2_with fail
  have hz1 := (Below.refl w9.heap.size w9)
  refine (exSame rfl hr1' (by decide) 3).mono ?_
  rintro e w10 ⟨rfl, hb⟩
  have hr2' := (hr2.below hb (Nat.le_refl _)).more hb.size
  have HB10 := Lib.hid (HB9.out.trans (hb.mono HB9.out.size))
  clear hb hr2 hr1' hr1 hz1
  go_wp2_with fail
  refine (exSame rfl hr2' (by decide) 3).mono ?_
  rintro e w11 ⟨rfl, hb⟩
  have HB11 := Lib.hid (HB10.out.trans (hb.mono HB10.out.size))
  clear hb hr2'
  go_wp2
  go_ret
  exact ⟨rfl, HB11.out⟩
end Go.Proofs.Ytjgobpejifhphaa
