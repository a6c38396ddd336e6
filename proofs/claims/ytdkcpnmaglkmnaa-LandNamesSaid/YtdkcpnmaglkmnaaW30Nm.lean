import Derived.Test.YtdkcpnmaglkmnaaW30y
/-! The walk of the statement LandNames. (Printed by gen30nm.py.) -/
namespace Go.Proofs.Ytdkcpnmaglkmnaa
open Go.RowKit Go.Deep
set_option linter.unusedVariables false
set_option maxRecDepth 100000

section
variable {u : World} {A : Option Addr} {L : List Int} {m cap : Nat}
theorem nmCheck (h : Rd u u.heap.size A L) (hm : L.length = m) {W H c : Int} (hc : lck W H L = c) : Calls Try.prog 25 #[.agg #[.int .i64 W, .int .i64 H, .slice A m cap]] u fun e u' => e = .returned (.int .i64 c) ∧ Below u.heap.size u u' := by
  have := lCheck (cap := cap) h (Nat.le_refl _) W H
  rw [hc, hm] at this
  exact this
theorem nmParts (h : Rd u u.heap.size A L) (hm : L.length = m) {W H a c : Int} {n : Nat} (hc : lkd W H L a = c) (hn : (prtF W H L a).length = n) : Calls Try.prog 19 #[.agg #[.int .i64 W, .int .i64 H, .slice A m cap], .int .i64 a] u fun e u' => ∃ A' k, e = .returned (.tuple #[.slice A' n k, .int .i64 c]) ∧ Below u.heap.size u u' := by
  have := lPartsE (cap := cap) h (Nat.le_refl _) W H a
  rw [hm] at this
  refine this.mono ?_
  rintro e u' ⟨A', k, he, _, hb⟩
  rw [hc, hn] at he
  exact ⟨A', k, he, hb⟩
theorem nmWalk (h : Rd u u.heap.size A L) (hm : L.length = m) {W H a c : Int} {n : Nat} (hw : wkE W H L a = c ∧ (wkP W H L a).length = n) : Calls Try.prog 16 #[.agg #[.int .i64 W, .int .i64 H, .slice A m cap], .int .i64 a] u fun e u' => ∃ A' k, e = .returned (.tuple #[.slice A' n k, .int .i64 c]) ∧ Below u.heap.size u u' := by
  have := lWalk (cap := cap) h (Nat.le_refl _) W H a
  rw [hm] at this
  refine this.mono ?_
  rintro e u' ⟨A', k, he, _, hb⟩
  rw [hw.1, hw.2] at he
  exact ⟨A', k, he, hb⟩
theorem nmBoundary (h : Rd u u.heap.size A L) (hm : L.length = m) {W H a c x : Int} (hc : lkd W H L a = c) (hx : bdyN W H L a = x) : Calls Try.prog 12 #[.agg #[.int .i64 W, .int .i64 H, .slice A m cap], .int .i64 a] u fun e u' => e = .returned (.tuple #[.int .i64 x, .int .i64 c]) ∧ Below u.heap.size u u' := by
  have := lBoundary (cap := cap) h (Nat.le_refl _) W H a
  rw [hc, hx, hm] at this
  exact this
theorem nmBorder (h : Rd u u.heap.size A L) (hm : L.length = m) {W H a b c x : Int} (hc : brdE W H L a b = c) (hx : brdN W H L a b = x) : Calls Try.prog 14 #[.agg #[.int .i64 W, .int .i64 H, .slice A m cap], .int .i64 a, .int .i64 b] u fun e u' => e = .returned (.tuple #[.int .i64 x, .int .i64 c]) ∧ Below u.heap.size u u' := by
  have := lBorder (cap := cap) h (Nat.le_refl _) W H a b
  rw [hc, hx, hm] at this
  exact this
theorem nmGive (h : Rd u u.heap.size A L) (hm : L.length = m) {W H p t c : Int} (hc : gvE30 W H L p t = c) (h0 : c ≠ 0) : Calls Try.prog 23 #[.agg #[.int .i64 W, .int .i64 H, .slice A m cap], .int .i64 p, .int .i64 t] u fun e u' => ∃ A' k, e = .returned (.tuple #[.agg #[.int .i64 0, .int .i64 0, .slice A' 0 k], .int .i64 c]) ∧ Below u.heap.size u u' := by
  have := lGive (cap := cap) h (Nat.le_refl _) W H p t
  rw [hm] at this
  refine this.mono ?_
  rintro e u' ⟨A', k, he, _, hb⟩
  have hn : ¬ gvE30 W H L p t = 0 := by rw [hc]; exact h0
  rw [gvW30, gvH30, gvL30, if_neg hn, if_neg hn, if_neg hn, hc] at he
  exact ⟨A', k, he, hb⟩
theorem nmJoints (h : Rd u u.heap.size A L) (hm : L.length = m) {W H a c : Int} {J : List Int} {n : Nat} (hc : lkd W H L a = c) (hn : jntF W H L a = J) (hJ : J.length = n) : Calls Try.prog 21 #[.agg #[.int .i64 W, .int .i64 H, .slice A m cap], .int .i64 a] u fun e u' => ∃ A' k, e = .returned (.tuple #[.slice A' n k, .int .i64 c]) ∧ Rd u' u'.heap.size A' J ∧ Below u.heap.size u u' := by
  have := lJoints (cap := cap) h (Nat.le_refl _) W H a
  rw [hm] at this
  refine this.mono ?_
  rintro e u' ⟨A', k, he, hr, hb⟩
  rw [hn] at he hr
  rw [hc, hJ] at he
  exact ⟨A', k, he, hr, hb⟩
end
theorem wk_len {W H : Nat} {L : List Int} {a : Int} {N : Nat} (v : VL W H L) (ha : 0 ≤ a) (hk : lkd W H L a = 0) (h2 : ¬ fst L a < 0) (h0 : 0 < N) (hc : closes (wkF W H L a) (wkS W L a) N = true) : wkE W H L a = 0 ∧ (wkP W H L a).length = N := by
  obtain ⟨h1, h3⟩ := wkP_is v ha hk h2 h0 hc
  exact ⟨h1, by rw [h3]; exact ptsK_length _ _ _⟩
theorem nm_cross : wkE 2 2 [0, -1, -1, 0] 0 = 0 ∧ (wkP 2 2 [0, -1, -1, 0] 0).length = 4 := wk_len (W := 2) (H := 2) ⟨by decide, by decide, by decide, by decide, by decide, by decide⟩ (by decide) (by decide +kernel) (by decide +kernel) (by decide) (by decide +kernel)
theorem nm_cross1 : wkE 2 2 [0, -1, -1, 0] 1 = 6 ∧ (wkP 2 2 [0, -1, -1, 0] 1).length = 0 := by
  have h : wkE 2 2 [0, -1, -1, 0] 1 = 6 := by decide +kernel
  exact ⟨h, by rw [wkP, if_neg (by rw [h]; decide)]; rfl⟩
theorem nm_ring : wkE 3 3 [0, 0, 0, 0, -1, 0, 0, 0, -1] 0 = 0 ∧ (wkP 3 3 [0, 0, 0, 0, -1, 0, 0, 0, -1] 0).length = 16 := wk_len (W := 3) (H := 3) ⟨by decide, by decide, by decide, by decide, by decide, by decide⟩ (by decide) (by decide +kernel) (by decide +kernel) (by decide) (by decide +kernel)
theorem nm_shut : wkE 3 3 [0, 0, 0, 0, -1, 0, 0, 0, 0] 0 = 0 ∧ (wkP 3 3 [0, 0, 0, 0, -1, 0, 0, 0, 0] 0).length = 12 := wk_len (W := 3) (H := 3) ⟨by decide, by decide, by decide, by decide, by decide, by decide⟩ (by decide) (by decide +kernel) (by decide +kernel) (by decide) (by decide +kernel)
theorem rd_alloc {w : World} {B : Nat} {A : Option Addr} {L : List Int} (h : Rd w B A L) (hB : B ≤ w.heap.size) (o : Obj) : Rd (w.alloc o) B A L := h.below ((Below.refl _ _).alloc (Nat.le_refl _) o : Below w.heap.size w (w.alloc o)) hB
theorem nm_joints : jntF 3 3 [0, 0, 0, 0, -1, 0, 0, 0, -1] 0 = [0, 1, 2, 3, 6] := by decide +kernel

/-- the block of the bad pieces of land -/
def badVs (n : Nat) : List Value := [.int .i64 0, .int .i64 0, .slice none 0 0, .int .i64 1, .int .i64 1, .slice none 0 0, .int .i64 1, .int .i64 1, .slice (some ⟨n, 0, none⟩) 1 1, .int .i64 1, .int .i64 1, .slice (some ⟨n + 1, 0, none⟩) 1 1, .int .i64 (-1), .int .i64 (-1), .slice (some ⟨n + 1 + 1, 0, none⟩) 1 1, .int .i64 0, .int .i64 5, .slice none 0 0]
set_option maxHeartbeats 16000000 in
theorem landNames {w : World} : Calls Try.prog 9 #[] w fun e w' => e = .returned (.bool true) ∧ Below w.heap.size w w' := by
  have al1 : Below w.heap.size w (w.alloc (.cells #[.int .i64 6] 3)) := (Below.refl _ _).alloc (Nat.le_refl _) _
  have z1 : (w.alloc (.cells #[.int .i64 6] 3)).heap.size = w.heap.size + 1 := by simp
  have r1 : Rd (w.alloc (.cells #[.int .i64 6] 3)) (w.heap.size + 1) (some ⟨w.heap.size, 0, none⟩) [6] := newRd (w := w) (T := 3) (L := [6]) (by decide) (by decide)
  have z2 : ((w.alloc (.cells #[.int .i64 6] 3)).alloc (.cells #[.int .i64 (-2)] 3)).heap.size = w.heap.size + 1 + 1 := by simp
  have r2 : Rd ((w.alloc (.cells #[.int .i64 6] 3)).alloc (.cells #[.int .i64 (-2)] 3)) ((w.alloc (.cells #[.int .i64 6] 3)).heap.size + 1) (some ⟨(w.alloc (.cells #[.int .i64 6] 3)).heap.size, 0, none⟩) [-2] := newRd (w := w.alloc (.cells #[.int .i64 6] 3)) (T := 3) (L := [-2]) (by decide) (by decide)
  have z3 : (((w.alloc (.cells #[.int .i64 6] 3)).alloc (.cells #[.int .i64 (-2)] 3)).alloc (.cells #[.int .i64 0] 3)).heap.size = w.heap.size + 1 + 1 + 1 := by simp
  have r3 : Rd (((w.alloc (.cells #[.int .i64 6] 3)).alloc (.cells #[.int .i64 (-2)] 3)).alloc (.cells #[.int .i64 0] 3)) (((w.alloc (.cells #[.int .i64 6] 3)).alloc (.cells #[.int .i64 (-2)] 3)).heap.size + 1) (some ⟨((w.alloc (.cells #[.int .i64 6] 3)).alloc (.cells #[.int .i64 (-2)] 3)).heap.size, 0, none⟩) [0] := newRd (w := (w.alloc (.cells #[.int .i64 6] 3)).alloc (.cells #[.int .i64 (-2)] 3)) (T := 3) (L := [0]) (by decide) (by decide)
  rw [z1] at r2
  rw [z2] at r3
  have hg := heap_alloc_new (((w.alloc (.cells #[.int .i64 6] 3)).alloc (.cells #[.int .i64 (-2)] 3)).alloc (.cells #[.int .i64 0] 3)) (.cells (badVs w.heap.size).toArray 24)
  rw [z3] at hg
  have hg4 : ((((w.alloc (.cells #[.int .i64 6] 3)).alloc (.cells #[.int .i64 (-2)] 3)).alloc (.cells #[.int .i64 0] 3)).alloc (.cells #[.int .i64 0, .int .i64 0, .slice none 0 0, .int .i64 1, .int .i64 1, .slice none 0 0, .int .i64 1, .int .i64 1, .slice (some ⟨w.heap.size, 0, none⟩) 1 1, .int .i64 1, .int .i64 1, .slice (some ⟨w.heap.size + 1, 0, none⟩) 1 1, .int .i64 (-1), .int .i64 (-1), .slice (some ⟨w.heap.size + 1 + 1, 0, none⟩) 1 1, .int .i64 0, .int .i64 5, .slice none 0 0] 24)).heap[w.heap.size + 1 + 1 + 1]? = some (.cells #[.int .i64 0, .int .i64 0, .slice none 0 0, .int .i64 1, .int .i64 1, .slice none 0 0, .int .i64 1, .int .i64 1, .slice (some ⟨w.heap.size, 0, none⟩) 1 1, .int .i64 1, .int .i64 1, .slice (some ⟨w.heap.size + 1, 0, none⟩) 1 1, .int .i64 (-1), .int .i64 (-1), .slice (some ⟨w.heap.size + 1 + 1, 0, none⟩) 1 1, .int .i64 0, .int .i64 5, .slice none 0 0] 24 (0, 0)) := hg
  have hb : Below w.heap.size w ((((w.alloc (.cells #[.int .i64 6] 3)).alloc (.cells #[.int .i64 (-2)] 3)).alloc (.cells #[.int .i64 0] 3)).alloc (.cells #[.int .i64 0, .int .i64 0, .slice none 0 0, .int .i64 1, .int .i64 1, .slice none 0 0, .int .i64 1, .int .i64 1, .slice (some ⟨w.heap.size, 0, none⟩) 1 1, .int .i64 1, .int .i64 1, .slice (some ⟨w.heap.size + 1, 0, none⟩) 1 1, .int .i64 (-1), .int .i64 (-1), .slice (some ⟨w.heap.size + 1 + 1, 0, none⟩) 1 1, .int .i64 0, .int .i64 5, .slice none 0 0] 24)) := (((al1.alloc (by simp) _).alloc (by simp; omega) _).alloc (by simp; omega) _)
  have z4 : ((((w.alloc (.cells #[.int .i64 6] 3)).alloc (.cells #[.int .i64 (-2)] 3)).alloc (.cells #[.int .i64 0] 3)).alloc (.cells #[.int .i64 0, .int .i64 0, .slice none 0 0, .int .i64 1, .int .i64 1, .slice none 0 0, .int .i64 1, .int .i64 1, .slice (some ⟨w.heap.size, 0, none⟩) 1 1, .int .i64 1, .int .i64 1, .slice (some ⟨w.heap.size + 1, 0, none⟩) 1 1, .int .i64 (-1), .int .i64 (-1), .slice (some ⟨w.heap.size + 1 + 1, 0, none⟩) 1 1, .int .i64 0, .int .i64 5, .slice none 0 0] 24)).heap.size = w.heap.size + 1 + 1 + 1 + 1 := by simp
  have q1 : Rd ((((w.alloc (.cells #[.int .i64 6] 3)).alloc (.cells #[.int .i64 (-2)] 3)).alloc (.cells #[.int .i64 0] 3)).alloc (.cells #[.int .i64 0, .int .i64 0, .slice none 0 0, .int .i64 1, .int .i64 1, .slice none 0 0, .int .i64 1, .int .i64 1, .slice (some ⟨w.heap.size, 0, none⟩) 1 1, .int .i64 1, .int .i64 1, .slice (some ⟨w.heap.size + 1, 0, none⟩) 1 1, .int .i64 (-1), .int .i64 (-1), .slice (some ⟨w.heap.size + 1 + 1, 0, none⟩) 1 1, .int .i64 0, .int .i64 5, .slice none 0 0] 24)) (w.heap.size + 1) (some ⟨w.heap.size, 0, none⟩) [6] := rd_alloc (rd_alloc (rd_alloc r1 (by simp) _) (by simp) _) (by simp) _
  have q2 : Rd ((((w.alloc (.cells #[.int .i64 6] 3)).alloc (.cells #[.int .i64 (-2)] 3)).alloc (.cells #[.int .i64 0] 3)).alloc (.cells #[.int .i64 0, .int .i64 0, .slice none 0 0, .int .i64 1, .int .i64 1, .slice none 0 0, .int .i64 1, .int .i64 1, .slice (some ⟨w.heap.size, 0, none⟩) 1 1, .int .i64 1, .int .i64 1, .slice (some ⟨w.heap.size + 1, 0, none⟩) 1 1, .int .i64 (-1), .int .i64 (-1), .slice (some ⟨w.heap.size + 1 + 1, 0, none⟩) 1 1, .int .i64 0, .int .i64 5, .slice none 0 0] 24)) (w.heap.size + 1 + 1) (some ⟨w.heap.size + 1, 0, none⟩) [-2] := rd_alloc (rd_alloc r2 (by simp) _) (by simp) _
  have q3 : Rd ((((w.alloc (.cells #[.int .i64 6] 3)).alloc (.cells #[.int .i64 (-2)] 3)).alloc (.cells #[.int .i64 0] 3)).alloc (.cells #[.int .i64 0, .int .i64 0, .slice none 0 0, .int .i64 1, .int .i64 1, .slice none 0 0, .int .i64 1, .int .i64 1, .slice (some ⟨w.heap.size, 0, none⟩) 1 1, .int .i64 1, .int .i64 1, .slice (some ⟨w.heap.size + 1, 0, none⟩) 1 1, .int .i64 (-1), .int .i64 (-1), .slice (some ⟨w.heap.size + 1 + 1, 0, none⟩) 1 1, .int .i64 0, .int .i64 5, .slice none 0 0] 24)) (w.heap.size + 1 + 1 + 1) (some ⟨w.heap.size + 1 + 1, 0, none⟩) [0] := rd_alloc r3 (by simp) _
  have HG := Lib.hid hg4
  have B := Lib.hid hb
  have Z4 := Lib.hid z4
  have Q1 := Lib.hid q1
  have Q2 := Lib.hid q2
  have Q3 := Lib.hid q3
  clear hg hg4 hb z4 q1 q2 q3 r1 r2 r3 z1 z2 z3 al1
  go_enter Try.func9, Try.ntmps9
  go_wp2_with fail
  generalize (((w.alloc (.cells #[.int .i64 6] 3)).alloc (.cells #[.int .i64 (-2)] 3)).alloc (.cells #[.int .i64 0] 3)).alloc (.cells #[.int .i64 0, .int .i64 0, .slice none 0 0, .int .i64 1, .int .i64 1, .slice none 0 0, .int .i64 1, .int .i64 1, .slice (some ⟨w.heap.size, 0, none⟩) 1 1, .int .i64 1, .int .i64 1, .slice (some ⟨w.heap.size + 1, 0, none⟩) 1 1, .int .i64 (-1), .int .i64 (-1), .slice (some ⟨w.heap.size + 1 + 1, 0, none⟩) 1 1, .int .i64 0, .int .i64 5, .slice none 0 0] 24) = w4 at *
  have KB : Hid (∀ u, Below w4.heap.size w4 u → ∀ k, k < 6 → ∃ (W H : Int) (A : Option Addr) (m : Nat) (L : List Int), (u.cell? ⟨w.heap.size + 1 + 1 + 1, k * 3, none⟩ = some (.int .i64 W) ∧ u.cell? ⟨w.heap.size + 1 + 1 + 1, k * 3 + 1, none⟩ = some (.int .i64 H) ∧ u.cell? ⟨w.heap.size + 1 + 1 + 1, k * 3 + 2, none⟩ = some (.slice A m m)) ∧ L.length = m ∧ Rd u u.heap.size A L ∧ lck W H L = 8) := Lib.hid fun u hu k hk => by
    have hc : ∀ o v, w4.cell? ⟨w.heap.size + 1 + 1 + 1, o, none⟩ = some v → u.cell? ⟨w.heap.size + 1 + 1 + 1, o, none⟩ = some v := fun o v h => ((bcell hu).1 _ _ (by have := Z4.out; omega)).trans h
    have hr : ∀ B' A L, Rd w4 B' A L → B' ≤ w4.heap.size → Rd u u.heap.size A L := fun B' A L h hB => (h.below hu hB).more (Nat.le_trans hB hu.size)
    have z := Z4.out
    have hk6 : k = 0 ∨ k = 1 ∨ k = 2 ∨ k = 3 ∨ k = 4 ∨ k = 5 := by omega
    rcases hk6 with rfl | rfl | rfl | rfl | rfl | rfl
    · exact ⟨0, 0, none, 0, [], ⟨hc _ _ ((cell_of_row _ _ 0 _ 24 (0, 0) HG.out).trans rfl), hc _ _ ((cell_of_row _ _ 1 _ 24 (0, 0) HG.out).trans rfl), hc _ _ ((cell_of_row _ _ 2 _ 24 (0, 0) HG.out).trans rfl)⟩, rfl, Rd.nil _ _ _, by decide +kernel⟩
    · exact ⟨1, 1, none, 0, [], ⟨hc _ _ ((cell_of_row _ _ 3 _ 24 (0, 0) HG.out).trans rfl), hc _ _ ((cell_of_row _ _ 4 _ 24 (0, 0) HG.out).trans rfl), hc _ _ ((cell_of_row _ _ 5 _ 24 (0, 0) HG.out).trans rfl)⟩, rfl, Rd.nil _ _ _, by decide +kernel⟩
    · exact ⟨1, 1, (some ⟨w.heap.size, 0, none⟩), 1, [6], ⟨hc _ _ ((cell_of_row _ _ 6 _ 24 (0, 0) HG.out).trans rfl), hc _ _ ((cell_of_row _ _ 7 _ 24 (0, 0) HG.out).trans rfl), hc _ _ ((cell_of_row _ _ 8 _ 24 (0, 0) HG.out).trans rfl)⟩, rfl, hr _ _ _ Q1.out (by omega), by decide +kernel⟩
    · exact ⟨1, 1, (some ⟨w.heap.size + 1, 0, none⟩), 1, [-2], ⟨hc _ _ ((cell_of_row _ _ 9 _ 24 (0, 0) HG.out).trans rfl), hc _ _ ((cell_of_row _ _ 10 _ 24 (0, 0) HG.out).trans rfl), hc _ _ ((cell_of_row _ _ 11 _ 24 (0, 0) HG.out).trans rfl)⟩, rfl, hr _ _ _ Q2.out (by omega), by decide +kernel⟩
    · exact ⟨-1, -1, (some ⟨w.heap.size + 1 + 1, 0, none⟩), 1, [0], ⟨hc _ _ ((cell_of_row _ _ 12 _ 24 (0, 0) HG.out).trans rfl), hc _ _ ((cell_of_row _ _ 13 _ 24 (0, 0) HG.out).trans rfl), hc _ _ ((cell_of_row _ _ 14 _ 24 (0, 0) HG.out).trans rfl)⟩, rfl, hr _ _ _ Q3.out (by omega), by decide +kernel⟩
    · exact ⟨0, 5, none, 0, [], ⟨hc _ _ ((cell_of_row _ _ 15 _ 24 (0, 0) HG.out).trans rfl), hc _ _ ((cell_of_row _ _ 16 _ 24 (0, 0) HG.out).trans rfl), hc _ _ ((cell_of_row _ _ 17 _ 24 (0, 0) HG.out).trans rfl)⟩, rfl, Rd.nil _ _ _, by decide +kernel⟩
  clear HG Q1 Q2 Q3
  go_loopw [2] (fun i wr => ∃ (k : Nat), k ≤ 6 ∧ i = .int .i64 k ∧ Hid (Below w4.heap.size w4 wr)) (fun i _ => 6 - (intOf i).toNat)
  case atStart => exact ⟨0, by omega, rfl, Lib.hid (Below.refl _ _)⟩
  case round =>
    obtain ⟨k, hk, rfl, hw⟩ := hrel
    by_cases hlt : k < 6
    · obtain ⟨W, H, A, m, L, ⟨x0, x1, x2⟩, hm, hr, hl⟩ := KB.out _ hw.out k hlt
      have hk0 : (0 : Int) ≤ (k : Int) := by omega
      have hk1 : (k : Int) < 6 := by omega
      have R := Lib.hid hr
      have HM := Lib.hid hm
      have HL := Lib.hid hl
      have hne : lck W H L ≠ 0 := by rw [hl]; decide
      have hlk : lkd W H L 9 = 8 := by rw [lkd_chk hne, hl]
      have hp : (prtF W H L 9).length = 0 := by rw [prtF, if_neg (by rw [hlk]; decide)]; rfl
      have HLK := Lib.hid hlk
      have HP := Lib.hid hp
      clear hm hr hl hne hlk hp
      go_wp2_with fail
      refine (nmParts (cap := m) R.out HM.out HLK.out HP.out).mono ?_
      rintro e wa ⟨A1, k1, rfl, hb⟩
      have BA := Lib.hid (hw.out.trans (hb.mono hw.out.size))
      have R2 := Lib.hid ((R.out.below hb (Nat.le_refl _)).more hb.size)
      replace x0 := ((bcell hb).1 _ _ (World.block_lt_of_cell? _ _ x0)).trans x0
      replace x1 := ((bcell hb).1 _ _ (World.block_lt_of_cell? _ _ x1)).trans x1
      replace x2 := ((bcell hb).1 _ _ (World.block_lt_of_cell? _ _ x2)).trans x2
      clear hb R HLK HP
      go_wp2_with fail
      refine (nmCheck (cap := m) R2.out HM.out HL.out).mono ?_
      rintro e wb ⟨rfl, hb⟩
      have BB := Lib.hid (BA.out.trans (hb.mono BA.out.size))
      clear hb x0 x1 x2
      go_wp2
      go_roundw
      case rel => exact ⟨k + 1, by omega, by go_num, BB⟩
      case measure => simp [intOf]; omega
    · replace B := Lib.hid (B.out.trans (hw.out.mono B.out.size))
      clear KB Z4 hw
      have P : Rd (wr.alloc (.cells #[.int .i64 0, .int .i64 (-1), .int .i64 (-1), .int .i64 0] 3)) (wr.heap.size + 1) (some ⟨wr.heap.size, 0, none⟩) [0, -1, -1, 0] := newRd (w := wr) (T := 3) (L := [0, -1, -1, 0]) (by decide) (by decide)
      have hb : Below wr.heap.size wr (wr.alloc (.cells #[.int .i64 0, .int .i64 (-1), .int .i64 (-1), .int .i64 0] 3)) := (Below.refl _ _).alloc (Nat.le_refl _) _
      replace B := Lib.hid (B.out.trans (hb.mono B.out.size))
      clear hb
      have R5 : Hid (Rd (wr.alloc (.cells #[.int .i64 0, .int .i64 (-1), .int .i64 (-1), .int .i64 0] 3)) (wr.alloc (.cells #[.int .i64 0, .int .i64 (-1), .int .i64 (-1), .int .i64 0] 3)).heap.size (some ⟨wr.heap.size, 0, none⟩) [0, -1, -1, 0]) := Lib.hid (P.more (Nat.le_of_eq (by simp)))
      clear P
      have hn := three_cells (heap_alloc_new (wr.alloc (.cells #[.int .i64 0, .int .i64 (-1), .int .i64 (-1), .int .i64 0] 3)) (.cells #[.int .i64 2, .int .i64 2, .slice (some ⟨wr.heap.size, 0, none⟩) 4 4] 24))
      rw [show (wr.alloc (.cells #[.int .i64 0, .int .i64 (-1), .int .i64 (-1), .int .i64 0] 3)).heap.size = wr.heap.size + 1 by simp] at hn
      have hb : Below (wr.alloc (.cells #[.int .i64 0, .int .i64 (-1), .int .i64 (-1), .int .i64 0] 3)).heap.size (wr.alloc (.cells #[.int .i64 0, .int .i64 (-1), .int .i64 (-1), .int .i64 0] 3)) ((wr.alloc (.cells #[.int .i64 0, .int .i64 (-1), .int .i64 (-1), .int .i64 0] 3)).alloc (.cells #[.int .i64 2, .int .i64 2, .slice (some ⟨wr.heap.size, 0, none⟩) 4 4] 24)) := (Below.refl _ _).alloc (Nat.le_refl _) _
      replace B := Lib.hid (B.out.trans (hb.mono B.out.size))
      replace R5 := Lib.hid ((R5.out.below hb (Nat.le_refl _)).more hb.size)
      clear hb
      have C5 := Lib.hid hn
      have C5z : Hid (wr.heap.size + 1 < ((wr.alloc (.cells #[.int .i64 0, .int .i64 (-1), .int .i64 (-1), .int .i64 0] 3)).alloc (.cells #[.int .i64 2, .int .i64 2, .slice (some ⟨wr.heap.size, 0, none⟩) 4 4] 24)).heap.size) := Lib.hid (by simp)
      clear hn
      go_wp2_with fail
      generalize (wr.alloc (.cells #[.int .i64 0, .int .i64 (-1), .int .i64 (-1), .int .i64 0] 3)).alloc (.cells #[.int .i64 2, .int .i64 2, .slice (some ⟨wr.heap.size, 0, none⟩) 4 4] 24) = u1 at *
      refine (nmCheck (A := none) (L := []) (cap := 0) (m := 0) (W := 13) (H := 1) (c := 4) (Rd.nil _ _ _) rfl (by decide +kernel)).mono ?_
      rintro e u2 ⟨rfl, hb⟩
      replace B := Lib.hid (B.out.trans (hb.mono B.out.size))
      replace R5 := Lib.hid ((R5.out.below hb (Nat.le_refl _)).more hb.size)
      replace C5 := Lib.hid (cells_below C5.out hb C5z.out)
      replace C5z := Lib.hid (Nat.lt_of_lt_of_le C5z.out hb.size)
      clear hb
      obtain ⟨x0, x1, x2⟩ := C5.out
      go_wp2_with fail
      clear x0 x1 x2
      refine (nmParts (cap := 4) (m := 4) (c := 2) (n := 0) R5.out rfl (by decide +kernel) (by decide +kernel)).mono ?_
      rintro e u3 ⟨A1, k1, rfl, hb⟩
      replace B := Lib.hid (B.out.trans (hb.mono B.out.size))
      replace R5 := Lib.hid ((R5.out.below hb (Nat.le_refl _)).more hb.size)
      replace C5 := Lib.hid (cells_below C5.out hb C5z.out)
      replace C5z := Lib.hid (Nat.lt_of_lt_of_le C5z.out hb.size)
      clear hb
      obtain ⟨x0, x1, x2⟩ := C5.out
      go_wp2_with fail
      clear x0 x1 x2
      refine (nmWalk (cap := 4) (m := 4) R5.out rfl nm_cross1).mono ?_
      rintro e u4 ⟨A2, k2, rfl, hb⟩
      replace B := Lib.hid (B.out.trans (hb.mono B.out.size))
      replace R5 := Lib.hid ((R5.out.below hb (Nat.le_refl _)).more hb.size)
      replace C5 := Lib.hid (cells_below C5.out hb C5z.out)
      replace C5z := Lib.hid (Nat.lt_of_lt_of_le C5z.out hb.size)
      clear hb
      obtain ⟨x0, x1, x2⟩ := C5.out
      go_wp2_with fail
      clear x0 x1 x2
      refine (nmWalk (cap := 4) (m := 4) R5.out rfl nm_cross).mono ?_
      rintro e u5 ⟨A3, k3, rfl, hb⟩
      replace B := Lib.hid (B.out.trans (hb.mono B.out.size))
      replace R5 := Lib.hid ((R5.out.below hb (Nat.le_refl _)).more hb.size)
      replace C5 := Lib.hid (cells_below C5.out hb C5z.out)
      replace C5z := Lib.hid (Nat.lt_of_lt_of_le C5z.out hb.size)
      clear hb
      obtain ⟨x0, x1, x2⟩ := C5.out
      go_wp2_with fail
      clear x0 x1 x2
      refine (nmBorder (cap := 4) (m := 4) (c := 2) (x := 0) R5.out rfl (by decide +kernel) (by decide +kernel)).mono ?_
      rintro e u6 ⟨rfl, hb⟩
      replace B := Lib.hid (B.out.trans (hb.mono B.out.size))
      replace R5 := Lib.hid ((R5.out.below hb (Nat.le_refl _)).more hb.size)
      replace C5 := Lib.hid (cells_below C5.out hb C5z.out)
      replace C5z := Lib.hid (Nat.lt_of_lt_of_le C5z.out hb.size)
      clear hb
      obtain ⟨x0, x1, x2⟩ := C5.out
      go_wp2_with fail
      clear x0 x1 x2
      refine (nmBorder (cap := 4) (m := 4) (c := 2) (x := 0) R5.out rfl (by decide +kernel) (by decide +kernel)).mono ?_
      rintro e u7 ⟨rfl, hb⟩
      replace B := Lib.hid (B.out.trans (hb.mono B.out.size))
      replace R5 := Lib.hid ((R5.out.below hb (Nat.le_refl _)).more hb.size)
      replace C5 := Lib.hid (cells_below C5.out hb C5z.out)
      replace C5z := Lib.hid (Nat.lt_of_lt_of_le C5z.out hb.size)
      clear hb
      obtain ⟨x0, x1, x2⟩ := C5.out
      go_wp2_with fail
      clear x0 x1 x2
      refine (nmGive (cap := 4) (m := 4) (c := 6) R5.out rfl (by decide +kernel) (by decide)).mono ?_
      rintro e u8 ⟨G1, g1, rfl, hb⟩
      replace B := Lib.hid (B.out.trans (hb.mono B.out.size))
      replace R5 := Lib.hid ((R5.out.below hb (Nat.le_refl _)).more hb.size)
      replace C5 := Lib.hid (cells_below C5.out hb C5z.out)
      replace C5z := Lib.hid (Nat.lt_of_lt_of_le C5z.out hb.size)
      clear hb
      have hb : Below u8.heap.size u8 (u8.alloc (.cells #[.int .i64 0, .int .i64 0, .slice G1 0 g1] 24)) := (Below.refl _ _).alloc (Nat.le_refl _) _
      replace B := Lib.hid (B.out.trans (hb.mono B.out.size))
      replace R5 := Lib.hid ((R5.out.below hb (Nat.le_refl _)).more hb.size)
      replace C5 := Lib.hid (cells_below C5.out hb C5z.out)
      replace C5z := Lib.hid (Nat.lt_of_lt_of_le C5z.out hb.size)
      clear hb
      obtain ⟨x0, x1, x2⟩ := C5.out
      go_wp2_with fail
      clear x0 x1 x2
      generalize u8.alloc (.cells #[.int .i64 0, .int .i64 0, .slice G1 0 g1] 24) = u9 at *
      refine (nmGive (cap := 4) (m := 4) (c := 2) R5.out rfl (by decide +kernel) (by decide)).mono ?_
      rintro e u10 ⟨G2, g2, rfl, hb⟩
      replace B := Lib.hid (B.out.trans (hb.mono B.out.size))
      replace R5 := Lib.hid ((R5.out.below hb (Nat.le_refl _)).more hb.size)
      replace C5 := Lib.hid (cells_below C5.out hb C5z.out)
      replace C5z := Lib.hid (Nat.lt_of_lt_of_le C5z.out hb.size)
      clear hb
      have hb : Below u10.heap.size u10 (u10.alloc (.cells #[.int .i64 0, .int .i64 0, .slice G2 0 g2] 24)) := (Below.refl _ _).alloc (Nat.le_refl _) _
      replace B := Lib.hid (B.out.trans (hb.mono B.out.size))
      replace R5 := Lib.hid ((R5.out.below hb (Nat.le_refl _)).more hb.size)
      replace C5 := Lib.hid (cells_below C5.out hb C5z.out)
      replace C5z := Lib.hid (Nat.lt_of_lt_of_le C5z.out hb.size)
      clear hb
      obtain ⟨x0, x1, x2⟩ := C5.out
      go_wp2_with fail
      clear x0 x1 x2
      generalize u10.alloc (.cells #[.int .i64 0, .int .i64 0, .slice G2 0 g2] 24) = u11 at *
      refine (nmGive (cap := 4) (m := 4) (c := 2) R5.out rfl (by decide +kernel) (by decide)).mono ?_
      rintro e u12 ⟨G3, g3, rfl, hb⟩
      replace B := Lib.hid (B.out.trans (hb.mono B.out.size))
      replace R5 := Lib.hid ((R5.out.below hb (Nat.le_refl _)).more hb.size)
      replace C5 := Lib.hid (cells_below C5.out hb C5z.out)
      replace C5z := Lib.hid (Nat.lt_of_lt_of_le C5z.out hb.size)
      clear hb
      have hb : Below u12.heap.size u12 (u12.alloc (.cells #[.int .i64 0, .int .i64 0, .slice G3 0 g3] 24)) := (Below.refl _ _).alloc (Nat.le_refl _) _
      replace B := Lib.hid (B.out.trans (hb.mono B.out.size))
      replace R5 := Lib.hid ((R5.out.below hb (Nat.le_refl _)).more hb.size)
      replace C5 := Lib.hid (cells_below C5.out hb C5z.out)
      replace C5z := Lib.hid (Nat.lt_of_lt_of_le C5z.out hb.size)
      clear hb
      clear R5
      clear C5 C5z
      have P : Rd ((u12.alloc (.cells #[.int .i64 0, .int .i64 0, .slice G3 0 g3] 24)).alloc (.cells #[.int .i64 0, .int .i64 0, .int .i64 0] 3)) ((u12.alloc (.cells #[.int .i64 0, .int .i64 0, .slice G3 0 g3] 24)).heap.size + 1) (some ⟨(u12.alloc (.cells #[.int .i64 0, .int .i64 0, .slice G3 0 g3] 24)).heap.size, 0, none⟩) [0, 0, 0] := newRd (w := (u12.alloc (.cells #[.int .i64 0, .int .i64 0, .slice G3 0 g3] 24))) (T := 3) (L := [0, 0, 0]) (by decide) (by decide)
      rw [show (u12.alloc (.cells #[.int .i64 0, .int .i64 0, .slice G3 0 g3] 24)).heap.size = u12.heap.size + 1 by simp] at P
      have hb : Below (u12.alloc (.cells #[.int .i64 0, .int .i64 0, .slice G3 0 g3] 24)).heap.size (u12.alloc (.cells #[.int .i64 0, .int .i64 0, .slice G3 0 g3] 24)) ((u12.alloc (.cells #[.int .i64 0, .int .i64 0, .slice G3 0 g3] 24)).alloc (.cells #[.int .i64 0, .int .i64 0, .int .i64 0] 3)) := (Below.refl _ _).alloc (Nat.le_refl _) _
      replace B := Lib.hid (B.out.trans (hb.mono B.out.size))
      clear hb
      have RA : Hid (Rd ((u12.alloc (.cells #[.int .i64 0, .int .i64 0, .slice G3 0 g3] 24)).alloc (.cells #[.int .i64 0, .int .i64 0, .int .i64 0] 3)) ((u12.alloc (.cells #[.int .i64 0, .int .i64 0, .slice G3 0 g3] 24)).alloc (.cells #[.int .i64 0, .int .i64 0, .int .i64 0] 3)).heap.size (some ⟨u12.heap.size + 1, 0, none⟩) [0, 0, 0]) := Lib.hid (P.more (Nat.le_of_eq (by simp)))
      clear P
      go_wp2_with fail
      generalize (u12.alloc (.cells #[.int .i64 0, .int .i64 0, .slice G3 0 g3] 24)).alloc (.cells #[.int .i64 0, .int .i64 0, .int .i64 0] 3) = u13 at *
      refine (nmGive (cap := 3) (m := 3) (c := 20) RA.out rfl (by decide +kernel) (by decide)).mono ?_
      rintro e u14 ⟨G4, g4, rfl, hb⟩
      replace B := Lib.hid (B.out.trans (hb.mono B.out.size))
      replace RA := Lib.hid ((RA.out.below hb (Nat.le_refl _)).more hb.size)
      clear hb
      have hb : Below u14.heap.size u14 (u14.alloc (.cells #[.int .i64 0, .int .i64 0, .slice G4 0 g4] 24)) := (Below.refl _ _).alloc (Nat.le_refl _) _
      replace B := Lib.hid (B.out.trans (hb.mono B.out.size))
      replace RA := Lib.hid ((RA.out.below hb (Nat.le_refl _)).more hb.size)
      clear hb
      clear RA
      have P : Rd ((u14.alloc (.cells #[.int .i64 0, .int .i64 0, .slice G4 0 g4] 24)).alloc (.cells #[.int .i64 1, .int .i64 0, .int .i64 (-1)] 3)) ((u14.alloc (.cells #[.int .i64 0, .int .i64 0, .slice G4 0 g4] 24)).heap.size + 1) (some ⟨(u14.alloc (.cells #[.int .i64 0, .int .i64 0, .slice G4 0 g4] 24)).heap.size, 0, none⟩) [1, 0, -1] := newRd (w := (u14.alloc (.cells #[.int .i64 0, .int .i64 0, .slice G4 0 g4] 24))) (T := 3) (L := [1, 0, -1]) (by decide) (by decide)
      rw [show (u14.alloc (.cells #[.int .i64 0, .int .i64 0, .slice G4 0 g4] 24)).heap.size = u14.heap.size + 1 by simp] at P
      have hb : Below (u14.alloc (.cells #[.int .i64 0, .int .i64 0, .slice G4 0 g4] 24)).heap.size (u14.alloc (.cells #[.int .i64 0, .int .i64 0, .slice G4 0 g4] 24)) ((u14.alloc (.cells #[.int .i64 0, .int .i64 0, .slice G4 0 g4] 24)).alloc (.cells #[.int .i64 1, .int .i64 0, .int .i64 (-1)] 3)) := (Below.refl _ _).alloc (Nat.le_refl _) _
      replace B := Lib.hid (B.out.trans (hb.mono B.out.size))
      clear hb
      have RB : Hid (Rd ((u14.alloc (.cells #[.int .i64 0, .int .i64 0, .slice G4 0 g4] 24)).alloc (.cells #[.int .i64 1, .int .i64 0, .int .i64 (-1)] 3)) ((u14.alloc (.cells #[.int .i64 0, .int .i64 0, .slice G4 0 g4] 24)).alloc (.cells #[.int .i64 1, .int .i64 0, .int .i64 (-1)] 3)).heap.size (some ⟨u14.heap.size + 1, 0, none⟩) [1, 0, -1]) := Lib.hid (P.more (Nat.le_of_eq (by simp)))
      clear P
      go_wp2_with fail
      generalize (u14.alloc (.cells #[.int .i64 0, .int .i64 0, .slice G4 0 g4] 24)).alloc (.cells #[.int .i64 1, .int .i64 0, .int .i64 (-1)] 3) = u15 at *
      refine (nmGive (cap := 3) (m := 3) (c := 20) RB.out rfl (by decide +kernel) (by decide)).mono ?_
      rintro e u16 ⟨G5, g5, rfl, hb⟩
      replace B := Lib.hid (B.out.trans (hb.mono B.out.size))
      replace RB := Lib.hid ((RB.out.below hb (Nat.le_refl _)).more hb.size)
      clear hb
      have hb : Below u16.heap.size u16 (u16.alloc (.cells #[.int .i64 0, .int .i64 0, .slice G5 0 g5] 24)) := (Below.refl _ _).alloc (Nat.le_refl _) _
      replace B := Lib.hid (B.out.trans (hb.mono B.out.size))
      replace RB := Lib.hid ((RB.out.below hb (Nat.le_refl _)).more hb.size)
      clear hb
      clear RB
      have P : Rd ((u16.alloc (.cells #[.int .i64 0, .int .i64 0, .slice G5 0 g5] 24)).alloc (.cells #[.int .i64 0, .int .i64 0, .int .i64 0, .int .i64 0, .int .i64 (-1), .int .i64 0, .int .i64 0, .int .i64 0, .int .i64 (-1)] 3)) ((u16.alloc (.cells #[.int .i64 0, .int .i64 0, .slice G5 0 g5] 24)).heap.size + 1) (some ⟨(u16.alloc (.cells #[.int .i64 0, .int .i64 0, .slice G5 0 g5] 24)).heap.size, 0, none⟩) [0, 0, 0, 0, -1, 0, 0, 0, -1] := newRd (w := (u16.alloc (.cells #[.int .i64 0, .int .i64 0, .slice G5 0 g5] 24))) (T := 3) (L := [0, 0, 0, 0, -1, 0, 0, 0, -1]) (by decide) (by decide)
      rw [show (u16.alloc (.cells #[.int .i64 0, .int .i64 0, .slice G5 0 g5] 24)).heap.size = u16.heap.size + 1 by simp] at P
      have hb : Below (u16.alloc (.cells #[.int .i64 0, .int .i64 0, .slice G5 0 g5] 24)).heap.size (u16.alloc (.cells #[.int .i64 0, .int .i64 0, .slice G5 0 g5] 24)) ((u16.alloc (.cells #[.int .i64 0, .int .i64 0, .slice G5 0 g5] 24)).alloc (.cells #[.int .i64 0, .int .i64 0, .int .i64 0, .int .i64 0, .int .i64 (-1), .int .i64 0, .int .i64 0, .int .i64 0, .int .i64 (-1)] 3)) := (Below.refl _ _).alloc (Nat.le_refl _) _
      replace B := Lib.hid (B.out.trans (hb.mono B.out.size))
      clear hb
      have R27 : Hid (Rd ((u16.alloc (.cells #[.int .i64 0, .int .i64 0, .slice G5 0 g5] 24)).alloc (.cells #[.int .i64 0, .int .i64 0, .int .i64 0, .int .i64 0, .int .i64 (-1), .int .i64 0, .int .i64 0, .int .i64 0, .int .i64 (-1)] 3)) ((u16.alloc (.cells #[.int .i64 0, .int .i64 0, .slice G5 0 g5] 24)).alloc (.cells #[.int .i64 0, .int .i64 0, .int .i64 0, .int .i64 0, .int .i64 (-1), .int .i64 0, .int .i64 0, .int .i64 0, .int .i64 (-1)] 3)).heap.size (some ⟨u16.heap.size + 1, 0, none⟩) [0, 0, 0, 0, -1, 0, 0, 0, -1]) := Lib.hid (P.more (Nat.le_of_eq (by simp)))
      clear P
      have hn := three_cells (heap_alloc_new ((u16.alloc (.cells #[.int .i64 0, .int .i64 0, .slice G5 0 g5] 24)).alloc (.cells #[.int .i64 0, .int .i64 0, .int .i64 0, .int .i64 0, .int .i64 (-1), .int .i64 0, .int .i64 0, .int .i64 0, .int .i64 (-1)] 3)) (.cells #[.int .i64 3, .int .i64 3, .slice (some ⟨u16.heap.size + 1, 0, none⟩) 9 9] 24))
      rw [show ((u16.alloc (.cells #[.int .i64 0, .int .i64 0, .slice G5 0 g5] 24)).alloc (.cells #[.int .i64 0, .int .i64 0, .int .i64 0, .int .i64 0, .int .i64 (-1), .int .i64 0, .int .i64 0, .int .i64 0, .int .i64 (-1)] 3)).heap.size = u16.heap.size + 1 + 1 by simp] at hn
      have hb : Below ((u16.alloc (.cells #[.int .i64 0, .int .i64 0, .slice G5 0 g5] 24)).alloc (.cells #[.int .i64 0, .int .i64 0, .int .i64 0, .int .i64 0, .int .i64 (-1), .int .i64 0, .int .i64 0, .int .i64 0, .int .i64 (-1)] 3)).heap.size ((u16.alloc (.cells #[.int .i64 0, .int .i64 0, .slice G5 0 g5] 24)).alloc (.cells #[.int .i64 0, .int .i64 0, .int .i64 0, .int .i64 0, .int .i64 (-1), .int .i64 0, .int .i64 0, .int .i64 0, .int .i64 (-1)] 3)) (((u16.alloc (.cells #[.int .i64 0, .int .i64 0, .slice G5 0 g5] 24)).alloc (.cells #[.int .i64 0, .int .i64 0, .int .i64 0, .int .i64 0, .int .i64 (-1), .int .i64 0, .int .i64 0, .int .i64 0, .int .i64 (-1)] 3)).alloc (.cells #[.int .i64 3, .int .i64 3, .slice (some ⟨u16.heap.size + 1, 0, none⟩) 9 9] 24)) := (Below.refl _ _).alloc (Nat.le_refl _) _
      replace B := Lib.hid (B.out.trans (hb.mono B.out.size))
      replace R27 := Lib.hid ((R27.out.below hb (Nat.le_refl _)).more hb.size)
      clear hb
      have C27 := Lib.hid hn
      have C27z : Hid (u16.heap.size + 1 + 1 < (((u16.alloc (.cells #[.int .i64 0, .int .i64 0, .slice G5 0 g5] 24)).alloc (.cells #[.int .i64 0, .int .i64 0, .int .i64 0, .int .i64 0, .int .i64 (-1), .int .i64 0, .int .i64 0, .int .i64 0, .int .i64 (-1)] 3)).alloc (.cells #[.int .i64 3, .int .i64 3, .slice (some ⟨u16.heap.size + 1, 0, none⟩) 9 9] 24)).heap.size) := Lib.hid (by simp)
      clear hn
      obtain ⟨x0, x1, x2⟩ := C27.out
      go_wp2_with fail
      clear x0 x1 x2
      generalize ((u16.alloc (.cells #[.int .i64 0, .int .i64 0, .slice G5 0 g5] 24)).alloc (.cells #[.int .i64 0, .int .i64 0, .int .i64 0, .int .i64 0, .int .i64 (-1), .int .i64 0, .int .i64 0, .int .i64 0, .int .i64 (-1)] 3)).alloc (.cells #[.int .i64 3, .int .i64 3, .slice (some ⟨u16.heap.size + 1, 0, none⟩) 9 9] 24) = u17 at *
      refine (nmWalk (cap := 9) (m := 9) R27.out rfl nm_ring).mono ?_
      rintro e u18 ⟨A4, k4, rfl, hb⟩
      replace B := Lib.hid (B.out.trans (hb.mono B.out.size))
      replace R27 := Lib.hid ((R27.out.below hb (Nat.le_refl _)).more hb.size)
      replace C27 := Lib.hid (cells_below C27.out hb C27z.out)
      replace C27z := Lib.hid (Nat.lt_of_lt_of_le C27z.out hb.size)
      clear hb
      obtain ⟨x0, x1, x2⟩ := C27.out
      go_wp2_with fail
      clear x0 x1 x2
      refine (nmBoundary (cap := 9) (m := 9) (c := 0) (x := 16) R27.out rfl (by decide +kernel) (by decide +kernel)).mono ?_
      rintro e u19 ⟨rfl, hb⟩
      replace B := Lib.hid (B.out.trans (hb.mono B.out.size))
      replace R27 := Lib.hid ((R27.out.below hb (Nat.le_refl _)).more hb.size)
      replace C27 := Lib.hid (cells_below C27.out hb C27z.out)
      replace C27z := Lib.hid (Nat.lt_of_lt_of_le C27z.out hb.size)
      clear hb
      have P : Rd (u19.alloc (.cells #[.int .i64 0, .int .i64 0, .int .i64 0, .int .i64 0, .int .i64 (-1), .int .i64 0, .int .i64 0, .int .i64 0, .int .i64 0] 3)) (u19.heap.size + 1) (some ⟨u19.heap.size, 0, none⟩) [0, 0, 0, 0, -1, 0, 0, 0, 0] := newRd (w := u19) (T := 3) (L := [0, 0, 0, 0, -1, 0, 0, 0, 0]) (by decide) (by decide)
      have hb : Below u19.heap.size u19 (u19.alloc (.cells #[.int .i64 0, .int .i64 0, .int .i64 0, .int .i64 0, .int .i64 (-1), .int .i64 0, .int .i64 0, .int .i64 0, .int .i64 0] 3)) := (Below.refl _ _).alloc (Nat.le_refl _) _
      replace B := Lib.hid (B.out.trans (hb.mono B.out.size))
      replace R27 := Lib.hid ((R27.out.below hb (Nat.le_refl _)).more hb.size)
      replace C27 := Lib.hid (cells_below C27.out hb C27z.out)
      replace C27z := Lib.hid (Nat.lt_of_lt_of_le C27z.out hb.size)
      clear hb
      have R32 : Hid (Rd (u19.alloc (.cells #[.int .i64 0, .int .i64 0, .int .i64 0, .int .i64 0, .int .i64 (-1), .int .i64 0, .int .i64 0, .int .i64 0, .int .i64 0] 3)) (u19.alloc (.cells #[.int .i64 0, .int .i64 0, .int .i64 0, .int .i64 0, .int .i64 (-1), .int .i64 0, .int .i64 0, .int .i64 0, .int .i64 0] 3)).heap.size (some ⟨u19.heap.size, 0, none⟩) [0, 0, 0, 0, -1, 0, 0, 0, 0]) := Lib.hid (P.more (Nat.le_of_eq (by simp)))
      clear P
      have hn := three_cells (heap_alloc_new (u19.alloc (.cells #[.int .i64 0, .int .i64 0, .int .i64 0, .int .i64 0, .int .i64 (-1), .int .i64 0, .int .i64 0, .int .i64 0, .int .i64 0] 3)) (.cells #[.int .i64 3, .int .i64 3, .slice (some ⟨u19.heap.size, 0, none⟩) 9 9] 24))
      rw [show (u19.alloc (.cells #[.int .i64 0, .int .i64 0, .int .i64 0, .int .i64 0, .int .i64 (-1), .int .i64 0, .int .i64 0, .int .i64 0, .int .i64 0] 3)).heap.size = u19.heap.size + 1 by simp] at hn
      have hb : Below (u19.alloc (.cells #[.int .i64 0, .int .i64 0, .int .i64 0, .int .i64 0, .int .i64 (-1), .int .i64 0, .int .i64 0, .int .i64 0, .int .i64 0] 3)).heap.size (u19.alloc (.cells #[.int .i64 0, .int .i64 0, .int .i64 0, .int .i64 0, .int .i64 (-1), .int .i64 0, .int .i64 0, .int .i64 0, .int .i64 0] 3)) ((u19.alloc (.cells #[.int .i64 0, .int .i64 0, .int .i64 0, .int .i64 0, .int .i64 (-1), .int .i64 0, .int .i64 0, .int .i64 0, .int .i64 0] 3)).alloc (.cells #[.int .i64 3, .int .i64 3, .slice (some ⟨u19.heap.size, 0, none⟩) 9 9] 24)) := (Below.refl _ _).alloc (Nat.le_refl _) _
      replace B := Lib.hid (B.out.trans (hb.mono B.out.size))
      replace R27 := Lib.hid ((R27.out.below hb (Nat.le_refl _)).more hb.size)
      replace R32 := Lib.hid ((R32.out.below hb (Nat.le_refl _)).more hb.size)
      replace C27 := Lib.hid (cells_below C27.out hb C27z.out)
      replace C27z := Lib.hid (Nat.lt_of_lt_of_le C27z.out hb.size)
      clear hb
      have C32 := Lib.hid hn
      have C32z : Hid (u19.heap.size + 1 < ((u19.alloc (.cells #[.int .i64 0, .int .i64 0, .int .i64 0, .int .i64 0, .int .i64 (-1), .int .i64 0, .int .i64 0, .int .i64 0, .int .i64 0] 3)).alloc (.cells #[.int .i64 3, .int .i64 3, .slice (some ⟨u19.heap.size, 0, none⟩) 9 9] 24)).heap.size) := Lib.hid (by simp)
      clear hn
      obtain ⟨x0, x1, x2⟩ := C32.out
      go_wp2_with fail
      clear x0 x1 x2
      generalize (u19.alloc (.cells #[.int .i64 0, .int .i64 0, .int .i64 0, .int .i64 0, .int .i64 (-1), .int .i64 0, .int .i64 0, .int .i64 0, .int .i64 0] 3)).alloc (.cells #[.int .i64 3, .int .i64 3, .slice (some ⟨u19.heap.size, 0, none⟩) 9 9] 24) = u20 at *
      refine (nmWalk (cap := 9) (m := 9) R32.out rfl nm_shut).mono ?_
      rintro e u21 ⟨A5, k5, rfl, hb⟩
      replace B := Lib.hid (B.out.trans (hb.mono B.out.size))
      replace R27 := Lib.hid ((R27.out.below hb (Nat.le_refl _)).more hb.size)
      replace R32 := Lib.hid ((R32.out.below hb (Nat.le_refl _)).more hb.size)
      replace C27 := Lib.hid (cells_below C27.out hb C27z.out)
      replace C27z := Lib.hid (Nat.lt_of_lt_of_le C27z.out hb.size)
      replace C32 := Lib.hid (cells_below C32.out hb C32z.out)
      replace C32z := Lib.hid (Nat.lt_of_lt_of_le C32z.out hb.size)
      clear hb
      clear R32
      clear C32 C32z
      obtain ⟨x0, x1, x2⟩ := C27.out
      go_wp2_with fail
      clear x0 x1 x2
      refine (nmJoints (cap := 9) (m := 9) (c := 0) (n := 5) R27.out rfl (by decide +kernel) nm_joints rfl).mono ?_
      rintro e u22 ⟨A6, k6, rfl, hr, hb⟩
      replace B := Lib.hid (B.out.trans (hb.mono B.out.size))
      replace R27 := Lib.hid ((R27.out.below hb (Nat.le_refl _)).more hb.size)
      replace C27 := Lib.hid (cells_below C27.out hb C27z.out)
      replace C27z := Lib.hid (Nat.lt_of_lt_of_le C27z.out hb.size)
      clear hb
      have RJ := Lib.hid hr
      clear hr
      clear R27
      clear C27 C27z
      go_wp2_with fail
      refine (alive30 u22).mono ?_
      rintro e u23 ⟨rfl, hb⟩
      replace B := Lib.hid (B.out.trans (hb.mono B.out.size))
      replace RJ := Lib.hid ((RJ.out.below hb (Nat.le_refl _)).more hb.size)
      clear hb
      have P : Rd (u23.alloc (.cells #[.int .i64 0, .int .i64 1, .int .i64 2, .int .i64 3, .int .i64 6] 3)) (u23.heap.size + 1) (some ⟨u23.heap.size, 0, none⟩) [0, 1, 2, 3, 6] := newRd (w := u23) (T := 3) (L := [0, 1, 2, 3, 6]) (by decide) (by decide)
      have hb : Below u23.heap.size u23 (u23.alloc (.cells #[.int .i64 0, .int .i64 1, .int .i64 2, .int .i64 3, .int .i64 6] 3)) := (Below.refl _ _).alloc (Nat.le_refl _) _
      replace B := Lib.hid (B.out.trans (hb.mono B.out.size))
      replace RJ := Lib.hid ((RJ.out.below hb (Nat.le_refl _)).more hb.size)
      clear hb
      have RL : Hid (Rd (u23.alloc (.cells #[.int .i64 0, .int .i64 1, .int .i64 2, .int .i64 3, .int .i64 6] 3)) (u23.alloc (.cells #[.int .i64 0, .int .i64 1, .int .i64 2, .int .i64 3, .int .i64 6] 3)).heap.size (some ⟨u23.heap.size, 0, none⟩) [0, 1, 2, 3, 6]) := Lib.hid (P.more (Nat.le_of_eq (by simp)))
      clear P
      go_wp2_with fail
      generalize u23.alloc (.cells #[.int .i64 0, .int .i64 1, .int .i64 2, .int .i64 3, .int .i64 6] 3) = u24 at *
      refine (sameInts (cap := k6) (cap' := 5) RJ.out RL.out (Nat.le_refl _) (Nat.le_refl _)).mono ?_
      rintro e uz ⟨rfl, hb⟩
      rw [show decide (([0, 1, 2, 3, 6] : List Int) = [0, 1, 2, 3, 6]) = true by decide]
      replace B := Lib.hid (B.out.trans (hb.mono B.out.size))
      clear hb
      go_wp2
      go_ret
      exact ⟨rfl, B.out⟩
end Go.Proofs.Ytdkcpnmaglkmnaa
