import Derived.Test.YtkoipecnmijfoaaM35a
/-! Literal lists and rows. -/
namespace Go.Proofs.Ytkoipecnmijfoaa
open Go.RowKit Go.Deep
set_option linter.unusedVariables false
set_option maxRecDepth 100000

theorem sizeA (w : World) (o : Obj) : (w.alloc o).heap.size = w.heap.size + 1 := by simp
def Sml (L : List Int) : Prop := (∀ x ∈ L, -10000000 ≤ x ∧ x ≤ 10000000) ∧ L.length ≤ 40
instance (L : List Int) : Decidable (Sml L) := inferInstanceAs (Decidable (_ ∧ _))
theorem litRd {w : World} {T : Nat} {L : List Int} (hs : Sml L) :
    Rd (w.alloc (.cells (L.map (Value.int .i64)).toArray T)) (w.heap.size + 1) (some ⟨w.heap.size, 0, none⟩) L := by
  have ho : Own (w.alloc (.cells (L.map (Value.int .i64)).toArray T)) w.heap.size T L := heap_alloc_new w _
  exact ho.rd (fun x hx => by have := hs.1 x hx; unfold I64; omega) (by have := hs.2; omega) (by omega)
/-- two lists, one after another -/
theorem lits2 (w : World) (L M : List Int) (T T' : Nat) (hL : Sml L) (hM : Sml M) (w2 : World) (h : (w.alloc (.cells (L.map (Value.int .i64)).toArray T)).alloc (.cells (M.map (Value.int .i64)).toArray T') = w2) :
    Below w.heap.size w w2 ∧ w2.heap.size = w.heap.size + 2 ∧ Rd w2 w2.heap.size (some ⟨w.heap.size, 0, none⟩) L ∧ Rd w2 w2.heap.size (some ⟨w.heap.size + 1, 0, none⟩) M := by
  have r1 := litRd (w := w) (T := T) hL
  have r2 := litRd (w := w.alloc (.cells (L.map (Value.int .i64)).toArray T)) (T := T') hM
  rw [sizeA] at r2
  have b1 := Below.alloc (B := w.heap.size + 1) (Below.refl _ (w.alloc (.cells (L.map (Value.int .i64)).toArray T))) (by rw [sizeA]; omega) (.cells (M.map (Value.int .i64)).toArray T')
  have hs : w2.heap.size = w.heap.size + 2 := by rw [← h, sizeA, sizeA]
  subst h
  exact ⟨((Below.refl _ _).alloc (Nat.le_refl _) _).alloc (by rw [sizeA]; omega) _, hs, (r1.below b1 (Nat.le_refl _)).more (by omega), r2.more (by omega)⟩
/-- a list of two lists -/
theorem rows2 (w : World) (L M : List Int) (T T' : Nat) (hL : Sml L) (hM : Sml M) (w3 : World)
    (h : ((w.alloc (.cells (L.map (Value.int .i64)).toArray T)).alloc (.cells (M.map (Value.int .i64)).toArray T)).alloc (.cells #[.slice (some ⟨w.heap.size, 0, none⟩) L.length L.length, .slice (some ⟨w.heap.size + 1, 0, none⟩) M.length M.length] T') = w3) :
    Below w.heap.size w w3 ∧ w3.heap.size = w.heap.size + 3 ∧ Rd2 w3 w3.heap.size (some ⟨w.heap.size + 1 + 1, 0, none⟩) [L, M] := by
  obtain ⟨b2, s2, r1, r2⟩ := lits2 w L M T T hL hM _ rfl
  generalize (w.alloc (.cells (L.map (Value.int .i64)).toArray T)).alloc (.cells (M.map (Value.int .i64)).toArray T) = w2 at *
  have b3 := Below.alloc (B := w2.heap.size) (Below.refl _ w2) (Nat.le_refl _) (.cells #[.slice (some ⟨w.heap.size, 0, none⟩) L.length L.length, .slice (some ⟨w.heap.size + 1, 0, none⟩) M.length M.length] T')
  have hh := heap_alloc_new w2 (.cells #[.slice (some ⟨w.heap.size, 0, none⟩) L.length L.length, .slice (some ⟨w.heap.size + 1, 0, none⟩) M.length M.length] T')
  have hs := sizeA w2 (.cells #[.slice (some ⟨w.heap.size, 0, none⟩) L.length L.length, .slice (some ⟨w.heap.size + 1, 0, none⟩) M.length M.length] T')
  rw [h] at b3 hh hs
  refine ⟨b2.trans (b3.mono b2.size), by omega, ⟨by simp, fun _ => ⟨w.heap.size + 1 + 1, 0, rfl, by omega, fun i x hx => ?_⟩⟩⟩
  have e1 := (r1.below b3 (Nat.le_refl _)).more b3.size
  have e2 := (r2.below b3 (Nat.le_refl _)).more b3.size
  rw [s2] at hh
  match i, hx with
  | 0, hx => cases hx; exact ⟨_, _, (cell_of_row _ _ 0 _ _ (0, 0) hh).trans rfl, e1⟩
  | 1, hx => cases hx; exact ⟨_, _, (cell_of_row _ _ 1 _ _ (0, 0) hh).trans rfl, e2⟩
  | i + 2, hx => simp at hx

end Go.Proofs.Ytkoipecnmijfoaa
