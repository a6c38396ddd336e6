import Derived.Test.YtdkcpnmaglkmnaaBase3
/-! Slices of literals. No statement about the program. -/
namespace Go.Proofs.Ytdkcpnmaglkmnaa
open Go.RowKit
set_option linter.unusedVariables false

theorem newRd {w : World} {T : Nat} {L : List Int} (hs : ∀ x ∈ L, -10000000 ≤ x ∧ x ≤ 10000000) (hl : L.length ≤ 40) :
    Rd (w.alloc (.cells (L.map (Value.int .i64)).toArray T)) (w.heap.size + 1) (some ⟨w.heap.size, 0, none⟩) L := by
  have ho : Own (w.alloc (.cells (L.map (Value.int .i64)).toArray T)) w.heap.size T L := heap_alloc_new w _
  exact ho.rd (fun x hx => by have := hs x hx; unfold I64; omega) (by omega) (by omega)
theorem newRd2 {w : World} {T : Nat} {vs : List Value} {F : List (List Int)} (hl : vs.length = F.length) (hv : ∀ i, i < F.length → ∃ A c, vs[i]? = some (.slice A (F.getD i []).length c) ∧ Rd w w.heap.size A (F.getD i [])) (hF : F.length ≤ 1000) :
    Rd2 (w.alloc (.cells vs.toArray T)) (w.heap.size + 1) (some ⟨w.heap.size, 0, none⟩) F := by
  refine ⟨by omega, fun hn => ⟨w.heap.size, 0, rfl, by omega, fun i L hi => ?_⟩⟩
  have hlt := (List.getElem?_eq_some_iff.1 hi).1
  obtain ⟨A, c, h1, h2⟩ := hv i hlt
  have hL : F.getD i [] = L := by rw [List.getD_eq_getElem?_getD, hi]; rfl
  rw [hL] at h1 h2
  refine ⟨A, c, ?_, ((h2.below ((Below.refl _ _).alloc (Nat.le_refl _) _) (Nat.le_refl _)).more (by omega))⟩
  rw [cell_of_row _ _ _ vs.toArray T (0, 0) (heap_alloc_new _ _)]
  simpa using h1
end Go.Proofs.Ytdkcpnmaglkmnaa
