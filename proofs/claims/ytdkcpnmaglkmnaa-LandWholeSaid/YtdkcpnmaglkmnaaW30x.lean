import Derived.Test.YtdkcpnmaglkmnaaLit
import Derived.Test.YtdkcpnmaglkmnaaW30r
import Derived.Test.YtdkcpnmaglkmnaaW30i
/-! The walk of the chapter's example of land. -/
namespace Go.Proofs.Ytdkcpnmaglkmnaa
open Go.RowKit Go.Deep
set_option linter.unusedVariables false
set_option maxRecDepth 100000

theorem newP {w : World} {T : Nat} {vs : List Value} {P : List (Int × Int)} (hl : vs.length = P.length * 2) (hv : ∀ i, i < P.length → vs[i * 2]? = some (.int .i64 (P.getD i (0, 0)).1) ∧ vs[i * 2 + 1]? = some (.int .i64 (P.getD i (0, 0)).2)) (hP : P.length ≤ 1000) :
    RdP (w.alloc (.cells vs.toArray T)) (w.heap.size + 1) (some ⟨w.heap.size, 0, none⟩) P := by
  refine ⟨by omega, fun hn => ⟨w.heap.size, 0, rfl, by omega, fun i L hi => ?_⟩⟩
  have hlt := (List.getElem?_eq_some_iff.1 hi).1
  obtain ⟨h1, h2⟩ := hv i hlt
  have hL : P.getD i (0, 0) = L := by rw [List.getD_eq_getElem?_getD, hi]; rfl
  rw [hL] at h1 h2
  refine ⟨?_, ?_⟩
  · rw [cell_of_row _ _ _ vs.toArray T (0, 0) (heap_alloc_new _ _)]
    simpa using h1
  · rw [cell_of_row _ _ _ vs.toArray T (0, 0) (heap_alloc_new _ _)]
    simpa [Nat.add_assoc] using h2
theorem three_cells {w : World} {g T : Nat} {a b c : Value} (h : w.heap[g]? = some (.cells #[a, b, c] T (0, 0))) : w.cell? ⟨g, 0, none⟩ = some a ∧ w.cell? ⟨g, 1, none⟩ = some b ∧ w.cell? ⟨g, 2, none⟩ = some c := by
  simp [World.cell?, h]
theorem cells_below {w w' : World} {g C : Nat} {x y z : Value} (h : w.cell? ⟨g, 0, none⟩ = some x ∧ w.cell? ⟨g, 1, none⟩ = some y ∧ w.cell? ⟨g, 2, none⟩ = some z) (hb : Below C w w') (hg : g < C) : w'.cell? ⟨g, 0, none⟩ = some x ∧ w'.cell? ⟨g, 1, none⟩ = some y ∧ w'.cell? ⟨g, 2, none⟩ = some z :=
  ⟨((bcell hb).1 _ _ hg).trans h.1, ((bcell hb).1 _ _ hg).trans h.2.1, ((bcell hb).1 _ _ hg).trans h.2.2⟩
theorem own_second (w : World) (X : Obj) (T : Nat) (L : List Int) : Own ((w.alloc X).alloc (.cells (L.map (Value.int .i64)).toArray T)) (w.heap.size + 1) T L := by
  have := heap_alloc_new (w.alloc X) (.cells (L.map (Value.int .i64)).toArray T)
  rw [show (w.alloc X).heap.size = w.heap.size + 1 by simp] at this
  exact this
set_option maxHeartbeats 1000000 in
theorem lExample (w : World) : Calls Try.prog 51 #[] w fun e w' => ∃ A, e = .returned (.agg #[.int .i64 3, .int .i64 1, .slice A 3 3]) ∧ Rd w' w'.heap.size A [0, 1, 0] ∧ Below w.heap.size w w' := by
  go_enter Try.func51, Try.ntmps51
  go_wp2
  have hal : Below w.heap.size w ((w.alloc (.cells #[.int .i64 3, .int .i64 1, .slice (some ⟨w.heap.size + 1, 0, none⟩) 3 3] 24)).alloc (.cells #[.int .i64 0, .int .i64 1, .int .i64 0] 3)) := ((Below.refl _ _).alloc (Nat.le_refl _) _).alloc (by simp) _
  have hh : ((w.alloc (.cells #[.int .i64 3, .int .i64 1, .slice (some ⟨w.heap.size + 1, 0, none⟩) 3 3] 24)).alloc (.cells #[.int .i64 0, .int .i64 1, .int .i64 0] 3)).heap[w.heap.size]? = some (.cells #[.int .i64 3, .int .i64 1, .slice (some ⟨w.heap.size + 1, 0, none⟩) 3 3] 24 (0, 0)) := (Below.heap_alloc _ _ _ (by simp)).trans (heap_alloc_new w _)
  have ho : Own ((w.alloc (.cells #[.int .i64 3, .int .i64 1, .slice (some ⟨w.heap.size + 1, 0, none⟩) 3 3] 24)).alloc (.cells #[.int .i64 0, .int .i64 1, .int .i64 0] 3)) (w.heap.size + 1) 3 [0, 1, 0] := own_second w _ 3 [0, 1, 0]
  generalize (w.alloc (.cells #[.int .i64 3, .int .i64 1, .slice (some ⟨w.heap.size + 1, 0, none⟩) 3 3] 24)).alloc (.cells #[.int .i64 0, .int .i64 1, .int .i64 0] 3) = wf at *
  have hR := ho.rd (fun x hx => by simp at hx; unfold I64; omega) (by simp) ho.lt
  exact bodyPost_ret (landCell rfl _ _ _ _ _ _ _ rfl hh) rfl ⟨some ⟨w.heap.size + 1, 0, none⟩, rfl, hR, hal⟩
end Go.Proofs.Ytdkcpnmaglkmnaa
