import Derived.Test.YtjgobpejifhphaaW35v
import Derived.Test.YtjgobpejifhphaaCloneA
import Derived.RangeFuncCalls
/-! Walks of chapter 35: List.
-/
namespace Go.Proofs.Ytjgobpejifhphaa
open Go.RowKit Go.Deep
set_option linter.unusedVariables false
set_option maxRecDepth 100000
attribute [local go_sem] Oper.semAt_some

/-- what List holds when k rankings have been tried -/
structure LSt (w : World) (b12 gA cA T3 T22 : Nat) (vO vV : Value) (C a : Nat) (R : List (List Int)) (r : List Int × Int) (W : World) : Prop where
  below : Below w.heap.size w W
  size : b12 + 4 ≤ W.heap.size
  row : ∃ base us, W.ownsRow base T22 1 (.slice (some ⟨gA, 0, none⟩) R.length cA) R.length us ∧ us.length = R.length ∧ ∀ (j : Nat) (L : List Int), j ≠ a → R[j]? = some L → ∃ A1 c, us[j]? = some (.slice A1 L.length c) ∧ Rd w C A1 L
  c4 : W.cell? ⟨w.heap.size, 0, none⟩ = some vO
  c6 : W.cell? ⟨w.heap.size + 1, 0, none⟩ = some (.int .i64 (a : Int))
  c7 : W.cell? ⟨w.heap.size + 1 + 1, 0, none⟩ = some vV
  c12 : W.cell? ⟨b12, 0, none⟩ = some (.slice (some ⟨gA, 0, none⟩) R.length cA)
  best : ∃ A c, W.cell? ⟨b12 + 1, 0, none⟩ = some (.slice A r.1.length c) ∧ (0 < r.1.length → ∃ g, A = some ⟨g, 0, none⟩ ∧ b12 + 6 < g ∧ OwnP W g T3 r.1)
  f13 : W.frozen? ⟨b12 + 1, 0, none⟩ = false
  got : W.cell? ⟨b12 + 1 + 1, 0, none⟩ = some (.int .i64 r.2)
  f14 : W.frozen? ⟨b12 + 1 + 1, 0, none⟩ = false
theorem OwnP.grown {w w' : World} {g T : Nat} {L : List Int} {row : Option Nat} (h : OwnP w g T L) (hg : w.grownBy w' row) (hne : some g ≠ row) : OwnP w' g T L := by
  obtain ⟨cs, h1, h2⟩ := h
  exact ⟨cs, (hg.block g (heap_lt' h1) hne).trans h1, h2⟩
theorem frozen_of_block {w w' : World} {a : Addr} (h : w'.heap[a.block]? = w.heap[a.block]?) : w'.frozen? a = w.frozen? a := World.frozen?_of_block h
theorem LSt.turn {w : World} {b12 gA cA T3 T22 : Nat} {vO vV : Value} {C a : Nat} {R : List (List Int)} {rr : List Int × Int} {A B : World} {r : Nat}
    (h : LSt w b12 gA cA T3 T22 vO vV C a R rr A) (hg : A.grownBy B (some r)) (h1 : b12 + 4 ≤ r) (h2 : r ≤ b12 + 6) (hw : w.heap.size + 2 < gA) (hA : gA < b12) : LSt w b12 gA cA T3 T22 vO vV C a R rr B := by
  have hs := h.size
  have cell : ∀ (b : Nat) (v : Value), b < b12 + 4 → A.cell? ⟨b, 0, none⟩ = some v → B.cell? ⟨b, 0, none⟩ = some v := fun b v hb hc => hg.cell hc (by simp; omega)
  have fr : ∀ b, b < b12 + 4 → A.frozen? ⟨b, 0, none⟩ = false → B.frozen? ⟨b, 0, none⟩ = false := fun b hb hf => (frozen_of_block (a := ⟨b, 0, none⟩) (hg.block b (by omega) (by simp; omega))).trans hf
  refine ⟨?_, by have := hg.size; omega, ?_, cell _ _ (by omega) h.c4, cell _ _ (by omega) h.c6, cell _ _ (by omega) h.c7, cell _ _ (by omega) h.c12, ?_, fr _ (by omega) h.f13, cell _ _ (by omega) h.got, fr _ (by omega) h.f14⟩
  · exact h.below.grown hg h.below.size (fun q hq => by cases hq; omega)
  · obtain ⟨base, us, ho, hl, hr⟩ := h.row
    exact ⟨base, us, ho.kept hg (.inr (by simp [Value.ownBlock]; omega)), hl, hr⟩
  · obtain ⟨Ab, c, hc, hp⟩ := h.best
    refine ⟨Ab, c, cell _ _ (by omega) hc, fun h0 => ?_⟩
    obtain ⟨g, e, hgb, hP⟩ := hp h0
    exact ⟨g, e, hgb, hP.grown hg (by simp; omega)⟩
/-- a row of rows that reads as the rankings with another one -/
theorem rows_set {w W : World} {C a : Nat} {R : List (List Int)} {us : List Value} {x : List Int} {A : Option Addr} {c : Nat} (hl : us.length = R.length) (hr : ∀ (j : Nat) (L : List Int), j ≠ a → R[j]? = some L → ∃ A1 c, us[j]? = some (.slice A1 L.length c) ∧ Rd w C A1 L)
    (hb : Below w.heap.size w W) (hC : C ≤ w.heap.size) (hx : Rd W W.heap.size A x) (ha : a < R.length) : VRows W (us.set a (.slice A x.length c)) (R.set a x) := by
  refine ⟨by simp [hl], fun i L hi => ?_⟩
  by_cases hia : i = a
  · subst hia
    rw [List.getElem?_set_self ha] at hi
    cases hi
    exact ⟨A, c, by rw [List.getElem?_set_self (by omega)], hx⟩
  · rw [List.getElem?_set_ne (by omega)] at hi
    obtain ⟨A1, c1, h1, h2⟩ := hr i L hia hi
    exact ⟨A1, c1, by rw [List.getElem?_set_ne (by omega)]; exact h1, (h2.below hb hC).more (Nat.le_trans hC hb.size)⟩
theorem Rd.back {w w' : World} {B C : Nat} {A : Option Addr} {L : List Int} (h : Rd w' C A L) (hb : Below B w w') (hC : C ≤ B) : Rd w C A L :=
  ⟨h.1, h.2.1, fun hn => by
    obtain ⟨b, off, e, hlt, hc⟩ := h.2.2 hn
    exact ⟨b, off, e, hlt, fun i x hx => (hb.cell (p := ⟨b, off + i, none⟩) (by show b < B; omega)).symm.trans (hc i x hx)⟩⟩
/-- the ranking is laid into the rows; what has made memory alone comes behind it -/
theorem LSt.next {w : World} {b12 gA cA T3 T22 : Nat} {vO vV : Value} {C a : Nat} {R : List (List Int)} {rr : List Int × Int} {W W2 : World} {u : Value}
    (h : LSt w b12 gA cA T3 T22 vO vV C a R rr W) (hw : w.heap.size + 2 < gA) (hA : gA < b12) (hb : Below (W.setCell ⟨gA, a, none⟩ u).heap.size (W.setCell ⟨gA, a, none⟩ u) W2) : LSt w b12 gA cA T3 T22 vO vV C a R rr W2 := by
  have hs := h.size
  have hs1 : (W.setCell ⟨gA, a, none⟩ u).heap.size = W.heap.size := by simp [World.setCell]
  have blk : ∀ b, b < W.heap.size → b ≠ gA → W2.heap[b]? = W.heap[b]? := fun b hb1 hb2 => (hb.block b (by rw [hs1]; exact hb1)).trans (Below.heap_setCell W ⟨gA, a, none⟩ u b hb2)
  have cell : ∀ (b : Nat) (v : Value), b < b12 + 4 → b ≠ gA → W.cell? ⟨b, 0, none⟩ = some v → W2.cell? ⟨b, 0, none⟩ = some v := fun b v hb1 hb2 hc => (World.cell?_of_block (a := ⟨b, 0, none⟩) (blk b (by omega) hb2)).trans hc
  have fr : ∀ b, b < b12 + 4 → b ≠ gA → W.frozen? ⟨b, 0, none⟩ = false → W2.frozen? ⟨b, 0, none⟩ = false := fun b hb1 hb2 hf => (frozen_of_block (a := ⟨b, 0, none⟩) (blk b (by omega) hb2)).trans hf
  refine ⟨(h.below.setCell (p := ⟨gA, a, none⟩) (by show w.heap.size ≤ gA; omega) u).trans (hb.mono (by rw [hs1]; exact h.below.size)), by have := hb.size; omega, ?_, cell _ _ (by omega) (by omega) h.c4, cell _ _ (by omega) (by omega) h.c6, cell _ _ (by omega) (by omega) h.c7, cell _ _ (by omega) (by omega) h.c12, ?_, fr _ (by omega) (by omega) h.f13, cell _ _ (by omega) (by omega) h.got, fr _ (by omega) (by omega) h.f14⟩
  · obtain ⟨base, us, ho, hl, hr⟩ := h.row
    refine ⟨base, us.set a u, row_below (ho.stored a u).1 hb, by simp [hl], fun j L hj hL => ?_⟩
    obtain ⟨A1, c, h1, h2⟩ := hr j L hj hL
    exact ⟨A1, c, by rw [List.getElem?_set_ne (by omega)]; exact h1, h2⟩
  · obtain ⟨Ab, c, hc, hp⟩ := h.best
    refine ⟨Ab, c, cell _ _ (by omega) (by omega) hc, fun h0 => ?_⟩
    obtain ⟨g, e, hgb, hP⟩ := hp h0
    have hgl := hP.lt
    obtain ⟨cs, h1, h2⟩ := hP
    exact ⟨g, e, hgb, cs, (blk g hgl (by omega)).trans h1, h2⟩
/-- a better one is kept -/
theorem LSt.better {w : World} {b12 gA cA T3 T22 : Nat} {vO vV : Value} {C a : Nat} {R : List (List Int)} {rr : List Int × Int} {W W3 : World} {x : List Int} {n : Int} {A : Option Addr} {c : Nat}
    (h : LSt w b12 gA cA T3 T22 vO vV C a R rr W) (hw : w.heap.size + 2 < gA) (hA : gA < b12) (h6 : b12 + 6 < W.heap.size) (hb : Below W.heap.size W W3) (hp : 0 < x.length → ∃ g, A = some ⟨g, 0, none⟩ ∧ W.heap.size ≤ g ∧ OwnP W3 g T3 x) :
    LSt w b12 gA cA T3 T22 vO vV C a R (x, n) ((W3.setCell ⟨b12 + 1, 0, none⟩ (.slice A x.length c)).setCell ⟨b12 + 1 + 1, 0, none⟩ (.int .i64 n)) := by
  have hs := h.size
  have hs3 := hb.size
  have hbw := h.below.size
  have hz : ((W3.setCell ⟨b12 + 1, 0, none⟩ (.slice A x.length c)).setCell ⟨b12 + 1 + 1, 0, none⟩ (.int .i64 n)).heap.size = W3.heap.size := by simp [World.setCell]
  have blk3 : ∀ b, b ≠ b12 + 1 → b ≠ b12 + 1 + 1 → ((W3.setCell ⟨b12 + 1, 0, none⟩ (.slice A x.length c)).setCell ⟨b12 + 1 + 1, 0, none⟩ (.int .i64 n)).heap[b]? = W3.heap[b]? := fun b h1 h2 =>
    (Below.heap_setCell _ ⟨b12 + 1 + 1, 0, none⟩ _ b h2).trans (Below.heap_setCell _ ⟨b12 + 1, 0, none⟩ _ b h1)
  have blk : ∀ b, b < W.heap.size → b ≠ b12 + 1 → b ≠ b12 + 1 + 1 → ((W3.setCell ⟨b12 + 1, 0, none⟩ (.slice A x.length c)).setCell ⟨b12 + 1 + 1, 0, none⟩ (.int .i64 n)).heap[b]? = W.heap[b]? := fun b h0 h1 h2 => (blk3 b h1 h2).trans (hb.block b h0)
  have cell : ∀ (b : Nat) (v : Value), b < b12 + 1 → W.cell? ⟨b, 0, none⟩ = some v → ((W3.setCell ⟨b12 + 1, 0, none⟩ (.slice A x.length c)).setCell ⟨b12 + 1 + 1, 0, none⟩ (.int .i64 n)).cell? ⟨b, 0, none⟩ = some v := fun b v hb1 hc => (World.cell?_of_block (a := ⟨b, 0, none⟩) (blk b (by omega) (by omega) (by omega))).trans hc
  obtain ⟨Ab, cb, hcb, _⟩ := h.best
  have e13 : W3.cell? ⟨b12 + 1, 0, none⟩ = some (.slice Ab rr.1.length cb) := cell_kept hb (Nat.le_refl _) hcb
  have e14 : W3.cell? ⟨b12 + 1 + 1, 0, none⟩ = some (.int .i64 rr.2) := cell_kept hb (Nat.le_refl _) h.got
  have g13 : W3.frozen? ⟨b12 + 1, 0, none⟩ = false := (frozen_of_block (a := ⟨b12 + 1, 0, none⟩) (hb.block _ (by show b12 + 1 < _; omega))).trans h.f13
  have g14 : W3.frozen? ⟨b12 + 1 + 1, 0, none⟩ = false := (frozen_of_block (a := ⟨b12 + 1 + 1, 0, none⟩) (hb.block _ (by show b12 + 1 + 1 < _; omega))).trans h.f14
  refine ⟨((h.below.trans (hb.mono hbw)).setCell (p := ⟨b12 + 1, 0, none⟩) (by show w.heap.size ≤ b12 + 1; omega) _).setCell (p := ⟨b12 + 1 + 1, 0, none⟩) (by show w.heap.size ≤ b12 + 1 + 1; omega) _, by rw [hz]; omega, ?_, cell _ _ (by omega) h.c4, cell _ _ (by omega) h.c6, cell _ _ (by omega) h.c7, cell _ _ (by omega) h.c12, ?_, by rw [World.frozen?_setCell, World.frozen?_setCell]; exact g13, ?_, by rw [World.frozen?_setCell, World.frozen?_setCell]; exact g14⟩
  · obtain ⟨base, us, ho, hl, hr⟩ := h.row
    refine ⟨base, us, ?_, hl, hr⟩
    have h1 : W3.ownsRow base T22 1 (.slice (some ⟨gA, 0, none⟩) R.length cA) R.length us := row_below ho hb
    have h2 := h1.kept (grown_set W3 (b12 + 1) 0 (.slice A x.length c)) (.inr (by simp [Value.ownBlock]; omega))
    exact h2.kept (grown_set _ (b12 + 1 + 1) 0 (.int .i64 n)) (.inr (by simp [Value.ownBlock]; omega))
  · refine ⟨A, c, ?_, fun h0 => ?_⟩
    · rw [World.cell?_of_block (a := ⟨b12 + 1, 0, none⟩) (Below.heap_setCell _ ⟨b12 + 1 + 1, 0, none⟩ _ _ (by show b12 + 1 ≠ b12 + 1 + 1; omega))]
      exact World.cell?_setCell_same _ _ _ e13
    · obtain ⟨g, e, hg, hP⟩ := hp h0
      obtain ⟨cs, h1, h2⟩ := hP
      exact ⟨g, e, by omega, cs, (blk3 g (by omega) (by omega)).trans h1, h2⟩
  · have e14' : (W3.setCell ⟨b12 + 1, 0, none⟩ (.slice A x.length c)).cell? ⟨b12 + 1 + 1, 0, none⟩ = some (.int .i64 rr.2) :=
      (World.cell?_of_block (a := ⟨b12 + 1 + 1, 0, none⟩) (Below.heap_setCell _ ⟨b12 + 1, 0, none⟩ _ _ (by show b12 + 1 + 1 ≠ b12 + 1; omega))).trans e14
    exact World.cell?_setCell_same _ _ _ e14'
end Go.Proofs.Ytjgobpejifhphaa
