import Derived.Test.YtdkcpnmaglkmnaaS33r
import Derived.Test.YtdkcpnmaglkmnaaBase3
import Derived.Deep.AppendLies
import Derived.Maps.AppendAt
/-! Lists of slices in the making. No statement about the program. -/
namespace Go.Proofs.Ytdkcpnmaglkmnaa
open Go.RowKit
set_option linter.unusedVariables false

/-- the values vs are slices that read as the lists F -/
def VRows (w : World) (vs : List Value) (F : List (List Int)) : Prop :=
  vs.length = F.length ∧ ∀ (i : Nat) (L : List Int), F[i]? = some L → ∃ A c, vs[i]? = some (.slice A L.length c) ∧ Rd w w.heap.size A L
section
variable {w w' : World} {vs : List Value} {F : List (List Int)}
theorem VRows.nil (w : World) : VRows w [] [] := ⟨rfl, by simp⟩
theorem VRows.below (h : VRows w vs F) (hb : Below w.heap.size w w') : VRows w' vs F :=
  ⟨h.1, fun i L hi => by
    obtain ⟨A, c, h1, h2⟩ := h.2 i L hi
    exact ⟨A, c, h1, (h2.below hb (Nat.le_refl _)).more hb.size⟩⟩
theorem VRows.snoc (h : VRows w vs F) {A : Option Addr} {L : List Int} {c : Nat} (hr : Rd w w.heap.size A L) : VRows w (vs ++ [.slice A L.length c]) (F ++ [L]) := by
  refine ⟨by simp [h.1], fun i M hi => ?_⟩
  rcases Nat.lt_or_ge i F.length with hlt | hge
  · rw [List.getElem?_append_left hlt] at hi
    obtain ⟨A', c', h1, h2⟩ := h.2 i M hi
    exact ⟨A', c', by rw [List.getElem?_append_left (by rw [h.1]; exact hlt)]; exact h1, h2⟩
  · rw [List.getElem?_append_right hge] at hi
    have hi0 : i - F.length = 0 := by
      rcases Nat.eq_zero_or_pos (i - F.length) with h0 | h0
      · exact h0
      · rw [List.getElem?_eq_none (by simp; omega)] at hi; cases hi
    rw [hi0] at hi
    cases hi
    exact ⟨A, c, by rw [List.getElem?_append_right (by rw [h.1]; exact hge), h.1, hi0]; rfl, hr⟩
end
theorem Rd.keepA {w w' : World} {B C : Nat} {A : Option Addr} {L : List Int} (h : Rd w B A L) (hC : B ≤ C) (hk : ∀ p, A = some p → p.block < B → w'.heap[p.block]? = w.heap[p.block]?) : Rd w' C A L :=
  ⟨h.1, h.2.1, fun hn => by
    obtain ⟨b, off, e, hb, hc⟩ := h.2.2 hn
    exact ⟨b, off, e, by omega, fun i x hx => (World.cell?_of_block (w := w) (w' := w') (a := ⟨b, off + i, none⟩) (hk ⟨b, off, none⟩ e hb)).trans (hc i x hx)⟩⟩
/-- the same, none of them in the block of f -/
def VRowsN (w : World) (f : Value) (vs : List Value) (F : List (List Int)) : Prop :=
  vs.length = F.length ∧ ∀ (i : Nat) (L : List Int), F[i]? = some L → ∃ A c, vs[i]? = some (.slice A L.length c) ∧ Rd w w.heap.size A L ∧ (0 < L.length → ∀ p, A = some p → f.ownBlock ≠ some p.block)
section
variable {w w' : World} {f f' : Value} {vs : List Value} {F : List (List Int)}
theorem VRowsN.nil (w : World) (f : Value) : VRowsN w f [] [] := ⟨rfl, by simp⟩
theorem VRowsN.rows (h : VRowsN w f vs F) : VRows w vs F := ⟨h.1, fun i L hi => by
  obtain ⟨A, c, h1, h2, _⟩ := h.2 i L hi
  exact ⟨A, c, h1, h2⟩⟩
theorem VRowsN.below (h : VRowsN w f vs F) (hb : Below w.heap.size w w') : VRowsN w' f vs F :=
  ⟨h.1, fun i L hi => by
    obtain ⟨A, c, h1, h2, h3⟩ := h.2 i L hi
    exact ⟨A, c, h1, (h2.below hb (Nat.le_refl _)).more hb.size, h3⟩⟩
theorem VRowsN.snoc (h : VRowsN w f vs F) {A : Option Addr} {L : List Int} {c : Nat} (hr : Rd w w.heap.size A L) (hn : ∀ p, A = some p → f.ownBlock ≠ some p.block) : VRowsN w f (vs ++ [.slice A L.length c]) (F ++ [L]) := by
  refine ⟨by simp [h.1], fun i M hi => ?_⟩
  rcases Nat.lt_or_ge i F.length with hlt | hge
  · rw [List.getElem?_append_left hlt] at hi
    obtain ⟨A', c', h1, h2, h3⟩ := h.2 i M hi
    exact ⟨A', c', by rw [List.getElem?_append_left (by rw [h.1]; exact hlt)]; exact h1, h2, h3⟩
  · rw [List.getElem?_append_right hge] at hi
    have hi0 : i - F.length = 0 := by
      rcases Nat.eq_zero_or_pos (i - F.length) with h0 | h0
      · exact h0
      · rw [List.getElem?_eq_none (by simp; omega)] at hi; cases hi
    rw [hi0] at hi
    cases hi
    exact ⟨A, c, by rw [List.getElem?_append_right (by rw [h.1]; exact hge), h.1, hi0]; rfl, hr, fun _ => hn⟩
/-- behind an append onto f -/
theorem VRowsN.grown (h : VRowsN w f vs F) (hg : w.grownBy w' f.ownBlock) (hat : f'.ownBlock = f.ownBlock ∨ f'.ownBlock = some w.heap.size) : VRowsN w' f' vs F :=
  ⟨h.1, fun i L hi => by
    obtain ⟨A, c, h1, h2, h3⟩ := h.2 i L hi
    refine ⟨A, c, h1, ⟨h2.1, h2.2.1, fun h0 => ?_⟩, fun h0 p hp => ?_⟩
    · exact (h2.keepA hg.size (fun p hp hlt => hg.block _ hlt (Ne.symm (h3 h0 p hp)))).2.2 h0
    · obtain ⟨b, off, e, hb, _⟩ := h2.2.2 h0
      rw [e] at hp
      cases hp
      rcases hat with ha | ha
      · rw [ha]; exact h3 h0 _ e
      · rw [ha]; intro hh; injection hh with hh; simp at hh; omega⟩
end
/-- one cell in a new block -/
theorem new_one (w : World) (v : Value) (T : Nat) : ∀ (j : Nat) (u : Value), [v][j]? = some u → (w.alloc (.cells #[v] T)).cell? ((⟨w.heap.size, 0, none⟩ : Addr).add j) = some u := by
  intro j u hu
  rw [addr_add]
  cases j with
  | zero => simp at hu; subst hu; exact (cell_of_row _ _ 0 _ T (0, 0) (heap_alloc_new _ _)).trans rfl
  | succ j => simp at hu
theorem rd2_of_row {w : World} {base T : Nat} {A : Option Addr} {c : Nat} {F : List (List Int)} {vs : List Value}
    (ho : w.ownsRow base T 1 (.slice A F.length c) F.length vs) (hv : VRows w vs F) (hl : F.length * 24 ≤ 140737488351232) : Rd2 w w.heap.size A F := by
  refine ⟨hl, fun hn => ?_⟩
  obtain ⟨g, cap, e, _, hlt⟩ := ho.form hn
  cases e
  refine ⟨g, 0, rfl, hlt, fun i L hi => ?_⟩
  obtain ⟨A', c', h1, h2⟩ := hv.2 i L hi
  refine ⟨A', c', ?_, h2⟩
  have := ho.cells (g := g) rfl i _ h1
  rw [addr_add] at this
  rw [Nat.mul_one]
  exact this
/-- what comes out: lists, a list, an error -/
def RunRes (w : World) (r : Int × List (List Int) × List Int) (e : Ending) (w' : World) : Prop :=
  ∃ A c A' c', e = .returned (.tuple #[.slice A r.2.1.length c, .slice A' r.2.2.length c', .int .i64 r.1]) ∧ Rd2 w' w'.heap.size A r.2.1 ∧ Rd w' w'.heap.size A' r.2.2 ∧ Below w.heap.size w w'
end Go.Proofs.Ytdkcpnmaglkmnaa
