import Derived.Test.YtdkcpnmaglkmnaaBase
/-! More small lemmas on worlds: rows with spare room, and append. No statement about the program. -/
namespace Go.Proofs.Ytdkcpnmaglkmnaa
open Go.RowKit
set_option linter.unusedVariables false

/-- block g (of the element type T, none of its cells frozen) begins with the integers L -/
def OwnP (w : World) (g T : Nat) (L : List Int) : Prop := ∃ cs, w.heap[g]? = some (.cells cs T (0, 0)) ∧ ∀ (i : Nat) (x : Int), L[i]? = some x → cs[i]? = some (.int .i64 x)
section
variable {w w' : World} {g T : Nat} {L : List Int}
theorem Own.pre (h : Own w g T L) : OwnP w g T L := ⟨_, h, fun i x hx => by simp [hx]⟩
theorem OwnP.lt (h : OwnP w g T L) : g < w.heap.size := by
  obtain ⟨cs, h, _⟩ := h
  rcases Nat.lt_or_ge g w.heap.size with hlt | hge
  · exact hlt
  · rw [Array.getElem?_eq_none hge] at h; cases h
theorem OwnP.cell (h : OwnP w g T L) {i : Nat} {x : Int} (hx : L[i]? = some x) : w.cell? ⟨g, i, none⟩ = some (.int .i64 x) := by
  obtain ⟨cs, h, hc⟩ := h
  rw [cell_of_row w g i _ T (0, 0) h]; exact hc i x hx
theorem OwnP.frozen (h : OwnP w g T L) (i : Nat) : w.frozen? ⟨g, i, none⟩ = false := by
  obtain ⟨cs, h, hc⟩ := h
  simp [World.frozen?, h]
theorem OwnP.drew (h : OwnP w g T L) : OwnP w.drew g T L := h
theorem OwnP.drewN (h : OwnP w g T L) (n : Nat) : OwnP (w.drewN n) g T L := h
theorem OwnP.alloc (h : OwnP w g T L) (o : Obj) : OwnP (w.alloc o) g T L := by
  have hl := h.lt
  obtain ⟨cs, h, hc⟩ := h
  exact ⟨cs, (Below.heap_alloc w o g hl).trans h, hc⟩
theorem OwnP.store (h : OwnP w g T L) (i : Nat) (x : Int) : OwnP (w.setCell ⟨g, i, none⟩ (.int .i64 x)) g T (L.set i x) := by
  obtain ⟨cs, h, hc⟩ := h
  refine ⟨cs.setIfInBounds i (.int .i64 x), by simp [World.setCell, Array.getElem?_modify, h], ?_⟩
  intro j y hy
  by_cases hj : j = i
  · subst hj
    have hjl : j < L.length := by
      have := (List.getElem?_eq_some_iff.1 hy).1
      simpa using this
    rw [List.getElem?_set_self hjl] at hy
    cases hy
    have h1 := hc j L[j] (by simp [hjl])
    have h2 : j < cs.size := by
      rcases Nat.lt_or_ge j cs.size with h3 | h3
      · exact h3
      · rw [Array.getElem?_eq_none h3] at h1; cases h1
    simp [h2]
  · rw [List.getElem?_set_ne (by omega)] at hy
    rw [Array.getElem?_setIfInBounds_ne (by omega)]
    exact hc j y hy
theorem OwnP.far (h : OwnP w g T L) {p : Addr} (hp : g ≠ p.block) (u : Value) : OwnP (w.setCell p u) g T L := by
  obtain ⟨cs, h, hc⟩ := h
  exact ⟨cs, (Below.heap_setCell w p u g hp).trans h, hc⟩
theorem OwnP.below {B : Nat} (h : OwnP w g T L) (hb : Below B w w') (hg : g < B) : OwnP w' g T L := by
  obtain ⟨cs, h, hc⟩ := h
  exact ⟨cs, (hb.block g hg).trans h, hc⟩
theorem OwnP.rd (h : OwnP w g T L) (hi : ∀ x ∈ L, I64 x) (hl : L.length * 8 ≤ 140737488351232) {B : Nat} (hg : g < B) : Rd w B (some ⟨g, 0, none⟩) L :=
  ⟨hi, hl, fun _ => ⟨g, 0, rfl, hg, fun i x hx => by rw [Nat.zero_add]; exact h.cell hx⟩⟩
theorem OwnP.take (h : OwnP w g T L) (n : Nat) : OwnP w g T (L.take n) := by
  obtain ⟨cs, h, hc⟩ := h
  refine ⟨cs, h, fun i x hx => hc i x ?_⟩
  rw [List.getElem?_take] at hx
  split at hx
  · exact hx
  · cases hx
end

/-- an empty literal owns nothing -/
theorem own_empty (w : World) (T : Nat) : (w.alloc (.cells #[] T)).ownsRow w.heap.size T 1 (.slice (some ⟨w.heap.size, 0, none⟩) 0 0) 0 [] :=
  ⟨rfl, .inr ⟨w.heap.size, 0, #[], rfl, Nat.le_refl _, heap_alloc_new w _, Nat.le_refl _, Nat.zero_le _, rfl, rfl⟩⟩
/-- what a row that append has left is good for -/
theorem ownP_of_row {w : World} {base T : Nat} {v : Value} {L : List Int} (h : w.ownsRow base T 1 v L.length (L.map (Value.int .i64))) (hn : 0 < L.length) :
    ∃ g cap, v = .slice (some ⟨g, 0, none⟩) L.length cap ∧ base ≤ g ∧ OwnP w g T L := by
  rcases h.2 with ⟨_, h0⟩ | ⟨g, cap, cur, rfl, hb, hh, hnc, hcm, hcs, htake⟩
  · omega
  · refine ⟨g, cap, rfl, hb, cur, hh, ?_⟩
    intro i x hx
    have h1 : (L.map (Value.int .i64))[i]? = some (.int .i64 x) := by simp [hx]
    rw [← htake, List.getElem?_take] at h1
    split at h1
    · simpa using h1
    · cases h1
theorem addr_add (b off i : Nat) : (⟨b, off, none⟩ : Addr).add i = ⟨b, off + i, none⟩ := by
  unfold Addr.add; split <;> simp_all
theorem cells_ints {w : World} {b off : Nat} {L : List Int} (h : ∀ (i : Nat) (x : Int), L[i]? = some x → w.cell? ⟨b, off + i, none⟩ = some (.int .i64 x)) :
    ∀ (j : Nat) (u : Value), (L.map (Value.int .i64))[j]? = some u → w.cell? ((⟨b, off, none⟩ : Addr).add j) = some u := by
  intro j u hu
  rw [addr_add]
  rw [List.getElem?_map] at hu
  cases hx : L[j]? with
  | none => rw [hx] at hu; cases hu
  | some x => rw [hx] at hu; cases hu; exact h j x hx
theorem own_row_nil (w : World) (base T : Nat) : w.ownsRow base T 1 (.slice none 0 0) 0 [] := World.ownsRow_nil _ _ _ _
end Go.Proofs.Ytdkcpnmaglkmnaa
