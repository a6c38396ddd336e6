import Derived.Test.YtefbkdjppfofmaaS26q
/-! Rows of bools that the program builds by append. No statement about the program. -/
namespace Go.Proofs.Ytefbkdjppfofmaa
open Go.RowKit
set_option linter.unusedVariables false

theorem bools_oneCell (L : List Bool) : ∀ u ∈ L.map Value.bool, u.oneCell' = true := by
  intro u hu
  obtain ⟨x, _, rfl⟩ := List.mem_map.1 hu
  rfl
theorem RdB.keepQ {w w' : World} {B C : Nat} {A : Option Addr} {L : List Bool} (h : RdB w B A L) (hC : B ≤ C) (hk : ∀ p, A = some p → 0 < L.length → p.block < B → w'.heap[p.block]? = w.heap[p.block]?) : RdB w' C A L :=
  ⟨h.1, fun hn => by
    obtain ⟨b, off, e, hb, hc⟩ := h.2 hn
    exact ⟨b, off, e, by omega, fun i x hx => (World.cell?_of_block (w := w) (w' := w') (a := ⟨b, off + i * 1, none⟩) (hk ⟨b, off, none⟩ e hn hb)).trans (hc i x hx)⟩⟩
/-- a built row of bools -/
theorem rdB_of_q {w : World} {base T : Nat} {v : Value} {L : List Bool} (h : QRow w base T v (L.map Value.bool)) (hl : L.length ≤ 100) :
    ∃ A c, v = .slice A L.length c ∧ RdB w w.heap.size A L ∧ ∀ p, A = some p → 0 < L.length → base ≤ p.block := by
  rcases h with ⟨h0, A, rfl, hA⟩ | ⟨g, off, cap, cur, rfl, hb, hh, h1, h2, h3, h4⟩
  · have : L = [] := by simpa using h0
    subst this
    exact ⟨A, 0, rfl, RdOf.nil _ _ _, fun p hp h => by simp at h⟩
  · refine ⟨_, cap, by rw [List.length_map], ⟨by omega, fun _ => ⟨g, off, rfl, heap_lt hh, fun i x hx => ?_⟩⟩, fun p hp _ => by cases hp; exact hb⟩
    show w.cell? _ = _
    rw [Nat.mul_one, cell_of_row w g _ cur T (0, 0) hh]
    exact h4 i _ (by rw [List.getElem?_map, hx]; rfl)
/-- the values vs are slices that read as the rows F, none in a block of X -/
def VB (w : World) (X : Nat → Prop) (vs : List Value) (F : List (List Bool)) : Prop :=
  vs.length = F.length ∧ ∀ (i : Nat) (L : List Bool), F[i]? = some L → ∃ A c, vs[i]? = some (.slice A L.length c) ∧ RdB w w.heap.size A L ∧ ∀ p, A = some p → 0 < L.length → ¬ X p.block
section
variable {w w' : World} {X Y : Nat → Prop} {vs us : List Value} {F G : List (List Bool)}
theorem VB.nil (w : World) (X : Nat → Prop) : VB w X [] [] := ⟨rfl, by simp⟩
theorem VB.keep (h : VB w X vs F) (hs : w.heap.size ≤ w'.heap.size) (hk : ∀ k, k < w.heap.size → ¬ X k → w'.heap[k]? = w.heap[k]?) (hY : ∀ k, k < w.heap.size → ¬ X k → ¬ Y k) : VB w' Y vs F :=
  ⟨h.1, fun i L hi => by
    obtain ⟨A, c, h1, h2, h3⟩ := h.2 i L hi
    refine ⟨A, c, h1, h2.keepQ hs (fun p hp h0 hlt => hk _ hlt (h3 p hp h0)), fun p hp h0 => ?_⟩
    obtain ⟨b, off, e, hb, _⟩ := h2.2 h0
    rw [hp] at e
    cases e
    exact hY b hb (h3 _ hp h0)⟩
theorem VB.below (h : VB w X vs F) (hb : Below w.heap.size w w') : VB w' X vs F := h.keep hb.size (fun k hk _ => hb.block k hk) fun k _ h => h
theorem VB.snoc (h : VB w X vs F) {A : Option Addr} {L : List Bool} {c : Nat} (hr : RdB w w.heap.size A L) (hn : ∀ p, A = some p → 0 < L.length → ¬ X p.block) : VB w X (vs ++ [.slice A L.length c]) (F ++ [L]) := by
  refine ⟨by simp [h.1], fun i M hi => ?_⟩
  rcases Nat.lt_or_ge i F.length with hlt | hge
  · rw [List.getElem?_append_left hlt] at hi
    obtain ⟨A', c', h1, h2⟩ := h.2 i M hi
    exact ⟨A', c', by rw [List.getElem?_append_left (by rw [h.1]; exact hlt)]; exact h1, h2⟩
  · rw [List.getElem?_append_right hge] at hi
    have hi0 : i - F.length = 0 := by
      rcases Nat.eq_zero_or_pos (i - F.length) with h0 | h0
      · exact h0
      · rw [List.getElem?_eq_none (by simp; omega)] at hi; cases hi
    rw [hi0] at hi
    cases hi
    exact ⟨A, c, by rw [List.getElem?_append_right (by rw [h.1]; exact hge), h.1, hi0]; rfl, hr, hn⟩
end
/-- the blocks of two slices -/
def X2 (tv uv : Value) (b : Nat) : Prop := tv.ownBlock = some b ∨ uv.ownBlock = some b
/-- two rows of rows that are being built -/
def TW (w : World) (base T : Nat) (tv uv : Value) (vs us : List Value) (F G : List (List Bool)) : Prop :=
  QRow w base T tv vs ∧ QRow w base T uv us ∧ (∀ q, tv.ownBlock = some q → uv.ownBlock ≠ some q) ∧ VB w (X2 tv uv) vs F ∧ VB w (X2 tv uv) us G
section
variable {w w' : World} {base T : Nat} {tv uv v' : Value} {vs us : List Value} {F G : List (List Bool)}
theorem TW.start (w : World) (base T : Nat) : TW w base T (.slice none 0 0) (.slice none 0 0) [] [] [] [] :=
  ⟨QRow.nil _ _ _, QRow.nil _ _ _, fun q h => by simp [Value.ownBlock] at h, VB.nil _ _, VB.nil _ _⟩
theorem TW.below (h : TW w base T tv uv vs us F G) (hb : Below w.heap.size w w') : TW w' base T tv uv vs us F G :=
  ⟨h.1.below hb, h.2.1.below hb, h.2.2.1, h.2.2.2.1.below hb, h.2.2.2.2.below hb⟩
theorem TW.sym (h : TW w base T tv uv vs us F G) : TW w base T uv tv us vs G F := by
  have e : X2 uv tv = X2 tv uv := by funext b; exact propext Or.comm
  refine ⟨h.2.1, h.1, fun q h1 h2 => h.2.2.1 q h2 h1, ?_, ?_⟩
  · rw [e]; exact h.2.2.2.2
  · rw [e]; exact h.2.2.2.1
/-- a row more -/
theorem TW.app (h : TW w base T tv uv vs us F G) {A : Option Addr} {L : List Bool} {c : Nat} (hr : RdB w w.heap.size A L) (hn : ∀ p, A = some p → 0 < L.length → ¬ X2 tv uv p.block)
    (hq : QRow w' base T v' (vs ++ [.slice A L.length c])) (hg : w.grownBy w' tv.ownBlock) (ho : v'.ownBlock = tv.ownBlock ∨ ∃ g, v'.ownBlock = some g ∧ w.heap.size ≤ g) :
    TW w' base T v' uv (vs ++ [.slice A L.length c]) us (F ++ [L]) G := by
  obtain ⟨h1, h2, h3, h4, h5⟩ := h
  have hY : ∀ k, k < w.heap.size → ¬ X2 tv uv k → ¬ X2 v' uv k := by
    intro k hk hx hy
    rcases hy with hy | hy
    · rcases ho with ho | ⟨g, ho, hgl⟩
      · exact hx (.inl (ho ▸ hy))
      · rw [ho] at hy; cases hy; omega
    · exact hx (.inr hy)
  have hK : ∀ k, k < w.heap.size → ¬ X2 tv uv k → w'.heap[k]? = w.heap[k]? := fun k hk hx => hg.block k hk fun e => hx (.inl e.symm)
  refine ⟨hq, h2.keep hg.size (fun q hq' => hg.block q (h2.own q hq').2 fun e => h3 q e.symm hq'), fun q hq' hu => ?_, (h4.snoc hr hn).keep hg.size hK hY, h5.keep hg.size hK hY⟩
  rcases ho with ho | ⟨g, ho, hgl⟩
  · exact h3 q (ho ▸ hq') hu
  · rw [ho] at hq'; cases hq'
    have := (h2.own q hu).2
    omega
/-- read -/
theorem TW.rd (h : TW w base T tv uv vs us F G) (h0 : 0 < F.length) (hF : F.length ≤ 100) : ∃ A c, tv = .slice A F.length c ∧ RdB2 w w.heap.size A F := by
  obtain ⟨h1, _, _, h4, _⟩ := h
  have hl := h4.1
  rcases h1 with ⟨he, _⟩ | ⟨g, off, cap, cur, rfl, hb, hh, _, _, _, h5⟩
  · rw [he] at hl; simp at hl; omega
  · refine ⟨_, cap, by rw [hl], ⟨by omega, fun _ => ⟨g, off, rfl, heap_lt hh, fun i L hi => ?_⟩⟩⟩
    obtain ⟨A, c, e1, e2, _⟩ := h4.2 i L hi
    exact ⟨A, c, by rw [Nat.mul_one, cell_of_row w g _ cur T (0, 0) hh]; exact h5 i _ e1, e2⟩
end
theorem newOf (w : World) (vs : Array Value) (T : Nat) : ∀ (j : Nat) (u : Value), vs.toList[j]? = some u → (w.alloc (.cells vs T)).cell? ((⟨w.heap.size, 0, none⟩ : Addr).add j) = some u := by
  intro j u hu
  rw [addr_add, cell_of_row _ _ _ vs T (0, 0) (heap_alloc_new _ _), Nat.zero_add]
  simpa using hu
end Go.Proofs.Ytefbkdjppfofmaa
