import Derived.Test.YtefbkdjppfofmaaBase3
import Derived.ArgAppend
import Derived.Deep.AppendLies
/-! A row whose beginning may have been cut off; append. No statement about the program. -/
namespace Go.Proofs.Ytefbkdjppfofmaa
open Go.RowKit
set_option linter.unusedVariables false

/-- the value v is a slice of elements of one cell each: the values vs, in a block of the type T from number base on, or without room at all -/
def QRow (w : World) (base T : Nat) (v : Value) (vs : List Value) : Prop :=
  (vs = [] ∧ ∃ A, v = .slice A 0 0 ∧ ∀ p, A = some p → base ≤ p.block ∧ p.block < w.heap.size) ∨
  ∃ g off cap cur, v = .slice (some ⟨g, off, none⟩) vs.length cap ∧ base ≤ g ∧ w.heap[g]? = some (.cells cur T (0, 0)) ∧ 0 < cap ∧ off + cap ≤ cur.size ∧ vs.length ≤ cap ∧ ∀ (i : Nat) (x : Value), vs[i]? = some x → cur[off + i]? = some x
section
variable {w w' : World} {base T : Nat} {v : Value} {vs : List Value}
theorem QRow.nil (w : World) (base T : Nat) : QRow w base T (.slice none 0 0) [] := .inl ⟨rfl, none, rfl, fun p h => by cases h⟩
theorem heap_lt {w : World} {g : Nat} {o : Obj} (h : w.heap[g]? = some o) : g < w.heap.size := by
  rcases Nat.lt_or_ge g w.heap.size with hlt | hge
  · exact hlt
  · rw [Array.getElem?_eq_none hge] at h; cases h
theorem QRow.own (h : QRow w base T v vs) : ∀ q, v.ownBlock = some q → base ≤ q ∧ q < w.heap.size := by
  intro q hq
  rcases h with ⟨_, A, rfl, hA⟩ | ⟨g, off, cap, cur, rfl, hb, hh, _⟩
  · cases A with
    | none => cases hq
    | some p => simp [Value.ownBlock] at hq; subst hq; exact hA p rfl
  · simp [Value.ownBlock] at hq; subst hq; exact ⟨hb, heap_lt hh⟩
theorem QRow.form (h : QRow w base T v vs) : ∃ A c, v = .slice A vs.length c := by
  rcases h with ⟨rfl, A, rfl, hA⟩ | ⟨g, off, cap, cur, rfl, hb, hh, _⟩
  · exact ⟨A, 0, rfl⟩
  · exact ⟨_, _, rfl⟩
/-- the relation looks at the block of v alone -/
theorem QRow.keep (h : QRow w base T v vs) (hs : w.heap.size ≤ w'.heap.size) (hk : ∀ q, v.ownBlock = some q → w'.heap[q]? = w.heap[q]?) : QRow w' base T v vs := by
  rcases h with ⟨rfl, A, rfl, hA⟩ | ⟨g, off, cap, cur, rfl, hb, hh, h1, h2, h3, h4⟩
  · exact .inl ⟨rfl, A, rfl, fun p hp => ⟨(hA p hp).1, by have := (hA p hp).2; omega⟩⟩
  · exact .inr ⟨g, off, cap, cur, rfl, hb, (hk g rfl).trans hh, h1, h2, h3, h4⟩
theorem QRow.below (h : QRow w base T v vs) (hb : Below w.heap.size w w') : QRow w' base T v vs := h.keep hb.size fun q hq => hb.block q (h.own q hq).2
/-- the first element -/
theorem QRow.head {x : Value} (h : QRow w base T v (x :: vs)) : ∃ g off cap, v = .slice (some ⟨g, off, none⟩) (vs.length + 1) cap ∧ base ≤ g ∧ g < w.heap.size ∧ vs.length + 1 ≤ cap ∧ w.cell? ⟨g, off, none⟩ = some x := by
  rcases h with ⟨h0, _⟩ | ⟨g, off, cap, cur, rfl, hb, hh, h1, h2, h3, h4⟩
  · cases h0
  · refine ⟨g, off, cap, rfl, hb, heap_lt hh, by simpa using h3, ?_⟩
    rw [cell_of_row w g off _ T (0, 0) hh]
    have := h4 0 x rfl
    rwa [Nat.add_zero] at this
/-- without the first element -/
theorem QRow.tail {x : Value} {g off cap : Nat} (h : QRow w base T (.slice (some ⟨g, off, none⟩) (vs.length + 1) cap) (x :: vs)) :
    QRow w base T (.slice (if cap = 1 then some ⟨g, off, none⟩ else some ⟨g, off + 1, none⟩) vs.length (cap - 1)) vs := by
  rcases h with ⟨h0, _⟩ | ⟨g', off', cap', cur, he, hb, hh, h1, h2, h3, h4⟩
  · cases h0
  · cases he
    have h3' : vs.length + 1 ≤ cap := by simpa using h3
    by_cases hc : cap = 1
    · subst hc
      obtain rfl : vs = [] := List.eq_nil_of_length_eq_zero (by omega)
      rw [if_pos rfl]
      exact .inl ⟨rfl, _, rfl, fun p hp => by cases hp; exact ⟨hb, heap_lt hh⟩⟩
    · rw [if_neg hc]
      refine .inr ⟨g, off + 1, cap - 1, cur, rfl, hb, hh, by omega, by omega, by omega, fun i y hy => ?_⟩
      have := h4 (i + 1) y (by simpa using hy)
      rw [show off + 1 + i = off + (i + 1) by omega]; exact this
end
theorem qrow_of_row {w : World} {base B T : Nat} {v : Value} {n : Nat} {vs : List Value} (h : w.ownsRow B T 1 v n vs) (hB : base ≤ B) : QRow w base T v vs ∧ ∀ q, v.ownBlock = some q → B ≤ q := by
  have hl : vs.length = n := by have := h.1; omega
  rcases h.2 with ⟨rfl, h0⟩ | ⟨g, cap, cur, rfl, hb, hh, hnc, hcm, hcs, htake⟩
  · obtain rfl : vs = [] := List.eq_nil_of_length_eq_zero (by omega)
    exact ⟨QRow.nil _ _ _, fun q hq => by cases hq⟩
  · refine ⟨?_, fun q hq => by simp [Value.ownBlock] at hq; omega⟩
    by_cases hc : cap = 0
    · subst hc
      obtain rfl : vs = [] := List.eq_nil_of_length_eq_zero (by omega)
      obtain rfl : n = 0 := by omega
      exact .inl ⟨rfl, _, rfl, fun p hp => by cases hp; exact ⟨by show base ≤ g; omega, heap_lt hh⟩⟩
    · refine .inr ⟨g, 0, cap, cur, by rw [hl], by omega, hh, by omega, by omega, by omega, fun i x hx => ?_⟩
      rw [← htake, List.getElem?_take] at hx
      split at hx
      · rw [Nat.zero_add]; simpa using hx
      · cases hx

/-- one cell in a new block -/
theorem newOne (w : World) (v : Value) (T : Nat) : ∀ (j : Nat) (u : Value), [v][j]? = some u → (w.alloc (.cells #[v] T)).cell? ((⟨w.heap.size, 0, none⟩ : Addr).add j) = some u := by
  intro j u hu
  rw [addr_add]
  cases j with
  | zero => simp at hu; subst hu; exact (cell_of_row _ _ 0 _ T (0, 0) (heap_alloc_new _ _)).trans rfl
  | succ j => simp at hu
theorem Rd.keepQ {w w' : World} {B C : Nat} {A : Option Addr} {L : List Int} (h : Rd w B A L) (hC : B ≤ C) (hk : ∀ p, A = some p → p.block < B → w'.heap[p.block]? = w.heap[p.block]?) : Rd w' C A L :=
  ⟨h.1, h.2.1, fun hn => by
    obtain ⟨b, off, e, hb, hc⟩ := h.2.2 hn
    exact ⟨b, off, e, by omega, fun i x hx => (World.cell?_of_block (w := w) (w' := w') (a := ⟨b, off + i, none⟩) (hk ⟨b, off, none⟩ e hb)).trans (hc i x hx)⟩⟩
/-- the values vs are slices that read as the lists F, none in a block of X -/
def VRowsX (w : World) (X : Nat → Prop) (vs : List Value) (F : List (List Int)) : Prop :=
  vs.length = F.length ∧ ∀ (i : Nat) (L : List Int), F[i]? = some L → 0 < L.length → ∃ b off c, vs[i]? = some (.slice (some ⟨b, off, none⟩) L.length c) ∧ Rd w w.heap.size (some ⟨b, off, none⟩) L ∧ ¬ X b ∧ L.length ≤ c
section
variable {w w' : World} {X Y : Nat → Prop} {vs : List Value} {F : List (List Int)}
theorem VRowsX.nil (w : World) (X : Nat → Prop) : VRowsX w X [] [] := ⟨rfl, by simp⟩
theorem VRowsX.keep (h : VRowsX w X vs F) (hs : w.heap.size ≤ w'.heap.size) (hk : ∀ k, k < w.heap.size → ¬ X k → w'.heap[k]? = w.heap[k]?) (hY : ∀ k, k < w.heap.size → ¬ X k → ¬ Y k) : VRowsX w' Y vs F :=
  ⟨h.1, fun i L hi h0 => by
    obtain ⟨b, off, c, h1, h2, h3, h4⟩ := h.2 i L hi h0
    obtain ⟨b', off', e, hb, _⟩ := h2.2.2 h0
    cases e
    exact ⟨b, off, c, h1, h2.keepQ hs (fun p hp hlt => by cases hp; exact hk b hlt h3), hY b hb h3, h4⟩⟩
theorem VRowsX.below (h : VRowsX w X vs F) (hb : Below w.heap.size w w') : VRowsX w' X vs F := h.keep hb.size (fun k hk _ => hb.block k hk) fun k _ h => h
theorem VRowsX.snoc (h : VRowsX w X vs F) {b off : Nat} {L : List Int} {c : Nat} (hr : Rd w w.heap.size (some ⟨b, off, none⟩) L) (hn : ¬ X b) (hcp : L.length ≤ c) : VRowsX w X (vs ++ [.slice (some ⟨b, off, none⟩) L.length c]) (F ++ [L]) := by
  refine ⟨by simp [h.1], fun i M hi h0 => ?_⟩
  rcases Nat.lt_or_ge i F.length with hlt | hge
  · rw [List.getElem?_append_left hlt] at hi
    obtain ⟨b', o', c', h1, h2⟩ := h.2 i M hi h0
    exact ⟨b', o', c', by rw [List.getElem?_append_left (by rw [h.1]; exact hlt)]; exact h1, h2⟩
  · rw [List.getElem?_append_right hge] at hi
    have hi0 : i - F.length = 0 := by
      rcases Nat.eq_zero_or_pos (i - F.length) with h0 | h0
      · exact h0
      · rw [List.getElem?_eq_none (by simp; omega)] at hi; cases hi
    rw [hi0] at hi
    cases hi
    exact ⟨b, off, c, by rw [List.getElem?_append_right (by rw [h.1]; exact hge), h.1, hi0]; rfl, hr, hn, hcp⟩
theorem VRowsX.cons {L : List Int} (h : VRowsX w X vs (L :: F)) (h0 : 0 < L.length) : ∃ b off c t, vs = .slice (some ⟨b, off, none⟩) L.length c :: t ∧ Rd w w.heap.size (some ⟨b, off, none⟩) L ∧ ¬ X b ∧ L.length ≤ c ∧ VRowsX w X t F := by
  obtain ⟨b, off, c, h1, h2, h3, h4⟩ := h.2 0 L rfl h0
  cases vs with
  | nil => cases h1
  | cons x t =>
    simp at h1
    subst h1
    refine ⟨b, off, c, t, rfl, h2, h3, h4, by have := h.1; simpa using this, fun i M hi hM => ?_⟩
    have := h.2 (i + 1) M (by simpa using hi) hM
    simpa using this
end

theorem row_cap {w : World} {base T n c : Nat} {A : Option Addr} {xs : List Value} (h : w.ownsRow base T 1 (.slice A n c) n xs) : n ≤ c := by
  rcases h.2 with ⟨h1, h2⟩ | ⟨g, cap, cur, hv, _, _, hnc, _⟩
  · omega
  · cases hv; exact hnc
/-- append of one element -/
theorem wpList_append_q {P : Program} (w : World) {ops : Array Oper} {rest : List Oper} {o : Oper} {a : Act} {Q : Exit → Act → World → Prop}
    (hg : o.guard = none) (s x : Operand) (t : TypeId) (hop : o.op = Op.call { callee := Callee.builtin Builtin.append, args := #[s, x], argTypes := #[t, t] })
    (e : TypeId) (i : TypeInfo) (z : Value) (bytes : Nat) (h1 : P.underlying t = some (.slice e)) (h2 : P.info? e = some i) (h3 : i.zero = some z) (h4 : i.size = 1) (h5 : i.bytes = bytes) (h6 : z.cells.size = 1)
    (base : Nat) (v : Value) (vs : List Value) (hs : a.eval s = v) (hq : QRow w base e v vs) (hbase : base ≤ w.heap.size)
    (ad : Addr) (c : Nat) (u : Value) (hx : a.eval x = .slice (some ad) 1 c) (hc : ∀ (j : Nat) (y : Value), [u][j]? = some y → w.cell? (ad.add j) = some y) (h1c : u.oneCell' = true)
    (b1 : vs.length + 1 ≤ maxLen) (b2 : (vs.length + 1) * bytes ≤ 140737488355328)
    (hK : ∀ v' w', QRow w' base e v' (vs ++ [u]) → w.grownBy w' v.ownBlock → (v'.ownBlock = v.ownBlock ∨ ∃ g, v'.ownBlock = some g ∧ w.heap.size ≤ g) → wpList P ops Q rest (a.put o.dst v') w') : wpList P ops Q (o :: rest) a w := by
  rcases hq with ⟨rfl, A, rfl, hA⟩ | ⟨g, off, cap, cur, rfl, hb, hh, h0, hoc, hvc, hcells⟩
  · refine wpList_append_grows w hg s x t hop e i z 1 bytes h1 h2 h3 h4 h5 h6 (by decide) A 0 0 [] hs (fun _ => ⟨rfl, rfl⟩) rfl (fun _ _ j y hy => by simp at hy) ad 1 c [u] hx rfl hc (by simpa using h1c) (by decide) (by simpa using b1) (by simpa using b2) ?_
    intro v' w' ho hgr
    obtain ⟨q1, q2⟩ := qrow_of_row (base := base) ho hbase
    refine hK v' w' (by simpa using q1) ⟨hgr.os, hgr.tape, hgr.output, hgr.size, fun k hk _ => hgr.block k hk (by simp)⟩ (.inr ?_)
    obtain ⟨g, cap, rfl, hg1, _⟩ := ho.form (by decide)
    exact ⟨g, rfl, hg1⟩
  · refine wpList_append_arg w hg s x t hop e i z 1 bytes h1 h2 h3 h4 h5 h6 (by decide) g off vs.length cap vs hs (by omega) (fun j y hy => (cell_of_row w g _ cur e (0, 0) hh).trans (hcells j y hy)) ad 1 c [u] hx rfl hc (by simpa using h1c)
      (fun hr j hj => ?_) b1 b2 (fun hr => ?_) (fun hr v' w' ho hgr => ?_)
    · have hj0 : j = 0 := by simp at hj; exact hj
      subst hj0
      refine ⟨?_, by simp [World.frozen?, hh]⟩
      rw [cell_of_row w g _ cur e (0, 0) hh, Array.getElem?_eq_getElem (by omega)]; rfl
    · refine hK _ _ ?_ ?_ (.inl rfl)
      · refine .inr ⟨g, off, cap, cur.setIfInBounds (off + vs.length * 1) u, by simp, hb, ?_, h0, by simpa using hoc, by simpa using hr, fun j y hy => ?_⟩
        · show (w.setCell ⟨g, off + vs.length * 1, none⟩ u).heap[g]? = _
          simp [World.setCell, Array.getElem?_modify, hh]
        · rcases Nat.lt_or_ge j vs.length with hlt | hge
          · rw [List.getElem?_append_left hlt] at hy
            rw [Array.getElem?_setIfInBounds_ne (by omega)]
            exact hcells j y hy
          · rw [List.getElem?_append_right hge] at hy
            have hj : j = vs.length := by
              rcases Nat.lt_or_ge vs.length j with h | h
              · rw [List.getElem?_eq_none (by simp; omega)] at hy; cases hy
              · omega
            subst hj
            rw [Nat.sub_self] at hy
            cases hy
            rw [Nat.mul_one, Array.getElem?_setIfInBounds_self_of_lt (by omega)]
      · refine ⟨rfl, rfl, rfl, by show w.heap.size ≤ (w.setCell ⟨g, off + vs.length * 1, none⟩ u).heap.size; simp [World.setCell], fun k hk hne => ?_⟩
        show (w.setCell ⟨g, off + vs.length * 1, none⟩ u).heap[k]? = _
        exact Below.heap_setCell w ⟨g, off + vs.length * 1, none⟩ u k (by intro hkg; apply hne; rw [hkg]; rfl)
    · obtain ⟨q1, q2⟩ := qrow_of_row (base := base) ho hbase
      refine hK v' w' q1 ⟨hgr.os, hgr.tape, hgr.output, hgr.size, fun k hk _ => hgr.block k hk (by simp)⟩ (.inr ?_)
      obtain ⟨g', cap', rfl, hg1, _⟩ := ho.form (by omega)
      exact ⟨g', rfl, hg1⟩
end Go.Proofs.Ytefbkdjppfofmaa
