/-! Plain law: chains of agents level by level; the first short one; the queue. No statement about the program. -/
namespace Go.Proofs.Ytefbkdjppfofmaa
set_option linter.unusedVariables false

/-- the levels: lists with one number more each -/
def lvl (m : Nat) (ext : List Nat → List (List Nat)) : Nat → List (List Nat)
  | 0 => (List.range m).map fun i => [i]
  | n + 1 => (lvl m ext n).flatMap ext
/-- the extensions of a chain: the agents that are not on it and are linked to its last one -/
def extL (m : Nat) (link : Nat → Nat → Bool) (l : List Nat) : List (List Nat) :=
  ((List.range m).filter fun k => !l.contains k && link (l.getLastD 0) k).map fun k => l ++ [k]
theorem lvl_succ (m : Nat) (ext : List Nat → List (List Nat)) (n : Nat) : lvl m ext (n + 1) = (lvl m ext n).flatMap ext := rfl
theorem mem_ext {m : Nat} {link : Nat → Nat → Bool} {l x : List Nat} (h : x ∈ extL m link l) : ∃ k, k < m ∧ x = l ++ [k] ∧ k ∉ l ∧ link (l.getLastD 0) k = true := by
  rw [extL, List.mem_map] at h
  obtain ⟨k, hk, rfl⟩ := h
  obtain ⟨h1, h2⟩ := List.mem_filter.1 hk
  rw [Bool.and_eq_true] at h2
  refine ⟨k, List.mem_range.1 h1, rfl, ?_, h2.2⟩
  intro hc
  have := h2.1
  simp [hc] at this
/-- what a chain of the level n is -/
structure ChainOk (m n : Nat) (l : List Nat) : Prop where
  len : l.length = n + 1
  nd : l.Nodup
  lt : ∀ x ∈ l, x < m
theorem chain_ok {m : Nat} {link : Nat → Nat → Bool} : ∀ {n : Nat} {l : List Nat}, l ∈ lvl m (extL m link) n → ChainOk m n l
  | 0, l, h => by
    rw [lvl, List.mem_map] at h
    obtain ⟨i, hi, rfl⟩ := h
    exact ⟨rfl, by simp, fun x hx => by simp at hx; subst hx; exact List.mem_range.1 hi⟩
  | n + 1, l, h => by
    rw [lvl_succ, List.mem_flatMap] at h
    obtain ⟨p, hp, hl⟩ := h
    obtain ⟨k, hk, rfl, hnot, _⟩ := mem_ext hl
    have ih := chain_ok hp
    refine ⟨by rw [List.length_append, ih.len]; rfl, ?_, fun x hx => ?_⟩
    · rw [List.nodup_append]
      refine ⟨ih.nd, by simp, ?_⟩
      intro a ha b hb
      simp at hb
      subst hb
      rintro rfl
      exact hnot ha
    · rcases List.mem_append.1 hx with hx | hx
      · exact ih.lt x hx
      · simp at hx; subst hx; exact hk
/-- different numbers below m are not more than m -/
theorem nodup_le : ∀ {m : Nat} {l : List Nat}, l.Nodup → (∀ x ∈ l, x < m) → l.length ≤ m
  | 0, l, _, h => by
    cases l with
    | nil => simp
    | cons x t => exact absurd (h x (by simp)) (by omega)
  | m + 1, l, hn, h => by
    have h1 : (l.filter (fun x => decide (x ≠ m))).length ≤ m := nodup_le (hn.filter _) fun x hx => by
      obtain ⟨h2, h3⟩ := List.mem_filter.1 hx
      have := h x h2
      simp at h3
      omega
    have h2 : l.length ≤ (l.filter (fun x => decide (x ≠ m))).length + 1 := by
      clear h1 h
      induction l with
      | nil => simp
      | cons y t ih =>
        rw [List.nodup_cons] at hn
        by_cases hy : y = m
        · subst hy
          rw [List.filter_cons_of_neg (by simp)]
          have : t.filter (fun x => decide (x ≠ y)) = t := List.filter_eq_self.2 fun x hx => by
            simp
            rintro rfl
            exact hn.1 hx
          rw [this]; simp
        · rw [List.filter_cons_of_pos (by simpa using hy)]
          have := ih hn.2
          simp only [List.length_cons]
          omega
    omega
theorem lvl_none {m : Nat} {link : Nat → Nat → Bool} {n : Nat} (h : m ≤ n) : lvl m (extL m link) n = [] := by
  rw [List.eq_nil_iff_forall_not_mem]
  intro l hl
  have hc := chain_ok hl
  have := nodup_le hc.nd hc.lt
  have := hc.len
  omega
theorem lvl_nil_next {m : Nat} {ext : List Nat → List (List Nat)} {n : Nat} (h : lvl m ext n = []) : ∀ k, lvl m ext (n + k) = []
  | 0 => h
  | k + 1 => by rw [← Nat.add_assoc, lvl_succ, lvl_nil_next h k]; rfl
/-- the first short chain: level by level, in order -/
def firstShort (m : Nat) (ext : List Nat → List (List Nat)) (short : List Nat → Bool) : Option (List Nat) := (List.range m).findSome? fun n => (lvl m ext n).find? short
/-- the queue: what is left of the level n, then the extensions of what was taken of it -/
structure Queue (m : Nat) (ext : List Nat → List (List Nat)) (short : List Nat → Bool) (n i : Nat) (Q : List (List Nat)) : Prop where
  le : i ≤ (lvl m ext n).length
  eq : Q = (lvl m ext n).drop i ++ ((lvl m ext n).take i).flatMap ext
  old : ∀ k, k < n → ∀ l ∈ lvl m ext k, short l = false
  now : ∀ l ∈ (lvl m ext n).take i, short l = false
section
variable {m : Nat} {ext : List Nat → List (List Nat)} {short : List Nat → Bool} {n i : Nat} {Q : List (List Nat)}
theorem Queue.start : Queue m ext short 0 0 (lvl m ext 0) where
  le := by omega
  eq := by simp
  old := fun k hk => by omega
  now := fun l hl => by simp at hl
/-- a level that is through is the next level at its beginning -/
theorem Queue.turn (h : Queue m ext short n (lvl m ext n).length Q) : Queue m ext short (n + 1) 0 Q where
  le := by omega
  eq := by
    have := h.eq
    rw [List.drop_length, List.take_length, List.nil_append] at this
    rw [this, lvl_succ]; simp
  old := fun k hk l hl => by
    rcases Nat.lt_or_ge k n with hlt | hge
    · exact h.old k hlt l hl
    · have : k = n := by omega
      subst this
      exact h.now l (by rw [List.take_length]; exact hl)
  now := fun l hl => by simp at hl
/-- the queue always stands in a level that is not through, or is empty -/
theorem Queue.norm (h : Queue m ext short n i Q) : ∃ n' i', Queue m ext short n' i' Q ∧ (i' < (lvl m ext n').length ∨ (i' = 0 ∧ lvl m ext n' = [])) := by
  by_cases hi : i < (lvl m ext n).length
  · exact ⟨n, i, h, .inl hi⟩
  · have : i = (lvl m ext n).length := by have := h.le; omega
    subst this
    have ht := h.turn
    by_cases h0 : 0 < (lvl m ext (n + 1)).length
    · exact ⟨n + 1, 0, ht, .inl h0⟩
    · exact ⟨n + 1, 0, ht, .inr ⟨rfl, List.eq_nil_of_length_eq_zero (by omega)⟩⟩
/-- the next chain is taken, it is not short: its extensions come behind -/
theorem Queue.take (h : Queue m ext short n i Q) (hi : i < (lvl m ext n).length) : ∃ l R, Q = l :: R ∧ (lvl m ext n)[i]? = some l ∧ (short l = false → Queue m ext short n (i + 1) (R ++ ext l)) := by
  have hl : (lvl m ext n)[i]? = some (lvl m ext n)[i] := by simp [hi]
  refine ⟨(lvl m ext n)[i], (lvl m ext n).drop (i + 1) ++ ((lvl m ext n).take i).flatMap ext, ?_, hl, fun hs => ⟨by omega, ?_, h.old, ?_⟩⟩
  · rw [h.eq, List.drop_eq_getElem_cons hi, List.cons_append]
  · rw [List.take_add_one, hl, List.flatMap_append, List.append_assoc]
    simp
  · intro l hm
    rw [List.take_add_one, hl] at hm
    rcases List.mem_append.1 hm with hm | hm
    · exact h.now l hm
    · simp at hm; subst hm; exact hs
theorem find_none_of {P : List (List Nat)} (h : ∀ l ∈ P, short l = false) : P.find? short = none := by
  rw [List.find?_eq_none]
  intro l hl
  rw [h l hl]; simp
theorem firstShort_at (hn : n < m) (hold : ∀ k, k < n → ∀ l ∈ lvl m ext k, short l = false) : firstShort m ext short = ((List.range (m - n)).map (n + ·)).findSome? fun k => (lvl m ext k).find? short := by
  rw [firstShort]
  have e : List.range m = List.range n ++ (List.range (m - n)).map (n + ·) := by
    rw [← List.range_add]; congr 1; omega
  rw [e, List.findSome?_append]
  have : (List.range n).findSome? (fun k => (lvl m ext k).find? short) = none := by
    rw [List.findSome?_eq_none_iff]
    intro k hk
    exact find_none_of (hold k (List.mem_range.1 hk))
  rw [this]; rfl
/-- a short chain at the front is the first one -/
theorem Queue.found (h : Queue m ext short n i Q) (hn : n < m) {l : List Nat} (hl : (lvl m ext n)[i]? = some l) (hs : short l = true) : firstShort m ext short = some l := by
  rw [firstShort_at hn h.old]
  obtain ⟨d, hd⟩ : ∃ d, m - n = d + 1 := ⟨m - n - 1, by omega⟩
  rw [hd, List.range_succ_eq_map, List.map_cons, List.findSome?_cons, Nat.add_zero]
  have hf : (lvl m ext n).find? short = some l := by
    rw [← List.take_append_drop i (lvl m ext n), List.find?_append, find_none_of h.now]
    obtain ⟨hi, e⟩ := List.getElem?_eq_some_iff.1 hl
    rw [List.drop_eq_getElem_cons hi, e, List.find?_cons_of_pos hs]; rfl
  rw [hf]
/-- an empty queue: there is none -/
theorem Queue.done (h : Queue m ext short n 0 Q) (h0 : lvl m ext n = []) : firstShort m ext short = none := by
  rw [firstShort, List.findSome?_eq_none_iff]
  intro k hk
  rcases Nat.lt_or_ge k n with hlt | hge
  · exact find_none_of (h.old k hlt)
  · have := lvl_nil_next h0 (k - n)
    rw [show n + (k - n) = k by omega] at this
    rw [this]; rfl
end
end Go.Proofs.Ytefbkdjppfofmaa
