import Derived.Test.YtefbkdjppfofmaaS26a
/-! Plain law: how many chains are left; how long a queue can be. No statement about the program. -/
namespace Go.Proofs.Ytefbkdjppfofmaa
set_option linter.unusedVariables false

/-- the chains of f levels from the level n on -/
def restQ (m : Nat) (ext : List Nat → List (List Nat)) : Nat → Nat → Nat
  | 0, n => 0
  | f + 1, n => (lvl m ext n).length + restQ m ext f (n + 1)
/-- what is left of a queue that stands at (n, i) -/
def leftQ (m : Nat) (ext : List Nat → List (List Nat)) (n i : Nat) : Nat := restQ m ext (m - n) n - i
section
variable {m : Nat} {ext : List Nat → List (List Nat)}
theorem restQ_ge {n : Nat} (h : n < m) : (lvl m ext n).length ≤ restQ m ext (m - n) n := by
  obtain ⟨d, hd⟩ : ∃ d, m - n = d + 1 := ⟨m - n - 1, by omega⟩
  rw [hd, restQ]; omega
theorem leftQ_step {n i : Nat} (h : n < m) (hi : i < (lvl m ext n).length) : leftQ m ext n (i + 1) < leftQ m ext n i := by
  have := restQ_ge (ext := ext) h
  unfold leftQ; omega
theorem leftQ_turn {n : Nat} (h : n < m) : leftQ m ext (n + 1) 0 = leftQ m ext n (lvl m ext n).length := by
  obtain ⟨d, hd⟩ : ∃ d, m - n = d + 1 := ⟨m - n - 1, by omega⟩
  unfold leftQ
  rw [hd, restQ, show m - (n + 1) = d by omega]; omega
theorem lvl_len (hm : m ≤ 6) (he : ∀ l, (ext l).length ≤ 6) : ∀ n, (lvl m ext n).length ≤ 6 ^ (n + 1)
  | 0 => by simp [lvl]; exact hm
  | n + 1 => by
    have ih := lvl_len hm he n
    have h : ∀ L : List (List Nat), (L.flatMap ext).length ≤ L.length * 6 := by
      intro L
      induction L with
      | nil => simp
      | cons x t iht =>
        rw [List.flatMap_cons, List.length_append, List.length_cons]
        have := he x
        omega
    have h1 := h (lvl m ext n)
    rw [← lvl_succ] at h1
    have h2 : 6 ^ (n + 1 + 1) = 6 ^ (n + 1) * 6 := Nat.pow_succ ..
    omega
end
theorem ext_len {m : Nat} {link : Nat → Nat → Bool} (hm : m ≤ 6) (l : List Nat) : (extL m link l).length ≤ 6 := by
  rw [extL, List.length_map]
  have := List.length_filter_le (fun k => !l.contains k && link (l.getLastD 0) k) (List.range m)
  rw [List.length_range] at this
  omega
theorem lvl_len6 {m : Nat} {link : Nat → Nat → Bool} (hm : m ≤ 6) (n : Nat) : (lvl m (extL m link) n).length ≤ 279936 := by
  rcases Nat.lt_or_ge n m with h | h
  · have h1 := lvl_len (ext := extL m link) hm (ext_len hm) n
    have h2 : 6 ^ (n + 1) ≤ 6 ^ 7 := Nat.pow_le_pow_right (by decide) (by omega)
    have h3 : 6 ^ 7 = 279936 := by decide
    omega
  · rw [lvl_none h]; simp
theorem Queue.len {m : Nat} {link : Nat → Nat → Bool} {short : List Nat → Bool} {n i : Nat} {Q : List (List Nat)} (hm : m ≤ 6) (h : Queue m (extL m link) short n i Q) : Q.length ≤ 559872 := by
  rw [h.eq, List.length_append, List.length_drop]
  have h1 := lvl_len6 (link := link) hm n
  have h2 := lvl_len6 (link := link) hm (n + 1)
  rw [lvl_succ] at h2
  have h3 : ((lvl m (extL m link) n).take i).flatMap (extL m link) <+: (lvl m (extL m link) n).flatMap (extL m link) := by
    refine ⟨((lvl m (extL m link) n).drop i).flatMap (extL m link), ?_⟩
    rw [← List.flatMap_append, List.take_append_drop]
  have := h3.length_le
  omega
/-- the state in which a round of the search begins -/
theorem Queue.ready {m : Nat} {link : Nat → Nat → Bool} {short : List Nat → Bool} {n i : Nat} {Q : List (List Nat)} (hn : n ≤ m) (h : Queue m (extL m link) short n i Q) :
    (Q = [] ∧ firstShort m (extL m link) short = none) ∨
    ∃ n' i' l R, n' < m ∧ Q = l :: R ∧ l ∈ lvl m (extL m link) n' ∧ (short l = true → firstShort m (extL m link) short = some l) ∧
      (short l = false → Queue m (extL m link) short n' (i' + 1) (R ++ extL m link l)) ∧ leftQ m (extL m link) n' (i' + 1) < leftQ m (extL m link) n i := by
  by_cases hi : i < (lvl m (extL m link) n).length
  · have hnm : n < m := by
      refine Nat.lt_of_not_le fun hc => ?_
      rw [lvl_none hc] at hi; simp at hi
    obtain ⟨l, R, hQ, hl, hs⟩ := h.take hi
    exact .inr ⟨n, i, l, R, hnm, hQ, List.mem_of_getElem? hl, fun hs1 => h.found hnm hl hs1, hs, leftQ_step hnm hi⟩
  · have : i = (lvl m (extL m link) n).length := by have := h.le; omega
    subst this
    have ht := h.turn
    by_cases h0 : 0 < (lvl m (extL m link) (n + 1)).length
    · have hnm : n + 1 < m := by
        refine Nat.lt_of_not_le fun hc => ?_
        rw [lvl_none hc] at h0; simp at h0
      obtain ⟨l, R, hQ, hl, hs⟩ := ht.take h0
      refine .inr ⟨n + 1, 0, l, R, hnm, hQ, List.mem_of_getElem? hl, fun hs1 => ht.found hnm hl hs1, hs, ?_⟩
      rw [← leftQ_turn (by omega)]
      exact leftQ_step hnm h0
    · have hnil : lvl m (extL m link) (n + 1) = [] := List.eq_nil_of_length_eq_zero (by omega)
      refine .inl ⟨?_, ht.done hnil⟩
      rw [ht.eq, hnil]; simp
end Go.Proofs.Ytefbkdjppfofmaa
