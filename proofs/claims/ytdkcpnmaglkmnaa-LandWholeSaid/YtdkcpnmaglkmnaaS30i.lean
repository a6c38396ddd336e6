import Derived.Test.YtdkcpnmaglkmnaaS30h
import Derived.Test.YtdkcpnmaglkmnaaW30n
/-! Plain law: the search for a part. No statement about the program. -/
namespace Go.Proofs.Ytdkcpnmaglkmnaa
set_option linter.unusedVariables false

/-- numbers as integers -/
def ints (P : List Nat) : List Int := P.map fun k : Nat => (k : Int)
theorem ints_length (P : List Nat) : (ints P).length = P.length := List.length_map _
theorem ints_snoc (P : List Nat) (q : Nat) : ints (P ++ [q]) = ints P ++ [(q : Int)] := List.map_append
theorem ints_at {P : List Nat} {k p : Nat} (h : P[k]? = some p) : (ints P)[k]? = some (p : Int) := by simp [ints, h]
/-- what is left when the parts of the first i are taken out -/
def LeftOf (n : Nat) (E : Nat → Bool) (R : Nat → Nat → Bool) (i : Nat) (left : Nat → Bool) : Prop := ∀ q, q < n → (left q = true ↔ E q = true ∧ ∀ j, j < i → ¬ Con R j q)
/-- a part in the making -/
structure Bfs (n : Nat) (E : Nat → Bool) (R : Nat → Nat → Bool) (i : Nat) (P : List Nat) (left : Nat → Bool) : Prop where
  nd : P.Nodup
  con : ∀ p ∈ P, Con R i p
  self : i ∈ P
  lt : ∀ p ∈ P, p < n
  lf : ∀ q, q < n → (left q = true ↔ (E q = true ∧ ∀ j, j < i → ¬ Con R j q) ∧ q ∉ P)
/-- the neighbours of the first k are in it -/
def DoneTo (R : Nat → Nat → Bool) (P : List Nat) (k : Nat) : Prop := ∀ m p, m < k → P[m]? = some p → ∀ q, R p q = true → q ∈ P
section
variable {n : Nat} {E : Nat → Bool} {R : Nat → Nat → Bool} {i : Nat} {P : List Nat} {left : Nat → Bool}
theorem nodup_lacks : ∀ {P : List Nat}, P.Nodup → (∀ p ∈ P, p < n) → lacks n P + P.length ≤ n
  | [], _, _ => by have := lacks_le n []; simpa using this
  | p :: P, h, hlt => by
    have h1 := List.nodup_cons.1 h
    have ih := nodup_lacks h1.2 fun q hq => hlt q (List.mem_cons_of_mem _ hq)
    have hp := hlt p List.mem_cons_self
    have : lacks n (p :: P) < lacks n P := by
      refine sumN_lt (k := p) (fun k hk => ?_) hp ?_
      · by_cases hkP : k ∈ P
        · simp [one, hkP]
        · have e1 : one (!P.contains k) = 1 := by simp [one, hkP]
          rw [e1]
          exact one_le _
      · simp [one, h1.1]
    rw [List.length_cons]
    omega
theorem nodup_len {P : List Nat} (h : P.Nodup) (hlt : ∀ p ∈ P, p < n) : P.length ≤ n := by
  have := nodup_lacks h hlt
  omega
theorem Bfs.len (h : Bfs n E R i P left) : P.length ≤ n := nodup_len h.nd h.lt
theorem lead_of_left (h : LeftOf n E R i left) (hi : i < n) (hl : left i = true) (hsym : ∀ a b, R a b = true → R b a = true) : E i = true ∧ ∀ j, j < i → ¬ Con R i j := by
  obtain ⟨h1, h2⟩ := (h i hi).1 hl
  exact ⟨h1, fun j hj hc => h2 j hj (hc.symm hsym)⟩
theorem Bfs.start (h : LeftOf n E R i left) (hi : i < n) : Bfs n E R i [i] (fun q => if q = i then false else left q) where
  nd := by simp
  con := by intro p hp; rw [List.mem_singleton] at hp; subst hp; exact .refl
  self := by simp
  lt := by intro p hp; rw [List.mem_singleton] at hp; omega
  lf := by
    intro q hq
    by_cases hqi : q = i
    · simp [hqi]
    · simp only [hqi, if_false, List.mem_singleton, not_false_eq_true, and_true]
      exact h q hq
theorem Bfs.add (h : Bfs n E R i P left) {p q : Nat} (hp : p ∈ P) (hr : R p q = true) (hq : q < n) (hl : left q = true) : Bfs n E R i (P ++ [q]) (fun k => if k = q then false else left k) where
  nd := by
    rw [List.nodup_append]
    refine ⟨h.nd, by simp, ?_⟩
    intro a ha b hb
    rw [List.mem_singleton] at hb
    subst hb
    intro e
    subst e
    exact ((h.lf a hq).1 hl).2 ha
  con := by
    intro k hk
    rcases List.mem_append.1 hk with hk | hk
    · exact h.con k hk
    · rw [List.mem_singleton] at hk; subst hk; exact .step (h.con p hp) hr
  self := List.mem_append.2 (.inl h.self)
  lt := by
    intro k hk
    rcases List.mem_append.1 hk with hk | hk
    · exact h.lt k hk
    · rw [List.mem_singleton] at hk; omega
  lf := by
    intro k hk
    by_cases hkq : k = q
    · simp [hkq]
    · simp only [hkq, if_false, List.mem_append, List.mem_singleton, or_false]
      exact h.lf k hk
theorem Bfs.in_ (h : Bfs n E R i P left) (hlead : ∀ j, j < i → ¬ Con R i j) (hsym : ∀ a b, R a b = true → R b a = true) {p q : Nat} (hp : p ∈ P) (hr : R p q = true) (hE : E q = true) (hq : q < n) (hl : left q = false) : q ∈ P := by
  apply Classical.byContradiction
  intro hno
  have : left q = true := (h.lf q hq).2 ⟨⟨hE, fun j hj hc => hlead j hj ((Con.step (h.con p hp) hr).trans (hc.symm hsym))⟩, hno⟩
  rw [hl] at this
  cases this
theorem Bfs.all (h : Bfs n E R i P left) (hd : DoneTo R P P.length) (q : Nat) : q ∈ P ↔ Con R i q := by
  refine ⟨h.con q, fun hc => hc.closed (S := fun q => q ∈ P) (fun a b ha hr => ?_) h.self⟩
  obtain ⟨m, hm⟩ := List.getElem?_of_mem ha
  exact hd m a (List.getElem?_eq_some_iff.1 hm).1 hm b hr
theorem Bfs.left_next (h : Bfs n E R i P left) (hd : DoneTo R P P.length) : LeftOf n E R (i + 1) left := by
  intro q hq
  rw [h.lf q hq, h.all hd q, and_assoc]
  refine and_congr Iff.rfl ⟨fun ⟨h1, h2⟩ j hj => ?_, fun h1 => ⟨fun j hj => h1 j (by omega), h1 i (by omega)⟩⟩
  by_cases hji : j = i
  · subst hji; exact h2
  · exact h1 j (by omega)
theorem left_next_no (h : LeftOf n E R i left) (hi : i < n) (hl : left i = false) (hsym : ∀ a b, R a b = true → R b a = true) (hE : ∀ a b, R a b = true → E a = true) : LeftOf n E R (i + 1) left ∧ ¬ (E i = true ∧ ∀ j, j < i → ¬ Con R i j) := by
  have h0 : ¬ (E i = true ∧ ∀ j, j < i → ¬ Con R j i) := by
    intro hc
    have := (h i hi).2 hc
    rw [hl] at this
    cases this
  refine ⟨fun q hq => ?_, fun ⟨h1, h2⟩ => h0 ⟨h1, fun j hj hc => h2 j hj (hc.symm hsym)⟩⟩
  rw [h q hq]
  refine and_congr_right fun hEq => ⟨fun h1 j hj hc => ?_, fun h1 j hj => h1 j (by omega)⟩
  by_cases hji : j = i
  · subst hji
    apply h0
    rcases hc.inv0 with rfl | ⟨k, hk⟩
    · exact ⟨hEq, h1⟩
    · exact ⟨hE _ _ hk, fun j' hj' hc' => h1 j' hj' (hc'.trans hc)⟩
  · exact h1 j (by omega) hc
/-- in order it is the part -/
theorem Bfs.sorted (h : Bfs n E R i P left) (hd : DoneTo R P P.length) (hR : ∀ a b, R a b = true → b < n) (hi : i < n) : sortI (ints P) = ints (comp n R i) := by
  have hp : (ints P).Perm (ints (comp n R i)) := by
    refine List.Perm.map _ ?_
    rw [List.perm_ext_iff_of_nodup h.nd ((comp_sorted n R i).imp fun h => Nat.ne_of_lt h)]
    intro q
    rw [h.all hd, mem_comp hR hi]
  refine ((sortI_perm _).trans hp).eq_of_pairwise (fun a b _ _ h1 h2 => by omega) (sortI_sorted _) ?_
  exact List.Pairwise.map _ (fun a b hab => by omega) (comp_sorted n R i)
end
end Go.Proofs.Ytdkcpnmaglkmnaa
