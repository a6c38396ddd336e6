import Derived.Test.YtdkcpnmaglkmnaaS30i
/-! Plain law: one step of the search, a way from a parcel. No statement about the program. -/
namespace Go.Proofs.Ytdkcpnmaglkmnaa
set_option linter.unusedVariables false

/-- the neighbours of p are in P, or beyond a way from j on -/
def WayTo (W H : Nat) (L : List Int) (a : Int) (p : Nat) (P : List Nat) (j : Nat) : Prop :=
  ∀ q, linkB W L a p q = true → q ∈ P ∨ ∃ j', j ≤ j' ∧ j' < 4 ∧ atL W H L (wayX W p j') (wayY W p j') = a ∧ wayN W p j' = q
section
variable {W H : Nat} {L : List Int} {a : Int} {p : Nat} {P : List Nat} {j i : Nat} {left : Nat → Bool}
theorem WayTo.start (v : VL W H L) : WayTo W H L a p P 0 := fun q hr => by
  obtain ⟨_, h2, h3⟩ := linkB_iff.1 hr
  obtain ⟨j, hj, h4, h5⟩ := way_of v h2 h3
  exact .inr ⟨j, by omega, hj, h4, h5⟩
theorem WayTo.skip (h : WayTo W H L a p P j) (hz : atL W H L (wayX W p j) (wayY W p j) ≠ a) : WayTo W H L a p P (j + 1) := fun q hr => by
  rcases h q hr with h1 | ⟨j', h1, h2, h3, h4⟩
  · exact .inl h1
  · by_cases hj : j' = j
    · subst hj; exact absurd h3 hz
    · exact .inr ⟨j', by omega, h2, h3, h4⟩
theorem WayTo.seen (h : WayTo W H L a p P j) {q : Nat} (hq : wayN W p j = q) (hin : q ∈ P) : WayTo W H L a p P (j + 1) := fun q' hr => by
  rcases h q' hr with h1 | ⟨j', h1, h2, h3, h4⟩
  · exact .inl h1
  · by_cases hj : j' = j
    · subst hj
      rw [hq] at h4
      have : q = q' := by exact_mod_cast h4
      rw [← this]
      exact .inl hin
    · exact .inr ⟨j', by omega, h2, h3, h4⟩
theorem WayTo.more (h : WayTo W H L a p P j) (q : Nat) : WayTo W H L a p (P ++ [q]) j := fun q' hr => by
  rcases h q' hr with h1 | h1
  · exact .inl (List.mem_append.2 (.inl h1))
  · exact .inr h1
theorem DoneTo.more {R : Nat → Nat → Bool} {m : Nat} (h : DoneTo R P m) (hm : m ≤ P.length) (q : Nat) : DoneTo R (P ++ [q]) m := fun k x hk hx q' hr => by
  rw [List.getElem?_append_left (by omega)] at hx
  exact List.mem_append.2 (.inl (h k x hk hx q' hr))
theorem DoneTo.next (h : DoneTo (linkB W L a) P j) (hp : P[j]? = some p) (hw : WayTo W H L a p P 4) : DoneTo (linkB W L a) P (j + 1) := fun k x hk hx q hr => by
  by_cases hkj : k = j
  · subst hkj
    rw [hp] at hx
    cases hx
    rcases hw q hr with h1 | ⟨j', h1, h2, _⟩
    · exact h1
    · omega
  · exact h k x (by omega) hx q hr
/-- a way that leads to one of a's parcels -/
theorem way_link (v : VL W H L) (ha : 0 ≤ a) (hj : j < 4) (hp : mineB L a p = true) (hz : atL W H L (wayX W p j) (wayY W p j) = a) : ∃ q : Nat, wayN W p j = q ∧ q < L.length ∧ mineB L a q = true ∧ linkB W L a p q = true := by
  obtain ⟨q, h1, h2, h3⟩ := way_hit v ha hj hz
  exact ⟨q, h1, mineB_lt h2, h2, linkB_iff.2 ⟨hp, h2, h3⟩⟩
end
end Go.Proofs.Ytdkcpnmaglkmnaa
