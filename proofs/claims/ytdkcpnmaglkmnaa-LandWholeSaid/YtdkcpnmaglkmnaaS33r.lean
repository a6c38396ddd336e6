import Derived.Test.YtdkcpnmaglkmnaaBase2
/-! Rows of the call's own. No statement about the program. -/
namespace Go.Proofs.Ytdkcpnmaglkmnaa
open Go.RowKit
set_option linter.unusedVariables false

theorem row_below {w w' : World} {base e size : Nat} {v : Value} {n : Nat} {xs : List Value} (h : w.ownsRow base e size v n xs) (hb : Below w.heap.size w w') : w'.ownsRow base e size v n xs := by
  refine ⟨h.1, ?_⟩
  rcases h.2 with h2 | ⟨g, cap, cur, hv, hg, hh, r⟩
  · exact .inl h2
  · have hlt : g < w.heap.size := by
      rcases Nat.lt_or_ge g w.heap.size with hlt | hge
      · exact hlt
      · rw [Array.getElem?_eq_none hge] at hh; cases hh
    exact .inr ⟨g, cap, cur, hv, hg, (hb.block g hlt).trans hh, r⟩
theorem row_slice {w : World} {base e size : Nat} {v : Value} {n : Nat} {xs : List Value} (h : w.ownsRow base e size v n xs) : ∃ A c, v = .slice A n c ∧ (∀ p, A = some p → base ≤ p.block) := by
  rcases h.2 with ⟨rfl, rfl⟩ | ⟨g, cap, cur, rfl, hg, _⟩
  · exact ⟨none, 0, rfl, by intro p h; cases h⟩
  · exact ⟨_, cap, rfl, by intro p h; cases h; exact hg⟩
theorem row_rd {w : World} {base T : Nat} {A : Option Addr} {c : Nat} {L : List Int} (h : w.ownsRow base T 1 (.slice A L.length c) L.length (L.map (Value.int .i64))) (hi : ∀ x ∈ L, I64 x) (hl : L.length * 8 ≤ 140737488351232) : Rd w w.heap.size A L := by
  by_cases h0 : L.length = 0
  · rw [List.length_eq_zero_iff] at h0
    subst h0
    exact Rd.nil _ _ _
  · obtain ⟨g, cap, e, hg, hP⟩ := ownP_of_row h (by omega)
    cases e
    exact hP.rd hi hl hP.lt
end Go.Proofs.Ytdkcpnmaglkmnaa
