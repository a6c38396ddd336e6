import Derived.Test.YtefbkdjppfofmaaW26a
import Derived.Test.YtefbkdjppfofmaaS26b
/-! Walks of chapter 26: Check. -/
namespace Go.Proofs.Ytefbkdjppfofmaa
open Go.RowKit Go.Deep
set_option linter.unusedVariables false
set_option maxRecDepth 100000

theorem lChk1 {w : World} {A1 : Option Addr} {n c : Nat} : Calls Try.prog 51 #[.slice A1 n c] w fun e w' => e = .returned (.bool (decide (10 < n))) ∧ w = w' := by
  by_cases h : 10 < n
  all_goals
    go_enter Try.func51, Try.ntmps51
    go_wp2
    go_ret
    exact ⟨ret_bool (by simp; omega), rfl⟩
theorem lChk2 {w : World} {B : Nat} {A : Option Addr} {W : List (List Bool)} {cap g : Nat} (h : RdB2 w B A W) (h0 : 0 < W.length) (hg : w.cell? ⟨g, 0, none⟩ = some (.slice A W.length cap)) {A1 : Option Addr} {n c : Nat} :
    Calls Try.prog 52 #[.slice A1 n c, .pointer (some ⟨g, 0, none⟩)] w fun e w' => e = .returned (.bool (decide (n ≠ (W.getD 0 []).length))) ∧ w = w' := by
  obtain ⟨b, off, row, A2, c2, rfl, hb, hrow, hc, hrd⟩ := h.at_ h0
  have e : W.getD 0 [] = row := by rw [List.getD_eq_getElem?_getD, hrow]; rfl
  rw [e]
  rw [Nat.add_zero] at hc
  clear hrd hb hrow e h
  by_cases hn : n = row.length
  · have hb1 : ((n : Int) != (row.length : Int)) = false := by rw [hn]; simp
    have HN := Lib.hid hn
    clear hn
    go_enter Try.func52, Try.ntmps52
    go_wp2
    go_ret
    exact ⟨ret_bool (by simp [HN.out]), rfl⟩
  · have hb1 : ((n : Int) != (row.length : Int)) = true := by simp; omega
    have HN := Lib.hid hn
    clear hn
    go_enter Try.func52, Try.ntmps52
    go_wp2
    go_ret
    exact ⟨ret_bool (by simp [HN.out]), rfl⟩
set_option maxHeartbeats 1000000 in
theorem lCheck26 {w : World} {B : Nat} {A : Option Addr} {W : List (List Bool)} {cap : Nat} (h : RdB2 w B A W) (hB : B ≤ w.heap.size) :
    Calls Try.prog 26 #[.slice A W.length cap] w fun e w' => e = .returned (.int .i64 (chk26 W)) ∧ Below w.heap.size w w' := by
  have hlen := h.len
  have hal : Below w.heap.size w (w.alloc (.cells #[.slice A W.length cap] 22)) := (Below.refl _ _).alloc (Nat.le_refl _) _
  have hcl : (w.alloc (.cells #[.slice A W.length cap] 22)).cell? ⟨w.heap.size, 0, none⟩ = some (.slice A W.length cap) := by simp
  have hRA := h.below hal hB
  have C1 := containsRows (cap := cap) hRA 51 #[] (fun l => decide (10 < l.length)) (fun args u => by kernel_rfl) (fun A1 x c _ _ => by simpa using lChk1 (A1 := A1) (n := x.length) (c := c))
  by_cases h6 : 6 < W.length
  · have HR : Hid (chk26 W = 4) := Lib.hid (by rw [chk26, if_pos (.inl h6)])
    clear C1 hRA h
    go_enter Try.func26, Try.ntmps26
    go_wp2
    go_ret
    exact ⟨ret_int HR.out.symm, hal⟩
  · cases hany : W.any fun l => decide (10 < l.length)
    · rw [hany] at C1
      by_cases h0 : W = []
      · subst h0
        have HR : Hid (chk26 [] = 8) := Lib.hid (by decide)
        clear hRA h hany
        go_enter Try.func26, Try.ntmps26
        go_wp2_with (go_at_call 50; refine C1.mono ?_; rintro e w' ⟨rfl, rfl⟩)
        go_ret
        exact ⟨ret_int HR.out.symm, hal⟩
      · have h00 : 0 < W.length := List.length_pos_iff.2 h0
        have C2 := containsRows (cap := cap) hRA 52 #[.pointer (some ⟨w.heap.size, 0, none⟩)] (fun l => decide (l.length ≠ (W.getD 0 []).length)) (fun args u => by kernel_rfl) (fun A1 x c _ _ => by simpa using lChk2 hRA h00 hcl (A1 := A1) (n := x.length) (c := c))
        have HR : Hid (chk26 W = if (W.any fun l => decide (l.length ≠ (W.getD 0 []).length)) = true then 8 else 0) := Lib.hid (by
          rw [chk26, if_neg (by rintro (q | q); exact h6 q; rw [hany] at q; cases q)]
          by_cases hq : (W.any fun l => decide (l.length ≠ (W.getD 0 []).length)) = true
          · rw [if_pos hq, if_pos (.inr hq)]
          · rw [if_neg hq, if_neg (by rintro (q | q); exact h0 q; exact hq q)])
        have h0z : ((W.length : Int) == 0) = false := by simpa using h0
        cases hany2 : W.any fun l => decide (l.length ≠ (W.getD 0 []).length)
        all_goals
          rw [hany2] at C2 HR
          clear hany hany2 hRA h h0
          go_enter Try.func26, Try.ntmps26
          go_wp2_with (first | (go_at_call 50; with_reducible refine C1.mono ?_; rintro e w' ⟨rfl, rfl⟩) | (go_at_call 50; with_reducible refine C2.mono ?_; rintro e w' ⟨rfl, rfl⟩))
          go_ret
          exact ⟨ret_int HR.out.symm, hal⟩
    · rw [hany] at C1
      have HR : Hid (chk26 W = 4) := Lib.hid (by rw [chk26, if_pos (.inr hany)])
      clear hRA h hany
      go_enter Try.func26, Try.ntmps26
      go_wp2_with (go_at_call 50; refine C1.mono ?_; rintro e w' ⟨rfl, rfl⟩)
      go_ret
      exact ⟨ret_int HR.out.symm, hal⟩
end Go.Proofs.Ytefbkdjppfofmaa
