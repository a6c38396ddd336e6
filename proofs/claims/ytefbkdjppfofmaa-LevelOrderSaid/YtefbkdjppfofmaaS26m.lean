import Derived.Test.YtefbkdjppfofmaaS26k
import Derived.Test.YtefbkdjppfofmaaW26i
import Derived.Test.YtefbkdjppfofmaaW26o
import Derived.Test.YtefbkdjppfofmaaW26z
import Derived.Test.YtefbkdjppfofmaaW26x
/-! Plain law: what the statements of chapter 26 say of the most even allocation. No statement about the program. -/
namespace Go.Proofs.Ytefbkdjppfofmaa
set_option linter.unusedVariables false
open Classical

section
variable {W : List (List Bool)} {m n : Nat} {a b : List Int}
theorem vw_chk (v : VW m n W) : chk26 W = 0 := by
  have hm := v.len
  have h6 := v.m6
  have h0 := v.m0
  have h10 := v.n10
  rw [chk26, if_neg, if_neg]
  · rintro (h | h)
    · rw [h] at hm; simp at hm; omega
    · rw [List.any_eq_true] at h
      obtain ⟨l, hl, h1⟩ := h
      rw [decide_eq_true_iff, v.row l hl, wrow_len v] at h1
      exact h1 rfl
  · rintro (h | h)
    · omega
    · rw [List.any_eq_true] at h
      obtain ⟨l, hl, h1⟩ := h
      rw [decide_eq_true_iff, v.row l hl] at h1
      omega
theorem lkd_ok (v : VW m n W) (h : fullB W a = true) : lkd26 W a = 0 := by
  rw [lkd26, if_neg (by simp [vw_chk v]), if_pos h]
theorem cnt_ok (v : VW m n W) (h : fullB W a = true) : cntF W a = cnts m a := by
  rw [cntF, if_pos (lkd_ok v h), v.len]; rfl
theorem cnts_pos (m : Nat) (a : List Int) : ((cnts m a).any fun x => decide (x < 0)) = false := by
  rw [List.any_eq_false]
  intro x hx
  rw [cnts, List.mem_map] at hx
  obtain ⟨i, _, rfl⟩ := hx
  have := cn_nonneg a i
  simp; omega
theorem more_ok (v : VW m n W) : moreE (cnts m a) (cnts m b) = 0 := by
  have := v.m6
  rw [moreE, cnts_length, cnts_length, if_neg (by omega), if_neg]
  rintro (h | h | h)
  · exact h rfl
  · rw [cnts_pos] at h; cases h
  · rw [cnts_pos] at h; cases h
theorem moreV_ok (v : VW m n W) : moreV (cnts m a) (cnts m b) = cmpS (cnts m a) (cnts m b) := by rw [moreV, if_pos (more_ok v)]
theorem chN_link (v : VW m n W) (a : List Int) : chN W a = chainN m (fun p q => linkK W a p q 0) a := by rw [chN, v.len]; rfl
theorem chC_six (v : VW m n W) (h : fullB W a = true) (hno : NoShort W m a 0) : chC W a = 6 := by
  rw [chC, if_pos (lkd_ok v h), if_pos]
  rw [chN_link v, chainN, show firstShort m (extL m (fun p q => linkK W a p q 0)) (shortB a) = none from hno]
  rfl
theorem chC_zero (v : VW m n W) (h : fullB W a = true) (hno : ¬ NoShort W m a 0) : chC W a = 0 := by
  rw [chC, if_pos (lkd_ok v h), if_neg]
  rw [chN_link v]
  exact fun h => hno (chainN_nil h)
theorem even_fullB (v : VW m n W) (h : EvenOk W m n b) : fullB W b = true := full_to v h.opt.full
theorem even_six (v : VW m n W) (h : EvenOk W m n b) : chC W b = 6 := chC_six v (even_fullB v h) (opt_noShort v.len h.opt 0)
/-- most even exactly if there is no short chain -/
theorem exact_cases (v : VW m n W) (hf : fullB W a = true) (h : EvenOk W m n b) : (moreV (cntF W a) (cntF W b) = 0 ∧ chC W a = 6) ∨ (moreV (cntF W a) (cntF W b) = -1 ∧ chC W a = 0) := by
  rw [cnt_ok v hf, cnt_ok v (even_fullB v h), moreV_ok v]
  have ha := full_of v hf
  have h1 := h.opt.best a ha
  rw [cmpS_swap] at h1
  by_cases hno : NoShort W m a 0
  · have ho := opt_of v.len hno ha
    have h2 := ho.best b h.opt.full
    exact .inl ⟨by omega, chC_six v hf hno⟩
  · refine .inr ⟨?_, chC_zero v hf hno⟩
    rcases cmpS_cases (cnts m a) (cnts m b) with h2 | h2 | h2
    · exact h2
    · exfalso
      have h3 := (cmpS_zero (by rw [cnts_length, cnts_length])).1 h2
      exact hno (opt_noShort v.len (opt_same h.opt ha h3) 0)
    · omega
theorem exact_more (v : VW m n W) (hf : fullB W a = true) (h : EvenOk W m n b) : moreE (cntF W a) (cntF W b) = 0 := by
  rw [cnt_ok v hf, cnt_ok v (even_fullB v h)]
  exact more_ok v
end
end Go.Proofs.Ytefbkdjppfofmaa
