import Derived.Test.YtefbkdjppfofmaaS26m
/-! Plain law: least counts, squares, the least list. No statement about the program. -/
namespace Go.Proofs.Ytefbkdjppfofmaa
set_option linter.unusedVariables false
open Classical

def lowK (F : Nat → Int) : Nat → Int
  | 0 => 100
  | k + 1 => min (lowK F k) (F k)
theorem lowK_le {F : Nat → Int} {i : Nat} : ∀ {k : Nat}, i < k → lowK F k ≤ F i
  | k + 1, h => by
    simp only [lowK]
    rcases Nat.lt_or_ge i k with h1 | h1
    · have := lowK_le (F := F) h1; omega
    · have : i = k := by omega
      subst this; omega
theorem lowK_100 (F : Nat → Int) : ∀ k : Nat, lowK F k ≤ 100
  | 0 => by simp [lowK]
  | k + 1 => by have := lowK_100 F k; simp only [lowK]; omega
theorem le_lowK {F : Nat → Int} {t : Int} (h1 : t ≤ 100) : ∀ {k : Nat}, (∀ i, i < k → t ≤ F i) → t ≤ lowK F k
  | 0, _ => h1
  | k + 1, h => by
    have a1 := le_lowK h1 (k := k) fun i hi => h i (by omega)
    have a2 := h k (by omega)
    simp only [lowK]; omega
def sqK (F : Nat → Int) (k : Nat) : Int := sm (fun i => F i * F i) k
theorem sq_eq {c : Int} (h0 : 0 ≤ c) (h1 : c ≤ 10) : c * c = 2 * sm (fun s => max (c - (s : Int)) 0) 11 - c := by
  have h : c = 0 ∨ c = 1 ∨ c = 2 ∨ c = 3 ∨ c = 4 ∨ c = 5 ∨ c = 6 ∨ c = 7 ∨ c = 8 ∨ c = 9 ∨ c = 10 := by omega
  rcases h with h | h | h | h | h | h | h | h | h | h | h <;> subst h <;> decide
theorem sq_bd {c : Int} (h0 : 0 ≤ c) (h1 : c ≤ 10) : 0 ≤ c * c ∧ c * c ≤ 100 := by
  have h : c = 0 ∨ c = 1 ∨ c = 2 ∨ c = 3 ∨ c = 4 ∨ c = 5 ∨ c = 6 ∨ c = 7 ∨ c = 8 ∨ c = 9 ∨ c = 10 := by omega
  rcases h with h | h | h | h | h | h | h | h | h | h | h <;> subst h <;> decide
theorem sqK_bd {F : Nat → Int} (h : ∀ i, 0 ≤ F i ∧ F i ≤ 10) : ∀ k : Nat, 0 ≤ sqK F k ∧ sqK F k ≤ 100 * (k : Int)
  | 0 => by simp [sqK, sm]
  | k + 1 => by
    have h1 := sqK_bd h k
    have h2 := sq_bd (h k).1 (h k).2
    unfold sqK at h1 ⊢
    simp only [sm]; omega
theorem sm_mul2 (F : Nat → Int) : ∀ k : Nat, sm (fun i => 2 * F i) k = 2 * sm F k
  | 0 => by simp [sm]
  | k + 1 => by simp only [sm]; rw [sm_mul2 F k]; omega
theorem sq_meas {m : Nat} {a : List Int} (h10 : a.length ≤ 10) : sqK (cn a) m = 2 * meas m a - SL (cnts m a) := by
  have hb : ∀ i, 0 ≤ cn a i ∧ cn a i ≤ 10 := fun i => by
    have h1 := cn_nonneg a i
    have h2 := cntTo_le a i a.length
    unfold cn at h1 ⊢; omega
  have e : sqK (cn a) m = sm (fun i => 2 * sm (fun s => max (cn a i - (s : Int)) 0) 11 + -(cn a i)) m := sm_congr fun i _ => by
    rw [sq_eq (hb i).1 (hb i).2]; omega
  have e2 : meas m a = sm (fun i => sm (fun s => max (cn a i - (s : Int)) 0) 11) m := by
    rw [meas, sm_swap (fun i s => max (cn a i - (s : Int)) 0) m 11]
    exact sm_congr fun s _ => PL_map _ _ _
  have e3 : SL (cnts m a) = sm (cn a) m := SL_map _ _
  have e4 : sm (fun i => -(cn a i)) m = - sm (cn a) m := by
    have := sm_add (fun i => -(cn a i)) (cn a) m
    have h0 : sm (fun i => -(cn a i) + cn a i) m = 0 := by
      rw [← sm_zero m]; exact sm_congr fun i _ => by omega
    have h1 : sm (fun i => cn a i) m = sm (cn a) m := rfl
    omega
  rw [e, sm_add, sm_mul2, e2, e3, e4]; omega
section
variable {W : List (List Bool)} {m n : Nat} {a b : List Int}
theorem opt_PL (hm : W.length = m) (hb : Opt W m n b) (ha : FullA W m n a) (s : Int) (hs : 0 ≤ s) : PL s (cnts m b) ≤ PL s (cnts m a) :=
  major_P (opt_noShort hm hb 0) hb.full ha hm (fun g hg => by omega) s hs
theorem opt_SL (hm : W.length = m) (hb : FullA W m n b) (ha : FullA W m n a) : SL (cnts m b) = SL (cnts m a) := by
  have h1 := full_sum ha hm
  have h2 := full_sum hb hm
  exact h2.trans h1.symm
theorem least_sq (hm : W.length = m) (h10 : n ≤ 10) (hb : Opt W m n b) (ha : FullA W m n a) : sqK (cn b) m ≤ sqK (cn a) m := by
  have e1 := sq_meas (m := m) (a := a) (by rw [ha.len]; exact h10)
  have e2 := sq_meas (m := m) (a := b) (by rw [hb.full.len]; exact h10)
  have e3 := opt_SL hm hb.full ha
  have e4 : meas m b ≤ meas m a := sm_le fun s _ => opt_PL hm hb ha _ (by omega)
  omega
theorem QL_each {s : Int} : ∀ {L : List Int}, QL s L ≤ 0 → ∀ c ∈ L, s ≤ c
  | x :: t, h, c, hc => by
    have h1 := QL_nonneg s t
    simp only [QL] at h
    rcases List.mem_cons.1 hc with rfl | hc
    · omega
    · exact QL_each (by omega) c hc
theorem least_low (hm : W.length = m) (hb : Opt W m n b) (ha : FullA W m n a) : lowK (cn a) m ≤ lowK (cn b) m := by
  refine le_lowK (lowK_100 _ _) fun i hi => ?_
  have h0 : 0 ≤ lowK (cn a) m := le_lowK (by decide) fun i _ => cn_nonneg a i
  have h1 : QL (lowK (cn a) m) (cnts m a) = 0 := QL_zero _ fun c hc => by
    rw [cnts, List.mem_map] at hc
    obtain ⟨j, hj, rfl⟩ := hc
    exact lowK_le (List.mem_range.1 hj)
  have h2 := opt_PL hm hb ha (lowK (cn a) m) h0
  have h3 := opt_SL hm hb.full ha
  have h4 : QL (lowK (cn a) m) (cnts m b) ≤ 0 := by
    have e1 := QL_eq (lowK (cn a) m) (cnts m b)
    have e2 := QL_eq (lowK (cn a) m) (cnts m a)
    rw [cnts_length] at e1 e2
    omega
  exact QL_each h4 _ (by rw [cnts, List.mem_map]; exact ⟨i, List.mem_range.2 hi, rfl⟩)
theorem least_lex (hb : EvenOk W m n b) (ha : FullA W m n a) (he : cmpS (cnts m a) (cnts m b) = 0) {k : Nat} (hk : k < n) (hs : ∀ j, j < k → a.getD j 0 = b.getD j 0) : b.getD k 0 ≤ a.getD k 0 := by
  have hab := opt_same hb.opt ha ((cmpS_zero (by rw [cnts_length, cnts_length])).1 he)
  rcases hb.lex a hab with h | ⟨j, hj, h1, h2⟩
  · exact Int.le_of_eq (h k hk)
  · rcases Nat.lt_trichotomy j k with h | h | h
    · have := hs j h; omega
    · subst h; omega
    · exact Int.le_of_eq (h1 k h)
end
end Go.Proofs.Ytefbkdjppfofmaa
