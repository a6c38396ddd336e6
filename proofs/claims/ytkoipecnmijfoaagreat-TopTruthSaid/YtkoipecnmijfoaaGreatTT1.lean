import Derived.Test.YtkoipecnmijfoaaGreatTE5
import Derived.Test.YtkoipecnmijfoaaGreatS34dM
import Derived.Test.YtkoipecnmijfoaaGreatS35f
/-! Plain law: two equal partners, two heirs; the buyer's truth. No statement about the program. -/
namespace Go.Proofs.YtkoipecnmijfoaaGreat
set_option linter.unusedVariables false

theorem unit_eq (s : Int) : unitE s = (s * s) * 4 := by
  unfold unitE
  rw [Int.add_mul, Int.mul_add]
  omega
theorem eOne_eq {s x y : Int} : eOne s x y = if x < y then (s * s) * (x + y) else (s * s) * (-(x + y)) := by
  unfold eOne exE poolE wOne wTwo
  have e1 : (s + s) * y = s * y + s * y := Int.add_mul _ _ _
  have e2 : (s + s) * x = s * x + s * x := Int.add_mul _ _ _
  split
  · rw [Int.mul_zero, Int.sub_zero, Int.zero_add, e1, Int.mul_assoc, Int.mul_add s x y]
    generalize s * x = a
    generalize s * y = b
    rw [Int.add_mul, show b + b - (a + b) = b - a by omega, Int.mul_add, Int.mul_sub]
    omega
  · rw [Int.add_zero, e2, Int.mul_assoc, Int.mul_neg, Int.mul_neg, Int.mul_add s x y]
    generalize s * x = a
    generalize s * y = b
    rw [show a - (a + a) = -a by omega, show a + a - (a + b) = a - b by omega, Int.mul_neg, Int.add_mul, Int.mul_sub, Int.mul_add]
    omega
theorem eOne_div {s x y : Int} (hs : 1 ≤ s) : eOne s x y / unitE s = if x < y then (x + y) / 4 else (-(x + y)) / 4 := by
  have hp : 0 < s * s := Int.mul_pos (by omega) (by omega)
  rw [eOne_eq, unit_eq]
  split <;> exact Int.mul_ediv_mul_of_pos _ _ hp
theorem eTwo_div {s x y : Int} (hs : 1 ≤ s) : eTwo s x y / unitE s = if x < y then (-(x + y)) / 4 else (x + y) / 4 := by
  have hp : 0 < s * s := Int.mul_pos (by omega) (by omega)
  rw [eOne_two, eOne_eq, unit_eq]
  split
  · rw [← Int.mul_neg]; exact Int.mul_ediv_mul_of_pos _ _ hp
  · rw [Int.mul_neg, Int.neg_neg]; exact Int.mul_ediv_mul_of_pos _ _ hp
theorem eOne_mod {s x y : Int} (hs : 1 ≤ s) (h : (x + y) % 4 = 0) : eOne s x y % unitE s = 0 := by
  have hp : 0 < s * s := Int.mul_pos (by omega) (by omega)
  rw [eOne_eq, unit_eq]
  split
  · rw [Int.mul_emod_mul_of_pos _ _ hp, h, Int.mul_zero]
  · rw [Int.mul_emod_mul_of_pos _ _ hp, show (-(x + y)) % 4 = 0 by omega, Int.mul_zero]
/-- what two equal partners pay -/
theorem pay_two {s x y : Int} (h : lok [s, s] [x, y] = 0) : ∃ b : Int, pyL [s, s] [x, y] 1 = [if x < y then ((x + y) / 2) / 2 else -(((x + y) / 2) / 2), b] ∧ sE [s, s] [x, y] 1 = 0 := by
  have hV := lok_ok h
  have hs1 : 1 ≤ s := hV.v.pos s (by simp)
  have he := sE_ok h (r := 1) (.inr rfl)
  obtain ⟨b, v, g, sec, eb, eg, hs⟩ := hV.sale
  have hp := priceOf_sale (r := 1) eb eg hs
  rw [if_pos rfl] at hp
  rw [pyL_ok he eb, hp]
  have hb2 := hs.best.lt_len
  have hg2 := hs.second.lt_len
  have hne := hs.second.ne
  have hS : sumL [s, s] = s + s := by simp [sumL]
  have hbv := hs.best.val
  have hgv := hs.second.val
  have hq : ((x + y) / 2 * s) / (s + s) = ((x + y) / 2) / 2 := by
    rw [show s + s = 2 * s by omega]
    exact Int.mul_ediv_mul_of_pos_left _ _ (by omega)
  simp only [List.length_cons, List.length_nil] at hb2 hg2
  have hbg : (b = 0 ∧ g = 1) ∨ (b = 1 ∧ g = 0) := by omega
  rcases hbg with ⟨rfl, rfl⟩ | ⟨rfl, rfl⟩
  · have hv : v = x := by simpa using hbv.symm
    have hsc : sec = y := by simpa using hgv.symm
    have hle := hs.best.le 1 y (by omega) rfl
    subst hv; subst hsc
    refine ⟨((v + sec) / 2) / 2, ?_, he⟩
    rw [if_neg (by omega), payL, hS]
    simp [List.range_succ, partSum, part, hq]
  · have hv : v = y := by simpa using hbv.symm
    have hsc : sec = x := by simpa using hgv.symm
    have hlt := hs.best.lt 0 x (by omega) (by omega) rfl
    subst hv; subst hsc
    refine ⟨-(((sec + v) / 2) / 2), ?_, he⟩
    rw [if_pos (by omega), payL, hS, Int.add_comm v sec]
    simp [List.range_succ, partSum, part, hq]
theorem near_two {s x y a b q : Int} (hs : 1 ≤ s) (h : PayOk s x y a b) (hq : q = if x < y then ((x + y) / 2) / 2 else -(((x + y) / 2) / 2)) : q - a ≤ 1 ∧ a - q ≤ 1 := by
  have h1 := h.1
  rw [eOne_div hs] at h1
  rw [hq]
  by_cases hxy : x < y
  · rw [if_pos hxy] at h1 ⊢; omega
  · rw [if_neg hxy] at h1 ⊢; omega
/-- the buyer gains as much with the truth as with its best offer -/
theorem buyer_law {L O : List Int} {b : Nat} {v : Int} (h : lok L O = 0) (eb : bestOf O (-1) = b) (hv : O[b]? = some v) (hv3 : v ≤ 300) :
    gE L O 0 b v = 0 ∧ ofE L O 0 b v 300 = 0 ∧ gV L O 0 b v = (ofR L O 0 b v 300).2 := by
  have hV := lok_ok h
  have hvb := hV.bd v (List.mem_of_getElem? hv)
  have hbl : b < L.length := by have := (List.getElem?_eq_some_iff.1 hv).1; have := hV.len; omega
  obtain ⟨o1, o2, o3, o4, o5⟩ := offer_law h (r := 0) (wv := v) (.inl rfl) hbl hvb.1 hvb.2 (top := 300) (by omega) (by omega)
  have hset : O.set b v = O := by
    obtain ⟨h1, h2⟩ := List.getElem?_eq_some_iff.1 hv
    rw [← h2, List.set_getElem_self]
  have h6 := (o5 v hvb.1 hv3).1
  rw [hset] at h6
  have h7 := truth h eb hv o2 (by omega)
  refine ⟨h7.1, o1, ?_⟩
  rw [o4] at h7
  have := h7.2.2
  omega
end Go.Proofs.YtkoipecnmijfoaaGreat
