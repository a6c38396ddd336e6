import Derived.Test.YtefbkdjppfofmaaS26k
import Derived.Test.YtefbkdjppfofmaaW26i
import Derived.Test.YtefbkdjppfofmaaW26o
/-! Plain law: the chapter's example. No statement about the program. -/
namespace Go.Proofs.Ytefbkdjppfofmaa
set_option linter.unusedVariables false
set_option maxRecDepth 100000

def exW : List (List Bool) := [[true, true, true], [false, false, true]]
theorem ex_chk : chk26 exW = 0 := by decide
theorem ex_lkd0 : lkd26 exW [0, 0, 0] = 0 := by decide
theorem ex_lkd1 : lkd26 exW [0, 0, 1] = 0 := by decide
theorem ex_cnt : cntF exW [0, 0, 1] = [2, 1] := by decide
theorem ex_ch : chF exW [0, 0, 0] = [0, 1] := by decide
theorem ex_chc : chC exW [0, 0, 0] = 0 := by decide
theorem ex_chc1 : chC exW [0, 0, 1] = 6 := by decide
theorem ex_chf1 : chF exW [0, 0, 1] = [] := by decide
theorem ex_short : firstShort 2 (extL 2 (fun p q => linkK exW [0, 0, 0] p q 0)) (shortB [0, 0, 0]) ≠ none := by decide
theorem ex_even {m n : Nat} {a : List Int} (v : VW m n exW) (h : EvenOk exW m n a) : a = [0, 0, 1] := by
  have hm : m = 2 := v.len.symm
  have hn : n = 3 := (v.row [true, true, true] (by simp [exW])).symm
  subst hm hn
  have hl := h.opt.full.len
  have h0 := h.opt.full.at_ 0 (by omega)
  have h1 := h.opt.full.at_ 1 (by omega)
  have h2 := h.opt.full.at_ 2 (by omega)
  match a, hl with
  | [x, y, z], _ =>
    have w0 : wishAny exW 0 = true := by decide
    have w1 : wishAny exW 1 = true := by decide
    have w2 : wishAny exW 2 = true := by decide
    have hx : x = 0 := by
      rcases h0 with ⟨_, g⟩ | ⟨q, g1, g2, g3⟩
      · rw [w0] at g; cases g
      · have g2' : x = (q : Int) := g2
        match q, g1 with
        | 0, _ => simpa using g2'
        | 1, _ => exact absurd g3 (by decide)
    have hy : y = 0 := by
      rcases h1 with ⟨_, g⟩ | ⟨q, g1, g2, g3⟩
      · rw [w1] at g; cases g
      · have g2' : y = (q : Int) := g2
        match q, g1 with
        | 0, _ => simpa using g2'
        | 1, _ => exact absurd g3 (by decide)
    have hz : z = 0 ∨ z = 1 := by
      rcases h2 with ⟨_, g⟩ | ⟨q, g1, g2, g3⟩
      · rw [w2] at g; cases g
      · have g2' : z = (q : Int) := g2
        omega
    subst hx hy
    rcases hz with rfl | rfl
    · exact absurd (opt_noShort v.len h.opt 0) ex_short
    · rfl
end Go.Proofs.Ytefbkdjppfofmaa
