import Derived.Test.YtefbkdjppfofmaaS26l
import Derived.Test.YtefbkdjppfofmaaS26o
import Derived.Test.YtefbkdjppfofmaaW26A
import Derived.Test.YtefbkdjppfofmaaW26t
import Derived.Test.YtefbkdjppfofmaaW26z
/-! Plain law: the literals of chapter 26's limits and errors. -/
namespace Go.Proofs.Ytefbkdjppfofmaa
open Go.RowKit
set_option linter.unusedVariables false
set_option maxRecDepth 100000

theorem newRdB2 {w : World} {T : Nat} {vs : List Value} {F : List (List Bool)} (hl : vs.length = F.length) (hv : ∀ i, i < F.length → ∃ A c, vs[i]? = some (.slice A (F.getD i []).length c) ∧ RdB w w.heap.size A (F.getD i [])) (hF : F.length ≤ 1000) :
    RdB2 (w.alloc (.cells vs.toArray T)) (w.heap.size + 1) (some ⟨w.heap.size, 0, none⟩) F := by
  refine ⟨by omega, fun hn => ⟨w.heap.size, 0, rfl, by omega, fun i L hi => ?_⟩⟩
  have hlt := (List.getElem?_eq_some_iff.1 hi).1
  obtain ⟨A, c, h1, h2⟩ := hv i hlt
  have hL : F.getD i [] = L := by rw [List.getD_eq_getElem?_getD, hi]; rfl
  rw [hL] at h1 h2
  refine ⟨A, c, ?_, ((h2.below ((Below.refl _ _).alloc (Nat.le_refl _) _) (Nat.le_refl _)).more (by omega))⟩
  rw [Nat.mul_one, cell_of_row _ _ _ vs.toArray T (0, 0) (heap_alloc_new _ _)]
  simpa using h1
theorem RdB.nil (w : World) (B : Nat) (A : Option Addr) : RdB w B A [] := RdOf.nil _ _ _
theorem sort12 : sortI [1, 2] = [1, 2] := (sorted_all (M := [1, 2]) (fun p q h1 h2 => by
  have h2' : q < 2 := h2
  have hp : p = 0 := by omega
  have hq : q = 1 := by omega
  subst hp hq; decide) (List.Perm.refl _)).symm
theorem sort30 : sortI [3, 0] = [0, 3] := (sorted_all (L := [0, 3]) (M := [3, 0]) (fun p q h1 h2 => by
  have h2' : q < 2 := h2
  have hp : p = 0 := by omega
  have hq : q = 1 := by omega
  subst hp hq; decide) (List.Perm.swap _ _ _)).symm
theorem sort03 : sortI [0, 3] = [0, 3] := (sorted_all (M := [0, 3]) (fun p q h1 h2 => by
  have h2' : q < 2 := h2
  have hp : p = 0 := by omega
  have hq : q = 1 := by omega
  subst hp hq; decide) (List.Perm.refl _)).symm
theorem more1 : moreV [1, 2] [3, 0] = 1 ∧ moreE [1, 2] [3, 0] = 0 := by
  have e : moreE [1, 2] [3, 0] = 0 := by decide
  exact ⟨by rw [moreV, if_pos e, cmpS_sort (L := [1, 2]) (M := [3, 0]) rfl, sort12, sort30]; decide, e⟩
theorem more2 : moreV [0, 3] [3, 0] = 0 ∧ moreE [0, 3] [3, 0] = 0 := by
  have e : moreE [0, 3] [3, 0] = 0 := by decide
  exact ⟨by rw [moreV, if_pos e, cmpS_sort (L := [0, 3]) (M := [3, 0]) rfl, sort03, sort30]; decide, e⟩
def nobW : List (List Bool) := [[false, true], [false, true]]
theorem even_three {m n : Nat} {a : List Int} (v : VW m n [[], [], []]) (h : EvenOk [[], [], []] m n a) : a = [] := by
  have hn : n = 0 := (v.row [] (by simp)).symm
  subst hn
  exact List.eq_nil_of_length_eq_zero h.opt.full.len
theorem even_nob {m n : Nat} {a : List Int} (v : VW m n nobW) (h : EvenOk nobW m n a) : a = [-1, 0] := by
  have hm : m = 2 := v.len.symm
  have hn : n = 2 := (v.row [false, true] (by simp [nobW])).symm
  subst hm hn
  have hl := h.opt.full.len
  have h0 := h.opt.full.at_ 0 (by omega)
  have h1 := h.opt.full.at_ 1 (by omega)
  match a, hl with
  | [x, y], _ =>
    have w1 : wishAny nobW 1 = true := by decide
    have hx : x = -1 := by
      rcases h0 with ⟨g, _⟩ | ⟨q, g1, g2, g3⟩
      · exact g
      · match q, g1 with
        | 0, _ => exact absurd g3 (by decide)
        | 1, _ => exact absurd g3 (by decide)
    have hy : y = 0 ∨ y = 1 := by
      rcases h1 with ⟨_, g⟩ | ⟨q, g1, g2, g3⟩
      · rw [w1] at g; cases g
      · have g2' : y = (q : Int) := g2
        omega
    subst hx
    rcases hy with rfl | rfl
    · rfl
    · exfalso
      have hfb : FullA nobW 2 2 [-1, 0] := full_of v (by decide)
      have hsh : shapeI (cnts 2 [-1, 0]) = shapeI (cnts 2 [-1, 1]) := by
        have e1 : cnts 2 [-1, 0] = [1, 0] := by decide
        have e2 : cnts 2 [-1, 1] = [0, 1] := by decide
        rw [e1, e2, shapeI, shapeI, sortI_congr (List.Perm.swap 0 1 [])]
        rfl
      have ho := opt_same h.opt hfb hsh
      rcases h.lex _ ho with hs | ⟨k, hk, hs, hlt⟩
      · exact absurd (hs 1 (by omega)) (by decide)
      · have hk2 : k = 0 ∨ k = 1 := by omega
        rcases hk2 with rfl | rfl
        · exact absurd hlt (by decide)
        · exact absurd hlt (by decide)
theorem nm_chk : chk26 [] = 8 ∧ chk26 [[], [], [], [], [], [], []] = 4 ∧ chk26 [[false, false, false, false, false, false, false, false, false, false, false]] = 4 ∧ chk26 [[true], []] = 8 ∧ chk26 [[], [], []] = 0 ∧ chk26 nobW = 0 := by decide
theorem nm_lkd : lkd26 exW [0, 0, -1] = 8 ∧ lkd26 exW [0, 1, 1] = 8 ∧ lkd26 exW [0, 0] = 8 := by decide
theorem nm_ps : psC exW [0, 0, 0] [0] = 6 ∧ psC exW [0, 0, 0] [1, 0] = 6 ∧ psC exW [0, 0, 0] [0, 0] = 6 ∧ psC exW [0, 0, 0] [0, 1] = 0 ∧ psF exW [0, 0, 0] [0, 1] = [0, 0, 1] := by decide
theorem nm_more : moreE [1] [] = 8 ∧ moreE [-1] [1] = 8 ∧ moreE [0, 0, 0, 0, 0, 0, 0] [0, 0, 0, 0, 0, 0, 0] = 4 := by decide
end Go.Proofs.Ytefbkdjppfofmaa
