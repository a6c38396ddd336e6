import Derived.Test.YtjgobpejifhphaaW35B
/-! Walks of chapter 35: the law of the truth. -/
namespace Go.Proofs.Ytjgobpejifhphaa
open Go.RowKit Go.Deep
set_option linter.unusedVariables false
set_option maxRecDepth 100000

set_option maxHeartbeats 1000000 in
theorem with35 {w : World} {B C : Nat} {A A' : Option Addr} {l : List Int} {R R2 : List (List Int)} {cap cap' a : Nat} (h' : Rd2 w C A' R) (h : Rd w B A l) (hC : C ≤ w.heap.size) (hB : B ≤ w.heap.size) (ha : a < R.length) (h2 : R.length ≤ 1000) (hR : R2 = R.set a l) :
    Calls Try.prog 22 #[.slice A' R.length cap', .int .i64 (a : Int), .slice A l.length cap] w fun e w' => ∃ A2 c2, e = .returned (.slice A2 R2.length c2) ∧ Rd2 w' w'.heap.size A2 R2 ∧ Below w.heap.size w w' := by
  have hn : 0 < R.length := by omega
  have hlen := h'.len
  obtain ⟨i0, hi, hz0, hz1, hz2⟩ := info_parts infoRowC
  have hown0 := own_empty w 22
  have hal := Below.alloc (B := w.heap.size) (Below.refl _ w) (Nat.le_refl _) (.cells #[] 22)
  have hsz : (w.alloc (.cells #[] 22)).heap.size = w.heap.size + 1 := by simp
  obtain ⟨vs, hv1, _, hv3, hv4⟩ := rd2_vals h'
  obtain ⟨bb, off, rfl, hbb, _⟩ := h'.2 hn
  have HV3 := Lib.hid hv3
  have HV4 : Hid (∀ j u, vs[j]? = some u → (w.alloc (.cells #[] 22)).cell? ((⟨bb, off, none⟩ : Addr).add j) = some u) := Lib.hid fun j u hj => cell_kept hal (Nat.le_refl _) (hv4 _ rfl j u hj)
  have HO1 : Hid (∀ u ∈ vs, u.oneCell' = true) := Lib.hid (by
    intro u hu
    obtain ⟨i, hi⟩ := List.getElem?_of_mem hu
    have hlt := (List.getElem?_eq_some_iff.1 hi).1
    rw [hv1] at hlt
    obtain ⟨A', c', h1, _⟩ := hv3 i R[i] (by simp [hlt])
    rw [hi] at h1
    cases h1
    rfl)
  have HV1 := Lib.hid hv1
  have HI := Lib.hid hi
  have HO := Lib.hid hown0
  have HAL := Lib.hid hal
  have HSZ := Lib.hid hsz
  have H := Lib.hid h
  have HR := Lib.hid hR
  have HLR : Hid (R2.length = R.length) := Lib.hid (by rw [hR, List.length_set])
  clear hal hsz hi hown0 h h' hv1 hv3 hv4 hR
  go_enter Try.func22, Try.ntmps22
  generalize hw4 : w.alloc (.cells #[] 22) = w4 at *
  have HW4 := Lib.hid hw4
  clear hw4
  have hx4 : w.alloc (.cells #[] 22) = w4 := HW4.out
  go_wp2_with (at_builtin; refine wpList_append_own _ rfl _ _ 29 rfl w.heap.size 22 i0 (.slice none 0 0) 1 24 Try.underlying29 HI.out hz0 hz1 hz2 rfl (by decide) _ 0 [] rfl HO.out ⟨bb, off, none⟩ R.length cap' vs rfl (by rw [HV1.out, Nat.mul_one]) HV4.out HO1.out (by unfold maxLen; omega) (by omega) (by rw [HSZ.out]; omega) ?_)
  intro v' w5 hown5 hgrow _
  have hb5 : Below w.heap.size w w5 := HAL.out.grown hgrow (by rw [HSZ.out]; omega) (by intro k hk; simp [Value.ownBlock] at hk; omega)
  have hown6 : w5.ownsRow w.heap.size 22 1 v' R.length vs := by simpa using hown5
  obtain ⟨gg, c5, hv5, hgg, hgl⟩ := hown6.form hn
  rw [hv5] at hown6
  rw [hv5]
  obtain ⟨u0, hu0⟩ : ∃ u0, vs[a]? = some u0 := ⟨vs[a]'(by rw [HV1.out]; exact ha), by simp⟩
  have hcf : w5.cell? ⟨gg, a, none⟩ = some u0 ∧ w5.frozen? ⟨gg, a, none⟩ = false := by
    rcases hown6.2 with ⟨h1, _⟩ | ⟨g2, cap2, cur, h1, _, hh, _, _, _, htk⟩
    · cases h1
    · cases h1
      constructor
      · rw [cell_of_row _ _ _ cur _ (0, 0) hh]
        rw [← htk, List.getElem?_take] at hu0
        split at hu0
        · simpa using hu0
        · cases hu0
      · simp [World.frozen?, hh]
  obtain ⟨hc0, hf0⟩ := hcf
  have hst := hown6.stored a (.slice A l.length cap)
  have hb6 : Below w.heap.size w (w5.setCell ⟨gg, a, none⟩ (.slice A l.length cap)) := hb5.setCell (p := ⟨gg, a, none⟩) hgg _
  have hvr := rows_set (a := a) (A := A) (x := l) (c := cap) HV1.out (fun j L _ hL => HV3.out j L hL) hb6 hC ((H.out.below hb6 hB).more (Nat.le_trans hB hb6.size)) ha
  rw [← HR.out] at hvr
  have hrr := rd2_of_row (F := R2) (by rw [HLR.out]; exact hst.1) hvr (by rw [HLR.out]; omega)
  have HRR := Lib.hid hrr
  have HB6 := Lib.hid hb6
  have haR : (a : Int) < (R.length : Int) := by omega
  clear hown5 hgrow hb5 hx4 hv5 HW4 HAL HV4 HSZ hown6 hst hvr hrr hb6 hu0
  go_wp2
  go_ret
  rw [← HLR.out]
  exact ⟨_, _, rfl, HRR.out, HB6.out⟩
end Go.Proofs.Ytjgobpejifhphaa
