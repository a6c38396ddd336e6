import Derived.Test.YtipidlonidihbaaW33b
import Derived.Test.YtipidlonidihbaaW33a
/-! Walks: slices.Sort at 12 or fewer integers, slices.Min and slices.Max. -/
namespace Go.Proofs.Ytipidlonidihbaa
open Go.RowKit Go.Deep
set_option linter.unusedVariables false
set_option maxRecDepth 100000

def ltI (a b : Int) : Bool := decide (a < b)
theorem less {w : World} (a b : Int) : Calls Try.prog 57 #[.int .i64 a, .int .i64 b] w fun e w' => e = .returned (.bool (ltI a b)) ∧ w = w' := by
  go_enter Try.func57, Try.ntmps57
  go_wp2_with (go_at_call 50; refine (isNaN _).mono ?_; rintro e w' ⟨rfl, rfl⟩)
  go_ret
  exact ⟨ret_bool (by simp [ltI]), rfl⟩

set_option maxRecDepth 100000 in
set_option maxHeartbeats 4000000 in
theorem insOrd {w : World} {g : Nat} {D0 : List Int} {cap : Nat}
    (ho : OwnP w g 3 D0) (hn : 1 ≤ D0.length) (hn2 : D0.length ≤ 40) :
    Calls Try.prog 51 #[.slice (some ⟨g, 0, none⟩) D0.length cap, .int .i64 0, .int .i64 D0.length] w
      fun e w' => e = .returned (.tuple #[]) ∧ OwnP w' g 3 (isort ltI D0) ∧ Below g w w' := by
  have HO := Lib.hid ho
  clear ho
  generalize hN : D0.length = n at *
  have HN := Lib.hid hN
  clear hN
  go_enter Try.func51, Try.ntmps51
  go_wp2
  go_loopw [6] (fun i wr => ∃ (k : Nat) (D R : List Int), 1 ≤ k ∧ k ≤ n ∧ i = .int .i64 k ∧ Hid (D = R.reverse ++ D0.drop k) ∧ Hid (R = isRev ltI [] (D0.take k)) ∧ Hid (OwnP wr g 3 D) ∧ Hid (Below g w wr)) (fun i _ => n - (intOf i).toNat)
  case atStart =>
    obtain ⟨x, t, rfl⟩ : ∃ x t, D0 = x :: t := by
      cases D0 with
      | nil => have := HN.out; simp at this; omega
      | cons x t => exact ⟨x, t, rfl⟩
    exact ⟨1, x :: t, [x], by omega, by omega, rfl, Lib.hid rfl, Lib.hid rfl, HO, Lib.hid (Below.refl _ _)⟩
  case round =>
    obtain ⟨k, D, R, hk1, hk, rfl, hD, hR, hO, hB⟩ := hrel
    by_cases hkn : k < n
    · obtain ⟨v, hv⟩ : ∃ v, D0[k]? = some v := ⟨D0[k]'(by rw [HN.out]; exact hkn), by simp⟩
      have hRl : R.length = k := by rw [hR.out, isRev_length]; simp; have := HN.out; omega
      have hstart : InsAt ltI D R k k v R [] (D0.drop (k + 1)) := by
        have := InsAt.start (lt := ltI) (R := R) (rest := D0.drop (k + 1)) (v := v)
        rw [hRl, ← drop_of hv, ← hD.out] at this
        exact this
      have HV := Lib.hid hv
      have HS := Lib.hid hstart
      have HRL := Lib.hid hRl
      clear hv hstart hRl
      obtain ⟨wo, rfl⟩ : ∃ wo : World, wo = wr := ⟨_, rfl⟩
      go_wp2
      go_loopw [7] (fun jv wi => ∃ (j : Nat) (D' X Y : List Int), j ≤ k ∧ jv = .int .i64 j ∧ Hid (InsAt ltI D' R k j v X Y (D0.drop (k + 1))) ∧ Hid (OwnP wi g 3 D') ∧ Hid (Below g w wi)) (fun jv _ => (intOf jv).toNat)
      case atStart => exact ⟨k, D, R, [], by omega, rfl, HS, hO, hB⟩
      case round =>
        obtain ⟨j, D', X, Y, hj, rfl, hI, hOi, hBi⟩ := hrel
        have hnext : Hid ((X = [] ∨ ∃ x t, X = x :: t ∧ ltI v x = false) → D' = (insRev ltI v R).reverse ++ D0.drop (k + 1)) := Lib.hid hI.out.done
        have hR' : Hid (insRev ltI v R = isRev ltI [] (D0.take (k + 1))) := Lib.hid (by rw [take_succ_of HV.out, isRev_snoc, ← hR.out])
        cases X with
        | nil =>
          have hj0 : j = 0 := by have := hI.out.len; simpa using this.symm
          subst hj0
          have hd : decide ((0 : Int) < 0) = false := by decide
          have hfin := Lib.hid (hnext.out (.inl rfl))
          clear hnext
          go_wp2
          go_quiet (fail)
          go_wp2
          go_roundw
          case rel => exact ⟨k + 1, D', _, by omega, by omega, by go_num, hfin, hR', Lib.hid (hOi.out.drewN _), Lib.hid (below_drewN hBi.out _)⟩
          case measure => simp [intOf]; omega
        | cons x t =>
          obtain ⟨j', hj'⟩ : ∃ j', j = j' + 1 := ⟨t.length, by have := hI.out.len; simp at this; omega⟩
          have hcl : D'[j]? = some v ∧ D'[j']? = some x := by
            have h := hI.out
            rw [hj'] at h ⊢
            exact h.cells
          have c1 := hOi.out.cell hcl.1
          have c2 := hOi.out.cell hcl.2
          have f1 := hOi.out.frozen j
          have f2 := hOi.out.frozen j'
          have HCL := Lib.hid hcl
          clear hcl
          have hjn : j < n := by omega
          have hjn' : j' < n := by omega
          have i1 : (0 : Int) ≤ j := by omega
          have i2 : (j : Int) < n := by omega
          have i3 : (0 : Int) ≤ j' := by omega
          have i4 : (j' : Int) < n := by omega
          have i5 : (0 : Int) < j := by omega
          have HJ := Lib.hid hj'
          have E1 : Hid (IntKind.i64.wrap ((j : Int) - 1) = (j' : Int)) := Lib.hid (by rw [show (j : Int) - 1 = j' by omega]; exact IntWalk.i64_in _ (by omega))
          have hgs := hOi.out.lt
          obtain ⟨bv, hbv⟩ : ∃ bv, bv = ltI v x := ⟨_, rfl⟩
          have CL : Hid (∀ u : World, Calls Try.prog 57 #[.int .i64 v, .int .i64 x] u fun e w' => e = .returned (.bool bv) ∧ w' = u) := Lib.hid (by rw [hbv]; exact fun u => (less v x).mono fun _ _ h => ⟨h.1, h.2.symm⟩)
          have HBV := Lib.hid hbv
          clear hj' hbv
          go_wp2
          have e1 := E1.out
          have dd1 : decide ((0 : Int) < (j : Int)) = true := by simpa using i5
          have dd2 : decide (0 < j) = true := by simp; omega
          have dd3 : 0 < j := by omega
          go_quiet ((go_at_call 57; exact Calls.quiet_of_same (CL.out _)))
          clear e1
          have HO2 := Lib.hid (hOi.out.drewN nq)
          have HB2 := Lib.hid (below_drewN hBi.out nq)
          have k1 : (wr.drewN nq).cell? ⟨g, j, none⟩ = wr.cell? ⟨g, j, none⟩ := rfl
          have k2 : (wr.drewN nq).cell? ⟨g, j', none⟩ = wr.cell? ⟨g, j', none⟩ := rfl
          rw [c1] at k1
          rw [c2] at k2
          clear c1 c2
          generalize wr.drewN nq = w2 at *
          have c1 := k1
          have c2 := k2
          clear k1 k2
          have f1 := HO2.out.frozen j
          have f2 := HO2.out.frozen j'
          cases bv
          · have hlv : ltI v x = false := HBV.out.symm
            have hfin := Lib.hid (hnext.out (.inr ⟨x, t, rfl, hlv⟩))
            clear hlv hnext
            go_wp2
            go_roundw
            case rel => exact ⟨k + 1, D', _, by omega, by omega, by go_num, hfin, hR', HO2, HB2⟩
            case measure => simp [intOf]; omega
          · have hlv : ltI v x = true := HBV.out.symm
            have hsw : InsAt ltI ((D'.set j x).set j' v) R k j' v t (Y ++ [x]) (D0.drop (k + 1)) := by
              have h := hI.out
              rw [HJ.out] at h ⊢
              exact h.swap hlv
            have HSW := Lib.hid hsw
            clear hsw hlv
            go_wp2
            have hs1 := HO2.out.store j x
            have s1 := hs1.cell (i := j') (x := x) (by rw [List.getElem?_set_ne (by have := HJ.out; omega)]; exact HCL.out.2)
            have s2 := hs1.frozen j'
            have HFI := Lib.hid (hs1.store j' v)
            have HBI := Lib.hid ((HB2.out.setCell (p := ⟨g, j, none⟩) (Nat.le_refl _) (.int .i64 x)).setCell (p := ⟨g, j', none⟩) (Nat.le_refl _) (.int .i64 v))
            clear hs1
            have e1 := E1.out
            go_region
            try clear e1
            all_goals go_wp2
            all_goals go_roundw
            case rel => exact ⟨j', _, t, Y ++ [x], by have := HJ.out; omega, int_of (by have := HJ.out; omega), HSW, Lib.hid HFI.out.drew, Lib.hid HBI.out.drew⟩
            case measure => simp [intOf]; omega
    · have hkn' : k = n := by omega
      subst hkn'
      have hfin : OwnP wr g 3 (isort ltI D0) := by
        have h := hO.out
        rw [hD.out, hR.out, List.take_of_length_le (by rw [HN.out]; omega), List.drop_of_length_le (by rw [HN.out]; omega), List.append_nil] at h
        exact h
      have HF := Lib.hid hfin
      clear hfin
      go_wp2
      go_end0
      exact ⟨rfl, HF.out, hB.out⟩
end Go.Proofs.Ytipidlonidihbaa
