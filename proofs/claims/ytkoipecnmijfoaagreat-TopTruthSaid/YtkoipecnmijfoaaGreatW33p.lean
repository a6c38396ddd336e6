import Derived.Test.YtkoipecnmijfoaaGreatM35a
import Derived.BigRegion
/-! The walks of stable sorting with a method value as the comparison. (Printed by mk33p.py.) -/
namespace Go.Proofs.YtkoipecnmijfoaaGreat
open Go.RowKit Go.Deep
set_option linter.unusedVariables false
set_option maxRecDepth 100000

/-- the comparison F, with a value bound in front, gives c at the elements that p lets, in every world that is as w below block g -/
def CmpsP (w : World) (g F : Nat) (pre : Value) (c : Int → Int → Int) (p : Int → Prop) : Prop :=
  ∀ u, Below g w u → ∀ a b, p a → p b → Calls Tryz.prog F (#[pre, .int .i64 a, .int .i64 b]) u fun e u' => e = .returned (.int .i64 (c a b)) ∧ Below u.heap.size u u'
set_option maxRecDepth 100000 in
set_option maxHeartbeats 4000000 in
theorem insCmpP {w : World} {g F : Nat} {pre : Value} {c : Int → Int → Int} {p : Int → Prop} {D0 : List Int} {cap : Nat}
    (hF : ∀ args (u : World), (callFunc F args).run Tryz.prog u = .ok (.enter F args) u)
    (hc : CmpsP w g F pre c p) (hp : ∀ x ∈ D0, p x) (ho : Own w g 3 D0) (hn : 1 ≤ D0.length) (hn2 : D0.length ≤ 40) :
    Calls Tryz.prog 75 #[.slice (some ⟨g, 0, none⟩) D0.length cap, .int .i64 0, .int .i64 D0.length, .func (.func F) #[pre] #[]] w
      fun e w' => e = .returned (.tuple #[]) ∧ Own w' g 3 (isort (ltOf c) D0) ∧ Below g w w' := by
  have HC := Lib.hid hc
  have HP := Lib.hid hp
  have HO := Lib.hid ho
  have hlt := ltOf c
  clear hc hp ho
  generalize hN : D0.length = n at *
  have HN := Lib.hid hN
  clear hN
  go_enter Tryz.func75, Tryz.ntmps75
  go_wp2
  go_loopw [8] (fun i wr => ∃ (k : Nat) (D R : List Int), 1 ≤ k ∧ k ≤ n ∧ i = .int .i64 k ∧ Hid (D = R.reverse ++ D0.drop k) ∧ Hid (R = isRev (ltOf c) [] (D0.take k)) ∧ Hid (Own wr g 3 D) ∧ Hid (Below g w wr)) (fun i _ => n - (intOf i).toNat)
  case atStart =>
    obtain ⟨x, t, rfl⟩ : ∃ x t, D0 = x :: t := by
      cases D0 with
      | nil => have := HN.out; simp at this; omega
      | cons x t => exact ⟨x, t, rfl⟩
    exact ⟨1, x :: t, [x], by omega, by omega, rfl, Lib.hid rfl, Lib.hid rfl, HO, Lib.hid (Below.refl _ _)⟩
  case round =>
    obtain ⟨k, D, R, hk1, hk, rfl, hD, hR, hO, hB⟩ := hrel
    by_cases hkn : k < n
    · obtain ⟨v, hv⟩ : ∃ v, D0[k]? = some v := ⟨D0[k]'(by rw [HN.out]; exact hkn), by simp⟩
      have hRl : R.length = k := by rw [hR.out, isRev_length]; simp; have := HN.out; omega
      have hstart : InsAt (ltOf c) D R k k v R [] (D0.drop (k + 1)) := by
        have := InsAt.start (lt := ltOf c) (R := R) (rest := D0.drop (k + 1)) (v := v)
        rw [hRl, ← drop_of hv, ← hD.out] at this
        exact this
      have hpd : ∀ x ∈ D, p x := by
        intro x hx
        rw [hD.out, hR.out] at hx
        rcases List.mem_append.1 hx with hx | hx
        · rw [List.mem_reverse, isRev_mem] at hx
          rcases hx with hx | hx
          · simp at hx
          · exact HP.out x (List.mem_of_mem_take hx)
        · exact HP.out x (List.mem_of_mem_drop hx)
      have HV := Lib.hid hv
      have HS := Lib.hid hstart
      have HPD := Lib.hid hpd
      have HRL := Lib.hid hRl
      clear hv hstart hpd hRl
      obtain ⟨wo, rfl⟩ : ∃ wo : World, wo = wr := ⟨_, rfl⟩
      go_wp2
      go_loopw [9] (fun jv wi => ∃ (j : Nat) (D' X Y : List Int), j ≤ k ∧ jv = .int .i64 j ∧ Hid (InsAt (ltOf c) D' R k j v X Y (D0.drop (k + 1))) ∧ Hid (∀ x ∈ D', p x) ∧ Hid (Own wi g 3 D') ∧ Hid (Below g w wi)) (fun jv _ => (intOf jv).toNat)
      case atStart => exact ⟨k, D, R, [], by omega, rfl, HS, HPD, hO, hB⟩
      case round =>
        obtain ⟨j, D', X, Y, hj, rfl, hI, hpD, hOi, hBi⟩ := hrel
        have hnext : Hid ((X = [] ∨ ∃ x t, X = x :: t ∧ ltOf c v x = false) → D' = (insRev (ltOf c) v R).reverse ++ D0.drop (k + 1)) := Lib.hid hI.out.done
        have hR' : Hid (insRev (ltOf c) v R = isRev (ltOf c) [] (D0.take (k + 1))) := Lib.hid (by rw [take_succ_of HV.out, isRev_snoc, ← hR.out])
        cases X with
        | nil =>
          have hj0 : j = 0 := by have := hI.out.len; simpa using this.symm
          subst hj0
          have hd : decide ((0 : Int) < 0) = false := by decide
          have hfin := Lib.hid (hnext.out (.inl rfl))
          clear hnext
          go_wp2
          go_quiet (fail)
          go_wp2
          go_roundw
          case rel => exact ⟨k + 1, D', _, by omega, by omega, by go_num, hfin, hR', Lib.hid (hOi.out.drewN _), Lib.hid (below_drewN hBi.out _)⟩
          case measure => simp [intOf]; omega
        | cons x t =>
          obtain ⟨j', hj'⟩ : ∃ j', j = j' + 1 := ⟨t.length, by have := hI.out.len; simp at this; omega⟩
          have hcl : D'[j]? = some v ∧ D'[j']? = some x := by
            have h := hI.out
            rw [hj'] at h ⊢
            exact h.cells
          have c1 := hOi.out.cell hcl.1
          have c2 := hOi.out.cell hcl.2
          have f1 := hOi.out.frozen j
          have f2 := hOi.out.frozen j'
          have hpv : p v := hpD.out v (mem_getElem hcl.1)
          have hpx : p x := hpD.out x (mem_getElem hcl.2)
          have HCL := Lib.hid hcl
          clear hcl
          have hjn : j < n := by omega
          have hjn' : j' < n := by omega
          have i1 : (0 : Int) ≤ j := by omega
          have i2 : (j : Int) < n := by omega
          have i3 : (0 : Int) ≤ j' := by omega
          have i4 : (j' : Int) < n := by omega
          have i5 : (0 : Int) < j := by omega
          have HJ := Lib.hid hj'
          have E1 : Hid (IntKind.i64.wrap ((j : Int) - 1) = (j' : Int)) := Lib.hid (by rw [show (j : Int) - 1 = j' by omega]; exact IntWalk.i64_in _ (by omega))
          have hS0 : wr.drew.cell? ⟨g, j, none⟩ = some (.int .i64 v) ∧ wr.drew.cell? ⟨g, j', none⟩ = some (.int .i64 x) ∧ Hid (Below wr.heap.size wr wr.drew) := ⟨c1, c2, Lib.hid (Below.refl _ _).drew⟩
          have hgs := hOi.out.lt
          have CC : Hid (∀ u : World, (u.cell? ⟨g, j, none⟩ = some (.int .i64 v) ∧ u.cell? ⟨g, j', none⟩ = some (.int .i64 x) ∧ Hid (Below wr.heap.size wr u)) →
              Calls Tryz.prog F (#[pre, .int .i64 v, .int .i64 x]) u fun e u' => e = .returned (.int .i64 (c v x)) ∧ (u'.cell? ⟨g, j, none⟩ = some (.int .i64 v) ∧ u'.cell? ⟨g, j', none⟩ = some (.int .i64 x) ∧ Hid (Below wr.heap.size wr u'))) := Lib.hid (by
            intro u ⟨s1, s2, s3⟩
            have hsz := s3.out.size
            exact (HC.out u (hBi.out.trans (s3.out.mono (by omega))) v x hpv hpx).mono fun e u' ⟨he, hb'⟩ =>
              ⟨he, ((bcell hb').1 g j (by omega)).trans s1, ((bcell hb').1 g j' (by omega)).trans s2, Lib.hid (s3.out.trans (hb'.mono hsz))⟩)
          clear hpv hpx c1 c2 hj'
          go_wp2
          have e1 := E1.out
          have dd1 : decide ((0 : Int) < (j : Int)) = true := by simpa using i5
          have dd2 : decide (0 < j) = true := by simp; omega
          have dd3 : 0 < j := by omega
          go_region_held3 (fun w' => w'.cell? ⟨g, j, none⟩ = some (.int .i64 v) ∧ w'.cell? ⟨g, j', none⟩ = some (.int .i64 x) ∧ Hid (Below wr.heap.size wr w')) (first | assumption | go_keep)
            (first | (refine (CC.out _ (by assumption)).mono ?_; rintro e w2 ⟨rfl, hS⟩))
          try clear e1
          try clear e1
          have hbw : Below wr.heap.size wr w2 := hS.2.2.out
          have HO2 := Lib.hid (hOi.out.below hbw hgs)
          have HB2 := Lib.hid (hBi.out.trans (hbw.mono (by omega)))
          have c1 := hS.1
          have c2 := hS.2.1
          have f1 := HO2.out.frozen j
          have f2 := HO2.out.frozen j'
          clear hS hS0 CC hbw
          by_cases hl : c v x < 0
          · have hlv : ltOf c v x = true := by simpa [ltOf] using hl
            have hsw : InsAt (ltOf c) ((D'.set j x).set j' v) R k j' v t (Y ++ [x]) (D0.drop (k + 1)) := by
              have h := hI.out
              rw [HJ.out] at h ⊢
              exact h.swap hlv
            have HSW := Lib.hid hsw
            clear hsw hlv
            go_wp2
            have hs1 := HO2.out.store j x
            have s1 := hs1.cell (i := j') (x := x) (by rw [List.getElem?_set_ne (by have := HJ.out; omega)]; exact HCL.out.2)
            have s2 := hs1.frozen j'
            have HFI := Lib.hid (hs1.store j' v)
            have HBI := Lib.hid ((HB2.out.setCell (p := ⟨g, j, none⟩) (Nat.le_refl _) (.int .i64 x)).setCell (p := ⟨g, j', none⟩) (Nat.le_refl _) (.int .i64 v))
            have hpD' : Hid (∀ y ∈ (D'.set j x).set j' v, p y) := Lib.hid (by
              intro y hy
              rcases List.mem_or_eq_of_mem_set hy with hy | rfl
              · rcases List.mem_or_eq_of_mem_set hy with hy | rfl
                · exact hpD.out y hy
                · exact hpD.out _ (mem_getElem HCL.out.2)
              · exact hpD.out _ (mem_getElem HCL.out.1))
            clear hs1
            have e1 := E1.out
            go_region
            try clear e1
            all_goals go_wp2
            all_goals go_roundw
            case rel => exact ⟨j', _, t, Y ++ [x], by have := HJ.out; omega, int_of (by have := HJ.out; omega), HSW, hpD', Lib.hid HFI.out.drew, Lib.hid HBI.out.drew⟩
            case measure => simp [intOf]; omega
          · have hlv : ltOf c v x = false := by simpa [ltOf] using hl
            have hfin := Lib.hid (hnext.out (.inr ⟨x, t, rfl, hlv⟩))
            clear hlv hnext
            go_wp2
            go_roundw
            case rel => exact ⟨k + 1, D', _, by omega, by omega, by go_num, hfin, hR', HO2, HB2⟩
            case measure => simp [intOf]; omega
    · have hkn' : k = n := by omega
      subst hkn'
      have hfin : Own wr g 3 (isort (ltOf c) D0) := by
        have h := hO.out
        rw [hD.out, hR.out, List.take_of_length_le (by rw [HN.out]; omega), List.drop_of_length_le (by rw [HN.out]; omega), List.append_nil] at h
        exact h
      have HF := Lib.hid hfin
      clear hfin
      go_wp2
      go_end0
      exact ⟨rfl, HF.out, hB.out⟩
set_option maxRecDepth 100000

set_option maxRecDepth 100000 in
set_option maxHeartbeats 1000000 in
theorem stableCmpP {w : World} {g F : Nat} {pre : Value} {c : Int → Int → Int} {p : Int → Prop} {D0 : List Int} {cap : Nat}
    (hF : ∀ args (u : World), (callFunc F args).run Tryz.prog u = .ok (.enter F args) u)
    (hc : CmpsP w g F pre c p) (hp : ∀ x ∈ D0, p x) (ho : Own w g 3 D0) (hn : 1 ≤ D0.length) (hn2 : D0.length ≤ 12) :
    Calls Tryz.prog 59 #[.slice (some ⟨g, 0, none⟩) D0.length cap, .int .i64 D0.length, .func (.func F) #[pre] #[]] w
      fun e w' => e = .returned (.tuple #[]) ∧ Own w' g 3 (isort (ltOf c) D0) ∧ Below g w w' := by
  have C := insCmpP (cap := cap) hF hc hp ho hn (by omega)
  clear hc hp ho
  generalize isort (ltOf c) D0 = R at *
  generalize D0.length = n at *
  go_enter Tryz.func59, Tryz.ntmps59
  go_wp2
  refine wp_loop_rounds 1 ?_
  rw [rounds_succ]
  go_wp2_with (go_at_call 75; refine C.mono ?_; rintro e w1 ⟨rfl, hO, hB⟩)
  have HO := Lib.hid hO
  have HB := Lib.hid hB
  clear hO hB C
  refine wp_loop_rounds 1 ?_
  rw [rounds_succ]
  go_wp2
  go_end0
  exact ⟨rfl, HO.out, HB.out⟩
theorem sortStableP {w : World} {g F : Nat} {pre : Value} {c : Int → Int → Int} {p : Int → Prop} {D0 : List Int} {cap : Nat}
    (hF : ∀ args (u : World), (callFunc F args).run Tryz.prog u = .ok (.enter F args) u)
    (hc : CmpsP w g F pre c p) (hp : ∀ x ∈ D0, p x) (ho : Own w g 3 D0) (hn : 1 ≤ D0.length) (hn2 : D0.length ≤ 12) :
    Calls Tryz.prog 30 #[.slice (some ⟨g, 0, none⟩) D0.length cap, .func (.func F) #[pre] #[]] w
      fun e w' => e = .returned (.tuple #[]) ∧ Own w' g 3 (isort (ltOf c) D0) ∧ Below g w w' := by
  have C := stableCmpP (cap := cap) hF hc hp ho hn hn2
  clear hc hp ho
  generalize isort (ltOf c) D0 = R at *
  generalize D0.length = n at *
  go_enter Tryz.func30, Tryz.ntmps30
  go_wp2_with (go_at_call 59; refine C.mono ?_; rintro e w1 ⟨rfl, hO, hB⟩)
  go_end0
  exact ⟨rfl, hO, hB⟩
end Go.Proofs.YtkoipecnmijfoaaGreat
