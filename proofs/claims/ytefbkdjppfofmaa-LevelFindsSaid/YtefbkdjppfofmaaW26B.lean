import Derived.Test.YtefbkdjppfofmaaS26o
import Derived.Test.YtefbkdjppfofmaaW26s
import Derived.Deep.RegionLaw
import Derived.Test.YtefbkdjppfofmaaW26z
/-! Walks of chapter 26: the reference's shape and Compared. -/
namespace Go.Proofs.Ytefbkdjppfofmaa
open Go.RowKit Go.Deep
set_option linter.unusedVariables false
set_option maxRecDepth 100000

theorem OutAt.rd' {w0 : Nat} {w : World} {A : Option Addr} {T n : Nat} {out : List Int} (h : OutAt w0 w A T n out) (hl : out.length = n) (hn : n ≤ 1000) (hx : ∀ x ∈ out, I64 x) : Rd w w.heap.size A out := by
  rcases Nat.eq_zero_or_pos n with h0 | h0
  · have : out = [] := List.eq_nil_of_length_eq_zero (by omega)
    subst this
    exact Rd.nil _ _ _
  · obtain ⟨g, rfl, _, hP⟩ := h h0
    exact hP.rd hx (by omega) hP.lt
/-- a list in the call's own blocks -/
def ShRes (w : World) (L : List Int) (n : Nat) (e : Ending) (w' : World) : Prop :=
  ∃ A c, e = .returned (.slice A n c) ∧ Rd w' w'.heap.size A L ∧ Below w.heap.size w w'
set_option maxHeartbeats 4000000 in
theorem lrShape {w : World} {B : Nat} {A : Option Addr} {L : List Int} {cap n : Nat} (h : Rd w B A L) (hB : B ≤ w.heap.size) (hn : L.length = n) (hl : n ≤ 1000) :
    Calls Try.prog 44 #[.slice A n cap] w (ShRes w (sortI L) n) := by
  obtain ⟨j0, hj0, jz0, jz1, jz2⟩ := info_parts infoInt'
  have HJ := Lib.hid hj0
  have hal0 := Below.alloc (Below.refl w.heap.size w) (Nat.le_refl _) (.cells #[] 3)
  have hra := h.below hal0 hB
  have HRN := Lib.hid (rd_none hra)
  have HRC := Lib.hid (rd_cells hra)
  have HO0 := Lib.hid (own_empty w 3)
  have HAL0 := Lib.hid hal0
  have HS0 : Hid ((w.alloc (.cells #[] 3)).heap.size = w.heap.size + 1) := Lib.hid (by simp)
  have HMI : Hid ((L.map (Value.int .i64)).length = n * 1) := Lib.hid (by simp [hn])
  have HI64 : Hid (∀ x ∈ L, I64 x) := Lib.hid h.1
  have HN := Lib.hid hn
  rw [hn] at HRN
  clear hal0 hra hj0 h hn
  go_enter Try.func44, Try.ntmps44
  generalize hw4 : w.alloc (.cells #[] 3) = w4 at *
  go_wp2_with (at_builtin; refine wpList_append_opt rfl _ _ 23 rfl w.heap.size 3 j0 (.int .i64 0) 1 8 Try.underlying23 HJ.out jz0 jz1 jz2 rfl (by decide) _ 0 [] rfl HO0.out A n cap (L.map (Value.int .i64)) rfl HMI.out HRN.out HRC.out (ints_oneCell _ _) (by unfold maxLen; omega) (by omega) (by rw [HS0.out]; omega) ?_)
  intro v5 w5 hown5 hgr5 _
  rw [← HN.out] at hown5
  obtain ⟨A5, c5, rfl, hO5⟩ := out_of_row hown5 (Nat.le_refl _)
  have hb5 : Below w.heap.size w w5 := HAL0.out.grown hgr5 (by rw [HS0.out]; omega) (by intro k hk; simp [Value.ownBlock] at hk; omega)
  rw [HN.out] at hO5 ⊢
  have HO5 := Lib.hid hO5
  have HB5 := Lib.hid hb5
  clear hown5 hgr5 hO5 hb5 HO0 HAL0 HS0 HRC hw4 HRN HMI
  go_wp2_with fail
  go_loopw [4] (fun iv wr => ∃ (i : Nat) (X : List Int), 1 ≤ i ∧ i ≤ max n 1 ∧ iv = .int .i64 i ∧ Hid (X.Perm L) ∧ Hid (SortedTo X i) ∧ Hid (OutAt w.heap.size wr A5 3 n X) ∧ Hid (Below w.heap.size w wr)) (fun iv _ => n + 2 - (intOf iv).toNat)
  case atStart => exact ⟨1, L, by omega, by omega, rfl, Lib.hid (List.Perm.refl L), Lib.hid (SortedTo.one L), HO5, HB5⟩
  case round =>
    clear HO5 HB5
    obtain ⟨i, X, h1, hi, rfl, hp, hs, ho, hb⟩ := hrel
    by_cases hlt : i < n
    · have HSB := Lib.hid hs.out.begin
      have HP0 := hp
      clear hs
      go_wp2_with fail
      obtain ⟨wo, hwo⟩ : ∃ wo : World, wo = wr := ⟨_, rfl⟩
      go_loopw [5] (fun kv wr => ∃ (k : Nat) (X : List Int), k ≤ i ∧ kv = .int .i64 k ∧ Hid (X.Perm L) ∧ Hid (SortedBut X i k) ∧ Hid (OutAt w.heap.size wr A5 3 n X) ∧ Hid (Below w.heap.size w wr)) (fun kv _ => (intOf kv).toNat)
      case atStart => exact ⟨i, X, by omega, rfl, hp, HSB, ho, hb⟩
      case round =>
        clear hp ho hb hwo HSB HP0
        obtain ⟨k, X, hk, rfl, hp, hs, ho, hb⟩ := hrel
        have hXl : X.length = n := hp.out.length_eq.trans HN.out
        by_cases hk0 : k = 0
        · subst hk0
          have HST := Lib.hid (hs.out.end_ (by omega) (.inl rfl))
          clear hs hXl
          go_wp2_with fail
          go_quiet (fail)
          have HO2 := Lib.hid (ho.out.drewN nq)
          have HB2 := Lib.hid (below_drewN hb.out nq)
          clear ho hb
          generalize wr.drewN nq = wd at *
          go_wp2
          go_roundw
          case rel => exact ⟨i + 1, X, by omega, by omega, by go_num, hp, HST, HO2, HB2⟩
          case measure => simp [intOf]; omega
        · obtain ⟨j, rfl⟩ : ∃ j, k = j + 1 := ⟨k - 1, by omega⟩
          obtain ⟨g, rfl, hg, hP⟩ := ho.out (by omega)
          have hjn : j < n := by omega
          have hj1n : j + 1 < n := by omega
          obtain ⟨u, hu⟩ : ∃ u, X[j]? = some u := ⟨X[j]'(by omega), by simp⟩
          obtain ⟨v, hv⟩ : ∃ v, X[j + 1]? = some v := ⟨X[j + 1]'(by omega), by simp⟩
          have cu := hP.cell hu
          have cv := hP.cell hv
          have fu := hP.frozen j
          have fv := hP.frozen (j + 1)
          have hgu : X.getD j 0 = u := by rw [List.getD_eq_getElem?_getD, hu]; rfl
          have hgv : X.getD (j + 1) 0 = v := by rw [List.getD_eq_getElem?_getD, hv]; rfl
          have HGU := Lib.hid hgu
          have HGV := Lib.hid hgv
          have HPX := Lib.hid hP
          have HXL := Lib.hid hXl
          have hwj : IntKind.i64.wrap (j : Int) = j := IntWalk.i64_in _ (by omega)
          have q0 : decide ((0 : Int) < ((j + 1 : Nat) : Int)) = true := decide_eq_true (by omega)
          have q1 : decide ((0 : Int) < (j : Int) + 1) = true := decide_eq_true (by omega)
          clear hu hv hgu hgv hP hXl
          by_cases hlt2 : v < u
          · have q2 : decide (v < u) = true := decide_eq_true hlt2
            have HLT := Lib.hid hlt2
            clear hlt2
            go_wp2_with fail
            go_quiet (fail)
            have hPd : OwnP (wr.drewN nq) g 3 X := HPX.out.drewN nq
            have HB2 := Lib.hid (below_drewN hb.out nq)
            clear cu cv fu fv ho hb HPX
            generalize wr.drewN nq = wd at *
            have hPd2 : OwnP wd.drew g 3 X := hPd.drew
            have hu : X[j]? = some u := by
              have := HGU.out
              rw [List.getD_eq_getElem?_getD, List.getElem?_eq_getElem (show j < X.length by rw [HXL.out]; exact hjn)] at this
              rw [List.getElem?_eq_getElem (show j < X.length by rw [HXL.out]; exact hjn)]
              exact congrArg some this
            have hv : X[j + 1]? = some v := by
              have := HGV.out
              rw [List.getD_eq_getElem?_getD, List.getElem?_eq_getElem (show j + 1 < X.length by rw [HXL.out]; exact hj1n)] at this
              rw [List.getElem?_eq_getElem (show j + 1 < X.length by rw [HXL.out]; exact hj1n)]
              exact congrArg some this
            have cu := hPd2.cell hu
            have cv := hPd2.cell hv
            have fu := hPd2.frozen j
            have fv := hPd2.frozen (j + 1)
            have cu0 := hPd.cell hu
            have cv0 := hPd.cell hv
            have fu0 := hPd.frozen j
            have fv0 := hPd.frozen (j + 1)
            have HS : Hid (SortedBut (swapL X j) i j) := Lib.hid (hs.out.step hk (by rw [HXL.out]; exact hj1n) (by rw [HGU.out, HGV.out]; exact HLT.out))
            have HPP : Hid ((swapL X j).Perm L) := Lib.hid ((swapL_perm (by rw [HXL.out]; exact hj1n)).trans hp.out)
            have HOO : Hid (OutAt w.heap.size ((wd.setCell ⟨g, j + 1, none⟩ (.int .i64 u)).setCell ⟨g, j, none⟩ (.int .i64 v)).drew (some ⟨g, 0, none⟩) 3 n (swapL X j)) := Lib.hid fun _ => ⟨g, rfl, hg, by
              rw [swapL, HGU.out, HGV.out]
              exact ((hPd.store (j + 1) u).store j v).drew⟩
            have HBB : Hid (Below w.heap.size w ((wd.setCell ⟨g, j + 1, none⟩ (.int .i64 u)).setCell ⟨g, j, none⟩ (.int .i64 v)).drew) := Lib.hid ((HB2.out.setCell (p := ⟨g, j + 1, none⟩) hg _).setCell (p := ⟨g, j, none⟩) hg _).drew
            clear hPd hPd2 hu hv hs hp
            go_wp2_with fail
            have i1 : (0 : Int) ≤ (j : Int) + 1 := by omega
            have i2 : (j : Int) + 1 < (n : Int) := by omega
            go_region_law (fail)
            all_goals
              go_wp2
              go_roundw
              case rel => exact ⟨j, swapL X j, by omega, by go_num, HPP, HS, HOO, HBB⟩
              case measure => simp [intOf]
          · have q2 : decide (v < u) = false := decide_eq_false hlt2
            have HST := Lib.hid (hs.out.end_ hk (.inr (by rw [Nat.add_sub_cancel, HGU.out, HGV.out]; exact hlt2)))
            clear hlt2 hs
            go_wp2_with fail
            go_quiet (fail)
            have HO2 := Lib.hid (ho.out.drewN nq)
            have HB2 := Lib.hid (below_drewN hb.out nq)
            clear ho hb cu cv fu fv HPX
            generalize wr.drewN nq = wd at *
            go_wp2
            go_roundw
            case rel => exact ⟨i + 1, X, by omega, by omega, by go_num, hp, HST, HO2, HB2⟩
            case measure => simp [intOf]; omega
    · have hXl : X.length = n := hp.out.length_eq.trans HN.out
      have hso : X = sortI L := sorted_all (fun p q h2 h3 => hs.out p q h2 (by omega)) hp.out
      have hrd := ho.out.rd' hXl hl (fun x hx => HI64.out x (hp.out.mem_iff.1 hx))
      rw [hso] at hrd
      have HRD := Lib.hid hrd
      clear hXl hso hrd hs ho
      go_wp2
      go_ret
      exact ⟨A5, c5, rfl, HRD.out, hb.out⟩
set_option maxHeartbeats 2000000 in
theorem lrCompared {w : World} {B C : Nat} {A A' : Option Addr} {X Y : List Int} {cap cap' n : Nat} (h : Rd w B A X) (h' : Rd w C A' Y) (hB : B ≤ w.heap.size) (hC : C ≤ w.heap.size) (hX : X.length = n) (hY : Y.length = n) (hl : n ≤ 1000) :
    Calls Try.prog 21 #[.slice A n cap, .slice A' n cap'] w fun e w' => e = .returned (.int .i64 (cmpS X Y)) ∧ Below w.heap.size w w' := by
  have C1 := lrShape (cap := cap) h hB hX hl
  have C2 : Hid (∀ u : World, Below w.heap.size w u → Calls Try.prog 44 #[.slice A' n cap'] u (ShRes u (sortI Y) n)) := Lib.hid fun u hu => lrShape (cap := cap') (h'.below hu hC) (Nat.le_trans hC hu.size) hY hl
  have HC : Hid (cmpS X Y = cmpL (sortI X) (sortI Y)) := Lib.hid (cmpS_sort (hX.trans hY.symm))
  have HX : Hid ((sortI X).length = n) := Lib.hid (by rw [sortI_length]; exact hX)
  have HY : Hid ((sortI Y).length = n) := Lib.hid (by rw [sortI_length]; exact hY)
  clear h h' hX hY
  generalize sortI X = X' at *
  generalize sortI Y = Y' at *
  generalize cmpS X Y = r at *
  go_enter Try.func21, Try.ntmps21
  go_wp2_with fail
  refine C1.mono ?_
  rintro e w1 ⟨A1, c1, rfl, r1, b1⟩
  have R1 := Lib.hid r1
  have B1 := Lib.hid b1
  clear r1 b1 C1
  go_wp2_with fail
  refine (C2.out w1 B1.out).mono ?_
  rintro e w2 ⟨A2, c2, rfl, r2, b2⟩
  have R2 := Lib.hid r2
  have R12 := Lib.hid ((R1.out.below b2 (Nat.le_refl _)).more b2.size)
  have B2 := Lib.hid (B1.out.trans (b2.mono B1.out.size))
  clear r2 b2 C2 R1
  go_wp2_with fail
  go_loopw [7] (fun iv wr => ∃ (k : Nat), k ≤ n ∧ iv = .int .i64 k ∧ Hid (cmpL (X'.drop k) (Y'.drop k) = cmpL X' Y') ∧ Hid (Below w2.heap.size w2 wr)) (fun iv _ => n - (intOf iv).toNat)
  case atStart => exact ⟨0, by omega, rfl, Lib.hid rfl, Lib.hid (Below.refl _ _)⟩
  case round =>
    obtain ⟨k, hk, rfl, hr, hb⟩ := hrel
    by_cases hlt : k < n
    · obtain ⟨b, off, x, rfl, hb1, hx, hi, hc⟩ := (R12.out.below hb.out (Nat.le_refl _)).at_ (k := k) (by rw [HX.out]; exact hlt)
      obtain ⟨b', off', y, rfl, hb2, hy, hi', hc'⟩ := (R2.out.below hb.out (Nat.le_refl _)).at_ (k := k) (by rw [HY.out]; exact hlt)
      have hst := cmpL_drop hx hy
      rw [hr.out] at hst
      have HST := Lib.hid hst
      clear hst hx hy hi hi' hb1 hb2
      by_cases h1 : y < x
      · have HV : Hid (r = 1) := Lib.hid (by
          have e : cmpI26 x y = 1 := by rw [cmpI26, if_neg (by omega), if_pos h1]
          rw [HC.out, HST.out, e, if_neg (by decide)])
        have q1 : decide (y < x) = true := decide_eq_true h1
        clear HST
        go_wp2_with fail
        go_quiet (fail)
        have HWD := Lib.hid (below_drewN hb.out nq)
        clear hc hc' hb
        generalize wr.drewN nq = wd at *
        go_wp2
        go_ret
        exact ⟨ret_int HV.out.symm, B2.out.trans (HWD.out.mono B2.out.size)⟩
      · have q1 : decide (y < x) = false := decide_eq_false h1
        by_cases h2 : x < y
        · have HV : Hid (r = -1) := Lib.hid (by
            have e : cmpI26 x y = -1 := by rw [cmpI26, if_pos h2]
            rw [HC.out, HST.out, e, if_neg (by decide)])
          have q2 : decide (x < y) = true := decide_eq_true h2
          clear HST
          go_wp2_with fail
          go_quiet (fail)
          have HWD := Lib.hid (below_drewN hb.out nq)
          have hd : (wr.drewN nq).cell? ⟨b, off + k, none⟩ = some (.int .i64 x) := hc
          have hd' : (wr.drewN nq).cell? ⟨b', off' + k, none⟩ = some (.int .i64 y) := hc'
          clear hc hc' hb
          generalize wr.drewN nq = wd at *
          go_wp2_with fail
          go_quiet (fail)
          have HWE := Lib.hid (below_drewN HWD.out nq)
          clear hd hd'
          generalize wd.drewN nq = we at *
          go_wp2
          go_ret
          exact ⟨ret_int HV.out.symm, B2.out.trans (HWE.out.mono B2.out.size)⟩
        · have HN : Hid (cmpL (X'.drop (k + 1)) (Y'.drop (k + 1)) = cmpL X' Y') := Lib.hid (by
            have e : cmpI26 x y = 0 := by rw [cmpI26, if_neg h2, if_neg h1]
            rw [HST.out, e, if_pos rfl])
          have q2 : decide (x < y) = false := decide_eq_false h2
          clear HST
          go_wp2_with fail
          go_quiet (fail)
          have HWD := Lib.hid (below_drewN hb.out nq)
          have hd : (wr.drewN nq).cell? ⟨b, off + k, none⟩ = some (.int .i64 x) := hc
          have hd' : (wr.drewN nq).cell? ⟨b', off' + k, none⟩ = some (.int .i64 y) := hc'
          clear hc hc' hb
          generalize wr.drewN nq = wd at *
          go_wp2_with fail
          go_quiet (fail)
          have HWE := Lib.hid (below_drewN HWD.out nq)
          clear hd hd'
          generalize wd.drewN nq = we at *
          go_wp2
          go_roundw
          case rel => exact ⟨k + 1, by omega, by go_num, HN, HWE⟩
          case measure => simp [intOf]; omega
    · have hz : r = 0 := by
        rw [HC.out, ← hr.out, List.drop_eq_nil_of_le (by rw [HX.out]; omega)]
        cases Y'.drop k <;> rfl
      have HZ := Lib.hid hz
      clear hz hr
      go_wp2
      go_ret
      exact ⟨ret_int HZ.out.symm, B2.out.trans (hb.out.mono B2.out.size)⟩
end Go.Proofs.Ytefbkdjppfofmaa
