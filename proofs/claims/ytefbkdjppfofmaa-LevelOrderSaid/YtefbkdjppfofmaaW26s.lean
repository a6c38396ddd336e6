import Derived.Test.YtefbkdjppfofmaaW26r
/-! Walks of chapter 26: pass. -/
namespace Go.Proofs.Ytefbkdjppfofmaa
open Go.RowKit Go.Deep
set_option linter.unusedVariables false
set_option maxRecDepth 100000

theorem passB_of {W : List (List Bool)} {a : List Int} {p q k : Nat} {x : Int} (h : a.getD k 0 = x) : passB W a p q k = (decide (x = (p : Int)) && wishB W q k) := by rw [passB, h]
/-- the allocation in the making -/
def OutAt (w0 : Nat) (w : World) (A : Option Addr) (T n : Nat) (out : List Int) : Prop := 0 < n → ∃ g, A = some ⟨g, 0, none⟩ ∧ w0 ≤ g ∧ OwnP w g T out
theorem OutAt.drewN {w0 : Nat} {w : World} {A : Option Addr} {T n : Nat} {out : List Int} (h : OutAt w0 w A T n out) (k : Nat) : OutAt w0 (w.drewN k) A T n out := h
theorem OutAt.rd {w0 : Nat} {w : World} {A : Option Addr} {T n : Nat} {out : List Int} (h : OutAt w0 w A T n out) (hl : out.length = n) (hn : n ≤ 10) (hx : ∀ x ∈ out, -1 ≤ x ∧ x < 100) : Rd w w.heap.size A out := by
  rcases Nat.eq_zero_or_pos n with h0 | h0
  · have : out = [] := List.eq_nil_of_length_eq_zero (by omega)
    subst this
    exact Rd.nil _ _ _
  · obtain ⟨g, rfl, _, hP⟩ := h h0
    exact hP.rd (fun x h => by have := hx x h; unfold I64; omega) (by omega) hP.lt
theorem out_of_row {w : World} {w0 base T : Nat} {v : Value} {L : List Int} (h : w.ownsRow base T 1 v L.length (L.map (Value.int .i64))) (hb : w0 ≤ base) : ∃ A c, v = .slice A L.length c ∧ OutAt w0 w A T L.length L := by
  by_cases h0 : 0 < L.length
  · obtain ⟨g, c, rfl, hg, hP⟩ := ownP_of_row h h0
    exact ⟨_, c, rfl, fun _ => ⟨g, rfl, by omega, hP⟩⟩
  · obtain ⟨A, c, rfl, _⟩ := row_slice h
    exact ⟨A, c, rfl, fun h => absurd h h0⟩
theorem rd_none {w : World} {B : Nat} {A : Option Addr} {L : List Int} (h : Rd w B A L) : A = none → L.length = 0 := fun hA => by
  rcases Nat.eq_zero_or_pos L.length with h0 | h0
  · exact h0
  · obtain ⟨b, o, e, _⟩ := h.2.2 h0
    rw [hA] at e; cases e
theorem rd_cells {w : World} {B : Nat} {A : Option Addr} {L : List Int} (h : Rd w B A L) : ∀ ad, A = some ad → ∀ (j : Nat) (u : Value), (L.map (Value.int .i64))[j]? = some u → w.cell? (ad.add j) = some u := by
  intro ad hA j u hu
  have hl : 0 < L.length := by
    have := (List.getElem?_eq_some_iff.1 hu).1
    simp at this; omega
  obtain ⟨b, o, e, _, hc⟩ := h.2.2 hl
  rw [hA] at e
  cases e
  exact cells_ints hc j u hu
set_option maxHeartbeats 4000000 in
theorem lPass {w : World} {B C D : Nat} {A A' A3 : Option Addr} {W : List (List Bool)} {a : List Int} {P : List Nat} {cap cap' cap3 m n : Nat} (hW : RdB2 w B A W) (ha : Rd w C A' a) (hP : Rd w D A3 (NL P)) (hB : B ≤ w.heap.size) (hC : C ≤ w.heap.size) (hD : D ≤ w.heap.size)
    (v : VW m n W) (hn : a.length = n) (hx : ∀ x ∈ a, -1 ≤ x ∧ x < m) (hPm : ∀ x ∈ P, x < m) (hPl : P.length ≤ 100) {f : Nat} (hf : f ≤ 100) :
    Calls Try.prog 35 #[.slice A W.length cap, .slice A' a.length cap', .slice A3 P.length cap3, .int .i64 f] w (PassRes w (passF W a f P a)) := by
  have n10 := v.n10
  have m6 := v.m6
  have hwl := hW.len
  have hal := ha.len
  have a10 : a.length ≤ 10 := by omega
  have CK := cloneA (cap := cap') ha hC
  have HW := Lib.hid hW
  have HA := Lib.hid ha
  have HP := Lib.hid hP
  have HV := Lib.hid v
  have HN := Lib.hid hn
  have HX := Lib.hid hx
  have HPM := Lib.hid hPm
  clear hW ha hP v hn hx hPm
  generalize hr : passF W a f P a = r
  have HR := Lib.hid hr
  clear hr
  go_enter Try.func35, Try.ntmps35
  go_wp2_with fail
  refine CK.mono ?_
  rintro e w1 ⟨A1, c1, rfl, hrow, hb1⟩
  have HROW := Lib.hid hrow
  have HB1 := Lib.hid hb1
  clear CK hrow hb1
  go_wp2_with fail
  go_loopw [11] (fun iv wr => ∃ (i : Nat) (out : List Int), i ≤ P.length ∧ iv = .int .i64 ((i : Int) + 1) ∧ Hid (passF W a f (P.drop i) out = r) ∧ Hid (out.length = a.length) ∧ Hid (∀ x ∈ out, -1 ≤ x ∧ x < 100) ∧ Hid (OutAt w.heap.size wr A1 3 a.length out) ∧ Hid (Below w.heap.size w wr)) (fun iv _ => P.length + 2 - (intOf iv).toNat)
  case atStart => exact ⟨0, a, by omega, rfl, HR, Lib.hid rfl, Lib.hid (fun x hx => by have := HX.out x hx; omega), HROW, HB1⟩
  case round =>
    obtain ⟨i, out, hi, rfl, hr, hol, hox, ho, hb⟩ := hrel
    by_cases hlt : i + 1 < P.length
    · obtain ⟨p, hp⟩ : ∃ p, P[i]? = some p := ⟨P[i], by simp⟩
      obtain ⟨q, hq⟩ : ∃ q, P[i + 1]? = some q := ⟨P[i + 1], by simp⟩
      have hst := hr.out
      rw [passF_at hp hq] at hst
      have HST := Lib.hid hst
      have hqm : q < m := HPM.out q (List.mem_of_getElem? hq)
      have hpm : p < m := HPM.out p (List.mem_of_getElem? hp)
      obtain ⟨bl, ol, rfl, hbl, hcl⟩ := HP.out.2.2 (by rw [NL_length]; omega)
      have HP0 : Hid (w.cell? ⟨bl, ol + i, none⟩ = some (.int .i64 (p : Int))) := Lib.hid (hcl i _ (NL_at hp))
      have HQ0 : Hid (w.cell? ⟨bl, ol + (i + 1), none⟩ = some (.int .i64 (q : Int))) := Lib.hid (hcl (i + 1) _ (NL_at hq))
      have hblw : bl < w.heap.size := by omega
      clear hst hp hq hcl hr
      go_wp2_with fail
      obtain ⟨wo, hwo⟩ : ∃ wo : World, wo = wr := ⟨_, rfl⟩
      go_loopw [12, 13] (fun fv gv wr => ∃ (k : Nat), k ≤ 100 ∧ gv = .int .i64 k ∧ ((fv = .int .i64 (-1) ∧ Hid (goodK W a p q k = goodK W a p q f)) ∨ ∃ g : Nat, fv = .int .i64 g ∧ g ≤ 100 ∧ Hid (goodK W a p q f = some g)) ∧ Hid (OutAt w.heap.size wr A1 3 a.length out) ∧ Hid (Below w.heap.size w wr)) (fun _ gv _ => 101 - (intOf gv).toNat)
      case atStart => exact ⟨f, hf, rfl, .inl ⟨rfl, Lib.hid rfl⟩, ho, hb⟩
      case round =>
        clear ho hb hwo
        obtain ⟨k, hk, rfl, hcase, ho, hb⟩ := hrel
        rcases hcase with ⟨rfl, hg⟩ | ⟨g, rfl, hg100, hg⟩
        · by_cases hkl : k < a.length
          · have hkn : k < n := by rw [← HN.out]; exact hkl
            obtain ⟨b, off, x, eA, hbA, hxa, hi64, hca⟩ := (HA.out.below hb.out hC).at_ hkl
            have hxg : a.getD k 0 = x := by rw [List.getD_eq_getElem?_getD, hxa]; rfl
            have hpc : wr.cell? ⟨bl, ol + i, none⟩ = some (.int .i64 (p : Int)) := (cell_below hb.out hblw).trans HP0.out
            have hqc : wr.cell? ⟨bl, ol + (i + 1), none⟩ = some (.int .i64 (q : Int)) := (cell_below hb.out hblw).trans HQ0.out
            obtain ⟨b', off', A2, c2, b3, o3, row, eW, eA2, g1, g2, _, _⟩ := wish_cell (HW.out.below hb.out hB) HV.out hqm hkn
            subst eA eW eA2
            have hpb := passB_of (W := W) (p := p) (q := q) hxg
            have HPB := Lib.hid hpb
            clear hxg hpb hxa hi64 hbA
            generalize wishB W q k = y at *
            have hil : i < P.length := by omega
            have hqW : q < W.length := by rw [HV.out.len]; exact hqm
            have hwi : IntKind.i64.wrap (i : Int) = i := IntWalk.i64_in _ (by omega)
            by_cases hxp : x = (p : Int)
            · subst hxp
              have hbt : ((p : Int) == (p : Int)) = true := beq_self_eq_true _
              cases y
              · have HNX : Hid (goodK W a p q (k + 1) = goodK W a p q f) := Lib.hid (by rw [← hg.out]; exact (goodK_no hkl (by rw [HPB.out]; simp)).symm)
                clear hg HPB
                go_wp2_with fail
                go_quiet (fail)
                have HO2 := Lib.hid (ho.out.drewN nq)
                have HB2 := Lib.hid (below_drewN hb.out nq)
                clear ho hb hca hpc hqc g1 g2
                generalize wr.drewN nq = wd at *
                go_wp2
                go_roundw
                case rel => exact ⟨k + 1, by omega, by go_num, .inl ⟨rfl, HNX⟩, HO2, HB2⟩
                case measure => simp [intOf]; omega
              · have HNX : Hid (goodK W a p q f = some k) := Lib.hid (by rw [← hg.out]; exact goodK_yes hkl (by rw [HPB.out]; simp))
                clear hg HPB
                go_wp2_with fail
                go_quiet (fail)
                have HO2 := Lib.hid (ho.out.drewN nq)
                have HB2 := Lib.hid (below_drewN hb.out nq)
                clear ho hb hca hpc hqc g1 g2
                generalize wr.drewN nq = wd at *
                go_wp2
                go_roundw
                case rel => exact ⟨k + 1, by omega, by go_num, .inr ⟨k, rfl, by omega, HNX⟩, HO2, HB2⟩
                case measure => simp [intOf]; omega
            · have hbf : (x == (p : Int)) = false := by simpa using hxp
              have HNX : Hid (goodK W a p q (k + 1) = goodK W a p q f) := Lib.hid (by rw [← hg.out]; exact (goodK_no hkl (by rw [HPB.out, decide_eq_false hxp]; rfl)).symm)
              clear hg HPB hxp
              go_wp2_with fail
              go_quiet (fail)
              have HO2 := Lib.hid (ho.out.drewN nq)
              have HB2 := Lib.hid (below_drewN hb.out nq)
              clear ho hb hca hpc hqc g1 g2
              generalize wr.drewN nq = wd at *
              go_wp2
              go_roundw
              case rel => exact ⟨k + 1, by omega, by go_num, .inl ⟨rfl, HNX⟩, HO2, HB2⟩
              case measure => simp [intOf]; omega
          · have HNONE : Hid (goodK W a p q f = none) := Lib.hid (by rw [← hg.out]; exact goodK_end (by omega))
            have HRN : Hid (r = none) := Lib.hid (by rw [← HST.out, HNONE.out])
            clear hg HNONE
            go_wp2
            go_ret2
            rw [HRN.out]
            exact ⟨none, 0, rfl, Rd.nil _ _ _, hb.out⟩
        · have hgs := goodK_some hg.out
          have HNX : Hid (passF W a f (P.drop (i + 1)) (out.set g (q : Int)) = r) := Lib.hid (by rw [← HST.out, hg.out])
          have hgl := hgs.1
          obtain ⟨g1, rfl, hg1, hPo⟩ := ho.out (by omega)
          obtain ⟨y, hy⟩ : ∃ y, out[g]? = some y := ⟨out[g]'(by rw [hol.out]; exact hgl), by simp⟩
          have oc := hPo.cell hy
          have ofz := hPo.frozen g
          have hqc : wr.cell? ⟨bl, ol + (i + 1), none⟩ = some (.int .i64 (q : Int)) := (cell_below hb.out hblw).trans HQ0.out
          have HO2 : Hid (OutAt w.heap.size (wr.setCell ⟨g1, g, none⟩ (.int .i64 (q : Int))) (some ⟨g1, 0, none⟩) 3 a.length (out.set g (q : Int))) := Lib.hid fun _ => ⟨g1, rfl, hg1, hPo.store g _⟩
          have HB2 := Lib.hid (hb.out.setCell (p := ⟨g1, g, none⟩) hg1 (.int .i64 (q : Int)))
          have HOL : Hid ((out.set g (q : Int)).length = a.length) := Lib.hid (by rw [List.length_set]; exact hol.out)
          have HOX : Hid (∀ x ∈ out.set g (q : Int), -1 ≤ x ∧ x < 100) := Lib.hid fun x hx => by
            rcases List.mem_or_eq_of_mem_set hx with h | h
            · exact hox.out x h
            · subst h; omega
          clear hgs hg hPo hy ho hb hol hox
          by_cases hkl : k < a.length
          · go_wp2
            go_roundw
            case rel => exact ⟨i + 1, _, by omega, by go_num, HNX, HOL, HOX, HO2, HB2⟩
            case measure => simp [intOf]; omega
          · go_wp2
            go_roundw
            case rel => exact ⟨i + 1, _, by omega, by go_num, HNX, HOL, HOX, HO2, HB2⟩
            case measure => simp [intOf]; omega
    · have HRE : Hid (r = some out) := Lib.hid (by rw [← hr.out, passF_short (by rw [List.length_drop]; omega)])
      have hrd := ho.out.rd hol.out a10 hox.out
      have HRD := Lib.hid hrd
      clear hr hrd ho
      go_wp2
      go_ret2
      rw [HRE.out]
      exact ⟨A1, c1, by rw [show ((some out).getD []).length = a.length from hol.out]; rfl, HRD.out, hb.out⟩
end Go.Proofs.Ytefbkdjppfofmaa
