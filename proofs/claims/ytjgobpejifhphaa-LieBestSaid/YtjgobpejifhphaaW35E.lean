import Derived.Test.YtjgobpejifhphaaW35C
import Derived.Test.YtjgobpejifhphaaS35f
import Derived.Deep.DeepCutAuto
import Derived.Deep.CutBlock
/-! Walks of chapter 35: the law of the best report. -/
namespace Go.Proofs.Ytjgobpejifhphaa
open Go.RowKit Go.Deep
set_option linter.unusedVariables false
set_option maxRecDepth 100000

/-- the first place where a list that comes later parts -/
theorem lex_first {L b : List Int} {k : Nat} {x y : Int} (h : L = b ∨ LexLt b L) (ht : L.take k = b.take k) (hx : L[k]? = some x) (hy : b[k]? = some y) (hne : x ≠ y) : y < x := by
  rcases h with rfl | ⟨q, u, v, h1, h2, h3, h4⟩
  · rw [hx] at hy; exact absurd (Option.some.inj hy) hne
  · rcases Nat.lt_trichotomy k q with h | h | h
    · have e1 : (b.take q)[k]? = some y := by rw [List.getElem?_take_of_lt h]; exact hy
      rw [h1, List.getElem?_take_of_lt h, hx] at e1
      exact absurd (Option.some.inj e1) hne
    · subst h
      rw [h2] at hy
      rw [h3] at hx
      cases hx; cases hy
      exact h4
    · have e1 : (L.take k)[q]? = some v := by rw [List.getElem?_take_of_lt h]; exact h3
      rw [ht, List.getElem?_take_of_lt h, h2] at e1
      have := Option.some.inj e1
      omega
set_option maxHeartbeats 8000000 in
theorem lieBest {w : World} {AS AO A A' A3 AL : Option Addr} {S P O V L : List Int} {R : List (List Int)} {capS capP cap cap' cap3 capL : Nat} (hS : Rd w w.heap.size AS S) (hP : Rd w w.heap.size AO P) (h : Rd w w.heap.size A O) (h' : Rd2 w w.heap.size A' R) (h3 : Rd w w.heap.size A3 V) (h4 : Rd w w.heap.size AL L)
    (p wv other a : Int) (_hp : I64 p) (_hwv : I64 wv) (_hot : I64 other) (_ha : I64 a) :
    Calls Try.prog 4 #[.slice AS S.length capS, .slice AO P.length capP, .int .i64 p, .int .i64 wv, .int .i64 other, .slice A O.length cap, .slice A' R.length cap', .int .i64 a, .slice A3 V.length cap3, .slice AL L.length capL] w fun e w' => e = .returned (.bool true) ∧ Below w.heap.size w w' := by
  have HS := Lib.hid fun (u : World) (hu : Below w.heap.size w u) => hS.below hu (Nat.le_refl _)
  have HP := Lib.hid fun (u : World) (hu : Below w.heap.size w u) => hP.below hu (Nat.le_refl _)
  have H := Lib.hid fun (u : World) (hu : Below w.heap.size w u) => h.below hu (Nat.le_refl _)
  have H' := Lib.hid fun (u : World) (hu : Below w.heap.size w u) => h'.below hu (Nat.le_refl _)
  have H3 := Lib.hid fun (u : World) (hu : Below w.heap.size w u) => h3.below hu (Nat.le_refl _)
  have H4 := Lib.hid fun (u : World) (hu : Below w.heap.size w u) => h4.below hu (Nat.le_refl _)
  have l1 := h.len
  have l2 := h'.len
  have l3 := h3.len
  have l4 := h4.len
  have l5 := hS.len
  have l6 := hP.len
  clear h h' h3 h4 hS hP
  go_enter Try.func4, Try.ntmps4
  go_wp2_with fail
  refine alive35.mono ?_
  rintro e w1 ⟨rfl, hb1⟩
  have HB1 := Lib.hid hb1
  clear hb1
  have CG := great35 (cap := cap) (cap' := cap') (cap3 := cap3) (H.out _ HB1.out) (H'.out _ HB1.out) (H3.out _ HB1.out)
  go_wp2_with fail
  refine CG.mono ?_
  rintro e w2 ⟨b, rfl, rfl, hg⟩
  clear CG
  cases b
  case true =>
    clear hg
    go_wp2
    go_ret
    exact ⟨rfl, HB1.out⟩
  clear hg
  by_cases hL30 : 30 < L.length
  · have d1 : decide (30 < (L.length : Int)) = true := decide_eq_true (by omega)
    clear hL30
    go_wp2
    go_ret
    exact ⟨rfl, HB1.out⟩
  have d1 : decide (30 < (L.length : Int)) = false := decide_eq_false (by omega)
  have COF : Hid (Calls Try.prog 15 #[.slice AS S.length capS, .slice AO P.length capP] w1 fun e w' => e = .returned (.int .i64 (lok S P)) ∧ w1 = w') := Lib.hid (rOffers (HS.out _ HB1.out) (HP.out _ HB1.out))
  obtain ⟨good, hgood⟩ : ∃ good : Bool, good = decide (lok S P = 0 ∧ 0 ≤ p ∧ p < (S.length : Int) ∧ 0 ≤ wv ∧ wv ≤ 1000000 ∧ 0 ≤ other ∧ other ≤ 100) := ⟨_, rfl⟩
  have HGOOD := Lib.hid hgood
  clear hgood
  go_upto_region 4 with fail
  go_cut [20, 83] (fun t c wx => t = .bool false ∧ c = .bool good ∧ wx = w1)
  case first =>
    as_aux_lemma =>
    have BAD : Hid (¬ (lok S P = 0 ∧ 0 ≤ p ∧ p < (S.length : Int) ∧ 0 ≤ wv ∧ wv ≤ 1000000 ∧ 0 ≤ other ∧ other ≤ 100) → good = false) := Lib.hid fun h => by rw [HGOOD.out]; exact decide_eq_false h
    by_cases c1 : lok S P = 0
    case neg =>
      have e := BAD.out (by omega)
      have q : (lok S P == 0) = false := by rw [beq_eq_false_iff_ne]; exact c1
      clear BAD HGOOD
      subst e
      generalize lok S P = lk at *
      clear c1
      go_wp2_with (go_at_call 15; refine COF.out.mono ?_; rintro e w' ⟨rfl, rfl⟩)
      go_meet
      exact ⟨rfl, rfl, rfl⟩
    rw [c1] at COF
    by_cases c2 : 0 ≤ p
    case neg =>
      have e := BAD.out (by omega)
      have q : decide (0 ≤ p) = false := decide_eq_false c2
      clear BAD HGOOD
      subst e
      go_wp2_with (go_at_call 15; refine COF.out.mono ?_; rintro e w' ⟨rfl, rfl⟩)
      go_meet
      exact ⟨rfl, rfl, rfl⟩
    have q2 : decide (0 ≤ p) = true := decide_eq_true c2
    by_cases c3 : p < (S.length : Int)
    case neg =>
      have e := BAD.out (by omega)
      have q : decide (p < (S.length : Int)) = false := decide_eq_false c3
      clear BAD HGOOD
      subst e
      go_wp2_with (go_at_call 15; refine COF.out.mono ?_; rintro e w' ⟨rfl, rfl⟩)
      go_meet
      exact ⟨rfl, rfl, rfl⟩
    have q3 : decide (p < (S.length : Int)) = true := decide_eq_true c3
    by_cases c4 : 0 ≤ wv
    case neg =>
      have e := BAD.out (by omega)
      have q : decide (0 ≤ wv) = false := decide_eq_false c4
      clear BAD HGOOD
      subst e
      go_wp2_with (go_at_call 15; refine COF.out.mono ?_; rintro e w' ⟨rfl, rfl⟩)
      go_meet
      exact ⟨rfl, rfl, rfl⟩
    have q4 : decide (0 ≤ wv) = true := decide_eq_true c4
    by_cases c5 : wv ≤ 1000000
    case neg =>
      have e := BAD.out (by omega)
      have q : decide (wv ≤ 1000000) = false := decide_eq_false c5
      clear BAD HGOOD
      subst e
      go_wp2_with (go_at_call 15; refine COF.out.mono ?_; rintro e w' ⟨rfl, rfl⟩)
      go_meet
      exact ⟨rfl, rfl, rfl⟩
    have q5 : decide (wv ≤ 1000000) = true := decide_eq_true c5
    by_cases c6 : 0 ≤ other
    case neg =>
      have e := BAD.out (by omega)
      have q : decide (0 ≤ other) = false := decide_eq_false c6
      clear BAD HGOOD
      subst e
      go_wp2_with (go_at_call 15; refine COF.out.mono ?_; rintro e w' ⟨rfl, rfl⟩)
      go_meet
      exact ⟨rfl, rfl, rfl⟩
    have q6 : decide (0 ≤ other) = true := decide_eq_true c6
    have e : good = decide (other ≤ 100) := by
      rw [HGOOD.out]
      exact decide_eq_decide.2 ⟨fun h => by omega, fun h => by omega⟩
    clear BAD HGOOD
    subst e
    go_wp2_with (go_at_call 15; refine COF.out.mono ?_; rintro e w' ⟨rfl, rfl⟩)
    go_meet
    exact ⟨rfl, rfl, rfl⟩
  case rest =>
  obtain ⟨rfl, rfl, rfl⟩ := hcut
  go_upto_if 83 with fail
  go_cut [20] (fun t wx => t = .bool false ∧ Hid (Below w.heap.size w wx))
  case first =>
    as_aux_lemma =>
    cases good
    case false =>
      go_wp2_with fail
      go_meet
      exact ⟨rfl, HB1⟩
    case true =>
    obtain ⟨c1, c2, c3, c4, c5, c6, c7⟩ := of_decide_eq_true HGOOD.out.symm
    obtain ⟨p, rfl⟩ : ∃ p' : Nat, p = (p' : Int) := ⟨p.toNat, by omega⟩
    have hpS : p < S.length := by omega
    obtain ⟨o1, o2, o3, o4, o5⟩ := offer_law c1 (r := 1) (wv := wv) (.inr rfl) hpS c4 c5 (top := 100) (by omega) (by omega)
    have o6 := o5 other c6 c7
    have hPl := lok_len0 c1
    have CO := dOffer (cap := capS) (cap' := capP) (HS.out _ HB1.out) HB1.out.size (HP.out _ HB1.out) HB1.out.size 1 (p : Int) wv 100
    rw [o1] at CO
    have e1 := fun (g : Int) (h0 : 0 ≤ g) (h1 : g ≤ 1000000) => gE_set c1 (r := 1) (wv := wv) (.inr rfl) hpS c4 c5 (o := g) h0 h1
    generalize (ofR S P 1 (p : Int) wv 100).1 = o at *
    generalize (ofR S P 1 (p : Int) wv 100).2 = n at *
    have HIB : Hid (∀ g : Int, 0 ≤ g → g ≤ 100 → ∀ x ∈ P.set p g, I64 x) := Lib.hid fun g h0 h1 x hx => by
      rcases List.mem_or_eq_of_mem_set hx with hx | rfl
      · have := (lok_ok c1).bd x hx
        unfold I64; omega
      · unfold I64; omega
    have E1 := Lib.hid (e1 o o2 (by omega))
    have E2 := Lib.hid (e1 other c6 (by omega))
    have O4 := Lib.hid o4
    have O6 := Lib.hid o6
    have HPL := Lib.hid hPl
    obtain ⟨y, hy⟩ : ∃ y, P[p]? = some y := ⟨P[p]'(by omega), by simp⟩
    have HY := Lib.hid hy
    obtain ⟨i0, hi0, hz0, hz1, hz2⟩ := info_parts infoInt'
    have HI := Lib.hid hi0
    have hP0 : 0 < P.length := by omega
    have hpP : (p : Int) < (P.length : Int) := by omega
    have hlo : decide (o < 0) = false := decide_eq_false (by omega)
    have hhi : decide (100 < o) = false := decide_eq_false (by omega)
    clear e1 o1 o4 o5 o6 hPl hy hi0 HGOOD COF
    go_wp2_with fail
    refine CO.mono ?_
    rintro e w2 ⟨rfl, hb⟩
    have HB2 := Lib.hid (HB1.out.trans (hb.mono HB1.out.size))
    clear CO hb HB1
    have hs2 := HB2.out.size
    have hown0 := own_empty w2 3
    have hal := Below.alloc (B := w2.heap.size) (Below.refl _ w2) (Nat.le_refl _) (.cells #[] 3)
    have hsz : (w2.alloc (.cells #[] 3)).heap.size = w2.heap.size + 1 := by simp
    obtain ⟨bb, off, rfl, hbb, hcells⟩ := (HP.out _ (HB2.out.trans (hal.mono hs2))).2.2 hP0
    have HO := Lib.hid hown0
    have HCE := Lib.hid (cells_ints hcells)
    have HAL := Lib.hid hal
    have HSZ := Lib.hid hsz
    clear hcells hal hsz hown0
    generalize hw4 : w2.alloc (.cells #[] 3) = w4 at *
    have HW4 := Lib.hid hw4
    clear hw4
    have hx4 : w2.alloc (.cells #[] 3) = w4 := HW4.out
    go_upto_region 8 with fail
    go_wp2_with (at_builtin; refine wpList_append_own _ rfl _ _ 22 rfl w2.heap.size 3 i0 (.int .i64 0) 1 8 Try.underlying22 HI.out hz0 hz1 hz2 rfl (by decide) _ 0 [] rfl HO.out ⟨bb, off, none⟩ P.length capP (P.map (Value.int .i64)) rfl (by simp) HCE.out (ints_oneCell _ _) (by unfold maxLen; omega) (by omega) (by rw [HSZ.out]; omega) ?_)
    intro v' w5 hown5 hgrow _
    have hb5 : Below w2.heap.size w2 w5 := HAL.out.grown hgrow (by rw [HSZ.out]; omega) (by intro k hk; simp [Value.ownBlock] at hk; omega)
    obtain ⟨g1, c8, hv5, hg1, hP1⟩ := ownP_of_row hown5 (by omega)
    rw [hv5]
    have HP1 := Lib.hid hP1
    have HB5 := Lib.hid (HB2.out.trans (hb5.mono hs2))
    have HG1 := Lib.hid (Nat.le_trans hs2 hg1)
    clear hown5 hgrow hx4 hv5 HW4 HAL HCE HSZ hb5 hP1 HO hg1 hs2
    have hs5 := HB5.out.size
    have hown0 := own_empty w5 3
    have hal := Below.alloc (B := w5.heap.size) (Below.refl _ w5) (Nat.le_refl _) (.cells #[] 3)
    have hsz : (w5.alloc (.cells #[] 3)).heap.size = w5.heap.size + 1 := by simp
    obtain ⟨bb', off', eA, hbb', hcells⟩ := (HP.out _ (HB5.out.trans (hal.mono hs5))).2.2 hP0
    cases eA
    have HO := Lib.hid hown0
    have HCE := Lib.hid (cells_ints hcells)
    have HAL := Lib.hid hal
    have HSZ := Lib.hid hsz
    have HP1' := Lib.hid (HP1.out.below hal HP1.out.lt)
    have HL1 := Lib.hid HP1.out.lt
    clear hcells hal hsz hown0 HP1
    generalize hw6 : w5.alloc (.cells #[] 3) = w6 at *
    have HW6 := Lib.hid hw6
    clear hw6
    have hx6 : w5.alloc (.cells #[] 3) = w6 := HW6.out
    go_wp2_with (at_builtin; refine wpList_append_own _ rfl _ _ 22 rfl w5.heap.size 3 i0 (.int .i64 0) 1 8 Try.underlying22 HI.out hz0 hz1 hz2 rfl (by decide) _ 0 [] rfl HO.out ⟨bb, off, none⟩ P.length capP (P.map (Value.int .i64)) rfl (by simp) HCE.out (ints_oneCell _ _) (by unfold maxLen; omega) (by omega) (by rw [HSZ.out]; omega) ?_)
    intro v' w7 hown7 hgrow _
    have hb7 : Below w5.heap.size w5 w7 := HAL.out.grown hgrow (by rw [HSZ.out]; omega) (by intro k hk; simp [Value.ownBlock] at hk; omega)
    obtain ⟨g2, c9, hv7, hg2, hP2⟩ := ownP_of_row hown7 (by omega)
    rw [hv7]
    have hP1 := HP1'.out.grown hgrow (by have := HL1.out; simp [Value.ownBlock]; omega)
    have hg12 : g1 ≠ g2 := by have := HL1.out; omega
    have hc1 := hP1.cell HY.out
    have hf1 := hP1.frozen p
    have hP2' := hP2.far (p := ⟨g1, p, none⟩) (by simp; omega) (.int .i64 o)
    have hc2 := hP2'.cell HY.out
    have hf2 := hP2'.frozen p
    have HX1 := Lib.hid ((hP1.store p o).far (p := ⟨g2, p, none⟩) (by simp; omega) (.int .i64 other))
    have HX2 := Lib.hid (hP2'.store p other)
    have HB9 := Lib.hid (((HB5.out.trans (hb7.mono hs5)).setCell (p := ⟨g1, p, none⟩) HG1.out (.int .i64 o)).setCell (p := ⟨g2, p, none⟩) (by show w.heap.size ≤ g2; omega) (.int .i64 other))
    clear hown7 hgrow hx6 hv7 HW6 HAL HCE HSZ hb7 hP1 hP2 hP2' HO HP1' HL1 HB5
    go_wp2_with fail
    generalize (w7.setCell ⟨g1, p, none⟩ (.int .i64 o)).setCell ⟨g2, p, none⟩ (.int .i64 other) = w9 at *
    have hlp : P.length = (P.set p o).length := by rw [List.length_set]
    have hlp2 : P.length = (P.set p other).length := by rw [List.length_set]
    have HR1 := Lib.hid (HX1.out.rd (HIB.out o o2 o3) (by rw [← hlp]; omega) HX1.out.lt)
    have HR2 := Lib.hid (HX2.out.rd (HIB.out other c6 c7) (by rw [← hlp2]; omega) HX2.out.lt)
    have CA := dGain (cap := capS) (cap' := c8) (HS.out _ HB9.out) HB9.out.size HR1.out (Nat.le_refl _) 1 (p : Int) wv
    rw [E1.out, O4.out, ← hlp] at CA
    have CA := Lib.hid CA
    have CB := Lib.hid fun (u : World) (hb : Below w9.heap.size w9 u) => dGain (cap := capS) (cap' := c9) (HS.out _ (HB9.out.trans (hb.mono HB9.out.size))) (Nat.le_trans HB9.out.size hb.size) (HR2.out.below hb (Nat.le_refl _)) hb.size 1 (p : Int) wv
    rw [E2.out, ← hlp2] at CB
    clear HX1 HX2 HIB E1 E2 O4 hlp hlp2 HR1 HR2 HY hc1 hc2 hf1 hf2
    generalize gV S (P.set p other) 1 (p : Int) wv = m at *
    go_wp2_with fail
    refine CA.out.mono ?_
    rintro e w10 ⟨rfl, hb10⟩
    have HB10 := Lib.hid (HB9.out.trans (hb10.mono HB9.out.size))
    have HD10 := Lib.hid hb10
    clear hb10 CA
    go_wp2_with fail
    refine (CB.out _ HD10.out).mono ?_
    rintro e w11 ⟨rfl, hb11⟩
    have HB11 := Lib.hid (HB10.out.trans (hb11.mono HB10.out.size))
    clear hb11 CB HD10
    have x1 : decide (n < m) = false := decide_eq_false (by have := O6.out.1; omega)
    by_cases hmn : m = n
    · have x2 : decide (other < o) = false := decide_eq_false (by have := O6.out.2 hmn; omega)
      subst hmn
      clear O6
      have x3 : (m == m) = true := beq_self_eq_true m
      have x4 : (m != m) = false := bne_self_eq_false m
      go_wp2
      go_meet
      exact ⟨rfl, HB11⟩
    · have x2 : (m == n) = false := beq_eq_false_iff_ne.2 hmn
      have x4 : (n != n) = false := bne_self_eq_false n
      clear O6
      go_wp2
      go_meet
      exact ⟨rfl, HB11⟩
  case rest =>
    obtain ⟨rfl, HB3⟩ := hcut
    clear COF HGOOD HB1 HS HP
    clear good
    have HBAD : Hid (∀ w1, Below w.heap.size w w1 → Calls Try.prog 17 #[.slice A O.length cap, .slice A' R.length cap'] w1 fun e w' => e = .returned (.int .i64 (chk35 O R)) ∧ w1 = w') := Lib.hid fun w1 hb => rCheck35 (H.out _ hb) (H'.out _ hb)
    have HVAL : Hid (∀ w1, Below w.heap.size w w1 → Calls Try.prog 18 #[.slice A3 V.length cap3] w1 fun e w' => e = .returned (.int .i64 (val35 V)) ∧ w1 = w') := Lib.hid fun w1 hb => rVals (H3.out _ hb)
    by_cases hk : chk35 O R = 0
    case neg =>
      have hne : (chk35 O R != 0) = true := by rw [bne_iff_ne]; exact hk
      generalize chk35 O R = c at *
      clear hk
      go_wp2_with (go_at_call 17; refine (HBAD.out _ HB3.out).mono ?_; rintro e w' ⟨rfl, rfl⟩)
      go_ret
      exact ⟨rfl, HB3.out⟩
    have HK := Lib.hid hk
    have HOR := Lib.hid (chk35_zero hk)
    clear hk
    by_cases ha1 : a < 0
    · have d1 : decide (a < 0) = true := decide_eq_true ha1
      go_wp2_with (go_at_call 17; refine (HBAD.out _ HB3.out).mono ?_; rw [HK.out]; rintro e w' ⟨rfl, rfl⟩)
      go_ret
      exact ⟨rfl, HB3.out⟩
    obtain ⟨a, rfl⟩ : ∃ a' : Nat, a = (a' : Int) := ⟨a.toNat, by omega⟩
    clear ha1 _ha
    have d4 : decide ((a : Int) < 0) = false := decide_eq_false (by omega)
    by_cases ha : a < R.length
    case neg =>
      have d2 : decide ((R.length : Int) ≤ (a : Int)) = true := decide_eq_true (by omega)
      have d3 : decide (R.length ≤ a) = true := decide_eq_true (by omega)
      go_wp2_with (go_at_call 17; refine (HBAD.out _ HB3.out).mono ?_; rw [HK.out]; rintro e w' ⟨rfl, rfl⟩)
      go_ret
      exact ⟨rfl, HB3.out⟩
    have d2 : decide ((R.length : Int) ≤ (a : Int)) = false := decide_eq_false (by omega)
    have d3 : decide (R.length ≤ a) = false := decide_eq_false (by omega)
    by_cases hv : val35 V = 0
    case neg =>
      have hne : (val35 V != 0) = true := by rw [bne_iff_ne]; exact hv
      generalize val35 V = c at *
      clear hv
      go_wp2_with first | (go_at_call 17; refine (HBAD.out _ HB3.out).mono ?_; rw [HK.out]; rintro e w' ⟨rfl, rfl⟩) | (go_at_call 18; refine (HVAL.out _ HB3.out).mono ?_; rintro e w' ⟨rfl, rfl⟩)
      go_ret
      exact ⟨rfl, HB3.out⟩
    have HVZ := Lib.hid hv
    by_cases hl : V.length = O.length
    case neg =>
      have hne : ((V.length : Int) != (O.length : Int)) = true := by rw [bne_iff_ne]; omega
      clear hv hl
      go_wp2_with first | (go_at_call 17; refine (HBAD.out _ HB3.out).mono ?_; rw [HK.out]; rintro e w' ⟨rfl, rfl⟩) | (go_at_call 18; refine (HVAL.out _ HB3.out).mono ?_; rw [HVZ.out]; rintro e w' ⟨rfl, rfl⟩)
      go_ret
      exact ⟨rfl, HB3.out⟩
    have hne : ((V.length : Int) != (O.length : Int)) = false := by rw [bne_eq_false_iff_eq]; omega
    have hvr : VR V O := ⟨hl, (val35_zero hv).2⟩
    have hor := HOR.out
    have hbo := bestR_ok (a := (a : Int)) hor hvr
    have hpb := rkAll_perm hbo.1
    have hlk := lkd35_of (a := (a : Int)) hor hvr (by omega) (by omega)
    have hll : lsL O R (a : Int) V = (bestR O R a V).1 := by rw [lsL, if_pos hlk]
    have hls : lsN O R (a : Int) V = (bestR O R a V).2 := by rw [lsN, if_pos hlk]
    have LAW := Lib.hid fun (l : List Int) (hl : (iota O.length).Perm l) => best_law (a := a) hor hvr hl
    have SUB : Hid (∀ l, (iota O.length).Perm l → OR O (R.set a l) ∧ lkd35 O (R.set a l) (a : Int) V = 0 ∧ hsV O (R.set a l) (a : Int) V = hasW O R (a : Int) V l ∧ (∀ x ∈ R.set a l, x.length < 1000)) := Lib.hid fun l hl => by
      have h2 := hor.set a hl
      have h3 := lkd35_of (a := (a : Int)) h2 hvr (by omega) (by rw [List.length_set]; omega)
      refine ⟨h2, h3, by rw [hsV, if_pos h3, hasW, Int.toNat_natCast], fun x hx => ?_⟩
      have := (h2.ord x hx).length_eq
      rw [iota_length] at this
      have := hor.o6
      omega
    have HRL : Hid (∀ l ∈ R, l.length < 1000) := Lib.hid fun l hl => by have := (hor.ord l hl).length_eq; rw [iota_length] at this; have := hor.o6; omega
    have q4 := hor.o6
    have q5 := hor.r6
    have HBO := Lib.hid hbo.2
    have hbl : (bestR O R (a : Int) V).1.length = O.length := by rw [← hpb.length_eq, iota_length]
    generalize bestR O R (a : Int) V = br at *
    obtain ⟨b, N⟩ := br
    have HLK := Lib.hid hlk
    have HLL := Lib.hid hll
    have HLS := Lib.hid hls
    have HPB := Lib.hid hpb
    have HBL := Lib.hid hbl
    have HL := Lib.hid hl
    clear hvr hor hbo hpb hlk hll hls hl hv hbl
    go_wp2_with first | (go_at_call 17; refine (HBAD.out _ HB3.out).mono ?_; rw [HK.out]; rintro e w' ⟨rfl, rfl⟩) | (go_at_call 18; refine (HVAL.out _ HB3.out).mono ?_; rw [HVZ.out]; rintro e w' ⟨rfl, rfl⟩)
    have CL := lListE (cap := cap) (cap' := cap') (cap3 := cap3) (a : Int) (H.out _ HB3.out) (H'.out _ HB3.out) (H3.out _ HB3.out) HB3.out.size HB3.out.size HB3.out.size HRL.out
    rw [HLS.out, HLK.out, HLL.out] at CL
    refine CL.mono ?_
    rintro e w6 ⟨A6, c6, rfl, hr6, hb6⟩
    have HB6 := Lib.hid (HB3.out.trans (hb6.mono HB3.out.size))
    have CO := r29Order (cap := c6) (n := O.length) hr6 (by omega)
    rw [ordB_iff.2 HPB.out] at CO
    have HT := Lib.hid fun (u : World) (hu : Below w6.heap.size w6 u) => hr6.below hu (Nat.le_refl _)
    clear CL hr6 hb6
    try simp only [] at CO HT HBL HPB HBO
    go_wp2_with fail
    refine CO.mono ?_
    rintro e w' ⟨rfl, rfl⟩
    clear CO
    obtain ⟨hor2, hlk2, hhs2, hrl2⟩ := SUB.out b HPB.out
    obtain ⟨R2, hR2⟩ : ∃ R2, R2 = R.set a b := ⟨_, rfl⟩
    rw [← hR2] at hor2 hlk2 hhs2 hrl2
    have HR2 := Lib.hid hR2
    have HLK2 := Lib.hid hlk2
    have HHS2 := Lib.hid (hhs2.trans HBO.out.symm)
    have HRL2 := Lib.hid hrl2
    clear hor2 hlk2 hhs2 hrl2 hR2
    have CW := with35 (cap := c6) (cap' := cap') (H'.out _ HB6.out) (HT.out _ (Below.refl _ _)) HB6.out.size (Nat.le_refl _) ha (by omega) HR2.out
    go_wp2_with fail
    refine CW.mono ?_
    rintro e w7 ⟨A7, c7, rfl, hr7, hb7⟩
    have HR7 := Lib.hid hr7
    have HB7 := Lib.hid (HB6.out.trans (hb7.mono HB6.out.size))
    have HD7 := Lib.hid hb7
    clear CW hr7 hb7
    have CH := lHasE (cap := cap) (cap' := c7) (cap3 := cap3) (a : Int) (H.out _ HB7.out) HR7.out (H3.out _ HB7.out) HB7.out.size (Nat.le_refl _) HB7.out.size HRL2.out
    rw [HHS2.out, HLK2.out] at CH
    try simp only [] at CH
    go_wp2_with fail
    refine CH.mono ?_
    rintro e w8 ⟨rfl, hb8⟩
    have HB8 := Lib.hid (HB7.out.trans (hb8.mono HB7.out.size))
    have HD8 := Lib.hid (HD7.out.trans (hb8.mono HD7.out.size))
    clear CH hb8 HHS2 HLK2 HRL2 HR2 HR7
    have x1 : (N != N) = false := bne_self_eq_false N
    have CO := r29Order (cap := capL) (n := O.length) (H4.out _ HB8.out) (by omega)
    by_cases hpL : (iota O.length).Perm L
    case neg =>
      have hob : ordB L O.length = false := by
        cases he : ordB L O.length
        · rfl
        · exact absurd (ordB_iff.1 he) hpL
      rw [hob] at CO
      clear hob hpL
      go_wp2_with fail
      refine CO.mono ?_
      rintro e w' ⟨rfl, rfl⟩
      clear CO
      go_wp2
      go_ret
      exact ⟨rfl, HB8.out⟩
    rw [ordB_iff.2 hpL] at CO
    have hLl : L.length = O.length := by rw [← hpL.length_eq, iota_length]
    obtain ⟨hor3, hlk3, hhs3, hrl3⟩ := SUB.out L hpL
    obtain ⟨y1, y2⟩ := LAW.out L hpL
    obtain ⟨R3, hR3⟩ : ∃ R3, R3 = R.set a L := ⟨_, rfl⟩
    rw [← hR3] at hor3 hlk3 hhs3 hrl3
    have HR3 := Lib.hid hR3
    have HLK3 := Lib.hid hlk3
    have HRL3 := Lib.hid hrl3
    generalize hasW O R (a : Int) V L = X at *
    have HHS3 := Lib.hid hhs3
    have HLl := Lib.hid hLl
    have Y2 := Lib.hid y2
    have x2 : decide (N < X) = false := decide_eq_false (by omega)
    clear hor3 hlk3 hhs3 hrl3 hR3 hpL hLl y2 y1
    go_wp2_with fail
    refine CO.mono ?_
    rintro e w' ⟨rfl, rfl⟩
    clear CO
    have CW := with35 (cap := capL) (cap' := cap') (H'.out _ HB8.out) (H4.out _ HB8.out) HB8.out.size HB8.out.size ha (by omega) HR3.out
    go_wp2_with fail
    refine CW.mono ?_
    rintro e w9 ⟨A9, c9, rfl, hr9, hb9⟩
    have HR9 := Lib.hid hr9
    have HB9 := Lib.hid (HB8.out.trans (hb9.mono HB8.out.size))
    have HD9 := Lib.hid (HD8.out.trans (hb9.mono HD8.out.size))
    clear CW hr9 hb9
    have CH := lHasE (cap := cap) (cap' := c9) (cap3 := cap3) (a : Int) (H.out _ HB9.out) HR9.out (H3.out _ HB9.out) HB9.out.size (Nat.le_refl _) HB9.out.size HRL3.out
    rw [HHS3.out, HLK3.out] at CH
    go_wp2_with fail
    refine CH.mono ?_
    rintro e w10 ⟨rfl, hb10⟩
    have HB10 := Lib.hid (HB9.out.trans (hb10.mono HB9.out.size))
    have HD10 := Lib.hid (HD9.out.trans (hb10.mono HD9.out.size))
    clear CH hb10 HHS3 HLK3 HRL3 HR3 HR9 HD9 HD8 HD7 HB9 HB8 HB7
    have l10 : L.length ≤ 6 := by rw [HLl.out]; exact q4
    by_cases hxn : X = N
    case neg =>
      have x3 : (X == N) = false := beq_eq_false_iff_ne.2 hxn
      go_wp2_with fail
      go_loopw [38] (fun iv wr => iv = .int .i64 0 ∧ wr = w10) (fun iv _ => 0)
      case atStart => exact ⟨rfl, rfl⟩
      case round =>
        obtain ⟨rfl, rfl⟩ := hrel
        by_cases h0 : 0 < L.length
        · go_wp2
          go_ret
          exact ⟨rfl, HB10.out⟩
        · go_wp2
          go_ret
          exact ⟨rfl, HB10.out⟩
    subst hxn
    have x3 : (X == X) = true := beq_self_eq_true X
    have Y3 : Hid (L = b ∨ LexLt b L) := Lib.hid (Y2.out rfl)
    clear Y2 LAW SUB
    go_wp2_with fail
    go_loopw [38] (fun iv wr => ∃ k : Nat, k ≤ L.length ∧ iv = .int .i64 k ∧ Hid (L.take k = b.take k) ∧ Hid (Below w10.heap.size w10 wr)) (fun iv _ => L.length - (intOf iv).toNat)
    case atStart => exact ⟨0, by omega, rfl, Lib.hid rfl, Lib.hid (Below.refl _ _)⟩
    case round =>
      obtain ⟨k, hk, rfl, htk, hw⟩ := hrel
      have HBW := Lib.hid (HB10.out.trans (hw.out.mono HB10.out.size))
      have HDW := Lib.hid (HD10.out.trans (hw.out.mono HD10.out.size))
      by_cases hlt : k < L.length
      · obtain ⟨b1, o1, x, rfl, _, hx, _, cx⟩ := (H4.out _ HBW.out).at_ hlt
        obtain ⟨b2, o2, y, rfl, _, hy, _, cy⟩ := (HT.out _ HDW.out).at_ (k := k) (by rw [HBL.out, ← HLl.out]; exact hlt)
        have hkb : (k : Int) < (b.length : Int) := by have := HBL.out; have := HLl.out; omega
        have mid : ∀ nq, Hid (Below w10.heap.size w10 (wr.drewN nq)) := fun nq => Lib.hid (below_drewN hw.out _)
        by_cases hxy : x = y
        · subst hxy
          have hnx : L.take (k + 1) = b.take (k + 1) := by rw [List.take_add_one, List.take_add_one, hx, hy, htk.out]
          have HNX := Lib.hid hnx
          have x4 : (x != x) = false := bne_self_eq_false x
          clear hx hy hnx htk
          go_wp2
          go_quiet (fail)
          go_wp2
          go_roundw
          case rel => exact ⟨k + 1, by omega, by go_num, HNX, mid _⟩
          case measure => simp [intOf]; omega
        · have x4 : (x != y) = true := by rw [bne_iff_ne]; exact hxy
          have hlt2 := lex_first Y3.out htk.out hx hy hxy
          have x5 : decide (y < x) = true := decide_eq_true hlt2
          clear hx hy htk hxy hlt2
          go_wp2
          go_quiet (fail)
          replace cx : (wr.drewN nq).cell? _ = _ := cx
          replace cy : (wr.drewN nq).cell? _ = _ := cy
          have HF := Lib.hid (below_drewN HBW.out nq)
          generalize wr.drewN nq = wq at *
          go_wp2
          go_quiet (fail)
          go_wp2
          go_ret
          exact ⟨rfl, below_drewN HF.out _⟩
      · go_wp2
        go_ret
        exact ⟨rfl, HBW.out⟩
end Go.Proofs.Ytjgobpejifhphaa
