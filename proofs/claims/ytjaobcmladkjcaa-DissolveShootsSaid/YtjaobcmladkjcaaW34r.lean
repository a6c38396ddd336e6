import Derived.Test.YtjaobcmladkjcaaW34p
/-! The walk of the statement DissolveShoots. -/
namespace Go.Proofs.Ytjaobcmladkjcaa
open Go.RowKit Go.Deep
set_option linter.unusedVariables false

theorem floor_bd {S n : Int} (h : 2 ≤ S) : S * (n / S) ≤ n ∧ n < S * (n / S) + S := by
  have h1 := Int.mul_ediv_add_emod n S
  have h2 := Int.emod_nonneg n (show S ≠ 0 by omega)
  have h3 := Int.emod_lt_of_pos n (show 0 < S by omega)
  constructor <;> omega
/-- both are safe: xc shares of the one who chooses, xo of the other -/
theorem safe {xc xo p wv S co br : Int} (hc : 1 ≤ xc) (ho : 1 ≤ xo) (hSS : S = xc + xo) (hco : co = part p S xo) (hbr : br = part p S xc) :
    (br ≤ wv - co → -S < S * (-co) - xc * wv + S * wv ∧ -S < S * co - xo * p) ∧
    (¬ br ≤ wv - co → -S < S * br - xc * wv ∧ -S < S * (-br) - xo * p + S * p) := by
  have hS : 2 ≤ S := by omega
  have f1 := floor_bd (n := p * xo) hS
  have f2 := floor_bd (n := p * xc) hS
  have e1 : S * co = S * (p * xo / S) := by rw [hco]; rfl
  have e2 : S * br = S * (p * xc / S) := by rw [hbr]; rfl
  have s1 : S * p = xc * p + xo * p := by rw [hSS, Int.add_mul]
  have s2 : S * wv = xc * wv + xo * wv := by rw [hSS, Int.add_mul]
  have c1 : p * xo = xo * p := Int.mul_comm _ _
  have c2 : p * xc = xc * p := Int.mul_comm _ _
  have n1 : S * (-co) = -(S * co) := Int.mul_neg _ _
  have n2 : S * (-br) = -(S * br) := Int.mul_neg _ _
  have m : (wv ≤ p ∧ xc * wv ≤ xc * p ∧ xo * wv ≤ xo * p) ∨ (p ≤ wv ∧ xc * p ≤ xc * wv ∧ xo * p ≤ xo * wv) := by
    rcases Int.le_total wv p with hle | hle
    · exact .inl ⟨hle, Int.mul_le_mul_of_nonneg_left hle (by omega), Int.mul_le_mul_of_nonneg_left hle (by omega)⟩
    · exact .inr ⟨hle, Int.mul_le_mul_of_nonneg_left hle (by omega), Int.mul_le_mul_of_nonneg_left hle (by omega)⟩
  rw [← e1] at f1
  rw [← e2] at f2
  constructor
  · intro h
    have h1 : S * br ≤ S * (wv - co) := Int.mul_le_mul_of_nonneg_left h (by omega)
    rw [Int.mul_sub] at h1
    omega
  · intro h
    have h1 : S * (wv - co + 1) ≤ S * br := Int.mul_le_mul_of_nonneg_left (by omega) (by omega)
    rw [Int.mul_add, Int.mul_sub, Int.mul_one] at h1
    omega
theorem mul_bd2 {S y : Int} (h0 : 1 ≤ S) (h1 : S ≤ 1000) (h2 : -1000000 ≤ y) (h3 : y ≤ 1000000) : -1000000000 ≤ S * y ∧ S * y ≤ 1000000000 := by
  have a1 : S * y ≤ S * 1000000 := Int.mul_le_mul_of_nonneg_left h3 (by omega)
  have a2 : S * -1000000 ≤ S * y := Int.mul_le_mul_of_nonneg_left h2 (by omega)
  omega

set_option maxRecDepth 100000 in
set_option maxHeartbeats 2000000 in
theorem shoots0 {w : World} {A : Option Addr} {cap : Nat} {x0 x1 p wv : Int} (h : Rd w w.heap.size A [x0, x1]) (hc : chk [x0, x1] = 0) (hb : ¬ badShoot 2 p 0 wv) :
    Calls Try.prog 9 #[.slice A 2 cap, .int .i64 p, .int .i64 0, .int .i64 wv] w fun e w' => e = .returned (.bool true) ∧ Below w.heap.size w w' := by
  have hV := chk_ok hc
  have he := shE_ok (L := [x0, x1]) (p := p) (c := 0) (wv := wv) hc hb
  have R : ∀ u, Below w.heap.size w u → w.heap.size ≤ u.heap.size ∧ Rd u w.heap.size A [x0, x1] := fun u hu => ⟨hu.size, h.below hu (Nat.le_refl _)⟩
  have HR := Lib.hid R
  have m0 := hV.le (x := x0) (by simp)
  have m1 := hV.le (x := x1) (by simp)
  have s0 := le_sumL hV.pos (x := x0) (by simp)
  have s1 := le_sumL hV.pos (x := x1) (by simp)
  have hS := hV.sum_pos
  have hS' := hV.sum
  have eS : sumL [x0, x1] = x0 + x1 := by simp [sumL]
  have hb' := hb
  unfold badShoot at hb'
  have g1 : 0 ≤ p := by omega
  have g2 : p ≤ 1000000 := by omega
  have g3 : 0 ≤ wv := by omega
  have g4 : wv ≤ 1000000 := by omega
  have q0 := part_bd g1 g2 m0.1 s0
  have q1 := part_bd g1 g2 m1.1 s1
  have sf := safe (xc := x0) (xo := x1) (p := p) (wv := wv) (S := sumL [x0, x1]) (by omega) (by omega) eS rfl rfl
  have eb : shB [x0, x1] p 0 wv = decide (part p (sumL [x0, x1]) x0 ≤ wv - part p (sumL [x0, x1]) x1) := by rw [shB, if_pos he]; rfl
  have el : shL [x0, x1] p 0 wv = [mine [x0, x1] p 0 wv, -mine [x0, x1] p 0 wv] := by rw [shL, if_pos he]; rfl
  have em : mine [x0, x1] p 0 wv = if part p (sumL [x0, x1]) x0 ≤ wv - part p (sumL [x0, x1]) x1 then -part p (sumL [x0, x1]) x1 else part p (sumL [x0, x1]) x0 := rfl
  have HV := Lib.hid hV
  have HC := Lib.hid hc
  have HE := Lib.hid he
  have t1 := mul_bd2 (S := x0) (y := p) (by omega) (by omega) (by omega) (by omega)
  have t2 := mul_bd2 (S := x1) (y := p) (by omega) (by omega) (by omega) (by omega)
  have t3 := mul_bd2 (S := x0) (y := wv) (by omega) (by omega) (by omega) (by omega)
  have t4 := mul_bd2 (S := x1) (y := wv) (by omega) (by omega) (by omega) (by omega)
  have t5 := mul_bd2 (S := sumL [x0, x1]) (y := p) (by omega) (by omega) (by omega) (by omega)
  have t6 := mul_bd2 (S := sumL [x0, x1]) (y := wv) (by omega) (by omega) (by omega) (by omega)
  have t7 := mul_bd2 (S := sumL [x0, x1]) (y := part p (sumL [x0, x1]) x0) (by omega) (by omega) (by omega) (by omega)
  have t8 := mul_bd2 (S := sumL [x0, x1]) (y := part p (sumL [x0, x1]) x1) (by omega) (by omega) (by omega) (by omega)
  have t9 := mul_bd2 (S := sumL [x0, x1]) (y := -part p (sumL [x0, x1]) x0) (by omega) (by omega) (by omega) (by omega)
  have t10 := mul_bd2 (S := sumL [x0, x1]) (y := -part p (sumL [x0, x1]) x1) (by omega) (by omega) (by omega) (by omega)
  have CS : Hid (∀ u, Below w.heap.size w u → Calls Try.prog 22 #[.slice A 2 cap] u fun e u' => e = .returned (.int .i64 (sumL [x0, x1])) ∧ u = u') :=
    Lib.hid fun u hu => rSum (cap := cap) (HR.out u hu).2 HV.out
  have CH : Hid (∀ u, Below w.heap.size w u → Calls Try.prog 24 #[.slice A 2 cap, .int .i64 p, .int .i64 0, .int .i64 wv] u (ShootRes u (shB [x0, x1] p 0 wv) (shL [x0, x1] p 0 wv) 0)) :=
    Lib.hid fun u hu => by have := dShoot (cap := cap) (HR.out u hu).2 (HR.out u hu).1 p 0 wv; rwa [HE.out] at this
  clear h hV he hb hb' hc eS R
  generalize sumL [x0, x1] = S at *
  generalize part p S x0 = v0 at *
  generalize part p S x1 = v1 at *
  by_cases hle : v0 ≤ wv - v1
  all_goals
    first | (have sf' := sf.1 hle) | (have sf' := sf.2 hle)
    have hd := Lib.hid hle
    rw [el, em, eb] at CH
    simp only [hle, decide_true, decide_false, if_true, if_false, Int.neg_neg] at CH
    clear sf em el eb hle
    go_enter Try.func9, Try.ntmps9
    go_wp2_with fail
    refine (alive w).mono ?_
    rintro e w1 ⟨rfl, hb⟩
    go_wp2_with fail
    refine (rCheck (HR.out w1 hb).2).mono ?_
    rw [HC.out]
    rintro e w2 ⟨rfl, rfl⟩
    go_wp2_with fail
    refine (CH.out _ hb).mono ?_
    rintro e w2 ⟨A1, c1, rfl, hr1, hb2⟩
    replace hb := hb.trans (hb2.mono hb.size)
    obtain ⟨b1, o1, rfl, hb1l, hcells1⟩ := hr1.2.2 (by simp)
    have d0 := hcells1 0 _ rfl
    have d1 := hcells1 1 _ rfl
    obtain ⟨b2, o2, rfl, hb2l, hcells2⟩ := (HR.out w2 hb).2.2.2 (by simp)
    have d2 := hcells2 0 _ rfl
    have d3 := hcells2 1 _ rfl
    simp only [Nat.add_zero] at d0 d1 d2 d3
    have HB := Lib.hid hb
    clear hcells1 hcells2 hr1 hb2 hb CH
    go_wp2
    go_quiet (fail)
    have HBq : Hid (Below w.heap.size w (w2.drewN nq)) := Lib.hid (below_drewN HB.out _)
    have k0 : (w2.drewN nq).cell? ⟨b1, o1, none⟩ = w2.cell? ⟨b1, o1, none⟩ := rfl
    have k1 : (w2.drewN nq).cell? ⟨b1, o1 + 1, none⟩ = w2.cell? ⟨b1, o1 + 1, none⟩ := rfl
    have k2 : (w2.drewN nq).cell? ⟨b2, o2, none⟩ = w2.cell? ⟨b2, o2, none⟩ := rfl
    have k3 : (w2.drewN nq).cell? ⟨b2, o2 + 1, none⟩ = w2.cell? ⟨b2, o2 + 1, none⟩ := rfl
    rw [d0] at k0
    rw [d1] at k1
    rw [d2] at k2
    rw [d3] at k3
    clear d0 d1 d2 d3
    generalize w2.drewN nq = w3 at *
    go_wp2_with (go_at_call 22; refine (CS.out _ HBq.out).mono ?_; rintro e w4 ⟨rfl, rfl⟩)
    have e1 : IntKind.i64.wrap (S * v0) = S * v0 := IntWalk.i64_in _ (by omega)
    have e2 : IntKind.i64.wrap (S * v1) = S * v1 := IntWalk.i64_in _ (by omega)
    have e3 : IntKind.i64.wrap (-(S * v0)) = -(S * v0) := IntWalk.i64_in _ (by omega)
    have e4 : IntKind.i64.wrap (-(S * v1)) = -(S * v1) := IntWalk.i64_in _ (by omega)
    have e5 : IntKind.i64.wrap (x0 * wv) = x0 * wv := IntWalk.i64_in _ (by omega)
    have e6 : IntKind.i64.wrap (x1 * wv) = x1 * wv := IntWalk.i64_in _ (by omega)
    have e7 : IntKind.i64.wrap (x0 * p) = x0 * p := IntWalk.i64_in _ (by omega)
    have e8 : IntKind.i64.wrap (x1 * p) = x1 * p := IntWalk.i64_in _ (by omega)
    have e9 : IntKind.i64.wrap (-(S * v1) - x0 * wv) = -(S * v1) - x0 * wv := IntWalk.i64_in _ (by omega)
    have e10 : IntKind.i64.wrap (S * v1 - x1 * p) = S * v1 - x1 * p := IntWalk.i64_in _ (by omega)
    have e11 : IntKind.i64.wrap (S * v0 - x0 * wv) = S * v0 - x0 * wv := IntWalk.i64_in _ (by omega)
    have e12 : IntKind.i64.wrap (-(S * v0) - x1 * p) = -(S * v0) - x1 * p := IntWalk.i64_in _ (by omega)
    go_quiet (fail)
    have HBr : Hid (Below w.heap.size w (w3.drewN nq)) := Lib.hid (below_drewN HBq.out _)
    have k0' : (w3.drewN nq).cell? ⟨b1, o1, none⟩ = w3.cell? ⟨b1, o1, none⟩ := rfl
    have k1' : (w3.drewN nq).cell? ⟨b1, o1 + 1, none⟩ = w3.cell? ⟨b1, o1 + 1, none⟩ := rfl
    have k2' : (w3.drewN nq).cell? ⟨b2, o2, none⟩ = w3.cell? ⟨b2, o2, none⟩ := rfl
    have k3' : (w3.drewN nq).cell? ⟨b2, o2 + 1, none⟩ = w3.cell? ⟨b2, o2 + 1, none⟩ := rfl
    rw [k0] at k0'
    rw [k1] at k1'
    rw [k2] at k2'
    rw [k3] at k3'
    clear k0 k1 k2 k3
    generalize w3.drewN nq = w5 at *
    go_wp2
    go_quiet (fail)
    clear e1 e2 e3 e4 e5 e6 e7 e8 e9 e10 e11 e12
    go_wp2
    go_ret
    refine ⟨?_, below_drewN HBr.out _⟩
    rfl

set_option maxRecDepth 100000 in
set_option maxHeartbeats 2000000 in
theorem shoots1 {w : World} {A : Option Addr} {cap : Nat} {x0 x1 p wv : Int} (h : Rd w w.heap.size A [x0, x1]) (hc : chk [x0, x1] = 0) (hb : ¬ badShoot 2 p 1 wv) :
    Calls Try.prog 9 #[.slice A 2 cap, .int .i64 p, .int .i64 1, .int .i64 wv] w fun e w' => e = .returned (.bool true) ∧ Below w.heap.size w w' := by
  have hV := chk_ok hc
  have he := shE_ok (L := [x0, x1]) (p := p) (c := 1) (wv := wv) hc hb
  have R : ∀ u, Below w.heap.size w u → w.heap.size ≤ u.heap.size ∧ Rd u w.heap.size A [x0, x1] := fun u hu => ⟨hu.size, h.below hu (Nat.le_refl _)⟩
  have HR := Lib.hid R
  have m0 := hV.le (x := x0) (by simp)
  have m1 := hV.le (x := x1) (by simp)
  have s0 := le_sumL hV.pos (x := x0) (by simp)
  have s1 := le_sumL hV.pos (x := x1) (by simp)
  have hS := hV.sum_pos
  have hS' := hV.sum
  have eS : sumL [x0, x1] = x1 + x0 := by simp [sumL]; omega
  have hb' := hb
  unfold badShoot at hb'
  have g1 : 0 ≤ p := by omega
  have g2 : p ≤ 1000000 := by omega
  have g3 : 0 ≤ wv := by omega
  have g4 : wv ≤ 1000000 := by omega
  have q0 := part_bd g1 g2 m0.1 s0
  have q1 := part_bd g1 g2 m1.1 s1
  have sf := safe (xc := x1) (xo := x0) (p := p) (wv := wv) (S := sumL [x0, x1]) (by omega) (by omega) eS rfl rfl
  have eb : shB [x0, x1] p 1 wv = decide (part p (sumL [x0, x1]) x1 ≤ wv - part p (sumL [x0, x1]) x0) := by rw [shB, if_pos he]; rfl
  have el : shL [x0, x1] p 1 wv = [-mine [x0, x1] p 1 wv, mine [x0, x1] p 1 wv] := by rw [shL, if_pos he]; rfl
  have em : mine [x0, x1] p 1 wv = if part p (sumL [x0, x1]) x1 ≤ wv - part p (sumL [x0, x1]) x0 then -part p (sumL [x0, x1]) x0 else part p (sumL [x0, x1]) x1 := rfl
  have HV := Lib.hid hV
  have HC := Lib.hid hc
  have HE := Lib.hid he
  have t1 := mul_bd2 (S := x0) (y := p) (by omega) (by omega) (by omega) (by omega)
  have t2 := mul_bd2 (S := x1) (y := p) (by omega) (by omega) (by omega) (by omega)
  have t3 := mul_bd2 (S := x0) (y := wv) (by omega) (by omega) (by omega) (by omega)
  have t4 := mul_bd2 (S := x1) (y := wv) (by omega) (by omega) (by omega) (by omega)
  have t5 := mul_bd2 (S := sumL [x0, x1]) (y := p) (by omega) (by omega) (by omega) (by omega)
  have t6 := mul_bd2 (S := sumL [x0, x1]) (y := wv) (by omega) (by omega) (by omega) (by omega)
  have t7 := mul_bd2 (S := sumL [x0, x1]) (y := part p (sumL [x0, x1]) x0) (by omega) (by omega) (by omega) (by omega)
  have t8 := mul_bd2 (S := sumL [x0, x1]) (y := part p (sumL [x0, x1]) x1) (by omega) (by omega) (by omega) (by omega)
  have t9 := mul_bd2 (S := sumL [x0, x1]) (y := -part p (sumL [x0, x1]) x0) (by omega) (by omega) (by omega) (by omega)
  have t10 := mul_bd2 (S := sumL [x0, x1]) (y := -part p (sumL [x0, x1]) x1) (by omega) (by omega) (by omega) (by omega)
  have CS : Hid (∀ u, Below w.heap.size w u → Calls Try.prog 22 #[.slice A 2 cap] u fun e u' => e = .returned (.int .i64 (sumL [x0, x1])) ∧ u = u') :=
    Lib.hid fun u hu => rSum (cap := cap) (HR.out u hu).2 HV.out
  have CH : Hid (∀ u, Below w.heap.size w u → Calls Try.prog 24 #[.slice A 2 cap, .int .i64 p, .int .i64 1, .int .i64 wv] u (ShootRes u (shB [x0, x1] p 1 wv) (shL [x0, x1] p 1 wv) 0)) :=
    Lib.hid fun u hu => by have := dShoot (cap := cap) (HR.out u hu).2 (HR.out u hu).1 p 1 wv; rwa [HE.out] at this
  clear h hV he hb hb' hc eS R
  generalize sumL [x0, x1] = S at *
  generalize part p S x0 = v0 at *
  generalize part p S x1 = v1 at *
  by_cases hle : v1 ≤ wv - v0
  all_goals
    first | (have sf' := sf.1 hle) | (have sf' := sf.2 hle)
    have hd := Lib.hid hle
    rw [el, em, eb] at CH
    simp only [hle, decide_true, decide_false, if_true, if_false, Int.neg_neg] at CH
    clear sf em el eb hle
    go_enter Try.func9, Try.ntmps9
    go_wp2_with fail
    refine (alive w).mono ?_
    rintro e w1 ⟨rfl, hb⟩
    go_wp2_with fail
    refine (rCheck (HR.out w1 hb).2).mono ?_
    rw [HC.out]
    rintro e w2 ⟨rfl, rfl⟩
    go_wp2_with fail
    refine (CH.out _ hb).mono ?_
    rintro e w2 ⟨A1, c1, rfl, hr1, hb2⟩
    replace hb := hb.trans (hb2.mono hb.size)
    obtain ⟨b1, o1, rfl, hb1l, hcells1⟩ := hr1.2.2 (by simp)
    have d0 := hcells1 0 _ rfl
    have d1 := hcells1 1 _ rfl
    obtain ⟨b2, o2, rfl, hb2l, hcells2⟩ := (HR.out w2 hb).2.2.2 (by simp)
    have d2 := hcells2 0 _ rfl
    have d3 := hcells2 1 _ rfl
    simp only [Nat.add_zero] at d0 d1 d2 d3
    have HB := Lib.hid hb
    clear hcells1 hcells2 hr1 hb2 hb CH
    go_wp2
    go_quiet (fail)
    have HBq : Hid (Below w.heap.size w (w2.drewN nq)) := Lib.hid (below_drewN HB.out _)
    have k0 : (w2.drewN nq).cell? ⟨b1, o1, none⟩ = w2.cell? ⟨b1, o1, none⟩ := rfl
    have k1 : (w2.drewN nq).cell? ⟨b1, o1 + 1, none⟩ = w2.cell? ⟨b1, o1 + 1, none⟩ := rfl
    have k2 : (w2.drewN nq).cell? ⟨b2, o2, none⟩ = w2.cell? ⟨b2, o2, none⟩ := rfl
    have k3 : (w2.drewN nq).cell? ⟨b2, o2 + 1, none⟩ = w2.cell? ⟨b2, o2 + 1, none⟩ := rfl
    rw [d0] at k0
    rw [d1] at k1
    rw [d2] at k2
    rw [d3] at k3
    clear d0 d1 d2 d3
    generalize w2.drewN nq = w3 at *
    go_wp2_with (go_at_call 22; refine (CS.out _ HBq.out).mono ?_; rintro e w4 ⟨rfl, rfl⟩)
    have e1 : IntKind.i64.wrap (S * v0) = S * v0 := IntWalk.i64_in _ (by omega)
    have e2 : IntKind.i64.wrap (S * v1) = S * v1 := IntWalk.i64_in _ (by omega)
    have e3 : IntKind.i64.wrap (-(S * v0)) = -(S * v0) := IntWalk.i64_in _ (by omega)
    have e4 : IntKind.i64.wrap (-(S * v1)) = -(S * v1) := IntWalk.i64_in _ (by omega)
    have e5 : IntKind.i64.wrap (x0 * wv) = x0 * wv := IntWalk.i64_in _ (by omega)
    have e6 : IntKind.i64.wrap (x1 * wv) = x1 * wv := IntWalk.i64_in _ (by omega)
    have e7 : IntKind.i64.wrap (x0 * p) = x0 * p := IntWalk.i64_in _ (by omega)
    have e8 : IntKind.i64.wrap (x1 * p) = x1 * p := IntWalk.i64_in _ (by omega)
    have e9 : IntKind.i64.wrap (-(S * v0) - x1 * wv) = -(S * v0) - x1 * wv := IntWalk.i64_in _ (by omega)
    have e10 : IntKind.i64.wrap (S * v0 - x0 * p) = S * v0 - x0 * p := IntWalk.i64_in _ (by omega)
    have e11 : IntKind.i64.wrap (S * v1 - x1 * wv) = S * v1 - x1 * wv := IntWalk.i64_in _ (by omega)
    have e12 : IntKind.i64.wrap (-(S * v1) - x0 * p) = -(S * v1) - x0 * p := IntWalk.i64_in _ (by omega)
    go_quiet (fail)
    have HBr : Hid (Below w.heap.size w (w3.drewN nq)) := Lib.hid (below_drewN HBq.out _)
    have k0' : (w3.drewN nq).cell? ⟨b1, o1, none⟩ = w3.cell? ⟨b1, o1, none⟩ := rfl
    have k1' : (w3.drewN nq).cell? ⟨b1, o1 + 1, none⟩ = w3.cell? ⟨b1, o1 + 1, none⟩ := rfl
    have k2' : (w3.drewN nq).cell? ⟨b2, o2, none⟩ = w3.cell? ⟨b2, o2, none⟩ := rfl
    have k3' : (w3.drewN nq).cell? ⟨b2, o2 + 1, none⟩ = w3.cell? ⟨b2, o2 + 1, none⟩ := rfl
    rw [k0] at k0'
    rw [k1] at k1'
    rw [k2] at k2'
    rw [k3] at k3'
    clear k0 k1 k2 k3
    generalize w3.drewN nq = w5 at *
    go_wp2
    go_quiet (fail)
    clear e1 e2 e3 e4 e5 e6 e7 e8 e9 e10 e11 e12
    go_wp2
    go_ret
    refine ⟨?_, below_drewN HBr.out _⟩
    rfl

set_option maxRecDepth 100000 in
set_option maxHeartbeats 1000000 in
theorem shoots {w : World} {A : Option Addr} {L : List Int} {cap : Nat} (h : Rd w w.heap.size A L) (p c wv : Int) (_h1 : I64 p) (_h2 : I64 c) (_h3 : I64 wv) :
    Calls Try.prog 9 #[.slice A L.length cap, .int .i64 p, .int .i64 c, .int .i64 wv] w fun e w' => e = .returned (.bool true) ∧ Below w.heap.size w w' := by
  by_cases hc : chk L = 0
  · by_cases hb : badShoot L.length p c wv
    · have he := shE_bad hc hb
      have R : ∀ u, Below w.heap.size w u → w.heap.size ≤ u.heap.size ∧ Rd u w.heap.size A L := fun u hu => ⟨hu.size, h.below hu (Nat.le_refl _)⟩
      have HR := Lib.hid R
      have HC := Lib.hid hc
      have HE := Lib.hid he
      clear R h hc he hb _h1 _h2 _h3
      go_enter Try.func9, Try.ntmps9
      go_wp2_with fail
      refine (alive w).mono ?_
      rintro e w1 ⟨rfl, hb⟩
      go_wp2_with fail
      refine (rCheck (HR.out w1 hb).2).mono ?_
      rw [HC.out]
      rintro e w2 ⟨rfl, rfl⟩
      go_wp2_with fail
      refine (dShoot (HR.out w1 hb).2 (HR.out w1 hb).1 p c wv).mono ?_
      rw [shB_no (by rw [HE.out]; decide), shL_no (by rw [HE.out]; decide), HE.out]
      rintro e w2 ⟨A1, c1, rfl, hr1, hb2⟩
      replace hb := hb.trans (hb2.mono hb.size)
      go_wp2
      go_ret
      exact ⟨rfl, hb⟩
    · have hb' := hb
      unfold badShoot at hb'
      obtain ⟨x0, x1, rfl⟩ : ∃ x0 x1, L = [x0, x1] := by
        match L, (show L.length = 2 by omega) with
        | [a, b], _ => exact ⟨a, b, rfl⟩
      rcases (show c = 0 ∨ c = 1 by omega) with rfl | rfl
      · exact shoots0 h hc hb
      · exact shoots1 h hc hb
  · have hbn : (chk L != 0) = true := by simpa using hc
    have C1 : Hid (∀ u, Below w.heap.size w u → Calls Try.prog 17 #[.slice A L.length cap] u fun e w' => e = .returned (.int .i64 (chk L)) ∧ u = w') := Lib.hid fun u hu => rCheck (h.below hu (Nat.le_refl _))
    clear h hc _h1 _h2 _h3
    generalize chk L = cc at *
    go_enter Try.func9, Try.ntmps9
    go_wp2_with fail
    refine (alive w).mono ?_
    rintro e w1 ⟨rfl, hb⟩
    go_wp2_with fail
    refine (C1.out w1 hb).mono ?_
    rintro e w2 ⟨rfl, rfl⟩
    go_wp2
    go_ret
    exact ⟨rfl, hb⟩
end Go.Proofs.Ytjaobcmladkjcaa
