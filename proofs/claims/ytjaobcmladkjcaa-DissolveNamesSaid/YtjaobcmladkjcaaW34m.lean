import Derived.Test.YtjaobcmladkjcaaW34l
/-! Walks of chapter 34: both Shoots. -/
namespace Go.Proofs.Ytjaobcmladkjcaa
open Go.RowKit Go.Deep
set_option linter.unusedVariables false

/-- the arguments of a shootout that are refused -/
def badShoot (n : Nat) (p c wv : Int) : Prop := n ≠ 2 ∨ p < 0 ∨ 1000000 < p ∨ wv < 0 ∨ 1000000 < wv ∨ c < 0 ∨ 1 < c
instance (n : Nat) (p c wv : Int) : Decidable (badShoot n p c wv) := by unfold badShoot; infer_instance
def shE (L : List Int) (p c wv : Int) : Int := if chk L ≠ 0 then chk L else if badShoot L.length p c wv then 2 else 0
/-- what the other one and the one who chooses would have -/
def costs (L : List Int) (p c : Int) : Int := part p (sumL L) (L.getD (1 - c).toNat 0)
def brings (L : List Int) (p c : Int) : Int := part p (sumL L) (L.getD c.toNat 0)
def shB (L : List Int) (p c wv : Int) : Bool := if shE L p c wv = 0 then decide (brings L p c ≤ wv - costs L p c) else false
def mine (L : List Int) (p c wv : Int) : Int := if brings L p c ≤ wv - costs L p c then -costs L p c else brings L p c
def shL (L : List Int) (p c wv : Int) : List Int := if shE L p c wv = 0 then (if c = 0 then [mine L p c wv, -mine L p c wv] else [-mine L p c wv, mine L p c wv]) else []
def ShootRes (w : World) (b : Bool) (P : List Int) (c : Int) (e : Ending) (w' : World) : Prop :=
  ∃ A cap, e = .returned (.tuple #[.bool b, .slice A P.length cap, .int .i64 c]) ∧ Rd w' w'.heap.size A P ∧ Below w.heap.size w w'

theorem in1 {w : World} (x m : Int) : Calls Try.prog 33 #[.int .i64 x, .int .i64 m] w fun e w' => e = .returned (.bool (decide (0 ≤ x) && decide (x ≤ m))) ∧ w = w' := by
  by_cases h0 : 0 ≤ x
  · by_cases h1 : x ≤ m
    all_goals
      go_enter Try.func33, Try.ntmps33
      go_wp2
      go_ret
      exact ⟨ret_bool (by simp [h0, h1]), rfl⟩
  · go_enter Try.func33, Try.ntmps33
    go_wp2
    go_ret
    exact ⟨ret_bool (by simp; omega), rfl⟩
theorem inYes {w : World} {x m : Int} (h0 : 0 ≤ x) (h1 : x ≤ m) : Calls Try.prog 33 #[.int .i64 x, .int .i64 m] w fun e w' => e = .returned (.bool true) ∧ w = w' := by
  have := in1 (w := w) x m; simpa [h0, h1] using this
theorem inNo {w : World} {x m : Int} (h0 : x < 0 ∨ m < x) : Calls Try.prog 33 #[.int .i64 x, .int .i64 m] w fun e w' => e = .returned (.bool false) ∧ w = w' := by
  have e : (decide (0 ≤ x) && decide (x ≤ m)) = false := by simp; omega
  have := in1 (w := w) x m; rwa [e] at this

theorem shE_chk {L : List Int} {p c wv : Int} (h : chk L ≠ 0) : shE L p c wv = chk L := by rw [shE, if_pos h]
theorem shE_bad {L : List Int} {p c wv : Int} (h : chk L = 0) (h2 : badShoot L.length p c wv) : shE L p c wv = 2 := by rw [shE, if_neg (by simp [h]), if_pos h2]
theorem shE_ok {L : List Int} {p c wv : Int} (h : chk L = 0) (h2 : ¬ badShoot L.length p c wv) : shE L p c wv = 0 := by rw [shE, if_neg (by simp [h]), if_neg h2]
theorem shB_no {L : List Int} {p c wv : Int} (h : shE L p c wv ≠ 0) : shB L p c wv = false := by rw [shB, if_neg h]
theorem shL_no {L : List Int} {p c wv : Int} (h : shE L p c wv ≠ 0) : shL L p c wv = [] := by rw [shL, if_neg h]
theorem Rd.two {w : World} {g T : Nat} {a b : Int} (h : w.heap[g]? = some (.cells #[.int .i64 a, .int .i64 b] T (0, 0))) (ha : -1000000 ≤ a ∧ a ≤ 1000000) (hb : -1000000 ≤ b ∧ b ≤ 1000000) : Rd w w.heap.size (some ⟨g, 0, none⟩) [a, b] := by
  have ho : Own w g T [a, b] := h
  exact ho.rd (by intro x hx; unfold I64; simp at hx; omega) (by simp) ho.lt

set_option maxHeartbeats 2000000 in
theorem dShoot0 {w : World} {B : Nat} {A : Option Addr} {cap : Nat} {x0 x1 p wv : Int} (h : Rd w B A [x0, x1]) (hB : B ≤ w.heap.size) (hc : chk [x0, x1] = 0) (hb : ¬ badShoot 2 p 0 wv) :
    Calls Try.prog 24 #[.slice A 2 cap, .int .i64 p, .int .i64 0, .int .i64 wv] w (ShootRes w (shB [x0, x1] p 0 wv) (shL [x0, x1] p 0 wv) 0) := by
  have hV := chk_ok hc
  have he := shE_ok (L := [x0, x1]) (p := p) (c := 0) (wv := wv) hc hb
  have hbr : brings [x0, x1] p 0 = part p (sumL [x0, x1]) x0 := rfl
  have hco : costs [x0, x1] p 0 = part p (sumL [x0, x1]) x1 := rfl
  rw [shB, shL, if_pos he, if_pos he, mine, hbr, hco]
  have m0 := hV.le (x := x0) (by simp)
  have m1 := hV.le (x := x1) (by simp)
  have s0 := le_sumL hV.pos (x := x0) (by simp)
  have s1 := le_sumL hV.pos (x := x1) (by simp)
  have hS := hV.sum_pos
  have hS' := hV.sum
  unfold badShoot at hb
  have g1 : 0 ≤ p := by omega
  have g2 : p ≤ 1000000 := by omega
  have g3 : 0 ≤ wv := by omega
  have g4 : wv ≤ 1000000 := by omega
  have b0 := mul_bd g1 g2 m0.1 m0.2
  have b1 := mul_bd g1 g2 m1.1 m1.2
  have q0 := part_bd g1 g2 m0.1 s0
  have q1 := part_bd g1 g2 m1.1 s1
  have C1 := dCheck (cap := cap) h
  rw [hc] at C1
  have H := Lib.hid h
  have HV := Lib.hid hV
  have HB := Lib.hid hB
  have CS : Hid (∀ u, Below w.heap.size w u → Calls Try.prog 32 #[.slice A 2 cap] u fun e u' => e = .returned (.int .i64 (sumL [x0, x1])) ∧ u = u') :=
    Lib.hid fun u hu => dTotal (cap := cap) (H.out.below hu HB.out) HV.out
  obtain ⟨bb, off, rfl, hbl, hcells⟩ := h.2.2 (by simp)
  have hc0 := hcells 0 x0 rfl
  have hc1 := hcells 1 x1 rfl
  simp only [Nat.add_zero] at hc0
  clear hcells h hV he hbr hco hb hc hB
  unfold part at q0 q1 ⊢
  generalize sumL [x0, x1] = S at *
  generalize hq0 : p * x0 / S = v0 at *
  generalize hq1 : p * x1 / S = v1 at *
  have hq0' : (p * x0).tdiv S = v0 := by rw [Int.tdiv_eq_ediv_of_nonneg b0.1]; exact hq0
  have hq1' : (p * x1).tdiv S = v1 := by rw [Int.tdiv_eq_ediv_of_nonneg b1.1]; exact hq1
  have Q0 := Lib.hid hq0
  have Q1 := Lib.hid hq1
  have Q0' := Lib.hid hq0'
  have Q1' := Lib.hid hq1'
  clear hq0 hq1 hq0' hq1'
  have hmk : ∀ u : World, (Instr.makeSlice 22 (.int .i64 2) (.int .i64 2)).run Try.prog u = .ok (.slice (some ⟨u.heap.size, 0, none⟩) 2 2) (u.alloc (.cells #[.int .i64 0, .int .i64 0] 3)) := fun u => by kernel_rfl
  by_cases hle : v0 ≤ wv - v1
  all_goals
    go_enter Try.func24, Try.ntmps24
    go_wp2_with (first | (go_at_call 16; refine C1.mono ?_; rintro e w1 ⟨rfl, rfl⟩) | (go_at_call 33; refine (inYes (by omega) (by omega)).mono ?_; rintro e w1 ⟨rfl, rfl⟩))
    have e1 : IntKind.i64.wrap (p * x0) = p * x0 := IntWalk.i64_in _ (by omega)
    have e2 : IntKind.i64.wrap (p * x1) = p * x1 := IntWalk.i64_in _ (by omega)
    have e3 : IntKind.i64.wrap v0 = v0 := IntWalk.i64_in _ (by omega)
    have e4 : IntKind.i64.wrap v1 = v1 := IntWalk.i64_in _ (by omega)
    have e5 : ¬ S = 0 := by omega
    have e6 := Q0'.out
    have e7 := Q1'.out
    have e8 := Q0.out
    have e9 := Q1.out
    go_quiet ((go_at_call 32; exact Calls.quiet_of_same ((CS.out _ (below_drewN (Below.refl _ _) _)).mono fun _ _ h => ⟨h.1, h.2.symm⟩)))
    have HBq : Hid (Below w.heap.size w (w.drewN nq)) := Lib.hid (below_drewN (Below.refl _ _) _)
    clear e1 e2 e3 e4 e5 e6 e7 e8 e9 C1 CS hc0 hc1
    generalize w.drewN nq = wq at *
    go_wp2
    refine bodyPost_ret (v := .tuple #[.bool (decide (v0 ≤ wv - v1)), .slice (some ⟨wq.heap.size, 0, none⟩) 2 2, .int .i64 0]) (by simp [results, Try.results24, go_sem, hle]) rfl ?_
    refine ⟨some ⟨wq.heap.size, 0, none⟩, 2, ?_, Rd.two (heap_alloc_new wq _) (by omega) (by omega), HBq.out.alloc HBq.out.size _⟩
    simp [hle]

set_option maxHeartbeats 2000000 in
theorem dShoot1 {w : World} {B : Nat} {A : Option Addr} {cap : Nat} {x0 x1 p wv : Int} (h : Rd w B A [x0, x1]) (hB : B ≤ w.heap.size) (hc : chk [x0, x1] = 0) (hb : ¬ badShoot 2 p 1 wv) :
    Calls Try.prog 24 #[.slice A 2 cap, .int .i64 p, .int .i64 1, .int .i64 wv] w (ShootRes w (shB [x0, x1] p 1 wv) (shL [x0, x1] p 1 wv) 0) := by
  have hV := chk_ok hc
  have he := shE_ok (L := [x0, x1]) (p := p) (c := 1) (wv := wv) hc hb
  have hbr : brings [x0, x1] p 1 = part p (sumL [x0, x1]) x1 := rfl
  have hco : costs [x0, x1] p 1 = part p (sumL [x0, x1]) x0 := rfl
  rw [shB, shL, if_pos he, if_pos he, mine, hbr, hco]
  have m0 := hV.le (x := x0) (by simp)
  have m1 := hV.le (x := x1) (by simp)
  have s0 := le_sumL hV.pos (x := x0) (by simp)
  have s1 := le_sumL hV.pos (x := x1) (by simp)
  have hS := hV.sum_pos
  have hS' := hV.sum
  unfold badShoot at hb
  have g1 : 0 ≤ p := by omega
  have g2 : p ≤ 1000000 := by omega
  have g3 : 0 ≤ wv := by omega
  have g4 : wv ≤ 1000000 := by omega
  have b0 := mul_bd g1 g2 m0.1 m0.2
  have b1 := mul_bd g1 g2 m1.1 m1.2
  have q0 := part_bd g1 g2 m0.1 s0
  have q1 := part_bd g1 g2 m1.1 s1
  have C1 := dCheck (cap := cap) h
  rw [hc] at C1
  have H := Lib.hid h
  have HV := Lib.hid hV
  have HB := Lib.hid hB
  have CS : Hid (∀ u, Below w.heap.size w u → Calls Try.prog 32 #[.slice A 2 cap] u fun e u' => e = .returned (.int .i64 (sumL [x0, x1])) ∧ u = u') :=
    Lib.hid fun u hu => dTotal (cap := cap) (H.out.below hu HB.out) HV.out
  obtain ⟨bb, off, rfl, hbl, hcells⟩ := h.2.2 (by simp)
  have hc0 := hcells 0 x0 rfl
  have hc1 := hcells 1 x1 rfl
  simp only [Nat.add_zero] at hc0
  clear hcells h hV he hbr hco hb hc hB
  unfold part at q0 q1 ⊢
  generalize sumL [x0, x1] = S at *
  generalize hq0 : p * x0 / S = v0 at *
  generalize hq1 : p * x1 / S = v1 at *
  have hq0' : (p * x0).tdiv S = v0 := by rw [Int.tdiv_eq_ediv_of_nonneg b0.1]; exact hq0
  have hq1' : (p * x1).tdiv S = v1 := by rw [Int.tdiv_eq_ediv_of_nonneg b1.1]; exact hq1
  have Q0 := Lib.hid hq0
  have Q1 := Lib.hid hq1
  have Q0' := Lib.hid hq0'
  have Q1' := Lib.hid hq1'
  clear hq0 hq1 hq0' hq1'
  have hmk : ∀ u : World, (Instr.makeSlice 22 (.int .i64 2) (.int .i64 2)).run Try.prog u = .ok (.slice (some ⟨u.heap.size, 0, none⟩) 2 2) (u.alloc (.cells #[.int .i64 0, .int .i64 0] 3)) := fun u => by kernel_rfl
  by_cases hle : v1 ≤ wv - v0
  all_goals
    go_enter Try.func24, Try.ntmps24
    go_wp2_with (first | (go_at_call 16; refine C1.mono ?_; rintro e w1 ⟨rfl, rfl⟩) | (go_at_call 33; refine (inYes (by omega) (by omega)).mono ?_; rintro e w1 ⟨rfl, rfl⟩))
    have e1 : IntKind.i64.wrap (p * x0) = p * x0 := IntWalk.i64_in _ (by omega)
    have e2 : IntKind.i64.wrap (p * x1) = p * x1 := IntWalk.i64_in _ (by omega)
    have e3 : IntKind.i64.wrap v0 = v0 := IntWalk.i64_in _ (by omega)
    have e4 : IntKind.i64.wrap v1 = v1 := IntWalk.i64_in _ (by omega)
    have e5 : ¬ S = 0 := by omega
    have e6 := Q0'.out
    have e7 := Q1'.out
    have e8 := Q0.out
    have e9 := Q1.out
    go_quiet ((go_at_call 32; exact Calls.quiet_of_same ((CS.out _ (below_drewN (Below.refl _ _) _)).mono fun _ _ h => ⟨h.1, h.2.symm⟩)))
    have HBq : Hid (Below w.heap.size w (w.drewN nq)) := Lib.hid (below_drewN (Below.refl _ _) _)
    clear e1 e2 e3 e4 e5 e6 e7 e8 e9 C1 CS hc0 hc1
    generalize w.drewN nq = wq at *
    go_wp2
    refine bodyPost_ret (v := .tuple #[.bool (decide (v1 ≤ wv - v0)), .slice (some ⟨wq.heap.size, 0, none⟩) 2 2, .int .i64 0]) (by simp [results, Try.results24, go_sem, hle]) rfl ?_
    refine ⟨some ⟨wq.heap.size, 0, none⟩, 2, ?_, Rd.two (heap_alloc_new wq _) (by omega) (by omega), HBq.out.alloc HBq.out.size _⟩
    simp [hle]

set_option maxHeartbeats 2000000 in
theorem rShoot0 {w : World} {B : Nat} {A : Option Addr} {cap : Nat} {x0 x1 p wv : Int} (h : Rd w B A [x0, x1]) (hB : B ≤ w.heap.size) (hc : chk [x0, x1] = 0) (hb : ¬ badShoot 2 p 0 wv) :
    Calls Try.prog 25 #[.slice A 2 cap, .int .i64 p, .int .i64 0, .int .i64 wv] w (ShootRes w (shB [x0, x1] p 0 wv) (shL [x0, x1] p 0 wv) 0) := by
  have hV := chk_ok hc
  have he := shE_ok (L := [x0, x1]) (p := p) (c := 0) (wv := wv) hc hb
  have hbr : brings [x0, x1] p 0 = part p (sumL [x0, x1]) x0 := rfl
  have hco : costs [x0, x1] p 0 = part p (sumL [x0, x1]) x1 := rfl
  rw [shB, shL, if_pos he, if_pos he, mine, hbr, hco]
  have m0 := hV.le (x := x0) (by simp)
  have m1 := hV.le (x := x1) (by simp)
  have s0 := le_sumL hV.pos (x := x0) (by simp)
  have s1 := le_sumL hV.pos (x := x1) (by simp)
  have hS := hV.sum_pos
  have hS' := hV.sum
  unfold badShoot at hb
  have g1 : 0 ≤ p := by omega
  have g2 : p ≤ 1000000 := by omega
  have g3 : 0 ≤ wv := by omega
  have g4 : wv ≤ 1000000 := by omega
  have b0 := mul_bd g1 g2 m0.1 m0.2
  have b1 := mul_bd g1 g2 m1.1 m1.2
  have q0 := part_bd g1 g2 m0.1 s0
  have q1 := part_bd g1 g2 m1.1 s1
  have C1 := rCheck (cap := cap) h
  rw [hc] at C1
  have H := Lib.hid h
  have HV := Lib.hid hV
  have HB := Lib.hid hB
  have CS : Hid (∀ u, Below w.heap.size w u → Calls Try.prog 22 #[.slice A 2 cap] u fun e u' => e = .returned (.int .i64 (sumL [x0, x1])) ∧ u = u') :=
    Lib.hid fun u hu => rSum (cap := cap) (H.out.below hu HB.out) HV.out
  obtain ⟨bb, off, rfl, hbl, hcells⟩ := h.2.2 (by simp)
  have hc0 := hcells 0 x0 rfl
  have hc1 := hcells 1 x1 rfl
  simp only [Nat.add_zero] at hc0
  clear hcells h hV he hbr hco hb hc hB
  unfold part at q0 q1 ⊢
  generalize sumL [x0, x1] = S at *
  generalize hq0 : p * x0 / S = v0 at *
  generalize hq1 : p * x1 / S = v1 at *
  have hq0' : (p * x0).tdiv S = v0 := by rw [Int.tdiv_eq_ediv_of_nonneg b0.1]; exact hq0
  have hq1' : (p * x1).tdiv S = v1 := by rw [Int.tdiv_eq_ediv_of_nonneg b1.1]; exact hq1
  have Q0 := Lib.hid hq0
  have Q1 := Lib.hid hq1
  have Q0' := Lib.hid hq0'
  have Q1' := Lib.hid hq1'
  clear hq0 hq1 hq0' hq1'
  have hmk : ∀ u : World, (Instr.makeSlice 22 (.int .i64 2) (.int .i64 2)).run Try.prog u = .ok (.slice (some ⟨u.heap.size, 0, none⟩) 2 2) (u.alloc (.cells #[.int .i64 0, .int .i64 0] 3)) := fun u => by kernel_rfl
  by_cases hle : v0 ≤ wv - v1
  all_goals
    go_enter Try.func25, Try.ntmps25
    go_wp2_with ((go_at_call 17; refine C1.mono ?_; rintro e w1 ⟨rfl, rfl⟩))
    have e1 : IntKind.i64.wrap (p * x0) = p * x0 := IntWalk.i64_in _ (by omega)
    have e2 : IntKind.i64.wrap (p * x1) = p * x1 := IntWalk.i64_in _ (by omega)
    have e3 : IntKind.i64.wrap v0 = v0 := IntWalk.i64_in _ (by omega)
    have e4 : IntKind.i64.wrap v1 = v1 := IntWalk.i64_in _ (by omega)
    have e5 : ¬ S = 0 := by omega
    have e6 := Q0'.out
    have e7 := Q1'.out
    have e8 := Q0.out
    have e9 := Q1.out
    go_quiet ((go_at_call 22; exact Calls.quiet_of_same ((CS.out _ (below_drewN (Below.refl _ _) _)).mono fun _ _ h => ⟨h.1, h.2.symm⟩)))
    have hcd0 : (w.drewN nq).cell? ⟨bb, off, none⟩ = some (.int .i64 x0) := hc0
    have hcd1 : (w.drewN nq).cell? ⟨bb, off + 1, none⟩ = some (.int .i64 x1) := hc1
    have HBp : Hid (Below w.heap.size w (w.drewN nq)) := Lib.hid (below_drewN (Below.refl _ _) _)
    have CSq : Hid (∀ m, Calls Try.prog 22 #[.slice (some ⟨bb, off, none⟩) 2 cap] ((w.drewN nq).drewN m) fun e u' => e = .returned (.int .i64 S) ∧ (w.drewN nq).drewN m = u') := Lib.hid fun m => CS.out _ (below_drewN HBp.out m)
    clear C1 CS hc0 hc1
    generalize w.drewN nq = wp at *
    go_wp2
    go_quiet ((go_at_call 22; exact Calls.quiet_of_same ((CSq.out _).mono fun _ _ h => ⟨h.1, h.2.symm⟩)))
    have HBq : Hid (Below w.heap.size w (wp.drewN nq)) := Lib.hid (below_drewN HBp.out _)
    clear e1 e2 e3 e4 e5 e6 e7 e8 e9 CSq hcd0 hcd1
    generalize wp.drewN nq = wq at *
    go_wp2
    refine bodyPost_ret (v := .tuple #[.bool (decide (v0 ≤ wv - v1)), .slice (some ⟨wq.heap.size, 0, none⟩) 2 2, .int .i64 0]) (by simp [results, Try.results25, go_sem, hle]) rfl ?_
    refine ⟨some ⟨wq.heap.size, 0, none⟩, 2, ?_, Rd.two (heap_alloc_new wq _) (by omega) (by omega), HBq.out.alloc HBq.out.size _⟩
    simp [hle]

set_option maxHeartbeats 2000000 in
theorem rShoot1 {w : World} {B : Nat} {A : Option Addr} {cap : Nat} {x0 x1 p wv : Int} (h : Rd w B A [x0, x1]) (hB : B ≤ w.heap.size) (hc : chk [x0, x1] = 0) (hb : ¬ badShoot 2 p 1 wv) :
    Calls Try.prog 25 #[.slice A 2 cap, .int .i64 p, .int .i64 1, .int .i64 wv] w (ShootRes w (shB [x0, x1] p 1 wv) (shL [x0, x1] p 1 wv) 0) := by
  have hV := chk_ok hc
  have he := shE_ok (L := [x0, x1]) (p := p) (c := 1) (wv := wv) hc hb
  have hbr : brings [x0, x1] p 1 = part p (sumL [x0, x1]) x1 := rfl
  have hco : costs [x0, x1] p 1 = part p (sumL [x0, x1]) x0 := rfl
  rw [shB, shL, if_pos he, if_pos he, mine, hbr, hco]
  have m0 := hV.le (x := x0) (by simp)
  have m1 := hV.le (x := x1) (by simp)
  have s0 := le_sumL hV.pos (x := x0) (by simp)
  have s1 := le_sumL hV.pos (x := x1) (by simp)
  have hS := hV.sum_pos
  have hS' := hV.sum
  unfold badShoot at hb
  have g1 : 0 ≤ p := by omega
  have g2 : p ≤ 1000000 := by omega
  have g3 : 0 ≤ wv := by omega
  have g4 : wv ≤ 1000000 := by omega
  have b0 := mul_bd g1 g2 m0.1 m0.2
  have b1 := mul_bd g1 g2 m1.1 m1.2
  have q0 := part_bd g1 g2 m0.1 s0
  have q1 := part_bd g1 g2 m1.1 s1
  have C1 := rCheck (cap := cap) h
  rw [hc] at C1
  have H := Lib.hid h
  have HV := Lib.hid hV
  have HB := Lib.hid hB
  have CS : Hid (∀ u, Below w.heap.size w u → Calls Try.prog 22 #[.slice A 2 cap] u fun e u' => e = .returned (.int .i64 (sumL [x0, x1])) ∧ u = u') :=
    Lib.hid fun u hu => rSum (cap := cap) (H.out.below hu HB.out) HV.out
  obtain ⟨bb, off, rfl, hbl, hcells⟩ := h.2.2 (by simp)
  have hc0 := hcells 0 x0 rfl
  have hc1 := hcells 1 x1 rfl
  simp only [Nat.add_zero] at hc0
  clear hcells h hV he hbr hco hb hc hB
  unfold part at q0 q1 ⊢
  generalize sumL [x0, x1] = S at *
  generalize hq0 : p * x0 / S = v0 at *
  generalize hq1 : p * x1 / S = v1 at *
  have hq0' : (p * x0).tdiv S = v0 := by rw [Int.tdiv_eq_ediv_of_nonneg b0.1]; exact hq0
  have hq1' : (p * x1).tdiv S = v1 := by rw [Int.tdiv_eq_ediv_of_nonneg b1.1]; exact hq1
  have Q0 := Lib.hid hq0
  have Q1 := Lib.hid hq1
  have Q0' := Lib.hid hq0'
  have Q1' := Lib.hid hq1'
  clear hq0 hq1 hq0' hq1'
  have hmk : ∀ u : World, (Instr.makeSlice 22 (.int .i64 2) (.int .i64 2)).run Try.prog u = .ok (.slice (some ⟨u.heap.size, 0, none⟩) 2 2) (u.alloc (.cells #[.int .i64 0, .int .i64 0] 3)) := fun u => by kernel_rfl
  by_cases hle : v1 ≤ wv - v0
  all_goals
    go_enter Try.func25, Try.ntmps25
    go_wp2_with ((go_at_call 17; refine C1.mono ?_; rintro e w1 ⟨rfl, rfl⟩))
    have e1 : IntKind.i64.wrap (p * x0) = p * x0 := IntWalk.i64_in _ (by omega)
    have e2 : IntKind.i64.wrap (p * x1) = p * x1 := IntWalk.i64_in _ (by omega)
    have e3 : IntKind.i64.wrap v0 = v0 := IntWalk.i64_in _ (by omega)
    have e4 : IntKind.i64.wrap v1 = v1 := IntWalk.i64_in _ (by omega)
    have e5 : ¬ S = 0 := by omega
    have e6 := Q0'.out
    have e7 := Q1'.out
    have e8 := Q0.out
    have e9 := Q1.out
    go_quiet ((go_at_call 22; exact Calls.quiet_of_same ((CS.out _ (below_drewN (Below.refl _ _) _)).mono fun _ _ h => ⟨h.1, h.2.symm⟩)))
    have hcd0 : (w.drewN nq).cell? ⟨bb, off, none⟩ = some (.int .i64 x0) := hc0
    have hcd1 : (w.drewN nq).cell? ⟨bb, off + 1, none⟩ = some (.int .i64 x1) := hc1
    have HBp : Hid (Below w.heap.size w (w.drewN nq)) := Lib.hid (below_drewN (Below.refl _ _) _)
    have CSq : Hid (∀ m, Calls Try.prog 22 #[.slice (some ⟨bb, off, none⟩) 2 cap] ((w.drewN nq).drewN m) fun e u' => e = .returned (.int .i64 S) ∧ (w.drewN nq).drewN m = u') := Lib.hid fun m => CS.out _ (below_drewN HBp.out m)
    clear C1 CS hc0 hc1
    generalize w.drewN nq = wp at *
    go_wp2
    go_quiet ((go_at_call 22; exact Calls.quiet_of_same ((CSq.out _).mono fun _ _ h => ⟨h.1, h.2.symm⟩)))
    have HBq : Hid (Below w.heap.size w (wp.drewN nq)) := Lib.hid (below_drewN HBp.out _)
    clear e1 e2 e3 e4 e5 e6 e7 e8 e9 CSq hcd0 hcd1
    generalize wp.drewN nq = wq at *
    go_wp2
    refine bodyPost_ret (v := .tuple #[.bool (decide (v1 ≤ wv - v0)), .slice (some ⟨wq.heap.size, 0, none⟩) 2 2, .int .i64 0]) (by simp [results, Try.results25, go_sem, hle]) rfl ?_
    refine ⟨some ⟨wq.heap.size, 0, none⟩, 2, ?_, Rd.two (heap_alloc_new wq _) (by omega) (by omega), HBq.out.alloc HBq.out.size _⟩
    simp [hle]
end Go.Proofs.Ytjaobcmladkjcaa
