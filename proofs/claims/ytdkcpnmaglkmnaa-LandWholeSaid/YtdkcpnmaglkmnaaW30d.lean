import Derived.Test.YtdkcpnmaglkmnaaW30c
import Derived.Test.YtdkcpnmaglkmnaaS30b
/-! Walks of chapter 30: neighbours, step, left, edge, steps. -/
namespace Go.Proofs.Ytdkcpnmaglkmnaa
open Go.RowKit Go.Deep
set_option linter.unusedVariables false
set_option maxRecDepth 100000

theorem rStep {w : World} {d : Nat} (hd : d < 4) : Calls Try.prog 43 #[.int .i64 d] w fun e w' => e = .returned (.tuple #[.int .i64 (dxI d), .int .i64 (dyI d)]) ∧ w = w' := by
  have hc : d = 0 ∨ d = 1 ∨ d = 2 ∨ d = 3 := by omega
  rcases hc with rfl | rfl | rfl | rfl
  all_goals
    clear hd
    go_enter Try.func43, Try.ntmps43
    go_wp2
    go_ret2
    exact ⟨rfl, rfl⟩

theorem res4 {fn : Func} {t u v x : Tmp} (h : fn.results = #[.tmp t, .tmp u, .tmp v, .tmp x]) (tmps : Array Value) (P : Program) (w : World) :
    (results fn tmps).run P w = .ok (.tuple #[tmps.getD t undef, tmps.getD u undef, tmps.getD v undef, tmps.getD x undef]) w := by simp [results, h]
theorem ret4 {a b c d a' b' c' d' : Int} (h1 : a = a') (h2 : b = b') (h3 : c = c') (h4 : d = d') :
    Ending.returned (.tuple #[.int .i64 a, .int .i64 b, .int .i64 c, .int .i64 d]) = .returned (.tuple #[.int .i64 a', .int .i64 b', .int .i64 c', .int .i64 d']) := by rw [h1, h2, h3, h4]
/-- what left says: the places on both sides of the side that begins at a corner -/
theorem rLeft {w : World} {d : Nat} {x y : Int} (hd : d < 4) (x0 : -1000 ≤ x) (x1 : x ≤ 1000) (y0 : -1000 ≤ y) (y1 : y ≤ 1000) :
    Calls Try.prog 52 #[.int .i64 x, .int .i64 y, .int .i64 d] w fun e w' => e = .returned (.tuple #[.int .i64 (x - cxI d), .int .i64 (y - cyI d), .int .i64 (x - cxI d + dxI ((d + 3) % 4)), .int .i64 (y - cyI d + dyI ((d + 3) % 4))]) ∧ w = w' := by
  have hc : d = 0 ∨ d = 1 ∨ d = 2 ∨ d = 3 := by omega
  rcases hc with rfl | rfl | rfl | rfl
  all_goals
    clear hd
    go_enter Try.func52, Try.ntmps52
    go_wp2
    refine bodyPost_ret (res4 rfl _ _ _) rfl ?_
    exact ⟨ret4 (by simp [cxI]) (by simp [cyI]) (by simp [cxI, dxI]; try omega) (by simp [cyI, dyI]; try omega), rfl⟩
/-- the places of a set -/
def ownF (W H : Nat) (L : List Int) (a : Int) (x y : Int) : Bool := atL W H L x y == a

set_option maxHeartbeats 1000000 in
theorem rEdge {w : World} {B : Nat} {A : Option Addr} {L : List Int} {cap W H : Nat} (h : Rd w B A L) (hB : B ≤ w.heap.size) (v : VL W H L) {d : Nat} {x y a : Int} (hd : d < 4) (x0 : -1000 ≤ x) (x1 : x ≤ 1000) (y0 : -1000 ≤ y) (y1 : y ≤ 1000) :
    Calls Try.prog 44 #[.agg #[.int .i64 W, .int .i64 H, .slice A L.length cap], .int .i64 a, .int .i64 x, .int .i64 y, .int .i64 d] w
      fun e w' => e = .returned (.bool (ownF W H L a (x - cxI d) (y - cyI d) && !ownF W H L a (x - cxI d + dxI ((d + 3) % 4)) (y - cyI d + dyI ((d + 3) % 4)))) ∧ Below w.heap.size w w' := by
  have hal : Below w.heap.size w (w.alloc (.cells #[.int .i64 W, .int .i64 H, .slice A L.length cap] 24)) := (Below.refl _ _).alloc (Nat.le_refl _) _
  have HAL := Lib.hid hal
  have CL := fun u => rLeft (w := u) hd x0 x1 y0 y1
  have CAT : Hid (∀ (u : World) (x y : Int), Below w.heap.size w u → Calls Try.prog 32 #[.agg #[.int .i64 W, .int .i64 H, .slice A L.length cap], .int .i64 x, .int .i64 y] u fun e w' => e = .returned (.int .i64 (atL W H L x y)) ∧ Below u.heap.size u w') :=
    Lib.hid fun u x y hu => lrAt (h.below hu hB) (Nat.le_trans hB hu.size) v x y
  have HCL := Lib.hid CL
  clear hal CL h v x0 x1 y0 y1 hd
  generalize x - cxI d + dxI ((d + 3) % 4) = rx at *
  generalize y - cyI d + dyI ((d + 3) % 4) = ry at *
  generalize x - cxI d = lx at *
  generalize y - cyI d = ly at *
  go_enter Try.func44, Try.ntmps44
  go_wp2_with fail
  refine (HCL.out _).mono ?_
  rintro e w1 ⟨rfl, rfl⟩
  clear HCL
  go_wp2_with fail
  refine (CAT.out _ lx ly HAL.out).mono ?_
  rintro e w2 ⟨rfl, hb2⟩
  obtain ⟨hc1, hf1⟩ := bcell hb2
  have q0 := hc1 w.heap.size 0 (by simp)
  have q1 := hc1 w.heap.size 1 (by simp)
  have q2 := hc1 w.heap.size 2 (by simp)
  simp at q0 q1 q2
  have HB2 := Lib.hid (HAL.out.trans (hb2.mono HAL.out.size))
  clear hc1 hf1 hb2
  by_cases e1 : atL W H L lx ly = a
  · have d1 : (atL W H L lx ly == a) = true := by simpa using e1
    have D1 : Hid (ownF W H L a lx ly = true) := Lib.hid d1
    clear e1
    generalize atL W H L lx ly = z1 at *
    go_wp2_with fail
    refine (CAT.out _ rx ry HB2.out).mono ?_
    rintro e w3 ⟨rfl, hb3⟩
    have HB3 := Lib.hid (HB2.out.trans (hb3.mono HB2.out.size))
    clear hb3
    by_cases e2 : atL W H L rx ry = a
    · have d2 : (atL W H L rx ry != a) = false := by simpa using e2
      have D2 : Hid (ownF W H L a rx ry = true) := Lib.hid (by unfold ownF; simpa using e2)
      clear e2
      generalize atL W H L rx ry = z2 at *
      go_wp2
      go_ret
      exact ⟨ret_bool (by rw [D1.out, D2.out]; rfl), HB3.out⟩
    · have d2 : (atL W H L rx ry != a) = true := by simpa using e2
      have D2 : Hid (ownF W H L a rx ry = false) := Lib.hid (by unfold ownF; simpa using e2)
      clear e2
      generalize atL W H L rx ry = z2 at *
      go_wp2
      go_ret
      exact ⟨ret_bool (by rw [D1.out, D2.out]; rfl), HB3.out⟩
  · have d1 : (atL W H L lx ly == a) = false := by simpa using e1
    have D1 : Hid (ownF W H L a lx ly = false) := Lib.hid d1
    clear e1
    generalize atL W H L lx ly = z1 at *
    go_wp2
    go_ret
    exact ⟨ret_bool (by rw [D1.out]; rfl), HB2.out⟩

/-- the neighbours, by their numbers -/
def nbB (W i k : Nat) : Bool := decide (((i : Int) % W - (k : Int) % W) * ((i : Int) % W - (k : Int) % W) + ((i : Int) / W - (k : Int) / W) * ((i : Int) / W - (k : Int) / W) = 1)
theorem divmod_bd {W i : Nat} (hW : 1 ≤ W) (hi : i < 144) : 0 ≤ (i : Int) % W ∧ (i : Int) % W < W ∧ 0 ≤ (i : Int) / W ∧ (i : Int) / W ≤ 143 := by
  refine ⟨Int.emod_nonneg _ (by omega), Int.emod_lt_of_pos _ (by omega), Int.ediv_nonneg (by omega) (by omega), ?_⟩
  have h3 := Nat.div_le_self i W
  have e : (i : Int) / (W : Int) = ((i / W : Nat) : Int) := rfl
  rw [e]
  exact Int.le_trans (Int.ofNat_le.2 h3) (by omega)
theorem sq_bd {p b : Int} (h0 : -b ≤ p) (h1 : p ≤ b) (hb : 0 ≤ b) : 0 ≤ p * p ∧ p * p ≤ b * b := by
  rcases Int.le_total 0 p with h | h
  · exact ⟨Int.mul_nonneg h h, Int.mul_le_mul h1 h1 h hb⟩
  · have e : p * p = (-p) * (-p) := by rw [Int.neg_mul_neg]
    rw [e]
    exact ⟨Int.mul_nonneg (by omega) (by omega), Int.mul_le_mul (by omega) (by omega) (by omega) hb⟩

set_option maxHeartbeats 1000000 in
theorem rNb {w : World} {A : Option Addr} {W H : Nat} {n cap : Nat} (hW : 1 ≤ W) (h12 : W ≤ 12) {i k : Nat} (hi : i < 144) (hk : k < 144) :
    Calls Try.prog 39 #[.agg #[.int .i64 W, .int .i64 H, .slice A n cap], .int .i64 i, .int .i64 k] w fun e w' => e = .returned (.bool (nbB W i k)) ∧ Below w.heap.size w w' := by
  have hal : Below w.heap.size w (w.alloc (.cells #[.int .i64 W, .int .i64 H, .slice A n cap] 24)) := (Below.refl _ _).alloc (Nat.le_refl _) _
  have HAL := Lib.hid hal
  obtain ⟨i0, i1, i2, i3⟩ := divmod_bd hW hi
  obtain ⟨k0, k1, k2, k3⟩ := divmod_bd hW hk
  have hres : Hid (nbB W i k = decide (((i : Int) % W - (k : Int) % W) * ((i : Int) % W - (k : Int) % W) + ((i : Int) / W - (k : Int) / W) * ((i : Int) / W - (k : Int) / W) = 1)) := Lib.hid rfl
  have d0 : ((W : Int) == 0) = false := beq_eq_false_iff_ne.2 (by omega)
  have d1 : (W == 0) = false := beq_eq_false_iff_ne.2 (by omega)
  have t1 : Int.tmod (i : Int) W = (i : Int) % W := Int.tmod_eq_emod_of_nonneg (by omega)
  have t2 : Int.tmod (k : Int) W = (k : Int) % W := Int.tmod_eq_emod_of_nonneg (by omega)
  have t3 : Int.tdiv (i : Int) W = (i : Int) / W := Int.tdiv_eq_ediv_of_nonneg (by omega)
  have t4 : Int.tdiv (k : Int) W = (k : Int) / W := Int.tdiv_eq_ediv_of_nonneg (by omega)
  have s1 := sq_bd (p := (i : Int) % W - (k : Int) % W) (b := 12) (by omega) (by omega) (by omega)
  have s2 := sq_bd (p := (i : Int) / W - (k : Int) / W) (b := 144) (by omega) (by omega) (by omega)
  have e1 : IntKind.i64.wrap ((i : Int) / W) = (i : Int) / W := IntWalk.i64_in _ (by omega)
  have e2 : IntKind.i64.wrap ((k : Int) / W) = (k : Int) / W := IntWalk.i64_in _ (by omega)
  have e3 : IntKind.i64.wrap ((i : Int) % W - (k : Int) % W) = (i : Int) % W - (k : Int) % W := IntWalk.i64_in _ (by omega)
  have e4 : IntKind.i64.wrap ((i : Int) / W - (k : Int) / W) = (i : Int) / W - (k : Int) / W := IntWalk.i64_in _ (by omega)
  clear hal
  go_enter Try.func39, Try.ntmps39
  go_wp2
  go_quiet (fail)
  clear t1 t2 t3 t4 e1 e2 e3 e4 d0 d1
  generalize (i : Int) % W - (k : Int) % W = p at *
  generalize (i : Int) / W - (k : Int) / W = q at *
  clear i0 i1 i2 i3 k0 k1 k2 k3
  have HB : Hid (Below w.heap.size w ((w.alloc (.cells #[.int .i64 W, .int .i64 H, .slice A n cap] 24)).drewN nq)) := Lib.hid (below_drewN HAL.out _)
  go_wp2
  go_ret
  exact ⟨ret_bool (by rw [hres.out]; rfl), HB.out⟩
end Go.Proofs.Ytdkcpnmaglkmnaa
