import Derived.Test.YtdkcpnmaglkmnaaW30d
import Derived.Test.YtdkcpnmaglkmnaaS30a
/-! Walks of chapter 30: steps, sides. -/
namespace Go.Proofs.Ytdkcpnmaglkmnaa
open Go.RowKit Go.Deep
set_option linter.unusedVariables false
set_option maxRecDepth 100000

def stepsV : Value := .agg #[.int .i64 1, .int .i64 0, .int .i64 0, .int .i64 1, .int .i64 (-1), .int .i64 0, .int .i64 0, .int .i64 (-1)]
theorem lSteps {w : World} : Calls Try.prog 41 #[] w fun e w' => e = .returned (.agg #[.int .i64 1, .int .i64 0, .int .i64 0, .int .i64 1, .int .i64 (-1), .int .i64 0, .int .i64 0, .int .i64 (-1)]) ∧ Below w.heap.size w w' := by
  go_enter Try.func41, Try.ntmps41
  go_wp2
  exact bodyPost_ret (v := .agg #[.int .i64 1, .int .i64 0, .int .i64 0, .int .i64 1, .int .i64 (-1), .int .i64 0, .int .i64 0, .int .i64 (-1)]) (by simp [results, Try.results41, go_sem]) rfl ⟨rfl, (Below.refl _ _).alloc (Nat.le_refl _) _⟩

theorem remW {W k : Nat} (hW : 1 ≤ W) (hk : k < 144) (u : World) : (binOp .rem 3 (.int .i64 (k : Int)) (.int .i64 (W : Int))).run Try.prog u = .ok (.int .i64 ((k : Int) % W)) u := by
  have t1 : Int.tmod (k : Int) W = (k : Int) % W := Int.tmod_eq_emod_of_nonneg (by omega)
  obtain ⟨i0, i1, i2, i3⟩ := divmod_bd (W := W) (i := k) hW hk
  have d1 : W ≠ 0 := by omega
  simp only [binOp]
  simp [go_sem, t1, d1]
theorem quoW {W k : Nat} (hW : 1 ≤ W) (hk : k < 144) (u : World) : (binOp .quo 3 (.int .i64 (k : Int)) (.int .i64 (W : Int))).run Try.prog u = .ok (.int .i64 ((k : Int) / W)) u := by
  have t1 : Int.tdiv (k : Int) W = (k : Int) / W := Int.tdiv_eq_ediv_of_nonneg (by omega)
  obtain ⟨i0, i1, i2, i3⟩ := divmod_bd (W := W) (i := k) hW hk
  have d1 : W ≠ 0 := by omega
  simp only [binOp]
  simp [go_sem, t1, d1]
  exact IntWalk.i64_in _ (by omega)
/-- the sides of a's places beyond which p holds -/
def sideG (W H : Nat) (L : List Int) (a : Int) (p : Int → Bool) (i : Nat) : Nat :=
  if L.getD i 0 = a then sumN 4 (fun j => one (p (atL W H L ((i : Int) % W + dxI j) ((i : Int) / W + dyI j)))) else 0
def sidesN (W H : Nat) (L : List Int) (a : Int) (p : Int → Bool) : Nat := sumN L.length (sideG W H L a p)

set_option maxHeartbeats 4000000 in
theorem lSides {w : World} {B : Nat} {A : Option Addr} {L : List Int} {cap W H : Nat} (h : Rd w B A L) (hB : B ≤ w.heap.size) (v : VL W H L) (a : Int) (F : Nat) (caps : Array Value) (p : Int → Bool)
    (hF : ∀ args (u : World), (callFunc F args).run Try.prog u = .ok (.enter F args) u)
    (hp : ∀ u, Below w.heap.size w u → ∀ x, Calls Try.prog F (#[.int .i64 x] ++ caps) u fun e w' => e = .returned (.bool (p x)) ∧ u = w') :
    Calls Try.prog 34 #[.agg #[.int .i64 W, .int .i64 H, .slice A L.length cap], .int .i64 a, .func (.func F) #[] caps] w fun e w' => e = .returned (.int .i64 (sidesN W H L a p : Nat)) ∧ Below w.heap.size w w' := by
  have l144 := v.len144
  have W0 := v.w0
  have W12 := v.w1
  have hal : Below w.heap.size w (w.alloc (.cells #[.int .i64 W, .int .i64 H, .slice A L.length cap] 24)) := (Below.refl _ _).alloc (Nat.le_refl _) _
  have hsz : (w.alloc (.cells #[.int .i64 W, .int .i64 H, .slice A L.length cap] 24)).heap.size = w.heap.size + 1 := by simp
  have b0 : (w.alloc (.cells #[.int .i64 W, .int .i64 H, .slice A L.length cap] 24)).cell? ⟨w.heap.size, 0, none⟩ = some (.int .i64 W) := by simp
  have b1 : (w.alloc (.cells #[.int .i64 W, .int .i64 H, .slice A L.length cap] 24)).cell? ⟨w.heap.size, 1, none⟩ = some (.int .i64 H) := by simp
  have b2 : (w.alloc (.cells #[.int .i64 W, .int .i64 H, .slice A L.length cap] 24)).cell? ⟨w.heap.size, 2, none⟩ = some (.slice A L.length cap) := by simp
  have HAL := Lib.hid hal
  have HSZ := Lib.hid hsz
  have HP := Lib.hid hp
  have HF := Lib.hid hF
  have H0 := Lib.hid h
  have HV := Lib.hid v
  have hg : Hid (sidesN W H L a p = sumN L.length (sideG W H L a p)) := Lib.hid rfl
  have hgb : Hid (∀ i, sideG W H L a p i ≤ 4) := Lib.hid (fun i => by
    unfold sideG
    split
    · exact Nat.le_trans (sumN_le (c := 1) fun j _ => one_le _) (by omega)
    · omega)
  have x0 : ∀ u : World, (Instr.index 70 (.agg #[.int .i64 1, .int .i64 0, .int .i64 0, .int .i64 1, .int .i64 (-1), .int .i64 0, .int .i64 0, .int .i64 (-1)]) (.int .i64 0)).run Try.prog u = .ok (.agg #[.int .i64 1, .int .i64 0]) u := fun u => by kernel_rfl
  have x1 : ∀ u : World, (Instr.index 70 (.agg #[.int .i64 1, .int .i64 0, .int .i64 0, .int .i64 1, .int .i64 (-1), .int .i64 0, .int .i64 0, .int .i64 (-1)]) (.int .i64 1)).run Try.prog u = .ok (.agg #[.int .i64 0, .int .i64 1]) u := fun u => by kernel_rfl
  have x2 : ∀ u : World, (Instr.index 70 (.agg #[.int .i64 1, .int .i64 0, .int .i64 0, .int .i64 1, .int .i64 (-1), .int .i64 0, .int .i64 0, .int .i64 (-1)]) (.int .i64 2)).run Try.prog u = .ok (.agg #[.int .i64 (-1), .int .i64 0]) u := fun u => by kernel_rfl
  have x3 : ∀ u : World, (Instr.index 70 (.agg #[.int .i64 1, .int .i64 0, .int .i64 0, .int .i64 1, .int .i64 (-1), .int .i64 0, .int .i64 0, .int .i64 (-1)]) (.int .i64 3)).run Try.prog u = .ok (.agg #[.int .i64 0, .int .i64 (-1)]) u := fun u => by kernel_rfl
  clear hal hp h v hsz
  go_enter Try.func34, Try.ntmps34
  go_wp2
  generalize w.alloc (.cells #[.int .i64 W, .int .i64 H, .slice A L.length cap] 24) = w1 at *
  have B0 := Lib.hid b0
  have B1 := Lib.hid b1
  have B2 := Lib.hid b2
  clear b0 b1 b2
  go_loopw [7, 15] (fun nv iv wr => ∃ (k n : Nat), k ≤ L.length ∧ iv = .int .i64 k ∧ nv = .int .i64 n ∧ n ≤ 4 * k ∧ Hid (n = sumN k (sideG W H L a p)) ∧ Hid (Below w1.heap.size w1 wr)) (fun _ iv _ => L.length - (intOf iv).toNat)
  case atStart => exact ⟨0, 0, by omega, rfl, rfl, by omega, Lib.hid rfl, Lib.hid (Below.refl _ _)⟩
  case round =>
    obtain ⟨k, n, hk, rfl, rfl, hn, hs, hw⟩ := hrel
    by_cases hlt : k < L.length
    · have hbw := HAL.out.trans (hw.out.mono HAL.out.size)
      obtain ⟨b, off, x, rfl, hb, hx, hi, hc⟩ := (H0.out.below hbw hB).at_ hlt
      have HGX : Hid (L.getD k 0 = x) := Lib.hid (by rw [List.getD_eq_getElem?_getD, hx]; rfl)
      have HBW := Lib.hid hbw
      clear hx hi hbw
      go_wp2_with fail
      refine lSteps.mono ?_
      rintro e w2 ⟨rfl, hb2⟩
      have HW2 := Lib.hid (hw.out.trans (hb2.mono hw.out.size))
      clear hb2 hw hc
      go_wp2
      go_loopw [7, 21] (fun nv jv wi => ∃ (j m : Nat), j ≤ 4 ∧ jv = .int .i64 j ∧ nv = .int .i64 m ∧ m ≤ n + j ∧ Hid (m = n + if x = a then sumN j (fun j => one (p (atL W H L ((k : Int) % W + dxI j) ((k : Int) / W + dyI j)))) else 0) ∧ Hid (Below w1.heap.size w1 wi)) (fun _ jv _ => 4 - (intOf jv).toNat)
      case atStart => exact ⟨0, n, by omega, rfl, rfl, by omega, Lib.hid (by simp [sumN]), HW2⟩
      case round =>
        obtain ⟨j, m, hj, rfl, rfl, hm, hms, hwi⟩ := hrel
        by_cases hjl : j < 4
        · have hcj : j = 0 ∨ j = 1 ∨ j = 2 ∨ j = 3 := by omega
          have hz1 := hwi.out.size
          have hz0 := HSZ.out
          have q0 := ((bcell hwi.out).1 w.heap.size 0 (by omega)).trans B0.out
          have q1 := ((bcell hwi.out).1 w.heap.size 1 (by omega)).trans B1.out
          have q2 := ((bcell hwi.out).1 w.heap.size 2 (by omega)).trans B2.out
          have Q := Lib.hid (And.intro q0 (And.intro q1 q2))
          have HZ : Hid (w.heap.size < wr.heap.size) := Lib.hid (by omega)
          clear hz0 hz1 q0 q1 q2
          by_cases hxa : x = a
          · have hb1 : (x == a) = true := by simpa using hxa
            have HMS : Hid (m = n + sumN j (fun j => one (p (atL W H L ((k : Int) % W + dxI j) ((k : Int) / W + dyI j))))) := Lib.hid (by rw [hms.out, if_pos hxa])
            obtain ⟨z, hz⟩ : ∃ z, atL W H L ((k : Int) % W + dxI j) ((k : Int) / W + dyI j) = z := ⟨_, rfl⟩
            have HZZ := Lib.hid hz
            have HXA := Lib.hid hxa
            obtain ⟨i0, i1, i2, i3⟩ := divmod_bd (W := W) (i := k) W0 (by omega)
            have NEXT : Hid (m + one (p z) = n + if x = a then sumN (j + 1) (fun j => one (p (atL W H L ((k : Int) % W + dxI j) ((k : Int) / W + dyI j)))) else 0) := Lib.hid (by
              rw [if_pos HXA.out, HMS.out, sumN_succ, HZZ.out]; omega)
            clear hms hxa hz HMS
            rcases hcj with rfl | rfl | rfl | rfl
            · have hal1 : Below wr.heap.size wr (wr.alloc (.cells #[.int .i64 1, .int .i64 0] 62)) := (Below.refl _ _).alloc (Nat.le_refl _) _
              have c0 : (wr.alloc (.cells #[.int .i64 1, .int .i64 0] 62)).drew.cell? ⟨wr.heap.size, 0, none⟩ = some (.int .i64 1) := by simp
              have c1 : (wr.alloc (.cells #[.int .i64 1, .int .i64 0] 62)).drew.cell? ⟨wr.heap.size, 1, none⟩ = some (.int .i64 0) := by simp
              have hS0 : (wr.alloc (.cells #[.int .i64 1, .int .i64 0] 62)).drew.cell? ⟨w.heap.size, 0, none⟩ = some (.int .i64 W) ∧ (wr.alloc (.cells #[.int .i64 1, .int .i64 0] 62)).drew.cell? ⟨w.heap.size, 1, none⟩ = some (.int .i64 H) ∧ (wr.alloc (.cells #[.int .i64 1, .int .i64 0] 62)).drew.cell? ⟨w.heap.size, 2, none⟩ = some (.slice (some ⟨b, off, none⟩) L.length cap) ∧ (wr.alloc (.cells #[.int .i64 1, .int .i64 0] 62)).drew.cell? ⟨wr.heap.size, 0, none⟩ = some (.int .i64 1) ∧ (wr.alloc (.cells #[.int .i64 1, .int .i64 0] 62)).drew.cell? ⟨wr.heap.size, 1, none⟩ = some (.int .i64 0) ∧ Hid (Below wr.heap.size wr (wr.alloc (.cells #[.int .i64 1, .int .i64 0] 62)).drew) :=
                ⟨((bcell hal1).1 _ _ HZ.out).trans Q.out.1, ((bcell hal1).1 _ _ HZ.out).trans Q.out.2.1, ((bcell hal1).1 _ _ HZ.out).trans Q.out.2.2, c0, c1, Lib.hid (below_drewN hal1 1)⟩
              have keepS : ∀ u u' : World, (u.cell? ⟨w.heap.size, 0, none⟩ = some (.int .i64 W) ∧ u.cell? ⟨w.heap.size, 1, none⟩ = some (.int .i64 H) ∧ u.cell? ⟨w.heap.size, 2, none⟩ = some (.slice (some ⟨b, off, none⟩) L.length cap) ∧ u.cell? ⟨wr.heap.size, 0, none⟩ = some (.int .i64 1) ∧ u.cell? ⟨wr.heap.size, 1, none⟩ = some (.int .i64 0) ∧ Hid (Below wr.heap.size wr u)) → wr.heap.size < u.heap.size → Below u.heap.size u u' → (u'.cell? ⟨w.heap.size, 0, none⟩ = some (.int .i64 W) ∧ u'.cell? ⟨w.heap.size, 1, none⟩ = some (.int .i64 H) ∧ u'.cell? ⟨w.heap.size, 2, none⟩ = some (.slice (some ⟨b, off, none⟩) L.length cap) ∧ u'.cell? ⟨wr.heap.size, 0, none⟩ = some (.int .i64 1) ∧ u'.cell? ⟨wr.heap.size, 1, none⟩ = some (.int .i64 0) ∧ Hid (Below wr.heap.size wr u')) := by
                intro u u' ⟨g0, g1, g2, g3, g4, g5⟩ hsz hb'
                have hz := HZ.out
                exact ⟨((bcell hb').1 _ _ (by omega)).trans g0, ((bcell hb').1 _ _ (by omega)).trans g1, ((bcell hb').1 _ _ (by omega)).trans g2, ((bcell hb').1 _ _ (by omega)).trans g3, ((bcell hb').1 _ _ (by omega)).trans g4, Lib.hid (g5.out.trans (hb'.mono g5.out.size))⟩
              have szS : ∀ u : World, (u.cell? ⟨w.heap.size, 0, none⟩ = some (.int .i64 W) ∧ u.cell? ⟨w.heap.size, 1, none⟩ = some (.int .i64 H) ∧ u.cell? ⟨w.heap.size, 2, none⟩ = some (.slice (some ⟨b, off, none⟩) L.length cap) ∧ u.cell? ⟨wr.heap.size, 0, none⟩ = some (.int .i64 1) ∧ u.cell? ⟨wr.heap.size, 1, none⟩ = some (.int .i64 0) ∧ Hid (Below wr.heap.size wr u)) → wr.heap.size < u.heap.size := by
                intro u ⟨g0, g1, g2, g3, g4, g5⟩
                exact World.block_lt_of_cell? _ _ g3
              have CATW : Hid (∀ (u : World) (X Y : Int), (u.cell? ⟨w.heap.size, 0, none⟩ = some (.int .i64 W) ∧ u.cell? ⟨w.heap.size, 1, none⟩ = some (.int .i64 H) ∧ u.cell? ⟨w.heap.size, 2, none⟩ = some (.slice (some ⟨b, off, none⟩) L.length cap) ∧ u.cell? ⟨wr.heap.size, 0, none⟩ = some (.int .i64 1) ∧ u.cell? ⟨wr.heap.size, 1, none⟩ = some (.int .i64 0) ∧ Hid (Below wr.heap.size wr u)) → X = (k : Int) % W + dxI 0 → Y = (k : Int) / W + dyI 0 →
                  Calls Try.prog 42 #[.agg #[.int .i64 W, .int .i64 H, .slice (some ⟨b, off, none⟩) L.length cap], .int .i64 X, .int .i64 Y] u fun e u' => e = .returned (.int .i64 z) ∧ (u'.cell? ⟨w.heap.size, 0, none⟩ = some (.int .i64 W) ∧ u'.cell? ⟨w.heap.size, 1, none⟩ = some (.int .i64 H) ∧ u'.cell? ⟨w.heap.size, 2, none⟩ = some (.slice (some ⟨b, off, none⟩) L.length cap) ∧ u'.cell? ⟨wr.heap.size, 0, none⟩ = some (.int .i64 1) ∧ u'.cell? ⟨wr.heap.size, 1, none⟩ = some (.int .i64 0) ∧ Hid (Below wr.heap.size wr u'))) := Lib.hid (by
                rintro u X Y hS rfl rfl
                have hbu := HAL.out.trans ((hwi.out.trans (hS.2.2.2.2.2.out.mono hwi.out.size)).mono HAL.out.size)
                have c := lAt (cap := cap) (H0.out.below hbu hB) (Nat.le_trans hB hbu.size) HV.out ((k : Int) % W + dxI 0) ((k : Int) / W + dyI 0)
                rw [HZZ.out] at c
                exact c.mono fun e u' ⟨he, hb'⟩ => ⟨he, keepS u u' hS (szS u hS) hb'⟩)
              have CPW : Hid (∀ u : World, (u.cell? ⟨w.heap.size, 0, none⟩ = some (.int .i64 W) ∧ u.cell? ⟨w.heap.size, 1, none⟩ = some (.int .i64 H) ∧ u.cell? ⟨w.heap.size, 2, none⟩ = some (.slice (some ⟨b, off, none⟩) L.length cap) ∧ u.cell? ⟨wr.heap.size, 0, none⟩ = some (.int .i64 1) ∧ u.cell? ⟨wr.heap.size, 1, none⟩ = some (.int .i64 0) ∧ Hid (Below wr.heap.size wr u)) → Calls Try.prog F (#[.int .i64 z] ++ caps) u fun e u' => e = .returned (.bool (p z)) ∧ (u'.cell? ⟨w.heap.size, 0, none⟩ = some (.int .i64 W) ∧ u'.cell? ⟨w.heap.size, 1, none⟩ = some (.int .i64 H) ∧ u'.cell? ⟨w.heap.size, 2, none⟩ = some (.slice (some ⟨b, off, none⟩) L.length cap) ∧ u'.cell? ⟨wr.heap.size, 0, none⟩ = some (.int .i64 1) ∧ u'.cell? ⟨wr.heap.size, 1, none⟩ = some (.int .i64 0) ∧ Hid (Below wr.heap.size wr u'))) := Lib.hid (by
                intro u hS
                have hbu := HAL.out.trans ((hwi.out.trans (hS.2.2.2.2.2.out.mono hwi.out.size)).mono HAL.out.size)
                exact (HP.out u hbu z).mono fun e u' ⟨he, hu⟩ => ⟨he, by rw [← hu]; exact hS⟩)
              have d1 : W ≠ 0 := by omega
              have t1 : Int.tmod (k : Int) W = (k : Int) % W := Int.tmod_eq_emod_of_nonneg (by omega)
              have t3 : Int.tdiv (k : Int) W = (k : Int) / W := Int.tdiv_eq_ediv_of_nonneg (by omega)
              have e1 : IntKind.i64.wrap ((k : Int) / W) = (k : Int) / W := IntWalk.i64_in _ (by omega)
              have e2 : IntKind.i64.wrap ((k : Int) % W) = (k : Int) % W := IntWalk.i64_in _ (by omega)
              have e3 : IntKind.i64.wrap ((k : Int) % W + 1) = (k : Int) % W + 1 := IntWalk.i64_in _ (by omega)
              have e4 : IntKind.i64.wrap ((k : Int) / W + 1) = (k : Int) / W + 1 := IntWalk.i64_in _ (by omega)
              have e5 : IntKind.i64.wrap ((k : Int) % W + -1) = (k : Int) % W + -1 := IntWalk.i64_in _ (by omega)
              have e6 : IntKind.i64.wrap ((k : Int) / W + -1) = (k : Int) / W + -1 := IntWalk.i64_in _ (by omega)
              clear keepS szS c0 c1 hal1
              cases hpz : p z
              all_goals
                rw [hpz] at CPW NEXT
                clear hpz
                go_wp2
                go_region_held3 (fun w' => w'.cell? ⟨w.heap.size, 0, none⟩ = some (.int .i64 W) ∧ w'.cell? ⟨w.heap.size, 1, none⟩ = some (.int .i64 H) ∧ w'.cell? ⟨w.heap.size, 2, none⟩ = some (.slice (some ⟨b, off, none⟩) L.length cap) ∧ w'.cell? ⟨wr.heap.size, 0, none⟩ = some (.int .i64 1) ∧ w'.cell? ⟨wr.heap.size, 1, none⟩ = some (.int .i64 0) ∧ Hid (Below wr.heap.size wr w')) (first | assumption | go_keep)
                  (first | (go_at_call 42; refine (CATW.out _ _ _ (by assumption) (by simp [dxI]; try omega) (by simp [dyI]; try omega)).mono ?_; rintro e w3 ⟨rfl, hS3⟩) | (refine (CPW.out _ (by assumption)).mono ?_; rintro e w4 ⟨rfl, hS4⟩))
                have HW4 := Lib.hid (hwi.out.trans (hS4.2.2.2.2.2.out.mono hwi.out.size))
                clear hS4 hS3 hS0 CATW CPW d1 t1 t3 e1 e2 e3 e4 e5 e6
                go_wp2
                go_roundw
                case rel =>
                  first
                  | exact ⟨1, m + 1, by omega, by go_num, by go_num, by omega, Lib.hid (by rw [← NEXT.out]; rfl), HW4⟩
                  | exact ⟨1, m, by omega, by go_num, rfl, by omega, Lib.hid (by rw [← NEXT.out]; rfl), HW4⟩
                case measure => simp [intOf]
            · have hal1 : Below wr.heap.size wr (wr.alloc (.cells #[.int .i64 0, .int .i64 1] 62)) := (Below.refl _ _).alloc (Nat.le_refl _) _
              have c0 : (wr.alloc (.cells #[.int .i64 0, .int .i64 1] 62)).drew.cell? ⟨wr.heap.size, 0, none⟩ = some (.int .i64 0) := by simp
              have c1 : (wr.alloc (.cells #[.int .i64 0, .int .i64 1] 62)).drew.cell? ⟨wr.heap.size, 1, none⟩ = some (.int .i64 1) := by simp
              have hS0 : (wr.alloc (.cells #[.int .i64 0, .int .i64 1] 62)).drew.cell? ⟨w.heap.size, 0, none⟩ = some (.int .i64 W) ∧ (wr.alloc (.cells #[.int .i64 0, .int .i64 1] 62)).drew.cell? ⟨w.heap.size, 1, none⟩ = some (.int .i64 H) ∧ (wr.alloc (.cells #[.int .i64 0, .int .i64 1] 62)).drew.cell? ⟨w.heap.size, 2, none⟩ = some (.slice (some ⟨b, off, none⟩) L.length cap) ∧ (wr.alloc (.cells #[.int .i64 0, .int .i64 1] 62)).drew.cell? ⟨wr.heap.size, 0, none⟩ = some (.int .i64 0) ∧ (wr.alloc (.cells #[.int .i64 0, .int .i64 1] 62)).drew.cell? ⟨wr.heap.size, 1, none⟩ = some (.int .i64 1) ∧ Hid (Below wr.heap.size wr (wr.alloc (.cells #[.int .i64 0, .int .i64 1] 62)).drew) :=
                ⟨((bcell hal1).1 _ _ HZ.out).trans Q.out.1, ((bcell hal1).1 _ _ HZ.out).trans Q.out.2.1, ((bcell hal1).1 _ _ HZ.out).trans Q.out.2.2, c0, c1, Lib.hid (below_drewN hal1 1)⟩
              have keepS : ∀ u u' : World, (u.cell? ⟨w.heap.size, 0, none⟩ = some (.int .i64 W) ∧ u.cell? ⟨w.heap.size, 1, none⟩ = some (.int .i64 H) ∧ u.cell? ⟨w.heap.size, 2, none⟩ = some (.slice (some ⟨b, off, none⟩) L.length cap) ∧ u.cell? ⟨wr.heap.size, 0, none⟩ = some (.int .i64 0) ∧ u.cell? ⟨wr.heap.size, 1, none⟩ = some (.int .i64 1) ∧ Hid (Below wr.heap.size wr u)) → wr.heap.size < u.heap.size → Below u.heap.size u u' → (u'.cell? ⟨w.heap.size, 0, none⟩ = some (.int .i64 W) ∧ u'.cell? ⟨w.heap.size, 1, none⟩ = some (.int .i64 H) ∧ u'.cell? ⟨w.heap.size, 2, none⟩ = some (.slice (some ⟨b, off, none⟩) L.length cap) ∧ u'.cell? ⟨wr.heap.size, 0, none⟩ = some (.int .i64 0) ∧ u'.cell? ⟨wr.heap.size, 1, none⟩ = some (.int .i64 1) ∧ Hid (Below wr.heap.size wr u')) := by
                intro u u' ⟨g0, g1, g2, g3, g4, g5⟩ hsz hb'
                have hz := HZ.out
                exact ⟨((bcell hb').1 _ _ (by omega)).trans g0, ((bcell hb').1 _ _ (by omega)).trans g1, ((bcell hb').1 _ _ (by omega)).trans g2, ((bcell hb').1 _ _ (by omega)).trans g3, ((bcell hb').1 _ _ (by omega)).trans g4, Lib.hid (g5.out.trans (hb'.mono g5.out.size))⟩
              have szS : ∀ u : World, (u.cell? ⟨w.heap.size, 0, none⟩ = some (.int .i64 W) ∧ u.cell? ⟨w.heap.size, 1, none⟩ = some (.int .i64 H) ∧ u.cell? ⟨w.heap.size, 2, none⟩ = some (.slice (some ⟨b, off, none⟩) L.length cap) ∧ u.cell? ⟨wr.heap.size, 0, none⟩ = some (.int .i64 0) ∧ u.cell? ⟨wr.heap.size, 1, none⟩ = some (.int .i64 1) ∧ Hid (Below wr.heap.size wr u)) → wr.heap.size < u.heap.size := by
                intro u ⟨g0, g1, g2, g3, g4, g5⟩
                exact World.block_lt_of_cell? _ _ g3
              have CATW : Hid (∀ (u : World) (X Y : Int), (u.cell? ⟨w.heap.size, 0, none⟩ = some (.int .i64 W) ∧ u.cell? ⟨w.heap.size, 1, none⟩ = some (.int .i64 H) ∧ u.cell? ⟨w.heap.size, 2, none⟩ = some (.slice (some ⟨b, off, none⟩) L.length cap) ∧ u.cell? ⟨wr.heap.size, 0, none⟩ = some (.int .i64 0) ∧ u.cell? ⟨wr.heap.size, 1, none⟩ = some (.int .i64 1) ∧ Hid (Below wr.heap.size wr u)) → X = (k : Int) % W + dxI 1 → Y = (k : Int) / W + dyI 1 →
                  Calls Try.prog 42 #[.agg #[.int .i64 W, .int .i64 H, .slice (some ⟨b, off, none⟩) L.length cap], .int .i64 X, .int .i64 Y] u fun e u' => e = .returned (.int .i64 z) ∧ (u'.cell? ⟨w.heap.size, 0, none⟩ = some (.int .i64 W) ∧ u'.cell? ⟨w.heap.size, 1, none⟩ = some (.int .i64 H) ∧ u'.cell? ⟨w.heap.size, 2, none⟩ = some (.slice (some ⟨b, off, none⟩) L.length cap) ∧ u'.cell? ⟨wr.heap.size, 0, none⟩ = some (.int .i64 0) ∧ u'.cell? ⟨wr.heap.size, 1, none⟩ = some (.int .i64 1) ∧ Hid (Below wr.heap.size wr u'))) := Lib.hid (by
                rintro u X Y hS rfl rfl
                have hbu := HAL.out.trans ((hwi.out.trans (hS.2.2.2.2.2.out.mono hwi.out.size)).mono HAL.out.size)
                have c := lAt (cap := cap) (H0.out.below hbu hB) (Nat.le_trans hB hbu.size) HV.out ((k : Int) % W + dxI 1) ((k : Int) / W + dyI 1)
                rw [HZZ.out] at c
                exact c.mono fun e u' ⟨he, hb'⟩ => ⟨he, keepS u u' hS (szS u hS) hb'⟩)
              have CPW : Hid (∀ u : World, (u.cell? ⟨w.heap.size, 0, none⟩ = some (.int .i64 W) ∧ u.cell? ⟨w.heap.size, 1, none⟩ = some (.int .i64 H) ∧ u.cell? ⟨w.heap.size, 2, none⟩ = some (.slice (some ⟨b, off, none⟩) L.length cap) ∧ u.cell? ⟨wr.heap.size, 0, none⟩ = some (.int .i64 0) ∧ u.cell? ⟨wr.heap.size, 1, none⟩ = some (.int .i64 1) ∧ Hid (Below wr.heap.size wr u)) → Calls Try.prog F (#[.int .i64 z] ++ caps) u fun e u' => e = .returned (.bool (p z)) ∧ (u'.cell? ⟨w.heap.size, 0, none⟩ = some (.int .i64 W) ∧ u'.cell? ⟨w.heap.size, 1, none⟩ = some (.int .i64 H) ∧ u'.cell? ⟨w.heap.size, 2, none⟩ = some (.slice (some ⟨b, off, none⟩) L.length cap) ∧ u'.cell? ⟨wr.heap.size, 0, none⟩ = some (.int .i64 0) ∧ u'.cell? ⟨wr.heap.size, 1, none⟩ = some (.int .i64 1) ∧ Hid (Below wr.heap.size wr u'))) := Lib.hid (by
                intro u hS
                have hbu := HAL.out.trans ((hwi.out.trans (hS.2.2.2.2.2.out.mono hwi.out.size)).mono HAL.out.size)
                exact (HP.out u hbu z).mono fun e u' ⟨he, hu⟩ => ⟨he, by rw [← hu]; exact hS⟩)
              have d1 : W ≠ 0 := by omega
              have t1 : Int.tmod (k : Int) W = (k : Int) % W := Int.tmod_eq_emod_of_nonneg (by omega)
              have t3 : Int.tdiv (k : Int) W = (k : Int) / W := Int.tdiv_eq_ediv_of_nonneg (by omega)
              have e1 : IntKind.i64.wrap ((k : Int) / W) = (k : Int) / W := IntWalk.i64_in _ (by omega)
              have e2 : IntKind.i64.wrap ((k : Int) % W) = (k : Int) % W := IntWalk.i64_in _ (by omega)
              have e3 : IntKind.i64.wrap ((k : Int) % W + 1) = (k : Int) % W + 1 := IntWalk.i64_in _ (by omega)
              have e4 : IntKind.i64.wrap ((k : Int) / W + 1) = (k : Int) / W + 1 := IntWalk.i64_in _ (by omega)
              have e5 : IntKind.i64.wrap ((k : Int) % W + -1) = (k : Int) % W + -1 := IntWalk.i64_in _ (by omega)
              have e6 : IntKind.i64.wrap ((k : Int) / W + -1) = (k : Int) / W + -1 := IntWalk.i64_in _ (by omega)
              clear keepS szS c0 c1 hal1
              cases hpz : p z
              all_goals
                rw [hpz] at CPW NEXT
                clear hpz
                go_wp2
                go_region_held3 (fun w' => w'.cell? ⟨w.heap.size, 0, none⟩ = some (.int .i64 W) ∧ w'.cell? ⟨w.heap.size, 1, none⟩ = some (.int .i64 H) ∧ w'.cell? ⟨w.heap.size, 2, none⟩ = some (.slice (some ⟨b, off, none⟩) L.length cap) ∧ w'.cell? ⟨wr.heap.size, 0, none⟩ = some (.int .i64 0) ∧ w'.cell? ⟨wr.heap.size, 1, none⟩ = some (.int .i64 1) ∧ Hid (Below wr.heap.size wr w')) (first | assumption | go_keep)
                  (first | (go_at_call 42; refine (CATW.out _ _ _ (by assumption) (by simp [dxI]; try omega) (by simp [dyI]; try omega)).mono ?_; rintro e w3 ⟨rfl, hS3⟩) | (refine (CPW.out _ (by assumption)).mono ?_; rintro e w4 ⟨rfl, hS4⟩))
                have HW4 := Lib.hid (hwi.out.trans (hS4.2.2.2.2.2.out.mono hwi.out.size))
                clear hS4 hS3 hS0 CATW CPW d1 t1 t3 e1 e2 e3 e4 e5 e6
                go_wp2
                go_roundw
                case rel =>
                  first
                  | exact ⟨2, m + 1, by omega, by go_num, by go_num, by omega, Lib.hid (by rw [← NEXT.out]; rfl), HW4⟩
                  | exact ⟨2, m, by omega, by go_num, rfl, by omega, Lib.hid (by rw [← NEXT.out]; rfl), HW4⟩
                case measure => simp [intOf]
            · have hal1 : Below wr.heap.size wr (wr.alloc (.cells #[.int .i64 (-1), .int .i64 0] 62)) := (Below.refl _ _).alloc (Nat.le_refl _) _
              have c0 : (wr.alloc (.cells #[.int .i64 (-1), .int .i64 0] 62)).drew.cell? ⟨wr.heap.size, 0, none⟩ = some (.int .i64 (-1)) := by simp
              have c1 : (wr.alloc (.cells #[.int .i64 (-1), .int .i64 0] 62)).drew.cell? ⟨wr.heap.size, 1, none⟩ = some (.int .i64 0) := by simp
              have hS0 : (wr.alloc (.cells #[.int .i64 (-1), .int .i64 0] 62)).drew.cell? ⟨w.heap.size, 0, none⟩ = some (.int .i64 W) ∧ (wr.alloc (.cells #[.int .i64 (-1), .int .i64 0] 62)).drew.cell? ⟨w.heap.size, 1, none⟩ = some (.int .i64 H) ∧ (wr.alloc (.cells #[.int .i64 (-1), .int .i64 0] 62)).drew.cell? ⟨w.heap.size, 2, none⟩ = some (.slice (some ⟨b, off, none⟩) L.length cap) ∧ (wr.alloc (.cells #[.int .i64 (-1), .int .i64 0] 62)).drew.cell? ⟨wr.heap.size, 0, none⟩ = some (.int .i64 (-1)) ∧ (wr.alloc (.cells #[.int .i64 (-1), .int .i64 0] 62)).drew.cell? ⟨wr.heap.size, 1, none⟩ = some (.int .i64 0) ∧ Hid (Below wr.heap.size wr (wr.alloc (.cells #[.int .i64 (-1), .int .i64 0] 62)).drew) :=
                ⟨((bcell hal1).1 _ _ HZ.out).trans Q.out.1, ((bcell hal1).1 _ _ HZ.out).trans Q.out.2.1, ((bcell hal1).1 _ _ HZ.out).trans Q.out.2.2, c0, c1, Lib.hid (below_drewN hal1 1)⟩
              have keepS : ∀ u u' : World, (u.cell? ⟨w.heap.size, 0, none⟩ = some (.int .i64 W) ∧ u.cell? ⟨w.heap.size, 1, none⟩ = some (.int .i64 H) ∧ u.cell? ⟨w.heap.size, 2, none⟩ = some (.slice (some ⟨b, off, none⟩) L.length cap) ∧ u.cell? ⟨wr.heap.size, 0, none⟩ = some (.int .i64 (-1)) ∧ u.cell? ⟨wr.heap.size, 1, none⟩ = some (.int .i64 0) ∧ Hid (Below wr.heap.size wr u)) → wr.heap.size < u.heap.size → Below u.heap.size u u' → (u'.cell? ⟨w.heap.size, 0, none⟩ = some (.int .i64 W) ∧ u'.cell? ⟨w.heap.size, 1, none⟩ = some (.int .i64 H) ∧ u'.cell? ⟨w.heap.size, 2, none⟩ = some (.slice (some ⟨b, off, none⟩) L.length cap) ∧ u'.cell? ⟨wr.heap.size, 0, none⟩ = some (.int .i64 (-1)) ∧ u'.cell? ⟨wr.heap.size, 1, none⟩ = some (.int .i64 0) ∧ Hid (Below wr.heap.size wr u')) := by
                intro u u' ⟨g0, g1, g2, g3, g4, g5⟩ hsz hb'
                have hz := HZ.out
                exact ⟨((bcell hb').1 _ _ (by omega)).trans g0, ((bcell hb').1 _ _ (by omega)).trans g1, ((bcell hb').1 _ _ (by omega)).trans g2, ((bcell hb').1 _ _ (by omega)).trans g3, ((bcell hb').1 _ _ (by omega)).trans g4, Lib.hid (g5.out.trans (hb'.mono g5.out.size))⟩
              have szS : ∀ u : World, (u.cell? ⟨w.heap.size, 0, none⟩ = some (.int .i64 W) ∧ u.cell? ⟨w.heap.size, 1, none⟩ = some (.int .i64 H) ∧ u.cell? ⟨w.heap.size, 2, none⟩ = some (.slice (some ⟨b, off, none⟩) L.length cap) ∧ u.cell? ⟨wr.heap.size, 0, none⟩ = some (.int .i64 (-1)) ∧ u.cell? ⟨wr.heap.size, 1, none⟩ = some (.int .i64 0) ∧ Hid (Below wr.heap.size wr u)) → wr.heap.size < u.heap.size := by
                intro u ⟨g0, g1, g2, g3, g4, g5⟩
                exact World.block_lt_of_cell? _ _ g3
              have CATW : Hid (∀ (u : World) (X Y : Int), (u.cell? ⟨w.heap.size, 0, none⟩ = some (.int .i64 W) ∧ u.cell? ⟨w.heap.size, 1, none⟩ = some (.int .i64 H) ∧ u.cell? ⟨w.heap.size, 2, none⟩ = some (.slice (some ⟨b, off, none⟩) L.length cap) ∧ u.cell? ⟨wr.heap.size, 0, none⟩ = some (.int .i64 (-1)) ∧ u.cell? ⟨wr.heap.size, 1, none⟩ = some (.int .i64 0) ∧ Hid (Below wr.heap.size wr u)) → X = (k : Int) % W + dxI 2 → Y = (k : Int) / W + dyI 2 →
                  Calls Try.prog 42 #[.agg #[.int .i64 W, .int .i64 H, .slice (some ⟨b, off, none⟩) L.length cap], .int .i64 X, .int .i64 Y] u fun e u' => e = .returned (.int .i64 z) ∧ (u'.cell? ⟨w.heap.size, 0, none⟩ = some (.int .i64 W) ∧ u'.cell? ⟨w.heap.size, 1, none⟩ = some (.int .i64 H) ∧ u'.cell? ⟨w.heap.size, 2, none⟩ = some (.slice (some ⟨b, off, none⟩) L.length cap) ∧ u'.cell? ⟨wr.heap.size, 0, none⟩ = some (.int .i64 (-1)) ∧ u'.cell? ⟨wr.heap.size, 1, none⟩ = some (.int .i64 0) ∧ Hid (Below wr.heap.size wr u'))) := Lib.hid (by
                rintro u X Y hS rfl rfl
                have hbu := HAL.out.trans ((hwi.out.trans (hS.2.2.2.2.2.out.mono hwi.out.size)).mono HAL.out.size)
                have c := lAt (cap := cap) (H0.out.below hbu hB) (Nat.le_trans hB hbu.size) HV.out ((k : Int) % W + dxI 2) ((k : Int) / W + dyI 2)
                rw [HZZ.out] at c
                exact c.mono fun e u' ⟨he, hb'⟩ => ⟨he, keepS u u' hS (szS u hS) hb'⟩)
              have CPW : Hid (∀ u : World, (u.cell? ⟨w.heap.size, 0, none⟩ = some (.int .i64 W) ∧ u.cell? ⟨w.heap.size, 1, none⟩ = some (.int .i64 H) ∧ u.cell? ⟨w.heap.size, 2, none⟩ = some (.slice (some ⟨b, off, none⟩) L.length cap) ∧ u.cell? ⟨wr.heap.size, 0, none⟩ = some (.int .i64 (-1)) ∧ u.cell? ⟨wr.heap.size, 1, none⟩ = some (.int .i64 0) ∧ Hid (Below wr.heap.size wr u)) → Calls Try.prog F (#[.int .i64 z] ++ caps) u fun e u' => e = .returned (.bool (p z)) ∧ (u'.cell? ⟨w.heap.size, 0, none⟩ = some (.int .i64 W) ∧ u'.cell? ⟨w.heap.size, 1, none⟩ = some (.int .i64 H) ∧ u'.cell? ⟨w.heap.size, 2, none⟩ = some (.slice (some ⟨b, off, none⟩) L.length cap) ∧ u'.cell? ⟨wr.heap.size, 0, none⟩ = some (.int .i64 (-1)) ∧ u'.cell? ⟨wr.heap.size, 1, none⟩ = some (.int .i64 0) ∧ Hid (Below wr.heap.size wr u'))) := Lib.hid (by
                intro u hS
                have hbu := HAL.out.trans ((hwi.out.trans (hS.2.2.2.2.2.out.mono hwi.out.size)).mono HAL.out.size)
                exact (HP.out u hbu z).mono fun e u' ⟨he, hu⟩ => ⟨he, by rw [← hu]; exact hS⟩)
              have d1 : W ≠ 0 := by omega
              have t1 : Int.tmod (k : Int) W = (k : Int) % W := Int.tmod_eq_emod_of_nonneg (by omega)
              have t3 : Int.tdiv (k : Int) W = (k : Int) / W := Int.tdiv_eq_ediv_of_nonneg (by omega)
              have e1 : IntKind.i64.wrap ((k : Int) / W) = (k : Int) / W := IntWalk.i64_in _ (by omega)
              have e2 : IntKind.i64.wrap ((k : Int) % W) = (k : Int) % W := IntWalk.i64_in _ (by omega)
              have e3 : IntKind.i64.wrap ((k : Int) % W + 1) = (k : Int) % W + 1 := IntWalk.i64_in _ (by omega)
              have e4 : IntKind.i64.wrap ((k : Int) / W + 1) = (k : Int) / W + 1 := IntWalk.i64_in _ (by omega)
              have e5 : IntKind.i64.wrap ((k : Int) % W + -1) = (k : Int) % W + -1 := IntWalk.i64_in _ (by omega)
              have e6 : IntKind.i64.wrap ((k : Int) / W + -1) = (k : Int) / W + -1 := IntWalk.i64_in _ (by omega)
              clear keepS szS c0 c1 hal1
              cases hpz : p z
              all_goals
                rw [hpz] at CPW NEXT
                clear hpz
                go_wp2
                go_region_held3 (fun w' => w'.cell? ⟨w.heap.size, 0, none⟩ = some (.int .i64 W) ∧ w'.cell? ⟨w.heap.size, 1, none⟩ = some (.int .i64 H) ∧ w'.cell? ⟨w.heap.size, 2, none⟩ = some (.slice (some ⟨b, off, none⟩) L.length cap) ∧ w'.cell? ⟨wr.heap.size, 0, none⟩ = some (.int .i64 (-1)) ∧ w'.cell? ⟨wr.heap.size, 1, none⟩ = some (.int .i64 0) ∧ Hid (Below wr.heap.size wr w')) (first | assumption | go_keep)
                  (first | (go_at_call 42; refine (CATW.out _ _ _ (by assumption) (by simp [dxI]; try omega) (by simp [dyI]; try omega)).mono ?_; rintro e w3 ⟨rfl, hS3⟩) | (refine (CPW.out _ (by assumption)).mono ?_; rintro e w4 ⟨rfl, hS4⟩))
                have HW4 := Lib.hid (hwi.out.trans (hS4.2.2.2.2.2.out.mono hwi.out.size))
                clear hS4 hS3 hS0 CATW CPW d1 t1 t3 e1 e2 e3 e4 e5 e6
                go_wp2
                go_roundw
                case rel =>
                  first
                  | exact ⟨3, m + 1, by omega, by go_num, by go_num, by omega, Lib.hid (by rw [← NEXT.out]; rfl), HW4⟩
                  | exact ⟨3, m, by omega, by go_num, rfl, by omega, Lib.hid (by rw [← NEXT.out]; rfl), HW4⟩
                case measure => simp [intOf]
            · have hal1 : Below wr.heap.size wr (wr.alloc (.cells #[.int .i64 0, .int .i64 (-1)] 62)) := (Below.refl _ _).alloc (Nat.le_refl _) _
              have c0 : (wr.alloc (.cells #[.int .i64 0, .int .i64 (-1)] 62)).drew.cell? ⟨wr.heap.size, 0, none⟩ = some (.int .i64 0) := by simp
              have c1 : (wr.alloc (.cells #[.int .i64 0, .int .i64 (-1)] 62)).drew.cell? ⟨wr.heap.size, 1, none⟩ = some (.int .i64 (-1)) := by simp
              have hS0 : (wr.alloc (.cells #[.int .i64 0, .int .i64 (-1)] 62)).drew.cell? ⟨w.heap.size, 0, none⟩ = some (.int .i64 W) ∧ (wr.alloc (.cells #[.int .i64 0, .int .i64 (-1)] 62)).drew.cell? ⟨w.heap.size, 1, none⟩ = some (.int .i64 H) ∧ (wr.alloc (.cells #[.int .i64 0, .int .i64 (-1)] 62)).drew.cell? ⟨w.heap.size, 2, none⟩ = some (.slice (some ⟨b, off, none⟩) L.length cap) ∧ (wr.alloc (.cells #[.int .i64 0, .int .i64 (-1)] 62)).drew.cell? ⟨wr.heap.size, 0, none⟩ = some (.int .i64 0) ∧ (wr.alloc (.cells #[.int .i64 0, .int .i64 (-1)] 62)).drew.cell? ⟨wr.heap.size, 1, none⟩ = some (.int .i64 (-1)) ∧ Hid (Below wr.heap.size wr (wr.alloc (.cells #[.int .i64 0, .int .i64 (-1)] 62)).drew) :=
                ⟨((bcell hal1).1 _ _ HZ.out).trans Q.out.1, ((bcell hal1).1 _ _ HZ.out).trans Q.out.2.1, ((bcell hal1).1 _ _ HZ.out).trans Q.out.2.2, c0, c1, Lib.hid (below_drewN hal1 1)⟩
              have keepS : ∀ u u' : World, (u.cell? ⟨w.heap.size, 0, none⟩ = some (.int .i64 W) ∧ u.cell? ⟨w.heap.size, 1, none⟩ = some (.int .i64 H) ∧ u.cell? ⟨w.heap.size, 2, none⟩ = some (.slice (some ⟨b, off, none⟩) L.length cap) ∧ u.cell? ⟨wr.heap.size, 0, none⟩ = some (.int .i64 0) ∧ u.cell? ⟨wr.heap.size, 1, none⟩ = some (.int .i64 (-1)) ∧ Hid (Below wr.heap.size wr u)) → wr.heap.size < u.heap.size → Below u.heap.size u u' → (u'.cell? ⟨w.heap.size, 0, none⟩ = some (.int .i64 W) ∧ u'.cell? ⟨w.heap.size, 1, none⟩ = some (.int .i64 H) ∧ u'.cell? ⟨w.heap.size, 2, none⟩ = some (.slice (some ⟨b, off, none⟩) L.length cap) ∧ u'.cell? ⟨wr.heap.size, 0, none⟩ = some (.int .i64 0) ∧ u'.cell? ⟨wr.heap.size, 1, none⟩ = some (.int .i64 (-1)) ∧ Hid (Below wr.heap.size wr u')) := by
                intro u u' ⟨g0, g1, g2, g3, g4, g5⟩ hsz hb'
                have hz := HZ.out
                exact ⟨((bcell hb').1 _ _ (by omega)).trans g0, ((bcell hb').1 _ _ (by omega)).trans g1, ((bcell hb').1 _ _ (by omega)).trans g2, ((bcell hb').1 _ _ (by omega)).trans g3, ((bcell hb').1 _ _ (by omega)).trans g4, Lib.hid (g5.out.trans (hb'.mono g5.out.size))⟩
              have szS : ∀ u : World, (u.cell? ⟨w.heap.size, 0, none⟩ = some (.int .i64 W) ∧ u.cell? ⟨w.heap.size, 1, none⟩ = some (.int .i64 H) ∧ u.cell? ⟨w.heap.size, 2, none⟩ = some (.slice (some ⟨b, off, none⟩) L.length cap) ∧ u.cell? ⟨wr.heap.size, 0, none⟩ = some (.int .i64 0) ∧ u.cell? ⟨wr.heap.size, 1, none⟩ = some (.int .i64 (-1)) ∧ Hid (Below wr.heap.size wr u)) → wr.heap.size < u.heap.size := by
                intro u ⟨g0, g1, g2, g3, g4, g5⟩
                exact World.block_lt_of_cell? _ _ g3
              have CATW : Hid (∀ (u : World) (X Y : Int), (u.cell? ⟨w.heap.size, 0, none⟩ = some (.int .i64 W) ∧ u.cell? ⟨w.heap.size, 1, none⟩ = some (.int .i64 H) ∧ u.cell? ⟨w.heap.size, 2, none⟩ = some (.slice (some ⟨b, off, none⟩) L.length cap) ∧ u.cell? ⟨wr.heap.size, 0, none⟩ = some (.int .i64 0) ∧ u.cell? ⟨wr.heap.size, 1, none⟩ = some (.int .i64 (-1)) ∧ Hid (Below wr.heap.size wr u)) → X = (k : Int) % W + dxI 3 → Y = (k : Int) / W + dyI 3 →
                  Calls Try.prog 42 #[.agg #[.int .i64 W, .int .i64 H, .slice (some ⟨b, off, none⟩) L.length cap], .int .i64 X, .int .i64 Y] u fun e u' => e = .returned (.int .i64 z) ∧ (u'.cell? ⟨w.heap.size, 0, none⟩ = some (.int .i64 W) ∧ u'.cell? ⟨w.heap.size, 1, none⟩ = some (.int .i64 H) ∧ u'.cell? ⟨w.heap.size, 2, none⟩ = some (.slice (some ⟨b, off, none⟩) L.length cap) ∧ u'.cell? ⟨wr.heap.size, 0, none⟩ = some (.int .i64 0) ∧ u'.cell? ⟨wr.heap.size, 1, none⟩ = some (.int .i64 (-1)) ∧ Hid (Below wr.heap.size wr u'))) := Lib.hid (by
                rintro u X Y hS rfl rfl
                have hbu := HAL.out.trans ((hwi.out.trans (hS.2.2.2.2.2.out.mono hwi.out.size)).mono HAL.out.size)
                have c := lAt (cap := cap) (H0.out.below hbu hB) (Nat.le_trans hB hbu.size) HV.out ((k : Int) % W + dxI 3) ((k : Int) / W + dyI 3)
                rw [HZZ.out] at c
                exact c.mono fun e u' ⟨he, hb'⟩ => ⟨he, keepS u u' hS (szS u hS) hb'⟩)
              have CPW : Hid (∀ u : World, (u.cell? ⟨w.heap.size, 0, none⟩ = some (.int .i64 W) ∧ u.cell? ⟨w.heap.size, 1, none⟩ = some (.int .i64 H) ∧ u.cell? ⟨w.heap.size, 2, none⟩ = some (.slice (some ⟨b, off, none⟩) L.length cap) ∧ u.cell? ⟨wr.heap.size, 0, none⟩ = some (.int .i64 0) ∧ u.cell? ⟨wr.heap.size, 1, none⟩ = some (.int .i64 (-1)) ∧ Hid (Below wr.heap.size wr u)) → Calls Try.prog F (#[.int .i64 z] ++ caps) u fun e u' => e = .returned (.bool (p z)) ∧ (u'.cell? ⟨w.heap.size, 0, none⟩ = some (.int .i64 W) ∧ u'.cell? ⟨w.heap.size, 1, none⟩ = some (.int .i64 H) ∧ u'.cell? ⟨w.heap.size, 2, none⟩ = some (.slice (some ⟨b, off, none⟩) L.length cap) ∧ u'.cell? ⟨wr.heap.size, 0, none⟩ = some (.int .i64 0) ∧ u'.cell? ⟨wr.heap.size, 1, none⟩ = some (.int .i64 (-1)) ∧ Hid (Below wr.heap.size wr u'))) := Lib.hid (by
                intro u hS
                have hbu := HAL.out.trans ((hwi.out.trans (hS.2.2.2.2.2.out.mono hwi.out.size)).mono HAL.out.size)
                exact (HP.out u hbu z).mono fun e u' ⟨he, hu⟩ => ⟨he, by rw [← hu]; exact hS⟩)
              have d1 : W ≠ 0 := by omega
              have t1 : Int.tmod (k : Int) W = (k : Int) % W := Int.tmod_eq_emod_of_nonneg (by omega)
              have t3 : Int.tdiv (k : Int) W = (k : Int) / W := Int.tdiv_eq_ediv_of_nonneg (by omega)
              have e1 : IntKind.i64.wrap ((k : Int) / W) = (k : Int) / W := IntWalk.i64_in _ (by omega)
              have e2 : IntKind.i64.wrap ((k : Int) % W) = (k : Int) % W := IntWalk.i64_in _ (by omega)
              have e3 : IntKind.i64.wrap ((k : Int) % W + 1) = (k : Int) % W + 1 := IntWalk.i64_in _ (by omega)
              have e4 : IntKind.i64.wrap ((k : Int) / W + 1) = (k : Int) / W + 1 := IntWalk.i64_in _ (by omega)
              have e5 : IntKind.i64.wrap ((k : Int) % W + -1) = (k : Int) % W + -1 := IntWalk.i64_in _ (by omega)
              have e6 : IntKind.i64.wrap ((k : Int) / W + -1) = (k : Int) / W + -1 := IntWalk.i64_in _ (by omega)
              clear keepS szS c0 c1 hal1
              cases hpz : p z
              all_goals
                rw [hpz] at CPW NEXT
                clear hpz
                go_wp2
                go_region_held3 (fun w' => w'.cell? ⟨w.heap.size, 0, none⟩ = some (.int .i64 W) ∧ w'.cell? ⟨w.heap.size, 1, none⟩ = some (.int .i64 H) ∧ w'.cell? ⟨w.heap.size, 2, none⟩ = some (.slice (some ⟨b, off, none⟩) L.length cap) ∧ w'.cell? ⟨wr.heap.size, 0, none⟩ = some (.int .i64 0) ∧ w'.cell? ⟨wr.heap.size, 1, none⟩ = some (.int .i64 (-1)) ∧ Hid (Below wr.heap.size wr w')) (first | assumption | go_keep)
                  (first | (go_at_call 42; refine (CATW.out _ _ _ (by assumption) (by simp [dxI]; try omega) (by simp [dyI]; try omega)).mono ?_; rintro e w3 ⟨rfl, hS3⟩) | (refine (CPW.out _ (by assumption)).mono ?_; rintro e w4 ⟨rfl, hS4⟩))
                have HW4 := Lib.hid (hwi.out.trans (hS4.2.2.2.2.2.out.mono hwi.out.size))
                clear hS4 hS3 hS0 CATW CPW d1 t1 t3 e1 e2 e3 e4 e5 e6
                go_wp2
                go_roundw
                case rel =>
                  first
                  | exact ⟨4, m + 1, by omega, by go_num, by go_num, by omega, Lib.hid (by rw [← NEXT.out]; rfl), HW4⟩
                  | exact ⟨4, m, by omega, by go_num, rfl, by omega, Lib.hid (by rw [← NEXT.out]; rfl), HW4⟩
                case measure => simp [intOf]
          · have hb1 : (x == a) = false := by simpa using hxa
            have HMS : Hid (m = n + if x = a then sumN (j + 1) (fun j => one (p (atL W H L ((k : Int) % W + dxI j) ((k : Int) / W + dyI j)))) else 0) := Lib.hid (by rw [hms.out, if_neg hxa, if_neg hxa])
            clear hms hxa
            rcases hcj with rfl | rfl | rfl | rfl
            all_goals
              go_wp2
              go_quiet (fail)
              go_wp2
              go_roundw
              case rel => exact ⟨_, m, by omega, by go_num, rfl, by omega, HMS, Lib.hid (below_drewN (hwi.out.alloc hwi.out.size _) _)⟩
              case measure => simp [intOf]
        · have hj4 : j = 4 := by omega
          subst hj4
          have HMS : Hid (m = sumN (k + 1) (sideG W H L a p)) := Lib.hid (by
            have e1 : sumN (k + 1) (sideG W H L a p) = n + sideG W H L a p k := by rw [sumN_succ, ← hs.out]
            rw [hms.out, e1, sideG, HGX.out])
          clear hms
          go_wp2
          go_roundw
          case rel => exact ⟨k + 1, m, by omega, by go_num, rfl, by omega, HMS, hwi⟩
          case measure => simp [intOf]; omega
    · have hfin : Hid (n = sidesN W H L a p) := Lib.hid (by rw [hg.out, hs.out, show k = L.length by omega])
      go_wp2
      go_ret
      exact ⟨ret_int (by rw [hfin.out]), HAL.out.trans (hw.out.mono HAL.out.size)⟩
end Go.Proofs.Ytdkcpnmaglkmnaa
