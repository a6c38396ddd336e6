import Derived.Test.YtdkcpnmaglkmnaaW30f
import Derived.Test.YtdkcpnmaglkmnaaS30d
/-! Walks of chapter 30: the reference's Boundary. -/
namespace Go.Proofs.Ytdkcpnmaglkmnaa
open Go.RowKit Go.Deep
set_option linter.unusedVariables false
set_option maxRecDepth 100000

/-- one place of the reference's count -/
def cntG (W H : Nat) (L : List Int) (a : Int) (xx yy : Nat) : Nat :=
  one (ownF W H L a ((xx : Int) - 1) ((yy : Int) - 1) != ownF W H L a (xx : Int) ((yy : Int) - 1)) + one (ownF W H L a ((xx : Int) - 1) ((yy : Int) - 1) != ownF W H L a ((xx : Int) - 1) (yy : Int))
theorem cntG_le (W H : Nat) (L : List Int) (a : Int) (xx yy : Nat) : cntG W H L a xx yy ≤ 2 := by
  unfold cntG
  have h1 := one_le (ownF W H L a ((xx : Int) - 1) ((yy : Int) - 1) != ownF W H L a (xx : Int) ((yy : Int) - 1))
  have h2 := one_le (ownF W H L a ((xx : Int) - 1) ((yy : Int) - 1) != ownF W H L a ((xx : Int) - 1) (yy : Int))
  omega

set_option maxHeartbeats 4000000 in
theorem lrBoundary {w : World} {B : Nat} {A : Option Addr} {L : List Int} {cap : Nat} (h : Rd w B A L) (hB : B ≤ w.heap.size) (W H a : Int) :
    Calls Try.prog 13 #[.agg #[.int .i64 W, .int .i64 H, .slice A L.length cap], .int .i64 a] w fun e w' => e = .returned (.tuple #[.int .i64 (bdyN W H L a), .int .i64 (lkd W H L a)]) ∧ Below w.heap.size w w' := by
  have hal : Below w.heap.size w (w.alloc (.cells #[.int .i64 W, .int .i64 H, .slice A L.length cap] 24)) := (Below.refl _ _).alloc (Nat.le_refl _) _
  have hsz : (w.alloc (.cells #[.int .i64 W, .int .i64 H, .slice A L.length cap] 24)).heap.size = w.heap.size + 1 := by simp
  have b0 : (w.alloc (.cells #[.int .i64 W, .int .i64 H, .slice A L.length cap] 24)).cell? ⟨w.heap.size, 0, none⟩ = some (.int .i64 W) := by simp
  have b1 : (w.alloc (.cells #[.int .i64 W, .int .i64 H, .slice A L.length cap] 24)).cell? ⟨w.heap.size, 1, none⟩ = some (.int .i64 H) := by simp
  have b2 : (w.alloc (.cells #[.int .i64 W, .int .i64 H, .slice A L.length cap] 24)).cell? ⟨w.heap.size, 2, none⟩ = some (.slice A L.length cap) := by simp
  have HSZ := Lib.hid hsz
  have HAL := Lib.hid hal
  have C1 := lrLooked (cap := cap) (h.below hal hB) (Nat.le_trans hB hal.size) W H a
  have H0 := Lib.hid h
  by_cases hk : lkd W H L a = 0
  · obtain ⟨q0, q1, q2⟩ := lkd_zero hk
    obtain ⟨W, H, rfl, rfl, hv⟩ := lck_zero q0
    rw [hk] at C1
    have hres : Hid (bdyN W H L a = (sumN (H + 2) (fun yy => sumN (W + 2) (fun xx => cntG W H L a xx yy)) : Nat)) := Lib.hid (by
      rw [bdyN, if_pos hk, Int.toNat_natCast, Int.toNat_natCast, ← boundary_eq hv q1]; rfl)
    have HV := Lib.hid hv
    have W12 := hv.w1
    have H12 := hv.h1
    rw [hk]
    clear hk q0 hv h hal hsz
    go_enter Try.func13, Try.ntmps13
    go_wp2_with fail
    generalize w.alloc (.cells #[.int .i64 W, .int .i64 H, .slice A L.length cap] 24) = w0 at *
    refine C1.mono ?_
    rintro e w1 ⟨rfl, hb⟩
    have hz := HSZ.out
    have c0 := ((bcell hb).1 _ _ (by omega)).trans b0
    have c1 := ((bcell hb).1 _ _ (by omega)).trans b1
    have c2 := ((bcell hb).1 _ _ (by omega)).trans b2
    have HB1 := Lib.hid (HAL.out.trans (hb.mono HAL.out.size))
    have HZ1 : Hid (w.heap.size < w1.heap.size) := Lib.hid (by have := hb.size; omega)
    have CS0 := Lib.hid (And.intro c0 (And.intro c1 c2))
    clear b0 b1 b2 hb hz C1 HAL HSZ
    have CAT : Hid (∀ (u : World) (X Y X' Y' : Int), (u.cell? ⟨w.heap.size, 0, none⟩ = some (.int .i64 W) ∧ u.cell? ⟨w.heap.size, 1, none⟩ = some (.int .i64 H) ∧ u.cell? ⟨w.heap.size, 2, none⟩ = some (.slice A L.length cap) ∧ Hid (Below w1.heap.size w1 u)) → X = X' → Y = Y' → Calls Try.prog 32 #[.agg #[.int .i64 W, .int .i64 H, .slice A L.length cap], .int .i64 X, .int .i64 Y] u
        fun e u' => e = .returned (.int .i64 (atL W H L X' Y')) ∧ (u'.cell? ⟨w.heap.size, 0, none⟩ = some (.int .i64 W) ∧ u'.cell? ⟨w.heap.size, 1, none⟩ = some (.int .i64 H) ∧ u'.cell? ⟨w.heap.size, 2, none⟩ = some (.slice A L.length cap) ∧ Hid (Below w1.heap.size w1 u'))) := Lib.hid (by
      rintro u X Y _ _ ⟨g0, g1, g2, g3⟩ rfl rfl
      have hbu := HB1.out.trans (g3.out.mono HB1.out.size)
      have hz := HZ1.out
      have hs := g3.out.size
      exact (lrAt (cap := cap) (H0.out.below hbu hB) (Nat.le_trans hB hbu.size) HV.out X Y).mono fun e u' ⟨he, hb'⟩ => ⟨he, ((bcell hb').1 _ _ (by omega)).trans g0, ((bcell hb').1 _ _ (by omega)).trans g1, ((bcell hb').1 _ _ (by omega)).trans g2, Lib.hid (g3.out.trans (hb'.mono hs))⟩)
    clear c0 c1 c2
    have c0 := CS0.out.1
    have c1 := CS0.out.2.1
    have c2 := CS0.out.2.2
    go_wp2
    clear c0 c1 c2
    go_loopw [6, 7] (fun nv yv wr => ∃ (k n : Nat), k ≤ H + 2 ∧ yv = .int .i64 ((k : Int) - 1) ∧ nv = .int .i64 n ∧ n ≤ 28 * k ∧ Hid (n = sumN k (fun yy => sumN (W + 2) (fun xx => cntG W H L a xx yy))) ∧ Hid (Below w1.heap.size w1 wr)) (fun _ yv _ => (H + 1 - intOf yv).toNat)
    case atStart => exact ⟨0, 0, by omega, rfl, rfl, by omega, Lib.hid rfl, Lib.hid (Below.refl _ _)⟩
    case round =>
      obtain ⟨k, n, hk, rfl, rfl, hn, hs, hw⟩ := hrel
      have c0 := ((bcell hw.out).1 _ _ HZ1.out).trans CS0.out.1
      have c1 := ((bcell hw.out).1 _ _ HZ1.out).trans CS0.out.2.1
      have c2 := ((bcell hw.out).1 _ _ HZ1.out).trans CS0.out.2.2
      by_cases hlt : k < H + 2
      · have hle : (k : Int) - 1 ≤ H := by omega
        go_wp2
        clear c0 c1 c2
        go_loopw [6, 8] (fun nv xv wr => ∃ (j m : Nat), j ≤ W + 2 ∧ xv = .int .i64 ((j : Int) - 1) ∧ nv = .int .i64 m ∧ m ≤ n + 2 * j ∧ Hid (m = n + sumN j (fun xx => cntG W H L a xx k)) ∧ Hid (Below w1.heap.size w1 wr)) (fun _ xv _ => (W + 1 - intOf xv).toNat)
        case atStart => exact ⟨0, n, by omega, rfl, rfl, by omega, Lib.hid rfl, hw⟩
        case round =>
          obtain ⟨j, m, hj, rfl, rfl, hm, hms, hwi⟩ := hrel
          have c0 := ((bcell hwi.out).1 _ _ HZ1.out).trans CS0.out.1
          have c1 := ((bcell hwi.out).1 _ _ HZ1.out).trans CS0.out.2.1
          have c2 := ((bcell hwi.out).1 _ _ HZ1.out).trans CS0.out.2.2
          by_cases hjl : j < W + 2
          · have hlx : (j : Int) - 1 ≤ W := by omega
            have hS0 : wr.drew.cell? ⟨w.heap.size, 0, none⟩ = some (.int .i64 W) ∧ wr.drew.cell? ⟨w.heap.size, 1, none⟩ = some (.int .i64 H) ∧ wr.drew.cell? ⟨w.heap.size, 2, none⟩ = some (.slice A L.length cap) ∧ Hid (Below w1.heap.size w1 wr.drew) := ⟨c0, c1, c2, Lib.hid (below_drewN hwi.out 1)⟩
            obtain ⟨z1, hz1⟩ : ∃ z, atL W H L ((j : Int) - 1) ((k : Int) - 1) = z := ⟨_, rfl⟩
            obtain ⟨z2, hz2⟩ : ∃ z, atL W H L (j : Int) ((k : Int) - 1) = z := ⟨_, rfl⟩
            obtain ⟨z3, hz3⟩ : ∃ z, atL W H L ((j : Int) - 1) (k : Int) = z := ⟨_, rfl⟩
            have NEXT : Hid (m + one ((z1 == a) != (z2 == a)) + one ((z1 == a) != (z3 == a)) = n + sumN (j + 1) (fun xx => cntG W H L a xx k)) := Lib.hid (by
              rw [hms.out, sumN_succ, ← hz1, ← hz2, ← hz3]
              show _ = n + (sumN j _ + (one (_ != _) + one (_ != _)))
              unfold ownF
              omega)
            have e1 : IntKind.i64.wrap (j : Int) = (j : Int) := IntWalk.i64_in _ (by omega)
            have e2 : IntKind.i64.wrap (k : Int) = (k : Int) := IntWalk.i64_in _ (by omega)
            clear hms
            cases hq : ((z1 == a) == (z2 == a))
            all_goals
              rw [bne, hq] at NEXT
              go_wp2
              go_region_held3 (fun w' => w'.cell? ⟨w.heap.size, 0, none⟩ = some (.int .i64 W) ∧ w'.cell? ⟨w.heap.size, 1, none⟩ = some (.int .i64 H) ∧ w'.cell? ⟨w.heap.size, 2, none⟩ = some (.slice A L.length cap) ∧ Hid (Below w1.heap.size w1 w')) (first | assumption | go_keep)
                ((go_at_call 32; refine (CAT.out _ _ _ _ _ (by assumption) rfl rfl).mono ?_; rintro e w3 ⟨rfl, hS3⟩))
              clear hq
              have hS0 : w3.drew.cell? ⟨w.heap.size, 0, none⟩ = some (.int .i64 W) ∧ w3.drew.cell? ⟨w.heap.size, 1, none⟩ = some (.int .i64 H) ∧ w3.drew.cell? ⟨w.heap.size, 2, none⟩ = some (.slice A L.length cap) ∧ Hid (Below w1.heap.size w1 w3.drew) := ⟨hS3.1, hS3.2.1, hS3.2.2.1, Lib.hid (below_drewN hS3.2.2.2.out 1)⟩
              clear hS3
              cases hq : ((z1 == a) == (z3 == a))
              all_goals
                rw [bne, hq] at NEXT
                go_wp2
                go_region_held3 (fun w' => w'.cell? ⟨w.heap.size, 0, none⟩ = some (.int .i64 W) ∧ w'.cell? ⟨w.heap.size, 1, none⟩ = some (.int .i64 H) ∧ w'.cell? ⟨w.heap.size, 2, none⟩ = some (.slice A L.length cap) ∧ Hid (Below w1.heap.size w1 w')) (first | assumption | go_keep)
                  ((go_at_call 32; refine (CAT.out _ _ _ _ _ (by assumption) rfl rfl).mono ?_; rintro e w5 ⟨rfl, hS5⟩))
                have HW5 := Lib.hid hS5.2.2.2.out
                clear hq hS5 hS0 hz1 hz2 hz3 e1 e2
                go_wp2
                go_roundw
                case rel =>
                  first
                  | exact ⟨j + 1, m + 1 + 1, by omega, int_of (by omega), int_of (by omega), by omega, Lib.hid (by rw [← NEXT.out]; rfl), HW5⟩
                  | exact ⟨j + 1, m + 1, by omega, int_of (by omega), int_of (by omega), by omega, Lib.hid (by rw [← NEXT.out]; rfl), HW5⟩
                  | exact ⟨j + 1, m, by omega, int_of (by omega), rfl, by omega, Lib.hid (by rw [← NEXT.out]; rfl), HW5⟩
                case measure => simp [intOf]; omega
          · have hjx : ¬ (j : Int) - 1 ≤ W := by omega
            have HMS : Hid (m = sumN (k + 1) (fun yy => sumN (W + 2) (fun xx => cntG W H L a xx yy))) := Lib.hid (by
              rw [hms.out, sumN_succ, ← hs.out, show j = W + 2 by omega])
            clear hms
            go_wp2
            go_roundw
            case rel => exact ⟨k + 1, m, by omega, int_of (by omega), rfl, by omega, HMS, hwi⟩
            case measure => simp [intOf]; omega
      · have hkx : ¬ (k : Int) - 1 ≤ H := by omega
        have hfin : Hid (bdyN W H L a = n) := Lib.hid (by rw [hres.out, hs.out, show k = H + 2 by omega])
        go_wp2
        go_ret2
        rw [hfin.out]
        exact ⟨rfl, HB1.out.trans (hw.out.mono HB1.out.size)⟩
  · have hne : (lkd W H L a != 0) = true := by simpa using hk
    have hres : Hid (bdyN W H L a = 0) := Lib.hid (by rw [bdyN, if_neg hk])
    have CC : Hid (∀ u, Below w.heap.size w u → Calls Try.prog 36 #[.agg #[.int .i64 W, .int .i64 H, .slice A L.length cap], .int .i64 a] u fun e w' => e = .returned (.int .i64 (lkd W H L a)) ∧ Below u.heap.size u w') := Lib.hid fun u hu => lrLooked (h.below hu hB) (Nat.le_trans hB hu.size) W H a
    clear hk h hal hsz
    generalize lkd W H L a = c at *
    go_enter Try.func13, Try.ntmps13
    go_wp2_with fail
    generalize w.alloc (.cells #[.int .i64 W, .int .i64 H, .slice A L.length cap] 24) = w0 at *
    refine C1.mono ?_
    rintro e w1 ⟨rfl, hb⟩
    have hz := HSZ.out
    have c0 := ((bcell hb).1 _ _ (by omega)).trans b0
    have c1 := ((bcell hb).1 _ _ (by omega)).trans b1
    have c2 := ((bcell hb).1 _ _ (by omega)).trans b2
    have HB1 := Lib.hid (HAL.out.trans (hb.mono HAL.out.size))
    clear b0 b1 b2 hb hz C1 HAL HSZ
    go_wp2_with fail
    refine (CC.out _ HB1.out).mono ?_
    rintro e w2 ⟨rfl, hb2⟩
    have HB2 := Lib.hid (HB1.out.trans (hb2.mono HB1.out.size))
    clear hb2
    go_wp2
    go_ret2
    rw [hres.out]
    exact ⟨rfl, HB2.out⟩
end Go.Proofs.Ytdkcpnmaglkmnaa
