import Derived.Test.YtdkcpnmaglkmnaaW30g
/-! Walks of chapter 30: the reference's Border. -/
namespace Go.Proofs.Ytdkcpnmaglkmnaa
open Go.RowKit Go.Deep
set_option linter.unusedVariables false
set_option maxRecDepth 100000

def pairG (W : Nat) (L : List Int) (a b : Int) (i k : Nat) : Nat := one ((L.getD i 0 == a) && ((L.getD k 0 == b) && nbB W i k))

set_option maxHeartbeats 4000000 in
theorem lrBorder {w : World} {B : Nat} {A : Option Addr} {L : List Int} {cap : Nat} (h : Rd w B A L) (hB : B ≤ w.heap.size) (W H a b : Int) :
    Calls Try.prog 15 #[.agg #[.int .i64 W, .int .i64 H, .slice A L.length cap], .int .i64 a, .int .i64 b] w fun e w' => e = .returned (.tuple #[.int .i64 (brdN W H L a b), .int .i64 (brdE W H L a b)]) ∧ Below w.heap.size w w' := by
  have hal : Below w.heap.size w (w.alloc (.cells #[.int .i64 W, .int .i64 H, .slice A L.length cap] 24)) := (Below.refl _ _).alloc (Nat.le_refl _) _
  have hsz : (w.alloc (.cells #[.int .i64 W, .int .i64 H, .slice A L.length cap] 24)).heap.size = w.heap.size + 1 := by simp
  have b0 : (w.alloc (.cells #[.int .i64 W, .int .i64 H, .slice A L.length cap] 24)).cell? ⟨w.heap.size, 0, none⟩ = some (.int .i64 W) := by simp
  have b1 : (w.alloc (.cells #[.int .i64 W, .int .i64 H, .slice A L.length cap] 24)).cell? ⟨w.heap.size, 1, none⟩ = some (.int .i64 H) := by simp
  have b2 : (w.alloc (.cells #[.int .i64 W, .int .i64 H, .slice A L.length cap] 24)).cell? ⟨w.heap.size, 2, none⟩ = some (.slice A L.length cap) := by simp
  have HSZ := Lib.hid hsz
  have HAL := Lib.hid hal
  have CC : Hid (∀ u c, Below w.heap.size w u → Calls Try.prog 36 #[.agg #[.int .i64 W, .int .i64 H, .slice A L.length cap], .int .i64 c] u fun e w' => e = .returned (.int .i64 (lkd W H L c)) ∧ Below u.heap.size u w') := Lib.hid fun u c hu => lrLooked (h.below hu hB) (Nat.le_trans hB hu.size) W H c
  have HR := Lib.hid h
  by_cases hk : lkd W H L a = 0
  · obtain ⟨q0, q1, q2⟩ := lkd_zero hk
    have hkb : lkd W H L b = if b < 0 ∨ 6 ≤ b then 2 else 0 := by rw [lkd, if_neg (by simp [q0])]
    obtain ⟨W, H, rfl, rfl, hv⟩ := lck_zero q0
    have HV := Lib.hid hv
    have W0 := hv.w0
    have W12 := hv.w1
    have l144 := hv.len144
    have C1 := CC.out _ a hal
    rw [hk] at C1
    have HK := Lib.hid hk
    have HKB := Lib.hid hkb
    clear hk q0 hv h hal hsz hkb
    go_enter Try.func15, Try.ntmps15
    go_wp2_with fail
    generalize w.alloc (.cells #[.int .i64 W, .int .i64 H, .slice A L.length cap] 24) = w0 at *
    refine C1.mono ?_
    rintro e w1 ⟨rfl, hb⟩
    have hz := HSZ.out
    have c0 := ((bcell hb).1 _ _ (by omega)).trans b0
    have c1 := ((bcell hb).1 _ _ (by omega)).trans b1
    have c2 := ((bcell hb).1 _ _ (by omega)).trans b2
    have HB1 := Lib.hid (HAL.out.trans (hb.mono HAL.out.size))
    have HZ1 : Hid (w.heap.size < w1.heap.size) := Lib.hid (by have := hb.size; omega)
    clear b0 b1 b2 hb hz C1 HAL HSZ
    by_cases hb : b < 0 ∨ 6 ≤ b
    · have hE : Hid (brdE W H L a b = 2) := Lib.hid (by rw [brdE, if_neg (by simp [HK.out]), if_pos (by rcases hb with hb | hb; exact .inl hb; exact .inr (.inl hb))])
      have hN : Hid (brdN W H L a b = 0) := Lib.hid (by rw [brdN, hE.out, if_neg (by decide)])
      have C2 := CC.out w1 b HB1.out
      rw [HKB.out, if_pos hb] at C2
      have HC2 := Lib.hid C2
      clear hb C2
      go_wp2_with fail
      refine HC2.out.mono ?_
      rintro e w2 ⟨rfl, hb2⟩
      have HB2 := Lib.hid (HB1.out.trans (hb2.mono HB1.out.size))
      clear hb2
      go_wp2
      go_ret2
      rw [hE.out, hN.out]
      exact ⟨rfl, HB2.out⟩
    · have C2 := CC.out w1 b HB1.out
      rw [HKB.out, if_neg hb] at C2
      have HC2 := Lib.hid C2
      have hb0 : 0 ≤ b := by omega
      have hnb : ¬ (b < 0 ∨ 6 ≤ b) := hb
      have HNB := Lib.hid hnb
      clear hb C2 hnb
      go_wp2_with fail
      refine HC2.out.mono ?_
      rintro e w2 ⟨rfl, hb2⟩
      have hs1 := HZ1.out
      replace c0 := ((bcell hb2).1 _ _ hs1).trans c0
      replace c1 := ((bcell hb2).1 _ _ hs1).trans c1
      replace c2 := ((bcell hb2).1 _ _ hs1).trans c2
      have HB2 := Lib.hid (HB1.out.trans (hb2.mono HB1.out.size))
      have HZ2 : Hid (w.heap.size < w2.heap.size) := Lib.hid (by have := hb2.size; omega)
      clear hb2 hs1 HC2
      by_cases hab : a = b
      · have hE : Hid (brdE W H L a b = 2) := Lib.hid (by rw [brdE, if_neg (by simp [HK.out]), if_pos (.inr (.inr hab))])
        have hN : Hid (brdN W H L a b = 0) := Lib.hid (by rw [brdN, hE.out, if_neg (by decide)])
        have hbb : (a == b) = true := by simpa using hab
        clear hab
        go_wp2
        go_ret2
        rw [hE.out, hN.out]
        exact ⟨rfl, HB2.out⟩
      · have hE : Hid (brdE W H L a b = 0) := Lib.hid (by rw [brdE, if_neg (by simp [HK.out]), if_neg (by have := HNB.out; omega)])
        have hres : Hid (brdN W H L a b = (sumN L.length (fun i => sumN L.length (fun k => pairG W L a b i k)) : Nat)) := Lib.hid (by
          rw [brdN, hE.out, if_pos rfl, Int.toNat_natCast, Int.toNat_natCast, ← border_eq HV.out hb0]; rfl)
        have hbb : (a == b) = false := by simpa using hab
        have CS0 := Lib.hid (And.intro c0 (And.intro c1 c2))
        clear hab
        go_wp2
        clear c0 c1 c2 hbb
        go_loopw [8, 9] (fun nv iv wr => ∃ (i n : Nat), i ≤ L.length ∧ iv = .int .i64 i ∧ nv = .int .i64 n ∧ n ≤ 144 * i ∧ Hid (n = sumN i (fun i => sumN L.length (fun k => pairG W L a b i k))) ∧ Hid (Below w2.heap.size w2 wr)) (fun _ iv _ => L.length - (intOf iv).toNat)
        case atStart => exact ⟨0, 0, by omega, rfl, rfl, by omega, Lib.hid rfl, Lib.hid (Below.refl _ _)⟩
        case round =>
          obtain ⟨i, n, hi, rfl, rfl, hn, hs, hw⟩ := hrel
          have c0 := ((bcell hw.out).1 _ _ HZ2.out).trans CS0.out.1
          have c1 := ((bcell hw.out).1 _ _ HZ2.out).trans CS0.out.2.1
          have c2 := ((bcell hw.out).1 _ _ HZ2.out).trans CS0.out.2.2
          by_cases hlt : i < L.length
          · go_wp2
            clear c0 c1 c2
            go_loopw [8, 10] (fun nv kv wr => ∃ (k m : Nat), k ≤ L.length ∧ kv = .int .i64 k ∧ nv = .int .i64 m ∧ m ≤ n + k ∧ Hid (m = n + sumN k (fun k => pairG W L a b i k)) ∧ Hid (Below w2.heap.size w2 wr)) (fun _ kv _ => L.length - (intOf kv).toNat)
            case atStart => exact ⟨0, n, by omega, rfl, rfl, by omega, Lib.hid rfl, hw⟩
            case round =>
              obtain ⟨k, m, hk, rfl, rfl, hm, hms, hwi⟩ := hrel
              have c0 := ((bcell hwi.out).1 _ _ HZ2.out).trans CS0.out.1
              have c1 := ((bcell hwi.out).1 _ _ HZ2.out).trans CS0.out.2.1
              have c2 := ((bcell hwi.out).1 _ _ HZ2.out).trans CS0.out.2.2
              by_cases hkl : k < L.length
              · have hRw := (HR.out.below (HB2.out.trans (hwi.out.mono HB2.out.size)) hB)
                obtain ⟨bb, off, x, e1, hbb, hx, hxi, hcx⟩ := hRw.at_ hlt
                obtain ⟨bb', off', y, e2, hbb', hy, hyi, hcy⟩ := hRw.at_ hkl
                cases e1
                cases e2
                have HX : Hid (L.getD i 0 = x) := Lib.hid (by rw [List.getD_eq_getElem?_getD, hx]; rfl)
                have HY : Hid (L.getD k 0 = y) := Lib.hid (by rw [List.getD_eq_getElem?_getD, hy]; rfl)
                have NEXT : Hid (m + one ((x == a) && ((y == b) && nbB W i k)) = n + sumN (k + 1) (fun k => pairG W L a b i k)) := Lib.hid (by
                  rw [hms.out, sumN_succ]
                  show _ = n + (sumN k _ + one ((L.getD i 0 == a) && ((L.getD k 0 == b) && nbB W i k)))
                  rw [HX.out, HY.out]
                  omega)
                clear hx hy hxi hyi hRw hms
                cases hxa : (x == a)
                · rw [hxa] at NEXT
                  go_wp2
                  go_roundw
                  case rel => exact ⟨k + 1, m, by omega, by go_num, rfl, by omega, Lib.hid (by rw [← NEXT.out]; rfl), hwi⟩
                  case measure => simp [intOf]; omega
                · cases hyb : (y == b)
                  · rw [hxa, hyb] at NEXT
                    go_wp2
                    go_roundw
                    case rel => exact ⟨k + 1, m, by omega, by go_num, rfl, by omega, Lib.hid (by rw [← NEXT.out]; rfl), hwi⟩
                    case measure => simp [intOf]; omega
                  · rw [hxa, hyb] at NEXT
                    have CN := fun u => rNb (w := u) (A := some ⟨bb, off, none⟩) (H := H) (n := L.length) (cap := cap) W0 W12 (i := i) (k := k) (by omega) (by omega)
                    cases hnb : nbB W i k
                    all_goals
                      rw [hnb] at CN NEXT
                      have HCN := Lib.hid CN
                      clear CN hnb
                      go_wp2_with fail
                      refine (HCN.out _).mono ?_
                      rintro e w5 ⟨rfl, hb5⟩
                      have HW5 := Lib.hid (hwi.out.trans (hb5.mono hwi.out.size))
                      clear hb5 HCN hxa hyb
                      go_wp2
                      go_roundw
                      case rel =>
                        first
                        | exact ⟨k + 1, m + 1, by omega, by go_num, by go_num, by omega, Lib.hid (by rw [← NEXT.out]; rfl), HW5⟩
                        | exact ⟨k + 1, m, by omega, by go_num, rfl, by omega, Lib.hid (by rw [← NEXT.out]; rfl), HW5⟩
                      case measure => simp [intOf]; omega
              · have HMS : Hid (m = sumN (i + 1) (fun i => sumN L.length (fun k => pairG W L a b i k))) := Lib.hid (by
                  rw [hms.out, sumN_succ, ← hs.out, show k = L.length by omega])
                clear hms
                go_wp2
                go_roundw
                case rel => exact ⟨i + 1, m, by omega, by go_num, rfl, by omega, HMS, hwi⟩
                case measure => simp [intOf]; omega
          · have hfin : Hid (brdN W H L a b = n) := Lib.hid (by rw [hres.out, hs.out, show i = L.length by omega])
            go_wp2
            go_ret2
            rw [hfin.out, hE.out]
            exact ⟨rfl, HB2.out.trans (hw.out.mono HB2.out.size)⟩
  · have hne : (lkd W H L a != 0) = true := by simpa using hk
    have hE : Hid (brdE W H L a b = lkd W H L a) := Lib.hid (by rw [brdE, if_pos hk])
    have hN : Hid (brdN W H L a b = 0) := Lib.hid (by rw [brdN, hE.out, if_neg hk])
    have CA : Hid (∀ u, Below w.heap.size w u → Calls Try.prog 36 #[.agg #[.int .i64 W, .int .i64 H, .slice A L.length cap], .int .i64 a] u fun e w' => e = .returned (.int .i64 (lkd W H L a)) ∧ Below u.heap.size u w') := Lib.hid fun u hu => CC.out u a hu
    clear hk h hal hsz CC
    generalize lkd W H L a = c at *
    go_enter Try.func15, Try.ntmps15
    go_wp2_with fail
    generalize w.alloc (.cells #[.int .i64 W, .int .i64 H, .slice A L.length cap] 24) = w0 at *
    refine (CA.out _ HAL.out).mono ?_
    rintro e w1 ⟨rfl, hb⟩
    have hz := HSZ.out
    have c0 := ((bcell hb).1 _ _ (by omega)).trans b0
    have c1 := ((bcell hb).1 _ _ (by omega)).trans b1
    have c2 := ((bcell hb).1 _ _ (by omega)).trans b2
    have HB1 := Lib.hid (HAL.out.trans (hb.mono HAL.out.size))
    clear b0 b1 b2 hb hz HAL HSZ
    go_wp2_with fail
    refine (CA.out _ HB1.out).mono ?_
    rintro e w2 ⟨rfl, hb2⟩
    have HB2 := Lib.hid (HB1.out.trans (hb2.mono HB1.out.size))
    clear hb2
    go_wp2
    go_ret2
    rw [hN.out, hE.out]
    exact ⟨rfl, HB2.out⟩
end Go.Proofs.Ytdkcpnmaglkmnaa
