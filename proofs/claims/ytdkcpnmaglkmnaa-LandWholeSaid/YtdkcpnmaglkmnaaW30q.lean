import Derived.Test.YtdkcpnmaglkmnaaW30p
import Derived.Test.YtdkcpnmaglkmnaaW30b
/-! Walks of chapter 30: Parts, of the program and of the reference. -/
namespace Go.Proofs.Ytdkcpnmaglkmnaa
open Go.RowKit Go.Deep
set_option linter.unusedVariables false
set_option maxRecDepth 100000

/-- the parts, or none if there is an error -/
def prtF (W H : Int) (L : List Int) (a : Int) : List (List Int) := if lkd W H L a = 0 then partsK W.toNat L a else []
/-- rows in new blocks, and an error -/
def PartsResE (w : World) (F : List (List Int)) (c : Int) (e : Ending) (w' : World) : Prop :=
  ∃ A cap, e = .returned (.tuple #[.slice A F.length cap, .int .i64 c]) ∧ Rd2 w' w'.heap.size A F ∧ Below w.heap.size w w'

set_option maxHeartbeats 1000000 in
theorem lPartsE {w : World} {B : Nat} {A : Option Addr} {L : List Int} {cap : Nat} (h : Rd w B A L) (hB : B ≤ w.heap.size) (W H a : Int) :
    Calls Try.prog 19 #[.agg #[.int .i64 W, .int .i64 H, .slice A L.length cap], .int .i64 a] w (PartsResE w (prtF W H L a) (lkd W H L a)) := by
  have hal : Below w.heap.size w (w.alloc (.cells #[.int .i64 W, .int .i64 H, .slice A L.length cap] 24)) := (Below.refl _ _).alloc (Nat.le_refl _) _
  have hsz : (w.alloc (.cells #[.int .i64 W, .int .i64 H, .slice A L.length cap] 24)).heap.size = w.heap.size + 1 := by simp
  have b0 : (w.alloc (.cells #[.int .i64 W, .int .i64 H, .slice A L.length cap] 24)).cell? ⟨w.heap.size, 0, none⟩ = some (.int .i64 W) := by simp
  have b1 : (w.alloc (.cells #[.int .i64 W, .int .i64 H, .slice A L.length cap] 24)).cell? ⟨w.heap.size, 1, none⟩ = some (.int .i64 H) := by simp
  have b2 : (w.alloc (.cells #[.int .i64 W, .int .i64 H, .slice A L.length cap] 24)).cell? ⟨w.heap.size, 2, none⟩ = some (.slice A L.length cap) := by simp
  have HSZ := Lib.hid hsz
  have HAL := Lib.hid hal
  have C1 := lLooked (cap := cap) (h.below hal hB) (Nat.le_trans hB hal.size) W H a
  have HR := Lib.hid h
  by_cases hk : lkd W H L a = 0
  · have HK := Lib.hid hk
    rw [hk] at C1
    obtain ⟨q0, q1, q2⟩ := lkd_zero hk
    obtain ⟨W, k, rfl, rfl, hv⟩ := lck_zero q0
    have hF : Hid (prtF W k L a = partsK W L a) := Lib.hid (by rw [prtF, if_pos hk, Int.toNat_natCast])
    have HV := Lib.hid hv
    clear hk q0 hv h hal hsz
    go_enter Try.func19, Try.ntmps19
    go_wp2_with fail
    generalize w.alloc (.cells #[.int .i64 W, .int .i64 k, .slice A L.length cap] 24) = w1 at *
    refine C1.mono ?_
    rintro e w2 ⟨rfl, hb⟩
    have hz := HSZ.out
    replace b0 := ((bcell hb).1 _ _ (by omega)).trans b0
    replace b1 := ((bcell hb).1 _ _ (by omega)).trans b1
    replace b2 := ((bcell hb).1 _ _ (by omega)).trans b2
    have HB2 := Lib.hid (HAL.out.trans (hb.mono HAL.out.size))
    clear hb hz C1
    go_wp2_with fail
    refine (lParts (HR.out.below HB2.out hB) (Nat.le_trans hB HB2.out.size) HV.out q1).mono ?_
    rintro e w3 ⟨A', c', rfl, hr3, hb3⟩
    have HR3 := Lib.hid hr3
    have HB3 := Lib.hid (HB2.out.trans (hb3.mono HB2.out.size))
    clear hr3 hb3 b0 b1 b2
    go_wp2
    go_ret2
    rw [hF.out, HK.out]
    exact ⟨A', c', rfl, HR3.out, HB3.out⟩
  · have hne : (lkd W H L a != 0) = true := by simpa using hk
    have hF : Hid (prtF W H L a = []) := Lib.hid (by rw [prtF, if_neg hk])
    clear hk h hal hsz
    generalize lkd W H L a = c at *
    go_enter Try.func19, Try.ntmps19
    go_wp2_with fail
    generalize w.alloc (.cells #[.int .i64 W, .int .i64 H, .slice A L.length cap] 24) = w1 at *
    refine C1.mono ?_
    rintro e w2 ⟨rfl, hb⟩
    have HB2 := Lib.hid (HAL.out.trans (hb.mono HAL.out.size))
    clear hb C1 b0 b1 b2
    go_wp2
    go_ret2
    rw [hF.out]
    exact ⟨none, 0, rfl, RdOf.nil _ _ _, HB2.out⟩

set_option maxHeartbeats 1000000 in
theorem lrPartsE {w : World} {B : Nat} {A : Option Addr} {L : List Int} {cap : Nat} (h : Rd w B A L) (hB : B ≤ w.heap.size) (W H a : Int) :
    Calls Try.prog 20 #[.agg #[.int .i64 W, .int .i64 H, .slice A L.length cap], .int .i64 a] w (PartsResE w (prtF W H L a) (lkd W H L a)) := by
  have hal : Below w.heap.size w (w.alloc (.cells #[.int .i64 W, .int .i64 H, .slice A L.length cap] 24)) := (Below.refl _ _).alloc (Nat.le_refl _) _
  have hsz : (w.alloc (.cells #[.int .i64 W, .int .i64 H, .slice A L.length cap] 24)).heap.size = w.heap.size + 1 := by simp
  have b0 : (w.alloc (.cells #[.int .i64 W, .int .i64 H, .slice A L.length cap] 24)).cell? ⟨w.heap.size, 0, none⟩ = some (.int .i64 W) := by simp
  have b1 : (w.alloc (.cells #[.int .i64 W, .int .i64 H, .slice A L.length cap] 24)).cell? ⟨w.heap.size, 1, none⟩ = some (.int .i64 H) := by simp
  have b2 : (w.alloc (.cells #[.int .i64 W, .int .i64 H, .slice A L.length cap] 24)).cell? ⟨w.heap.size, 2, none⟩ = some (.slice A L.length cap) := by simp
  have HSZ := Lib.hid hsz
  have HAL := Lib.hid hal
  have CA : Hid (∀ u, Below w.heap.size w u → Calls Try.prog 36 #[.agg #[.int .i64 W, .int .i64 H, .slice A L.length cap], .int .i64 a] u fun e w' => e = .returned (.int .i64 (lkd W H L a)) ∧ Below u.heap.size u w') := Lib.hid fun u hu => lrLooked (h.below hu hB) (Nat.le_trans hB hu.size) W H a
  have HR := Lib.hid h
  by_cases hk : lkd W H L a = 0
  · have HK := Lib.hid hk
    rw [hk] at CA
    obtain ⟨q0, q1, q2⟩ := lkd_zero hk
    obtain ⟨W, k, rfl, rfl, hv⟩ := lck_zero q0
    have hF : Hid (prtF W k L a = partsK W L a) := Lib.hid (by rw [prtF, if_pos hk, Int.toNat_natCast])
    have HV := Lib.hid hv
    clear hk q0 hv h hal hsz
    go_enter Try.func20, Try.ntmps20
    go_wp2_with fail
    generalize w.alloc (.cells #[.int .i64 W, .int .i64 k, .slice A L.length cap] 24) = w1 at *
    refine (CA.out _ HAL.out).mono ?_
    rintro e w2 ⟨rfl, hb⟩
    have hz := HSZ.out
    replace b0 := ((bcell hb).1 _ _ (by omega)).trans b0
    replace b1 := ((bcell hb).1 _ _ (by omega)).trans b1
    replace b2 := ((bcell hb).1 _ _ (by omega)).trans b2
    have HB2 := Lib.hid (HAL.out.trans (hb.mono HAL.out.size))
    clear hb hz CA
    go_wp2_with fail
    refine (lrParted (HR.out.below HB2.out hB) (Nat.le_trans hB HB2.out.size) HV.out q1).mono ?_
    rintro e w3 ⟨A', c', rfl, hr3, hb3⟩
    have HR3 := Lib.hid hr3
    have HB3 := Lib.hid (HB2.out.trans (hb3.mono HB2.out.size))
    clear hr3 hb3 b0 b1 b2
    go_wp2
    go_ret2
    rw [hF.out, HK.out]
    exact ⟨A', c', rfl, HR3.out, HB3.out⟩
  · have hne : (lkd W H L a != 0) = true := by simpa using hk
    have hF : Hid (prtF W H L a = []) := Lib.hid (by rw [prtF, if_neg hk])
    clear hk h hal hsz
    generalize lkd W H L a = c at *
    go_enter Try.func20, Try.ntmps20
    go_wp2_with fail
    generalize w.alloc (.cells #[.int .i64 W, .int .i64 H, .slice A L.length cap] 24) = w1 at *
    refine (CA.out _ HAL.out).mono ?_
    rintro e w2 ⟨rfl, hb⟩
    have hz := HSZ.out
    replace b0 := ((bcell hb).1 _ _ (by omega)).trans b0
    replace b1 := ((bcell hb).1 _ _ (by omega)).trans b1
    replace b2 := ((bcell hb).1 _ _ (by omega)).trans b2
    have HB2 := Lib.hid (HAL.out.trans (hb.mono HAL.out.size))
    clear hb hz
    go_wp2_with fail
    refine (CA.out _ HB2.out).mono ?_
    rintro e w3 ⟨rfl, hb⟩
    have HB3 := Lib.hid (HB2.out.trans (hb.mono HB2.out.size))
    clear hb b0 b1 b2 CA
    go_wp2
    go_ret2
    rw [hF.out]
    exact ⟨none, 0, rfl, RdOf.nil _ _ _, HB3.out⟩
end Go.Proofs.Ytdkcpnmaglkmnaa
