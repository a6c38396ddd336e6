import Derived.Test.YtdkcpnmaglkmnaaW30e
/-! Walks of chapter 30: the program's Boundary and Border. -/
namespace Go.Proofs.Ytdkcpnmaglkmnaa
open Go.RowKit Go.Deep
set_option linter.unusedVariables false
set_option maxRecDepth 100000

theorem beyondB {w : World} {g : Nat} {a : Int} (hc : w.cell? ⟨g, 0, none⟩ = some (.int .i64 a)) (x : Int) :
    Calls Try.prog 35 #[.int .i64 x, .pointer (some ⟨g, 0, none⟩)] w fun e w' => e = .returned (.bool (x != a)) ∧ w = w' := by
  by_cases h : x = a
  · have h1 : (x != a) = false := by simpa using h
    have H1 := Lib.hid h1
    clear h
    go_enter Try.func35, Try.ntmps35
    go_wp2
    go_ret
    exact ⟨ret_bool H1.out.symm, rfl⟩
  · have h1 : (x != a) = true := by simpa using h
    have H1 := Lib.hid h1
    clear h
    go_enter Try.func35, Try.ntmps35
    go_wp2
    go_ret
    exact ⟨ret_bool H1.out.symm, rfl⟩
theorem beyondC {w : World} {g : Nat} {a : Int} (hc : w.cell? ⟨g, 0, none⟩ = some (.int .i64 a)) (x : Int) :
    Calls Try.prog 38 #[.int .i64 x, .pointer (some ⟨g, 0, none⟩)] w fun e w' => e = .returned (.bool (x == a)) ∧ w = w' := by
  by_cases h : x = a
  · have h1 : (x == a) = true := by simpa using h
    have H1 := Lib.hid h1
    clear h
    go_enter Try.func38, Try.ntmps38
    go_wp2
    go_ret
    exact ⟨ret_bool H1.out.symm, rfl⟩
  · have h1 : (x == a) = false := by simpa using h
    have H1 := Lib.hid h1
    clear h
    go_enter Try.func38, Try.ntmps38
    go_wp2
    go_ret
    exact ⟨ret_bool H1.out.symm, rfl⟩

/-- the number of sides of the boundary -/
def bdyN (W H : Int) (L : List Int) (a : Int) : Int := if lkd W H L a = 0 then (sidesN W.toNat H.toNat L a (fun x => x != a) : Nat) else 0
/-- the border of two agents -/
def brdE (W H : Int) (L : List Int) (a b : Int) : Int := if lkd W H L a ≠ 0 then lkd W H L a else if b < 0 ∨ 6 ≤ b ∨ a = b then 2 else 0
def brdN (W H : Int) (L : List Int) (a b : Int) : Int := if brdE W H L a b = 0 then (sidesN W.toNat H.toNat L a (fun x => x == b) : Nat) else 0

set_option maxHeartbeats 1000000 in
theorem lBoundary {w : World} {B : Nat} {A : Option Addr} {L : List Int} {cap : Nat} (h : Rd w B A L) (hB : B ≤ w.heap.size) (W H a : Int) :
    Calls Try.prog 12 #[.agg #[.int .i64 W, .int .i64 H, .slice A L.length cap], .int .i64 a] w fun e w' => e = .returned (.tuple #[.int .i64 (bdyN W H L a), .int .i64 (lkd W H L a)]) ∧ Below w.heap.size w w' := by
  have hal : Below w.heap.size w ((w.alloc (.cells #[.int .i64 W, .int .i64 H, .slice A L.length cap] 24)).alloc (.cells #[.int .i64 a] 3)) := ((Below.refl _ _).alloc (Nat.le_refl _) _).alloc (by simp) _
  have hsz : ((w.alloc (.cells #[.int .i64 W, .int .i64 H, .slice A L.length cap] 24)).alloc (.cells #[.int .i64 a] 3)).heap.size = w.heap.size + 2 := by simp
  have b0 : ((w.alloc (.cells #[.int .i64 W, .int .i64 H, .slice A L.length cap] 24)).alloc (.cells #[.int .i64 a] 3)).cell? ⟨w.heap.size, 0, none⟩ = some (.int .i64 W) := by simp
  have b1 : ((w.alloc (.cells #[.int .i64 W, .int .i64 H, .slice A L.length cap] 24)).alloc (.cells #[.int .i64 a] 3)).cell? ⟨w.heap.size, 1, none⟩ = some (.int .i64 H) := by simp
  have b2 : ((w.alloc (.cells #[.int .i64 W, .int .i64 H, .slice A L.length cap] 24)).alloc (.cells #[.int .i64 a] 3)).cell? ⟨w.heap.size, 2, none⟩ = some (.slice A L.length cap) := by simp
  have b3 : ((w.alloc (.cells #[.int .i64 W, .int .i64 H, .slice A L.length cap] 24)).alloc (.cells #[.int .i64 a] 3)).cell? ⟨w.heap.size + 1, 0, none⟩ = some (.int .i64 a) := by simp
  have HSZ := Lib.hid hsz
  have HAL := Lib.hid hal
  have C1 := lLooked (cap := cap) (h.below hal hB) (Nat.le_trans hB hal.size) W H a
  have H0 := Lib.hid h
  by_cases hk : lkd W H L a = 0
  · obtain ⟨q0, q1, q2⟩ := lkd_zero hk
    obtain ⟨W, k, rfl, rfl, hv⟩ := lck_zero q0
    rw [hk] at C1
    have hres : Hid (bdyN W k L a = (sidesN W k L a (fun x => x != a) : Nat)) := Lib.hid (by rw [bdyN, if_pos hk, Int.toNat_natCast, Int.toNat_natCast])
    have HV := Lib.hid hv
    rw [hk]
    clear hk q0 hv h hal hsz
    go_enter Try.func12, Try.ntmps12
    go_wp2_with fail
    generalize (w.alloc (.cells #[.int .i64 W, .int .i64 k, .slice A L.length cap] 24)).alloc (.cells #[.int .i64 a] 3) = w1 at *
    refine C1.mono ?_
    rintro e w2 ⟨rfl, hb⟩
    have hz := HSZ.out
    replace b0 := ((bcell hb).1 _ _ (by omega)).trans b0
    replace b1 := ((bcell hb).1 _ _ (by omega)).trans b1
    replace b2 := ((bcell hb).1 _ _ (by omega)).trans b2
    replace b3 := ((bcell hb).1 _ _ (by omega)).trans b3
    have HB2 := Lib.hid (HAL.out.trans (hb.mono HAL.out.size))
    have HZ2 : Hid (w.heap.size + 1 < w2.heap.size) := Lib.hid (by have := hb.size; omega)
    have CS := lSides (cap := cap) (H0.out.below HB2.out hB) (Nat.le_trans hB HB2.out.size) HV.out a 35 #[.pointer (some ⟨w.heap.size + 1, 0, none⟩)] (fun x => x != a) (fun args u => by kernel_rfl)
      (fun u hu x => beyondB (((bcell hu).1 _ _ HZ2.out).trans b3) x)
    have HCS := Lib.hid CS
    clear hb hz CS C1
    go_wp2_with fail
    refine HCS.out.mono ?_
    rintro e w3 ⟨rfl, hb3⟩
    have HB3 := Lib.hid (HB2.out.trans (hb3.mono HB2.out.size))
    clear hb3 HCS
    generalize (sidesN W k L a (fun x => x != a)) = nn at *
    go_wp2
    go_ret2
    rw [hres.out]
    exact ⟨rfl, HB3.out⟩
  · have hne : (lkd W H L a != 0) = true := by simpa using hk
    have hres : Hid (bdyN W H L a = 0) := Lib.hid (by rw [bdyN, if_neg hk])
    clear hk h hal hsz
    generalize lkd W H L a = c at *
    go_enter Try.func12, Try.ntmps12
    go_wp2_with fail
    refine C1.mono ?_
    rintro e w2 ⟨rfl, hb⟩
    have HB2 := Lib.hid (HAL.out.trans (hb.mono HAL.out.size))
    clear hb
    go_wp2
    go_ret2
    rw [hres.out]
    exact ⟨rfl, HB2.out⟩
set_option maxHeartbeats 1000000 in
theorem lBorder {w : World} {B : Nat} {A : Option Addr} {L : List Int} {cap : Nat} (h : Rd w B A L) (hB : B ≤ w.heap.size) (W H a b : Int) :
    Calls Try.prog 14 #[.agg #[.int .i64 W, .int .i64 H, .slice A L.length cap], .int .i64 a, .int .i64 b] w fun e w' => e = .returned (.tuple #[.int .i64 (brdN W H L a b), .int .i64 (brdE W H L a b)]) ∧ Below w.heap.size w w' := by
  have hal : Below w.heap.size w ((w.alloc (.cells #[.int .i64 W, .int .i64 H, .slice A L.length cap] 24)).alloc (.cells #[.int .i64 b] 3)) := ((Below.refl _ _).alloc (Nat.le_refl _) _).alloc (by simp) _
  have hsz : ((w.alloc (.cells #[.int .i64 W, .int .i64 H, .slice A L.length cap] 24)).alloc (.cells #[.int .i64 b] 3)).heap.size = w.heap.size + 2 := by simp
  have b0 : ((w.alloc (.cells #[.int .i64 W, .int .i64 H, .slice A L.length cap] 24)).alloc (.cells #[.int .i64 b] 3)).cell? ⟨w.heap.size, 0, none⟩ = some (.int .i64 W) := by simp
  have b1 : ((w.alloc (.cells #[.int .i64 W, .int .i64 H, .slice A L.length cap] 24)).alloc (.cells #[.int .i64 b] 3)).cell? ⟨w.heap.size, 1, none⟩ = some (.int .i64 H) := by simp
  have b2 : ((w.alloc (.cells #[.int .i64 W, .int .i64 H, .slice A L.length cap] 24)).alloc (.cells #[.int .i64 b] 3)).cell? ⟨w.heap.size, 2, none⟩ = some (.slice A L.length cap) := by simp
  have b3 : ((w.alloc (.cells #[.int .i64 W, .int .i64 H, .slice A L.length cap] 24)).alloc (.cells #[.int .i64 b] 3)).cell? ⟨w.heap.size + 1, 0, none⟩ = some (.int .i64 b) := by simp
  have HSZ := Lib.hid hsz
  have HAL := Lib.hid hal
  have C1 := lLooked (cap := cap) (h.below hal hB) (Nat.le_trans hB hal.size) W H a
  have H0 := Lib.hid h
  by_cases hk : lkd W H L a = 0
  · obtain ⟨q0, q1, q2⟩ := lkd_zero hk
    obtain ⟨W, k, rfl, rfl, hv⟩ := lck_zero q0
    rw [hk] at C1
    have HV := Lib.hid hv
    have CI := fun u => isAgent (w := u) b
    by_cases hb : b < 0 ∨ 6 ≤ b
    · have hE : Hid (brdE W k L a b = 2) := Lib.hid (by rw [brdE, if_neg (by simp [hk]), if_pos (by rcases hb with hb | hb; exact .inl hb; exact .inr (.inl hb))])
      have hN : Hid (brdN W k L a b = 0) := Lib.hid (by rw [brdN, hE.out, if_neg (by decide)])
      have hd : (!decide (b < 0 ∨ 6 ≤ b)) = false := by simp; omega
      rw [hd] at CI
      have HCI := Lib.hid CI
      clear hk q0 hv h hal hsz hb hd CI
      go_enter Try.func14, Try.ntmps14
      go_wp2_with fail
      generalize (w.alloc (.cells #[.int .i64 W, .int .i64 k, .slice A L.length cap] 24)).alloc (.cells #[.int .i64 b] 3) = w1 at *
      refine C1.mono ?_
      rintro e w2 ⟨rfl, hb⟩
      have hz := HSZ.out
      replace b3 := ((bcell hb).1 _ _ (by omega)).trans b3
      have HB2 := Lib.hid (HAL.out.trans (hb.mono HAL.out.size))
      clear hb hz b0 b1 b2
      go_wp2_with fail
      refine (HCI.out _).mono ?_
      rintro e w3 ⟨rfl, rfl⟩
      go_wp2
      go_ret2
      rw [hE.out, hN.out]
      exact ⟨rfl, HB2.out⟩
    · have hd : (!decide (b < 0 ∨ 6 ≤ b)) = true := by simp; omega
      rw [hd] at CI
      have HCI := Lib.hid CI
      by_cases hab : a = b
      · have hE : Hid (brdE W k L a b = 2) := Lib.hid (by rw [brdE, if_neg (by simp [hk]), if_pos (.inr (.inr hab))])
        have hN : Hid (brdN W k L a b = 0) := Lib.hid (by rw [brdN, hE.out, if_neg (by decide)])
        have hbb : (a == b) = true := by simpa using hab
        have HAB := Lib.hid hab
        clear hk q0 hv h hal hsz hb hd CI hab
        go_enter Try.func14, Try.ntmps14
        go_wp2_with fail
        generalize (w.alloc (.cells #[.int .i64 W, .int .i64 k, .slice A L.length cap] 24)).alloc (.cells #[.int .i64 b] 3) = w1 at *
        refine C1.mono ?_
        rintro e w2 ⟨rfl, hb⟩
        have hz := HSZ.out
        replace b3 := ((bcell hb).1 _ _ (by omega)).trans b3
        have HB2 := Lib.hid (HAL.out.trans (hb.mono HAL.out.size))
        clear hb hz b0 b1 b2
        go_wp2_with fail
        refine (HCI.out _).mono ?_
        rintro e w3 ⟨rfl, rfl⟩
        go_wp2
        go_ret2
        rw [hE.out, hN.out]
        exact ⟨rfl, HB2.out⟩
      · have hE : Hid (brdE W k L a b = 0) := Lib.hid (by rw [brdE, if_neg (by simp [hk]), if_neg (by omega)])
        have hN : Hid (brdN W k L a b = (sidesN W k L a (fun x => x == b) : Nat)) := Lib.hid (by rw [brdN, hE.out, if_pos rfl, Int.toNat_natCast, Int.toNat_natCast])
        have hbb : (a == b) = false := by simpa using hab
        clear hk q0 hv h hal hsz hb hd CI hab
        go_enter Try.func14, Try.ntmps14
        go_wp2_with fail
        generalize (w.alloc (.cells #[.int .i64 W, .int .i64 k, .slice A L.length cap] 24)).alloc (.cells #[.int .i64 b] 3) = w1 at *
        refine C1.mono ?_
        rintro e w2 ⟨rfl, hb⟩
        have hz := HSZ.out
        replace b0 := ((bcell hb).1 _ _ (by omega)).trans b0
        replace b1 := ((bcell hb).1 _ _ (by omega)).trans b1
        replace b2 := ((bcell hb).1 _ _ (by omega)).trans b2
        replace b3 := ((bcell hb).1 _ _ (by omega)).trans b3
        have HB2 := Lib.hid (HAL.out.trans (hb.mono HAL.out.size))
        have HZ2 : Hid (w.heap.size + 1 < w2.heap.size) := Lib.hid (by have := hb.size; omega)
        have CS := lSides (cap := cap) (H0.out.below HB2.out hB) (Nat.le_trans hB HB2.out.size) HV.out a 38 #[.pointer (some ⟨w.heap.size + 1, 0, none⟩)] (fun x => x == b) (fun args u => by kernel_rfl)
          (fun u hu x => beyondC (((bcell hu).1 _ _ HZ2.out).trans b3) x)
        have HCS := Lib.hid CS
        clear hb hz CS C1
        go_wp2_with fail
        refine (HCI.out _).mono ?_
        rintro e w3 ⟨rfl, rfl⟩
        go_wp2_with fail
        refine HCS.out.mono ?_
        rintro e w3 ⟨rfl, hb3⟩
        have HB3 := Lib.hid (HB2.out.trans (hb3.mono HB2.out.size))
        clear hb3 HCS
        generalize (sidesN W k L a (fun x => x == b)) = nn at *
        go_wp2
        go_ret2
        rw [hE.out, hN.out]
        exact ⟨rfl, HB3.out⟩
  · have hne : (lkd W H L a != 0) = true := by simpa using hk
    have hE : Hid (brdE W H L a b = lkd W H L a) := Lib.hid (by rw [brdE, if_pos hk])
    have hN : Hid (brdN W H L a b = 0) := Lib.hid (by rw [brdN, hE.out, if_neg hk])
    clear hk h hal hsz
    generalize lkd W H L a = c at *
    go_enter Try.func14, Try.ntmps14
    go_wp2_with fail
    refine C1.mono ?_
    rintro e w2 ⟨rfl, hb⟩
    have HB2 := Lib.hid (HAL.out.trans (hb.mono HAL.out.size))
    clear hb
    go_wp2
    go_ret2
    rw [hN.out, hE.out]
    exact ⟨rfl, HB2.out⟩
end Go.Proofs.Ytdkcpnmaglkmnaa
