import Derived.Test.YtjgobpejifhphaaW35n
/-! Walks of chapter 35: Has.
-/
namespace Go.Proofs.Ytjgobpejifhphaa
open Go.RowKit Go.Deep
set_option linter.unusedVariables false
set_option maxRecDepth 100000

def hsV (O : List Int) (R : List (List Int)) (a : Int) (V : List Int) : Int := if lkd35 O R a V = 0 then hasV O R a V else 0
/-- two numbers -/
def TwoI (w : World) (n c : Int) (e : Ending) (w' : World) : Prop := e = .returned (.tuple #[.int .i64 n, .int .i64 c]) ∧ Below w.heap.size w w'
set_option maxHeartbeats 1000000 in
theorem lHasE {w : World} {B C D : Nat} {A A' A3 : Option Addr} {O V : List Int} {R : List (List Int)} {cap cap' cap3 : Nat} (a : Int) (h : Rd w B A O) (h' : Rd2 w C A' R) (h3 : Rd w D A3 V) (hB : B ≤ w.heap.size) (hC : C ≤ w.heap.size) (hD : D ≤ w.heap.size) (hR : ∀ l ∈ R, l.length < 1000) :
    Calls Try.prog 21 #[.slice A O.length cap, .slice A' R.length cap', .int .i64 a, .slice A3 V.length cap3] w (TwoI w (hsV O R a V) (lkd35 O R a V)) := by
  have C1 := lLooked35 (cap := cap) (cap' := cap') (cap3 := cap3) a h h' h3 hB hC hD hR
  by_cases hk : lkd35 O R a V = 0
  · obtain ⟨hor, hv, ha0, ha1⟩ := lkd35_zero hk
    have C2 : Hid (∀ u, Below w.heap.size w u → Calls Try.prog 46 #[.slice A O.length cap, .slice A' R.length cap', .int .i64 a, .slice A3 V.length cap3] u fun e w' => e = .returned (.int .i64 (hasV O R a V)) ∧ Below u.heap.size u w') := Lib.hid fun u hu => lHasW a (h.below hu hB) (h'.below hu hC) (h3.below hu hD) (Nat.le_trans hB hu.size) (Nat.le_trans hC hu.size) (Nat.le_trans hD hu.size) hor hv
    have HL : Hid (hsV O R a V = hasV O R a V) := Lib.hid (by rw [hsV, if_pos hk])
    rw [hk] at C1 ⊢
    rw [HL.out]
    clear hk h h' h3 hor hv ha0 ha1 HL
    generalize hasV O R a V = n at *
    go_enter Try.func21, Try.ntmps21
    go_wp2_with fail
    refine C1.mono ?_
    rintro e w1 ⟨rfl, hb⟩
    have HB := Lib.hid hb
    clear hb C1
    go_wp2_with fail
    refine (C2.out _ HB.out).mono ?_
    rintro e w2 ⟨rfl, hb⟩
    have HB2 := Lib.hid (HB.out.trans (hb.mono HB.out.size))
    clear hb
    go_wp2
    go_ret2
    exact ⟨rfl, HB2.out⟩
  · have HL : Hid (hsV O R a V = 0) := Lib.hid (by rw [hsV, if_neg hk])
    have hne : (lkd35 O R a V != 0) = true := by rw [bne_iff_ne]; exact hk
    rw [HL.out]
    clear hk h h' h3 HL
    generalize lkd35 O R a V = c at *
    go_enter Try.func21, Try.ntmps21
    go_wp2_with fail
    refine C1.mono ?_
    rintro e w1 ⟨rfl, hb⟩
    have HB := Lib.hid hb
    clear hb C1
    go_wp2
    go_ret2
    exact ⟨rfl, HB.out⟩
set_option maxHeartbeats 1000000 in
theorem rHasE {w : World} {B C D : Nat} {A A' A3 : Option Addr} {O V : List Int} {R : List (List Int)} {cap cap' cap3 : Nat} (a : Int) (h : Rd w B A O) (h' : Rd2 w C A' R) (h3 : Rd w D A3 V) (hB : B ≤ w.heap.size) (hC : C ≤ w.heap.size) (hD : D ≤ w.heap.size) :
    Calls Try.prog 29 #[.slice A O.length cap, .slice A' R.length cap', .int .i64 a, .slice A3 V.length cap3] w (TwoI w (hsV O R a V) (lkd35 O R a V)) := by
  have C1 := rLooked35 (cap := cap) (cap' := cap') (cap3 := cap3) a h h' h3
  by_cases hk : lkd35 O R a V = 0
  · obtain ⟨hor, hv, ha0, ha1⟩ := lkd35_zero hk
    obtain ⟨k, rfl⟩ : ∃ k : Nat, a = k := ⟨a.toNat, by omega⟩
    have hkR : k < R.length := by omega
    obtain ⟨b, off, L, A4, c4, rfl, hb, hL, hcL, hrd⟩ := h'.at_ hkR
    have C2 := rSumW (cap := cap) (cap' := cap') (cap3 := cap3) (cap4 := c4) h h' h3 hrd hB hC hD hC hor hv (hor.ord L (List.mem_of_getElem? hL)) hkR
    have hset : hasW O R (k : Int) V L = hasV O R (k : Int) V := by
      obtain ⟨h1, h2⟩ := List.getElem?_eq_some_iff.1 hL
      rw [hasW, Int.toNat_natCast, ← h2, List.set_getElem_self]
    have HL : Hid (hsV O R (k : Int) V = hasV O R (k : Int) V) := Lib.hid (by rw [hsV, if_pos hk])
    rw [hset] at C2
    rw [hk] at C1 ⊢
    rw [HL.out]
    have HC2 := Lib.hid C2
    clear hk h h' h3 hor hv ha0 ha1 HL hL hrd hset C2
    generalize hasV O R (k : Int) V = n at *
    go_enter Try.func29, Try.ntmps29
    go_wp2_with (go_at_call 58; refine C1.mono ?_; rintro e w' ⟨rfl, rfl⟩)
    refine HC2.out.mono ?_
    rintro e w2 ⟨rfl, hb⟩
    have HB2 := Lib.hid hb
    clear hb C1
    go_wp2
    go_ret2
    exact ⟨rfl, HB2.out⟩
  · have HL : Hid (hsV O R a V = 0) := Lib.hid (by rw [hsV, if_neg hk])
    have hne : (lkd35 O R a V != 0) = true := by rw [bne_iff_ne]; exact hk
    rw [HL.out]
    clear hk h h' h3 HL
    generalize lkd35 O R a V = c at *
    go_enter Try.func29, Try.ntmps29
    go_wp2_with (go_at_call 58; refine C1.mono ?_; rintro e w' ⟨rfl, rfl⟩)
    go_ret2
    exact ⟨rfl, Below.refl _ _⟩
end Go.Proofs.Ytjgobpejifhphaa
