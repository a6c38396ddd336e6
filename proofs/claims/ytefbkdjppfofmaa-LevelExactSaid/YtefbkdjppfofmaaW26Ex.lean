import Derived.Test.YtefbkdjppfofmaaS26m
import Derived.Test.YtefbkdjppfofmaaW26A
import Derived.Test.YtefbkdjppfofmaaW26z
import Derived.Test.YtefbkdjppfofmaaW26e
import Derived.Test.YtefbkdjppfofmaaW26f
/-! The walk of LevelExact. -/
namespace Go.Proofs.Ytefbkdjppfofmaa
open Go.RowKit Go.Deep
set_option linter.unusedVariables false
set_option maxRecDepth 100000

set_option maxHeartbeats 4000000 in
theorem levelExact {w : World} {A A' : Option Addr} {W : List (List Bool)} {a : List Int} {cap cap' : Nat} (h : RdB2 w w.heap.size A W) (h' : Rd w w.heap.size A' a) :
    Calls Try.prog 6 #[.slice A W.length cap, .slice A' a.length cap'] w fun e w' => e = .returned (.bool true) ∧ Below w.heap.size w w' := by
  have l1 := h.len
  have l2 := h'.len
  have H := Lib.hid h
  have H' := Lib.hid h'
  have HCK : Hid (∀ u : World, Below w.heap.size w u → Calls Try.prog 18 #[.slice A W.length cap] u fun e w' => e = .returned (.int .i64 (chk26 W)) ∧ Below u.heap.size u w') := Lib.hid fun u hu => lrCheck26 (cap := cap) (h.below hu (Nat.le_refl _)) hu.size
  clear h h'
  by_cases hk : chk26 W = 0
  · obtain ⟨m, n, v⟩ := chk26_zero hk
    rw [hk] at HCK
    have HCM : Hid (∀ u : World, Below w.heap.size w u → Calls Try.prog 19 #[.slice A W.length cap, .slice A' a.length cap'] u fun e w' => e = .returned (.bool (fullB W a)) ∧ u = w') := Lib.hid fun u hu => lrComplete (cap := cap) (cap' := cap') (H.out.below hu (Nat.le_refl _)) (H'.out.below hu (Nat.le_refl _)) v
    have HV := Lib.hid v
    have HK := Lib.hid hk
    clear hk v
    cases hf : fullB W a
    · rw [hf] at HCM
      clear hf
      go_enter Try.func6, Try.ntmps6
      go_wp2_with fail
      refine (alive26 w).mono ?_
      rintro e w1 ⟨rfl, b1⟩
      have B1 := Lib.hid b1
      clear b1
      go_wp2_with fail
      refine (HCK.out w1 B1.out).mono ?_
      rintro e w2 ⟨rfl, b2⟩
      have B2 := Lib.hid (B1.out.trans (b2.mono B1.out.size))
      clear b2
      go_wp2_with fail
      refine (HCM.out w2 B2.out).mono ?_
      rintro e w' ⟨rfl, rfl⟩
      go_wp2
      go_ret
      exact ⟨rfl, B2.out⟩
    · have HF := Lib.hid hf
      rw [hf] at HCM
      clear hf
      go_enter Try.func6, Try.ntmps6
      go_wp2_with fail
      refine (alive26 w).mono ?_
      rintro e w1 ⟨rfl, b1⟩
      have B1 := Lib.hid b1
      clear b1
      go_wp2_with fail
      refine (HCK.out w1 B1.out).mono ?_
      rintro e w2 ⟨rfl, b2⟩
      have B2 := Lib.hid (B1.out.trans (b2.mono B1.out.size))
      clear b2
      go_wp2_with fail
      refine (HCM.out w2 B2.out).mono ?_
      rintro e w' ⟨rfl, rfl⟩
      clear HCM HCK
      go_wp2_with fail
      refine (lEven (cap := cap) (H.out.below B2.out (Nat.le_refl _)) B2.out.size).mono ?_
      rintro e w3 (⟨h1, _⟩ | ⟨m', n', b, Ab, cb, _, v', hev, rfl, rb, b3⟩)
      · exact absurd HK.out h1
      have HXC := Lib.hid (exact_cases v' HF.out hev)
      have HXM := Lib.hid (exact_more v' HF.out hev)
      have HX6 := Lib.hid (even_six v' hev)
      have HLB := Lib.hid (lkd_ok v' (even_fullB v' hev))
      have HLA := Lib.hid (lkd_ok v' HF.out)
      have B3 := Lib.hid (B2.out.trans (b3.mono B2.out.size))
      have RB := Lib.hid rb
      clear hev v' rb b3 HV HF
      have c4 := lCountsE (cap := cap) (cap' := cap') (H.out.below B3.out (Nat.le_refl _)) (H'.out.below B3.out (Nat.le_refl _)) B3.out.size B3.out.size
      rw [HLA.out] at c4
      have C4 := Lib.hid c4
      clear c4
      go_wp2_with fail
      refine C4.out.mono ?_
      rintro e w4 ⟨A4, k4, rfl, r4, b4⟩
      have R4 := Lib.hid r4
      have B4 := Lib.hid (B3.out.trans (b4.mono B3.out.size))
      replace RB := Lib.hid ((RB.out.below b4 (Nat.le_refl _)).more b4.size)
      clear r4 b4 C4
      have c5 := lCountsE (cap := cap) (cap' := cb) (H.out.below B4.out (Nat.le_refl _)) RB.out B4.out.size (Nat.le_refl _)
      rw [HLB.out] at c5
      have C5 := Lib.hid c5
      clear c5
      go_wp2_with fail
      refine C5.out.mono ?_
      rintro e w5 ⟨A5, k5, rfl, r5, b5⟩
      have R5 := Lib.hid r5
      have B5 := Lib.hid (B4.out.trans (b5.mono B4.out.size))
      replace RB := Lib.hid ((RB.out.below b5 (Nat.le_refl _)).more b5.size)
      replace R4 := Lib.hid ((R4.out.below b5 (Nat.le_refl _)).more b5.size)
      clear r5 b5 C5
      have c6 := lMore (cap := k4) (cap' := k5) R4.out R5.out (Nat.le_refl _) (Nat.le_refl _)
      rw [HXM.out] at c6
      have C6 := Lib.hid c6
      clear c6
      go_wp2_with fail
      refine C6.out.mono ?_
      rintro e w6 ⟨rfl, b6⟩
      have B6 := Lib.hid (B5.out.trans (b6.mono B5.out.size))
      replace RB := Lib.hid ((RB.out.below b6 (Nat.le_refl _)).more b6.size)
      clear b6 C6 R4 R5
      have C7 := Lib.hid (lChainE (cap := cap) (cap' := cap') (H.out.below B6.out (Nat.le_refl _)) (H'.out.below B6.out (Nat.le_refl _)) B6.out.size B6.out.size)
      go_wp2_with fail
      refine C7.out.mono ?_
      rintro e w7 ⟨A7, k7, rfl, _, b7⟩
      have B7 := Lib.hid (B6.out.trans (b7.mono B6.out.size))
      replace RB := Lib.hid ((RB.out.below b7 (Nat.le_refl _)).more b7.size)
      clear b7 C7
      have c8 := lChainE (cap := cap) (cap' := cb) (H.out.below B7.out (Nat.le_refl _)) RB.out B7.out.size (Nat.le_refl _)
      rw [HX6.out] at c8
      have C8 := Lib.hid c8
      clear c8
      go_wp2_with fail
      refine C8.out.mono ?_
      rintro e w8 ⟨A8, k8, rfl, _, b8⟩
      have B8 := Lib.hid (B7.out.trans (b8.mono B7.out.size))
      clear b8 C8 RB
      rcases HXC.out with ⟨e1, e2⟩ | ⟨e1, e2⟩
      · rw [e1, e2]
        clear e1 e2 HXC
        go_wp2
        go_ret
        exact ⟨rfl, B8.out⟩
      · rw [e1, e2]
        clear e1 e2 HXC
        go_wp2
        go_ret
        exact ⟨rfl, B8.out⟩
  · have hne : (chk26 W != 0) = true := by simpa using hk
    clear hk
    generalize chk26 W = c at *
    go_enter Try.func6, Try.ntmps6
    go_wp2_with fail
    refine (alive26 w).mono ?_
    rintro e w1 ⟨rfl, b1⟩
    have B1 := Lib.hid b1
    clear b1
    go_wp2_with fail
    refine (HCK.out w1 B1.out).mono ?_
    rintro e w2 ⟨rfl, b2⟩
    have B2 := Lib.hid (B1.out.trans (b2.mono B1.out.size))
    clear b2
    go_wp2
    go_ret
    exact ⟨rfl, B2.out⟩
end Go.Proofs.Ytefbkdjppfofmaa
