import Derived.Test.YtjaobcmladkjcaaW34p
/-! The walk of the statement DissolvePrices. -/
namespace Go.Proofs.Ytjaobcmladkjcaa
open Go.RowKit Go.Deep
set_option linter.unusedVariables false

theorem byE_ok {L O : List Int} (h : lok L O = 0) : byE L O = bestOf O (-1) := by rw [byE, if_pos h]
theorem sP_ok {L O : List Int} {r : Int} (h : sE L O r = 0) : sP L O r = priceOf O r := by rw [sP, if_pos h]

set_option maxRecDepth 100000 in
set_option maxHeartbeats 2000000 in
theorem prices {w : World} {A A' : Option Addr} {L O : List Int} {cap cap' : Nat} (h : Rd w w.heap.size A L) (h' : Rd w w.heap.size A' O) :
    Calls Try.prog 6 #[.slice A L.length cap, .slice A' O.length cap'] w fun e w' => e = .returned (.bool true) ∧ Below w.heap.size w w' := by
  have l1 := h.len
  have l2 := h'.len
  have R : ∀ u, Below w.heap.size w u → w.heap.size ≤ u.heap.size ∧ Rd u w.heap.size A L ∧ Rd u w.heap.size A' O := fun u hu => ⟨hu.size, h.below hu (Nat.le_refl _), h'.below hu (Nat.le_refl _)⟩
  have HR := Lib.hid R
  clear R h h'
  by_cases hl : lok L O = 0
  · have hV := lok_ok hl
    obtain ⟨b, v, g, s, eb, eg, hs⟩ := hV.sale
    have e0 := sE_ok hl (r := 0) (.inl rfl)
    have e1 := sE_ok hl (r := 1) (.inr rfl)
    have p0 := priceOf_sale (r := 0) eb eg hs
    have p1 := priceOf_sale (r := 1) eb eg hs
    rw [if_neg (by decide)] at p0
    rw [if_pos rfl] at p1
    have hbl := hs.best.lt_len
    have hgl := hs.second.lt_len
    have hvb := hV.bd v (mem_of hs.best.val)
    have hsb := hV.bd s (mem_of hs.second.val)
    have hgb : g ≠ b := by have := hs.second.ne; omega
    have hsv : s ≤ v := hs.best.le g s (by omega) hs.second.val
    have HL := Lib.hid hl
    have HV := Lib.hid hV
    have HS := Lib.hid hs
    have E0 := Lib.hid e0
    have E1 := Lib.hid e1
    have P0 := Lib.hid p0
    have P1 := Lib.hid p1
    have EB := Lib.hid eb
    clear hl hV hs e0 e1 p0 p1 eb eg
    go_enter Try.func6, Try.ntmps6
    go_wp2_with fail
    refine (alive w).mono ?_
    rintro e w1 ⟨rfl, hb⟩
    have H1 := HR.out w1 hb
    go_wp2_with fail
    refine (rOffers H1.2.1 H1.2.2).mono ?_
    rw [HL.out]
    rintro e w2 ⟨rfl, rfl⟩
    go_wp2_with fail
    refine (dBuyer H1.2.1 H1.2.2 H1.1).mono ?_
    rw [HL.out, byE_ok HL.out, EB.out]
    rintro e w2 ⟨rfl, hb2⟩
    replace hb := hb.trans (hb2.mono hb.size)
    clear H1 hb2
    have H1 := HR.out w2 hb
    go_wp2_with fail
    refine (dPrice H1.2.1 H1.2.2 H1.1 0).mono ?_
    rw [sP_ok E0.out, E0.out, P0.out]
    rintro e w3 ⟨rfl, hb2⟩
    replace hb := hb.trans (hb2.mono hb.size)
    clear H1 hb2
    have H1 := HR.out w3 hb
    go_wp2_with fail
    refine (dPrice H1.2.1 H1.2.2 H1.1 1).mono ?_
    rw [sP_ok E1.out, E1.out, P1.out]
    rintro e w4 ⟨rfl, hb2⟩
    replace hb := hb.trans (hb2.mono hb.size)
    clear H1 hb2
    have HB := Lib.hid hb
    obtain ⟨bb, off, rfl, hbbl, hcells⟩ := (HR.out w4 hb).2.2.2.2 (by omega)
    have hcb := hcells b v HS.out.best.val
    have q1 : s ≤ (v + s) / 2 := by omega
    have q2 : (v + s) / 2 ≤ v := by omega
    have q3 : 2 * ((v + s) / 2) ≤ s + v := by omega
    have q4 : s + v ≤ 2 * ((v + s) / 2) + 1 := by omega
    clear hcells hb
    generalize (v + s) / 2 = q at *
    go_wp2
    clear q1 q2 q3 q4
    go_loopw [12, 13] (fun f i wr => ∃ (k : Nat) (fb : Bool), k ≤ O.length ∧ i = .int .i64 k ∧ f = .bool fb ∧ Hid (Below w4.heap.size w4 wr) ∧ Hid (g < k → fb = true)) (fun _ i _ => O.length - (intOf i).toNat)
    case atStart => exact ⟨0, false, by omega, rfl, rfl, Lib.hid (Below.refl _ _), Lib.hid (by omega)⟩
    case round =>
      obtain ⟨k, fb, hk, rfl, rfl, hw, hf⟩ := hrel
      by_cases hlt : k < O.length
      · have hbw := HB.out.trans (hw.out.mono HB.out.size)
        obtain ⟨bb', off', e, hbbl', hcells⟩ := (HR.out wr hbw).2.2.2.2 (by omega)
        cases e
        obtain ⟨x, hx⟩ : ∃ x, O[k]? = some x := ⟨O[k], by simp [hlt]⟩
        have c1 := hcells k x hx
        have c2 := hcells b v HS.out.best.val
        have hxv : x ≤ v := HS.out.best.le k x (by omega) hx
        have hxs : k ≠ b → x ≤ s := fun hne => HS.out.second.le k x (by omega) hx
        have hxl : k < b → x < v := fun hlt => HS.out.best.lt k x hlt (by omega) hx
        have d1 : decide (v < x) = false := by simp; omega
        have hnext : Hid (∀ fb', (fb' = true ∨ (k ≠ b ∧ (x == s) = true) → True) → (fb = true → fb' = true) → (k ≠ b → (x == s) = true → fb' = true) → g < k + 1 → fb' = true) := Lib.hid (by
          intro fb' _ h1 h2 h3
          rcases Nat.lt_or_ge g k with h4 | h4
          · exact h1 (hf.out h4)
          · obtain rfl : g = k := by omega
            have := HS.out.second.val
            rw [hx] at this
            cases this
            exact h2 hgb (by simp))
        have HX := Lib.hid hx
        clear hx hcells
        rcases Nat.lt_trichotomy k b with hkb | hkb | hkb
        · have d2 : decide ((k : Int) < b) = true := by simp; omega
          have d3 : (x == v) = false := by have := hxl hkb; simp; omega
          have d4 : ((k : Int) != b) = true := by simp; omega
          have d5 : decide (s < x) = false := by have := hxs (by omega); simp; omega
          have hne : k ≠ b := by omega
          have HN := Lib.hid hne
          clear hxs hxl hxv hne
          go_wp2
          go_quiet (fail)
          clear d2 d3 d5
          cases fb
          · by_cases hxe : x = s
            · have d6 : (x == s) = true := by simpa using hxe
              have HXE := Lib.hid hxe; clear hxe
              go_wp2
              go_roundw
              case rel => exact ⟨k + 1, true, by omega, by go_num, rfl, Lib.hid (below_drewN hw.out _), Lib.hid fun _ => rfl⟩
              case measure => simp [intOf]; omega
            · have d6 : (x == s) = false := by simpa using hxe
              clear hxe
              go_wp2
              go_roundw
              case rel => exact ⟨k + 1, false, by omega, by go_num, rfl, Lib.hid (below_drewN hw.out _), Lib.hid (hnext.out false (fun _ => trivial) (fun h => h) (fun _ h => by rw [d6] at h; exact h))⟩
              case measure => simp [intOf]; omega
          · go_wp2
            go_roundw
            case rel => exact ⟨k + 1, true, by omega, by go_num, rfl, Lib.hid (below_drewN hw.out _), Lib.hid fun _ => rfl⟩
            case measure => simp [intOf]; omega
        · have d2 : decide ((k : Int) < b) = false := by simp; omega
          have d4 : ((k : Int) != b) = false := by simp; omega
          have HK := Lib.hid hkb
          have hge : ¬ k < b := by omega
          have d2' : decide (k < b) = false := by simp; omega
          clear hxs hxl hxv hkb
          go_wp2
          go_quiet (fail)
          clear d2 d2'
          cases fb
          · go_wp2
            go_roundw
            case rel => exact ⟨k + 1, false, by omega, by go_num, rfl, Lib.hid (below_drewN hw.out _), Lib.hid (hnext.out false (fun _ => trivial) (fun h => h) (fun h _ => absurd HK.out h))⟩
            case measure => simp [intOf]; omega
          · go_wp2
            go_roundw
            case rel => exact ⟨k + 1, true, by omega, by go_num, rfl, Lib.hid (below_drewN hw.out _), Lib.hid fun _ => rfl⟩
            case measure => simp [intOf]; omega
        · have d2 : decide ((k : Int) < b) = false := by simp; omega
          have d4 : ((k : Int) != b) = true := by simp; omega
          have d5 : decide (s < x) = false := by have := hxs (by omega); simp; omega
          have d2' : decide (k < b) = false := by simp; omega
          clear hxs hxl hxv
          go_wp2
          go_quiet (fail)
          clear d2 d2' d5
          cases fb
          · by_cases hxe : x = s
            · have d6 : (x == s) = true := by simpa using hxe
              have HXE := Lib.hid hxe; clear hxe
              go_wp2
              go_roundw
              case rel => exact ⟨k + 1, true, by omega, by go_num, rfl, Lib.hid (below_drewN hw.out _), Lib.hid fun _ => rfl⟩
              case measure => simp [intOf]; omega
            · have d6 : (x == s) = false := by simpa using hxe
              clear hxe
              go_wp2
              go_roundw
              case rel => exact ⟨k + 1, false, by omega, by go_num, rfl, Lib.hid (below_drewN hw.out _), Lib.hid (hnext.out false (fun _ => trivial) (fun h => h) (fun _ h => by rw [d6] at h; exact h))⟩
              case measure => simp [intOf]; omega
          · go_wp2
            go_roundw
            case rel => exact ⟨k + 1, true, by omega, by go_num, rfl, Lib.hid (below_drewN hw.out _), Lib.hid fun _ => rfl⟩
            case measure => simp [intOf]; omega
      · have hf' : fb = true := hf.out (by omega)
        subst hf'
        go_wp2
        go_ret
        exact ⟨rfl, HB.out.trans (hw.out.mono HB.out.size)⟩
  · have hbn : (lok L O != 0) = true := by simpa using hl
    go_enter Try.func6, Try.ntmps6
    go_wp2_with fail
    refine (alive w).mono ?_
    rintro e w1 ⟨rfl, hb⟩
    have H1 := HR.out w1 hb
    go_wp2_with fail
    refine (rOffers H1.2.1 H1.2.2).mono ?_
    rintro e w2 ⟨rfl, rfl⟩
    clear H1
    generalize lok L O = c at *
    go_wp2
    go_ret
    exact ⟨rfl, hb⟩
end Go.Proofs.Ytjaobcmladkjcaa
