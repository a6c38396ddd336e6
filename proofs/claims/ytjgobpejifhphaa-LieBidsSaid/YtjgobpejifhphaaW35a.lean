import Derived.Test.YtjgobpejifhphaaW34l
import Derived.Test.YtjgobpejifhphaaClone
/-! Walks of chapter 35: with, put, both Offers; the statement LieOffers. -/
namespace Go.Proofs.Ytjgobpejifhphaa
open Go.RowKit Go.Deep
set_option linter.unusedVariables false

set_option maxHeartbeats 400000 in
theorem withL {w : World} {B : Nat} {A : Option Addr} {L : List Int} {cap : Nat} (h : Rd w B A L) (hB : B ≤ w.heap.size) {i : Nat} (hi : i < L.length) (x : Int) :
    Calls Try.prog 36 #[.slice A L.length cap, .int .i64 i, .int .i64 x] w (NewRow w 3 (L.set i x)) := by
  have hlen := h.len
  have C := clone (cap := cap) h hB (by omega)
  obtain ⟨y, hy⟩ : ∃ y, L[i]? = some y := ⟨L[i], by simp [hi]⟩
  have HY := Lib.hid hy
  clear h hB hy
  go_enter Try.func36, Try.ntmps36
  go_wp2_with fail
  refine C.mono ?_
  rintro e w1 ⟨g, c, rfl, hg, hP, hb⟩
  have hc := hP.cell HY.out
  have hf := hP.frozen i
  have HP := Lib.hid (hP.store i x)
  have HB := Lib.hid (hb.setCell (p := ⟨g, i, none⟩) hg (.int .i64 x))
  clear hP hb C
  go_wp2
  go_ret
  exact ⟨g, c, by rw [List.length_set]; rfl, hg, HP.out, HB.out⟩

set_option maxHeartbeats 400000 in
theorem putL {w : World} {B : Nat} {A : Option Addr} {L : List Int} {cap : Nat} (h : Rd w B A L) (hB : B ≤ w.heap.size) {i : Nat} (hi : i < L.length) (x : Int) :
    Calls Try.prog 38 #[.slice A L.length cap, .int .i64 i, .int .i64 x] w (NewRow w 3 (L.set i x)) := by
  have hlen := h.len
  obtain ⟨y, hy⟩ : ∃ y, L[i]? = some y := ⟨L[i], by simp [hi]⟩
  have HY := Lib.hid hy
  obtain ⟨i0, hi0, hz0, hz1, hz2⟩ := info_parts infoInt'
  have hown0 := own_empty w 3
  have hal := Below.alloc (B := w.heap.size) (Below.refl _ w) (Nat.le_refl _) (.cells #[] 3)
  have hsz : (w.alloc (.cells #[] 3)).heap.size = w.heap.size + 1 := by simp
  obtain ⟨bb, off, rfl, hbb, hcells⟩ := (h.below hal hB).2.2 (by omega)
  have HI := Lib.hid hi0
  have HO := Lib.hid hown0
  have HCE := Lib.hid (cells_ints hcells)
  have HAL := Lib.hid hal
  have HSZ := Lib.hid hsz
  clear hcells hal hsz hi0 hown0 h hy
  go_enter Try.func38, Try.ntmps38
  generalize hw4 : w.alloc (.cells #[] 3) = w4 at *
  have HW4 := Lib.hid hw4
  clear hw4
  have hx4 : w.alloc (.cells #[] 3) = w4 := HW4.out
  go_wp2_with (at_builtin; refine wpList_append_own _ rfl _ _ 22 rfl w.heap.size 3 i0 (.int .i64 0) 1 8 Try.underlying22 HI.out hz0 hz1 hz2 rfl (by decide) _ 0 [] rfl HO.out ⟨bb, off, none⟩ L.length cap (L.map (Value.int .i64)) rfl (by simp) HCE.out (ints_oneCell _ _) (by unfold maxLen; omega) (by omega) (by rw [HSZ.out]; omega) ?_)
  intro v' w5 hown5 hgrow _
  have hb5 : Below w.heap.size w w5 := HAL.out.grown hgrow (by rw [HSZ.out]; omega) (by intro k hk; simp [Value.ownBlock] at hk; omega)
  obtain ⟨gg, c5, hv5, hgg, hP⟩ := ownP_of_row hown5 (by omega)
  rw [hv5]
  have hc := hP.cell HY.out
  have hf := hP.frozen i
  have HP := Lib.hid (hP.store i x)
  have HB := Lib.hid (hb5.setCell (p := ⟨gg, i, none⟩) hgg (.int .i64 x))
  clear hown5 hgrow hb5 hP hx4 hv5 HW4 HAL HCE HSZ
  go_wp2
  go_ret
  exact ⟨gg, c5, by rw [List.length_set]; rfl, hgg, HP.out, HB.out⟩

/-- the best of the offers from k on -/
def offGo (f : Int → Int) : Nat → Int → Int → Int → Int × Int
  | 0, _, b, g => (b, g)
  | n + 1, k, b, g => if k = 0 ∨ g < f k then offGo f n (k + 1) k (f k) else offGo f n (k + 1) b g
theorem offGo_yes {f : Int → Int} {n : Nat} {k b g : Int} (h : k = 0 ∨ g < f k) : offGo f (n + 1) k b g = offGo f n (k + 1) k (f k) := by rw [offGo, if_pos h]
theorem offGo_no {f : Int → Int} {n : Nat} {k b g : Int} (h : ¬ (k = 0 ∨ g < f k)) : offGo f (n + 1) k b g = offGo f n (k + 1) b g := by rw [offGo, if_neg h]
def lieGain (L O : List Int) (r p wv : Int) (o : Int) : Int := gV L (O.set p.toNat o) r p wv
def ofE (L O : List Int) (r p wv top : Int) : Int := if gE L O r p wv ≠ 0 then gE L O r p wv else if top < 0 ∨ 300 < top then 2 else 0
def ofR (L O : List Int) (r p wv top : Int) : Int × Int := if ofE L O r p wv top ≠ 0 then (0, 0) else offGo (lieGain L O r p wv) (top + 1).toNat 0 0 0
theorem ofE_gain {L O : List Int} {r p wv top : Int} (h : gE L O r p wv ≠ 0) : ofE L O r p wv top = gE L O r p wv := by rw [ofE, if_pos h]
theorem ofE_arg {L O : List Int} {r p wv top : Int} (h : gE L O r p wv = 0) (h2 : top < 0 ∨ 300 < top) : ofE L O r p wv top = 2 := by rw [ofE, if_neg (by simp [h]), if_pos h2]
theorem ofE_ok {L O : List Int} {r p wv top : Int} (h : gE L O r p wv = 0) (h2 : ¬ (top < 0 ∨ 300 < top)) : ofE L O r p wv top = 0 := by rw [ofE, if_neg (by simp [h]), if_neg h2]
theorem ofR_no {L O : List Int} {r p wv top : Int} (h : ofE L O r p wv top ≠ 0) : ofR L O r p wv top = (0, 0) := by rw [ofR, if_pos h]
theorem ofR_ok {L O : List Int} {r p wv top : Int} (h : ofE L O r p wv top = 0) : ofR L O r p wv top = offGo (lieGain L O r p wv) (top + 1).toNat 0 0 0 := by rw [ofR, if_neg (by simp [h])]
/-- an error-free gain: shares and offers are valid, the partner is one -/
theorem gE_zero {L O : List Int} {r p wv : Int} (h : gE L O r p wv = 0) : sE L O r = 0 ∧ ¬ badGain L.length p wv := by
  unfold gE at h
  split at h
  · contradiction
  · rename_i h0
    split at h
    · exact absurd h (by decide)
    · exact ⟨by simpa using h0, by assumption⟩

set_option maxHeartbeats 2000000 in
theorem dOffer {w : World} {B C : Nat} {A A' : Option Addr} {L O : List Int} {cap cap' : Nat} (h : Rd w B A L) (hB : B ≤ w.heap.size) (h' : Rd w C A' O) (hC : C ≤ w.heap.size) (r p wv top : Int) :
    Calls Try.prog 11 #[.slice A L.length cap, .slice A' O.length cap', .int .i64 r, .int .i64 p, .int .i64 wv, .int .i64 top] w
      fun e w' => e = .returned (.tuple #[.int .i64 (ofR L O r p wv top).1, .int .i64 (ofR L O r p wv top).2, .int .i64 (ofE L O r p wv top)]) ∧ Below w.heap.size w w' := by
  have C1 := dGain (cap := cap) (cap' := cap') h hB h' hC r p wv
  by_cases hg : gE L O r p wv = 0
  · rw [hg] at C1
    by_cases ht : top < 0 ∨ 300 < top
    · have he := ofE_arg hg ht
      rw [ofR_no (by rw [he]; decide), he]
      clear he hg h h' hB hC
      rcases ht with ht | ht
      all_goals
        go_enter Try.func11, Try.ntmps11
        go_wp2_with (go_at_call 16; refine C1.mono ?_; rintro e w1 ⟨rfl, hb1⟩)
        go_ret3
        exact ⟨rfl, hb1⟩
    · have he := ofE_ok hg ht
      rw [ofR_ok he, he]
      have hz := gE_zero hg
      have hV := lok_ok (sE_zero hz.1)
      have hbad := hz.2
      unfold badGain at hbad
      obtain ⟨i, rfl⟩ := Int.eq_ofNat_of_zero_le (show 0 ≤ p by omega)
      have hi : i < O.length := by have := hV.len; omega
      have hlen := hV.len
      have hten := hV.v.ten
      have t0 : 0 ≤ top := by omega
      have t1 : top ≤ 300 := by omega
      have HR : Hid (∀ u, Below w.heap.size w u → w.heap.size ≤ u.heap.size ∧ Rd u w.heap.size A L ∧ Rd u w.heap.size A' O) :=
        Lib.hid fun u hu => ⟨hu.size, (h.more hB).below hu (Nat.le_refl _), (h'.more hC).below hu (Nat.le_refl _)⟩
      have HO : Hid (∀ o : Int, 0 ≤ o → o ≤ 300 → ∀ x ∈ O.set i o, I64 x) := Lib.hid (by
        intro o h0 h1 x hx
        rcases List.mem_or_eq_of_mem_set hx with hx | rfl
        · have := hV.bd x hx; unfold I64; omega
        · unfold I64; omega)
      have HL : Hid (O.length ≤ 10) := Lib.hid (by omega)
      have hf : ∀ o, lieGain L O r i wv o = gV L (O.set i o) r i wv := fun o => by rw [lieGain, Int.toNat_natCast]
      have HF := Lib.hid hf
      have hn : ((top + 1).toNat : Int) = top + 1 := by omega
      clear h h' hB hC hz hV hbad hlen hten ht he hg hf
      generalize hN : (top + 1).toNat = n at *
      have HN := Lib.hid hN
      clear hN
      generalize lieGain L O r i wv = f at *
      go_enter Try.func11, Try.ntmps11
      go_wp2_with (go_at_call 16; refine C1.mono ?_; rintro e w1 ⟨rfl, hb1⟩)
      have HB1 := Lib.hid hb1
      clear hb1 C1
      go_loopw [12, 13, 40] (fun b g k wr => ∃ (j m : Nat) (bv gv : Int), j + m = n ∧ k = .int .i64 j ∧ b = .int .i64 bv ∧ g = .int .i64 gv ∧ Hid (Below w1.heap.size w1 wr) ∧ Hid (offGo f m j bv gv = offGo f n 0 0 0)) (fun _ _ k _ => n - (intOf k).toNat)
      case atStart => exact ⟨0, n, 0, 0, by omega, rfl, rfl, rfl, Lib.hid (Below.refl _ _), Lib.hid rfl⟩
      case round =>
        obtain ⟨j, m, bv, gv, hjm, rfl, rfl, rfl, hw, hr⟩ := hrel
        have HJM := Lib.hid hjm
        have hjn : j ≤ n := by omega
        clear hjm
        by_cases hlt : j < n
        · obtain ⟨m', hm'⟩ : ∃ m', m = m' + 1 := ⟨m - 1, by have := HJM.out; omega⟩
          have hj300 : (j : Int) ≤ 300 := by omega
          have HM := Lib.hid hm'
          clear hm'
          have HBW := Lib.hid (HB1.out.trans (hw.out.mono HB1.out.size))
          go_wp2_with fail
          refine (withL (HR.out wr HBW.out).2.2 (HR.out wr HBW.out).1 hi j).mono ?_
          rintro e w2 ⟨g2, c2, rfl, hg2, hP2, hb2⟩
          have HB2 := Lib.hid (HBW.out.trans (hb2.mono HBW.out.size))
          have HW2 := Lib.hid (hw.out.trans (hb2.mono hw.out.size))
          have hlr := hP2.rd (HO.out j (by omega) hj300) (by have := HL.out; simp; omega) hP2.lt
          have C2 := dGain (cap := cap) (cap' := c2) (HR.out w2 HB2.out).2.1 (HR.out w2 HB2.out).1 hlr (Nat.le_refl _) r i wv
          rw [← HF.out j, List.length_set] at C2
          have HC2 := Lib.hid C2
          clear hlr C2 hP2 hb2
          go_wp2_with fail
          refine HC2.out.mono ?_
          rintro e w3 ⟨rfl, hb3⟩
          have HW3 := Lib.hid (HW2.out.trans (hb3.mono HW2.out.size))
          clear HC2 hb3
          generalize gE L (O.set i j) r i wv = ge at *
          by_cases h0 : j = 0
          · have d0 : ((j : Int) == 0) = true := by simp; omega
            have hnext := Lib.hid (show offGo f m' (j + 1) j (f j) = offGo f n 0 0 0 by rw [← hr.out, HM.out, offGo_yes (.inl (by omega))])
            clear h0
            generalize f j = fj at *
            go_wp2
            go_roundw
            case rel => exact ⟨j + 1, m', j, fj, by have := HJM.out; have := HM.out; omega, by go_num, rfl, rfl, HW3, Lib.hid (by rw [← hnext.out]; rfl)⟩
            case measure => simp [intOf]; omega
          · have d0 : ((j : Int) == 0) = false := by simp; omega
            by_cases h1 : gv < f j
            · have hnext := Lib.hid (show offGo f m' (j + 1) j (f j) = offGo f n 0 0 0 by rw [← hr.out, HM.out, offGo_yes (.inr h1)])
              clear h0
              generalize f j = fj at *
              go_wp2
              go_roundw
              case rel => exact ⟨j + 1, m', j, fj, by have := HJM.out; have := HM.out; omega, by go_num, rfl, rfl, HW3, Lib.hid (by rw [← hnext.out]; rfl)⟩
              case measure => simp [intOf]; omega
            · have hnext := Lib.hid (show offGo f m' (j + 1) bv gv = offGo f n 0 0 0 by rw [← hr.out, HM.out, offGo_no (by omega)])
              clear h0
              generalize f j = fj at *
              go_wp2
              go_roundw
              case rel => exact ⟨j + 1, m', bv, gv, by have := HJM.out; have := HM.out; omega, by go_num, rfl, rfl, HW3, Lib.hid (by rw [← hnext.out]; rfl)⟩
              case measure => simp [intOf]; omega
        · obtain rfl : m = 0 := by have := HJM.out; omega
          have hjt : (j : Int) = top + 1 := by omega
          have hjt' : top < (j : Int) := by omega
          have HJ := Lib.hid hjt
          clear hjt
          have hfin := hr.out
          rw [show offGo f 0 j bv gv = (bv, gv) from rfl] at hfin
          have HFI := Lib.hid hfin
          clear hfin
          go_wp2
          go_ret3
          exact ⟨by rw [← HFI.out]; rfl, HB1.out.trans (hw.out.mono HB1.out.size)⟩
  · have he := ofE_gain (top := top) hg
    rw [ofR_no (by rw [he]; exact hg), he]
    have hb : (gE L O r p wv != 0) = true := by simpa using hg
    clear hg he h h' hB hC
    generalize gE L O r p wv = c at *
    go_enter Try.func11, Try.ntmps11
    go_wp2_with (go_at_call 16; refine C1.mono ?_; rintro e w1 ⟨rfl, hb1⟩)
    go_ret3
    exact ⟨rfl, hb1⟩

set_option maxHeartbeats 2000000 in
theorem rOffer {w : World} {B C : Nat} {A A' : Option Addr} {L O : List Int} {cap cap' : Nat} (h : Rd w B A L) (hB : B ≤ w.heap.size) (h' : Rd w C A' O) (hC : C ≤ w.heap.size) (r p wv top : Int) :
    Calls Try.prog 12 #[.slice A L.length cap, .slice A' O.length cap', .int .i64 r, .int .i64 p, .int .i64 wv, .int .i64 top] w
      fun e w' => e = .returned (.tuple #[.int .i64 (ofR L O r p wv top).1, .int .i64 (ofR L O r p wv top).2, .int .i64 (ofE L O r p wv top)]) ∧ Below w.heap.size w w' := by
  have C1 := rGain (cap := cap) (cap' := cap') h hB h' hC r p wv
  by_cases hg : gE L O r p wv = 0
  · rw [hg] at C1
    by_cases ht : top < 0 ∨ 300 < top
    · have he := ofE_arg hg ht
      rw [ofR_no (by rw [he]; decide), he]
      clear he hg h h' hB hC
      rcases ht with ht | ht
      all_goals
        go_enter Try.func12, Try.ntmps12
        go_wp2_with (go_at_call 37; refine C1.mono ?_; rintro e w1 ⟨rfl, hb1⟩)
        go_ret3
        exact ⟨rfl, hb1⟩
    · have he := ofE_ok hg ht
      rw [ofR_ok he, he]
      have hz := gE_zero hg
      have hV := lok_ok (sE_zero hz.1)
      have hbad := hz.2
      unfold badGain at hbad
      obtain ⟨i, rfl⟩ := Int.eq_ofNat_of_zero_le (show 0 ≤ p by omega)
      have hi : i < O.length := by have := hV.len; omega
      have hlen := hV.len
      have hten := hV.v.ten
      have t0 : 0 ≤ top := by omega
      have t1 : top ≤ 300 := by omega
      have HR : Hid (∀ u, Below w.heap.size w u → w.heap.size ≤ u.heap.size ∧ Rd u w.heap.size A L ∧ Rd u w.heap.size A' O) :=
        Lib.hid fun u hu => ⟨hu.size, (h.more hB).below hu (Nat.le_refl _), (h'.more hC).below hu (Nat.le_refl _)⟩
      have HO : Hid (∀ o : Int, 0 ≤ o → o ≤ 300 → ∀ x ∈ O.set i o, I64 x) := Lib.hid (by
        intro o h0 h1 x hx
        rcases List.mem_or_eq_of_mem_set hx with hx | rfl
        · have := hV.bd x hx; unfold I64; omega
        · unfold I64; omega)
      have HL : Hid (O.length ≤ 10) := Lib.hid (by omega)
      have hf : ∀ o, lieGain L O r i wv o = gV L (O.set i o) r i wv := fun o => by rw [lieGain, Int.toNat_natCast]
      have HF := Lib.hid hf
      have hn : ((top + 1).toNat : Int) = top + 1 := by omega
      clear h h' hB hC hz hV hbad hlen hten ht he hg hf
      generalize hN : (top + 1).toNat = n at *
      have HN := Lib.hid hN
      clear hN
      generalize lieGain L O r i wv = f at *
      go_enter Try.func12, Try.ntmps12
      go_wp2_with (go_at_call 37; refine C1.mono ?_; rintro e w1 ⟨rfl, hb1⟩)
      have HB1 := Lib.hid hb1
      clear hb1 C1
      go_loopw [17, 18, 19] (fun b g k wr => ∃ (j m : Nat) (bv gv : Int), j + m = n ∧ k = .int .i64 j ∧ b = .int .i64 bv ∧ g = .int .i64 gv ∧ Hid (Below w1.heap.size w1 wr) ∧ Hid (offGo f m j bv gv = offGo f n 0 0 0)) (fun _ _ k _ => n - (intOf k).toNat)
      case atStart => exact ⟨0, n, 0, 0, by omega, rfl, rfl, rfl, Lib.hid (Below.refl _ _), Lib.hid rfl⟩
      case round =>
        obtain ⟨j, m, bv, gv, hjm, rfl, rfl, rfl, hw, hr⟩ := hrel
        have HJM := Lib.hid hjm
        have hjn : j ≤ n := by omega
        clear hjm
        by_cases hlt : j < n
        · obtain ⟨m', hm'⟩ : ∃ m', m = m' + 1 := ⟨m - 1, by have := HJM.out; omega⟩
          have hj300 : (j : Int) ≤ 300 := by omega
          have HM := Lib.hid hm'
          clear hm'
          have HBW := Lib.hid (HB1.out.trans (hw.out.mono HB1.out.size))
          go_wp2_with fail
          refine (putL (HR.out wr HBW.out).2.2 (HR.out wr HBW.out).1 hi j).mono ?_
          rintro e w2 ⟨g2, c2, rfl, hg2, hP2, hb2⟩
          have HB2 := Lib.hid (HBW.out.trans (hb2.mono HBW.out.size))
          have HW2 := Lib.hid (hw.out.trans (hb2.mono hw.out.size))
          have hlr := hP2.rd (HO.out j (by omega) hj300) (by have := HL.out; simp; omega) hP2.lt
          have C2 := rGain (cap := cap) (cap' := c2) (HR.out w2 HB2.out).2.1 (HR.out w2 HB2.out).1 hlr (Nat.le_refl _) r i wv
          rw [← HF.out j, List.length_set] at C2
          have HC2 := Lib.hid C2
          clear hlr C2 hP2 hb2
          go_wp2_with fail
          refine HC2.out.mono ?_
          rintro e w3 ⟨rfl, hb3⟩
          have HW3 := Lib.hid (HW2.out.trans (hb3.mono HW2.out.size))
          clear HC2 hb3
          generalize gE L (O.set i j) r i wv = ge at *
          by_cases h0 : j = 0
          · have d0 : ((j : Int) == 0) = true := by simp; omega
            have hnext := Lib.hid (show offGo f m' (j + 1) j (f j) = offGo f n 0 0 0 by rw [← hr.out, HM.out, offGo_yes (.inl (by omega))])
            clear h0
            generalize f j = fj at *
            go_wp2
            go_roundw
            case rel => exact ⟨j + 1, m', j, fj, by have := HJM.out; have := HM.out; omega, by go_num, rfl, rfl, HW3, Lib.hid (by rw [← hnext.out]; rfl)⟩
            case measure => simp [intOf]; omega
          · have d0 : ((j : Int) == 0) = false := by simp; omega
            by_cases h1 : gv < f j
            · have hnext := Lib.hid (show offGo f m' (j + 1) j (f j) = offGo f n 0 0 0 by rw [← hr.out, HM.out, offGo_yes (.inr h1)])
              clear h0
              generalize f j = fj at *
              go_wp2
              go_roundw
              case rel => exact ⟨j + 1, m', j, fj, by have := HJM.out; have := HM.out; omega, by go_num, rfl, rfl, HW3, Lib.hid (by rw [← hnext.out]; rfl)⟩
              case measure => simp [intOf]; omega
            · have hnext := Lib.hid (show offGo f m' (j + 1) bv gv = offGo f n 0 0 0 by rw [← hr.out, HM.out, offGo_no (by omega)])
              clear h0
              generalize f j = fj at *
              go_wp2
              go_roundw
              case rel => exact ⟨j + 1, m', bv, gv, by have := HJM.out; have := HM.out; omega, by go_num, rfl, rfl, HW3, Lib.hid (by rw [← hnext.out]; rfl)⟩
              case measure => simp [intOf]; omega
        · obtain rfl : m = 0 := by have := HJM.out; omega
          have hjt : (j : Int) = top + 1 := by omega
          have hjt' : top < (j : Int) := by omega
          have HJ := Lib.hid hjt
          clear hjt
          have hfin := hr.out
          rw [show offGo f 0 j bv gv = (bv, gv) from rfl] at hfin
          have HFI := Lib.hid hfin
          clear hfin
          go_wp2
          go_ret3
          exact ⟨by rw [← HFI.out]; rfl, HB1.out.trans (hw.out.mono HB1.out.size)⟩
  · have he := ofE_gain (top := top) hg
    rw [ofR_no (by rw [he]; exact hg), he]
    have hb : (gE L O r p wv != 0) = true := by simpa using hg
    clear hg he h h' hB hC
    generalize gE L O r p wv = c at *
    go_enter Try.func12, Try.ntmps12
    go_wp2_with (go_at_call 37; refine C1.mono ?_; rintro e w1 ⟨rfl, hb1⟩)
    go_ret3
    exact ⟨rfl, hb1⟩

set_option maxHeartbeats 1000000 in
theorem lieOffers {w : World} {A A' : Option Addr} {L O : List Int} {cap cap' : Nat} (h : Rd w w.heap.size A L) (h' : Rd w w.heap.size A' O) (r p wv top : Int) (_h1 : I64 r) (_h2 : I64 p) (_h3 : I64 wv) (_h4 : I64 top) :
    Calls Try.prog 3 #[.slice A L.length cap, .slice A' O.length cap', .int .i64 r, .int .i64 p, .int .i64 wv, .int .i64 top] w fun e w' => e = .returned (.bool true) ∧ Below w.heap.size w w' := by
  have l1 := h.len
  have l2 := h'.len
  by_cases h40 : 40 < L.length
  · clear h h'
    go_enter Try.func3, Try.ntmps3
    go_wp2
    go_ret
    exact ⟨rfl, Below.refl _ _⟩
  by_cases h41 : 40 < O.length
  · clear h h'
    go_enter Try.func3, Try.ntmps3
    go_wp2
    go_ret
    exact ⟨rfl, Below.refl _ _⟩
  have R : ∀ u, Below w.heap.size w u → w.heap.size ≤ u.heap.size ∧ Rd u w.heap.size A L ∧ Rd u w.heap.size A' O := fun u hu => ⟨hu.size, h.below hu (Nat.le_refl _), h'.below hu (Nat.le_refl _)⟩
  have HR := Lib.hid R
  clear R h h' _h1 _h2 _h3 _h4
  go_enter Try.func3, Try.ntmps3
  go_wp2_with fail
  have H1 := HR.out w (Below.refl _ _)
  refine (dOffer H1.2.1 H1.1 H1.2.2 H1.1 r p wv top).mono ?_
  rintro e w1 ⟨rfl, hb⟩
  clear H1
  have H1 := HR.out w1 hb
  go_wp2_with fail
  refine (rOffer H1.2.1 H1.1 H1.2.2 H1.1 r p wv top).mono ?_
  rintro e w2 ⟨rfl, hb2⟩
  replace hb := hb.trans (hb2.mono hb.size)
  clear H1 hb2
  generalize ofR L O r p wv top = x at *
  generalize ofE L O r p wv top = y at *
  go_wp2
  go_ret
  exact ⟨rfl, hb⟩
end Go.Proofs.Ytjgobpejifhphaa
