import Derived.Test.YtdkcpnmaglkmnaaS30m
/-! Walks of chapter 30: Give, of the program. -/
namespace Go.Proofs.Ytdkcpnmaglkmnaa
open Go.RowKit Go.Deep
set_option linter.unusedVariables false
set_option maxRecDepth 100000

theorem Rd.farL {w : World} {B : Nat} {A : Option Addr} {L : List Int} (h : Rd w B A L) {q : Addr} (hq : ∀ p, A = some p → p.block ≠ q.block) (u : Value) : Rd (w.setCell q u) B A L :=
  ⟨h.1, h.2.1, fun hn => by
    obtain ⟨b, off, e, hb, hc⟩ := h.2.2 hn
    refine ⟨b, off, e, hb, fun i x hx => ?_⟩
    have hne := hq _ e
    rw [← hc i x hx]
    exact World.cell?_of_block (w := w) (Below.heap_setCell _ _ _ _ hne)⟩

set_option maxHeartbeats 4000000 in
theorem lGive {w : World} {B : Nat} {A : Option Addr} {L : List Int} {cap : Nat} (h : Rd w B A L) (hB : B ≤ w.heap.size) (W H p t : Int) :
    Calls Try.prog 23 #[.agg #[.int .i64 W, .int .i64 H, .slice A L.length cap], .int .i64 p, .int .i64 t] w (LandResE w (gvW30 W H L p t) (gvH30 W H L p t) (gvL30 W H L p t) (gvE30 W H L p t)) := by
  have hal : Below w.heap.size w ((w.alloc (.cells #[.int .i64 W, .int .i64 H, .slice A L.length cap] 24)).alloc (.cells #[.int .i64 0, .int .i64 0, .slice none 0 0] 24)) := ((Below.refl _ _).alloc (Nat.le_refl _) _).alloc (by simp) _
  have hsz : ((w.alloc (.cells #[.int .i64 W, .int .i64 H, .slice A L.length cap] 24)).alloc (.cells #[.int .i64 0, .int .i64 0, .slice none 0 0] 24)).heap.size = w.heap.size + 2 := by simp
  have b0 : ((w.alloc (.cells #[.int .i64 W, .int .i64 H, .slice A L.length cap] 24)).alloc (.cells #[.int .i64 0, .int .i64 0, .slice none 0 0] 24)).cell? ⟨w.heap.size, 0, none⟩ = some (.int .i64 W) := by simp
  have b1 : ((w.alloc (.cells #[.int .i64 W, .int .i64 H, .slice A L.length cap] 24)).alloc (.cells #[.int .i64 0, .int .i64 0, .slice none 0 0] 24)).cell? ⟨w.heap.size, 1, none⟩ = some (.int .i64 H) := by simp
  have b2 : ((w.alloc (.cells #[.int .i64 W, .int .i64 H, .slice A L.length cap] 24)).alloc (.cells #[.int .i64 0, .int .i64 0, .slice none 0 0] 24)).cell? ⟨w.heap.size, 2, none⟩ = some (.slice A L.length cap) := by simp
  have hh2 : ((w.alloc (.cells #[.int .i64 W, .int .i64 H, .slice A L.length cap] 24)).alloc (.cells #[.int .i64 0, .int .i64 0, .slice none 0 0] 24)).heap[w.heap.size + 1]? = some (.cells #[.int .i64 0, .int .i64 0, .slice none 0 0] 24 (0, 0)) := heap_alloc2_new w _ _
  have HSZ := Lib.hid hsz
  have HAL := Lib.hid hal
  have HH2 := Lib.hid hh2
  have HR := Lib.hid h
  have C1 := lCheck (cap := cap) (h.below hal hB) (Nat.le_trans hB hal.size) W H
  by_cases hk : lck W H L = 0
  · rw [hk] at C1
    have HK := Lib.hid hk
    clear h hal hsz hh2 hk
    go_enter Try.func23, Try.ntmps23
    go_wp2_with fail
    generalize ((w.alloc (.cells #[.int .i64 W, .int .i64 H, .slice A L.length cap] 24)).alloc (.cells #[.int .i64 0, .int .i64 0, .slice none 0 0] 24)) = w2 at *
    refine C1.mono ?_
    rintro e w3 ⟨rfl, hb⟩
    have HB0 := Lib.hid hb
    have hz := HSZ.out
    have hT := (hb.block (w.heap.size + 1) (by omega)).trans HH2.out
    obtain ⟨d0, d1, d2, e0⟩ := land0 hT
    have e1 := e0 1
    have e2 := e0 2
    replace e0 := e0 0
    have HT := Lib.hid hT
    have HBW := Lib.hid (HAL.out.trans (hb.mono HAL.out.size))
    have c0 := ((hb.cell (p := ⟨w.heap.size, 0, none⟩) (show w.heap.size < w2.heap.size by omega))).trans b0
    have c1 := ((hb.cell (p := ⟨w.heap.size, 1, none⟩) (show w.heap.size < w2.heap.size by omega))).trans b1
    have c2 := ((hb.cell (p := ⟨w.heap.size, 2, none⟩) (show w.heap.size < w2.heap.size by omega))).trans b2
    clear hT hz
    have ag := isAgent (w := w3) t
    clear b0 b1 b2 hb C1
    have hlen := HR.out.len
    by_cases hbad : p < 0 ∨ (L.length : Int) ≤ p ∨ t < 0 ∨ 6 ≤ t
    · have G := Lib.hid (gv30_arg HK.out hbad)
      by_cases hp0 : p < 0
      · clear hbad
        go_wp2
        have hHf := three_set HT.out (.int .i64 0) (.int .i64 0) (.slice none 0 0)
        have hBf := ((HBW.out.setCell (p := ⟨w.heap.size + 1, 0, none⟩) (Nat.le_succ _) (.int .i64 0)).setCell (p := ⟨w.heap.size + 1, 1, none⟩) (Nat.le_succ _) (.int .i64 0)).setCell (p := ⟨w.heap.size + 1, 2, none⟩) (Nat.le_succ _) (.slice none 0 0)
        rw [G.out.1]
        exact bodyPost_ret (landCell2 rfl _ _ _ _ _ _ _ rfl hHf) rfl (noLand hBf G.out.2.1 G.out.2.2.1 G.out.2.2.2)
      · by_cases hpn : (L.length : Int) ≤ p
        · clear hbad
          go_wp2
          have hHf := three_set HT.out (.int .i64 0) (.int .i64 0) (.slice none 0 0)
          have hBf := ((HBW.out.setCell (p := ⟨w.heap.size + 1, 0, none⟩) (Nat.le_succ _) (.int .i64 0)).setCell (p := ⟨w.heap.size + 1, 1, none⟩) (Nat.le_succ _) (.int .i64 0)).setCell (p := ⟨w.heap.size + 1, 2, none⟩) (Nat.le_succ _) (.slice none 0 0)
          rw [G.out.1]
          exact bodyPost_ret (landCell2 rfl _ _ _ _ _ _ _ rfl hHf) rfl (noLand hBf G.out.2.1 G.out.2.2.1 G.out.2.2.2)
        · have hag : (t < 0 ∨ 6 ≤ t) := by omega
          rw [decide_eq_true hag] at ag
          have AG := Lib.hid ag
          clear hbad hag ag
          go_wp2_with fail
          refine AG.out.mono ?_
          rintro e w4 ⟨rfl, rfl⟩
          go_wp2
          have hHf := three_set HT.out (.int .i64 0) (.int .i64 0) (.slice none 0 0)
          have hBf := ((HBW.out.setCell (p := ⟨w.heap.size + 1, 0, none⟩) (Nat.le_succ _) (.int .i64 0)).setCell (p := ⟨w.heap.size + 1, 1, none⟩) (Nat.le_succ _) (.int .i64 0)).setCell (p := ⟨w.heap.size + 1, 2, none⟩) (Nat.le_succ _) (.slice none 0 0)
          rw [G.out.1]
          exact bodyPost_ret (landCell2 rfl _ _ _ _ _ _ _ rfl hHf) rfl (noLand hBf G.out.2.1 G.out.2.2.1 G.out.2.2.2)
    · obtain ⟨k, rfl⟩ : ∃ k : Nat, p = k := ⟨p.toNat, by omega⟩
      have hkl : k < L.length := by omega
      have ht0 : 0 ≤ t ∧ t ≤ 5 := by omega
      have hag : ¬ (t < 0 ∨ 6 ≤ t) := by omega
      rw [decide_eq_false hag] at ag
      have AG := Lib.hid ag
      have hRw := HR.out.below HBW.out hB
      obtain ⟨bb, off, x, rfl, hbb, hx, hxi, hcx⟩ := hRw.at_ hkl
      have HRW := Lib.hid hRw
      have HWAS : Hid (wasL L k = x) := Lib.hid (by rw [wasL, Int.toNat_natCast, List.getD_eq_getElem?_getD, hx]; rfl)
      have HBAD := Lib.hid hbad
      have hk1 : ¬ (k : Int) < 0 := by omega
      have hk2 : ¬ (L.length : Int) ≤ (k : Int) := by omega
      clear hbad hag ag hx hxi hRw
      go_wp2_with fail
      refine AG.out.mono ?_
      rintro e w4 ⟨rfl, rfl⟩
      by_cases hxt : x = t
      · have G := Lib.hid (gv30_none HK.out HBAD.out (by rw [HWAS.out, hxt]))
        have hb1 : (x == t) = true := by simpa using hxt
        clear hxt
        go_wp2
        have hHf := three_set HT.out (.int .i64 0) (.int .i64 0) (.slice none 0 0)
        have hBf := ((HBW.out.setCell (p := ⟨w.heap.size + 1, 0, none⟩) (Nat.le_succ _) (.int .i64 0)).setCell (p := ⟨w.heap.size + 1, 1, none⟩) (Nat.le_succ _) (.int .i64 0)).setCell (p := ⟨w.heap.size + 1, 2, none⟩) (Nat.le_succ _) (.slice none 0 0)
        rw [G.out.1]
        exact bodyPost_ret (landCell2 rfl _ _ _ _ _ _ _ rfl hHf) rfl (noLand hBf G.out.2.1 G.out.2.2.1 G.out.2.2.2)
      · have hb1 : (x == t) = false := by simpa using hxt
        obtain ⟨W', H', hW, hH, hv⟩ := lck_zero HK.out
        subst hW hH
        have HV := Lib.hid hv
        have HXT : Hid (wasL L k ≠ t) := Lib.hid (by rw [HWAS.out]; exact hxt)
        have l144 := hv.len144
        clear hxt hv
        go_wp2_with fail
        refine (lWith (cap := cap) HRW.out (Nat.le_trans hB HBW.out.size) (W' : Int) (H' : Int) hkl (x := t) ⟨by omega, by omega⟩).mono ?_
        rintro e w4 ⟨A4, c4, rfl, r4, hA4, hb4⟩
        have hzw := HSZ.out
        have hz3 := HB0.out.size
        have HA4 : Hid (∀ p, A4 = some p → p.block ≠ w.heap.size + 1) := Lib.hid (fun p hp => by have := hA4 p hp; omega)
        have hT4 := (hb4.block (w.heap.size + 1) (by omega)).trans HT.out
        have hB4 := HBW.out.trans (hb4.mono HBW.out.size)
        rw [List.length_set]
        have ha5 : Below w4.heap.size w4 (w4.alloc (.cells #[.int .i64 (W' : Int), .int .i64 (H' : Int), .slice A4 L.length c4] 24)) := (Below.refl _ _).alloc (Nat.le_refl _) _
        have m0 : (w4.alloc (.cells #[.int .i64 (W' : Int), .int .i64 (H' : Int), .slice A4 L.length c4] 24)).cell? ⟨w4.heap.size, 0, none⟩ = some (.int .i64 (W' : Int)) := by simp
        have m1 : (w4.alloc (.cells #[.int .i64 (W' : Int), .int .i64 (H' : Int), .slice A4 L.length c4] 24)).cell? ⟨w4.heap.size, 1, none⟩ = some (.int .i64 (H' : Int)) := by simp
        have m2 : (w4.alloc (.cells #[.int .i64 (W' : Int), .int .i64 (H' : Int), .slice A4 L.length c4] 24)).cell? ⟨w4.heap.size, 2, none⟩ = some (.slice A4 L.length c4) := by simp
        have hs5 : (w4.alloc (.cells #[.int .i64 (W' : Int), .int .i64 (H' : Int), .slice A4 L.length c4] 24)).heap.size = w4.heap.size + 1 := by simp
        have KEEP0 : Hid (∀ w5, w4.alloc (.cells #[.int .i64 (W' : Int), .int .i64 (H' : Int), .slice A4 L.length c4] 24) = w5 → ∀ u, Below w5.heap.size w5 u → u.cell? ⟨w4.heap.size, 0, none⟩ = some (.int .i64 (W' : Int)) ∧ u.cell? ⟨w4.heap.size, 1, none⟩ = some (.int .i64 (H' : Int)) ∧ u.cell? ⟨w4.heap.size, 2, none⟩ = some (.slice A4 L.length c4)
            ∧ u.heap[w.heap.size + 1]? = some (.cells #[.int .i64 0, .int .i64 0, .slice none 0 0] 24 (0, 0)) ∧ Below w.heap.size w u ∧ Rd u u.heap.size A4 (L.set k t)) := Lib.hid (by
          rintro w5 rfl u hu
          have h5 := hB4.size
          have h6 := hb4.size
          have hu' := ha5.trans (hu.mono ha5.size)
          refine ⟨((bcell hu).1 _ _ (by omega)).trans m0, ((bcell hu).1 _ _ (by omega)).trans m1, ((bcell hu).1 _ _ (by omega)).trans m2, ((hu'.block _ (by omega))).trans hT4, hB4.trans (hu'.mono hB4.size), ?_⟩
          exact (r4.below hu' (Nat.le_refl _)).more hu'.size)
        have CP0 : Hid (∀ w5, w4.alloc (.cells #[.int .i64 (W' : Int), .int .i64 (H' : Int), .slice A4 L.length c4] 24) = w5 → ∀ u, Below w5.heap.size w5 u → ∀ b : Int, 0 ≤ b → Calls Try.prog 45 #[.agg #[.int .i64 (W' : Int), .int .i64 (H' : Int), .slice A4 L.length c4], .int .i64 b] u (PartsRes u (partsK W' (L.set k t) b))) := Lib.hid (fun w5 e5 u hu b hb0 => by
          have hR := (KEEP0.out w5 e5 u hu).2.2.2.2.2
          have h1 := lParts (cap := c4) hR (Nat.le_refl _) (HV.out.set k (x := t) ⟨by omega, by omega⟩) hb0
          rw [List.length_set] at h1
          exact h1)
        clear c0 c1 c2 d0 d1 d2 e0 e1 e2 hcx r4 hA4 hb4 hT4 hB4 ha5 m0 m1 m2 hs5 hb1 HRW hk1 hk2 hz3 hzw HBW HT
        go_wp2_with fail
        generalize hw5 : w4.alloc (.cells #[.int .i64 (W' : Int), .int .i64 (H' : Int), .slice A4 L.length c4] 24) = w5 at *
        have KEEP := Lib.hid (KEEP0.out w5 rfl)
        have CP := Lib.hid (CP0.out w5 rfl)
        clear KEEP0 CP0 hw5
        refine (CP.out w5 (Below.refl _ _) t ht0.1).mono ?_
        rintro e w6 ⟨A6, c6, rfl, _, hb6⟩
        have hM6 := partsK_len (W := W') (L := L.set k t) (a := t)
        rw [List.length_set] at hM6
        have GAP := Lib.hid (gv30_apart (W := (W' : Int)) (H := (H' : Int)) (p := (k : Int)) HK.out HBAD.out HXT.out)
        have GOK := Lib.hid (gv30_ok (W := (W' : Int)) (H := (H' : Int)) (p := (k : Int)) HK.out HBAD.out HXT.out)
        rw [HWAS.out, Int.toNat_natCast, Int.toNat_natCast] at GAP GOK
        generalize hM : (partsK W' (L.set k t) t).length = M at *
        have HB6 := Lib.hid hb6
        obtain ⟨mm0, mm1, mm2, hT, hBW, hRu⟩ := KEEP.out _ hb6
        obtain ⟨d0, d1, d2, e0⟩ := land0 hT
        have e1 := e0 1
        have e2 := e0 2
        replace e0 := e0 0
        have HT := Lib.hid hT
        have HBW := Lib.hid hBW
        have HRU := Lib.hid hRu
        clear hT hBW hRu
        clear hb6 hM
        by_cases hlt : 1 < M
        · have G := Lib.hid (GAP.out (.inl hlt))
          clear GAP GOK
          go_wp2
          have hHf := three_set HT.out (.int .i64 0) (.int .i64 0) (.slice none 0 0)
          have hBf := ((HBW.out.setCell (p := ⟨w.heap.size + 1, 0, none⟩) (Nat.le_succ _) (.int .i64 0)).setCell (p := ⟨w.heap.size + 1, 1, none⟩) (Nat.le_succ _) (.int .i64 0)).setCell (p := ⟨w.heap.size + 1, 2, none⟩) (Nat.le_succ _) (.slice none 0 0)
          rw [G.out.1]
          exact bodyPost_ret (landCell2 rfl _ _ _ _ _ _ _ rfl hHf) rfl (noLand hBf G.out.2.1 G.out.2.2.1 G.out.2.2.2)
        · by_cases hx0 : 0 ≤ x
          · go_wp2_with fail
            refine (CP.out w6 HB6.out x hx0).mono ?_
            rintro e w7 ⟨A7, c7, rfl, _, hb7⟩
            have hM7 := partsK_len (W := W') (L := L.set k t) (a := x)
            rw [List.length_set] at hM7
            generalize hM' : (partsK W' (L.set k t) x).length = M' at *
            have hb8 := HB6.out.trans (hb7.mono HB6.out.size)
            clear mm0 mm1 mm2 d0 d1 d2 e0 e1 e2 HT HBW HRU hb7 hM'
            obtain ⟨mm0, mm1, mm2, hT, hBW, hRu⟩ := KEEP.out _ hb8
            obtain ⟨d0, d1, d2, e0⟩ := land0 hT
            have e1 := e0 1
            have e2 := e0 2
            replace e0 := e0 0
            have HT := Lib.hid hT
            have HBW := Lib.hid hBW
            have HRU := Lib.hid hRu
            clear hT hBW hRu
            clear hb8
            by_cases hlt' : 1 < M'
            · have G := Lib.hid (GAP.out (.inr ⟨hx0, hlt'⟩))
              clear GAP GOK
              go_wp2
              have hHf := three_set HT.out (.int .i64 0) (.int .i64 0) (.slice none 0 0)
              have hBf := ((HBW.out.setCell (p := ⟨w.heap.size + 1, 0, none⟩) (Nat.le_succ _) (.int .i64 0)).setCell (p := ⟨w.heap.size + 1, 1, none⟩) (Nat.le_succ _) (.int .i64 0)).setCell (p := ⟨w.heap.size + 1, 2, none⟩) (Nat.le_succ _) (.slice none 0 0)
              rw [G.out.1]
              exact bodyPost_ret (landCell2 rfl _ _ _ _ _ _ _ rfl hHf) rfl (noLand hBf G.out.2.1 G.out.2.2.1 G.out.2.2.2)
            · have G := Lib.hid (GOK.out (by omega))
              clear GAP GOK
              go_wp2
              have hHf := three_set HT.out (.int .i64 (W' : Int)) (.int .i64 (H' : Int)) (.slice A4 L.length c4)
              have hBf := ((HBW.out.setCell (p := ⟨w.heap.size + 1, 0, none⟩) (Nat.le_succ _) (.int .i64 (W' : Int))).setCell (p := ⟨w.heap.size + 1, 1, none⟩) (Nat.le_succ _) (.int .i64 (H' : Int))).setCell (p := ⟨w.heap.size + 1, 2, none⟩) (Nat.le_succ _) (.slice A4 L.length c4)
              have hRf := ((HRU.out.farL (q := ⟨w.heap.size + 1, 0, none⟩) HA4.out (.int .i64 (W' : Int))).farL (q := ⟨w.heap.size + 1, 1, none⟩) HA4.out (.int .i64 (H' : Int))).farL (q := ⟨w.heap.size + 1, 2, none⟩) HA4.out (.slice A4 L.length c4)
              rw [G.out.1]
              refine bodyPost_ret (landCell2 rfl _ _ _ _ _ _ _ rfl hHf) rfl ?_
              rw [G.out.2.1, G.out.2.2.1, G.out.2.2.2]
              exact ⟨A4, c4, by rw [List.length_set]; rfl, hRf.more (by simp), hBf⟩
          · have G := Lib.hid (GOK.out (by omega))
            clear GAP GOK
            go_wp2
            have hHf := three_set HT.out (.int .i64 (W' : Int)) (.int .i64 (H' : Int)) (.slice A4 L.length c4)
            have hBf := ((HBW.out.setCell (p := ⟨w.heap.size + 1, 0, none⟩) (Nat.le_succ _) (.int .i64 (W' : Int))).setCell (p := ⟨w.heap.size + 1, 1, none⟩) (Nat.le_succ _) (.int .i64 (H' : Int))).setCell (p := ⟨w.heap.size + 1, 2, none⟩) (Nat.le_succ _) (.slice A4 L.length c4)
            have hRf := ((HRU.out.farL (q := ⟨w.heap.size + 1, 0, none⟩) HA4.out (.int .i64 (W' : Int))).farL (q := ⟨w.heap.size + 1, 1, none⟩) HA4.out (.int .i64 (H' : Int))).farL (q := ⟨w.heap.size + 1, 2, none⟩) HA4.out (.slice A4 L.length c4)
            rw [G.out.1]
            refine bodyPost_ret (landCell2 rfl _ _ _ _ _ _ _ rfl hHf) rfl ?_
            rw [G.out.2.1, G.out.2.2.1, G.out.2.2.2]
            exact ⟨A4, c4, by rw [List.length_set]; rfl, hRf.more (by simp), hBf⟩
  · have G := Lib.hid (gv30_chk (p := p) (t := t) hk)
    have hne : (lck W H L != 0) = true := by simpa using hk
    clear h hal hsz hh2 hk
    generalize lck W H L = c at *
    go_enter Try.func23, Try.ntmps23
    go_wp2_with fail
    generalize ((w.alloc (.cells #[.int .i64 W, .int .i64 H, .slice A L.length cap] 24)).alloc (.cells #[.int .i64 0, .int .i64 0, .slice none 0 0] 24)) = w2 at *
    refine C1.mono ?_
    rintro e w3 ⟨rfl, hb⟩
    have hz := HSZ.out
    have hT := (hb.block (w.heap.size + 1) (by omega)).trans HH2.out
    obtain ⟨d0, d1, d2, e0⟩ := land0 hT
    have e1 := e0 1
    have e2 := e0 2
    replace e0 := e0 0
    have HT := Lib.hid hT
    have HBW := Lib.hid (HAL.out.trans (hb.mono HAL.out.size))
    have c0 := ((hb.cell (p := ⟨w.heap.size, 0, none⟩) (show w.heap.size < w2.heap.size by omega))).trans b0
    have c1 := ((hb.cell (p := ⟨w.heap.size, 1, none⟩) (show w.heap.size < w2.heap.size by omega))).trans b1
    have c2 := ((hb.cell (p := ⟨w.heap.size, 2, none⟩) (show w.heap.size < w2.heap.size by omega))).trans b2
    clear hT hz
    clear b0 b1 b2 hb C1
    go_wp2
    have hHf := three_set HT.out (.int .i64 0) (.int .i64 0) (.slice none 0 0)
    have hBf := ((HBW.out.setCell (p := ⟨w.heap.size + 1, 0, none⟩) (Nat.le_succ _) (.int .i64 0)).setCell (p := ⟨w.heap.size + 1, 1, none⟩) (Nat.le_succ _) (.int .i64 0)).setCell (p := ⟨w.heap.size + 1, 2, none⟩) (Nat.le_succ _) (.slice none 0 0)
    rw [G.out.1]
    exact bodyPost_ret (landCell2 rfl _ _ _ _ _ _ _ rfl hHf) rfl (noLand hBf G.out.2.1 G.out.2.2.1 G.out.2.2.2)
end Go.Proofs.Ytdkcpnmaglkmnaa
