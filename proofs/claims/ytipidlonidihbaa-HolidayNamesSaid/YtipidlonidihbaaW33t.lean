import Derived.Test.YtipidlonidihbaaW33s
/-! The walks of both Hads. -/
namespace Go.Proofs.Ytipidlonidihbaa
open Go.RowKit Go.Deep
set_option linter.unusedVariables false
set_option maxRecDepth 100000

/-- the counts so far: n of them, none great -/
structure HadOk (n k j : Nat) (O : List Int) : Prop where
  len : O.length = n
  bd : ∀ x ∈ O, 0 ≤ x ∧ x ≤ (k : Int) * 17592186044416 + j
theorem HadOk.start (n : Nat) : HadOk n 0 0 (List.replicate n 0) := ⟨by simp, fun x hx => by rw [List.eq_of_mem_replicate hx]; omega⟩
theorem HadOk.step {n k j : Nat} {O : List Int} (h : HadOk n k j O) {i : Nat} {y : Int} (hy : O[i]? = some y) : HadOk n k (j + 1) (O.set i (y + 1)) :=
  ⟨by rw [List.length_set]; exact h.len, fun x hx => by
    rcases List.mem_or_eq_of_mem_set hx with hx | rfl
    · have := h.bd x hx; omega
    · have := h.bd y (List.mem_of_getElem? hy); omega⟩
theorem HadOk.next {n k j : Nat} {O : List Int} (h : HadOk n k j O) (hj : j ≤ 17592186044416) : HadOk n (k + 1) 0 O :=
  ⟨h.len, fun x hx => by have := h.bd x hx; omega⟩
theorem HadOk.i64 {n k j : Nat} {O : List Int} (h : HadOk n k j O) (hk : k ≤ 400) (hj : j ≤ 17592186044416) : ∀ x ∈ O, I64 x := fun x hx => by
  have := h.bd x hx; unfold I64; omega
theorem getD_of' {O : List Int} {i : Nat} {y : Int} (h : O[i]? = some y) : O.getD i 0 = y := by rw [List.getD_eq_getElem?_getD, h]; rfl

set_option maxHeartbeats 1000000 in
theorem hHad {w : World} {B : Nat} {A : Option Addr} {F : List (List Int)} {cap : Nat} (h : Rd2 w B A F) (hB : B ≤ w.heap.size) (n : Int) :
    Calls Try.prog 26 #[.int .i64 n, .slice A F.length cap] w (ListRes w (hadV n F) (hadE n F)) := by
  have hlen := h.len
  by_cases hn : n < 1 ∨ 12 < n
  · obtain ⟨h1, h2⟩ := hadE_arg (F := F) hn
    rw [h1, h2]
    clear h h1 h2 hB hlen
    rcases hn with hn | hn
    all_goals
      go_enter Try.func26, Try.ntmps26
      go_wp2
      go_ret2
      exact ⟨none, 0, rfl, Rd.nil _ _ _, Below.refl _ _⟩
  · by_cases hm : 400 < F.length
    · obtain ⟨h1, h2⟩ := hadE_many hn hm
      rw [h1, h2]
      have n1 : ¬ n < 1 := by omega
      have n2 : ¬ 12 < n := by omega
      clear h h1 h2 hB hlen hn
      go_enter Try.func26, Try.ntmps26
      go_wp2
      go_ret2
      exact ⟨none, 0, rfl, Rd.nil _ _ _, Below.refl _ _⟩
    · have hbad := hadE_bad hn hm
      have hok := fun O => hadE_ok (O := O) hn hm
      have hbase : hadS n F = hadGo n.toNat (List.replicate n.toNat 0) F := rfl
      obtain ⟨nn, rfl⟩ := Int.eq_ofNat_of_zero_le (show 0 ≤ n by omega)
      rw [Int.toNat_natCast] at hbase
      have n1 : 1 ≤ nn := by omega
      have n2 : nn ≤ 12 := by omega
      have hmk := fun u => run_make_row' (P := Try.prog) 22 3 (.int .i64 0) 8 Try.underlying22 infoInt' rfl .i64 .i64 nn (by omega) (by omega) u
      have H := Lib.hid h
      have HBAD := Lib.hid hbad
      have HOK := Lib.hid hok
      have HS := Lib.hid hbase
      have d1 : decide ((nn : Int) < 1) = false := by simp; omega
      have d2 : decide (12 < (nn : Int)) = false := by simp; omega
      have d3 : decide (400 < (F.length : Int)) = false := by simp; omega
      clear hn h hbad hok hbase
      generalize hadS nn F = s at *
      generalize hadE nn F = ee at *
      generalize hadV nn F = vv at *
      go_enter Try.func26, Try.ntmps26
      go_wp2
      clear hmk
      have hown := Lib.hid (Own.made w 3 nn)
      have hin := Lib.hid (Below.alloc (B := w.heap.size) (Below.refl _ w) (Nat.le_refl _) (.cells (madeCells #[Value.int .i64 0] nn) 3))
      generalize w.alloc (.cells (madeCells #[Value.int .i64 0] nn) 3) = w2 at *
      go_loopw [25] (fun i wr => ∃ (k : Nat) (O : List Int), k ≤ F.length ∧ i = .int .i64 k ∧ Hid (Own wr w.heap.size 3 O) ∧ Hid (Below w.heap.size w wr) ∧ Hid (hadGo nn O (F.drop k) = s) ∧ Hid (HadOk nn k 0 O)) (fun i _ => F.length - (intOf i).toNat)
      case atStart => exact ⟨0, _, by omega, rfl, hown, hin, Lib.hid (by rw [HS.out]; rfl), Lib.hid (HadOk.start nn)⟩
      case round =>
        obtain ⟨k, O, hk, rfl, ho, hw, hr, hOk⟩ := hrel
        by_cases hlt : k < F.length
        · obtain ⟨b, off, row, A1, c1, rfl, hb, hx, hc, hrd⟩ := H.out.at_ hlt
          have hcw := ((bcell hw.out).1 b (off + k) (by omega)).trans hc
          have HROW := Lib.hid hrd
          have hrl := hrd.len
          have hst := hr.out
          rw [dropA_of hx] at hst
          have HST := Lib.hid hst
          clear hx hc hrd hr hst
          go_wp2
          go_loopw [9, 31] (fun l i wi => ∃ (j : Nat) (last : Int) (O' : List Int), j ≤ row.length ∧ i = .int .i64 j ∧ l = .int .i64 last ∧ -1 ≤ last ∧ last < nn ∧ Hid (Own wi w.heap.size 3 O') ∧ Hid (Below w.heap.size w wi)
            ∧ Hid (hadRow nn O' last (row.drop j) = hadRow nn O (-1) row) ∧ Hid (HadOk nn k j O') ) (fun _ i _ => row.length - (intOf i).toNat)
          case atStart => exact ⟨0, -1, O, by omega, rfl, rfl, by omega, by omega, ho, hw, Lib.hid rfl, hOk⟩
          case round =>
            obtain ⟨j, last, O', hj, rfl, rfl, hl0, hl1, ho', hw', hr', hOk'⟩ := hrel
            skip
            by_cases hjl : j < row.length
            · obtain ⟨b2, off2, x, rfl, hb2, hx, hi, hcx⟩ := (HROW.out.below hw'.out hB).at_ hjl
              have HX := Lib.hid hx
              have HI := Lib.hid hi
              clear hx hi
              have BADEND : Hid (hadRow nn O' last (row.drop j) = none → ee = 8 ∧ vv = []) := Lib.hid (fun hno => HBAD.out (by rw [← HST.out]; exact hadGo_no (hr'.out.symm.trans hno)))
              by_cases h1 : x ≤ last
              · have hno := BADEND.out (by rw [drop_of HX.out]; exact hadRow_no (.inl h1))
                have E1 := Lib.hid hno.1
                have E2 := Lib.hid hno.2
                clear hno
                go_wp2
                go_ret2
                rw [E1.out, E2.out]
                exact ⟨none, 0, rfl, Rd.nil _ _ _, hw'.out⟩
              · by_cases h2 : (nn : Int) ≤ x
                · have hno := BADEND.out (by rw [drop_of HX.out]; exact hadRow_no (.inr h2))
                  have E1 := Lib.hid hno.1
                  have E2 := Lib.hid hno.2
                  clear hno
                  go_wp2
                  go_ret2
                  rw [E1.out, E2.out]
                  exact ⟨none, 0, rfl, Rd.nil _ _ _, hw'.out⟩
                · obtain ⟨i, rfl⟩ := Int.eq_ofNat_of_zero_le (show 0 ≤ x by omega)
                  have hil : i < nn := by omega
                  obtain ⟨y, hy⟩ : ∃ y, O'[i]? = some y := ⟨O'[i]'(by rw [hOk'.out.len]; exact hil), by simp⟩
                  have hyb := hOk'.out.bd y (List.mem_of_getElem? hy)
                  have hy0 := hyb.1
                  have hy1 : y ≤ 7036874417766400 + 17592186044416 := by omega
                  have HN := Lib.hid (show hadRow nn (O'.set i (y + 1)) (i : Int) (row.drop (j + 1)) = hadRow nn O (-1) row by
                    rw [← hr'.out, drop_of HX.out, hadRow_yes (by omega), Int.toNat_natCast, getD_of' hy])
                  have HO2 := Lib.hid (ho'.out.store i (y + 1))
                  have HOK2 := Lib.hid (hOk'.out.step hy)
                  have cy := ho'.out.cell hy
                  have fy := ho'.out.frozen i
                  have HB2 := Lib.hid (hw'.out.setCell (p := ⟨w.heap.size, i, none⟩) (Nat.le_refl _) (.int .i64 (y + 1)))
                  clear hr' hy hyb BADEND
                  go_wp2
                  go_roundw
                  case rel => exact ⟨j + 1, (i : Int), _, by omega, by go_num, rfl, by omega, by omega, HO2, HB2, HN, HOK2⟩
                  case measure => simp [intOf]; omega
            · have hje : row.length ≤ j := by omega
              have hrow : Hid (hadRow nn O (-1) row = some O') := Lib.hid (by rw [← hr'.out, drop_end hje]; rfl)
              have HST2 : Hid (hadGo nn O' (F.drop (k + 1)) = s) := Lib.hid (by rw [← HST.out]; exact (hadGo_yes hrow.out).symm)
              have HOK2 := Lib.hid (hOk'.out.next (by omega))
              clear hrow hr'
              go_wp2
              go_roundw
              case rel => exact ⟨k + 1, O', by omega, by go_num, ho', hw', HST2, HOK2⟩
              case measure => simp [intOf]; omega
        · have hge : F.length ≤ k := by omega
          have hs : s = some O := by rw [← hr.out, drop_end hge]; rfl
          obtain ⟨e1, e2⟩ := HOK.out O hs
          have E1 := Lib.hid e1
          have E2 := Lib.hid e2
          clear hs e1 e2
          go_wp2
          go_ret2
          rw [E1.out, E2.out]
          refine ⟨some ⟨w.heap.size, 0, none⟩, nn, by rw [hOk.out.len]; rfl, ?_, hw.out⟩
          exact ho.out.rd (hOk.out.i64 (by omega) (by omega)) (by rw [hOk.out.len]; omega) ho.out.lt

set_option maxHeartbeats 1000000 in
theorem hrHad {w : World} {B : Nat} {A : Option Addr} {F : List (List Int)} {cap : Nat} (h : Rd2 w B A F) (hB : B ≤ w.heap.size) (n : Int) :
    Calls Try.prog 27 #[.int .i64 n, .slice A F.length cap] w (ListRes w (hadV n F) (hadE n F)) := by
  have hlen := h.len
  by_cases hn : n < 1 ∨ 12 < n
  · obtain ⟨h1, h2⟩ := hadE_arg (F := F) hn
    rw [h1, h2]
    clear h h1 h2 hB hlen
    rcases hn with hn | hn
    all_goals
      go_enter Try.func27, Try.ntmps27
      go_wp2
      go_ret2
      exact ⟨none, 0, rfl, Rd.nil _ _ _, Below.refl _ _⟩
  · by_cases hm : 400 < F.length
    · obtain ⟨h1, h2⟩ := hadE_many hn hm
      rw [h1, h2]
      have n1 : ¬ n < 1 := by omega
      have n2 : ¬ 12 < n := by omega
      clear h h1 h2 hB hlen hn
      go_enter Try.func27, Try.ntmps27
      go_wp2
      go_ret2
      exact ⟨none, 0, rfl, Rd.nil _ _ _, Below.refl _ _⟩
    · have hbad := hadE_bad hn hm
      have hok := fun O => hadE_ok (O := O) hn hm
      have hbase : hadS n F = hadGo n.toNat (List.replicate n.toNat 0) F := rfl
      obtain ⟨nn, rfl⟩ := Int.eq_ofNat_of_zero_le (show 0 ≤ n by omega)
      rw [Int.toNat_natCast] at hbase
      have n1 : 1 ≤ nn := by omega
      have n2 : nn ≤ 12 := by omega
      have hmk := fun u => run_make_row' (P := Try.prog) 22 3 (.int .i64 0) 8 Try.underlying22 infoInt' rfl .i64 .i64 nn (by omega) (by omega) u
      have H := Lib.hid h
      have HBAD := Lib.hid hbad
      have HOK := Lib.hid hok
      have HS := Lib.hid hbase
      have d1 : decide ((nn : Int) < 1) = false := by simp; omega
      have d2 : decide (12 < (nn : Int)) = false := by simp; omega
      have d3 : decide (400 < (F.length : Int)) = false := by simp; omega
      clear hn h hbad hok hbase
      generalize hadS nn F = s at *
      generalize hadE nn F = ee at *
      generalize hadV nn F = vv at *
      go_enter Try.func27, Try.ntmps27
      go_wp2
      clear hmk
      have hown := Lib.hid (Own.made w 3 nn)
      have hin := Lib.hid (Below.alloc (B := w.heap.size) (Below.refl _ w) (Nat.le_refl _) (.cells (madeCells #[Value.int .i64 0] nn) 3))
      generalize w.alloc (.cells (madeCells #[Value.int .i64 0] nn) 3) = w2 at *
      go_loopw [7] (fun i wr => ∃ (k : Nat) (O : List Int), k ≤ F.length ∧ i = .int .i64 k ∧ Hid (Own wr w.heap.size 3 O) ∧ Hid (Below w.heap.size w wr) ∧ Hid (hadGo nn O (F.drop k) = s) ∧ Hid (HadOk nn k 0 O)) (fun i _ => F.length - (intOf i).toNat)
      case atStart => exact ⟨0, _, by omega, rfl, hown, hin, Lib.hid (by rw [HS.out]; rfl), Lib.hid (HadOk.start nn)⟩
      case round =>
        obtain ⟨k, O, hk, rfl, ho, hw, hr, hOk⟩ := hrel
        by_cases hlt : k < F.length
        · obtain ⟨b, off, row, A1, c1, rfl, hb, hx, hc, hrd⟩ := H.out.at_ hlt
          have hcw := ((bcell hw.out).1 b (off + k) (by omega)).trans hc
          have HROW := Lib.hid hrd
          have HC := Lib.hid hc
          have hrl := hrd.len
          have hst := hr.out
          rw [dropA_of hx] at hst
          have HST := Lib.hid hst
          clear hx hc hrd hr hst
          go_wp2
          go_loopw [8] (fun i wi => ∃ (j : Nat) (last : Int) (O' : List Int), j ≤ row.length ∧ i = .int .i64 j ∧ -1 ≤ last ∧ last < nn ∧ Hid (Own wi w.heap.size 3 O') ∧ Hid (Below w.heap.size w wi)
            ∧ Hid (hadRow nn O' last (row.drop j) = hadRow nn O (-1) row) ∧ Hid (HadOk nn k j O') ∧ Hid ((j = 0 → last = -1) ∧ (∀ j', j = j' + 1 → row[j']? = some last))) (fun i _ => row.length - (intOf i).toNat)
          case atStart => exact ⟨0, -1, O, by omega, rfl, by omega, by omega, ho, hw, Lib.hid rfl, hOk, Lib.hid ⟨fun _ => rfl, fun j' hj => by omega⟩⟩
          case round =>
            obtain ⟨j, last, O', hj, rfl, hl0, hl1, ho', hw', hr', hOk', hla⟩ := hrel
            have hcw := ((bcell hw'.out).1 b (off + k) (by omega)).trans HC.out
            by_cases hjl : j < row.length
            · obtain ⟨b2, off2, x, rfl, hb2, hx, hi, hcx⟩ := (HROW.out.below hw'.out hB).at_ hjl
              have HX := Lib.hid hx
              have HI := Lib.hid hi
              clear hx hi
              have BADEND : Hid (hadRow nn O' last (row.drop j) = none → ee = 8 ∧ vv = []) := Lib.hid (fun hno => HBAD.out (by rw [← HST.out]; exact hadGo_no (hr'.out.symm.trans hno)))
              by_cases h1 : x < 0
              · have hno := BADEND.out (by rw [drop_of HX.out]; exact hadRow_no (.inl (by omega)))
                have E1 := Lib.hid hno.1
                have E2 := Lib.hid hno.2
                clear hno
                go_wp2
                go_ret2
                rw [E1.out, E2.out]
                exact ⟨none, 0, rfl, Rd.nil _ _ _, hw'.out⟩
              · by_cases h2 : (nn : Int) ≤ x
                · have hno := BADEND.out (by rw [drop_of HX.out]; exact hadRow_no (.inr h2))
                  have E1 := Lib.hid hno.1
                  have E2 := Lib.hid hno.2
                  clear hno
                  go_wp2
                  go_ret2
                  rw [E1.out, E2.out]
                  exact ⟨none, 0, rfl, Rd.nil _ _ _, hw'.out⟩
                · by_cases h0 : j = 0
                  · have hl := hla.out.1 h0
                    have h0i : ¬ (0 < (j : Int)) := by omega
                    have h0d : decide (0 < j) = false := by simp; omega
                    have hlast : last < x := by omega
                    clear hl h0
                    obtain ⟨i, rfl⟩ := Int.eq_ofNat_of_zero_le (show 0 ≤ x by omega)
                    have hil : i < nn := by omega
                    obtain ⟨y, hy⟩ : ∃ y, O'[i]? = some y := ⟨O'[i]'(by rw [hOk'.out.len]; exact hil), by simp⟩
                    have hyb := hOk'.out.bd y (List.mem_of_getElem? hy)
                    have hy0 := hyb.1
                    have hy1 : y ≤ 7036874417766400 + 17592186044416 := by omega
                    have HN := Lib.hid (show hadRow nn (O'.set i (y + 1)) (i : Int) (row.drop (j + 1)) = hadRow nn O (-1) row by
                      rw [← hr'.out, drop_of HX.out, hadRow_yes (by omega), Int.toNat_natCast, getD_of' hy])
                    have HO2 := Lib.hid (ho'.out.store i (y + 1))
                    have HOK2 := Lib.hid (hOk'.out.step hy)
                    have cy := ho'.out.cell hy
                    have fy := ho'.out.frozen i
                    have HB2 := Lib.hid (hw'.out.setCell (p := ⟨w.heap.size, i, none⟩) (Nat.le_refl _) (.int .i64 (y + 1)))
                    clear hr' hy hyb BADEND
                    go_wp2
                    go_roundw
                    case rel => exact ⟨j + 1, (i : Int), _, by omega, by go_num, by omega, by omega, HO2, HB2, HN, HOK2, Lib.hid ⟨fun h => by omega, fun jj hjj => by rw [show jj = j by omega]; exact HX.out⟩⟩
                    case measure => simp [intOf]; omega
                  · obtain ⟨j', rfl⟩ : ∃ j', j = j' + 1 := ⟨j - 1, by omega⟩
                    have hl := hla.out.2 j' rfl
                    obtain ⟨b3, off3, e3, _, hcell3⟩ := (HROW.out.below hw'.out hB).2.2 (by omega)
                    cases e3
                    have hcl := hcell3 j' last hl
                    clear hl hcell3
                    by_cases h3 : x ≤ last
                    · have hno := BADEND.out (by rw [drop_of HX.out]; exact hadRow_no (.inl h3))
                      have E1 := Lib.hid hno.1
                      have E2 := Lib.hid hno.2
                      clear hno
                      go_wp2
                      go_ret2
                      rw [E1.out, E2.out]
                      exact ⟨none, 0, rfl, Rd.nil _ _ _, hw'.out⟩
                    · obtain ⟨i, rfl⟩ := Int.eq_ofNat_of_zero_le (show 0 ≤ x by omega)
                      have hil : i < nn := by omega
                      obtain ⟨y, hy⟩ : ∃ y, O'[i]? = some y := ⟨O'[i]'(by rw [hOk'.out.len]; exact hil), by simp⟩
                      have hyb := hOk'.out.bd y (List.mem_of_getElem? hy)
                      have hy0 := hyb.1
                      have hy1 : y ≤ 7036874417766400 + 17592186044416 := by omega
                      have HN := Lib.hid (show hadRow nn (O'.set i (y + 1)) (i : Int) (row.drop (j' + 1 + 1)) = hadRow nn O (-1) row by
                        rw [← hr'.out, drop_of HX.out, hadRow_yes (by omega), Int.toNat_natCast, getD_of' hy])
                      have HO2 := Lib.hid (ho'.out.store i (y + 1))
                      have HOK2 := Lib.hid (hOk'.out.step hy)
                      have cy := ho'.out.cell hy
                      have fy := ho'.out.frozen i
                      have HB2 := Lib.hid (hw'.out.setCell (p := ⟨w.heap.size, i, none⟩) (Nat.le_refl _) (.int .i64 (y + 1)))
                      clear hr' hy hyb BADEND
                      go_wp2
                      go_roundw
                      case rel => exact ⟨j' + 1 + 1, (i : Int), _, by omega, by go_num, by omega, by omega, HO2, HB2, HN, HOK2, Lib.hid ⟨fun h => by omega, fun jj hjj => by rw [show jj = j' + 1 by omega]; exact HX.out⟩⟩
                      case measure => simp [intOf]; omega
            · have hje : row.length ≤ j := by omega
              have hrow : Hid (hadRow nn O (-1) row = some O') := Lib.hid (by rw [← hr'.out, drop_end hje]; rfl)
              have HST2 : Hid (hadGo nn O' (F.drop (k + 1)) = s) := Lib.hid (by rw [← HST.out]; exact (hadGo_yes hrow.out).symm)
              have HOK2 := Lib.hid (hOk'.out.next (by omega))
              clear hrow hr'
              go_wp2
              go_roundw
              case rel => exact ⟨k + 1, O', by omega, by go_num, ho', hw', HST2, HOK2⟩
              case measure => simp [intOf]; omega
        · have hge : F.length ≤ k := by omega
          have hs : s = some O := by rw [← hr.out, drop_end hge]; rfl
          obtain ⟨e1, e2⟩ := HOK.out O hs
          have E1 := Lib.hid e1
          have E2 := Lib.hid e2
          clear hs e1 e2
          go_wp2
          go_ret2
          rw [E1.out, E2.out]
          refine ⟨some ⟨w.heap.size, 0, none⟩, nn, by rw [hOk.out.len]; rfl, ?_, hw.out⟩
          exact ho.out.rd (hOk.out.i64 (by omega) (by omega)) (by rw [hOk.out.len]; omega) ho.out.lt
end Go.Proofs.Ytipidlonidihbaa
