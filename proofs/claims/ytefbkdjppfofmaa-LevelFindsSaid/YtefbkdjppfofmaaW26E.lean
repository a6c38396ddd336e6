import Derived.Test.YtefbkdjppfofmaaW26B
import Derived.Test.YtefbkdjppfofmaaW26e
import Derived.Test.YtefbkdjppfofmaaW26f
/-! Walks of chapter 26: the reference's More, Great. -/
namespace Go.Proofs.Ytefbkdjppfofmaa
open Go.RowKit Go.Deep
set_option linter.unusedVariables false
set_option maxRecDepth 100000

/-- a negative number among the first k of either list -/
def negTo (L M : List Int) (k : Nat) : Prop := ∃ j, j < k ∧ (L.getD j 0 < 0 ∨ M.getD j 0 < 0)
theorem neg_any {L M : List Int} (hl : L.length = M.length) : negTo L M L.length ↔ ((L.any fun x => decide (x < 0)) = true ∨ (M.any fun x => decide (x < 0)) = true) := by
  rw [List.any_eq_true, List.any_eq_true]
  constructor
  · rintro ⟨j, hj, h | h⟩
    · left
      refine ⟨L[j], List.getElem_mem hj, ?_⟩
      rw [List.getD_eq_getElem?_getD, List.getElem?_eq_getElem hj] at h
      exact decide_eq_true h
    · right
      have hj2 : j < M.length := by omega
      refine ⟨M[j], List.getElem_mem hj2, ?_⟩
      rw [List.getD_eq_getElem?_getD, List.getElem?_eq_getElem hj2] at h
      exact decide_eq_true h
  · rintro (⟨x, hx, h⟩ | ⟨x, hx, h⟩)
    · obtain ⟨j, hj, rfl⟩ := List.mem_iff_getElem.1 hx
      exact ⟨j, hj, .inl (by rw [List.getD_eq_getElem?_getD, List.getElem?_eq_getElem hj]; exact of_decide_eq_true h)⟩
    · obtain ⟨j, hj, rfl⟩ := List.mem_iff_getElem.1 hx
      exact ⟨j, by omega, .inr (by rw [List.getD_eq_getElem?_getD, List.getElem?_eq_getElem hj]; exact of_decide_eq_true h)⟩
set_option maxHeartbeats 2000000 in
theorem lrMore {w : World} {B C : Nat} {A A' : Option Addr} {L M : List Int} {cap cap' : Nat} (h : Rd w B A L) (h' : Rd w C A' M) (hB : B ≤ w.heap.size) (hC : C ≤ w.heap.size) :
    Calls Try.prog 25 #[.slice A L.length cap, .slice A' M.length cap'] w fun e w' => e = .returned (.tuple #[.int .i64 (moreV L M), .int .i64 (moreE L M)]) ∧ Below w.heap.size w w' := by
  have l1 := h.len
  have l2 := h'.len
  by_cases hm : 6 < max L.length M.length
  · have HE : Hid (moreE L M = 4) := Lib.hid (by rw [moreE, if_pos hm])
    have HV : Hid (moreV L M = 0) := Lib.hid (by rw [moreV, HE.out, if_neg (by decide)])
    by_cases h1 : 6 < L.length
    · have q1 : decide ((6 : Int) < (L.length : Int)) = true := decide_eq_true (by omega)
      clear h h' hm h1
      go_enter Try.func25, Try.ntmps25
      go_wp2
      go_ret2
      rw [HV.out, HE.out]
      exact ⟨rfl, Below.refl _ _⟩
    · have q1 : decide ((6 : Int) < (L.length : Int)) = false := decide_eq_false (by omega)
      have q2 : decide ((6 : Int) < (M.length : Int)) = true := decide_eq_true (by omega)
      clear h h' hm h1
      go_enter Try.func25, Try.ntmps25
      go_wp2
      go_ret2
      rw [HV.out, HE.out]
      exact ⟨rfl, Below.refl _ _⟩
  · have q1 : decide ((6 : Int) < (L.length : Int)) = false := decide_eq_false (by omega)
    have q2 : decide ((6 : Int) < (M.length : Int)) = false := decide_eq_false (by omega)
    have hl6 : L.length ≤ 6 := by omega
    by_cases hne : L.length = M.length
    · have q3 : ((L.length : Int) != (M.length : Int)) = false := by rw [hne]; simp
      have HNE := Lib.hid hne
      have HM := Lib.hid hm
      have H := Lib.hid h
      have H' := Lib.hid h'
      clear h h' hm hne
      go_enter Try.func25, Try.ntmps25
      go_wp2_with fail
      clear q3
      go_loop [6] (fun iv => ∃ (k : Nat), k ≤ L.length ∧ iv = .int .i64 k ∧ Hid (¬ negTo L M k)) (fun iv => L.length - (intOf iv).toNat)
      case atStart => exact ⟨0, by omega, rfl, Lib.hid (by rintro ⟨j, hj, _⟩; omega)⟩
      case round =>
        obtain ⟨k, hk, rfl, hr⟩ := hrel
        by_cases hlt : k < L.length
        · obtain ⟨b, off, x, rfl, hb1, hx, _, hc⟩ := H.out.at_ hlt
          have hltM : k < M.length := by have := HNE.out; omega
          obtain ⟨b', off', y, rfl, hb2, hy, _, hc'⟩ := H'.out.at_ hltM
          have gx : L.getD k 0 = x := by rw [List.getD_eq_getElem?_getD, hx]; rfl
          have gy : M.getD k 0 = y := by rw [List.getD_eq_getElem?_getD, hy]; rfl
          have HBAD : Hid (x < 0 ∨ y < 0 → moreE L M = 8 ∧ moreV L M = 0) := Lib.hid fun h => by
            have e : moreE L M = 8 := by
              rw [moreE, if_neg HM.out, if_pos]
              exact .inr ((neg_any HNE.out).1 ⟨k, hlt, by rw [gx, gy]; exact h⟩)
            exact ⟨e, by rw [moreV, e, if_neg (by decide)]⟩
          have HNX : Hid (¬ (x < 0 ∨ y < 0) → ¬ negTo L M (k + 1)) := Lib.hid fun h => by
            rintro ⟨j, hj, h2⟩
            rcases Nat.lt_or_ge j k with h3 | h3
            · exact hr.out ⟨j, h3, h2⟩
            · have : j = k := by omega
              rw [this, gx, gy] at h2
              exact h h2
          clear gx gy hx hy hb1 hb2 hr
          by_cases hx0 : x < 0
          · have q3 : decide (x < 0) = true := decide_eq_true hx0
            have HE := Lib.hid (HBAD.out (.inl hx0)).1
            have HV := Lib.hid (HBAD.out (.inl hx0)).2
            go_wp2
            go_ret2
            rw [HV.out, HE.out]
            exact ⟨rfl, Below.refl _ _⟩
          · have q3 : decide (x < 0) = false := decide_eq_false hx0
            by_cases hy0 : y < 0
            · have q4 : decide (y < 0) = true := decide_eq_true hy0
              have HE := Lib.hid (HBAD.out (.inr hy0)).1
              have HV := Lib.hid (HBAD.out (.inr hy0)).2
              go_wp2
              go_ret2
              rw [HV.out, HE.out]
              exact ⟨rfl, Below.refl _ _⟩
            · have q4 : decide (y < 0) = false := decide_eq_false hy0
              have HN := Lib.hid (HNX.out (by rintro (h | h); exact hx0 h; exact hy0 h))
              go_wp2
              go_round
              case rel => exact ⟨k + 1, by omega, by go_num, HN⟩
              case measure => simp [intOf]; omega
        · obtain rfl : k = L.length := by omega
          have HE : Hid (moreE L M = 0) := Lib.hid (by
            rw [moreE, if_neg HM.out, if_neg]
            rintro (h | h)
            · exact h HNE.out
            · exact hr.out ((neg_any HNE.out).2 h))
          have HV : Hid (moreV L M = cmpS L M) := Lib.hid (by rw [moreV, HE.out, if_pos rfl])
          have cc := lrCompared (cap := cap) (cap' := cap') (n := L.length) H.out H'.out hB hC rfl HNE.out.symm (by omega)
          rw [show (L.length : Nat) = L.length from rfl] at cc
          have CC : Hid (Calls Try.prog 21 #[.slice A L.length cap, .slice A' M.length cap'] w fun e w' => e = .returned (.int .i64 (cmpS L M)) ∧ Below w.heap.size w w') := Lib.hid (by
            have h2 : Value.slice A' M.length cap' = .slice A' L.length cap' := by rw [HNE.out]
            rw [h2]; exact cc)
          clear cc hr
          go_wp2_with fail
          refine CC.out.mono ?_
          rintro e w1 ⟨rfl, hb⟩
          have HB := Lib.hid hb
          clear hb CC
          go_wp2
          go_ret2
          rw [HV.out, HE.out]
          exact ⟨rfl, HB.out⟩
    · have q3 : ((L.length : Int) != (M.length : Int)) = true := by simp; omega
      have HE : Hid (moreE L M = 8) := Lib.hid (by rw [moreE, if_neg hm, if_pos (.inl hne)])
      have HV : Hid (moreV L M = 0) := Lib.hid (by rw [moreV, HE.out, if_neg (by decide)])
      clear h h' hm hne
      go_enter Try.func25, Try.ntmps25
      go_wp2
      go_ret2
      rw [HV.out, HE.out]
      exact ⟨rfl, Below.refl _ _⟩
/-- some answer -/
def AnyRes (w : World) (e : Ending) (w' : World) : Prop := ∃ b : Bool, e = .returned (.bool b) ∧ Below w.heap.size w w'
set_option maxHeartbeats 2000000 in
theorem lrGreat {w : World} {B : Nat} {A : Option Addr} {W : List (List Bool)} {cap : Nat} (h : RdB2 w B A W) (hB : B ≤ w.heap.size) :
    Calls Try.prog 22 #[.slice A W.length cap] w (AnyRes w) := by
  have hwl := h.len
  have C1 := lrCheck26 (cap := cap) h hB
  have H := Lib.hid h
  have HC1 := Lib.hid C1
  clear h C1
  by_cases hm : 30 < W.length
  · have q1 : decide ((30 : Int) < (W.length : Int)) = true := decide_eq_true (by omega)
    go_enter Try.func22, Try.ntmps22
    go_wp2
    go_ret
    exact ⟨true, rfl, Below.refl _ _⟩
  · have q1 : decide ((30 : Int) < (W.length : Int)) = false := decide_eq_false (by omega)
    go_enter Try.func22, Try.ntmps22
    go_wp2_with fail
    go_loop [3] (fun iv => ∃ (k : Nat), k ≤ W.length ∧ iv = .int .i64 k) (fun iv => W.length - (intOf iv).toNat)
    case atStart => exact ⟨0, by omega, rfl⟩
    case round =>
      obtain ⟨k, hk, rfl⟩ := hrel
      by_cases hlt : k < W.length
      · obtain ⟨b, off, row, A2, c2, rfl, hb, hrow, hc, hrd⟩ := H.out.at_ hlt
        have hrl := hrd.len
        clear hrow hrd hb
        by_cases h30 : 30 < row.length
        · have q2 : decide ((30 : Int) < (row.length : Int)) = true := decide_eq_true (by omega)
          go_wp2
          go_ret
          exact ⟨true, rfl, Below.refl _ _⟩
        · have q2 : decide ((30 : Int) < (row.length : Int)) = false := decide_eq_false (by omega)
          go_wp2
          go_round
          case rel => exact ⟨k + 1, by omega, by go_num⟩
          case measure => simp [intOf]; omega
      · by_cases hk0 : chk26 W = 0
        · obtain ⟨m, n, v⟩ := chk26_zero hk0
          rw [hk0] at HC1
          have hmm := v.len
          subst hmm
          have m6 := v.m6
          have m0 := v.m0
          have n10 := v.n10
          have HV := Lib.hid v
          clear hk0 v
          go_wp2_with fail
          refine HC1.out.mono ?_
          rintro e w1 ⟨rfl, hb1⟩
          have HB1 := Lib.hid hb1
          have H1 := Lib.hid (H.out.below hb1 hB)
          clear hb1 HC1
          obtain ⟨b0, o0, row, A2, c2, eA, hb0, hrow, hc0, hrd⟩ := H1.out.at_ m0
          have hrl : row.length = n := HV.out.row row (List.mem_of_getElem? hrow)
          rw [hrl, Nat.add_zero] at hc0
          subst eA
          clear hrow hrd hrl hb0
          go_wp2_with fail
          go_loop [4, 5] (fun wv gv => ∃ (g : Nat) (ways : Int), g ≤ n ∧ gv = .int .i64 g ∧ wv = .int .i64 ways ∧ 0 ≤ ways ∧ ways ≤ 20000) (fun _ gv => n - (intOf gv).toNat)
          case atStart => exact ⟨0, 1, by omega, rfl, rfl, by omega, by omega⟩
          case round =>
            obtain ⟨g, ways, hg, rfl, rfl, hw0, hw1⟩ := hrel
            by_cases hgn : g < n
            · go_wp2_with fail
              go_loop [6, 7] (fun nv iv => ∃ (i : Nat) (c : Int), i ≤ W.length ∧ iv = .int .i64 i ∧ nv = .int .i64 c ∧ 0 ≤ c ∧ c ≤ i) (fun _ iv => W.length - (intOf iv).toNat)
              case atStart => exact ⟨0, 0, by omega, rfl, rfl, by omega, by omega⟩
              case round =>
                obtain ⟨i, c, hi, rfl, rfl, hc1, hc2⟩ := hrel
                by_cases hit : i < W.length
                · obtain ⟨b, off, A3, c3, b3, o3, row3, eW, rfl, g1, g2, _, _⟩ := wish_cell H1.out HV.out hit hgn
                  cases eW
                  cases hw : wishB W i g
                  · rw [hw] at g2
                    clear hw
                    go_wp2
                    go_round
                    case rel => exact ⟨i + 1, c, by omega, by go_num, rfl, by omega, by omega⟩
                    case measure => simp [intOf]; omega
                  · rw [hw] at g2
                    clear hw
                    go_wp2
                    go_round
                    case rel => exact ⟨i + 1, c + 1, by omega, by go_num, by go_num, by omega, by omega⟩
                    case measure => simp [intOf]; omega
                · obtain rfl : i = W.length := by omega
                  obtain ⟨M, hM, hM1, hM2⟩ : ∃ M : Int, max 1 c = M ∧ 1 ≤ M ∧ M ≤ 6 := ⟨max 1 c, rfl, by omega, by omega⟩
                  have hpr : 0 ≤ ways * M ∧ ways * M ≤ 120000 := by
                    refine ⟨Int.mul_nonneg hw0 (by omega), ?_⟩
                    calc ways * M ≤ 20000 * M := Int.mul_le_mul_of_nonneg_right hw1 (by omega)
                      _ ≤ 120000 := by omega
                  have hwr : IntKind.i64.wrap (ways * M) = ways * M := IntWalk.i64_in _ (by omega)
                  have HPR := Lib.hid hpr
                  by_cases hbig : 20000 < ways * M
                  · have q2 : decide ((20000 : Int) < ways * M) = true := decide_eq_true hbig
                    clear hpr hbig
                    go_wp2
                    go_ret
                    exact ⟨true, rfl, HB1.out⟩
                  · have q2 : decide ((20000 : Int) < ways * M) = false := decide_eq_false hbig
                    have HBG := Lib.hid hbig
                    clear hpr hbig
                    go_wp2
                    go_round
                    case rel => exact ⟨g + 1, ways * M, by omega, by go_num, rfl, HPR.out.1, by have := HBG.out; omega⟩
                    case measure => simp [intOf]; omega
            · go_wp2
              go_ret
              exact ⟨false, rfl, HB1.out⟩
        · have hne : (chk26 W != 0) = true := by simpa using hk0
          clear hk0
          generalize chk26 W = c at *
          go_wp2_with fail
          refine HC1.out.mono ?_
          rintro e w1 ⟨rfl, hb1⟩
          have HB1 := Lib.hid hb1
          clear hb1 HC1
          go_wp2
          go_ret
          exact ⟨false, rfl, HB1.out⟩
end Go.Proofs.Ytefbkdjppfofmaa
