import Derived.Test.YtkoipecnmijfoaaW31a
/-! Walks: the reference's Check of strips; sort.Search. -/
namespace Go.Proofs.Ytkoipecnmijfoaa
open Go.RowKit Go.Deep
set_option linter.unusedVariables false
set_option maxRecDepth 100000

theorem any_at {V : List (List Int)} {p : List Int → Bool} {k : Nat} {x : List Int} (h : V[k]? = some x) (hp : p x = true) : V.any p = true := List.any_eq_true.2 ⟨x, List.mem_of_getElem? h, hp⟩
theorem any_no {α : Type} {V : List α} {p : α → Bool} (h : ∀ (k : Nat) (x : α), V[k]? = some x → p x = false) : V.any p = false := by
  rw [List.any_eq_false]
  intro x hx hp
  obtain ⟨k, hk⟩ := List.getElem?_of_mem hx
  rw [h k x hk] at hp; cases hp
set_option maxHeartbeats 4000000 in
theorem rChk31 {w : World} {C : Nat} {A : Option Addr} {V : List (List Int)} {cap : Nat} (h : Rd2 w C A V) (hC : C ≤ w.heap.size) :
    Calls Try.prog 5 #[.slice A V.length cap] w fun e w' => e = .returned (.int .i64 (chk31 V)) ∧ Below w.heap.size w w' := by
  have l2 := h.len
  have H := Lib.hid fun (u : World) (hu : Below w.heap.size w u) => h.below hu hC
  clear h
  by_cases h6 : 6 < V.length
  · have f1 : decide (6 < (V.length : Int)) = true := decide_eq_true (by omega)
    have HT : Hid (chk31 V = 4) := Lib.hid (by rw [chk31, if_pos (.inl h6)])
    go_enter Try.func5, Try.ntmps5
    go_wp2
    go_ret
    exact ⟨ret_int HT.out.symm, Below.refl _ _⟩
  have f1 : decide (6 < (V.length : Int)) = false := decide_eq_false (by omega)
  have HT4 : Hid (V.any (fun l => decide (16 < l.length)) = true → chk31 V = 4) := Lib.hid fun ha => by rw [chk31, if_pos (.inr ha)]
  have HT8 : Hid (V.any (fun l => decide (16 < l.length)) = false → (V.length = 0 ∨ V.any (badRow (V.getD 0 []).length) = true) → chk31 V = 8) := Lib.hid fun ha hb => by
    rw [chk31, if_neg (by rw [ha]; simp; omega), if_pos hb]
  have HT0 : Hid (V.any (fun l => decide (16 < l.length)) = false → ¬ V.length = 0 → V.any (badRow (V.getD 0 []).length) = false → chk31 V = 0) := Lib.hid fun ha h0 hb => by
    rw [chk31, if_neg (by rw [ha]; simp; omega), if_neg (by rw [hb]; simp; exact fun e => h0 (by rw [e]; rfl))]
  generalize chk31 V = cv at *
  go_enter Try.func5, Try.ntmps5
  go_wp2
  go_loop [3] (fun iv => ∃ k : Nat, k ≤ V.length ∧ iv = .int .i64 k ∧ Hid (∀ j x, j < k → V[j]? = some x → ¬ 16 < x.length)) (fun iv => V.length - (intOf iv).toNat)
  case atStart => exact ⟨0, by omega, rfl, Lib.hid (fun j x hj => by omega)⟩
  case round =>
    obtain ⟨k, hk, rfl, hno⟩ := hrel
    by_cases hlt : k < V.length
    · obtain ⟨b1, o1, x, A1, c1, rfl, hb1, hx, hcx, hrx⟩ := (H.out _ (Below.refl _ _)).at_ hlt
      have HX := Lib.hid hx
      clear hx hrx
      by_cases h16 : 16 < x.length
      · have d1 : decide (16 < (x.length : Int)) = true := decide_eq_true (by omega)
        have HE : Hid (cv = 4) := Lib.hid (HT4.out (any_at HX.out (decide_eq_true h16)))
        go_wp2
        go_ret
        exact ⟨ret_int HE.out.symm, Below.refl _ _⟩
      · have d1 : decide (16 < (x.length : Int)) = false := decide_eq_false (by omega)
        have HN : Hid (∀ j x, j < k + 1 → V[j]? = some x → ¬ 16 < x.length) := Lib.hid fun j y hj hy => by
          by_cases hjk : j = k
          · rw [hjk, HX.out] at hy
            cases hy; exact h16
          · exact hno.out j y (by omega) hy
        clear hno
        go_wp2
        go_round
        case rel => exact ⟨k + 1, by omega, by go_num, HN⟩
        case measure => simp [intOf]; omega
    · have HA : Hid (V.any (fun l => decide (16 < l.length)) = false) := Lib.hid (any_no fun j x hx => decide_eq_false (hno.out j x (by have := (List.getElem?_eq_some_iff.1 hx).1; omega) hx))
      clear hno HT4
      by_cases h0 : V.length = 0
      · have f3 : ((V.length : Int) == 0) = true := by rw [h0]; rfl
        have HE : Hid (cv = 8) := Lib.hid (HT8.out HA.out (.inl h0))
        clear h0
        go_wp2
        go_ret
        exact ⟨ret_int HE.out.symm, Below.refl _ _⟩
      have f3 : ((V.length : Int) == 0) = false := by rw [beq_eq_false_iff_ne]; omega
      obtain ⟨b0, o0, x0, A0, c0, eA, hb0, hx0, _, hr0⟩ := (H.out _ (Below.refl _ _)).at_ (k := 0) (by omega)
      have hv0 : V.getD 0 [] = x0 := by rw [List.getD_eq_getElem?_getD, hx0]; rfl
      have l0 := hr0.len
      rw [hv0] at HT8 HT0
      have HX0 := Lib.hid hx0
      have hn0 : 0 < V.length := by omega
      clear hv0 hx0 hr0
      subst eA
      go_wp2
      go_loopw [4] (fun iv wr => ∃ k : Nat, k ≤ V.length ∧ iv = .int .i64 k ∧ Hid (∀ j x, j < k → V[j]? = some x → badRow x0.length x = false) ∧ Hid (Below w.heap.size w wr)) (fun iv _ => V.length - (intOf iv).toNat)
      case atStart => exact ⟨0, by omega, rfl, Lib.hid (fun j x hj => by omega), Lib.hid (Below.refl _ _)⟩
      case round =>
        obtain ⟨i, hi, rfl, hno, hb⟩ := hrel
        by_cases hlt : i < V.length
        · obtain ⟨b1, o1, x, A1, c1, e1, hb1, hx, hcx, hrx⟩ := (H.out _ hb.out).at_ hlt
          cases e1
          obtain ⟨b2, o2, x2, A2, c2, e2, hb2, hx2, hcx2, hrx2⟩ := (H.out _ hb.out).at_ hn0
          cases e2
          rw [HX0.out] at hx2
          cases hx2
          rw [Nat.add_zero] at hcx2
          have lx := hrx.len
          have HX := Lib.hid hx
          clear hx hrx2 hrx
          by_cases hl : x.length = x0.length
          case neg =>
            have d1 : ((x.length : Int) != (x0.length : Int)) = true := by rw [bne_iff_ne]; omega
            have HE : Hid (cv = 8) := Lib.hid (HT8.out HA.out (.inr (any_at HX.out (by rw [badRow, decide_eq_true hl]; rfl))))
            clear hl
            go_wp2
            go_quiet (fail)
            have HBD := Lib.hid (below_drewN hb.out nq)
            go_wp2
            go_ret
            exact ⟨ret_int HE.out.symm, HBD.out⟩
          have d1 : ((x.length : Int) != (x0.length : Int)) = false := by rw [bne_eq_false_iff_eq]; omega
          have HLX := Lib.hid hl
          clear hl
          go_wp2
          go_quiet (fail)
          have HBD := Lib.hid (below_drewN hb.out nq)
          clear hb hcx hcx2
          generalize wr.drewN nq = wd at *
          go_wp2
          go_loop [5] (fun jv => ∃ k : Nat, k ≤ x.length ∧ jv = .int .i64 k ∧ Hid (∀ t y, t < k → x[t]? = some y → badV y = false)) (fun jv => x.length - (intOf jv).toNat)
          case atStart => exact ⟨0, by omega, rfl, Lib.hid (fun t y ht => by omega)⟩
          case round =>
            obtain ⟨k, hk, rfl, hnb⟩ := hrel
            obtain ⟨b1, o1, x', A1, c1, e1, hb1, hx, hcx, hrx⟩ := (H.out _ HBD.out).at_ hlt
            cases e1
            rw [HX.out] at hx
            cases hx
            by_cases hkl : k < x.length
            · obtain ⟨b3, o3, y, rfl, hb3, hy, hy64, hcy⟩ := hrx.at_ hkl
              have HY := Lib.hid hy
              clear hy hrx
              by_cases y0 : y < 0
              · have d2 : decide (y < 0) = true := decide_eq_true y0
                have HE : Hid (cv = 8) := Lib.hid (HT8.out HA.out (.inr (any_at HX.out (by
                  rw [badRow, Bool.or_eq_true]
                  exact .inr (List.any_eq_true.2 ⟨y, List.mem_of_getElem? HY.out, by rw [badV, d2]; rfl⟩)))))
                go_wp2
                go_ret
                exact ⟨ret_int HE.out.symm, HBD.out⟩
              · have d2 : decide (y < 0) = false := decide_eq_false y0
                by_cases y1 : 1000 < y
                · have d3 : decide (1000 < y) = true := decide_eq_true y1
                  have HE : Hid (cv = 8) := Lib.hid (HT8.out HA.out (.inr (any_at HX.out (by
                    rw [badRow, Bool.or_eq_true]
                    exact .inr (List.any_eq_true.2 ⟨y, List.mem_of_getElem? HY.out, by rw [badV, d3, Bool.or_true]⟩)))))
                  go_wp2
                  go_ret
                  exact ⟨ret_int HE.out.symm, HBD.out⟩
                · have d3 : decide (1000 < y) = false := decide_eq_false y1
                  have HN : Hid (∀ t y, t < k + 1 → x[t]? = some y → badV y = false) := Lib.hid fun t z ht hz => by
                    by_cases htk : t = k
                    · rw [htk, HY.out] at hz
                      cases hz
                      rw [badV, d2, d3]; rfl
                    · exact hnb.out t z (by omega) hz
                  clear hnb y0 y1
                  go_wp2
                  go_round
                  case rel => exact ⟨k + 1, by omega, by go_num, HN⟩
                  case measure => simp [intOf]; omega
            · have HN : Hid (∀ j y, j < i + 1 → V[j]? = some y → badRow x0.length y = false) := Lib.hid fun j y hj hy => by
                by_cases hji : j = i
                · rw [hji, HX.out] at hy
                  cases hy
                  rw [badRow, decide_eq_false (by have := HLX.out; omega), Bool.false_or]
                  exact any_no fun t z hz => hnb.out t z (by have := (List.getElem?_eq_some_iff.1 hz).1; omega) hz
                · exact hno.out j y (by omega) hy
              clear hno hnb hrx
              go_wp2
              go_roundw
              case rel => exact ⟨i + 1, by omega, by go_num, HN, HBD⟩
              case measure => simp [intOf]; omega
        · have HE : Hid (cv = 0) := Lib.hid (HT0.out HA.out (by omega) (any_no fun j x hx => hno.out j x (by have := (List.getElem?_eq_some_iff.1 hx).1; omega) hx))
          clear hno
          go_wp2
          go_ret
          exact ⟨ret_int HE.out.symm, hb.out⟩
end Go.Proofs.Ytkoipecnmijfoaa
