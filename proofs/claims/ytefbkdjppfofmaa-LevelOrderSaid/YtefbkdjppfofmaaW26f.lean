import Derived.Test.YtefbkdjppfofmaaW26e
/-! Walks of chapter 26: wanted, Complete, of the reference. -/
namespace Go.Proofs.Ytefbkdjppfofmaa
open Go.RowKit Go.Deep
set_option linter.unusedVariables false
set_option maxRecDepth 100000

theorem range_at {n k : Nat} (h : k < n) : (List.range n)[k]? = some k := by simp [h]
/-- the cell of a wish -/
theorem wish_cell {w : World} {B m n : Nat} {A : Option Addr} {W : List (List Bool)} (h : RdB2 w B A W) (v : VW m n W) {i g : Nat} (hi : i < m) (hg : g < n) :
    ∃ b off A2 c2 b3 o3 row, A = some ⟨b, off, none⟩ ∧ A2 = some ⟨b3, o3, none⟩ ∧ w.cell? ⟨b, off + i, none⟩ = some (.slice A2 n c2) ∧ w.cell? ⟨b3, o3 + g, none⟩ = some (.bool (wishB W i g)) ∧ W[i]? = some row ∧ row.length = n := by
  have hiW : i < W.length := by rw [v.len]; exact hi
  obtain ⟨b, off, row, A2, c2, rfl, hb, hrow, hc, hrd⟩ := h.at_ hiW
  have hrl : row.length = n := v.row row (List.mem_of_getElem? hrow)
  obtain ⟨b3, o3, y, rfl, hb3, hy, hc3⟩ := hrd.at_ (k := g) (by rw [hrl]; exact hg)
  have hwish : wishB W i g = y := by
    rw [wishB, List.getD_eq_getElem?_getD (l := W), hrow]
    show row.getD g false = y
    rw [List.getD_eq_getElem?_getD, hy]; rfl
  rw [hrl] at hc
  exact ⟨b, off, _, c2, b3, o3, row, rfl, rfl, hc, by rw [hwish]; exact hc3, hrow, hrl⟩
set_option maxHeartbeats 1000000 in
theorem lrWanted {w : World} {B m n : Nat} {A : Option Addr} {W : List (List Bool)} {cap : Nat} (h : RdB2 w B A W) (v : VW m n W) {g : Nat} (hg : g < n) :
    Calls Try.prog 38 #[.slice A W.length cap, .int .i64 g] w fun e w' => e = .returned (.bool (wishAny W g)) ∧ w = w' := by
  have hlen := h.len
  have n10 := v.n10
  have H := Lib.hid h
  have HV := Lib.hid v
  clear h v
  go_enter Try.func38, Try.ntmps38
  go_wp2
  go_loop [5] (fun iv => ∃ (k : Nat), k ≤ W.length ∧ iv = .int .i64 k ∧ Hid (((List.range W.length).drop k).any (fun i => wishB W i g) = wishAny W g)) (fun iv => W.length - (intOf iv).toNat)
  case atStart => exact ⟨0, by omega, rfl, Lib.hid rfl⟩
  case round =>
    obtain ⟨k, hk, rfl, hr⟩ := hrel
    by_cases hlt : k < W.length
    · obtain ⟨b, off, A2, c2, b3, o3, row, rfl, rfl, h1, h2, _, _⟩ := wish_cell H.out HV.out (i := k) (by rw [← HV.out.len]; exact hlt) hg
      have HA := Lib.hid (any_drop (p := fun i => wishB W i g) (range_at hlt))
      cases hw : wishB W k g
      · rw [hw] at h2 HA
        have HN : Hid (((List.range W.length).drop (k + 1)).any (fun i => wishB W i g) = wishAny W g) := Lib.hid (by rw [← hr.out, HA.out]; rfl)
        clear hw
        go_wp2
        go_round
        case rel => exact ⟨k + 1, by omega, by go_num, HN⟩
        case measure => simp [intOf]; omega
      · rw [hw] at h2 HA
        have HT : Hid (wishAny W g = true) := Lib.hid (by rw [← hr.out, HA.out]; rfl)
        clear hw
        go_wp2
        go_ret
        exact ⟨ret_bool HT.out.symm, rfl⟩
    · have HT : Hid (wishAny W g = false) := Lib.hid (by rw [← hr.out, any_end (by simp; omega)])
      go_wp2
      go_ret
      exact ⟨ret_bool HT.out.symm, rfl⟩
theorem all_drop {α : Type} {L : List α} {k : Nat} {x : α} {p : α → Bool} (h : L[k]? = some x) : (L.drop k).all p = (p x && (L.drop (k + 1)).all p) := by rw [dropA_of h]; rfl
theorem all_end {α : Type} {L : List α} {k : Nat} {p : α → Bool} (h : L.length ≤ k) : (L.drop k).all p = true := by rw [List.drop_eq_nil_of_le h]; rfl
/-- an entry: what it is -/
theorem right_cases (W : List (List Bool)) (g : Nat) (x : Int) : (x < -1 ∧ rightR W g x = false) ∨ (¬ x < -1 ∧ (W.length : Int) ≤ x ∧ rightR W g x = false) ∨ (∃ q : Nat, x = q ∧ q < W.length ∧ rightR W g x = wishB W q g) ∨ (x = -1 ∧ rightR W g x = !wishAny W g) := by
  by_cases h1 : x < -1
  · exact .inl ⟨h1, by simp [rightR, h1]⟩
  · by_cases h2 : (W.length : Int) ≤ x
    · exact .inr (.inl ⟨h1, h2, by simp [rightR, h2]⟩)
    · by_cases h3 : 0 ≤ x
      · obtain ⟨q, rfl⟩ : ∃ q : Nat, x = q := ⟨x.toNat, by omega⟩
        refine .inr (.inr (.inl ⟨q, rfl, by omega, ?_⟩))
        have e1 : decide ((q : Int) < -1) = false := decide_eq_false h1
        have e2 : decide ((W.length : Int) ≤ (q : Int)) = false := decide_eq_false h2
        have e3 : decide (0 ≤ (q : Int)) = true := decide_eq_true h3
        have e4 : decide ((q : Int) < 0) = false := decide_eq_false (by omega)
        rw [rightR, e1, e2, e3, e4, Int.toNat_natCast]
        cases wishB W q g <;> rfl
      · have hx : x = -1 := by omega
        subst hx
        refine .inr (.inr (.inr ⟨rfl, ?_⟩))
        have e2 : decide ((W.length : Int) ≤ -1) = false := decide_eq_false h2
        rw [rightR, e2]
        cases wishAny W g <;> rfl
set_option maxHeartbeats 2000000 in
theorem lrComplete {w : World} {B C m n : Nat} {A A' : Option Addr} {W : List (List Bool)} {a : List Int} {cap cap' : Nat} (h : RdB2 w B A W) (h' : Rd w C A' a) (v : VW m n W) :
    Calls Try.prog 19 #[.slice A W.length cap, .slice A' a.length cap'] w fun e w' => e = .returned (.bool (fullB W a)) ∧ w = w' := by
  have hlen := h.len
  have hal := h'.len
  have n10 := v.n10
  have m0 : 0 < W.length := by rw [v.len]; exact v.m0
  obtain ⟨b0, off0, row0, A0, c0', hA0, hb0, hrow0, hc0, hrd0⟩ := h.at_ m0
  have hr0 : (W.getD 0 []).length = n := by
    have : W.getD 0 [] = row0 := by rw [List.getD_eq_getElem?_getD, hrow0]; rfl
    rw [this]; exact v.row row0 (List.mem_of_getElem? hrow0)
  have hrl0 : row0.length = n := v.row row0 (List.mem_of_getElem? hrow0)
  rw [hrl0, Nat.add_zero] at hc0
  have H := Lib.hid h
  have H' := Lib.hid h'
  have HV := Lib.hid v
  have HR0 := Lib.hid hr0
  clear h h' v hr0 hrd0 hrow0 hb0 hrl0
  subst hA0
  by_cases hn : a.length = n
  · have hb1 : ((a.length : Int) != (n : Int)) = false := by rw [hn]; simp
    have hF : Hid (fullB W a = (List.range a.length).all fun g => rightR W g (a.getD g 0)) := Lib.hid (by rw [fullB, HR0.out, decide_eq_true hn, Bool.true_and])
    have HN := Lib.hid hn
    clear hn
    go_enter Try.func19, Try.ntmps19
    go_wp2_with fail
    clear hb1 hc0
    go_loop [5] (fun iv => ∃ (k : Nat), k ≤ a.length ∧ iv = .int .i64 k ∧ Hid (((List.range a.length).drop k).all (fun g => rightR W g (a.getD g 0)) = fullB W a)) (fun iv => a.length - (intOf iv).toNat)
    case atStart => exact ⟨0, by omega, rfl, Lib.hid (by rw [hF.out]; rfl)⟩
    case round =>
      obtain ⟨k, hk, rfl, hr⟩ := hrel
      by_cases hlt : k < a.length
      · obtain ⟨b, off, x, rfl, hb, hx, hi, hc⟩ := H'.out.at_ hlt
        have hg : a.getD k 0 = x := by rw [List.getD_eq_getElem?_getD, hx]; rfl
        have hall := all_drop (p := fun g => rightR W g (a.getD g 0)) (range_at hlt)
        rw [hr.out, hg] at hall
        have hkn : k < n := by rw [← HN.out]; exact hlt
        have CW := Lib.hid (lrWanted (cap := cap) H.out HV.out hkn)
        rcases right_cases W k x with ⟨h1, h2⟩ | ⟨h1, h2, h3⟩ | ⟨q, rfl, h1, h2⟩ | ⟨rfl, h2⟩
        · have HT : Hid (fullB W a = false) := Lib.hid (by rw [hall, h2]; rfl)
          clear hall h2 hg hx hi hb CW
          go_wp2
          go_ret
          exact ⟨ret_bool HT.out.symm, rfl⟩
        · have HT : Hid (fullB W a = false) := Lib.hid (by rw [hall, h3]; rfl)
          clear hall h3 hg hx hi hb CW
          go_wp2
          go_ret
          exact ⟨ret_bool HT.out.symm, rfl⟩
        · obtain ⟨b', off', A2, c2, b3, o3, row, hA, rfl, g1, g2, _, _⟩ := wish_cell H.out HV.out (i := q) (by rw [← HV.out.len]; exact h1) hkn
          cases hA
          cases hw : wishB W q k
          · rw [hw] at g2 h2
            have HT : Hid (fullB W a = false) := Lib.hid (by rw [hall, h2]; rfl)
            clear hall h2 hg hx hi hb CW hw
            go_wp2
            go_ret
            exact ⟨ret_bool HT.out.symm, rfl⟩
          · rw [hw] at g2 h2
            have HT : Hid (((List.range a.length).drop (k + 1)).all (fun g => rightR W g (a.getD g 0)) = fullB W a) := Lib.hid (by rw [hall, h2]; rfl)
            clear hall h2 hg hx hi hb CW hw
            go_wp2
            go_round
            case rel => exact ⟨k + 1, by omega, by go_num, HT⟩
            case measure => simp [intOf]; omega
        · clear hg hx hi hb
          cases hw : wishAny W k
          · rw [hw] at CW h2
            have HT : Hid (((List.range a.length).drop (k + 1)).all (fun g => rightR W g (a.getD g 0)) = fullB W a) := Lib.hid (by rw [hall, h2]; rfl)
            clear hall h2 hw
            go_wp2_with fail
            refine CW.out.mono ?_
            rintro e w' ⟨rfl, rfl⟩
            go_wp2
            go_round
            case rel => exact ⟨k + 1, by omega, by go_num, HT⟩
            case measure => simp [intOf]; omega
          · rw [hw] at CW h2
            have HT : Hid (fullB W a = false) := Lib.hid (by rw [hall, h2]; rfl)
            clear hall h2 hw
            go_wp2_with fail
            refine CW.out.mono ?_
            rintro e w' ⟨rfl, rfl⟩
            go_wp2
            go_ret
            exact ⟨ret_bool HT.out.symm, rfl⟩
      · have HT : Hid (fullB W a = true) := Lib.hid (by rw [← hr.out, all_end (by simp; omega)])
        go_wp2
        go_ret
        exact ⟨ret_bool HT.out.symm, rfl⟩
  · have hb1 : ((a.length : Int) != (n : Int)) = true := by simp; omega
    have HT : Hid (fullB W a = false) := Lib.hid (by rw [fullB, HR0.out, decide_eq_false hn, Bool.false_and])
    clear hn
    go_enter Try.func19, Try.ntmps19
    go_wp2
    go_ret
    exact ⟨ret_bool HT.out.symm, rfl⟩
end Go.Proofs.Ytefbkdjppfofmaa
