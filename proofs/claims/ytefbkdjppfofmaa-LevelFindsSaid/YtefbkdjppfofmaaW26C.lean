import Derived.Test.YtefbkdjppfofmaaS26s
import Derived.Test.YtefbkdjppfofmaaW26f
import Derived.Test.YtefbkdjppfofmaaW26s
/-! Walks of chapter 26: the reference's least and next. -/
namespace Go.Proofs.Ytefbkdjppfofmaa
open Go.RowKit Go.Deep
set_option linter.unusedVariables false
set_option maxRecDepth 100000

theorem firstA_eq {W : List (List Bool)} {g k : Nat} (hk : k < W.length) (h : wishB W k g = true) (hmin : ∀ j, j < k → wishB W j g = false) : firstA W g = k := by
  rcases firstA_cases W g with ⟨h1, h2⟩ | ⟨q, h1, h2, h3, h4⟩
  · rw [wishAny_of hk h] at h2; cases h2
  · have : q = k := by
      rcases Nat.lt_trichotomy q k with hh | hh | hh
      · rw [hmin q hh] at h3; cases h3
      · exact hh
      · rw [h4 k hh] at h; cases h
    rw [h2, this]
theorem firstA_none {W : List (List Bool)} {g : Nat} (hmin : ∀ j, j < W.length → wishB W j g = false) : firstA W g = -1 := by
  rcases firstA_cases W g with ⟨h1, _⟩ | ⟨q, h1, h2, h3, h4⟩
  · exact h1
  · rw [hmin q h1] at h3; cases h3
set_option maxHeartbeats 1000000 in
theorem lrLeast {w : World} {B m n : Nat} {A : Option Addr} {W : List (List Bool)} {cap g : Nat} (h : RdB2 w B A W) (v : VW m n W) (hg : g < n) :
    Calls Try.prog 45 #[.slice A W.length cap, .int .i64 g] w fun e w' => e = .returned (.int .i64 (firstA W g)) ∧ w = w' := by
  have hwl := h.len
  have hm := v.len
  subst hm
  have m6 := v.m6
  have n10 := v.n10
  have H := Lib.hid h
  have HV := Lib.hid v
  clear h v
  go_enter Try.func45, Try.ntmps45
  go_wp2
  go_loop [5] (fun iv => ∃ (k : Nat), k ≤ W.length ∧ iv = .int .i64 k ∧ Hid (∀ j, j < k → wishB W j g = false)) (fun iv => W.length - (intOf iv).toNat)
  case atStart => exact ⟨0, by omega, rfl, Lib.hid fun j hj => by omega⟩
  case round =>
    obtain ⟨k, hk, rfl, hr⟩ := hrel
    by_cases hlt : k < W.length
    · obtain ⟨b, off, A2, c2, b3, o3, row, rfl, rfl, g1, g2, _, _⟩ := wish_cell H.out HV.out hlt hg
      cases hw : wishB W k g
      · rw [hw] at g2
        have HN : Hid (∀ j, j < k + 1 → wishB W j g = false) := Lib.hid fun j hj => by
          rcases Nat.lt_or_ge j k with h | h
          · exact hr.out j h
          · have : j = k := by omega
            rw [this]; exact hw
        clear hw
        go_wp2
        go_round
        case rel => exact ⟨k + 1, by omega, by go_num, HN⟩
        case measure => simp [intOf]; omega
      · rw [hw] at g2
        have HF : Hid (firstA W g = k) := Lib.hid (firstA_eq hlt hw hr.out)
        clear hw
        go_wp2
        go_ret
        exact ⟨ret_int HF.out.symm, rfl⟩
    · have HF : Hid (firstA W g = -1) := Lib.hid (firstA_none fun j hj => hr.out j (by omega))
      go_wp2
      go_ret
      exact ⟨ret_int HF.out.symm, rfl⟩
/-- raised at place g, least up to k, behind as it was -/
def stK (W : List (List Bool)) (a : List Int) (n g i k : Nat) : List Int := (List.range n).map fun j => if j < g then a.getD j 0 else if j = g then (i : Int) else if j < k then firstA W j else a.getD j 0
theorem stK_length (W : List (List Bool)) (a : List Int) (n g i k : Nat) : (stK W a n g i k).length = n := by simp [stK]
theorem stK_start {W : List (List Bool)} {a : List Int} {n g i : Nat} (hl : a.length = n) (hg : g < n) : a.set g (i : Int) = stK W a n g i (g + 1) := by
  apply List.ext_getElem
  · rw [List.length_set, stK_length, hl]
  · intro j h1 h2
    rw [List.length_set] at h1
    have e : a.getD j 0 = a[j] := by rw [List.getD_eq_getElem?_getD, List.getElem?_eq_getElem h1]; rfl
    rw [List.getElem_set]
    simp only [stK, List.getElem_map, List.getElem_range]
    by_cases hj : g = j
    · subst hj
      rw [if_pos rfl, if_neg (by omega), if_pos rfl]
    · rw [if_neg hj]
      by_cases hj2 : j < g
      · rw [if_pos hj2, e]
      · rw [if_neg hj2, if_neg (by omega), if_neg (by omega), e]
theorem stK_step {W : List (List Bool)} {a : List Int} {n g i k : Nat} (hg : g < k) (hk : k < n) : (stK W a n g i k).set k (firstA W k) = stK W a n g i (k + 1) := by
  apply List.ext_getElem
  · rw [List.length_set, stK_length, stK_length]
  · intro j h1 h2
    rw [List.getElem_set]
    simp only [stK, List.getElem_map, List.getElem_range]
    by_cases hj : k = j
    · subst hj
      rw [if_pos rfl, if_neg (by omega), if_neg (by omega), if_pos (by omega)]
    · rw [if_neg hj]
      by_cases hj2 : j < g
      · rw [if_pos hj2, if_pos hj2]
      · rw [if_neg hj2, if_neg hj2]
        by_cases hj3 : j = g
        · rw [if_pos hj3, if_pos hj3]
        · rw [if_neg hj3, if_neg hj3]
          by_cases hj4 : j < k
          · rw [if_pos hj4, if_pos (by omega)]
          · rw [if_neg hj4, if_neg (by omega)]
theorem stK_all (W : List (List Bool)) (a : List Int) (n g i : Nat) : stK W a n g i n = setNx W a n g i := by
  apply List.ext_getElem
  · rw [stK_length, setNx_length]
  · intro j h1 h2
    rw [stK_length] at h1
    simp only [stK, setNx, List.getElem_map, List.getElem_range]
    rw [if_pos h1]
def nxL (W : List (List Bool)) (m n : Nat) (a : List Int) : List Int := match nxtF W m a n with
  | none => a
  | some (g, i) => setNx W a n g i
/-- what next leaves -/
def NxRes (W : List (List Bool)) (m n : Nat) (a : List Int) (w0 T : Nat) (A : Option Addr) (w : World) (e : Ending) (w' : World) : Prop :=
  e = .returned (.bool (nxtF W m a n).isSome) ∧ OutAt w0 w' A T n (nxL W m n a) ∧ Below w0 w w' ∧ (∀ k, A ≠ some ⟨k, 0, none⟩ → w'.heap[k]? = w.heap[k]?) ∧ w'.heap.size = w.heap.size
theorem drop_find {m q : Nat} {p : Nat → Bool} (h : q < m) : ((List.range m).drop q).find? p = if p q = true then some q else ((List.range m).drop (q + 1)).find? p := by
  rw [drop_range h, List.find?_cons]
  cases p q <;> rfl
set_option maxHeartbeats 4000000 in
theorem lrNext {w : World} {B w0 m n : Nat} {A A1 : Option Addr} {W : List (List Bool)} {a : List Int} {cap c1 : Nat} (h : RdB2 w B A W) (hBw : B ≤ w0) (v : VW m n W) (hf : FullA W m n a) (ho : OutAt w0 w A1 3 n a) :
    Calls Try.prog 46 #[.slice A W.length cap, .slice A1 n c1] w (NxRes W m n a w0 3 A1 w) := by
  have hwl := h.len
  have hm := v.len
  subst hm
  have m6 := v.m6
  have n10 := v.n10
  have H := Lib.hid h
  have HV := Lib.hid v
  have HF := Lib.hid hf
  have HO := Lib.hid ho
  clear h v hf ho
  go_enter Try.func46, Try.ntmps46
  go_wp2_with fail
  go_loop [5] (fun gv => ∃ (k : Nat) (z : Int), k ≤ n ∧ gv = .int .i64 z ∧ Hid (z = (k : Int) - 1) ∧ Hid (nxtF W W.length a k = nxtF W W.length a n)) (fun gv => (intOf gv + 1).toNat)
  case atStart => exact ⟨n, _, by omega, rfl, Lib.hid rfl, Lib.hid rfl⟩
  case round =>
    obtain ⟨k, z, hk, rfl, hz, hr⟩ := hrel
    by_cases hk0 : k = 0
    · subst hk0
      obtain rfl : z = -1 := by rw [hz.out]; rfl
      have HN : Hid (nxtF W W.length a n = none) := Lib.hid hr.out.symm
      clear hr hz
      go_wp2
      go_ret
      exact ⟨by rw [HN.out]; rfl, by rw [nxL, HN.out]; exact HO.out, Below.refl _ _, fun _ _ => rfl, rfl⟩
    · obtain ⟨g, rfl⟩ : ∃ g, k = g + 1 := ⟨k - 1, by omega⟩
      obtain rfl : z = (g : Int) := by rw [hz.out]; omega
      have hgn : g < n := by omega
      obtain ⟨g1, rfl, hg1, hP⟩ := HO.out (by omega)
      have hal : a.length = n := HF.out.len
      obtain ⟨x, hx⟩ : ∃ x, a[g]? = some x := ⟨a[g]'(by rw [hal]; exact hgn), by simp⟩
      have cx := hP.cell hx
      have fx := hP.frozen g
      have hgx : a.getD g 0 = x := by rw [List.getD_eq_getElem?_getD, hx]; rfl
      have HS1 : Hid (∀ i, nextAt W W.length g x = some i → nxtF W W.length a n = some (g, i)) := Lib.hid fun i hi => by rw [← hr.out, nxtF, hgx, hi]
      have HS0 : Hid (nextAt W W.length g x = none → nxtF W W.length a g = nxtF W W.length a n) := Lib.hid fun hi => by rw [← hr.out, nxtF, hgx, hi]
      have HAL := Lib.hid hal
      have HP := Lib.hid hP
      have hxb : -1 ≤ x ∧ x < 100 := by
        have h1 := full_bd' HF.out g hgn
        omega
      have HXA := Lib.hid hx
      clear hgx hx hal hP hr hz
      by_cases hx0 : x < 0
      · have HN : Hid (nxtF W W.length a g = nxtF W W.length a n) := Lib.hid (HS0.out (by rw [nextAt, if_pos hx0]))
        have q1 : decide (0 ≤ x) = false := decide_eq_false (by omega)
        clear HS0 HS1
        go_wp2_with fail
        go_loop [6] (fun iv => iv = .int .i64 (x + 1)) (fun iv => 0)
        case atStart => rfl
        case round =>
          subst hrel
          go_wp2
          go_round
          case rel => exact ⟨g, (g : Int) - 1, by omega, by go_num, Lib.hid rfl, HN⟩
          case measure => simp [intOf]
      · obtain ⟨q, rfl⟩ : ∃ q : Nat, x = q := ⟨x.toNat, by omega⟩
        have q1 : decide ((0 : Int) ≤ (q : Int)) = true := decide_eq_true (by omega)
        have HNA : Hid (nextAt W W.length g (q : Int) = ((List.range W.length).drop (q + 1)).find? fun i => wishB W i g) := Lib.hid (by rw [nextAt, if_neg (by omega)]; rfl)
        have hq100 : q < 100 := by omega
        clear hx0 hxb
        go_wp2_with fail
        go_loop [6] (fun iv => ∃ (i : Nat), i ≤ 101 ∧ iv = .int .i64 i ∧ Hid (((List.range W.length).drop i).find? (fun i => wishB W i g) = nextAt W W.length g (q : Int))) (fun iv => 200 - (intOf iv).toNat)
        case atStart => exact ⟨q + 1, by omega, by go_num, Lib.hid HNA.out.symm⟩
        case round =>
          obtain ⟨i, hi, rfl, hr⟩ := hrel
          by_cases hlt : i < W.length
          · have hdf := drop_find (p := fun i => wishB W i g) hlt
            rw [hr.out] at hdf
            obtain ⟨b, off, A2, c2, b3, o3, row, rfl, rfl, g2, g3, _, _⟩ := wish_cell H.out HV.out hlt hgn
            cases hw : wishB W i g
            · rw [hw] at g3
              have HN : Hid (((List.range W.length).drop (i + 1)).find? (fun i => wishB W i g) = nextAt W W.length g (q : Int)) := Lib.hid (by rw [hdf, if_neg (by rw [hw]; decide)])
              clear hw hdf
              go_wp2
              go_round
              case rel => exact ⟨i + 1, by omega, by go_num, HN⟩
              case measure => simp [intOf]; omega
            · rw [hw] at g3
              have HNX : Hid (nxtF W W.length a n = some (g, i)) := Lib.hid (HS1.out i (by rw [hdf, if_pos hw]))
              have HO1 : Hid (OwnP (w.setCell ⟨g1, g, none⟩ (.int .i64 (i : Int))) g1 3 (stK W a n g i (g + 1))) := Lib.hid (by rw [← stK_start HAL.out hgn]; exact HP.out.store g _)
              have HB1 : Hid (Below w0 w (w.setCell ⟨g1, g, none⟩ (.int .i64 (i : Int)))) := Lib.hid ((Below.refl _ w).setCell (p := ⟨g1, g, none⟩) hg1 _)
              have HK1 : Hid (∀ k, k ≠ g1 → (w.setCell ⟨g1, g, none⟩ (.int .i64 (i : Int))).heap[k]? = w.heap[k]?) := Lib.hid fun k hk => Below.heap_setCell w ⟨g1, g, none⟩ _ k hk
              have HZ1 : Hid ((w.setCell ⟨g1, g, none⟩ (.int .i64 (i : Int))).heap.size = w.heap.size) := Lib.hid (by simp [World.setCell])
              clear hw hdf hr
              go_wp2_with fail
              generalize w.setCell ⟨g1, g, none⟩ (.int .i64 (i : Int)) = w1 at *
              go_loopw [7] (fun kv wr => ∃ (k : Nat), g + 1 ≤ k ∧ k ≤ n ∧ kv = .int .i64 k ∧ Hid (OwnP wr g1 3 (stK W a n g i k)) ∧ Hid (Below w0 w wr) ∧ Hid (∀ k, k ≠ g1 → wr.heap[k]? = w.heap[k]?) ∧ Hid (wr.heap.size = w.heap.size)) (fun kv _ => n - (intOf kv).toNat)
              case atStart => exact ⟨g + 1, by omega, by omega, by go_num, HO1, HB1, HK1, HZ1⟩
              case round =>
                clear HO1 HB1 HK1 HZ1
                obtain ⟨k, hk1, hk2, rfl, ho, hb, hkp, hz⟩ := hrel
                by_cases hkn : k < n
                · have CL := lrLeast (cap := cap) (H.out.below hb.out hBw) HV.out hkn
                  obtain ⟨y, hy⟩ : ∃ y, (stK W a n g i k)[k]? = some y := ⟨(stK W a n g i k)[k]'(by rw [stK_length]; exact hkn), by simp⟩
                  have cy := ho.out.cell hy
                  have fy := ho.out.frozen k
                  have HO2 : Hid (OwnP (wr.setCell ⟨g1, k, none⟩ (.int .i64 (firstA W k))) g1 3 (stK W a n g i (k + 1))) := Lib.hid (by rw [← stK_step (by omega) hkn]; exact ho.out.store k _)
                  have HB2 := Lib.hid (hb.out.setCell (p := ⟨g1, k, none⟩) hg1 (.int .i64 (firstA W k)))
                  have HK2 : Hid (∀ j, j ≠ g1 → (wr.setCell ⟨g1, k, none⟩ (.int .i64 (firstA W k))).heap[j]? = w.heap[j]?) := Lib.hid fun j hj => (Below.heap_setCell wr ⟨g1, k, none⟩ _ j hj).trans (hkp.out j hj)
                  have HZ2 : Hid ((wr.setCell ⟨g1, k, none⟩ (.int .i64 (firstA W k))).heap.size = w.heap.size) := Lib.hid (by rw [← hz.out]; simp [World.setCell])
                  clear hy ho hb hkp hz
                  generalize firstA W k = fa at *
                  go_wp2_with fail
                  refine CL.mono ?_
                  rintro e w' ⟨rfl, rfl⟩
                  go_wp2
                  go_roundw
                  case rel => exact ⟨k + 1, by omega, by omega, by go_num, HO2, HB2, HK2, HZ2⟩
                  case measure => simp [intOf]; omega
                · obtain rfl : k = n := by omega
                  have HOF : Hid (OwnP wr g1 3 (setNx W a k g i)) := Lib.hid (by rw [← stK_all]; exact ho.out)
                  clear ho
                  go_wp2
                  go_ret
                  exact ⟨by rw [HNX.out]; rfl, by rw [nxL, HNX.out]; exact fun _ => ⟨g1, rfl, hg1, HOF.out⟩, hb.out, fun j hj => hkp.out j (fun e => hj (by rw [e])), hz.out⟩
          · have HN : Hid (nxtF W W.length a g = nxtF W W.length a n) := Lib.hid (HS0.out (by rw [← hr.out, List.drop_eq_nil_of_le (by simp; omega)]; rfl))
            clear hr
            go_wp2
            go_round
            case rel => exact ⟨g, (g : Int) - 1, by omega, by go_num, Lib.hid rfl, HN⟩
            case measure => simp [intOf]
where
  full_bd' {W : List (List Bool)} {m n : Nat} {a : List Int} (h : FullA W m n a) (g : Nat) (hg : g < n) : -1 ≤ a.getD g 0 ∧ a.getD g 0 < m := by
    rcases h.at_ g hg with ⟨h1, _⟩ | ⟨q, h1, h2, _⟩ <;> omega
end Go.Proofs.Ytefbkdjppfofmaa
