import Derived.Test.YtjgobpejifhphaaW33d
import Derived.Test.YtjgobpejifhphaaW34b
/-! Walks of chapter 33: both Checks, looked, Bids, ahead, Place. -/
namespace Go.Proofs.Ytjgobpejifhphaa
open Go.RowKit Go.Deep
set_option linter.unusedVariables false
set_option maxRecDepth 100000

def badCredit (x : Int) : Prop := x < -1000000 ∨ 1000000 < x
instance (x : Int) : Decidable (badCredit x) := by unfold badCredit; infer_instance
def hckGo (n : Nat) : Int → List Int → Int
  | s, [] => if n = 0 ∨ s ≠ 0 then 8 else 0
  | s, x :: t => if badCredit x then 8 else hckGo n (s + x) t
def hck (C : List Int) : Int := if 12 < C.length then 4 else hckGo C.length 0 C
theorem hckGo_bad {n : Nat} {s x : Int} {t : List Int} (h : badCredit x) : hckGo n s (x :: t) = 8 := by rw [hckGo, if_pos h]
theorem hckGo_ok {n : Nat} {s x : Int} {t : List Int} (h : ¬ badCredit x) : hckGo n s (x :: t) = hckGo n (s + x) t := by rw [hckGo, if_neg h]
def sumI : List Int → Int
  | [] => 0
  | x :: t => x + sumI t
theorem hckGo_zero {n : Nat} : ∀ {L : List Int} {s : Int}, hckGo n s L = 0 → (∀ x ∈ L, ¬ badCredit x) ∧ n ≠ 0 ∧ s + sumI L = 0
  | [], s, h => by
    simp only [hckGo] at h
    split at h
    · exact absurd h (by decide)
    · exact ⟨by simp, by omega, by simp [sumI]; omega⟩
  | x :: t, s, h => by
    by_cases hb : badCredit x
    · rw [hckGo_bad hb] at h; exact absurd h (by decide)
    · rw [hckGo_ok hb] at h
      obtain ⟨h1, h2, h3⟩ := hckGo_zero h
      refine ⟨?_, h2, by simp only [sumI]; omega⟩
      intro y hy
      rcases List.mem_cons.1 hy with rfl | hy
      · exact hb
      · exact h1 y hy
/-- credits without error -/
structure VC (C : List Int) : Prop where
  one : 1 ≤ C.length
  twelve : C.length ≤ 12
  bd : ∀ x ∈ C, -1000000 ≤ x ∧ x ≤ 1000000
  sum : sumI C = 0
theorem hck_ok {C : List Int} (h : hck C = 0) : VC C := by
  unfold hck at h
  split at h
  · exact absurd h (by decide)
  · obtain ⟨h1, h2, h3⟩ := hckGo_zero h
    exact ⟨by omega, by omega, fun x hx => by have := h1 x hx; unfold badCredit at this; omega, by omega⟩
theorem hck_many {C : List Int} (h : 12 < C.length) : hck C = 4 := by rw [hck, if_pos h]
theorem hck_go {C : List Int} (h : ¬ 12 < C.length) : hckGo C.length 0 C = hck C := by rw [hck, if_neg h]

set_option maxHeartbeats 1000000 in
theorem hCheck {w : World} {B : Nat} {A : Option Addr} {L : List Int} {cap : Nat} (h : Rd w B A L) :
    Calls Try.prog 102 #[.slice A L.length cap] w fun e w' => e = .returned (.int .i64 (hck L)) ∧ w = w' := by
  have hlen := h.len
  have H := Lib.hid h; clear h
  by_cases hm : 12 < L.length
  · have hfin := Lib.hid (hck_many hm)
    go_enter Try.func102, Try.ntmps102
    go_wp2
    go_ret
    exact ⟨ret_int hfin.out.symm, rfl⟩
  · have hfin := Lib.hid (hck_go hm)
    go_enter Try.func102, Try.ntmps102
    go_wp2
    go_loop [3, 11] (fun l i => ∃ (k : Nat) (s : Int), k ≤ L.length ∧ -1000000 * (k : Int) ≤ s ∧ s ≤ 1000000 * (k : Int) ∧ i = .int .i64 k ∧ l = .int .i64 s ∧ Hid (hckGo L.length s (L.drop k) = hck L)) (fun _ i => L.length - (intOf i).toNat)
    case atStart => exact ⟨0, 0, by omega, by omega, by omega, rfl, rfl, by simpa using hfin⟩
    case round =>
      obtain ⟨k, s, hk, hl0, hl1, rfl, rfl, hr⟩ := hrel
      by_cases hlt : k < L.length
      · obtain ⟨b, off, x, rfl, hb, hx, hi, hc⟩ := H.out.at_ hlt
        have HI := Lib.hid hi; clear hi
        have HX := Lib.hid hx; clear hx
        by_cases h1 : x < -1000000
        · go_wp2
          go_ret
          exact ⟨ret_int (by rw [← hr.out, drop_of HX.out, hckGo_bad (.inl h1)]), rfl⟩
        · by_cases h2 : 1000000 < x
          · go_wp2
            go_ret
            exact ⟨ret_int (by rw [← hr.out, drop_of HX.out, hckGo_bad (.inr h2)]), rfl⟩
          · go_wp2
            go_round
            case rel => exact ⟨k + 1, s + x, by omega, by omega, by omega, by go_num, rfl, Lib.hid (by rw [← hr.out, drop_of HX.out, hckGo_ok (by unfold badCredit; omega)])⟩
            case measure => simp [intOf]; omega
      · have hk' : L.length ≤ k := by omega
        have hend := hr.out
        rw [drop_end hk'] at hend
        have HE := Lib.hid hend
        clear hend
        by_cases h0 : L.length = 0
        · have d0 : ((L.length : Int) == 0) = true := beq_iff_eq.2 (by omega)
          have d1 : (L.length == 0) = true := beq_iff_eq.2 h0
          have H0 := Lib.hid h0
          clear h0
          go_wp2
          go_ret
          exact ⟨ret_int (by rw [← HE.out, hckGo, if_pos (.inl H0.out)]), rfl⟩
        · have d0 : ((L.length : Int) == 0) = false := beq_eq_false_iff_ne.2 (by omega)
          have d1 : (L.length == 0) = false := beq_eq_false_iff_ne.2 h0
          by_cases hs : s = 0
          · have d2 : (s != 0) = false := by simpa using hs
            have HS := Lib.hid hs
            clear hs
            go_wp2
            go_ret
            exact ⟨ret_int (by rw [← HE.out, hckGo, if_neg (by have := HS.out; omega)]), rfl⟩
          · have d2 : (s != 0) = true := by simpa using hs
            go_wp2
            go_ret
            exact ⟨ret_int (by rw [← HE.out, hckGo, if_pos (.inr hs)]), rfl⟩

set_option maxHeartbeats 1000000 in
theorem hrCheck {w : World} {B : Nat} {A : Option Addr} {L : List Int} {cap : Nat} (h : Rd w B A L) :
    Calls Try.prog 32 #[.slice A L.length cap] w fun e w' => e = .returned (.int .i64 (hck L)) ∧ w = w' := by
  have hlen := h.len
  have H := Lib.hid h; clear h
  by_cases hm : 12 < L.length
  · have hfin := Lib.hid (hck_many hm)
    go_enter Try.func32, Try.ntmps32
    go_wp2
    go_ret
    exact ⟨ret_int hfin.out.symm, rfl⟩
  · have hfin := Lib.hid (hck_go hm)
    go_enter Try.func32, Try.ntmps32
    go_wp2
    go_loop [3, 4] (fun l i => ∃ (k : Nat) (s : Int), k ≤ L.length ∧ -1000000 * (k : Int) ≤ s ∧ s ≤ 1000000 * (k : Int) ∧ i = .int .i64 k ∧ l = .int .i64 s ∧ Hid (hckGo L.length s (L.drop k) = hck L)) (fun _ i => L.length - (intOf i).toNat)
    case atStart => exact ⟨0, 0, by omega, by omega, by omega, rfl, rfl, by simpa using hfin⟩
    case round =>
      obtain ⟨k, s, hk, hl0, hl1, rfl, rfl, hr⟩ := hrel
      by_cases hlt : k < L.length
      · obtain ⟨b, off, x, rfl, hb, hx, hi, hc⟩ := H.out.at_ hlt
        have HI := Lib.hid hi; clear hi
        have HX := Lib.hid hx; clear hx
        by_cases h1 : x < -1000000
        · go_wp2
          go_ret
          exact ⟨ret_int (by rw [← hr.out, drop_of HX.out, hckGo_bad (.inl h1)]), rfl⟩
        · by_cases h2 : 1000000 < x
          · go_wp2
            go_ret
            exact ⟨ret_int (by rw [← hr.out, drop_of HX.out, hckGo_bad (.inr h2)]), rfl⟩
          · go_wp2
            go_round
            case rel => exact ⟨k + 1, s + x, by omega, by omega, by omega, by go_num, rfl, Lib.hid (by rw [← hr.out, drop_of HX.out, hckGo_ok (by unfold badCredit; omega)])⟩
            case measure => simp [intOf]; omega
      · have hk' : L.length ≤ k := by omega
        have hend := hr.out
        rw [drop_end hk'] at hend
        have HE := Lib.hid hend
        clear hend
        by_cases h0 : L.length = 0
        · have d0 : ((L.length : Int) == 0) = true := beq_iff_eq.2 (by omega)
          have d1 : (L.length == 0) = true := beq_iff_eq.2 h0
          have H0 := Lib.hid h0
          clear h0
          go_wp2
          go_ret
          exact ⟨ret_int (by rw [← HE.out, hckGo, if_pos (.inl H0.out)]), rfl⟩
        · have d0 : ((L.length : Int) == 0) = false := beq_eq_false_iff_ne.2 (by omega)
          have d1 : (L.length == 0) = false := beq_eq_false_iff_ne.2 h0
          by_cases hs : s = 0
          · have d2 : (s != 0) = false := by simpa using hs
            have HS := Lib.hid hs
            clear hs
            go_wp2
            go_ret
            exact ⟨ret_int (by rw [← HE.out, hckGo, if_neg (by have := HS.out; omega)]), rfl⟩
          · have d2 : (s != 0) = true := by simpa using hs
            go_wp2
            go_ret
            exact ⟨ret_int (by rw [← HE.out, hckGo, if_pos (.inr hs)]), rfl⟩

def badBid (o : Int) : Bool := decide (o < 0) || decide (1000000 < o)
def hlk (L O : List Int) : Int := if hck L ≠ 0 then hck L else if O.length ≠ L.length ∨ O.any badBid = true then 8 else 0
theorem hLooked1 {w : World} (x : Int) :
    Calls Try.prog 103 #[.int .i64 x] w fun e w' => e = .returned (.bool (badBid x)) ∧ w = w' := by
  by_cases h1 : x < 0
  · go_enter Try.func103, Try.ntmps103
    go_wp2
    go_ret
    exact ⟨ret_bool (by simp [badBid, h1]), rfl⟩
  · by_cases h2 : 1000000 < x
    all_goals
      go_enter Try.func103, Try.ntmps103
      go_wp2
      go_ret
      exact ⟨ret_bool (by simp [badBid, h1, h2]), rfl⟩
theorem hlk_chk {L O : List Int} (h : hck L ≠ 0) : hlk L O = hck L := by rw [hlk, if_pos h]
theorem hlk_len {L O : List Int} (h : hck L = 0) (h2 : O.length ≠ L.length) : hlk L O = 8 := by rw [hlk, if_neg (by simp [h]), if_pos (.inl h2)]
theorem hlk_any {L O : List Int} (h : hck L = 0) (h2 : O.any badBid = true) : hlk L O = 8 := by rw [hlk, if_neg (by simp [h]), if_pos (.inr h2)]
theorem hlk_yes {L O : List Int} (h : hck L = 0) (h2 : O.length = L.length) (h3 : O.any badBid = false) : hlk L O = 0 := by rw [hlk, if_neg (by simp [h]), if_neg (by simp [h2, h3])]
/-- credits and bids without error -/
structure VB (C B : List Int) : Prop where
  v : VC C
  len : B.length = C.length
  bd : ∀ x ∈ B, 0 ≤ x ∧ x ≤ 1000000
theorem hlk_ok {L O : List Int} (h : hlk L O = 0) : VB L O := by
  unfold hlk at h
  split at h
  · contradiction
  · rename_i h0
    split at h
    · exact absurd h (by decide)
    · rename_i h1
      refine ⟨hck_ok (by simpa using h0), by omega, fun x hx => ?_⟩
      have h2 : O.any badBid = false := by
        cases hb : O.any badBid
        · rfl
        · exact absurd (.inr hb) h1
      have := List.any_eq_false.1 h2 x hx
      simp [badBid] at this
      omega
theorem hlk_hck {L O : List Int} (h : hlk L O = 0) : hck L = 0 := by
  rcases Decidable.em (hck L = 0) with h2 | h2
  · exact h2
  · rw [hlk_chk h2] at h; exact absurd h h2

theorem hLooked {w : World} {B C : Nat} {A A' : Option Addr} {L O : List Int} {cap cap' : Nat} (h : Rd w B A L) (h' : Rd w C A' O) :
    Calls Try.prog 81 #[.slice A L.length cap, .slice A' O.length cap'] w fun e w' => e = .returned (.int .i64 (hlk L O)) ∧ w = w' := by
  have C1 := hCheck (cap := cap) h
  have C2 := containsFunc (cap := cap') h' 103 #[] badBid (fun args u => by kernel_rfl) (fun x _ => by simpa using hLooked1 x)
  have l1 := h.len
  have l2 := h'.len
  clear h h'
  by_cases hc : hck L = 0
  · by_cases hl : O.length = L.length
    · have hfin : Hid (∀ b, O.any badBid = b → hlk L O = if b then 8 else 0) := Lib.hid (by intro b hb; cases b; exact hlk_yes hc hl hb; exact hlk_any hc hb)
      rw [hc] at C1
      have HL := Lib.hid hl; clear hl
      clear hc
      have hb : ((O.length : Int) != (L.length : Int)) = false := by rw [HL.out]; simp
      cases ha : O.any badBid
      all_goals
        rw [ha] at C2
        have HF := Lib.hid (hfin.out _ ha)
        clear ha hfin
        go_enter Try.func81, Try.ntmps81
        go_wp2_with (first | (go_at_call 102; refine C1.mono ?_; rintro e w' ⟨rfl, rfl⟩) | (go_at_call 76; refine C2.mono ?_; rintro e w' ⟨rfl, rfl⟩))
        go_ret
        exact ⟨ret_int (by rw [HF.out]; rfl), rfl⟩
    · have hfin := Lib.hid (hlk_len hc hl)
      rw [hc] at C1
      clear hc
      have hb : ((O.length : Int) != (L.length : Int)) = true := by simp; omega
      go_enter Try.func81, Try.ntmps81
      go_wp2_with (go_at_call 102; refine C1.mono ?_; rintro e w' ⟨rfl, rfl⟩)
      go_ret
      exact ⟨ret_int hfin.out.symm, rfl⟩
  · have hfin := Lib.hid (hlk_chk (O := O) hc)
    have hb : (hck L != 0) = true := by simpa using hc
    clear hc
    generalize hck L = c at *
    go_enter Try.func81, Try.ntmps81
    go_wp2_with (go_at_call 102; refine C1.mono ?_; rintro e w' ⟨rfl, rfl⟩)
    go_ret
    exact ⟨ret_int hfin.out.symm, rfl⟩

def bidsOk (O : List Int) (n : Int) : Bool := !O.any badBid && decide ((O.length : Int) = n)
theorem anyB_no {O : List Int} {k : Nat} {x : Int} (h : O[k]? = some x) (hb : badBid x = false) : (O.drop (k + 1)).any badBid = (O.drop k).any badBid := by
  rw [drop_of h]; simp [hb]
theorem anyB_yes {O : List Int} {k : Nat} {x : Int} (h : O[k]? = some x) (hb : badBid x = true) : (O.drop k).any badBid = true := by
  rw [drop_of h]; simp [hb]
set_option maxHeartbeats 400000 in
theorem rBids {w : World} {C : Nat} {A' : Option Addr} {O : List Int} {cap' : Nat} (h' : Rd w C A' O) (n : Int) :
    Calls Try.prog 33 #[.slice A' O.length cap', .int .i64 n] w fun e w' => e = .returned (.bool (bidsOk O n)) ∧ w = w' := by
  have l2 := h'.len
  have H := Lib.hid h'
  clear h'
  have hfin : Hid (∀ b, O.any badBid = b → bidsOk O n = (!b && decide ((O.length : Int) = n))) := Lib.hid (by intro b hb; rw [bidsOk, hb])
  go_enter Try.func33, Try.ntmps33
  go_wp2
  go_loop [5] (fun i => ∃ (k : Nat), k ≤ O.length ∧ i = .int .i64 k ∧ Hid ((O.drop k).any badBid = O.any badBid)) (fun i => O.length - (intOf i).toNat)
  case atStart => exact ⟨0, by omega, rfl, Lib.hid (by simp)⟩
  case round =>
    obtain ⟨k, hk, rfl, hr⟩ := hrel
    by_cases hlt : k < O.length
    · obtain ⟨b, off, x, rfl, hbb, hx, hi, hcell⟩ := H.out.at_ hlt
      have HI := Lib.hid hi; clear hi
      have HX := Lib.hid hx; clear hx
      by_cases h1 : x < 0
      · go_wp2
        go_ret
        exact ⟨ret_bool (by rw [hfin.out true (by rw [← hr.out]; exact anyB_yes HX.out (by simp [badBid, h1]))]; rfl), rfl⟩
      · by_cases h2 : 1000000 < x
        · go_wp2
          go_ret
          exact ⟨ret_bool (by rw [hfin.out true (by rw [← hr.out]; exact anyB_yes HX.out (by simp [badBid, h2]))]; rfl), rfl⟩
        · go_wp2
          go_round
          case rel => exact ⟨k + 1, by omega, by go_num, Lib.hid (by rw [anyB_no HX.out (by simp [badBid, h1, h2]), hr.out])⟩
          case measure => simp [intOf]; omega
    · have hf2 := hfin.out false (by rw [← hr.out, drop_end (by omega)]; rfl)
      have HF := Lib.hid hf2
      clear hf2 hfin
      go_wp2
      go_ret
      exact ⟨ret_bool (by rw [HF.out]; simp [BEq.beq]), rfl⟩
end Go.Proofs.Ytjgobpejifhphaa
