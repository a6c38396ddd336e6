import Derived.Test.YtjgobpejifhphaaW34h
/-! Walks of chapter 34: sold in all cases, Price and Buyer of both, the reference's looked and priced. -/
namespace Go.Proofs.Ytjgobpejifhphaa
open Go.RowKit
set_option linter.unusedVariables false

def sE (L O : List Int) (r : Int) : Int := if lok L O ≠ 0 then lok L O else if r ≠ 0 ∧ r ≠ 1 then 2 else 0
def sB (L O : List Int) (r : Int) : Int := if sE L O r = 0 then bestOf O (-1) else 0
def priceOf (O : List Int) (r : Int) : Int :=
  if r = 1 then (O.getD (bestOf O (-1)).toNat 0 + O.getD (bestOf O (bestOf O (-1))).toNat 0) / 2 else O.getD (bestOf O (bestOf O (-1))).toNat 0
def sP (L O : List Int) (r : Int) : Int := if sE L O r = 0 then priceOf O r else 0
theorem sE_lok {L O : List Int} {r : Int} (h : lok L O ≠ 0) : sE L O r = lok L O := by rw [sE, if_pos h]
theorem sE_rule {L O : List Int} {r : Int} (h : lok L O = 0) (h0 : r ≠ 0) (h1 : r ≠ 1) : sE L O r = 2 := by rw [sE, if_neg (by simp [h]), if_pos ⟨h0, h1⟩]
theorem sE_ok {L O : List Int} {r : Int} (h : lok L O = 0) (h0 : r = 0 ∨ r = 1) : sE L O r = 0 := by rw [sE, if_neg (by simp [h]), if_neg (by omega)]
theorem priceOf_sale {O : List Int} {r : Int} {b g : Nat} {v s : Int} (eb : bestOf O (-1) = b) (eg : bestOf O b = g) (h : Sale O b v g s) : priceOf O r = if r = 1 then (v + s) / 2 else s := by
  have h1 : O.getD b 0 = v := by simp [List.getD, h.best.val]
  have h2 : O.getD g 0 = s := by simp [List.getD, h.second.val]
  simp only [priceOf, eb, eg, Int.toNat_natCast, h1, h2]

set_option maxHeartbeats 400000 in
theorem dSold {w : World} {B C : Nat} {A A' : Option Addr} {L O : List Int} {cap cap' : Nat} (h : Rd w B A L) (h' : Rd w C A' O) (hC : C ≤ w.heap.size) (r : Int) :
    Calls Try.prog 69 #[.slice A L.length cap, .slice A' O.length cap', .int .i64 r] w fun e w' => e = .returned (.tuple #[.int .i64 (sB L O r), .int .i64 (sP L O r), .int .i64 (sE L O r)]) ∧ Below w.heap.size w w' := by
  by_cases hl : lok L O = 0
  · obtain ⟨b, v, g, s, eb, eg, hs⟩ := (lok_ok hl).sale
    by_cases h0 : r = 0
    · subst h0
      have he := sE_ok hl (r := 0) (.inl rfl)
      rw [sB, sP, he, if_pos rfl, if_pos rfl, priceOf_sale eb eg hs, eb]
      exact dSold0 h h' hC hl eb eg hs
    · by_cases h1 : r = 1
      · subst h1
        have he := sE_ok hl (r := 1) (.inr rfl)
        rw [sB, sP, he, if_pos rfl, if_pos rfl, priceOf_sale eb eg hs, eb]
        exact dSold1 h h' hC hl eb eg hs
      · have he := sE_rule hl h0 h1
        rw [sB, sP, he, if_neg (by decide), if_neg (by decide)]
        have C1 := dLooked (cap := cap) (cap' := cap') h h'
        rw [hl] at C1
        have C2 := ruledNo (w := w) (r := r) (by simpa using h0) (by simpa using h1)
        clear h h' hC hl he eb eg hs h0 h1
        go_enter Try.func69, Try.ntmps69
        go_wp2_with (first | (go_at_call 96; refine C1.mono ?_; rintro e w' ⟨rfl, rfl⟩) | (go_at_call 97; refine C2.mono ?_; rintro e w' ⟨rfl, rfl⟩))
        go_ret3
        exact ⟨rfl, Below.refl _ _⟩
  · have he := sE_lok (r := r) hl
    rw [sB, sP, he, if_neg hl, if_neg hl]
    have C1 := dLooked (cap := cap) (cap' := cap') h h'
    have hb : (lok L O != 0) = true := by simpa using hl
    clear h h' hC hl he
    generalize lok L O = c at *
    go_enter Try.func69, Try.ntmps69
    go_wp2_with (go_at_call 96; refine C1.mono ?_; rintro e w' ⟨rfl, rfl⟩)
    go_ret3
    exact ⟨rfl, Below.refl _ _⟩

theorem rLooked {w : World} {B C : Nat} {A A' : Option Addr} {L O : List Int} {cap cap' : Nat} (h : Rd w B A L) (h' : Rd w C A' O) (r : Int) :
    Calls Try.prog 94 #[.slice A L.length cap, .slice A' O.length cap', .int .i64 r] w fun e w' => e = .returned (.int .i64 (sE L O r)) ∧ w = w' := by
  have C1 := rOffers (cap := cap) (cap' := cap') h h'
  clear h h'
  by_cases hl : lok L O = 0
  · have hE0 : r = 0 → sE L O r = 0 := fun h => sE_ok hl (.inl h)
    have hE1 : r = 1 → sE L O r = 0 := fun h => sE_ok hl (.inr h)
    have hE2 : r ≠ 0 → r ≠ 1 → sE L O r = 2 := fun h h' => sE_rule hl h h'
    rw [hl] at C1
    clear hl
    generalize sE L O r = c at *
    by_cases h0 : r = 0
    · obtain rfl := hE0 h0
      clear hE0 hE1 hE2
      have hb0 : (r != 0) = false := by simpa using h0
      clear h0
      go_enter Try.func94, Try.ntmps94
      go_wp2_with (go_at_call 15; refine C1.mono ?_; rintro e w' ⟨rfl, rfl⟩)
      go_ret
      exact ⟨rfl, rfl⟩
    · have hb0 : (r != 0) = true := by simpa using h0
      by_cases h1 : r = 1
      · obtain rfl := hE1 h1
        clear hE0 hE1 hE2
        have hb1 : (r != 1) = false := by simpa using h1
        clear h0 h1
        go_enter Try.func94, Try.ntmps94
        go_wp2_with (go_at_call 15; refine C1.mono ?_; rintro e w' ⟨rfl, rfl⟩)
        go_ret
        exact ⟨rfl, rfl⟩
      · obtain rfl := hE2 h0 h1
        clear hE0 hE1 hE2
        have hb1 : (r != 1) = true := by simpa using h1
        clear h0 h1
        go_enter Try.func94, Try.ntmps94
        go_wp2_with (go_at_call 15; refine C1.mono ?_; rintro e w' ⟨rfl, rfl⟩)
        go_ret
        exact ⟨rfl, rfl⟩
  · rw [sE_lok hl]
    have hb : (lok L O != 0) = true := by simpa using hl
    clear hl
    generalize lok L O = c at *
    go_enter Try.func94, Try.ntmps94
    go_wp2_with (go_at_call 15; refine C1.mono ?_; rintro e w' ⟨rfl, rfl⟩)
    go_ret
    exact ⟨rfl, rfl⟩

/-- the greatest of the first k offers, but b's -/
structure MaxAt (O : List Int) (b : Nat) (k : Nat) (m : Int) : Prop where
  lo : 0 ≤ m
  hi : m ≤ 1000000
  le : ∀ (j : Nat) y, j < k → j ≠ b → O[j]? = some y → y ≤ m
  is : m = 0 ∨ ∃ j, j < k ∧ j ≠ b ∧ O[j]? = some m
theorem MaxAt.skip {O : List Int} {b k : Nat} {m : Int} (h : MaxAt O b k m) (hk : k = b) : MaxAt O b (k + 1) m :=
  ⟨h.lo, h.hi, fun j y hj hjb hy => h.le j y (by omega) hjb hy, by
    rcases h.is with h0 | ⟨j, h1, h2, h3⟩
    · exact .inl h0
    · exact .inr ⟨j, by omega, h2, h3⟩⟩
theorem MaxAt.next {O : List Int} {b k : Nat} {m x : Int} (h : MaxAt O b k m) (hk : k ≠ b) (hx : O[k]? = some x) (h0 : 0 ≤ x) (h1 : x ≤ 1000000) : MaxAt O b (k + 1) (max m x) := by
  have hlo := h.lo
  have hhi := h.hi
  refine ⟨by omega, by omega, fun j y hj hjb hy => ?_, ?_⟩
  · rcases Nat.lt_or_ge j k with hlt | hge
    · have := h.le j y hlt hjb hy; omega
    · obtain rfl : j = k := by omega
      rw [hx] at hy; cases hy; omega
  · rcases Int.le_total x m with hle | hle
    · rw [Int.max_eq_left hle]
      rcases h.is with h0 | ⟨j, h1, h2, h3⟩
      · exact .inl h0
      · exact .inr ⟨j, by omega, h2, h3⟩
    · rw [Int.max_eq_right hle]
      exact .inr ⟨k, by omega, hk, hx⟩
theorem MaxAt.done {O : List Int} {b g : Nat} {m s : Int} (h : MaxAt O b O.length m) (hs : IsBest O b g s) (h0 : 0 ≤ s) : m = s := by
  have h1 := h.le g s hs.lt_len (by have := hs.ne; omega) hs.val
  rcases h.is with h2 | ⟨j, h2, h3, h4⟩
  · omega
  · have := hs.le j m (by omega) h4
    omega

set_option maxHeartbeats 400000 in
theorem rPriced {w : World} {C : Nat} {A' : Option Addr} {L O : List Int} {cap' : Nat} (h' : Rd w C A' O) (hC : C ≤ w.heap.size) (r : Int) (hok : lok L O = 0) :
    Calls Try.prog 95 #[.slice A' O.length cap', .int .i64 r] w fun e w' => e = .returned (.int .i64 (priceOf O r)) ∧ Below w.heap.size w w' := by
  have hV := lok_ok hok
  obtain ⟨b, v, g, s, eb, eg, hs⟩ := hV.sale
  have hpos : 0 < O.length := by have := hV.len; have := hV.v.two; omega
  have C2 := rBought (cap := cap') h' hC hpos
  rw [boughtOf_eq hpos, eb] at C2
  have hbl := hs.best.lt_len
  have hlen := h'.len
  have hv := hV.bd v (mem_of hs.best.val)
  have hsb := hV.bd s (mem_of hs.second.val)
  have hfin := Lib.hid (priceOf_sale (r := r) eb eg hs)
  have H := Lib.hid h'
  have HV := Lib.hid hV
  have HS := Lib.hid hs
  have HC := Lib.hid hC
  clear h' hV hs eb eg hok hC
  go_enter Try.func95, Try.ntmps95
  go_wp2_with (go_at_call 68; refine C2.mono ?_; rintro e w1 ⟨rfl, hbel⟩)
  have H1 := Lib.hid (H.out.below hbel HC.out)
  have HBEL := Lib.hid hbel
  clear hbel C2
  go_loop [6, 7] (fun sec i => ∃ (k : Nat) (m : Int), k ≤ O.length ∧ 0 ≤ m ∧ m ≤ 1000000 ∧ i = .int .i64 k ∧ sec = .int .i64 m ∧ Hid (MaxAt O b k m)) (fun _ i => O.length - (intOf i).toNat)
  case atStart => exact ⟨0, 0, by omega, by omega, by omega, rfl, rfl, Lib.hid ⟨by omega, by omega, by intro j y hj; omega, .inl rfl⟩⟩
  case round =>
    obtain ⟨k, m, hk, hm0, hm1, rfl, rfl, hr⟩ := hrel
    by_cases hlt : k < O.length
    · obtain ⟨bb, off, x, rfl, hbb, hx, hi, hc⟩ := H1.out.at_ hlt
      have hxb := HV.out.bd x (mem_of hx)
      have HX := Lib.hid hx; clear hx
      have HI := Lib.hid hi; clear hi
      by_cases hkb : k = b
      · have hne : ((k : Int) != (b : Int)) = false := by simp; omega
        have hnext := Lib.hid (hr.out.skip hkb)
        clear hkb
        go_wp2
        go_round
        case rel => exact ⟨k + 1, m, by omega, by omega, by omega, by go_num, rfl, hnext⟩
        case measure => simp [intOf]; omega
      · have hne : ((k : Int) != (b : Int)) = true := by simp; omega
        have hnext := Lib.hid (hr.out.next hkb HX.out hxb.1 hxb.2)
        clear hkb
        go_wp2
        go_round
        case rel => exact ⟨k + 1, max m x, by omega, by omega, by omega, by go_num, int_of (by split <;> omega), hnext⟩
        case measure => simp [intOf]; omega
    · obtain rfl : k = O.length := by omega
      have hm := hr.out.done HS.out.second hsb.1
      subst hm
      obtain ⟨bb, off, rfl, hbb, hcells⟩ := H1.out.2.2 hpos
      have hcb := hcells b v HS.out.best.val
      clear hcells
      by_cases hr1 : r = 1
      · have hd : (r == 1) = true := by simpa using hr1
        rw [if_pos hr1] at hfin
        clear hr1
        go_wp2
        go_ret
        exact ⟨ret_int (by rw [hfin.out]; congr 1; omega), HBEL.out⟩
      · have hd : (r == 1) = false := by simpa using hr1
        rw [if_neg hr1] at hfin
        clear hr1
        go_wp2
        go_ret
        exact ⟨ret_int (by rw [hfin.out]), HBEL.out⟩
end Go.Proofs.Ytjgobpejifhphaa
