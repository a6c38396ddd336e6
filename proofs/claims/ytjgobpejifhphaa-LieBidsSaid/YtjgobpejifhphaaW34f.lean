import Derived.Test.YtjgobpejifhphaaW34e
/-! Walks of chapter 34: the reference's Offers, bought; both Buyers. -/
namespace Go.Proofs.Ytjgobpejifhphaa
open Go.RowKit
set_option linter.unusedVariables false

theorem any_no {O : List Int} {k : Nat} {x : Int} (h : O[k]? = some x) (hb : badOffer x = false) : (O.drop (k + 1)).any badOffer = (O.drop k).any badOffer := by
  rw [drop_of h]; simp [hb]
theorem any_yes {O : List Int} {k : Nat} {x : Int} (h : O[k]? = some x) (hb : badOffer x = true) : (O.drop k).any badOffer = true := by
  rw [drop_of h]; simp [hb]

set_option maxHeartbeats 400000 in
theorem rOffers {w : World} {B C : Nat} {A A' : Option Addr} {L O : List Int} {cap cap' : Nat} (h : Rd w B A L) (h' : Rd w C A' O) :
    Calls Try.prog 15 #[.slice A L.length cap, .slice A' O.length cap'] w fun e w' => e = .returned (.int .i64 (lok L O)) ∧ w = w' := by
  have C1 := rCheck (cap := cap) h
  have l1 := h.len
  have l2 := h'.len
  have H := Lib.hid h'
  clear h h'
  by_cases hc : chk L = 0
  · by_cases hl : O.length = L.length
    · have hfin : Hid (∀ b, O.any badOffer = b → lok L O = if b then 8 else 0) := Lib.hid (by intro b hb; cases b; exact lok_yes hc hl hb; exact lok_any hc hb)
      rw [hc] at C1
      have HL := Lib.hid hl; clear hl
      clear hc
      have hb : ((O.length : Int) != (L.length : Int)) = false := by rw [HL.out]; simp
      go_enter Try.func15, Try.ntmps15
      go_wp2_with (go_at_call 39; refine C1.mono ?_; rintro e w' ⟨rfl, rfl⟩)
      go_loop [5] (fun i => ∃ (k : Nat), k ≤ O.length ∧ i = .int .i64 k ∧ Hid ((O.drop k).any badOffer = O.any badOffer)) (fun i => O.length - (intOf i).toNat)
      case atStart => exact ⟨0, by omega, rfl, Lib.hid (by simp)⟩
      case round =>
        obtain ⟨k, hk, rfl, hr⟩ := hrel
        by_cases hlt : k < O.length
        · obtain ⟨b, off, x, rfl, hbb, hx, hi, hcell⟩ := H.out.at_ hlt
          have HI := Lib.hid hi; clear hi
          have HX := Lib.hid hx; clear hx
          by_cases h1 : x < 0
          · go_wp2
            go_ret
            exact ⟨ret_int (by rw [hfin.out true (by rw [← hr.out]; exact any_yes HX.out (by simp [badOffer, h1]))]; rfl), rfl⟩
          · by_cases h2 : 1000000 < x
            · go_wp2
              go_ret
              exact ⟨ret_int (by rw [hfin.out true (by rw [← hr.out]; exact any_yes HX.out (by simp [badOffer, h2]))]; rfl), rfl⟩
            · go_wp2
              go_round
              case rel => exact ⟨k + 1, by omega, by go_num, Lib.hid (by rw [any_no HX.out (by simp [badOffer, h1, h2]), hr.out])⟩
              case measure => simp [intOf]; omega
        · go_wp2
          go_ret
          exact ⟨ret_int (by rw [hfin.out false (by rw [← hr.out, drop_end (by omega)]; rfl)]; rfl), rfl⟩
    · have hfin := Lib.hid (lok_len hc hl)
      rw [hc] at C1
      clear hc
      have hb : ((O.length : Int) != (L.length : Int)) = true := by simp; omega
      go_enter Try.func15, Try.ntmps15
      go_wp2_with (go_at_call 39; refine C1.mono ?_; rintro e w' ⟨rfl, rfl⟩)
      go_ret
      exact ⟨ret_int hfin.out.symm, rfl⟩
  · have hfin := Lib.hid (lok_chk (O := O) hc)
    have hb : (chk L != 0) = true := by simpa using hc
    clear hc
    generalize chk L = c at *
    go_enter Try.func15, Try.ntmps15
    go_wp2_with (go_at_call 39; refine C1.mono ?_; rintro e w' ⟨rfl, rfl⟩)
    go_ret
    exact ⟨ret_int hfin.out.symm, rfl⟩

def boughtOf : List Int → Int
  | [] => 0
  | x :: t => bestGo (-1) t 1 0 x
theorem boughtOf_eq {O : List Int} (h : 0 < O.length) : boughtOf O = bestOf O (-1) := by
  cases O with
  | nil => simp at h
  | cons x t => rw [bestOf, bestGo_yes (by decide) (by simp [betterB])]; rfl

set_option maxHeartbeats 400000 in
theorem rBought {w : World} {B : Nat} {A : Option Addr} {O : List Int} {cap : Nat} (h : Rd w B A O) (hB : B ≤ w.heap.size) (h0 : 0 < O.length) :
    Calls Try.prog 68 #[.slice A O.length cap] w fun e w' => e = .returned (.int .i64 (boughtOf O)) ∧ Below w.heap.size w w' := by
  have hlen := h.len
  obtain ⟨x0, hx0⟩ : ∃ x, O[0]? = some x := ⟨O[0], by simp [h0]⟩
  have hst : bestGo (-1) (O.drop 1) 1 0 x0 = boughtOf O := by
    cases O with
    | nil => simp at h0
    | cons x t => simp at hx0; subst hx0; rfl
  have H := Lib.hid h
  have HB := Lib.hid hB
  have HS := Lib.hid hst
  have HX0 := Lib.hid hx0
  clear h hst hx0 hB
  go_enter Try.func68, Try.ntmps68
  go_wp2
  go_loopw [3, 4] (fun f i wr => ∃ (k g : Nat) (gv : Int), 1 ≤ k ∧ k ≤ O.length ∧ g < k ∧ i = .int .i64 k ∧ f = .int .i64 g ∧ Hid (O[g]? = some gv) ∧ Hid (Below w.heap.size w wr) ∧ Hid (bestGo (-1) (O.drop k) k g gv = boughtOf O)) (fun _ i _ => O.length - (intOf i).toNat)
  case atStart => exact ⟨1, 0, x0, by omega, by omega, by omega, rfl, rfl, HX0, Lib.hid (Below.refl _ _), Lib.hid HS.out⟩
  case round =>
    obtain ⟨k, g, gv, hk1, hk, hg, rfl, rfl, hf, hbw, hr⟩ := hrel
    by_cases hlt : k < O.length
    · obtain ⟨b, off, x, rfl, hb, hx, hi, hc⟩ := (H.out.below hbw.out HB.out).at_ hlt
      have hcg : wr.cell? ⟨b, off + g, none⟩ = some (.int .i64 gv) := by
        obtain ⟨b', off', e, _, hcells⟩ := (H.out.below hbw.out HB.out).2.2 (by omega)
        cases e
        exact hcells g gv hf.out
      have hgl : g < O.length := by omega
      have HI := Lib.hid hi; clear hi
      have HX := Lib.hid hx; clear hx
      by_cases hbt : gv < x
      · have hd : decide (gv < x) = true := by simpa using hbt
        go_wp2
        go_quiet (fail)
        go_wp2
        go_roundw
        case rel => exact ⟨k + 1, k, x, by omega, by omega, by omega, by go_num, rfl, HX, Lib.hid (below_drewN hbw.out _), Lib.hid (by rw [← hr.out, drop_of HX.out, bestGo_yes (by omega) (by simp [betterB, hbt])]; rfl)⟩
        case measure => simp [intOf]; omega
      · have hd : decide (gv < x) = false := by simpa using hbt
        go_wp2
        go_quiet (fail)
        go_wp2
        go_roundw
        case rel => exact ⟨k + 1, g, gv, by omega, by omega, by omega, by go_num, rfl, hf, Lib.hid (below_drewN hbw.out _), Lib.hid (by rw [← hr.out, drop_of HX.out, bestGo_no (by simp [betterB]; omega)]; rfl)⟩
        case measure => simp [intOf]; omega
    · go_wp2
      go_ret
      exact ⟨ret_int (by rw [← hr.out, drop_end (by omega)]; rfl), hbw.out⟩
end Go.Proofs.Ytjgobpejifhphaa
