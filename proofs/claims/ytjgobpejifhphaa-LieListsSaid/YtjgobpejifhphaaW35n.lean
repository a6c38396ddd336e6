import Derived.Test.YtjgobpejifhphaaW35m
/-! Walks of chapter 35: the reference's sum; Has.
-/
namespace Go.Proofs.Ytjgobpejifhphaa
open Go.RowKit Go.Deep
set_option linter.unusedVariables false
set_option maxRecDepth 100000

/-- the values vs are slices that read as the lists F below block B of the world w -/
def VFix (w : World) (B : Nat) (vs : List Value) (F : List (List Int)) : Prop :=
  vs.length = F.length ∧ ∀ (i : Nat) (L : List Int), F[i]? = some L → ∃ A c, vs[i]? = some (.slice A L.length c) ∧ Rd w B A L
theorem VFix.nil (w : World) (B : Nat) : VFix w B [] [] := ⟨rfl, by simp⟩
theorem VFix.snoc {w : World} {B : Nat} {vs : List Value} {F : List (List Int)} (h : VFix w B vs F) {A : Option Addr} {L : List Int} (c : Nat) (hr : Rd w B A L) : VFix w B (vs ++ [.slice A L.length c]) (F ++ [L]) := by
  refine ⟨by simp [h.1], fun i M hi => ?_⟩
  rcases Nat.lt_or_ge i F.length with hlt | hge
  · rw [List.getElem?_append_left hlt] at hi
    obtain ⟨A', c', h1, h2⟩ := h.2 i M hi
    exact ⟨A', c', by rw [List.getElem?_append_left (by rw [h.1]; exact hlt)]; exact h1, h2⟩
  · rw [List.getElem?_append_right hge] at hi
    have hi0 : i - F.length = 0 := by
      rcases Nat.eq_zero_or_pos (i - F.length) with h0 | h0
      · exact h0
      · rw [List.getElem?_eq_none (by simp; omega)] at hi; cases hi
    rw [hi0] at hi
    cases hi
    exact ⟨A, c, by rw [List.getElem?_append_right (by rw [h.1]; exact hge), h.1, hi0]; rfl, hr⟩
theorem VFix.rows {w w' : World} {vs : List Value} {F : List (List Int)} (h : VFix w w.heap.size vs F) (hb : Below w.heap.size w w') : VRows w' vs F :=
  ⟨h.1, fun i L hi => by
    obtain ⟨A, c, h1, h2⟩ := h.2 i L hi
    exact ⟨A, c, h1, (h2.below hb (Nat.le_refl _)).more hb.size⟩⟩
set_option maxHeartbeats 2000000 in
theorem rSumW {w : World} {B C D E : Nat} {A A' A3 A4 : Option Addr} {O V own : List Int} {R : List (List Int)} {cap cap' cap3 cap4 a : Nat} (h : Rd w B A O) (h' : Rd2 w C A' R) (h3 : Rd w D A3 V) (h4 : Rd w E A4 own) (hB : B ≤ w.heap.size) (hC : C ≤ w.heap.size) (hD : D ≤ w.heap.size) (hE : E ≤ w.heap.size) (hor : OR O R) (hv : VR V O) (ho : (iota O.length).Perm own) (ha : a < R.length) :
    Calls Try.prog 59 #[.slice A O.length cap, .slice A' R.length cap', .int .i64 (a : Int), .slice A3 V.length cap3, .slice A4 own.length cap4] w fun e w' => e = .returned (.int .i64 (hasW O R a V own)) ∧ Below w.heap.size w w' := by
  have hor2 := hor.set a ho
  have hpl := pickK_length O (R.set a own) O.length
  have hps := fun (u : World) (g : Nat) (ho : Own u g 3 (pickK O (R.set a own) O.length)) => pick_rd hor2 (Nat.le_refl _) ho
  have hvl := hv.len
  have hbd := fun k => hasTo_bd (A := pickK O (R.set a own) O.length) (a := (a : Int)) hv.bd k
  have HH : Hid (hasW O R a V own = hasTo (pickK O (R.set a own) O.length) V a O.length) := Lib.hid (by rw [hasW, Int.toNat_natCast]; rfl)
  have l1 := hor.o6
  have l2 := hor.r6
  have H := Lib.hid h
  have H' := Lib.hid h'
  have H3 := Lib.hid h3
  have H4 := Lib.hid h4
  have HPS := Lib.hid hps
  have HBD := Lib.hid hbd
  have HPL := Lib.hid hpl
  have HVL := Lib.hid hvl
  have HOR2 := Lib.hid hor2
  obtain ⟨i0, hi, hz0, hz1, hz2⟩ := info_parts infoRow
  have HI := Lib.hid hi
  have HSL : Hid ((R.set a own).length = R.length) := Lib.hid (by simp)
  have HAT : Hid ((R.set a own)[a]? = some own) := Lib.hid (by rw [List.getElem?_set_self ha])
  have HNE : Hid (∀ k L, k ≠ a → R[k]? = some L → (R.set a own)[k]? = some L) := Lib.hid fun k L hk hL => by rw [List.getElem?_set_ne (by omega)]; exact hL
  clear h h' h3 h4 hor hv hps hbd hvl hpl hi hor2
  generalize R.set a own = R2 at *
  go_enter Try.func59, Try.ntmps59
  go_wp2_with fail
  go_loopw [11, 12] (fun fv iv wr => ∃ (k : Nat) (vs : List Value), k ≤ R.length ∧ iv = .int .i64 k ∧ Hid (wr.ownsRow w.heap.size 22 1 fv k vs) ∧ Hid (VFix w w.heap.size vs (R2.take k)) ∧ Hid (Below w.heap.size w wr)) (fun _ iv _ => R.length - (intOf iv).toNat)
  case atStart => exact ⟨0, [], by omega, rfl, Lib.hid (own_row_nil _ _ _), Lib.hid (VFix.nil _ _), Lib.hid (Below.refl _ _)⟩
  case round =>
    obtain ⟨k, vs, hk, rfl, hown, hvs, hb⟩ := hrel
    by_cases hlt : k < R.length
    · by_cases hka : k = a
      · have g1 : ((k : Int) == (a : Int)) = true := by rw [beq_iff_eq]; omega
        have HX : Hid (R2[k]? = some own) := Lib.hid (by rw [hka]; exact HAT.out)
        clear hka
        have hal := Below.alloc (B := wr.heap.size) (Below.refl _ wr) (Nat.le_refl _) (.cells #[.slice A4 own.length cap4] 22)
        have hoz := Lib.hid (hown.out.alloc (.cells #[.slice A4 own.length cap4] 22))
        have hcz := Lib.hid (new_one wr (.slice A4 own.length cap4) 22)
        have hbz := Lib.hid (hb.out.trans (hal.mono hb.out.size))
        have hsz : Hid ((wr.alloc (.cells #[.slice A4 own.length cap4] 22)).heap.size = wr.heap.size + 1) := Lib.hid (by simp)
        have hbs := Lib.hid hb.out.size
        have hvn := Lib.hid (hvs.out.snoc cap4 (H4.out.more hE))
        rw [← takeA_succ HX.out] at hvn
        clear hal hown hvs hb
        generalize hgw : wr.alloc (.cells #[.slice A4 own.length cap4] 22) = wa at *
        go_wp2_with (at_builtin; refine wpList_append_own_at _ rfl _ _ 29 rfl w.heap.size 22 i0 (.slice none 0 0) 1 24 Try.underlying29 HI.out hz0 hz1 hz2 rfl (by decide) _ k _ rfl hoz.out ⟨wr.heap.size, 0, none⟩ 1 1 [.slice A4 own.length cap4] rfl (by simp) hcz.out (by simp [Value.oneCell']) (by unfold maxLen; omega) (by omega) (by rw [hsz.out]; have := hbs.out; omega) ?_; intro v' w5 hown hgrow _ hat; have hb5 := Lib.hid (hbz.out.grown hgrow (by rw [hsz.out]; have := hbs.out; omega) (fun q hq => (hoz.out.lt q hq).1)); have ho5 := Lib.hid hown; clear hown hgrow hat hgw)
        go_roundw
        case rel => exact ⟨k + 1, _, by omega, by go_num, ho5, hvn, hb5⟩
        case measure => simp [intOf]; omega
      · have g1 : ((k : Int) == (a : Int)) = false := by rw [beq_eq_false_iff_ne]; omega
        obtain ⟨b2, o2, L, A2, c2, rfl, hb2, hL, hcL0, hrd⟩ := H'.out.at_ hlt
        have hcL : wr.cell? ⟨b2, o2 + k, none⟩ = some (.slice A2 L.length c2) := (cell_below hb.out (by omega)).trans hcL0
        have HRD := Lib.hid (hrd.more hC)
        have HX := Lib.hid (HNE.out k L hka hL)
        clear hka hL hrd hcL0
        have hal := Below.alloc (B := wr.heap.size) (Below.refl _ wr) (Nat.le_refl _) (.cells #[.slice A2 L.length c2] 22)
        have hoz := Lib.hid (hown.out.alloc (.cells #[.slice A2 L.length c2] 22))
        have hcz := Lib.hid (new_one wr (.slice A2 L.length c2) 22)
        have hbz := Lib.hid (hb.out.trans (hal.mono hb.out.size))
        have hsz : Hid ((wr.alloc (.cells #[.slice A2 L.length c2] 22)).heap.size = wr.heap.size + 1) := Lib.hid (by simp)
        have hbs := Lib.hid hb.out.size
        have hvn := Lib.hid (hvs.out.snoc c2 HRD.out)
        rw [← takeA_succ HX.out] at hvn
        clear hal hown hvs hb
        generalize hgw : wr.alloc (.cells #[.slice A2 L.length c2] 22) = wa at *
        go_wp2_with (at_builtin; refine wpList_append_own_at _ rfl _ _ 29 rfl w.heap.size 22 i0 (.slice none 0 0) 1 24 Try.underlying29 HI.out hz0 hz1 hz2 rfl (by decide) _ k _ rfl hoz.out ⟨wr.heap.size, 0, none⟩ 1 1 [.slice A2 L.length c2] rfl (by simp) hcz.out (by simp [Value.oneCell']) (by unfold maxLen; omega) (by omega) (by rw [hsz.out]; have := hbs.out; omega) ?_; intro v' w5 hown hgrow _ hat; have hb5 := Lib.hid (hbz.out.grown hgrow (by rw [hsz.out]; have := hbs.out; omega) (fun q hq => (hoz.out.lt q hq).1)); have ho5 := Lib.hid hown; clear hown hgrow hat hgw)
        go_roundw
        case rel => exact ⟨k + 1, _, by omega, by go_num, ho5, hvn, hb5⟩
        case measure => simp [intOf]; omega
    · obtain rfl : k = R.length := by omega
      obtain ⟨AF, cF, rfl, _⟩ := row_slice hown.out
      have hrs := hvs.out.rows hb.out
      rw [← HSL.out, List.take_length] at hrs
      have ho := hown.out
      rw [← HSL.out] at ho
      have hrd := rd2_of_row ho hrs (by rw [HSL.out]; omega)
      have CP := rPickW (cap := cap) (cap' := cF) (H.out.below hb.out hB) hrd (Nat.le_trans hB hb.out.size) (Nat.le_refl _) HOR2.out
      rw [HSL.out] at CP
      have HCP := Lib.hid CP
      clear CP hrs ho hrd hown hvs
      go_wp2_with fail
      refine HCP.out.mono ?_
      rintro e w6 ⟨g, rfl, hg, ho6, hb6⟩
      rw [HPL.out]
      have HRD := Lib.hid (HPS.out _ _ ho6)
      have HB6 := Lib.hid (hb.out.trans (hb6.mono hb.out.size))
      have H3' := Lib.hid (H3.out.below HB6.out hD)
      clear hg ho6 hb6 hb HCP HPS HNE HAT
      generalize pickK O R2 O.length = P at *
      go_wp2_with fail
      generalize wr = wz at *
      go_loop [14, 15] (fun acc iv => ∃ k : Nat, k ≤ O.length ∧ iv = .int .i64 k ∧ acc = .int .i64 (hasTo P V a k)) (fun _ iv => O.length - (intOf iv).toNat)
      case atStart => exact ⟨0, by omega, rfl, rfl⟩
      case round =>
        obtain ⟨k, hk, rfl, rfl⟩ := hrel
        have hb1 := HBD.out k
        by_cases hlt : k < O.length
        · obtain ⟨b1, o1, i, e1, hbb, hi, hi64, hci⟩ := HRD.out.at_ (k := k) (by rw [HPL.out]; exact hlt)
          cases e1
          obtain ⟨b2, o2, v, rfl, hb2, hvv, hv64, hcv⟩ := H3'.out.at_ (k := k) (by rw [HVL.out]; exact hlt)
          have hvk : (k : Int) < (V.length : Int) := by have := HVL.out; omega
          have hst := hasTo_succ (a := (a : Int)) hi hvv
          have hb2' := HBD.out (k + 1)
          rw [Nat.zero_add] at hci
          clear hi hvv hi64 hv64
          by_cases hia : i = (a : Int)
          · subst hia
            rw [if_pos rfl] at hst
            have HST := Lib.hid hst
            rw [hst] at hb2'
            have hlim : -9223372036854775808 ≤ hasTo P V a k + v ∧ hasTo P V a k + v ≤ 9223372036854775807 := by omega
            clear hst
            generalize hasTo P V a k = n1 at *
            go_wp2
            go_round
            case rel => exact ⟨k + 1, by omega, by go_num, by rw [HST.out]⟩
            case measure => simp [intOf]; omega
          · have hne : (i == (a : Int)) = false := by rw [beq_eq_false_iff_ne]; exact hia
            rw [if_neg hia, Int.add_zero] at hst
            have HST := Lib.hid hst
            clear hst hb2' hia
            generalize hasTo P V a k = n1 at *
            go_wp2
            go_round
            case rel => exact ⟨k + 1, by omega, by go_num, by rw [HST.out]⟩
            case measure => simp [intOf]; omega
        · obtain rfl : k = O.length := by omega
          go_wp2
          go_ret
          exact ⟨ret_int HH.out.symm, HB6.out⟩
end Go.Proofs.Ytjgobpejifhphaa
