import Derived.Test.YtjgobpejifhphaaW35l
import Derived.Test.YtjgobpejifhphaaS33l
/-! Walks of chapter 35: Pick, has, sum, Has.
-/
namespace Go.Proofs.Ytjgobpejifhphaa
open Go.RowKit Go.Deep
set_option linter.unusedVariables false
set_option maxRecDepth 100000

/-- a list and an error -/
def RowE (w : World) (L : List Int) (c : Int) (e : Ending) (w' : World) : Prop :=
  ∃ A cap, e = .returned (.tuple #[.slice A L.length cap, .int .i64 c]) ∧ Rd w' w'.heap.size A L ∧ Below w.heap.size w w'
theorem RowE.none_ (w w' : World) (c : Int) (h : Below w.heap.size w w') : RowE w [] c (.returned (.tuple #[.slice none 0 0, .int .i64 c])) w' := ⟨none, 0, rfl, Rd.nil _ _ _, h⟩
def pkL (O : List Int) (R : List (List Int)) : List Int := if chk35 O R = 0 then pickK O R O.length else []
theorem pick_rd {w : World} {g T : Nat} {O : List Int} {R : List (List Int)} {k : Nat} (h : OR O R) (hk : k ≤ O.length) (ho : Own w g T (pickK O R k)) : Rd w w.heap.size (some ⟨g, 0, none⟩) (pickK O R k) :=
  ho.rd (fun x hx => by have := pickK_bd h k hk x hx; have := h.r6; unfold I64; omega) (by rw [pickK_length]; have := h.o6; omega) ho.lt
set_option maxHeartbeats 1000000 in
theorem lPickE {w : World} {B C : Nat} {A A' : Option Addr} {O : List Int} {R : List (List Int)} {cap cap' : Nat} (h : Rd w B A O) (h' : Rd2 w C A' R) (hB : B ≤ w.heap.size) (hC : C ≤ w.heap.size) (hR : ∀ l ∈ R, l.length < 1000) :
    Calls Try.prog 23 #[.slice A O.length cap, .slice A' R.length cap'] w (RowE w (pkL O R) (chk35 O R)) := by
  have C1 := lCheck35 (cap := cap) (cap' := cap') h h' hB hC hR
  by_cases hk : chk35 O R = 0
  · have HOR := Lib.hid (chk35_zero hk)
    have C2 : Hid (∀ u, Below w.heap.size w u → Calls Try.prog 50 #[.slice A O.length cap, .slice A' R.length cap'] u (NewOwn u 3 (pickK O R O.length))) := Lib.hid fun u hu => lPickW (h.below hu hB) (h'.below hu hC) (Nat.le_trans hB hu.size) (Nat.le_trans hC hu.size) HOR.out
    have HL : Hid (pkL O R = pickK O R O.length) := Lib.hid (by rw [pkL, if_pos hk])
    rw [hk] at C1 ⊢
    clear hk h h'
    go_enter Try.func23, Try.ntmps23
    go_wp2_with fail
    refine C1.mono ?_
    rintro e w1 ⟨rfl, hb⟩
    have HB := Lib.hid hb
    clear hb C1
    go_wp2_with fail
    refine (C2.out _ HB.out).mono ?_
    rintro e w2 ⟨g, rfl, hg, ho, hb2⟩
    have HO := Lib.hid ho
    have HB2 := Lib.hid (HB.out.trans (hb2.mono HB.out.size))
    clear hg ho hb2
    go_wp2
    go_ret2
    rw [HL.out]
    exact ⟨_, _, rfl, pick_rd HOR.out (Nat.le_refl _) HO.out, HB2.out⟩
  · have HL : Hid (pkL O R = []) := Lib.hid (by rw [pkL, if_neg hk])
    have hne : (chk35 O R != 0) = true := by rw [bne_iff_ne]; exact hk
    clear hk h h'
    generalize chk35 O R = c at *
    go_enter Try.func23, Try.ntmps23
    go_wp2_with fail
    refine C1.mono ?_
    rintro e w1 ⟨rfl, hb⟩
    have HB := Lib.hid hb
    clear hb C1
    go_wp2
    go_ret2
    rw [HL.out]
    exact RowE.none_ _ _ _ HB.out
set_option maxHeartbeats 1000000 in
theorem rPickE {w : World} {B C : Nat} {A A' : Option Addr} {O : List Int} {R : List (List Int)} {cap cap' : Nat} (h : Rd w B A O) (h' : Rd2 w C A' R) (hB : B ≤ w.heap.size) (hC : C ≤ w.heap.size) :
    Calls Try.prog 26 #[.slice A O.length cap, .slice A' R.length cap'] w (RowE w (pkL O R) (chk35 O R)) := by
  have C1 := rCheck35 (cap := cap) (cap' := cap') h h'
  by_cases hk : chk35 O R = 0
  · have HOR := Lib.hid (chk35_zero hk)
    have C2 := Lib.hid (rPickW (cap := cap) (cap' := cap') h h' hB hC HOR.out)
    have HL : Hid (pkL O R = pickK O R O.length) := Lib.hid (by rw [pkL, if_pos hk])
    rw [hk] at C1 ⊢
    clear hk h h'
    go_enter Try.func26, Try.ntmps26
    go_wp2_with (go_at_call 17; refine C1.mono ?_; rintro e w' ⟨rfl, rfl⟩)
    refine C2.out.mono ?_
    rintro e w2 ⟨g, rfl, hg, ho, hb2⟩
    have HO := Lib.hid ho
    have HB2 := Lib.hid hb2
    clear hg ho hb2 C1 C2
    go_wp2
    go_ret2
    rw [HL.out]
    exact ⟨_, _, rfl, pick_rd HOR.out (Nat.le_refl _) HO.out, HB2.out⟩
  · have HL : Hid (pkL O R = []) := Lib.hid (by rw [pkL, if_neg hk])
    have hne : (chk35 O R != 0) = true := by rw [bne_iff_ne]; exact hk
    clear hk h h'
    generalize chk35 O R = c at *
    go_enter Try.func26, Try.ntmps26
    go_wp2_with (go_at_call 17; refine C1.mono ?_; rintro e w' ⟨rfl, rfl⟩)
    go_ret2
    rw [HL.out]
    exact RowE.none_ _ _ _ (Below.refl _ _)
theorem hasTo_succ {A V : List Int} {a i v : Int} {k : Nat} (hi : A[k]? = some i) (hv : V[k]? = some v) : hasTo A V a (k + 1) = hasTo A V a k + if i = a then v else 0 := by
  rw [hasTo, List.getD_eq_getElem?_getD, hi, List.getD_eq_getElem?_getD, hv]; rfl
set_option maxHeartbeats 1000000 in
theorem lHasW {w : World} {B C D : Nat} {A A' A3 : Option Addr} {O V : List Int} {R : List (List Int)} {cap cap' cap3 : Nat} (a : Int) (h : Rd w B A O) (h' : Rd2 w C A' R) (h3 : Rd w D A3 V) (hB : B ≤ w.heap.size) (hC : C ≤ w.heap.size) (hD : D ≤ w.heap.size) (hor : OR O R) (hv : VR V O) :
    Calls Try.prog 46 #[.slice A O.length cap, .slice A' R.length cap', .int .i64 a, .slice A3 V.length cap3] w fun e w' => e = .returned (.int .i64 (hasV O R a V)) ∧ Below w.heap.size w w' := by
  have C1 := lPickW (cap := cap) (cap' := cap') h h' hB hC hor
  have hpl := pickK_length O R O.length
  have hps := fun (u : World) (g : Nat) (ho : Own u g 3 (pickK O R O.length)) => pick_rd hor (Nat.le_refl _) ho
  have hvl := hv.len
  have hbd := fun k => hasTo_bd (A := pickK O R O.length) (a := a) hv.bd k
  have HH : Hid (hasV O R a V = hasTo (pickK O R O.length) V a O.length) := Lib.hid rfl
  have l1 := hor.o6
  generalize pickK O R O.length = P at *
  have H3 := Lib.hid h3
  have HPS := Lib.hid hps
  have HBD := Lib.hid hbd
  have HPL := Lib.hid hpl
  have HVL := Lib.hid hvl
  clear h h' h3 hor hv hps hbd hvl hpl
  go_enter Try.func46, Try.ntmps46
  go_wp2_with fail
  refine C1.mono ?_
  rintro e w1 ⟨g, rfl, hg, ho, hb⟩
  rw [HPL.out]
  have HRD := Lib.hid (HPS.out _ _ ho)
  have H3' := Lib.hid (H3.out.below hb hD)
  have HB := Lib.hid hb
  clear hg ho hb C1 HPS
  go_wp2_with fail
  go_loop [9, 16] (fun acc iv => ∃ k : Nat, k ≤ O.length ∧ iv = .int .i64 k ∧ acc = .int .i64 (hasTo P V a k)) (fun _ iv => O.length - (intOf iv).toNat)
  case atStart => exact ⟨0, by omega, rfl, rfl⟩
  case round =>
    obtain ⟨k, hk, rfl, rfl⟩ := hrel
    have hb1 := HBD.out k
    by_cases hlt : k < O.length
    · obtain ⟨b1, o1, i, e1, hbb, hi, hi64, hci⟩ := HRD.out.at_ (k := k) (by rw [HPL.out]; exact hlt)
      cases e1
      obtain ⟨b2, o2, v, rfl, hb2, hvv, hv64, hcv⟩ := H3'.out.at_ (k := k) (by rw [HVL.out]; exact hlt)
      have hvk : (k : Int) < (V.length : Int) := by have := HVL.out; omega
      have hst := hasTo_succ (a := a) hi hvv
      have hb2' := HBD.out (k + 1)
      rw [Nat.zero_add] at hci
      clear hi hvv hi64 hv64
      have HRES : Hid (∀ n2, n2 = hasTo P V a (k + 1) → n2 = hasTo P V a (k + 1)) := Lib.hid fun _ h => h
      by_cases hia : i = a
      · subst hia
        rw [if_pos rfl] at hst
        have HST := Lib.hid hst
        rw [hst] at hb2'
        have hlim : -9223372036854775808 ≤ hasTo P V i k + v ∧ hasTo P V i k + v ≤ 9223372036854775807 := by omega
        clear hst
        generalize hasTo P V i k = n1 at *
        go_wp2
        go_round
        case rel => exact ⟨k + 1, by omega, by go_num, by rw [HST.out]⟩
        case measure => simp [intOf]; omega
      · have hne : (i == a) = false := by rw [beq_eq_false_iff_ne]; exact hia
        rw [if_neg hia, Int.add_zero] at hst
        have HST := Lib.hid hst
        clear hst hb2' hia
        generalize hasTo P V a k = n1 at *
        go_wp2
        go_round
        case rel => exact ⟨k + 1, by omega, by go_num, by rw [HST.out]⟩
        case measure => simp [intOf]; omega
    · obtain rfl : k = O.length := by omega
      go_wp2
      go_ret
      exact ⟨ret_int HH.out.symm, HB.out⟩
theorem infoRow : (Try.prog.info? 22).map (fun i => (i.zero, i.size, i.bytes)) = some (some (.slice none 0 0), 1, 24) := by kernel_rfl
theorem VRowsN.snoc0 {w : World} {f : Value} {vs : List Value} {F : List (List Int)} (h : VRowsN w f vs F) {A : Option Addr} {L : List Int} {c : Nat} (hr : Rd w w.heap.size A L) (hn : 0 < L.length → ∀ p, A = some p → f.ownBlock ≠ some p.block) : VRowsN w f (vs ++ [.slice A L.length c]) (F ++ [L]) := by
  refine ⟨by simp [h.1], fun i M hi => ?_⟩
  rcases Nat.lt_or_ge i F.length with hlt | hge
  · rw [List.getElem?_append_left hlt] at hi
    obtain ⟨A', c', h1, h2, h3⟩ := h.2 i M hi
    exact ⟨A', c', by rw [List.getElem?_append_left (by rw [h.1]; exact hlt)]; exact h1, h2, h3⟩
  · rw [List.getElem?_append_right hge] at hi
    have hi0 : i - F.length = 0 := by
      rcases Nat.eq_zero_or_pos (i - F.length) with h0 | h0
      · exact h0
      · rw [List.getElem?_eq_none (by simp; omega)] at hi; cases hi
    rw [hi0] at hi
    cases hi
    exact ⟨A, c, by rw [List.getElem?_append_right (by rw [h.1]; exact hge), h.1, hi0]; rfl, hr, hn⟩
theorem set_take_succ {α : Type} {R : List α} {a k : Nat} {x : α} (h : (R.set a x).length = R.length) {y : α} (hy : (R.set a x)[k]? = some y) : (R.set a x).take (k + 1) = (R.set a x).take k ++ [y] := takeA_succ hy
end Go.Proofs.Ytjgobpejifhphaa
