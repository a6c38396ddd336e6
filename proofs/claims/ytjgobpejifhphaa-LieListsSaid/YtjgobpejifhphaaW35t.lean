import Derived.Test.YtjgobpejifhphaaW35s
/-! Walks of chapter 35: the reference's List.
-/
namespace Go.Proofs.Ytjgobpejifhphaa
open Go.RowKit Go.Deep
set_option linter.unusedVariables false
set_option maxRecDepth 100000

def lsL (O : List Int) (R : List (List Int)) (a : Int) (V : List Int) : List Int := if lkd35 O R a V = 0 then (bestR O R a V).1 else []
def lsN (O : List Int) (R : List (List Int)) (a : Int) (V : List Int) : Int := if lkd35 O R a V = 0 then (bestR O R a V).2 else 0
/-- a list, a number and an error -/
def RowNE (w : World) (L : List Int) (n c : Int) (e : Ending) (w' : World) : Prop :=
  ∃ A cap, e = .returned (.tuple #[.slice A L.length cap, .int .i64 n, .int .i64 c]) ∧ Rd w' w'.heap.size A L ∧ Below w.heap.size w w'
theorem bestL_take {f : List Int → Int} {L : List (List Int)} {i : Nat} {x : List Int} (h : L[i]? = some x) (r : List Int × Int) : bestL f (L.take (i + 1)) r = if (bestL f (L.take i) r).2 < f x then (x, f x) else bestL f (L.take i) r := by
  rw [takeA_succ h, bestL_snoc]
theorem rkAll_pos (n : Nat) : 0 < (rkAll n).length := List.length_pos_of_mem (rkAll_mem.2 (List.Perm.refl _))
set_option maxHeartbeats 2000000 in
theorem rListE {w : World} {B C D : Nat} {A A' A3 : Option Addr} {O V : List Int} {R : List (List Int)} {cap cap' cap3 : Nat} (a : Int) (h : Rd w B A O) (h' : Rd2 w C A' R) (h3 : Rd w D A3 V) (hB : B ≤ w.heap.size) (hC : C ≤ w.heap.size) (hD : D ≤ w.heap.size) :
    Calls Try.prog 30 #[.slice A O.length cap, .slice A' R.length cap', .int .i64 a, .slice A3 V.length cap3] w (RowNE w (lsL O R a V) (lsN O R a V) (lkd35 O R a V)) := by
  have C1 := rLooked35 (cap := cap) (cap' := cap') (cap3 := cap3) a h h' h3
  by_cases hk : lkd35 O R a V = 0
  · obtain ⟨hor, hv, ha0, ha1⟩ := lkd35_zero hk
    obtain ⟨k, rfl⟩ : ∃ k : Nat, a = k := ⟨a.toNat, by omega⟩
    have hkR : k < R.length := by omega
    have C2 := rRankings (m := O.length) hor.o6 O.length w w.heap.size w.heap.size none [] 0 (Rd.nil _ _ _) (Nat.le_refl _) (by simp) (by simp) (by simp) (Nat.le_refl _)
    have HS : Hid (∀ (u : World), Below w.heap.size w u → ∀ A4 l c4 E, Rd u E A4 l → E ≤ u.heap.size → l ∈ rkAll O.length → Calls Try.prog 59 #[.slice A O.length cap, .slice A' R.length cap', .int .i64 (k : Int), .slice A3 V.length cap3, .slice A4 l.length c4] u fun e w' => e = .returned (.int .i64 (hasW O R k V l)) ∧ Below u.heap.size u w') := Lib.hid fun u hu A4 l c4 E hl hE hm =>
      rSumW (h.below hu hB) (h'.below hu hC) (h3.below hu hD) hl (Nat.le_trans hB hu.size) (Nat.le_trans hC hu.size) (Nat.le_trans hD hu.size) hE hor hv (rkAll_perm hm) hkR
    have HL : Hid (lsL O R k V = (bestL (hasW O R k V) (rkAll O.length) ([], -1)).1) := Lib.hid (by rw [lsL, if_pos hk]; rfl)
    have HN : Hid (lsN O R k V = (bestL (hasW O R k V) (rkAll O.length) ([], -1)).2) := Lib.hid (by rw [lsN, if_pos hk]; rfl)
    have HBD : Hid (∀ l, 0 ≤ hasW O R k V l ∧ hasW O R k V l ≤ 6000) := Lib.hid fun l => hasW_bd hor hv
    have hlen : (rkAll O.length).length ≤ 46656 := rkF_small hor.o6 hor.o6 _
    have hpos := rkAll_pos O.length
    have HI64 : Hid (∀ l ∈ rkAll O.length, ∀ x ∈ l, I64 x) := Lib.hid fun l hl x hx => by
      obtain ⟨g, rfl, hg⟩ := iota_mem.1 ((rkAll_perm hl).mem_iff.2 hx)
      have := hor.o6
      unfold I64; omega
    rw [hk] at C1 ⊢
    rw [show rkF O.length O.length [] = rkAll O.length from rfl] at C2
    rw [List.length_nil] at C2
    clear hk h h' h3 hor hv ha0 ha1
    generalize hasW O R (k : Int) V = fw at *
    generalize rkAll O.length = RK at *
    have HC2 := Lib.hid C2
    clear C2
    go_enter Try.func30, Try.ntmps30
    go_wp2_with (go_at_call 58; refine C1.mono ?_; rintro e w' ⟨rfl, rfl⟩)
    clear C1
    refine HC2.out.mono ?_
    rintro e w1 ⟨A5, c5, us, rfl, _, _, _, _, hrd, hb1⟩
    have HRD := Lib.hid hrd
    have HB1 := Lib.hid hb1
    clear hrd hb1 HC2
    go_wp2_with fail
    go_loopw [12, 13, 14] (fun bv gv iv wr => ∃ (i bst : Nat), i ≤ RK.length ∧ iv = .int .i64 i ∧ bv = .int .i64 bst ∧ gv = .int .i64 (bestL fw (RK.take i) ([], -1)).2 ∧ Hid (0 < i → RK[bst]? = some (bestL fw (RK.take i) ([], -1)).1) ∧ Hid (bst < RK.length) ∧ Hid (Below w1.heap.size w1 wr)) (fun _ _ iv _ => RK.length - (intOf iv).toNat)
    case atStart => exact ⟨0, 0, by omega, rfl, rfl, rfl, Lib.hid (fun h => by omega), Lib.hid hpos, Lib.hid (Below.refl _ _)⟩
    case round =>
      obtain ⟨i, bst, hi, rfl, rfl, rfl, hbs, hbl, hb⟩ := hrel
      by_cases hlt : i < RK.length
      · obtain ⟨b1, o1, l, A6, c6, rfl, hbb, hx, hcx, hrl⟩ := (HRD.out.below hb.out (Nat.le_refl _)).at_ hlt
        have hst := bestL_take (f := fw) hx ([], -1)
        have CS := HS.out _ (HB1.out.trans (hb.out.mono HB1.out.size)) A6 l c6 _ hrl hb.out.size (List.mem_of_getElem? hx)
        have HCS := Lib.hid CS
        have HX := Lib.hid hx
        have hbd := HBD.out l
        have hge := bestL_ge fw (RK.take i) ([], -1)
        clear CS hx hrl
        by_cases hg : (bestL fw (RK.take i) ([], -1)).2 < fw l
        · rw [if_pos hg] at hst
          have HST := Lib.hid hst
          have d1 : decide ((bestL fw (RK.take i) ([], -1)).2 < fw l) = true := decide_eq_true hg
          clear hst hg hbs hge
          generalize (bestL fw (RK.take i) ([], -1)).2 = gg at *
          go_wp2_with fail
          refine HCS.out.mono ?_
          rintro e w5 ⟨rfl, hb5⟩
          have HB5 := Lib.hid (hb.out.trans (hb5.mono hb.out.size))
          clear hb5 HCS
          go_wp2
          go_roundw
          case rel => exact ⟨i + 1, i, by omega, by go_num, rfl, by rw [HST.out], Lib.hid (fun _ => by rw [HST.out]; exact HX.out), Lib.hid (by omega), HB5⟩
          case measure => simp [intOf]; omega
        · rw [if_neg hg] at hst
          have HST := Lib.hid hst
          have d1 : decide ((bestL fw (RK.take i) ([], -1)).2 < fw l) = false := decide_eq_false hg
          have HBS : Hid (RK[bst]? = some (bestL fw (RK.take i) ([], -1)).1) := Lib.hid (hbs.out (by
            rcases Nat.eq_zero_or_pos i with h0 | h0
            · subst h0
              rw [List.take_zero] at hg
              exact absurd (show (-1 : Int) < fw l by omega) hg
            · exact h0))
          clear hst hg hbs hge
          generalize hgg : (bestL fw (RK.take i) ([], -1)).2 = gg at *
          have HGG := Lib.hid hgg
          clear hgg
          go_wp2_with fail
          refine HCS.out.mono ?_
          rintro e w5 ⟨rfl, hb5⟩
          have HB5 := Lib.hid (hb.out.trans (hb5.mono hb.out.size))
          clear hb5 HCS
          go_wp2
          go_roundw
          case rel => exact ⟨i + 1, bst, by omega, by go_num, rfl, by rw [HST.out, HGG.out], Lib.hid (fun _ => by rw [HST.out]; exact HBS.out), hbl, HB5⟩
          case measure => simp [intOf]; omega
      · obtain rfl : i = RK.length := by omega
        rw [List.take_length] at hbs ⊢
        have hx0 := hbs.out hpos
        obtain ⟨b1, o1, l, A6, c6, rfl, hbb, hx, hcx, hrl⟩ := (HRD.out.below hb.out (Nat.le_refl _)).at_ hbl.out
        rw [hx0] at hx
        cases hx
        have hbli := hbl.out
        have HRL := Lib.hid (hrl.more hb.out.size)
        have HB := Lib.hid (HB1.out.trans (hb.out.mono HB1.out.size))
        clear hx0 hrl hbs HRD
        go_wp2
        go_ret3
        rw [HL.out, HN.out]
        exact ⟨_, _, rfl, HRL.out, HB.out⟩
  · have HL : Hid (lsL O R a V = []) := Lib.hid (by rw [lsL, if_neg hk])
    have HN : Hid (lsN O R a V = 0) := Lib.hid (by rw [lsN, if_neg hk])
    have hne : (lkd35 O R a V != 0) = true := by rw [bne_iff_ne]; exact hk
    rw [HL.out, HN.out]
    clear hk h h' h3 HL HN
    generalize lkd35 O R a V = c at *
    go_enter Try.func30, Try.ntmps30
    go_wp2_with (go_at_call 58; refine C1.mono ?_; rintro e w' ⟨rfl, rfl⟩)
    go_ret3
    exact ⟨none, 0, rfl, Rd.nil _ _ _, Below.refl _ _⟩
end Go.Proofs.Ytjgobpejifhphaa
