import Derived.Test.YtkoipecnmijfoaaGreatTK2
import Derived.StillTailTactics
/-! Walks of keepsakes: Turns. -/
namespace Go.Proofs.YtkoipecnmijfoaaGreat
open Go.RowKit Go.Deep
set_option linter.unusedVariables false
set_option maxRecDepth 100000

def kE (P : List Int) (R : List (List Int)) (m : Nat) : Int := if chkK (List.replicate m (-1)) R ≠ 0 then chkK (List.replicate m (-1)) R else if ordB P R.length = false then 2 else 0
def kL (P : List Int) (R : List (List Int)) (m : Nat) : List Int := if kE P R m = 0 then pickK (turnsOf P m) R m else []
theorem kE_zero {P : List Int} {R : List (List Int)} {m : Nat} (h : kE P R m = 0) : chkK (List.replicate m (-1)) R = 0 ∧ ordB P R.length = true ∧ 0 < R.length ∧ R.length ≤ 6 ∧ (iota R.length).Perm P ∧ ∀ l ∈ R, (iota m).Perm l := by
  unfold kE at h
  split at h
  · rename_i h1; exact absurd h h1
  · rename_i h1
    split at h
    · exact absurd h (by decide)
    · rename_i h2
      have h3 : ordB P R.length = true := by simpa using h2
      have h4 : chkK (List.replicate m (-1)) R = 0 := by simpa using h1
      refine ⟨h4, h3, ?_⟩
      rw [chkK] at h4
      split at h4
      · exact absurd h4 (by decide)
      · rename_i g1
        split at h4
        · exact absurd h4 (by decide)
        · rename_i g2
          rw [not_or] at g1
          rw [not_or, not_or] at g2
          obtain ⟨a1, a2, a3⟩ := g2
          refine ⟨by cases R with | nil => exact absurd rfl a1 | cons x t => simp, by omega, ordB_iff.1 h3, fun l hl => ordB_iff.1 ?_⟩
          cases he : ordB l m
          · exact absurd (List.any_eq_true.2 ⟨l, hl, by rw [List.length_replicate, he]; rfl⟩) a2
          · rfl
set_option maxHeartbeats 2000000 in
theorem kTurns {w : World} {B C D : Nat} {A A1 A2 : Option Addr} {P : List Int} {R : List (List Int)} {cap cap1 cap2 m : Nat} (h : Rd w B A (List.replicate m (-1))) (h1 : Rd w D A1 P) (h2 : Rd2 w C A2 R) (hB : B ≤ w.heap.size) (hC : C ≤ w.heap.size) (hD : D ≤ w.heap.size) (hm : m ≤ 6)
    (hR : ∀ l ∈ R, l.length < 100000000000000) (hPl : P.length < 100000000000000) :
    Calls Tryz.prog 6 #[.slice A m cap, .slice A1 P.length cap1, .slice A2 R.length cap2] w (RowE w (kL P R m) (kE P R m)) := by
  have hml : (List.replicate m (-1 : Int)).length = m := List.length_replicate
  have l2 := h2.len
  have C1 := kLooked (cap := cap) (cap' := cap2) h h2 hB hC hR
  rw [hml] at C1
  have C2 := Lib.hid fun (u : World) (hu : Below w.heap.size w u) => kIsOrder (cap := cap1) (n := R.length) (h1.below hu hD) (Nat.le_trans hD hu.size) hPl (by omega)
  have C3 := Lib.hid fun (u : World) (hu : Below w.heap.size w u) => cloneA (cap := cap) (h.below hu hB) (Nat.le_trans hB hu.size)
  rw [hml] at C3
  by_cases hk : kE P R m = 0
  case neg =>
    have HL : Hid (kL P R m = []) := Lib.hid (by rw [kL, if_neg hk])
    rw [HL.out]
    by_cases hc : chkK (List.replicate m (-1)) R = 0
    · have hb : ordB P R.length = false := by
        cases ho : ordB P R.length
        · rfl
        · exact absurd (by rw [kE, if_neg (by rw [hc]; simp), if_neg (by rw [ho]; decide)]) hk
      have he : kE P R m = 2 := by rw [kE, if_neg (by rw [hc]; simp), if_pos hb]
      rw [he]
      rw [hc] at C1
      rw [hb] at C2
      clear hk he hb hc h h1 h2 HL
      go_enter Tryz.func6, Tryz.ntmps6
      go_wp2_with fail
      refine C1.mono ?_
      rintro e w1 ⟨rfl, hb1⟩
      have HB1 := Lib.hid hb1
      clear hb1 C1
      go_wp2_with fail
      refine (C2.out _ HB1.out).mono ?_
      rintro e w2 ⟨rfl, hb2⟩
      have HB2 := Lib.hid (HB1.out.trans (hb2.mono HB1.out.size))
      clear hb2
      go_wp2
      go_ret2
      exact RowE.none_ _ _ _ HB2.out
    · have he : kE P R m = chkK (List.replicate m (-1)) R := by rw [kE, if_pos hc]
      have hne : (chkK (List.replicate m (-1)) R != 0) = true := by rw [bne_iff_ne]; exact hc
      rw [he]
      clear hk he hc h h1 h2 HL
      generalize chkK (List.replicate m (-1)) R = c at *
      go_enter Tryz.func6, Tryz.ntmps6
      go_wp2_with fail
      refine C1.mono ?_
      rintro e w1 ⟨rfl, hb1⟩
      have HB1 := Lib.hid hb1
      clear hb1 C1
      go_wp2
      go_ret2
      exact RowE.none_ _ _ _ HB1.out
  obtain ⟨hc, ho, r0, r6, hperm, hrows⟩ := kE_zero hk
  have HL : Hid (kL P R m = pickK (turnsOf P m) R m) := Lib.hid (by rw [kL, if_pos hk])
  have HOR := Lib.hid (turns_or hm r0 r6 hperm hrows)
  have hPn : P.length = R.length := by rw [← hperm.length_eq, iota_length]
  rw [HL.out, hk]
  rw [hc] at C1
  rw [ho] at C2
  have HO1 := Lib.hid fun (u : World) (hu : Below w.heap.size w u) => h1.below hu hD
  have HR2 := Lib.hid fun (u : World) (hu : Below w.heap.size w u) => h2.below hu hC
  have hTl := turnsOf_length P m
  have HTL := Lib.hid hTl
  have HPN := Lib.hid hPn
  have HPK : Hid (∀ k, k ≤ m → (pickK (turnsOf P m) R k).length = m ∧ (∀ x ∈ pickK (turnsOf P m) R k, I64 x) ∧ decide ((-1 : Int) ∈ pickK (turnsOf P m) R k) = decide (k < m)) := Lib.hid fun k hk => by
    refine ⟨by rw [pickK_length, hTl], fun x hx => ?_, ?_⟩
    · have := pickK_bd HOR.out k (by rw [hTl]; exact hk) x hx
      unfold I64; omega
    · rw [pick_left HOR.out (by rw [hTl]; exact hk), hTl]
  have HP0 : Hid (pickK (turnsOf P m) R 0 = List.replicate m (-1)) := Lib.hid (by rw [pickK, hTl])
  have hP1 : 1 ≤ P.length := by omega
  have hP6 : P.length ≤ 6 := by omega
  have l1 := h1.len
  clear h h1 h2 hc ho hperm hrows hk hPn hTl
  by_cases hm0 : m = 0
  · subst hm0
    have hnil : pickK (turnsOf P 0) R 0 = [] := by rw [HP0.out]; rfl
    rw [hnil]
    clear HPK HP0 hnil HOR HTL HL HO1 HR2
    go_enter Tryz.func6, Tryz.ntmps6
    go_wp2_with fail
    refine C1.mono ?_
    rintro e w1 ⟨rfl, hb1⟩
    have HB1 := Lib.hid hb1
    clear hb1 C1
    go_wp2_with fail
    refine (C2.out _ HB1.out).mono ?_
    rintro e w2 ⟨rfl, hb2⟩
    have HB2 := Lib.hid (HB1.out.trans (hb2.mono HB1.out.size))
    clear hb2 C2
    go_wp2_with fail
    refine (C3.out _ HB2.out).mono ?_
    rintro e w3 ⟨A5, c5, rfl, _, hb3⟩
    have HB3 := Lib.hid (HB2.out.trans (hb3.mono HB2.out.size))
    clear hb3 C3
    rw [show (List.replicate 0 (-1 : Int)).length = 0 from rfl]
    have HBX := Lib.hid (HB3.out.alloc HB3.out.size (.cells #[.slice A5 0 c5] 22))
    have hcx : (w3.alloc (.cells #[.slice A5 0 c5] 22)).cell? ⟨w3.heap.size, 0, none⟩ = some (.slice A5 0 c5) := by simp
    go_wp2_with fail
    generalize w3.alloc (.cells #[.slice A5 0 c5] 22) = w4 at *
    generalize w3.heap.size = bx at *
    go_loopw [10] (fun iv wr => iv = .int .i64 0 ∧ wr = w4) (fun iv _ => 0)
    case atStart => exact ⟨rfl, rfl⟩
    case round =>
      obtain ⟨rfl, rfl⟩ := hrel
      have HCC := Lib.hid (contW (cap := c5) (Rd.nil wr 0 A5) (-1))
      rw [show decide ((-1 : Int) ∈ ([] : List Int)) = false from rfl] at HCC
      go_wp2_with fail
      refine HCC.out.mono ?_
      rintro e w5 ⟨rfl, rfl⟩
      go_wp2
      go_ret2
      exact ⟨A5, c5, rfl, Rd.nil _ _ _, HBX.out⟩
  go_enter Tryz.func6, Tryz.ntmps6
  go_wp2_with fail
  refine C1.mono ?_
  rintro e w1 ⟨rfl, hb1⟩
  have HB1 := Lib.hid hb1
  clear hb1 C1
  go_wp2_with fail
  refine (C2.out _ HB1.out).mono ?_
  rintro e w2 ⟨rfl, hb2⟩
  have HB2 := Lib.hid (HB1.out.trans (hb2.mono HB1.out.size))
  clear hb2 C2
  go_wp2_with fail
  refine (C3.out _ HB2.out).mono ?_
  rintro e w3 ⟨A5, c5, rfl, hA5, hb3⟩
  rw [hml]
  obtain ⟨g, rfl, hg, hP⟩ := hA5 (by rw [hml]; omega)
  rw [← HP0.out] at hP
  have HB3 := Lib.hid (HB2.out.trans (hb3.mono HB2.out.size))
  have HG : Hid (w.heap.size ≤ g ∧ g < w3.heap.size) := Lib.hid ⟨Nat.le_trans HB2.out.size hg, hP.lt⟩
  have HPO := Lib.hid hP
  have HBX := Lib.hid (HB3.out.alloc HB3.out.size (.cells #[.slice (some ⟨g, 0, none⟩) m c5] 22))
  have HOX := Lib.hid (hP.alloc (.cells #[.slice (some ⟨g, 0, none⟩) m c5] 22))
  have HCX : Hid ((w3.alloc (.cells #[.slice (some ⟨g, 0, none⟩) m c5] 22)).cell? ⟨w3.heap.size, 0, none⟩ = some (.slice (some ⟨g, 0, none⟩) m c5)) := Lib.hid (by simp)
  clear hA5 hb3 hg hP C3 hml HPO HB3
  go_wp2_with fail
  generalize w3.alloc (.cells #[.slice (some ⟨g, 0, none⟩) m c5] 22) = w4 at *
  generalize hbx : w3.heap.size = bx at *
  clear hbx w3
  go_loopw [10] (fun iv wr => ∃ k : Nat, k ≤ m ∧ iv = .int .i64 k ∧ Hid (OwnP wr g 3 (pickK (turnsOf P m) R k)) ∧ Hid (wr.cell? ⟨bx, 0, none⟩ = some (.slice (some ⟨g, 0, none⟩) m c5)) ∧ Hid (Below w.heap.size w wr)) (fun iv _ => m - (intOf iv).toNat)
  case atStart => exact ⟨0, by omega, rfl, HOX, HCX, HBX⟩
  case round =>
    obtain ⟨k, hk, rfl, hO, hc, hb⟩ := hrel
    obtain ⟨q1, q2, q3⟩ := HPK.out k hk
    have hrdk := hO.out.rd q2 (by rw [q1]; omega) hO.out.lt
    have CC := contW (cap := c5) hrdk (-1)
    rw [q1, q3] at CC
    have HCC := Lib.hid CC
    have hcb := hc.out
    clear CC q2 q3
    by_cases hlt : k < m
    · rw [decide_eq_true hlt] at HCC
      obtain ⟨a, gd, L, ha, ha2, hL, hpm, hgd, hgO, hst, hm1⟩ := turn_at HOR.out (k := k) (by rw [HTL.out]; exact hlt)
      rw [turnsOf_at hlt] at ha
      have ha3 := Option.some.inj ha
      have hmod : k % P.length < P.length := Nat.mod_lt _ (by omega)
      rw [HTL.out] at hgO
      have hll := HOR.out.len hL
      rw [HTL.out] at hll
      obtain ⟨j, hj1, hj2⟩ := rIdx_find 0 hgd
      rw [Nat.zero_add] at hj1
      have hjl : j < L.length := (List.getElem?_eq_some_iff.1 hj2).1
      have hcy := hO.out.cell hm1
      have hfy := hO.out.frozen gd
      have HNEXT := Lib.hid (hO.out.drew.store gd (a : Int))
      rw [← hst] at HNEXT
      have HBN := Lib.hid (hb.out.drew.setCell (p := ⟨g, gd, none⟩) HG.out.1 (.int .i64 (a : Int)))
      have HCN : Hid ((wr.drew.setCell ⟨g, gd, none⟩ (.int .i64 (a : Int))).cell? ⟨bx, 0, none⟩ = some (.slice (some ⟨g, 0, none⟩) m c5)) := Lib.hid ((World.cell?_setCell_other _ _ _ _ (by intro e; cases e; exact absurd HG.out.2 (Nat.lt_irrefl _))).trans hc.out)
      obtain ⟨b1, o1, i, eA, _, hi, _, hci⟩ := (HO1.out _ hb.out).at_ hmod
      have hia : i = (a : Int) := by rw [List.getD_eq_getElem?_getD, hi, Option.getD_some] at ha3; exact ha3
      subst hia
      subst eA
      obtain ⟨b2, o2, L', A6, c6, eB, _, hL', hcL, hrd⟩ := (HR2.out _ hb.out).at_ ha2
      rw [hL] at hL'
      obtain rfl : L = L' := Option.some.inj hL'
      subst eB
      obtain ⟨b3, o3, x3, eC, _, hx3, _, hc3⟩ := hrd.at_ hjl
      rw [hj2] at hx3
      obtain rfl : (gd : Int) = x3 := Option.some.inj hx3
      have CI := indexInts (cap := c6) hrd 25 #[.pointer (some ⟨bx, 0, none⟩)] (freeG (pickK (turnsOf P m) R k)) (fun args u => by kernel_rfl) (fun x hx _ => kTurnG (b := bx) (g := g) (c := c5) (by rw [q1]; exact hc.out) hO.out (by rw [q1]; have := HOR.out.mem hL hx; rw [HTL.out] at this; exact this))
      rw [show ((0 : Nat) : Int) = 0 from rfl] at hj1
      rw [hj1] at CI
      have HCI := Lib.hid CI
      subst eC
      have hjo : (j : Int) < (L.length : Int) := by omega
      have hgo : (gd : Int) < (m : Int) := by omega
      have hrm : Int.tmod (k : Int) (P.length : Int) = ((k % P.length : Nat) : Int) := by rw [Int.tmod_eq_emod_of_nonneg (by omega)]; rfl
      have hp0 : ¬ ((P.length : Int) = 0) := by omega
      have hwm : IntKind.i64.wrap ((k % P.length : Nat) : Int) = ((k % P.length : Nat) : Int) := IntWalk.i64_in _ (by omega)
      generalize k % P.length = kq at *
      have ha4 : (a : Int) < (R.length : Int) := by omega
      clear CI hst hgd hj1 hj2 hi hL hL' hrd hm1 hpm hx3 ha ha3 hrdk hll q1 hO hb
      go_wp2_with fail
      refine HCC.out.mono ?_
      rintro e w5 ⟨rfl, rfl⟩
      go_wp2_with fail
      refine HCI.out.mono ?_
      rintro e w6 ⟨rfl, rfl⟩
      go_wp2_with fail
      go_still_tail 10, (by kernel_rfl)
      change wpList _ _ _ _ _ wr.drew
      replace hcy : wr.drew.cell? _ = _ := hcy
      replace hfy : wr.drew.frozen? _ = _ := hfy
      go_wp2
      go_roundw
      case rel => exact ⟨k + 1, by omega, by go_num, HNEXT, HCN, HBN⟩
      case measure => simp [intOf]; omega
    · obtain rfl : k = m := by omega
      rw [decide_eq_false hlt] at HCC
      go_wp2_with fail
      refine HCC.out.mono ?_
      rintro e w5 ⟨rfl, rfl⟩
      go_wp2
      go_ret2
      exact ⟨_, c5, by rw [q1]; rfl, hrdk, hb.out⟩
end Go.Proofs.YtkoipecnmijfoaaGreat
