import Derived.Test.YtefbkdjppfofmaaS26k
import Derived.Test.YtefbkdjppfofmaaW26d
import Derived.Test.YtefbkdjppfofmaaW26f
import Derived.Test.YtefbkdjppfofmaaW26i
import Derived.Test.YtefbkdjppfofmaaW26w
import Derived.Test.YtefbkdjppfofmaaW26x
import Derived.StillTailTactics
import Derived.Test.YtefbkdjppfofmaaEq6
/-! Walks of chapter 26: Even. -/
namespace Go.Proofs.Ytefbkdjppfofmaa
open Go.RowKit Go.Deep
set_option linter.unusedVariables false
set_option maxRecDepth 100000

theorem lEven1 {w : World} {B : Nat} {A1 : Option Addr} {x : List Bool} {c g0 k : Nat} (h : RdB w B A1 x) (hk : k < x.length) (hk2 : k < 100) (hg : w.cell? ⟨g0, 0, none⟩ = some (.int .i64 k)) :
    Calls Try.prog 40 #[.slice A1 x.length c, .pointer (some ⟨g0, 0, none⟩)] w fun e w' => e = .returned (.bool (x.getD k false)) ∧ w = w' := by
  obtain ⟨b, off, y, rfl, hb, hy, hc⟩ := h.at_ hk
  have e : x.getD k false = y := by rw [List.getD_eq_getElem?_getD, hy]; rfl
  rw [e]
  clear e hy hb h
  go_enter Try.func40, Try.ntmps40
  go_wp2
  go_ret
  exact ⟨ret_bool rfl, rfl⟩
/-- six cells -/
def Six (w : World) (q : Nat) (x0 x1 x2 x3 x4 x5 : Int) : Prop :=
  w.cell? ⟨q, 0, none⟩ = some (.int .i64 x0) ∧ w.cell? ⟨q, 1, none⟩ = some (.int .i64 x1) ∧ w.cell? ⟨q, 2, none⟩ = some (.int .i64 x2) ∧ w.cell? ⟨q, 3, none⟩ = some (.int .i64 x3) ∧ w.cell? ⟨q, 4, none⟩ = some (.int .i64 x4) ∧ w.cell? ⟨q, 5, none⟩ = some (.int .i64 x5)
theorem Six.below {w w' : World} {C q : Nat} {x0 x1 x2 x3 x4 x5 : Int} (h : Six w q x0 x1 x2 x3 x4 x5) (hb : Below C w w') (hq : q < C) : Six w' q x0 x1 x2 x3 x4 x5 :=
  ⟨(cell_below hb hq).trans h.1, (cell_below hb hq).trans h.2.1, (cell_below hb hq).trans h.2.2.1, (cell_below hb hq).trans h.2.2.2.1, (cell_below hb hq).trans h.2.2.2.2.1, (cell_below hb hq).trans h.2.2.2.2.2⟩
theorem Six.drew {w : World} {q : Nat} {x0 x1 x2 x3 x4 x5 : Int} (h : Six w q x0 x1 x2 x3 x4 x5) : Six w.drew q x0 x1 x2 x3 x4 x5 := h
/-- the first k goods given, 0 behind -/
def fstK (W : List (List Bool)) (n k : Nat) : List Int := (List.range n).map fun g => if g < k then firstA W g else 0
theorem fstK_zero (W : List (List Bool)) (n : Nat) : fstK W n 0 = List.replicate n 0 := by
  apply List.ext_getElem
  · simp [fstK]
  · intro i h1 h2; simp [fstK]
theorem fstK_step {W : List (List Bool)} {n k : Nat} (hk : k < n) : (fstK W n k).set k (firstA W k) = fstK W n (k + 1) := by
  apply List.ext_getElem
  · simp [fstK]
  · intro i h1 h2
    rw [List.getElem_set]
    simp only [fstK, List.getElem_map, List.getElem_range]
    by_cases h : k = i
    · subst h
      rw [if_pos rfl, if_pos (by omega)]
    · rw [if_neg h]
      by_cases h3 : i < k
      · rw [if_pos h3, if_pos (by omega)]
      · rw [if_neg h3, if_neg (by omega)]
theorem fstK_all (W : List (List Bool)) (n : Nat) : fstK W n n = firstL W n := by
  apply List.ext_getElem
  · simp [fstK, firstL]
  · intro i h1 h2
    simp [fstK] at h1
    simp [fstK, firstL, h1]
theorem fstK_length (W : List (List Bool)) (n k : Nat) : (fstK W n k).length = n := by simp [fstK]
/-- what Even returns -/
def EvenRes (W : List (List Bool)) (w : World) (e : Ending) (w' : World) : Prop :=
  (chk26 W ≠ 0 ∧ e = .returned (.tuple #[.slice none 0 0, .int .i64 (chk26 W)]) ∧ Below w.heap.size w w') ∨
  ∃ m n a A c, chk26 W = 0 ∧ VW m n W ∧ EvenOk W m n a ∧ e = .returned (.tuple #[.slice A a.length c, .int .i64 0]) ∧ Rd w' w'.heap.size A a ∧ Below w.heap.size w w'
set_option maxHeartbeats 4000000 in
theorem lEven {w : World} {B : Nat} {A : Option Addr} {W : List (List Bool)} {cap : Nat} (h : RdB2 w B A W) (hB : B ≤ w.heap.size) :
    Calls Try.prog 20 #[.slice A W.length cap] w (EvenRes W w) := by
  have C1 := lCheck26 (cap := cap) h hB
  have hwl := h.len
  by_cases hk : chk26 W = 0
  · obtain ⟨m, n, v⟩ := chk26_zero hk
    have hm := v.len
    subst hm
    have m6 := v.m6
    have m0 := v.m0
    have n10 := v.n10
    have HK := Lib.hid hk
    rw [hk] at C1
    have H := Lib.hid h
    have HV := Lib.hid v
    have hmk := fun u => run_make_row' (P := Try.prog) 23 3 (.int .i64 0) 8 Try.underlying23 infoInt' rfl .i64 .i64 n (by omega) (by omega) u
    clear hk h v
    go_enter Try.func20, Try.ntmps20
    go_wp2_with fail
    refine C1.mono ?_
    rintro e w1 ⟨rfl, hb1⟩
    have HB1 := Lib.hid hb1
    obtain ⟨b0, o0, row, A2, c2, eA, hb0, hrow, hc0, hrd⟩ := (H.out.below hb1 hB).at_ m0
    have hrl : row.length = n := HV.out.row row (List.mem_of_getElem? hrow)
    rw [hrl, Nat.add_zero] at hc0
    have HA0 := Lib.hid eA
    clear hb1 C1 hrow hrd hrl
    subst eA
    go_wp2_with fail
    clear hmk hc0
    have HO0 : Hid (Own (w1.alloc (.cells (madeCells #[Value.int .i64 0] n) 3)) w1.heap.size 3 (fstK W n 0)) := Lib.hid (by rw [fstK_zero]; exact Own.made w1 3 n)
    have HB0 := Lib.hid (Below.alloc (Below.refl w1.heap.size w1) (Nat.le_refl _) (.cells (madeCells #[Value.int .i64 0] n) 3))
    generalize w1.alloc (.cells (madeCells #[Value.int .i64 0] n) 3) = w2 at *
    go_loopw [23] (fun iv wr => ∃ (k : Nat), k ≤ n ∧ iv = .int .i64 k ∧ Hid (Own wr w1.heap.size 3 (fstK W n k)) ∧ Hid (Below w1.heap.size w1 wr)) (fun iv _ => n - (intOf iv).toNat)
    case atStart => exact ⟨0, by omega, rfl, HO0, HB0⟩
    case round =>
      obtain ⟨k, hk, rfl, ho, hb⟩ := hrel
      by_cases hlt : k < n
      · have hbw : Below wr.heap.size wr (wr.alloc (.cells #[.int .i64 (k : Int)] 3)) := (Below.refl _ _).alloc (Nat.le_refl _) _
        have hcl : (wr.alloc (.cells #[.int .i64 (k : Int)] 3)).cell? ⟨wr.heap.size, 0, none⟩ = some (.int .i64 (k : Int)) := by simp
        have hbb := hb.out.trans (hbw.mono hb.out.size)
        have hRA := H.out.below (HB1.out.trans (hbb.mono HB1.out.size)) hB
        have CF := indexRows (w := (wr.alloc (.cells #[.int .i64 (k : Int)] 3)).drew) (cap := cap) (A := some ⟨b0, o0, none⟩) (B := B) (W := W) hRA 40 #[.pointer (some ⟨wr.heap.size, 0, none⟩)] (fun l => l.getD k false) (fun args u => by kernel_rfl) (fun A1 x c hm hx => by simpa using lEven1 (c := c) hx (by rw [HV.out.row x hm]; exact hlt) (by omega) hcl)
        have hcx : (fstK W n k)[k]? = some ((fstK W n k)[k]'(by rw [fstK_length]; exact hlt)) := by simp
        have ho2 := ho.out.alloc (.cells #[.int .i64 (k : Int)] 3)
        have oc := ho2.cell hcx
        have ofz := ho2.frozen k
        generalize (fstK W n k)[k]'(by rw [fstK_length]; exact hlt) = y0 at *
        have HO2 := Lib.hid ho2
        have HBB := Lib.hid hbb
        have HCF : Hid (Calls Try.prog 39 #[.slice (some ⟨b0, o0, none⟩) W.length cap, .func (.func 40) #[] #[.pointer (some ⟨wr.heap.size, 0, none⟩)]] (wr.alloc (.cells #[.int .i64 (k : Int)] 3)).drew fun e w' => e = .returned (.int .i64 (firstA W k)) ∧ (wr.alloc (.cells #[.int .i64 (k : Int)] 3)).drew = w') := Lib.hid CF
        clear hbw hbb hRA CF hcx ho2 ho hb
        go_wp2_with fail
        generalize wr.alloc (.cells #[.int .i64 (k : Int)] 3) = w3 at *
        go_still_tail 6, (by kernel_rfl)
        still_call (HCF.out.mono fun _ _ h => ⟨h.1, h.2.symm⟩)
        repeat still_step
        refine wpStill_nil ?_
        change wpList _ _ _ _ _ w3.drew
        have oc' : w3.drew.cell? ⟨w1.heap.size, k, none⟩ = some (.int .i64 y0) := oc
        have of' : w3.drew.frozen? ⟨w1.heap.size, k, none⟩ = false := ofz
        have HO3 : Hid (Own (w3.drew.setCell ⟨w1.heap.size, k, none⟩ (.int .i64 (firstA W k))) w1.heap.size 3 (fstK W n (k + 1))) := Lib.hid (by rw [← fstK_step hlt]; exact HO2.out.store k (firstA W k))
        have HB3 : Hid (Below w1.heap.size w1 (w3.drew.setCell ⟨w1.heap.size, k, none⟩ (.int .i64 (firstA W k)))) := Lib.hid ((HBB.out.drew).setCell (p := ⟨w1.heap.size, k, none⟩) (Nat.le_refl _) _)
        clear hcl ofz oc HO2 HBB HCF
        generalize firstA W k = fa at *
        generalize w3.drew = w4 at *
        go_wp2
        go_roundw
        case rel => exact ⟨k + 1, by omega, by go_num, HO3, HB3⟩
        case measure => simp [intOf]; omega
      · obtain rfl : k = n := by omega
        have hfa : FullA W W.length k (firstL W k) := first_full rfl
        have hown : Own wr w1.heap.size 3 (firstL W k) := by rw [← fstK_all]; exact ho.out
        have hll : (firstL W k).length = k := hfa.len
        have hrd0 := hown.rd (fun x hx => by have := full_bd hfa x hx; unfold I64; omega) (by omega) hown.lt
        have hb0' := HB1.out.trans (hb.out.mono HB1.out.size)
        have CL := lLeveled (cap := cap) (cap' := k) (f := 0) (H.out.below hb0' hB) hrd0 (Nat.le_trans hB hb0'.size) (Nat.le_refl _) HV.out hfa (by omega)
        rw [hll] at CL
        have HCL := Lib.hid CL
        have HBZ := Lib.hid hb0'
        clear hfa hown hll hrd0 hb0' CL ho hb HO0 HB0
        go_wp2_with fail
        refine HCL.out.mono ?_
        rintro e w3 ⟨a1, A1, c1, rfl, hr1, hb1, hfa1, _, hno1⟩
        have hl1 : a1.length = k := hfa1.len
        have HR1 := Lib.hid hr1
        have HB3 := Lib.hid (HBZ.out.trans (hb1.mono HBZ.out.size))
        have HOP := Lib.hid (opt_of rfl hno1 hfa1)
        rw [hl1]
        have CC := lCounts (cap := c1) (n := W.length) hr1 (Nat.le_refl _) m6 (by omega) (full_bd hfa1)
        rw [hl1] at CC
        have HC2 := Lib.hid CC
        have HL1 := Lib.hid hl1
        clear hr1 hb1 hfa1 hno1 hl1 CC HCL HBZ
        go_wp2_with fail
        refine HC2.out.mono ?_
        rintro e w4 ⟨rfl, hO4, hb4⟩
        have hrc : Rd w4 w4.heap.size (some ⟨w3.heap.size, 0, none⟩) (cnts W.length a1) := cnt_rd HV.out HL1.out hO4
        have hcl := cnts_length W.length a1
        have CS := lShaped (cap := W.length) hrc (Nat.le_refl _) (by omega)
        rw [hcl] at CS
        obtain ⟨x0, x1, x2, x3, x4, x5, hX⟩ := six_of (shapeI_length (L := cnts W.length a1) (by omega))
        have hsv : shV (cnts W.length a1) = .agg #[.int .i64 x0, .int .i64 x1, .int .i64 x2, .int .i64 x3, .int .i64 x4, .int .i64 x5] := by rw [shV, hX]; rfl
        rw [hsv] at CS
        have HCS := Lib.hid CS
        have HX := Lib.hid hX
        have HB4 := Lib.hid (HB3.out.trans (hb4.mono HB3.out.size))
        have HR4 := Lib.hid ((HR1.out.below hb4 (Nat.le_refl _)).more hb4.size)
        clear hrc hcl CS hsv hX hO4 hb4 HC2
        go_wp2_with fail
        refine HCS.out.mono ?_
        rintro e w5 ⟨rfl, hb5⟩
        have HB5 := Lib.hid (HB4.out.trans (hb5.mono HB4.out.size))
        have HR5 := Lib.hid ((HR4.out.below hb5 (Nat.le_refl _)).more hb5.size)
        clear hb5 HCS
        go_wp2_with fail
        have HG6 := heap_alloc_new w5 (.cells #[.int .i64 x0, .int .i64 x1, .int .i64 x2, .int .i64 x3, .int .i64 x4, .int .i64 x5] 61)
        have HSIX : Hid (Six (w5.alloc (.cells #[.int .i64 x0, .int .i64 x1, .int .i64 x2, .int .i64 x3, .int .i64 x4, .int .i64 x5] 61)) w5.heap.size x0 x1 x2 x3 x4 x5) := Lib.hid
          ⟨(cell_of_row _ _ 0 _ _ (0, 0) HG6).trans rfl, (cell_of_row _ _ 1 _ _ (0, 0) HG6).trans rfl, (cell_of_row _ _ 2 _ _ (0, 0) HG6).trans rfl, (cell_of_row _ _ 3 _ _ (0, 0) HG6).trans rfl, (cell_of_row _ _ 4 _ _ (0, 0) HG6).trans rfl, (cell_of_row _ _ 5 _ _ (0, 0) HG6).trans rfl⟩
        have hal6 := Below.alloc (Below.refl w5.heap.size w5) (Nat.le_refl _) (.cells #[.int .i64 x0, .int .i64 x1, .int .i64 x2, .int .i64 x3, .int .i64 x4, .int .i64 x5] 61)
        have HB6 := Lib.hid (HB5.out.trans (hal6.mono HB5.out.size))
        have HR6 := Lib.hid ((HR5.out.below hal6 (Nat.le_refl _)).more hal6.size)
        have HSZ6 : Hid (w5.heap.size < (w5.alloc (.cells #[.int .i64 x0, .int .i64 x1, .int .i64 x2, .int .i64 x3, .int .i64 x4, .int .i64 x5] 61)).heap.size) := Lib.hid (by simp)
        clear HG6 hal6 HR1 HR4 HR5 HB3 HB4 HB5 hlt hk
        generalize w5.alloc (.cells #[.int .i64 x0, .int .i64 x1, .int .i64 x2, .int .i64 x3, .int .i64 x4, .int .i64 x5] 61) = w6 at *
        generalize w5.heap.size = q6 at *
        go_loopw [5, 43] (fun av gv wr => ∃ (g : Nat) (a : List Int) (A' : Option Addr) (c : Nat), g ≤ k ∧ gv = .int .i64 g ∧ av = .slice A' k c ∧ Hid (Rd wr wr.heap.size A' a) ∧ Hid (Opt W W.length k a) ∧ Hid (shapeI (cnts W.length a) = [x0, x1, x2, x3, x4, x5]) ∧ Hid (LexTo W W.length k g a) ∧ Hid (Below w6.heap.size w6 wr)) (fun _ gv _ => k - (intOf gv).toNat)
        case atStart => exact ⟨0, a1, A1, c1, by omega, rfl, rfl, HR6, HOP, HX, Lib.hid LexTo.zero, Lib.hid (Below.refl _ _)⟩
        case round =>
          clear HR6 HOP HX HL1
          obtain ⟨g, a, A', c, hg, rfl, rfl, hr, hopt, hx, hlex, hb⟩ := hrel
          by_cases hlt : g < k
          · have hal : a.length = k := hopt.out.full.len
            obtain ⟨ba, oa, xa, rfl, hba, hxa, hi64, hca⟩ := hr.out.at_ (k := g) (by omega)
            have hxg : a.getD g 0 = xa := by rw [List.getD_eq_getElem?_getD, hxa]; rfl
            have HAL := Lib.hid hal
            rcases hopt.out.full.at_ g hlt with ⟨e1, e2⟩ | ⟨q, hq, e2, e3⟩
            · obtain rfl : xa = -1 := by rw [← hxg]; exact e1
              have HLX : Hid (LexTo W W.length k (g + 1) a) := Lib.hid (hlex.out.keep rfl hlt hopt.out.full fun q hq => by omega)
              clear e1 e2 hxg hxa hi64 hal
              go_wp2_with fail
              go_loopw [5, 50] (fun av iv wr2 => av = .slice (some ⟨ba, oa, none⟩) k c ∧ iv = .int .i64 0 ∧ wr2 = wr) (fun _ _ _ => 0)
              case atStart => exact ⟨rfl, rfl, rfl⟩
              case round =>
                obtain ⟨rfl, rfl, rfl⟩ := hrel
                go_wp2
                go_roundw
                case rel => exact ⟨g + 1, a, _, c, by omega, by go_num, rfl, hr, hopt, hx, HLX, hb⟩
                case measure => simp [intOf]; omega
            · obtain rfl : xa = (q : Int) := by rw [← hxg]; exact e2
              have HAG := Lib.hid e2
              clear e2 e3 hxg hxa hi64 hal
              go_wp2_with fail
              obtain ⟨wo, hwo⟩ : ∃ wo : World, wo = wr := ⟨_, rfl⟩
              have hb' := hb
              rw [← hwo] at hr hb'
              have HBWO : Hid (Below wo.heap.size wo wr) := Lib.hid (by rw [hwo]; exact Below.refl _ _)
              clear hca hwo
              go_loopw [5, 50] (fun av iv wr => ∃ (i : Nat), i ≤ q ∧ av = .slice (some ⟨ba, oa, none⟩) k c ∧ iv = .int .i64 i ∧ Hid (NoneBefore W W.length k a g i) ∧ Hid (Below wo.heap.size wo wr)) (fun _ iv _ => q - (intOf iv).toNat)
              case atStart => exact ⟨0, by omega, rfl, rfl, Lib.hid NoneBefore.zero, HBWO⟩
              case round =>
                clear HBWO hb
                obtain ⟨i, hi, rfl, rfl, hnb, hb⟩ := hrel
                by_cases hit : i < q
                · have hb2 := HB6.out.trans ((hb'.out.trans (hb.out.mono hb'.out.size)).mono HB6.out.size)
                  have hRW := H.out.below hb2 hB
                  obtain ⟨bW, oW, A4, c4, b5, o5, row5, eW, eA4, g1, g2, _, hrow5⟩ := wish_cell hRW HV.out (i := i) (g := g) (by omega) hlt
                  cases eW
                  subst eA4
                  have HRW := Lib.hid hRW
                  have HB2 := Lib.hid hb2
                  clear hRW hb2 hrow5
                  cases hwish : wishB W i g
                  · have HNB := Lib.hid (hnb.out.skip rfl hlt hwish)
                    rw [hwish] at g2
                    clear hwish hnb
                    go_wp2
                    go_roundw
                    case rel => exact ⟨i + 1, by omega, rfl, by go_num, HNB, hb⟩
                    case measure => simp [intOf]; omega
                  · rw [hwish] at g2
                    have HWI := Lib.hid hwish
                    have CK := clone (cap := c) (hr.out.below hb.out (Nat.le_refl _)) hb.out.size (by rw [HAL.out]; omega)
                    rw [HAL.out] at CK
                    have HCK := Lib.hid CK
                    clear CK hwish
                    go_wp2_with fail
                    refine HCK.out.mono ?_
                    rintro e w7 ⟨gb, cb, he, hgb, hP7, hb7⟩
                    rw [HAL.out] at he
                    subst he
                    have hcx : a[g]? = some (a[g]'(by rw [HAL.out]; exact hlt)) := by simp
                    have oc := hP7.cell hcx
                    have ofz := hP7.frozen g
                    generalize a[g]'(by rw [HAL.out]; exact hlt) = ya at *
                    have hfs : FullA W W.length k (a.set g (i : Int)) := full_set rfl hopt.out.full hlt (by omega) HWI.out
                    have hsl : (a.set g (i : Int)).length = k := hfs.len
                    have hP8 := hP7.store g (i : Int)
                    have hr8 := hP8.rd (fun x hx => by have := full_bd hfs x hx; unfold I64; omega) (by omega) hP8.lt
                    have hb8 : Below wr.heap.size wr (w7.setCell ⟨gb, g, none⟩ (.int .i64 (i : Int))) := hb7.setCell (p := ⟨gb, g, none⟩) hgb _
                    have HB8 := Lib.hid (hb.out.trans (hb8.mono hb.out.size))
                    have HR8 := Lib.hid hr8
                    have HFS := Lib.hid hfs
                    have HSL := Lib.hid hsl
                    have CL := lLeveled (cap := cap) (cap' := cb) (f := g + 1) (HRW.out.below hb8 (Nat.le_trans hB HB2.out.size)) hr8 (Nat.le_trans hB (Nat.le_trans HB2.out.size hb8.size)) (Nat.le_refl _) HV.out hfs (by omega)
                    rw [hsl, show ((g + 1 : Nat) : Int) = (g : Int) + 1 by omega] at CL
                    have HCL := Lib.hid CL
                    clear HCK hP7 hb7 hcx hfs hsl hP8 hr8 hb8 CL g1 g2
                    go_wp2_with fail
                    generalize w7.setCell ⟨gb, g, none⟩ (.int .i64 (i : Int)) = w8 at *
                    refine HCL.out.mono ?_
                    rintro e w9 ⟨b', Ab, cb', rfl, hr9, hb9, hfb, hpre, hnob⟩
                    have hlb : b'.length = k := hfb.len
                    rw [hlb]
                    have HSB : Hid (SameTo g a b') := Lib.hid fun j hj => by rw [hpre j (by omega), getD_set_ne (by omega)]
                    have HIB : Hid (b'.getD g 0 = (i : Int)) := Lib.hid (by rw [hpre g (by omega), getD_set_self (by rw [HAL.out]; exact hlt)])
                    obtain ⟨y0, y1, y2, y3, y4, y5, hY⟩ := six_of (shapeI_length (L := cnts W.length b') (by rw [cnts_length]; exact m6))
                    have HY := Lib.hid hY
                    have HFB := Lib.hid hfb
                    have HNO := Lib.hid hnob
                    have HB9 := Lib.hid (HB8.out.trans (hb9.mono HB8.out.size))
                    have HR9 := Lib.hid hr9
                    have hq9 := hb'.out.trans (HB9.out.mono hb'.out.size)
                    obtain ⟨s0, s1, s2, s3, s4, s5⟩ := HSIX.out.below hq9 HSZ6.out
                    have CC : Hid (∀ u : World, Below w9.heap.size w9 u → Calls Try.prog 29 #[.int .i64 (W.length : Nat), .slice Ab k cb'] u (CntRes u b' W.length)) := Lib.hid fun u hu => by
                      have := lCounts (cap := cb') (n := W.length) (hr9.below hu (Nat.le_refl _)) hu.size m6 (by omega) (full_bd hfb)
                      rw [hlb] at this
                      exact this
                    have CS : Hid (∀ u u' : World, Own u' u.heap.size 3 (cntK b' W.length b'.length) → Calls Try.prog 42 #[.slice (some ⟨u.heap.size, 0, none⟩) W.length W.length] u' fun e w' => e = .returned (.agg #[.int .i64 y0, .int .i64 y1, .int .i64 y2, .int .i64 y3, .int .i64 y4, .int .i64 y5]) ∧ Below u'.heap.size u' w') := Lib.hid fun u u' ho => by
                      have hrc : Rd u' u'.heap.size (some ⟨u.heap.size, 0, none⟩) (cnts W.length b') := cnt_rd HV.out hlb ho
                      have := lShaped (cap := W.length) hrc (Nat.le_refl _) (by rw [cnts_length]; exact m6)
                      rw [cnts_length, shV, hY] at this
                      exact this
                    have HS9 : Hid (∀ u, Below w9.heap.size w9 u → Six u q6 x0 x1 x2 x3 x4 x5) := Lib.hid fun u hu => (HSIX.out.below hq9 HSZ6.out).below hu (by have := HSZ6.out; have := hq9.size; omega)
                    have HLB := Lib.hid hlb
                    clear hr9 hb9 hfb hpre hnob hlb HCL hY hq9 oc ofz HR8 HFS HSL HB8 hb
                    go_wp2_with fail
                    have d0 : w9.drew.cell? ⟨q6, 0, none⟩ = some (.int .i64 x0) := s0
                    have d1 : w9.drew.cell? ⟨q6, 1, none⟩ = some (.int .i64 x1) := s1
                    have d2 : w9.drew.cell? ⟨q6, 2, none⟩ = some (.int .i64 x2) := s2
                    have d3 : w9.drew.cell? ⟨q6, 3, none⟩ = some (.int .i64 x3) := s3
                    have d4 : w9.drew.cell? ⟨q6, 4, none⟩ = some (.int .i64 x4) := s4
                    have d5 : w9.drew.cell? ⟨q6, 5, none⟩ = some (.int .i64 x5) := s5
                    clear s0 s1 s2 s3 s4 s5
                    by_cases hE : [y0, y1, y2, y3, y4, y5] = [x0, x1, x2, x3, x4, x5]
                    · have heq := fun u => (eq6 u x0 x1 x2 x3 x4 x5 y0 y1 y2 y3 y4 y5).trans (by rw [decide_eq_true hE])
                      have HSH : Hid (shapeI (cnts W.length b') = [x0, x1, x2, x3, x4, x5]) := Lib.hid (HY.out.trans hE)
                      clear hE
                      go_region_law (first
                        | (go_simp; go_at_call 29; refine (CC.out w9.drew (Below.refl _ _).drew).mono ?_; rintro e wA ⟨rfl, hOA, hbA⟩; have HOA := Lib.hid hOA; have HBA : Hid (Below w9.heap.size w9 wA) := Lib.hid ((Below.refl w9.heap.size w9).drew.trans hbA); obtain ⟨a0, a1, a2, a3, a4, a5⟩ := HS9.out wA HBA.out; clear hOA hbA)
                        | (go_simp; go_at_call 42; refine (CS.out w9.drew wA HOA.out).mono ?_; rintro e wB ⟨rfl, hbB⟩; have HBB : Hid (Below w9.heap.size w9 wB) := Lib.hid (HBA.out.trans (hbB.mono HBA.out.size)); obtain ⟨b0, b1, b2, b3, b4, b5⟩ := HS9.out wB HBB.out; clear hbB))
                      all_goals
                        have HOB := Lib.hid (opt_same hopt.out HFB.out (HSH.out.trans hx.out.symm))
                        have HLX : Hid (LexTo W W.length k (g + 1) b') := Lib.hid (hlex.out.take rfl hlt HFB.out HSB.out HIB.out hnb.out)
                        have HBZ := Lib.hid (hb'.out.trans ((HB9.out.trans (HBB.out.mono HB9.out.size)).mono hb'.out.size))
                        have HRZ := Lib.hid ((HR9.out.below HBB.out (Nat.le_refl _)).more HBB.out.size)
                        clear heq d0 d1 d2 d3 d4 d5 CC CS HS9 HOA
                        go_wp2
                        go_roundw
                        case rel => exact ⟨g + 1, b', Ab, cb', by omega, by go_num, rfl, HRZ, HOB, HSH, HLX, HBZ⟩
                        case measure => simp [intOf]; omega
                    · have heq := fun u => (eq6 u x0 x1 x2 x3 x4 x5 y0 y1 y2 y3 y4 y5).trans (by rw [decide_eq_false hE])
                      have HSH : Hid (shapeI (cnts W.length b') ≠ shapeI (cnts W.length a)) := Lib.hid (by rw [HY.out, hx.out]; exact hE)
                      clear hE
                      go_region_law (first
                        | (go_simp; go_at_call 29; refine (CC.out w9.drew (Below.refl _ _).drew).mono ?_; rintro e wA ⟨rfl, hOA, hbA⟩; have HOA := Lib.hid hOA; have HBA : Hid (Below w9.heap.size w9 wA) := Lib.hid ((Below.refl w9.heap.size w9).drew.trans hbA); obtain ⟨a0, a1, a2, a3, a4, a5⟩ := HS9.out wA HBA.out; clear hOA hbA)
                        | (go_simp; go_at_call 42; refine (CS.out w9.drew wA HOA.out).mono ?_; rintro e wB ⟨rfl, hbB⟩; have HBB : Hid (Below w9.heap.size w9 wB) := Lib.hid (HBA.out.trans (hbB.mono HBA.out.size)); obtain ⟨b0, b1, b2, b3, b4, b5⟩ := HS9.out wB HBB.out; clear hbB))
                      all_goals
                        have HNB : Hid (NoneBefore W W.length k a g (i + 1)) := Lib.hid (hnb.out.step rfl hlt hopt.out HFB.out HSB.out HIB.out HNO.out HSH.out)
                        have HBZ := Lib.hid (HB9.out.trans (HBB.out.mono HB9.out.size))
                        clear heq d0 d1 d2 d3 d4 d5 CC CS HS9 HOA
                        go_wp2
                        go_roundw
                        case rel => exact ⟨i + 1, by omega, rfl, by go_num, HNB, HBZ⟩
                        case measure => simp [intOf]; omega
                · obtain rfl : i = q := by omega
                  have HLX : Hid (LexTo W W.length k (g + 1) a) := Lib.hid (hlex.out.keep rfl hlt hopt.out.full fun q hq => by
                    have h1 := HAG.out
                    have : q = i := by omega
                    rw [this]; exact hnb.out)
                  have HBB := Lib.hid (hb'.out.trans (hb.out.mono hb'.out.size))
                  have HRR := Lib.hid ((hr.out.below hb.out (Nat.le_refl _)).more hb.out.size)
                  clear hnb
                  go_wp2
                  go_roundw
                  case rel => exact ⟨g + 1, a, _, c, by omega, by go_num, rfl, HRR, hopt, hx, HLX, HBB⟩
                  case measure => simp [intOf]; omega
          · obtain rfl : g = k := by omega
            have hal : a.length = g := hopt.out.full.len
            have HAL := Lib.hid hal
            have HEV : Hid (EvenOk W W.length g a) := Lib.hid ⟨hopt.out, hlex.out⟩
            clear hal hlex
            go_wp2
            go_ret2
            exact .inr ⟨W.length, g, a, A', c, HK.out, HV.out, HEV.out, by rw [HAL.out]; rfl, hr.out, HB6.out.trans (hb.out.mono HB6.out.size)⟩
  · have hne : (chk26 W != 0) = true := by simpa using hk
    have HK := Lib.hid hk
    clear hk h
    generalize hcc : chk26 W = c at *
    have HCC := Lib.hid hcc
    clear hcc
    go_enter Try.func20, Try.ntmps20
    go_wp2_with fail
    refine C1.mono ?_
    rintro e w1 ⟨rfl, hb⟩
    have HB := Lib.hid hb
    clear hb C1
    go_wp2
    go_ret2
    exact .inl ⟨by rw [HCC.out]; exact HK.out, by rw [HCC.out]; rfl, HB.out⟩
end Go.Proofs.Ytefbkdjppfofmaa
