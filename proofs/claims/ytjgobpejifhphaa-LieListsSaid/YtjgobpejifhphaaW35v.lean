import Derived.Test.YtjgobpejifhphaaW35u
/-! Walks of chapter 35: all rankings, one after another: the iterator.
-/
namespace Go.Proofs.Ytjgobpejifhphaa
open Go.RowKit Go.Deep Go.Sort
set_option linter.unusedVariables false
set_option maxRecDepth 100000
attribute [local go_sem] Oper.semAt_some

theorem riseAt_yes {l : List Int} {k : Nat} (h : l.getD (k + 1) 0 < l.getD k 0) : riseAt l (k + 1) = riseAt l k := by rw [riseAt, if_pos h]
theorem riseAt_no {l : List Int} {k : Nat} (h : ¬ l.getD (k + 1) 0 < l.getD k 0) : riseAt l (k + 1) = some k := by rw [riseAt, if_neg h]
theorem overAt_yes {l : List Int} {x : Int} {k : Nat} (h : l.getD (k + 1) 0 < x) : overAt l x (k + 1) = overAt l x k := by rw [overAt, if_pos h]
theorem overAt_no {l : List Int} {x : Int} {k : Nat} (h : ¬ l.getD k 0 < x) : overAt l x k = k := by
  cases k with
  | zero => rfl
  | succ k => rw [overAt, if_neg h]
set_option maxHeartbeats 1000000 in
theorem lRankIt {w : World} {s m n : Nat} (hs : w.heap.size = s) (hm : m < s) (hbox : w.cell? ⟨m, 0, none⟩ = some (.int .i64 (n : Int))) (hn : n ≤ 6) :
    YieldsRow Try.prog 71 #[.pointer (some ⟨m, 0, none⟩)] s m 3 n n (rkAll n) w := by
  intro l J W hW hWs hJ hY h0
  obtain ⟨hhead, hpath⟩ := path_all n hn
  have hRKs := rkF_small hn hn []
  have hlen : ∀ {k : Nat} {x : List Int}, (rkAll n)[k]? = some x → x.length = n := fun h => by rw [← (rkAll_perm (List.mem_of_getElem? h)).length_eq, iota_length]
  have hb1 : W.cell? ⟨m, 0, none⟩ = some (.int .i64 (n : Int)) := (hW.cell (p := ⟨m, 0, none⟩) hm).trans hbox
  have hmk := run_make_row' (P := Try.prog) 22 3 (.int .i64 0) 8 Try.underlying22 infoInt' rfl .i64 .i64 n (by omega) (by omega) W
  have hown := Own.made W 3 n
  rw [hWs] at hown hmk
  have h2 := hJ 0 W _ h0 (grown_alloc W (.cells (madeCells #[Value.int .i64 0] n) 3) _)
  have hg2 := grown_alloc W (.cells (madeCells #[Value.int .i64 0] n) 3) (some (s + 2))
  have HOWN := Lib.hid hown
  have HJ0 := Lib.hid h2
  have HG0 := Lib.hid hg2
  have HJ := Lib.hid hJ
  have HY := Lib.hid hY
  have HLEN := Lib.hid (fun (k : Nat) (x : List Int) (h : (rkAll n)[k]? = some x) => hlen h)
  have HP := Lib.hid hpath
  have HH : Hid ((rkAll n)[0]? = some (iota n)) := Lib.hid (by rw [← List.head?_eq_getElem?]; exact hhead)
  have HCELL : Hid (∀ u : World, W.grownBy u (some (s + 2)) → u.cell? ⟨m, 0, none⟩ = some (.int .i64 (n : Int))) := Lib.hid fun u hu => (hu.cell (a := ⟨m, 0, none⟩) hb1 (by simp; omega))
  have hlf := fun (k : Nat) (x : List Int) h => lenFrom_at hpath 46656 k x h (by have : (rkAll n).length ≤ 46656 := hRKs; omega)
  have HLF := Lib.hid hlf
  clear hown h2 hg2 hJ hY hhead hpath hlen h0 hlf hbox
  generalize (46656 : Nat) = ff at *
  generalize rkAll n = RK at *
  go_enter Try.func71, Try.ntmps71
  generalize W.alloc (.cells (madeCells #[Value.int .i64 0] n) 3) = w2 at *
  go_wp2_with fail
  clear hmk
  go_loopw [11] (fun iv wr => ∃ (k : Nat) (L : List Int), k ≤ n ∧ iv = .int .i64 k ∧ Hid (L.length = n) ∧ Hid (∀ j : Nat, j < k → L[j]? = some (j : Int)) ∧ Hid (Own wr (s + 2) 3 L) ∧ Hid (W.grownBy wr (some (s + 2))) ∧ Hid (J 0 wr)) (fun iv _ => n - (intOf iv).toNat)
  case atStart => exact ⟨0, _, by omega, rfl, Lib.hid (by simp), Lib.hid (by omega), HOWN, HG0, HJ0⟩
  case round =>
    obtain ⟨k, L, hk, rfl, hLl, hLv, hO, hG, hJ0⟩ := hrel
    by_cases hlt : k < n
    · obtain ⟨y, hy⟩ : ∃ y, L[k]? = some y := ⟨L[k]'(by rw [hLl.out]; exact hlt), by simp⟩
      have c1 := hO.out.cell hy
      have f1 := hO.out.frozen k
      have hO' := Lib.hid (hO.out.store k (k : Int))
      have hG' := Lib.hid (hG.out.trans (grown_set wr (s + 2) k (.int .i64 (k : Int))))
      have hJ' := Lib.hid (HJ.out 0 wr _ hJ0.out (grown_set wr (s + 2) k (.int .i64 (k : Int))))
      have hLv' : Hid (∀ j : Nat, j < k + 1 → (L.set k (k : Int))[j]? = some (j : Int)) := Lib.hid (by
        intro j hj
        by_cases e : j = k
        · subst e; rw [List.getElem?_set_self (by rw [hLl.out]; exact hlt)]
        · rw [List.getElem?_set_ne (by omega)]; exact hLv.out j (by omega))
      have hLl' : Hid ((L.set k (k : Int)).length = n) := Lib.hid (by simp [hLl.out])
      clear hy
      go_wp2
      go_roundw
      case rel => exact ⟨k + 1, _, by omega, by go_num, hLl', hLv', hO', hG', hJ'⟩
      case measure => simp [intOf]; omega
    · have hL : L = iota n := iota_of hLl.out (fun j hj => hLv.out j (by omega))
      have hO' : Own wr (s + 2) 3 (iota n) := hL ▸ hO.out
      have HO1 := Lib.hid hO'
      have HG1 := hG
      have HJ1 := hJ0
      clear hO' hO hG hJ0 hL hLv hLl
      go_wp2_with fail
      clear hlt hk
      generalize wr = wo at *
      go_loopw [5] (fun _ wr => ∃ (k : Nat) (x : List Int), Hid (RK[k]? = some x) ∧ Hid (Own wr (s + 2) 3 x) ∧ Hid (wr.heap[m]? = W.heap[m]?) ∧ Hid (J k wr)) (fun _ wr => leftIn ff (s + 2) 3 wr)
      case atStart => exact ⟨0, _, HH, HO1, Lib.hid (HG1.out.block _ (by omega) (by simp; omega)), HJ1⟩
      case round =>
        obtain ⟨k, x, hx, hO, hG, hJk⟩ := hrel
        obtain ⟨fn, tmps, assign, body, hy, hR⟩ := HY.out k x wr hx.out hJk.out hO.out
        have HX := hx
        have hlk := HLEN.out k x hx.out
        have hlx := HLF.out k x hx.out
        have hnx := path_at HP.out hx.out
        have hmeas := leftIn_eq (f := ff) hO.out
        have hklt : k < RK.length := (List.getElem?_eq_some_iff.1 hx.out).1
        have HBM := Lib.hid (fun (u : World) (hu : u.heap[m]? = wr.heap[m]?) => (World.cell?_of_block (a := ⟨m, 0, none⟩) (hu.trans hG.out)).trans hb1)
        have HGS := hG
        rw [hmeas]
        have HLX := Lib.hid hlx
        have HNX := Lib.hid hnx
        clear hG hx hlx hnx hmeas
        refine (wpIn_wide (n := 4)).1 ?_
        gi_wp2
        refine hR.mono ?_
        rintro e W3 ⟨rfl, hJ3, hO3, hm3⟩
        have hb3 := HBM.out W3 hm3
        have HJ3 := Lib.hid hJ3
        have HO3 := Lib.hid hO3
        have HM3 := Lib.hid (show W3.heap[m]? = W.heap[m]? from hm3.trans HGS.out)
        clear hR hy hJ3 hO3 hm3 HBM
        gi_wp2
        refine (wpIn_wide (n := 4)).2 ?_
        have HCM := Lib.hid (fun (u : World) (hu : u.heap[m]? = W.heap[m]?) => (World.cell?_of_block (a := ⟨m, 0, none⟩) hu).trans hb1)
        have HNL : Hid (nextL x = match riseAt x (n - 1) with | none => none | some i => some (revFrom (swp x i (overAt x (x.getD i 0) (n - 1))) (i + 1))) := Lib.hid (by rw [nextL, hlk]; rfl)
        clear hb3
        have hn2 : (n : Int) - 2 = ((n - 1 : Nat) : Int) - 1 ∨ ((n : Int) - 2 = -2 ∧ n - 1 = 0) := by omega
        go_loopw [5] (fun iv wr => ∃ (j : Nat) (i : Int), j ≤ n - 1 ∧ iv = .int .i64 i ∧ ((j = 0 ∧ i < 0 ∧ -2 ≤ i) ∨ (0 < j ∧ i = (j : Int) - 1)) ∧ Hid (riseAt x j = riseAt x (n - 1)) ∧ Hid (Own wr (s + 2) 3 x) ∧ Hid (J (k + 1) wr) ∧ Hid (wr.heap[m]? = W.heap[m]?)) (fun iv _ => (intOf iv + 2).toNat)
        case atStart => exact ⟨n - 1, _, Nat.le_refl _, rfl, by omega, Lib.hid rfl, HO3, HJ3, HM3⟩
        case round =>
          obtain ⟨j, i, hj, rfl, hij, hri, hO, hJk, hmm⟩ := hrel
          rcases hij with ⟨rfl, hi0, hi2⟩ | ⟨hj0, hij⟩
          · have d1 : decide (0 ≤ i) = false := decide_eq_false (by omega)
            have HEND : Hid (RK.length = k + 1) := Lib.hid (by
              have h1 := HNL.out
              rw [← hri.out] at h1
              rw [HNX.out] at h1
              have h2 : RK[k + 1]? = none := h1
              rw [List.getElem?_eq_none_iff] at h2
              omega)
            clear hn2
            go_wp2_with fail
            go_quiet (fail)
            have HJE := Lib.hid (HJ.out _ _ _ hJk.out (grown_drew wr nq _))
            go_wp2
            refine (wpIn_wide (n := 4)).2 ?_
            go_wp2
            refine bodyPost_ret (results_none rfl _ _ _) rfl ?_
            exact ⟨⟨_, rfl⟩, by rw [HEND.out]; exact HJE.out⟩
          · obtain ⟨q, rfl⟩ : ∃ q, j = q + 1 := ⟨j - 1, by omega⟩
            obtain rfl : i = (q : Int) := by omega
            obtain ⟨y0, hy0⟩ : ∃ y, x[q]? = some y := ⟨x[q]'(by omega), by simp⟩
            obtain ⟨y1, hy1⟩ : ∃ y, x[q + 1]? = some y := ⟨x[q + 1]'(by omega), by simp⟩
            have c0 := hO.out.cell hy0
            have c1 := hO.out.cell hy1
            have hd0 := getD_of hy0
            have hd1 := getD_of hy1
            have d1 : decide (0 ≤ (q : Int)) = true := decide_eq_true (by omega)
            have i1 : (q : Int) < (n : Int) := by omega
            have i2 : (q : Int) + 1 < (n : Int) := by omega
            clear hn2 hij hj0
            by_cases hyy : y1 < y0
            · have d2 : decide (y1 < y0) = true := decide_eq_true hyy
              have HRI : Hid (riseAt x q = riseAt x (n - 1)) := Lib.hid (by rw [← hri.out, riseAt_yes (by rw [hd0, hd1]; exact hyy)])
              clear hyy hd0 hd1 hy0 hy1
              go_wp2_with fail
              go_quiet (fail)
              have HJE := Lib.hid (HJ.out _ _ _ hJk.out (grown_drew wr nq _))
              have HOE := Lib.hid (hO.out.drewN nq)
              go_wp2
              go_roundw
              case rel => exact ⟨q, _, by omega, rfl, by omega, HRI, HOE, HJE, hmm⟩
              case measure => simp [intOf]; omega
            · have d2 : decide (y1 < y0) = false := decide_eq_false hyy
              have hri2 : riseAt x (n - 1) = some q := by rw [← hri.out, riseAt_no (by rw [hd0, hd1]; exact hyy)]
              have hnl := HNL.out
              rw [hri2] at hnl
              have HNL2 : Hid (nextL x = some (revFrom (swp x q (overAt x y0 (n - 1))) (q + 1))) := Lib.hid (by rw [← hd0]; exact hnl)
              have HY0 := Lib.hid hy0
              have HD0 := Lib.hid hd0
              clear hyy hd0 hd1 hy0 hy1 hri hri2 hnl HNL
              go_wp2_with fail
              go_quiet (fail)
              have HJE := Lib.hid (HJ.out _ _ _ hJk.out (grown_drew wr nq _))
              have HOE := Lib.hid (hO.out.drewN nq)
              have HME : Hid ((wr.drewN nq).heap[m]? = W.heap[m]?) := Lib.hid hmm.out
              clear hJk hO hmm c0 c1
              generalize wr.drewN nq = w5 at *
              have hb5 := HCM.out w5 HME.out
              go_wp2
              refine (wpIn_wide (n := 4)).2 ?_
              go_wp2_with fail
              clear hb5
              have hn1 : (n : Int) - 1 = ((n - 1 : Nat) : Int) := by omega
              go_loopw [6] (fun tv wr => ∃ t : Nat, q ≤ t ∧ t ≤ n - 1 ∧ tv = .int .i64 t ∧ Hid (overAt x y0 t = overAt x y0 (n - 1)) ∧ Hid (Own wr (s + 2) 3 x) ∧ Hid (J (k + 1) wr) ∧ Hid (wr.heap[m]? = W.heap[m]?)) (fun tv _ => (intOf tv).toNat)
              case atStart => exact ⟨n - 1, by omega, Nat.le_refl _, by rw [hn1], Lib.hid rfl, HOE, HJE, HME⟩
              case round =>
                obtain ⟨t, htq, htn, rfl, hov, hO, hJk, hmm⟩ := hrel
                obtain ⟨z, hz⟩ : ∃ z, x[t]? = some z := ⟨x[t]'(by omega), by simp⟩
                have c0 := hO.out.cell HY0.out
                have c1 := hO.out.cell hz
                have hdz := getD_of hz
                have i3 : (t : Int) < (n : Int) := by omega
                clear hn1
                by_cases hzy : z < y0
                · obtain ⟨t', rfl⟩ : ∃ t', t = t' + 1 := ⟨t - 1, by
                    have : t ≠ q := by
                      rintro rfl
                      rw [HD0.out] at hdz
                      omega
                    omega⟩
                  have htq' : q ≤ t' := by
                    have : t' + 1 ≠ q := by
                      intro e
                      rw [e, HD0.out] at hdz
                      omega
                    omega
                  have d3 : decide (z < y0) = true := decide_eq_true hzy
                  have HOV : Hid (overAt x y0 t' = overAt x y0 (n - 1)) := Lib.hid (by rw [← hov.out, overAt_yes (by rw [hdz]; exact hzy)])
                  clear hzy hdz hz
                  go_wp2_with fail
                  go_quiet (fail)
                  have HJE := Lib.hid (HJ.out _ _ _ hJk.out (grown_drew wr nq _))
                  have HOE := Lib.hid (hO.out.drewN nq)
                  go_wp2
                  go_roundw
                  case rel => exact ⟨t', htq', by omega, by go_num, HOV, HOE, HJE, hmm⟩
                  case measure => simp [intOf]
                · have d3 : decide (z < y0) = false := decide_eq_false hzy
                  have hov2 : overAt x y0 (n - 1) = t := by rw [← hov.out, overAt_no (by rw [hdz]; exact hzy)]
                  have hsw : swp x q t = (x.set q z).set t y0 := by rw [swp, hdz, HD0.out]
                  have hnl := HNL2.out
                  rw [hov2, hsw] at hnl
                  have HN3 := Lib.hid hnl
                  have HZ := Lib.hid hz
                  have HOV := Lib.hid hov2
                  clear hzy hdz hz hov hov2 hsw hnl HNL2
                  go_wp2_with fail
                  go_quiet (fail)
                  have HJE := Lib.hid (HJ.out _ _ _ hJk.out (grown_drew wr nq _))
                  have HOE := Lib.hid (hO.out.drewN nq)
                  have HME : Hid ((wr.drewN nq).heap[m]? = W.heap[m]?) := Lib.hid hmm.out
                  clear hJk hO hmm c0 c1
                  generalize wr.drewN nq = w6 at *
                  go_wp2
                  have c0 := HOE.out.cell HY0.out
                  have c1 := HOE.out.cell HZ.out
                  have f0 := HOE.out.frozen q
                  have f1 := HOE.out.frozen t
                  have hs1 := HOE.out.store q z
                  obtain ⟨zz, hzz⟩ : ∃ zz, (x.set q z)[t]? = some zz := ⟨(x.set q z)[t]'(by simp; omega), by simp⟩
                  have s1 := hs1.cell hzz
                  have s2 := hs1.frozen t
                  have HOS := Lib.hid (hs1.store t y0)
                  have HJS := Lib.hid (HJ.out _ _ _ (HJ.out _ _ _ HJE.out (grown_set w6 (s + 2) q (.int .i64 z))) (grown_set _ (s + 2) t (.int .i64 y0)))
                  have HMS : Hid (((w6.setCell ⟨s + 2, q, none⟩ (.int .i64 z)).setCell ⟨s + 2, t, none⟩ (.int .i64 y0)).heap[m]? = W.heap[m]?) := Lib.hid (by
                    rw [Below.heap_setCell _ _ _ _ (by show m ≠ s + 2; omega), Below.heap_setCell _ _ _ _ (by show m ≠ s + 2; omega)]; exact HME.out)
                  clear hs1 hzz
                  go_region
                  clear c0 c1 f0 f1 s1 s2 HOE HJE HME
                  have HO7 := Lib.hid HOS.out.drew
                  have HJ7 := Lib.hid (HJ.out _ _ _ HJS.out (grown_drew ((w6.setCell ⟨s + 2, q, none⟩ (.int .i64 z)).setCell ⟨s + 2, t, none⟩ (.int .i64 y0)) 1 _))
                  have HM7 : Hid (((w6.setCell ⟨s + 2, q, none⟩ (.int .i64 z)).setCell ⟨s + 2, t, none⟩ (.int .i64 y0)).drew.heap[m]? = W.heap[m]?) := Lib.hid HMS.out
                  clear HOS HJS HMS
                  change Hid (J (k + 1) ((w6.setCell ⟨s + 2, q, none⟩ (.int .i64 z)).setCell ⟨s + 2, t, none⟩ (.int .i64 y0)).drew) at HJ7
                  generalize ((w6.setCell ⟨s + 2, q, none⟩ (.int .i64 z)).setCell ⟨s + 2, t, none⟩ (.int .i64 y0)).drew = w7 at *
                  have hLl : ((x.set q z).set t y0).length = n := by simp; omega
                  have hnq : ¬ n = q + 1 := by omega
                  obtain ⟨Y, hY7⟩ : ∃ Y, Y = (x.set q z).set t y0 := ⟨_, rfl⟩
                  rw [← hY7] at HO7 HN3 hLl
                  clear hY7
                  have CR := Try.slices_Reverse_int (s + 2) (q + 1) (n - (q + 1)) (Y.drop (q + 1)) w7 (own_holds HO7.out) (by simp; omega)
                  rw [List.length_drop, hLl] at CR
                  have HCR := Lib.hid CR
                  have HLL := Lib.hid hLl
                  clear CR hLl
                  go_wp2_with fail
                  refine HCR.out.mono ?_
                  rintro e w8 ⟨rfl, nn, rfl⟩
                  have HO8 := Lib.hid (own_putRow (n := nn) (off := q + 1) HO7.out (by rw [HLL.out]; omega))
                  have HJ8 := Lib.hid (HJ.out _ _ _ HJ7.out (grown_putRow (w := w7) (g := s + 2) (n := nn) (off := q + 1) (d := (Y.drop (q + 1)).reverse.toArray)))
                  have HM8 : Hid ((putRow (Value.int .i64) (Sort.ahead w7 nn) (s + 2) (q + 1) (Y.drop (q + 1)).reverse.toArray).heap[m]? = W.heap[m]?) := Lib.hid (((grown_putRow (w := w7) (g := s + 2) (n := nn) (off := q + 1) (d := (Y.drop (q + 1)).reverse.toArray)).block m (by have := heap_lt' (HO7.out); omega) (by simp; omega)).trans HM7.out)
                  have HXN : Hid (RK[k + 1]? = some (revFrom Y (q + 1))) := Lib.hid (by rw [← HNX.out, HN3.out])
                  have hms := leftIn_eq (f := ff) HO8.out
                  have hl2 := HLF.out _ _ HXN.out
                  have hl1 := HLX.out
                  have HMEAS : Hid (leftIn ff (s + 2) 3 (putRow (Value.int .i64) (Sort.ahead w7 nn) (s + 2) (q + 1) (Y.drop (q + 1)).reverse.toArray) < lenFrom ff x + 1) := Lib.hid (by
                    have := (List.getElem?_eq_some_iff.1 HXN.out).1
                    rw [hms, hl2, hl1]; omega)
                  clear hms hl2 hl1 HO7 HJ7 HM7 HCR
                  generalize putRow (Value.int .i64) (Sort.ahead w7 nn) (s + 2) (q + 1) (Y.drop (q + 1)).reverse.toArray = w8 at *
                  go_wp2
                  go_roundw
                  case rel => exact ⟨k + 1, _, HXN, HO8, HM8, HJ8⟩
                  case measure => exact HMEAS.out
end Go.Proofs.Ytjgobpejifhphaa
