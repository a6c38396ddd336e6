import Derived.Test.YtdkcpnmaglkmnaaS30j
import Derived.Test.YtdkcpnmaglkmnaaClone
import Derived.Deep.DeepMust
/-! The walk of land.parts. -/
namespace Go.Proofs.Ytdkcpnmaglkmnaa
open Go.RowKit Go.Deep
set_option linter.unusedVariables false
set_option maxRecDepth 100000

/-- the parts of an agent on land -/
def partsK (W : Nat) (L : List Int) (a : Int) : List (List Int) := (partsL L.length (mineB L a) (linkB W L a)).map ints
/-- the parts up to i -/
def partsU (W : Nat) (L : List Int) (a : Int) (i : Nat) : List (List Int) := (partsTo L.length (mineB L a) (linkB W L a) i).map ints
theorem partsU_len (W : Nat) (L : List Int) (a : Int) (i : Nat) : (partsU W L a i).length ≤ i := by
  have h1 := List.length_filter_le (isLead L.length (mineB L a) (linkB W L a)) (List.range i)
  simp [partsU, partsTo] at h1 ⊢
  exact h1
theorem Rd.butMap {w w' : World} {B M n : Nat} {f : Nat → Bool} {A : Option Addr} {L : List Int} (h : Rd w B A L) (hm : OwnM w M n f) (hg : w.grownBy w' (some M)) (hB : B ≤ w.heap.size) : Rd w' w'.heap.size A L :=
  ⟨h.1, h.2.1, fun hn => by
    obtain ⟨b, off, e, hb, hc⟩ := h.2.2 hn
    refine ⟨b, off, e, by have := hg.size; omega, fun i x hx => ?_⟩
    have hcell := hc i x hx
    have hne : b ≠ M := by
      rintro rfl
      obtain ⟨D, ⟨es, clock, h1, _⟩, _⟩ := hm
      rw [World.cell?] at hcell
      simp [h1] at hcell
    exact (World.cell?_of_block (w := w) (w' := w') (a := ⟨b, off + i, none⟩) (hg.block b (by omega) (by simpa using hne))).trans hcell⟩
theorem VRowsN.butMap {w w' : World} {fv : Value} {vs : List Value} {F : List (List Int)} {M n : Nat} {f : Nat → Bool} (h : VRowsN w fv vs F) (hm : OwnM w M n f) (hg : w.grownBy w' (some M)) : VRowsN w' fv vs F :=
  ⟨h.1, fun i L hi => by
    obtain ⟨A, c, h1, h2, h3⟩ := h.2 i L hi
    exact ⟨A, c, h1, h2.butMap hm hg (Nat.le_refl _), h3⟩⟩
theorem grown_below' {a w w' : World} {row : Option Nat} (h : a.grownBy w row) (hb : Below w.heap.size w w') : a.grownBy w' row :=
  h.trans ⟨hb.os, hb.tape, hb.output, hb.size, fun i hi _ => hb.block i hi⟩
theorem row_but {w w' : World} {base e size M : Nat} {v : Value} {n : Nat} {xs : List Value} (h : w.ownsRow base e size v n xs) (hg : w.grownBy w' (some M)) (hM : M < base) : w'.ownsRow base e size v n xs := by
  refine ⟨h.1, ?_⟩
  rcases h.2 with h2 | ⟨g, cap, cur, hv, hgb, hh, r⟩
  · exact .inl h2
  · have hlt : g < w.heap.size := by
      rcases Nat.lt_or_ge g w.heap.size with hlt | hge
      · exact hlt
      · rw [Array.getElem?_eq_none hge] at hh; cases hh
    exact .inr ⟨g, cap, cur, hv, hgb, (hg.block g hlt (by simp; omega)).trans hh, r⟩
/-- what comes out: rows in new blocks -/
def PartsRes (w : World) (F : List (List Int)) (e : Ending) (w' : World) : Prop := ∃ A c, e = .returned (.slice A F.length c) ∧ Rd2 w' w'.heap.size A F ∧ Below w.heap.size w w'

theorem infoSl30 : (Try.prog.info? 22).map (fun i => (i.zero, i.size, i.bytes)) = some (some (.slice none 0 0), 1, 24) := by kernel_rfl

theorem dirs {j : Nat} (hj : j < 4) (u : World) : (Instr.index 70 (.agg #[.int .i64 1, .int .i64 0, .int .i64 0, .int .i64 1, .int .i64 (-1), .int .i64 0, .int .i64 0, .int .i64 (-1)]) (.int .i64 (j : Int))).run Try.prog u = .ok (.agg #[.int .i64 (dxI j), .int .i64 (dyI j)]) u := by
  have hcj : j = 0 ∨ j = 1 ∨ j = 2 ∨ j = 3 := by omega
  have x0 : ∀ u : World, (Instr.index 70 (.agg #[.int .i64 1, .int .i64 0, .int .i64 0, .int .i64 1, .int .i64 (-1), .int .i64 0, .int .i64 0, .int .i64 (-1)]) (.int .i64 0)).run Try.prog u = .ok (.agg #[.int .i64 1, .int .i64 0]) u := fun u => by kernel_rfl
  have x1 : ∀ u : World, (Instr.index 70 (.agg #[.int .i64 1, .int .i64 0, .int .i64 0, .int .i64 1, .int .i64 (-1), .int .i64 0, .int .i64 0, .int .i64 (-1)]) (.int .i64 1)).run Try.prog u = .ok (.agg #[.int .i64 0, .int .i64 1]) u := fun u => by kernel_rfl
  have x2 : ∀ u : World, (Instr.index 70 (.agg #[.int .i64 1, .int .i64 0, .int .i64 0, .int .i64 1, .int .i64 (-1), .int .i64 0, .int .i64 0, .int .i64 (-1)]) (.int .i64 2)).run Try.prog u = .ok (.agg #[.int .i64 (-1), .int .i64 0]) u := fun u => by kernel_rfl
  have x3 : ∀ u : World, (Instr.index 70 (.agg #[.int .i64 1, .int .i64 0, .int .i64 0, .int .i64 1, .int .i64 (-1), .int .i64 0, .int .i64 0, .int .i64 (-1)]) (.int .i64 3)).run Try.prog u = .ok (.agg #[.int .i64 0, .int .i64 (-1)]) u := fun u => by kernel_rfl
  rcases hcj with rfl | rfl | rfl | rfl
  · exact x0 u
  · exact x1 u
  · exact x2 u
  · exact x3 u
theorem dir_bd {j : Nat} (hj : j < 4) : -1 ≤ dxI j ∧ dxI j ≤ 1 ∧ -1 ≤ dyI j ∧ dyI j ≤ 1 := by
  have hcj : j = 0 ∨ j = 1 ∨ j = 2 ∨ j = 3 := by omega
  rcases hcj with rfl | rfl | rfl | rfl <;> decide

set_option maxHeartbeats 4000000 in
theorem lParts {w : World} {B : Nat} {A : Option Addr} {L : List Int} {cap W H : Nat} (h : Rd w B A L) (hB : B ≤ w.heap.size) (v : VL W H L) {a : Int} (ha : 0 ≤ a) :
    Calls Try.prog 45 #[.agg #[.int .i64 W, .int .i64 H, .slice A L.length cap], .int .i64 a] w (PartsRes w (partsK W L a)) := by
  have l144 := v.len144
  have W0 := v.w0
  have W12 := v.w1
  have hal : Below w.heap.size w (w.alloc (.cells #[.int .i64 W, .int .i64 H, .slice A L.length cap] 24)) := (Below.refl _ _).alloc (Nat.le_refl _) _
  have hsz : (w.alloc (.cells #[.int .i64 W, .int .i64 H, .slice A L.length cap] 24)).heap.size = w.heap.size + 1 := by simp
  have b0 : (w.alloc (.cells #[.int .i64 W, .int .i64 H, .slice A L.length cap] 24)).cell? ⟨w.heap.size, 0, none⟩ = some (.int .i64 W) := by simp
  have b1 : (w.alloc (.cells #[.int .i64 W, .int .i64 H, .slice A L.length cap] 24)).cell? ⟨w.heap.size, 1, none⟩ = some (.int .i64 H) := by simp
  have b2 : (w.alloc (.cells #[.int .i64 W, .int .i64 H, .slice A L.length cap] 24)).cell? ⟨w.heap.size, 2, none⟩ = some (.slice A L.length cap) := by simp
  have HAL := Lib.hid hal
  have HSZ := Lib.hid hsz
  have H0 := Lib.hid h
  have HV := Lib.hid v
  have hmk := @run_makeMap Try.prog
  generalize hQ : PartsRes w (partsK W L a) = Q at *
  have HQ := Lib.hid hQ
  obtain ⟨w1, hw1⟩ : ∃ w1, w.alloc (.cells #[.int .i64 W, .int .i64 H, .slice A L.length cap] 24) = w1 := ⟨_, rfl⟩
  have HW1 := Lib.hid hw1
  clear hal h v hQ hw1
  go_enter Try.func45, Try.ntmps45
  go_wp2
  rw [HW1.out] at HAL HSZ b0 b1 b2 ⊢
  clear HW1 hmk
  have HM0 : Hid (OwnM (w1.alloc (.map #[] 0)) (w.heap.size + 1) 0 fun _ => false) := Lib.hid (by have h1 := OwnM.made w1; rw [HSZ.out] at h1; exact h1)
  have HB0 : Hid (Below w1.heap.size w1 (w1.alloc (.map #[] 0))) := Lib.hid ((Below.refl _ _).alloc (Nat.le_refl _) _)
  have hs2 : (w1.alloc (.map #[] 0)).heap.size = w1.heap.size + 1 := by simp
  have HS2 := Lib.hid hs2
  have B0 := Lib.hid b0
  have B1 := Lib.hid b1
  have B2 := Lib.hid b2
  clear b0 b1 b2 hs2 hsz
  generalize w1.alloc (.map #[] 0) = w2 at *
  have HHD : Hid (w.heap.size < w1.heap.size) := Lib.hid (by have := HSZ.out; omega)
  go_loopw [20] (fun iv wr => ∃ (k : Nat), k ≤ L.length ∧ iv = .int .i64 k ∧ Hid (OwnM wr (w.heap.size + 1) k (fun q => decide (q < k) && mineB L a q)) ∧ Hid (Below w1.heap.size w1 wr) ∧ Hid (w1.heap.size < wr.heap.size)) (fun iv _ => L.length - (intOf iv).toNat)
  case atStart => exact ⟨0, by omega, rfl, Lib.hid (HM0.out.ext fun k hk => by simp), HB0, Lib.hid (by have := HS2.out; omega)⟩
  case round =>
    obtain ⟨k, hk, rfl, hm, hbw, hs⟩ := hrel
    have hs' := hs.out
    by_cases hlt : k < L.length
    · have hbw' := HAL.out.trans (hbw.out.mono HAL.out.size)
      obtain ⟨b, off, x, rfl, hb, hx, hi, hc⟩ := (H0.out.below hbw' hB).at_ hlt
      have HX := Lib.hid hx
      clear hbw' hx hi
      by_cases hxa : x = a
      · have hb1 : (x == a) = true := by simpa using hxa
        have HMI : Hid (mineB L a k = true) := Lib.hid (mineB_iff.2 (by rw [HX.out, hxa]))
        clear hxa
        go_wp2_with (first | (at_mapUpdate; go_must (refine wpm_put rfl _ _ _ rfl rfl hm.out (by omega) (k := k) (by omega) rfl rfl ?_; intro w3 hm3 hg3)) | go_in)
        have HM3 : Hid (OwnM w3 (w.heap.size + 1) (k + 1) (fun q => decide (q < k + 1) && mineB L a q)) := Lib.hid (hm3.ext fun q _ => by
          by_cases hqk : q = k
          · subst hqk; simp [HMI.out]
          · rw [if_neg hqk, show decide (q < k) = decide (q < k + 1) by rw [Bool.eq_iff_iff]; simp; omega])
        have HB3 : Hid (Below w1.heap.size w1 w3) := Lib.hid (hbw.out.grown hg3 (by omega) (fun q hq => by cases hq; have := HSZ.out; omega))
        have HS3 : Hid (w1.heap.size < w3.heap.size) := Lib.hid (by have := hg3.size; omega)
        clear hm3 hg3 hm hbw hs hs' hc
        go_wp2
        go_roundw
        case rel => exact ⟨k + 1, by omega, by go_num, HM3, HB3, HS3⟩
        case measure => simp [intOf]; omega
      · have hb1 : (x == a) = false := by simpa using hxa
        have HM3 : Hid (OwnM wr (w.heap.size + 1) (k + 1) (fun q => decide (q < k + 1) && mineB L a q)) := Lib.hid ((hm.out.ext fun q _ => by
          by_cases hqk : q = k
          · subst hqk
            have : mineB L a q = false := by
              cases hh : mineB L a q
              · rfl
              · have := mineB_iff.1 hh
                rw [HX.out] at this
                cases this
                exact absurd rfl hxa
            simp [this]
          · rw [show decide (q < k) = decide (q < k + 1) by rw [Bool.eq_iff_iff]; simp; omega]).more (by omega))
        clear hxa hm
        go_wp2
        go_roundw
        case rel => exact ⟨k + 1, by omega, by go_num, HM3, hbw, hs⟩
        case measure => simp [intOf]; omega
    · have hkn : k = L.length := by omega
      have HM3 : Hid (OwnM wr (w.heap.size + 1) L.length (mineB L a)) := Lib.hid (by
        rw [← hkn]
        refine hm.out.ext fun q _ => ?_
        by_cases hq : q < k
        · simp [hq]
        · cases hh : mineB L a q
          · simp
          · have := mineB_lt hh; omega)
      clear hm hkn hk
      have q2 := ((bcell hbw.out).1 w.heap.size 2 HHD.out).trans B2.out
      have HLF : Hid (LeftOf L.length (mineB L a) (linkB W L a) 0 (mineB L a)) := Lib.hid (fun q hq => by simp)
      obtain ⟨i0, hi, hz0, hz1, hz2⟩ := info_parts infoSl30
      have HI := Lib.hid hi
      clear hi
      go_wp2
      clear q2 hlt
      go_loopw [4, 34] (fun fv iv wo => ∃ (k : Nat) (left : Nat → Bool) (vs : List Value), k ≤ L.length ∧ iv = .int .i64 k ∧ Hid (OwnM wo (w.heap.size + 1) L.length left) ∧ Hid (LeftOf L.length (mineB L a) (linkB W L a) k left)
        ∧ Hid (wo.ownsRow (w.heap.size + 2) 22 1 fv (partsU W L a k).length vs) ∧ Hid (VRowsN wo fv vs (partsU W L a k)) ∧ Hid (Below w1.heap.size w1 wo) ∧ Hid (w1.heap.size < wo.heap.size)) (fun _ iv _ => L.length - (intOf iv).toNat)
      case atStart => exact ⟨0, mineB L a, [], by omega, rfl, HM3, HLF, Lib.hid (own_row_nil _ _ _), Lib.hid (VRowsN.nil _ _), hbw, hs⟩
      case round =>
        clear HM3 HLF hbw hs hs'
        obtain ⟨k, left, vs, hk, rfl, hm, hlf, ho, hv, hbw, hs⟩ := hrel
        have hs' := hs.out
        by_cases hlt : k < L.length
        · have hlk := hm.out.look (k := k) (by omega)
          cases hl : left k
          · rw [hl] at hlk
            have HN := Lib.hid (left_next_no hlf.out hlt hl linkB_symm (fun a b h => (linkB_iff.1 h).1))
            have HU : Hid (partsU W L a (k + 1) = partsU W L a k) := Lib.hid (by
              unfold partsU
              rw [partsTo_no (by
                cases hh : isLead L.length (mineB L a) (linkB W L a) k
                · rfl
                · exact absurd ((isLead_iff linkB_lt hlt).1 hh) HN.out.2)])
            clear hl hlf
            go_wp2
            go_roundw
            case rel => exact ⟨k + 1, left, vs, by omega, by go_num, hm, Lib.hid HN.out.1, by rw [HU.out]; exact ho, by rw [HU.out]; exact hv, hbw, hs⟩
            case measure => simp [intOf]; omega
          · rw [hl] at hlk
            have HLD := Lib.hid (lead_of_left hlf.out hlt hl linkB_symm)
            have HBF := Lib.hid (Bfs.start hlf.out hlt)
            have HU : Hid (partsU W L a (k + 1) = partsU W L a k ++ [ints (comp L.length (linkB W L a) k)]) := Lib.hid (by
              unfold partsU
              rw [partsTo_yes ((isLead_iff linkB_lt hlt).2 HLD.out), List.map_append]
              rfl)
            clear hl
            go_wp2_with (first | (at_delete; go_must (refine wpm_cut rfl _ _ rfl rfl hm.out (k := k) (by omega) rfl ?_; intro w4 hm4 ht4)) | go_in)
            have hg4 := ht4.grown
            have hbw4 : Below w1.heap.size w1 w4 := hbw.out.grown hg4 (by omega) (fun q hq => by cases hq; have := HSZ.out; omega)
            have HM5 : Hid (OwnM (w4.alloc (.cells #[.int .i64 (k : Int)] 3)) (w.heap.size + 1) L.length (fun i => if i = k then false else left i)) := Lib.hid (hm4.alloc _)
            have HG5 : Hid (w4.grownBy (w4.alloc (.cells #[.int .i64 (k : Int)] 3)) (some (w.heap.size + 1))) := Lib.hid (World.grownBy_alloc w4 _ _)
            have HR5 : Hid ((w4.alloc (.cells #[.int .i64 (k : Int)] 3)).ownsRow w4.heap.size 3 1 (.slice (some ⟨w4.heap.size, 0, none⟩) 1 1) (ints [k]).length ((ints [k]).map (Value.int .i64))) :=
              Lib.hid ⟨rfl, .inr ⟨w4.heap.size, 1, #[.int .i64 (k : Int)], rfl, Nat.le_refl _, heap_alloc_new w4 _, Nat.le_refl _, by unfold maxLen; omega, rfl, rfl⟩⟩
            have HS5 : Hid (w4.heap.size < (w4.alloc (.cells #[.int .i64 (k : Int)] 3)).heap.size) := Lib.hid (by simp)
            have HB4 := Lib.hid hbw4
            have HG4 := Lib.hid hg4
            have HM := hm
            have HO := ho
            have HV0 := hv
            have HS := hs
            clear hm4 ht4 hg4 hbw4 hlk hlf hm ho hv hbw hs hs'
            generalize w4.alloc (.cells #[.int .i64 (k : Int)] 3) = w5 at *
            go_loopw [9, 10] (fun pv mv wi => ∃ (P : List Nat) (m : Nat) (lf : Nat → Bool), m ≤ P.length ∧ mv = .int .i64 m ∧ Hid (Bfs L.length (mineB L a) (linkB W L a) k P lf) ∧ Hid (DoneTo (linkB W L a) P m) ∧ Hid (OwnM wi (w.heap.size + 1) L.length lf)
              ∧ Hid (wi.ownsRow w4.heap.size 3 1 pv (ints P).length ((ints P).map (Value.int .i64))) ∧ Hid (w4.grownBy wi (some (w.heap.size + 1))) ∧ Hid (w4.heap.size < wi.heap.size)) (fun _ mv _ => L.length - (intOf mv).toNat)
            case atStart => exact ⟨[k], 0, _, by simp, rfl, HBF, Lib.hid (fun m p hm => absurd hm (by omega)), HM5, HR5, HG5, HS5⟩
            case round =>
              clear HM5 HR5 HG5 HS5 HBF
              obtain ⟨P, m, lf, hmP, rfl, hbf, hdn, hml, hrow, hgr, hsr⟩ := hrel
              have hpos : 0 < P.length := List.length_pos_of_mem hbf.out.self
              have hPn := hbf.out.len
              obtain ⟨N, hN⟩ : ∃ N, (ints P).length = N := ⟨_, rfl⟩
              have hNP : N = P.length := by rw [← hN, ints_length]
              have HN := Lib.hid hN
              by_cases hlt2 : m < P.length
              · obtain ⟨p, hp⟩ : ∃ p, P[m]? = some p := ⟨P[m], by simp [hlt2]⟩
                have hpm := List.mem_of_getElem? hp
                have hpn := hbf.out.lt p hpm
                obtain ⟨g, cp, rfl, hgb, hP⟩ := ownP_of_row hrow.out (by rw [ints_length]; omega)
                have hcp := hP.cell (ints_at hp)
                have hbr : Below w1.heap.size w1 wr := HB4.out.grown hgr.out (by have := HS.out; have := HG4.out.size; omega) (fun q hq => by cases hq; have := HSZ.out; omega)
                have q0 := ((bcell hbr).1 w.heap.size 0 HHD.out).trans B0.out
                have HBR := Lib.hid hbr
                have HPM := Lib.hid hpm
                have HP := Lib.hid hp
                have HGL := Lib.hid hP.lt
                have d1 : W ≠ 0 := by omega
                obtain ⟨i0', i1', i2', i3'⟩ := divmod_bd (W := W) (i := p) W0 (by omega)
                have t1 : Int.tmod (p : Int) W = (p : Int) % W := Int.tmod_eq_emod_of_nonneg (by omega)
                have t3 : Int.tdiv (p : Int) W = (p : Int) / W := Int.tdiv_eq_ediv_of_nonneg (by omega)
                have e1 : IntKind.i64.wrap ((p : Int) / W) = (p : Int) / W := IntWalk.i64_in _ (by omega)
                have e2 : IntKind.i64.wrap ((p : Int) % W) = (p : Int) % W := IntWalk.i64_in _ (by omega)
                have hmN : m < N := by omega
                have hdm : decide ((m : Int) < (N : Int)) = true := by simpa using hmN
                have HX : Hid (wayX W p = fun j => (p : Int) % W + dxI j) := Lib.hid rfl
                have HY : Hid (wayY W p = fun j => (p : Int) / W + dyI j) := Lib.hid rfl
                rw [hN]
                clear hP hbr hp hpm hN hmP
                generalize (p : Int) % W = X at *
                generalize (p : Int) / W = Y at *
                go_wp2
                go_quiet (fail)
                have hdr : Below wr.heap.size wr (wr.drewN nq) := below_drewN (Below.refl _ _) nq
                generalize hwd : wr.drewN nq = wd at *
                go_wp2_with fail
                refine lSteps.mono ?_
                rintro e w6 ⟨rfl, hb6⟩
                have hb7 := hdr.trans (hb6.mono hdr.size)
                have HMI := Lib.hid (hml.out.below hb7 hml.out.lt)
                have HRI := Lib.hid (row_below hrow.out hb7)
                have HGI := Lib.hid (grown_below' hgr.out hb7)
                have HSI : Hid (w4.heap.size < w6.heap.size) := Lib.hid (Nat.lt_of_lt_of_le hsr.out hb7.size)
                clear hb7 hb6 hdr hwd hml hrow hgr hsr q0 hcp d1 t1 t3 e1 e2 hdm
                have HWAY : Hid (WayTo W H L a p P 0) := Lib.hid (WayTo.start HV.out)
                go_wp2
                go_loopw [9, 66] (fun pv jv wi => ∃ (P' : List Nat) (j : Nat) (lf' : Nat → Bool), j ≤ 4 ∧ jv = .int .i64 j ∧ Hid (Bfs L.length (mineB L a) (linkB W L a) k P' lf') ∧ Hid (DoneTo (linkB W L a) P' m) ∧ Hid (P'[m]? = some p)
                  ∧ Hid (WayTo W H L a p P' j) ∧ Hid (OwnM wi (w.heap.size + 1) L.length lf')
                  ∧ Hid (wi.ownsRow w4.heap.size 3 1 pv (ints P').length ((ints P').map (Value.int .i64))) ∧ Hid (w4.grownBy wi (some (w.heap.size + 1))) ∧ Hid (w4.heap.size < wi.heap.size)) (fun _ jv _ => 4 - (intOf jv).toNat)
                case atStart => exact ⟨P, 0, lf, by omega, rfl, hbf, hdn, HP, HWAY, HMI, by have h1 := HRI; rw [ints_length] at h1 ⊢; exact h1, HGI, HSI⟩
                case round =>
                  clear HWAY HMI HRI HGI HSI hbf hdn
                  obtain ⟨P', j, lf', hj, rfl, hbf, hdn, hp, hway, hmi, hrow, hgr, hsr⟩ := hrel
                  have hmp : m < P'.length := (List.getElem?_eq_some_iff.1 hp.out).1
                  have hPn' := hbf.out.len
                  by_cases hj4 : j < 4
                  · have hix := fun u => dirs hj4 u
                    obtain ⟨b1, b2, b3, b4⟩ := dir_bd hj4
                    obtain ⟨z, hz⟩ : ∃ z, atL W H L (X + dxI j) (Y + dyI j) = z := ⟨_, rfl⟩
                    have HWX : Hid (wayX W p j = X + dxI j) := Lib.hid (congrFun HX.out j)
                    have HWY : Hid (wayY W p j = Y + dyI j) := Lib.hid (congrFun HY.out j)
                    have HZ := Lib.hid hz
                    have hbr : Below w1.heap.size w1 wr := HB4.out.grown hgr.out (by have := HS.out; have := HG4.out.size; omega) (fun q hq => by cases hq; have := HSZ.out; omega)
                    have HBR := Lib.hid hbr
                    have m1 : (Y + dyI j) * W ≤ 145 * 12 := Int.mul_le_mul (by omega) (by omega) (by omega) (by omega)
                    have m2 : -1 * (W : Int) ≤ (Y + dyI j) * W := Int.mul_le_mul_of_nonneg_right (by omega) (by omega)
                    have e1 : IntKind.i64.wrap (Y + dyI j) = Y + dyI j := IntWalk.i64_in _ (by omega)
                    have e2 : IntKind.i64.wrap ((Y + dyI j) * W) = (Y + dyI j) * W := IntWalk.i64_in _ (by omega)
                    have e3 : IntKind.i64.wrap ((Y + dyI j) * W + X) = (Y + dyI j) * W + X := IntWalk.i64_in _ (by omega)
                    have e4 : IntKind.i64.wrap ((Y + dyI j) * W + X + dxI j) = (Y + dyI j) * W + X + dxI j := IntWalk.i64_in _ (by omega)
                    have e5 : IntKind.i64.wrap (X + dxI j) = X + dxI j := IntWalk.i64_in _ (by omega)
                    clear hbr hz m1 m2
                    generalize dxI j = dx at *
                    generalize dyI j = dy at *
                    have hal1 : Below wr.heap.size wr (wr.alloc (.cells #[.int .i64 dx, .int .i64 dy] 62)) := (Below.refl _ _).alloc (Nat.le_refl _) _
                    have hszp : (wr.alloc (.cells #[.int .i64 dx, .int .i64 dy] 62)).heap.size = wr.heap.size + 1 := by simp
                    have c0 : (wr.alloc (.cells #[.int .i64 dx, .int .i64 dy] 62)).cell? ⟨wr.heap.size, 0, none⟩ = some (.int .i64 dx) := by simp
                    have c1 : (wr.alloc (.cells #[.int .i64 dx, .int .i64 dy] 62)).cell? ⟨wr.heap.size, 1, none⟩ = some (.int .i64 dy) := by simp
                    have hmp := hmi.out.alloc (.cells #[.int .i64 dx, .int .i64 dy] 62)
                    obtain ⟨wp, hwp⟩ : ∃ wp, wr.alloc (.cells #[.int .i64 dx, .int .i64 dy] 62) = wp := ⟨_, rfl⟩
                    rw [hwp] at hal1 hszp c0 c1 hmp
                    have HBP := Lib.hid (HBR.out.trans (hal1.mono HBR.out.size))
                    have q0 := ((bcell HBP.out).1 w.heap.size 0 HHD.out).trans B0.out
                    have q1 := ((bcell HBP.out).1 w.heap.size 1 HHD.out).trans B1.out
                    have q2 := ((bcell HBP.out).1 w.heap.size 2 HHD.out).trans B2.out
                    have CAT := Lib.hid (lAt (cap := cap) (w := wp) (H0.out.below (HAL.out.trans (HBP.out.mono HAL.out.size)) hB) (Nat.le_trans hB (HAL.out.trans (HBP.out.mono HAL.out.size)).size) HV.out (X + dx) (Y + dy))
                    rw [HZ.out] at CAT
                    have HMP := Lib.hid hmp
                    have HAL1 := Lib.hid hal1
                    have HSZP := Lib.hid hszp
                    clear hal1 hszp hmp
                    go_wp2_with fail
                    refine CAT.out.mono ?_
                    rintro e w6 ⟨rfl, hb6⟩
                    have hm6 := HMP.out.below hb6 HMP.out.lt
                    have HM6 := Lib.hid hm6
                    have hbA := HAL1.out.trans (hb6.mono HAL1.out.size)
                    have HR6 := Lib.hid (row_below hrow.out hbA)
                    have HG6 := Lib.hid (grown_below' hgr.out hbA)
                    have HS6 : Hid (w4.heap.size < w6.heap.size) := Lib.hid (Nat.lt_of_lt_of_le hsr.out hbA.size)
                    clear hbA hrow hgr hsr hmi q0 q1 q2 c0 c1 HAL1 HSZP HMP HBP HBR hwp hb6
                    by_cases hza : z = a
                    · obtain ⟨q, hq, hqn, hqm, hql⟩ := way_link HV.out ha hj4 (linkB_mine HLD.out.1 (hbf.out.con p (List.mem_of_getElem? hp.out))) (by rw [HWX.out, HWY.out, HZ.out, hza])
                      have HQN : Hid (wayN W p j = q) := Lib.hid hq
                      have hq2 : (Y + dy) * W + X + dx = q := by rw [← hq, wayN, HWX.out, HWY.out]; omega
                      have hlk := hm6.look (k := q) (by omega)
                      have HQL := Lib.hid hql
                      have HQM := Lib.hid hqm
                      have hb1 : (z == a) = true := by simpa using hza
                      clear hq hql hqm hza hm6
                      cases hl : lf' q
                      · rw [hl] at hlk
                        have HIN : Hid (q ∈ P') := Lib.hid (hbf.out.in_ HLD.out.2 linkB_symm (List.mem_of_getElem? hp.out) HQL.out HQM.out hqn hl)
                        have HWN : Hid (WayTo W H L a p P' (j + 1)) := Lib.hid (hway.out.seen HQN.out HIN.out)
                        clear hl
                        go_wp2
                        go_roundw
                        case rel => exact ⟨P', j + 1, lf', by omega, by go_num, hbf, hdn, hp, HWN, HM6, HR6, HG6, HS6⟩
                        case measure => simp [intOf]; omega
                      · rw [hl] at hlk
                        obtain ⟨jI, hjI, hy0, hy1, hy2⟩ := info_parts infoInt'
                        have HBF := Lib.hid (hbf.out.add (List.mem_of_getElem? hp.out) HQL.out hqn hl)
                        have HDN := Lib.hid (hdn.out.more (by omega) q)
                        have HPN : Hid ((P' ++ [q])[m]? = some p) := Lib.hid (by rw [List.getElem?_append_left hmp]; exact hp.out)
                        have HWN : Hid (WayTo W H L a p (P' ++ [q]) (j + 1)) := Lib.hid ((hway.out.more q).seen HQN.out (by simp))
                        have HPL := HBF.out.len
                        have HJI := Lib.hid hjI
                        rw [List.length_append] at HPL
                        clear hl hjI hbf hdn hp hway
                        go_wp2_with (first | (at_delete; go_must (refine wpm_cut rfl _ _ rfl rfl HM6.out (k := q) (by omega) rfl ?_; intro w7 hm7 ht7; generalize hst : wpList _ _ _ _ _ _ = Zs)))
                        subst hst
                        have hg7 := ht7.grown
                        have HG7 := Lib.hid (HG6.out.trans hg7)
                        have HR7 := Lib.hid (row_but HR6.out hg7 (by have := HS.out; have := HSZ.out; have := HG4.out.size; omega))
                        have HS7 : Hid (w4.heap.size < w7.heap.size) := Lib.hid (by have := HS6.out; have := hg7.size; omega)
                        have HMX := Lib.hid hm7
                        have hoz := Lib.hid (row_below HR7.out (Below.alloc (Below.refl w7.heap.size w7) (Nat.le_refl _) (.cells #[.int .i64 (q : Int)] 3)))
                        have hcz := Lib.hid (new_one w7 (.int .i64 (q : Int)) 3)
                        have hbz := Lib.hid (Below.alloc (Below.refl w7.heap.size w7) (Nat.le_refl _) (.cells #[.int .i64 (q : Int)] 3))
                        have hwz : Hid ((w7.alloc (.cells #[.int .i64 (q : Int)] 3)).heap.size = w7.heap.size + 1) := Lib.hid (by simp)
                        have hmz := Lib.hid (HMX.out.alloc (.cells #[.int .i64 (q : Int)] 3))
                        have HGZ := Lib.hid (grown_below' HG7.out hbz.out)
                        clear hm7 ht7 hg7 hlk
                        generalize hgw : w7.alloc (.cells #[.int .i64 (q : Int)] 3) = wa at *
                        go_wp2_with (at_builtin; refine wpList_append_own_at _ rfl _ _ 22 rfl w4.heap.size 3 jI (.int .i64 0) 1 8 Try.underlying22 HJI.out hy0 hy1 hy2 rfl (by decide) _ (ints P').length _ rfl hoz.out ⟨w7.heap.size, 0, none⟩ 1 1 [.int .i64 (q : Int)] rfl (by simp) hcz.out (by simp [Value.oneCell']) (by rw [ints_length]; unfold maxLen; omega) (by rw [ints_length]; omega) (by rw [hwz.out]; have := HS7.out; omega) ?_)
                        intro v' w8 hown hgrow _ hat
                        have HG8 := Lib.hid (HGZ.out.andThen hgrow (fun j hj => by have h1 := (hoz.out.lt j hj).1; left; omega))
                        have HM8 : Hid (OwnM w8 (w.heap.size + 1) L.length (fun i => if i = q then false else lf' i)) := Lib.hid (hmz.out.same (hgrow.block _ hmz.out.lt (fun hq => by have h1 := (hoz.out.lt _ hq.symm).1; have := HS.out; have := HSZ.out; have := HG4.out.size; omega)))
                        have HS8 : Hid (w4.heap.size < w8.heap.size) := Lib.hid (by have h1 := hgrow.size; have h2 := hwz.out; have h3 := HS7.out; omega)
                        have HO8 : Hid (w8.ownsRow w4.heap.size 3 1 v' (ints (P' ++ [q])).length ((ints (P' ++ [q])).map (Value.int .i64))) := Lib.hid (by rw [ints_snoc]; simpa using hown)
                        clear hown hgrow hat hgw
                        go_wp2
                        go_roundw
                        case rel => exact ⟨P' ++ [q], j + 1, _, by omega, by go_num, HBF, HDN, HPN, HWN, HM8, HO8, HG8, HS8⟩
                        case measure => simp [intOf]; omega
                    · have hb1 : (z == a) = false := by simpa using hza
                      have HWN : Hid (WayTo W H L a p P' (j + 1)) := Lib.hid (hway.out.skip (by rw [HWX.out, HWY.out, HZ.out]; exact hza))
                      clear hza hm6 
                      go_wp2
                      go_roundw
                      case rel => exact ⟨P', j + 1, lf', by omega, by go_num, hbf, hdn, hp, HWN, HM6, HR6, HG6, HS6⟩
                      case measure => simp [intOf]; omega
                  · have hj5 : j = 4 := by omega
                    have HD : Hid (DoneTo (linkB W L a) P' (m + 1)) := Lib.hid (hdn.out.next hp.out (by rw [← hj5]; exact hway.out))
                    subst hj5
                    clear hdn hway hp hj4 hj
                    go_wp2
                    go_roundw
                    case rel => exact ⟨P', m + 1, lf', by omega, by go_num, hbf, HD, hmi, hrow, hgr, hsr⟩
                    case measure => simp [intOf]; omega
              · obtain ⟨g, cp, rfl, hgb, hP⟩ := ownP_of_row hrow.out (by rw [ints_length]; omega)
                have CS := Lib.hid (sortRow hrow.out (by rw [ints_length]; omega) (by rw [ints_length]; omega))
                have hmP' : m = P.length := by omega
                have HD : Hid (DoneTo (linkB W L a) P P.length) := Lib.hid (by rw [← hmP']; exact hdn.out)
                have HSRT := Lib.hid (hbf.out.sorted HD.out linkB_lt hlt)
                have HLN := Lib.hid (hbf.out.left_next HD.out)
                have HGL := Lib.hid hP.lt
                have hmn : ¬ m < N := by omega
                rw [hN] at CS ⊢
                clear hdn hP hrow hN hlt2 hmP' hNP hmP
                go_wp2_with fail
                refine CS.out.mono ?_
                rintro e w6 ⟨rfl, hr6, hg6⟩
                have hlo : ∀ q, u4.ownBlock = some q → q < _ := fun q hq => (HO.out.lt q hq).2
                have hz4 := HG4.out.size
                have HG6 := Lib.hid ((HG4.out.trans hgr.out).andThen hg6 (fun j hj => by cases hj; left; omega))
                have HV6 := Lib.hid (HV0.out.butMap HM.out HG6.out)
                have HO6 := Lib.hid (row_but HO.out HG6.out (by omega))
                have HM6 : Hid (OwnM w6 (w.heap.size + 1) L.length lf) := Lib.hid (hml.out.same (hg6.block _ hml.out.lt (by have := HS.out; have := HSZ.out; simp; omega)))
                have HB6 : Hid (Below w1.heap.size w1 w6) := Lib.hid ((HB4.out.grown hgr.out (by have := HS.out; omega) (fun q hq => by cases hq; have := HSZ.out; omega)).grown hg6 (by have := HS.out; have := hgr.out.size; omega) (fun q hq => by cases hq; have := HS.out; omega))
                have HS6 : Hid (w1.heap.size < w6.heap.size) := Lib.hid (by have := HS.out; have := hg6.size; have := hgr.out.size; omega)
                rw [HSRT.out] at hr6
                have hCN : (ints (comp L.length (linkB W L a) k)).length = N := by rw [← HSRT.out, sortI_length, HN.out]
                have hCI : ∀ x ∈ ints (comp L.length (linkB W L a) k), I64 x := by
                  intro x hx
                  obtain ⟨q, hq, rfl⟩ := List.mem_map.1 hx
                  have := comp_lt hlt q hq
                  exact ⟨by omega, by omega⟩
                have hFk := partsU_len W L a k
                have hNn : N ≤ 144 := by rw [← hCN, ints_length]; have := nodup_len ((comp_sorted L.length (linkB W L a) k).imp fun h => Nat.ne_of_lt h) (comp_lt hlt); omega
                generalize ints (comp L.length (linkB W L a) k) = C at *
                subst hCN
                have R6 := row_rd hr6 hCI (by omega)
                have HV7 := Lib.hid (HV6.out.snoc R6 (c := cp) (fun p hp hq => by cases hp; have h2 := hlo _ hq; simp at h2; omega))
                generalize hF : partsU W L a k = F at *
                have hoz := Lib.hid (HO6.out.alloc (.cells #[.slice (some ⟨g, 0, none⟩) C.length cp] 22))
                have hcz := Lib.hid (new_one w6 (.slice (some ⟨g, 0, none⟩) C.length cp) 22)
                have hbz := Lib.hid (Below.alloc (Below.refl w6.heap.size w6) (Nat.le_refl _) (.cells #[.slice (some ⟨g, 0, none⟩) C.length cp] 22))
                have hwz : Hid ((w6.alloc (.cells #[.slice (some ⟨g, 0, none⟩) C.length cp] 22)).heap.size = w6.heap.size + 1) := Lib.hid (by simp)
                have hmz := Lib.hid (HM6.out.alloc (.cells #[.slice (some ⟨g, 0, none⟩) C.length cp] 22))
                clear hr6 hg6 hCI R6 hlo hz4 hgr hml CS hsr
                generalize hgw : w6.alloc (.cells #[.slice (some ⟨g, 0, none⟩) C.length cp] 22) = wa at *
                have hvz := Lib.hid (HV7.out.below hbz.out)
                go_wp2_with (at_builtin; refine wpList_append_own_at _ rfl _ _ 40 rfl (w.heap.size + 2) 22 i0 (.slice none 0 0) 1 24 Try.underlying40 HI.out hz0 hz1 hz2 rfl (by decide) _ F.length _ rfl hoz.out ⟨w6.heap.size, 0, none⟩ 1 1 [.slice (some ⟨g, 0, none⟩) C.length cp] rfl (by simp) hcz.out (by simp [Value.oneCell']) (by unfold maxLen; omega) (by omega) (by rw [hwz.out]; have := HS6.out; have := HSZ.out; omega) ?_)
                intro v' w8 hown hgrow _ hat
                have HV8 := Lib.hid (hvz.out.grown hgrow hat)
                have HB8 : Hid (Below w1.heap.size w1 w8) := Lib.hid (HB6.out.trans ((hbz.out.mono HB6.out.size).trans ((Below.refl _ wa).grown hgrow (by rw [hwz.out]; have := HS6.out; omega) (fun q hq => by have h1 := (hoz.out.lt q hq).1; have := HSZ.out; omega))))
                have HM8 : Hid (OwnM w8 (w.heap.size + 1) L.length lf) := Lib.hid (hmz.out.same (hgrow.block _ hmz.out.lt (fun hq => by have h1 := (hoz.out.lt _ hq.symm).1; omega)))
                have HS8 : Hid (w1.heap.size < w8.heap.size) := Lib.hid (by have h1 := hgrow.size; have h2 := hwz.out; have h3 := HS6.out; omega)
                have HO8 := Lib.hid hown
                clear hown hgrow hat hgw hmn hF
                go_wp2
                go_roundw
                case rel => exact ⟨k + 1, lf, _, by omega, by go_num, HM8, HLN, by rw [HU.out]; exact Lib.hid (by simpa using HO8.out), by rw [HU.out]; exact HV8, HB8, HS8⟩
                case measure => simp [intOf]; omega
        · have hkn : k = L.length := by omega
          obtain ⟨fa, fc, rfl, hfa⟩ := row_slice ho.out
          have hle := partsU_len W L a k
          have R2 := Lib.hid (rd2_of_row ho.out hv.out.rows (by omega))
          have HU : Hid (partsU W L a k = partsK W L a) := Lib.hid (by rw [hkn]; rfl)
          have HEND := Lib.hid (HAL.out.trans (hbw.out.mono HAL.out.size))
          have HQ' := HQ
          clear hm hlf ho hv hbw hfa hkn
          go_wp2
          rw [← HQ.out]
          exact ⟨fa, fc, by rw [← HU.out]; rfl, by rw [← HU.out]; exact R2.out, HEND.out⟩
end Go.Proofs.Ytdkcpnmaglkmnaa
