import Derived.BigQuiet
import Derived.Test.YtdkcpnmaglkmnaaS30u
/-! The walk of the reference's Holes. -/
namespace Go.Proofs.Ytdkcpnmaglkmnaa
open Go.RowKit Go.Deep
set_option linter.unusedVariables false
set_option maxRecDepth 100000

/-- block g is just the bools L -/
def OwnB (w : World) (g T : Nat) (L : List Bool) : Prop := w.heap[g]? = some (.cells (L.map Value.bool).toArray T (0, 0))
section
variable {w w' : World} {g T : Nat} {L : List Bool}
theorem OwnB.lt (h : OwnB w g T L) : g < w.heap.size := by
  rcases Nat.lt_or_ge g w.heap.size with hlt | hge
  · exact hlt
  · unfold OwnB at h; rw [Array.getElem?_eq_none hge] at h; cases h
theorem OwnB.cell (h : OwnB w g T L) {i : Nat} {x : Bool} (hx : L[i]? = some x) : w.cell? ⟨g, i, none⟩ = some (.bool x) := by
  rw [cell_of_row w g i _ T (0, 0) h]; simp [hx]
theorem OwnB.frozen (h : OwnB w g T L) (i : Nat) : w.frozen? ⟨g, i, none⟩ = false := by
  unfold OwnB at h
  simp [World.frozen?, h]
theorem OwnB.drewN (h : OwnB w g T L) (n : Nat) : OwnB (w.drewN n) g T L := h
theorem OwnB.store (h : OwnB w g T L) (i : Nat) (x : Bool) : OwnB (w.setCell ⟨g, i, none⟩ (.bool x)) g T (L.set i x) := by
  unfold OwnB at h ⊢
  simp [World.setCell, Array.getElem?_modify, h, List.map_set]
theorem OwnB.made (w : World) (T n : Nat) : OwnB (w.alloc (.cells (madeCells #[Value.bool false] n) T)) w.heap.size T (List.replicate n false) := by
  have : madeCells #[Value.bool false] n = ((List.replicate n false).map Value.bool).toArray := by
    apply Array.ext
    · simp [madeCells]
    · intro i h1 h2
      simp [madeCells]
      have : i % 1 = 0 := Nat.mod_one i
      simp [this]
  rw [this]
  exact heap_alloc_new w _
end
theorem infoBool' : (Try.prog.info? 4).map (fun i => (i.zero, i.size, i.bytes)) = some (some (.bool false), 1, 1) := by kernel_rfl
/-- the marks that are left -/
def cntW (w : World) (g : Nat) : Nat := match w.heap[g]? with | some (.cells cs _ _) => cntF (cs.toList.map fun v => match v with | .bool b => b | _ => true) | _ => 0
theorem cntW_own {w : World} {g T : Nat} {O : List Bool} (h : OwnB w g T O) : cntW w g = cntF O := by
  have h' : w.heap[g]? = some (.cells (O.map Value.bool).toArray T (0, 0)) := h
  rw [cntW, h']
  show cntF ((O.map Value.bool).map _) = _
  rw [List.map_map]
  congr 1
  exact List.map_id'' (fun _ => rfl) O
def boolH : Value → Nat | .bool true => 1 | _ => 0

set_option maxHeartbeats 8000000 in
theorem lrHoles {w : World} {B : Nat} {A : Option Addr} {L : List Int} {cap W H : Nat} (h : Rd w B A L) (hB : B ≤ w.heap.size) (v : VL W H L) (a : Int) :
    Calls Try.prog 31 #[.agg #[.int .i64 W, .int .i64 H, .slice A L.length cap], .int .i64 a] w fun e w' => e = .returned (.bool (holB W H L a)) ∧ Below w.heap.size w w' := by
  have l144 := v.len144
  have W0 := v.w0
  have W12 := v.w1
  have H12 := v.h1
  have hal : Below w.heap.size w (w.alloc (.cells #[.int .i64 W, .int .i64 H, .slice A L.length cap] 24)) := (Below.refl _ _).alloc (Nat.le_refl _) _
  have hsz : (w.alloc (.cells #[.int .i64 W, .int .i64 H, .slice A L.length cap] 24)).heap.size = w.heap.size + 1 := by simp
  have b0 : (w.alloc (.cells #[.int .i64 W, .int .i64 H, .slice A L.length cap] 24)).cell? ⟨w.heap.size, 0, none⟩ = some (.int .i64 W) := by simp
  have b1 : (w.alloc (.cells #[.int .i64 W, .int .i64 H, .slice A L.length cap] 24)).cell? ⟨w.heap.size, 1, none⟩ = some (.int .i64 H) := by simp
  have b2 : (w.alloc (.cells #[.int .i64 W, .int .i64 H, .slice A L.length cap] 24)).cell? ⟨w.heap.size, 2, none⟩ = some (.slice A L.length cap) := by simp
  have HAL := Lib.hid hal
  have HSZ := Lib.hid hsz
  have H0 := Lib.hid h
  have HV := Lib.hid v
  have hmk := fun u => run_make_row' (P := Try.prog) 78 4 (.bool false) 1 Try.underlying78 infoBool' rfl .i64 .i64 L.length (by omega) (by omega) u
  generalize hQ : holB W H L a = Q at *
  have HQ := Lib.hid hQ
  obtain ⟨w1, hw1⟩ : ∃ w1, w.alloc (.cells #[.int .i64 W, .int .i64 H, .slice A L.length cap] 24) = w1 := ⟨_, rfl⟩
  rw [hw1] at b0 b1 b2
  have HW1 := Lib.hid hw1
  clear hal h v hQ
  go_enter Try.func31, Try.ntmps31
  go_wp2
  clear hw1
  rw [HW1.out] at HAL HSZ
  clear HW1 hmk hsz
  have hown := OwnB.made w1 4 L.length
  have hb2 := Below.alloc (B := w1.heap.size) (Below.refl _ w1) (Nat.le_refl _) (.cells (madeCells #[Value.bool false] L.length) 4)
  have HHD : Hid (w.heap.size < w1.heap.size) := Lib.hid (by have := HSZ.out; omega)
  have B0 := Lib.hid b0
  have B1 := Lib.hid b1
  have B2 := Lib.hid b2
  have HOWN := Lib.hid hown
  have HB2 := Lib.hid hb2
  have HFR : Hid (FreeL W H L a (List.replicate L.length false)) := Lib.hid FreeL.start
  have KB : Hid (∀ u, Below w1.heap.size w1 u → u.cell? ⟨w.heap.size, 0, none⟩ = some (.int .i64 W) ∧ u.cell? ⟨w.heap.size, 1, none⟩ = some (.int .i64 H) ∧ u.cell? ⟨w.heap.size, 2, none⟩ = some (.slice A L.length cap)) := Lib.hid fun u hu =>
    ⟨((bcell hu).1 w.heap.size 0 HHD.out).trans B0.out, ((bcell hu).1 w.heap.size 1 HHD.out).trans B1.out, ((bcell hu).1 w.heap.size 2 HHD.out).trans B2.out⟩
  have KR : Hid (∀ u, Below w1.heap.size w1 u → Rd u B A L) := Lib.hid fun u hu => H0.out.below (HAL.out.trans (hu.mono HAL.out.size)) hB
  clear b0 b1 b2 hown hb2
  generalize w1.alloc (.cells (madeCells #[Value.bool false] L.length) 4) = w2 at *
  go_loopw [6] (fun mv wo => ∃ (b : Bool) (O : List Bool), mv = .bool b ∧ Hid (FreeL W H L a O) ∧ Hid (b = false → ∀ i dx dy, i < L.length → (-1 ≤ dx ∧ dx ≤ 1) → (-1 ≤ dy ∧ dy ≤ 1) → StillH W H L a O i dx dy) ∧ Hid (OwnB wo w1.heap.size 4 O) ∧ Hid (Below w1.heap.size w1 wo)) (fun mv wo => 2 * cntW wo w1.heap.size + boolH mv)
  case atStart => exact ⟨true, _, rfl, HFR, Lib.hid (fun h => by cases h), HOWN, HB2⟩
  case round =>
    clear HFR HOWN HB2
    obtain ⟨b, O, rfl, hfr, hst, ho, hbw⟩ := hrel
    have HM := Lib.hid (cntW_own ho.out)
    cases b
    · have HST := Lib.hid (hst.out rfl)
      have HHO := Lib.hid (hfr.out.hole HV.out HST.out)
      clear hst HST HM
      go_wp2
      go_loop [13] (fun iv => ∃ k : Nat, k ≤ L.length ∧ iv = .int .i64 k ∧ Hid (∀ j, j < k → ¬ (O[j]? = some false ∧ mineB L a j = false))) (fun iv => L.length - (intOf iv).toNat)
      case atStart => exact ⟨0, by omega, rfl, Lib.hid (fun j hj => by omega)⟩
      case round =>
        obtain ⟨k, hk, rfl, hno⟩ := hrel
        by_cases hlt : k < L.length
        · obtain ⟨z, hz⟩ : ∃ z, O[k]? = some z := ⟨O[k]'(by rw [hfr.out.len]; exact hlt), by simp⟩
          have cz := ho.out.cell hz
          obtain ⟨c0, c1, c2⟩ := KB.out _ hbw.out
          obtain ⟨bb, off, x, rfl, hbb, hx, hi64, hc⟩ := (KR.out _ hbw.out).at_ hlt
          have HZ := Lib.hid hz
          have HX := Lib.hid hx
          clear hz hx hi64 hbb
          cases z
          · by_cases hxa : x = a
            · have q : (x != a) = false := by rw [bne_eq_false_iff_eq]; exact hxa
              have HN : Hid (∀ j, j < k + 1 → ¬ (O[j]? = some false ∧ mineB L a j = false)) := Lib.hid fun j hj hcc => by
                by_cases hjk : j = k
                · rw [hjk, mineB_iff.2 (show L[k]? = some a by rw [HX.out, hxa])] at hcc
                  cases hcc.2
                · exact hno.out j (by omega) hcc
              clear hxa hno
              go_wp2
              go_round
              case rel => exact ⟨k + 1, by omega, by go_num, HN⟩
              case measure => simp [intOf]; omega
            · have q : (x != a) = true := by rw [bne_iff_ne]; exact hxa
              have HQT : Hid (Q = true) := Lib.hid (by
                rw [← HQ.out]
                refine HHO.out.2 ⟨k, hlt, HZ.out, ?_⟩
                cases hm : mineB L a k
                · rfl
                · have := mineB_iff.1 hm
                  rw [HX.out] at this
                  cases this
                  exact absurd rfl hxa)
              have HEND := Lib.hid (HAL.out.trans (hbw.out.mono HAL.out.size))
              clear hxa hno HHO HQ
              obtain rfl : Q = true := HQT.out
              go_wp2
              go_ret
              exact ⟨rfl, HEND.out⟩
          · have HN : Hid (∀ j, j < k + 1 → ¬ (O[j]? = some false ∧ mineB L a j = false)) := Lib.hid fun j hj hcc => by
              by_cases hjk : j = k
              · rw [hjk, HZ.out] at hcc
                cases hcc.1
              · exact hno.out j (by omega) hcc
            clear hno
            go_wp2
            go_round
            case rel => exact ⟨k + 1, by omega, by go_num, HN⟩
            case measure => simp [intOf]; omega
        · have HQF : Hid (Q = false) := Lib.hid (by
            rw [← HQ.out]
            cases hh : holB W H L a
            · rfl
            · obtain ⟨j, h1, h2, h3⟩ := HHO.out.1 hh
              exact absurd ⟨h2, h3⟩ (hno.out j (by omega)))
          have HEND := Lib.hid (HAL.out.trans (hbw.out.mono HAL.out.size))
          clear hno HHO HQ
          obtain rfl : Q = false := HQF.out
          go_wp2
          go_ret
          exact ⟨rfl, HEND.out⟩
    · clear hst
      have HP0 : Hid (PassH W H L a O O false 0 (-1) (-1)) := Lib.hid PassH.start
      go_wp2
      go_loopw [6, 7] (fun mv iv wi => ∃ (i : Nat) (b : Bool) (O' : List Bool), i ≤ L.length ∧ iv = .int .i64 i ∧ mv = .bool b ∧ Hid (FreeL W H L a O') ∧ Hid (PassH W H L a O O' b i (-1) (-1)) ∧ Hid (OwnB wi w1.heap.size 4 O') ∧ Hid (Below w1.heap.size w1 wi)) (fun _ iv _ => L.length - (intOf iv).toNat)
      case atStart => exact ⟨0, false, O, by omega, rfl, rfl, hfr, HP0, ho, hbw⟩
      case round =>
        clear hfr HP0 ho hbw
        obtain ⟨i, b, O2, hi, rfl, rfl, hfr, hps, ho, hbw⟩ := hrel
        by_cases hlt : i < L.length
        · obtain ⟨z, hz⟩ : ∃ z, O2[i]? = some z := ⟨O2[i]'(by rw [hfr.out.len]; exact hlt), by simp⟩
          have cz := ho.out.cell hz
          obtain ⟨c0, c1, c2⟩ := KB.out _ hbw.out
          obtain ⟨bb, off, x, eA, hbb, hx, hi64, hc⟩ := (KR.out _ hbw.out).at_ hlt
          have HZ := Lib.hid hz
          have HX := Lib.hid hx
          clear hz hx hi64 hbb
          cases z
          case true =>
            have HPS := Lib.hid (hps.out.skip (.inl HZ.out))
            clear hps eA hc
            go_wp2
            go_roundw
            case rel => exact ⟨i + 1, b, O2, by omega, by go_num, rfl, hfr, HPS, ho, hbw⟩
            case measure => simp [intOf]; omega
          case false =>
            rw [eA] at c2
            by_cases hxa : x = a
            · have q : (x == a) = true := by rw [beq_iff_eq]; exact hxa
              have HPS := Lib.hid (hps.out.skip (.inr (mineB_iff.2 (by rw [HX.out, hxa]))))
              clear hps hxa
              go_wp2
              go_roundw
              case rel => exact ⟨i + 1, b, O2, by omega, by go_num, rfl, hfr, HPS, ho, hbw⟩
              case measure => simp [intOf]; omega
            · have q : (x == a) = false := by rw [beq_eq_false_iff_ne]; exact hxa
              have HMI : Hid (mineB L a i = false) := Lib.hid (by
                cases hm : mineB L a i
                · rfl
                · have := mineB_iff.1 hm
                  rw [HX.out] at this
                  cases this
                  exact absurd rfl hxa)
              clear hxa
              go_wp2
              clear cz c0 c1 c2 hc q eA HX HZ
              go_loopw [6, 8] (fun mv xv wi => ∃ (dx : Int) (b : Bool) (O' : List Bool), -1 ≤ dx ∧ dx ≤ 2 ∧ xv = .int .i64 dx ∧ mv = .bool b ∧ Hid (FreeL W H L a O') ∧ Hid (PassH W H L a O O' b i dx (-1)) ∧ Hid (OwnB wi w1.heap.size 4 O') ∧ Hid (Below w1.heap.size w1 wi)) (fun _ xv _ => (2 - intOf xv).toNat)
              case atStart => exact ⟨-1, b, O2, by omega, by omega, rfl, rfl, hfr, hps, ho, hbw⟩
              case round =>
                clear hfr hps ho hbw
                obtain ⟨dx, b, O3, hx0, hx1, rfl, rfl, hfr, hps, ho, hbw⟩ := hrel
                by_cases hdx : dx ≤ 1
                · go_wp2
                  go_loopw [6, 9] (fun mv yv wi => ∃ (dy : Int) (b : Bool) (O' : List Bool), -1 ≤ dy ∧ dy ≤ 2 ∧ yv = .int .i64 dy ∧ mv = .bool b ∧ Hid (FreeL W H L a O') ∧ Hid (PassH W H L a O O' b i dx dy) ∧ Hid (OwnB wi w1.heap.size 4 O') ∧ Hid (Below w1.heap.size w1 wi)) (fun _ yv _ => (2 - intOf yv).toNat)
                  case atStart => exact ⟨-1, b, O3, by omega, by omega, rfl, rfl, hfr, hps, ho, hbw⟩
                  case round =>
                    clear hfr hps ho hbw
                    obtain ⟨dy, b, O4, hy0, hy1, rfl, rfl, hfr, hps, ho, hbw⟩ := hrel
                    by_cases hdy : dy ≤ 1
                    · obtain ⟨z, hz⟩ : ∃ z, O4[i]? = some z := ⟨O4[i]'(by rw [hfr.out.len]; exact hlt), by simp⟩
                      have cz := ho.out.cell hz
                      have fz := ho.out.frozen i
                      have HZ := Lib.hid hz
                      obtain ⟨c0, c1, c2⟩ := KB.out _ hbw.out
                      have t1 : Int.tdiv (i : Int) W = (i : Int) / W := Int.tdiv_eq_ediv_of_nonneg (by omega)
                      have t2 : Int.tmod (i : Int) W = (i : Int) % W := Int.tmod_eq_emod_of_nonneg (by omega)
                      obtain ⟨i0, i1, i2, i3⟩ := divmod_bd (W := W) (i := i) W0 (by omega)
                      have t3 : ¬ ((W : Int) = 0) := by omega
                      obtain ⟨X, hX⟩ : ∃ X, X = (i : Int) % W + dx := ⟨_, rfl⟩
                      obtain ⟨Y, hY⟩ : ∃ Y, Y = (i : Int) / W + dy := ⟨_, rfl⟩
                      have e1 : IntKind.i64.wrap ((i : Int) / W) = (i : Int) / W := IntWalk.i64_in _ (by omega)
                      have e2 : IntKind.i64.wrap ((i : Int) % W) = (i : Int) % W := IntWalk.i64_in _ (by omega)
                      have e3 : IntKind.i64.wrap ((i : Int) % W + dx) = (i : Int) % W + dx := IntWalk.i64_in _ (by omega)
                      have e4 : IntKind.i64.wrap ((i : Int) / W + dy) = (i : Int) / W + dy := IntWalk.i64_in _ (by omega)
                      have HXX := Lib.hid hX
                      have HYY := Lib.hid hY
                      clear hz hX hY
                      go_wp2
                      go_quiet (fail)
                      rw [← HXX.out, ← HYY.out]
                      have HOD := Lib.hid (ho.out.drewN nq)
                      have HBD := Lib.hid (below_drewN hbw.out nq)
                      clear cz fz c0 c1 c2 t1 t2 t3 e1 e2 e3 e4 ho hbw
                      generalize wr.drewN nq = wd at *
                      have cz := HOD.out.cell HZ.out
                      have fz := HOD.out.frozen i
                      obtain ⟨c0, c1, c2⟩ := KB.out _ HBD.out
                      cases z
                      case true =>
                        have HST : Hid (StillH W H L a O4 i dx dy) := Lib.hid (fun h1 _ => by rw [HZ.out] at h1; cases h1)
                        have HPS := Lib.hid (hps.out.keep HST.out)
                        clear hps HST
                        rcases out_cases W H X Y with ⟨d1, _⟩ | ⟨d1, d2, _⟩ | ⟨d1, d2, d3, _⟩ | ⟨d1, d2, d3, d4, _⟩ | ⟨d1, d2, d3, d4, _⟩
                        all_goals
                          go_wp2
                          go_roundw
                          case rel => exact ⟨dy + 1, b, O4, by omega, by omega, by go_num, rfl, hfr, HPS, HOD, HBD⟩
                          case measure => simp [intOf]; omega
                      case false =>
                        have HSET : Hid (nearB W H O4 X Y = true → FreeL W H L a (O4.set i true)) := Lib.hid fun hn => hfr.out.set HV.out hlt HMI.out ⟨hx0, hdx⟩ ⟨hy0, hdy⟩ (by rw [← HXX.out, ← HYY.out]; exact hn)
                        have HOS := Lib.hid (HOD.out.store i true)
                        have HBS := Lib.hid (HBD.out.setCell (p := ⟨w1.heap.size, i, none⟩) (Nat.le_refl _) (.bool true))
                        have HPP := Lib.hid (hps.out.put HZ.out)
                        rcases out_cases W H X Y with ⟨d1, ob⟩ | ⟨d1, d2, ob⟩ | ⟨d1, d2, d3, ob⟩ | ⟨d1, d2, d3, d4, ob⟩ | ⟨d1, d2, d3, d4, ob⟩
                        case inr.inr.inr.inr =>
                          obtain ⟨j, hj, hjY, hX0, hXW, hnb⟩ := in_num2 HV.out ob
                          have m1 : IntKind.i64.wrap (Y * W) = Y * W := IntWalk.i64_in _ (by omega)
                          have m2 : IntKind.i64.wrap (Y * W + X) = (j : Int) := by rw [hjY]; exact IntWalk.i64_in _ (by omega)
                          obtain ⟨zj, hzj⟩ : ∃ z, O4[j]? = some z := ⟨O4[j]'(by rw [hfr.out.len]; exact hj), by simp⟩
                          have cj := HOD.out.cell hzj
                          have hnj : nearB W H O4 X Y = zj := by rw [hnb, List.getD_eq_getElem?_getD, hzj]; rfl
                          have HNJ := Lib.hid hnj
                          have HJY := Lib.hid hjY
                          clear hnj hzj hnb hjY ob
                          cases zj
                          · have HST : Hid (StillH W H L a O4 i dx dy) := Lib.hid (fun _ _ => by rw [← HXX.out, ← HYY.out]; exact HNJ.out)
                            have HPS := Lib.hid (hps.out.keep HST.out)
                            clear hps HST HSET HOS HBS HPP
                            go_wp2
                            go_roundw
                            case rel => exact ⟨dy + 1, b, O4, by omega, by omega, by go_num, rfl, hfr, HPS, HOD, HBD⟩
                            case measure => simp [intOf]; omega
                          · have HFS := Lib.hid (HSET.out HNJ.out)
                            clear hps HSET
                            go_wp2
                            go_roundw
                            case rel => exact ⟨dy + 1, true, O4.set i true, by omega, by omega, by go_num, rfl, HFS, HPP, HOS, HBS⟩
                            case measure => simp [intOf]; omega
                        all_goals
                          have HFS := Lib.hid (HSET.out (near_out ob))
                          clear hps HSET ob
                          go_wp2
                          go_roundw
                          case rel => exact ⟨dy + 1, true, O4.set i true, by omega, by omega, by go_num, rfl, HFS, HPP, HOS, HBS⟩
                          case measure => simp [intOf]; omega
                    · have HPS := Lib.hid (show PassH W H L a O O4 b i (dx + 1) (-1) from by
                        have h1 := hps.out
                        rw [show dy = 2 by omega] at h1
                        exact h1.rowY)
                      clear hps
                      go_wp2
                      go_roundw
                      case rel => exact ⟨dx + 1, b, O4, by omega, by omega, by go_num, rfl, hfr, HPS, ho, hbw⟩
                      case measure => simp [intOf]; omega
                · have HPS := Lib.hid (show PassH W H L a O O3 b (i + 1) (-1) (-1) from by
                    have h1 := hps.out
                    rw [show dx = 2 by omega] at h1
                    exact h1.rowX)
                  clear hps
                  go_wp2
                  go_roundw
                  case rel => exact ⟨i + 1, b, O3, by omega, by go_num, rfl, hfr, HPS, ho, hbw⟩
                  case measure => simp [intOf]; omega
        · have hin : i = L.length := by omega
          have HM2 := Lib.hid (cntW_own ho.out)
          have HIN := Lib.hid hin
          clear hi hin
          go_wp2
          go_roundw
          case rel => exact ⟨b, O2, rfl, hfr, Lib.hid (fun hb => by
            subst hb
            obtain ⟨h1, h2⟩ := hps.out.done HIN.out
            rw [h1]
            exact h2), ho, hbw⟩
          case measure =>
            rw [HM.out, HM2.out]
            cases b
            · rw [(hps.out.1 rfl).1]; simp [boolH]
            · have := hps.out.2 rfl
              simp [boolH]; omega
end Go.Proofs.Ytdkcpnmaglkmnaa
