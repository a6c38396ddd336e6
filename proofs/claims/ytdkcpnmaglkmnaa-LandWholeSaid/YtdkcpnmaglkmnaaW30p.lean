import Derived.Test.YtdkcpnmaglkmnaaS30k
import Derived.Test.YtdkcpnmaglkmnaaW30o
/-! The walk of the reference's parted. -/
namespace Go.Proofs.Ytdkcpnmaglkmnaa
open Go.RowKit Go.Deep
set_option linter.unusedVariables false
set_option maxRecDepth 100000

/-- the sum of the numbers of a block -/
def osumW (w : World) (g : Nat) : Nat := match w.heap[g]? with | some (.cells cs _ _) => osum (cs.toList.map intOf) | _ => 0
theorem osumW_own {w : World} {g T : Nat} {O : List Int} (h : Own w g T O) : osumW w g = osum O := by
  have h' : w.heap[g]? = some (.cells (O.map (Value.int .i64)).toArray T (0, 0)) := h
  rw [osumW, h']
  show osum ((O.map (Value.int .i64)).map intOf) = _
  rw [List.map_map]
  congr 1
  exact List.map_id'' (fun _ => rfl) O
def boolN : Value → Nat | .bool true => 1 | _ => 0
/-- how far the search of a pass has come: nothing done, or something -/
def Pass30 (n : Nat) (nb : Nat → Nat → Bool) (O O' : List Int) (b : Bool) (i k : Nat) : Prop :=
  (b = false → O' = O ∧ ∀ i' k', (i' < i ∨ i' = i ∧ k' < k) → k' < n → Still nb O i' k') ∧ (b = true → osum O' < osum O)
theorem Pass30.start (n : Nat) (nb : Nat → Nat → Bool) (O : List Int) : Pass30 n nb O O false 0 0 := ⟨fun _ => ⟨rfl, fun _ _ h => by omega⟩, fun h => by cases h⟩
theorem Pass30.row {n : Nat} {nb : Nat → Nat → Bool} {O O' : List Int} {b : Bool} {i : Nat} (h : Pass30 n nb O O' b i n) : Pass30 n nb O O' b (i + 1) 0 :=
  ⟨fun hb => ⟨(h.1 hb).1, fun i' k' hi hk => (h.1 hb).2 i' k' (by omega) hk⟩, h.2⟩
theorem Pass30.keep {n : Nat} {nb : Nat → Nat → Bool} {O O' : List Int} {b : Bool} {i k : Nat} (h : Pass30 n nb O O' b i k) (hs : Still nb O' i k) : Pass30 n nb O O' b i (k + 1) :=
  ⟨fun hb => ⟨(h.1 hb).1, fun i' k' hi hk => by
    by_cases he : i' = i ∧ k' = k
    · obtain ⟨rfl, rfl⟩ := he
      rw [← (h.1 hb).1]
      exact hs
    · exact (h.1 hb).2 i' k' (by omega) hk⟩, h.2⟩
theorem Pass30.put {n : Nat} {nb : Nat → Nat → Bool} {O O' : List Int} {b : Bool} {i k : Nat} (h : Pass30 n nb O O' b i k) {x y : Int} (hy : O'[k]? = some y) (hlt : x.toNat < y.toNat) : Pass30 n nb O (O'.set k x) true i (k + 1) :=
  by
  refine ⟨fun hb => (by cases hb), fun _ => ?_⟩
  have h1 := osum_set hy hlt
  cases b
  · rw [(h.1 rfl).1] at h1 ⊢
    exact h1
  · exact Nat.lt_trans h1 (h.2 rfl)

set_option maxHeartbeats 4000000 in
theorem lrParted {w : World} {B : Nat} {A : Option Addr} {L : List Int} {cap W H : Nat} (h : Rd w B A L) (hB : B ≤ w.heap.size) (v : VL W H L) {a : Int} (ha : 0 ≤ a) :
    Calls Try.prog 46 #[.agg #[.int .i64 W, .int .i64 H, .slice A L.length cap], .int .i64 a] w (PartsRes w (partsK W L a)) := by
  have l144 := v.len144
  have W0 := v.w0
  have W12 := v.w1
  have hal : Below w.heap.size w (w.alloc (.cells #[.int .i64 W, .int .i64 H, .slice A L.length cap] 24)) := (Below.refl _ _).alloc (Nat.le_refl _) _
  have hsz : (w.alloc (.cells #[.int .i64 W, .int .i64 H, .slice A L.length cap] 24)).heap.size = w.heap.size + 1 := by simp
  have b0 : (w.alloc (.cells #[.int .i64 W, .int .i64 H, .slice A L.length cap] 24)).cell? ⟨w.heap.size, 0, none⟩ = some (.int .i64 W) := by simp
  have b1 : (w.alloc (.cells #[.int .i64 W, .int .i64 H, .slice A L.length cap] 24)).cell? ⟨w.heap.size, 1, none⟩ = some (.int .i64 H) := by simp
  have b2 : (w.alloc (.cells #[.int .i64 W, .int .i64 H, .slice A L.length cap] 24)).cell? ⟨w.heap.size, 2, none⟩ = some (.slice A L.length cap) := by simp
  have HAL := Lib.hid hal
  have HSZ := Lib.hid hsz
  have H0 := Lib.hid h
  have HV := Lib.hid v
  have hmk := fun u => run_make_row' (P := Try.prog) 22 3 (.int .i64 0) 8 Try.underlying22 infoInt' rfl .i64 .i64 L.length (by omega) (by omega) u
  generalize hQ : PartsRes w (partsK W L a) = Q at *
  have HQ := Lib.hid hQ
  obtain ⟨w1, hw1⟩ : ∃ w1, w.alloc (.cells #[.int .i64 W, .int .i64 H, .slice A L.length cap] 24) = w1 := ⟨_, rfl⟩
  rw [hw1] at b0 b1 b2
  have HW1 := Lib.hid hw1
  clear hal h v hQ
  go_enter Try.func46, Try.ntmps46
  go_wp2
  clear hw1
  rw [HW1.out] at HAL HSZ
  clear HW1 hmk hsz
  have hown := Own.made w1 3 L.length
  have hb2 := Below.alloc (B := w1.heap.size) (Below.refl _ w1) (Nat.le_refl _) (.cells (madeCells #[Value.int .i64 0] L.length) 3)
  have HHD : Hid (w.heap.size < w1.heap.size) := Lib.hid (by have := HSZ.out; omega)
  have B0 := Lib.hid b0
  have B1 := Lib.hid b1
  have B2 := Lib.hid b2
  have HOWN := Lib.hid hown
  have HB2 := Lib.hid hb2
  clear b0 b1 b2 hown hb2
  generalize w1.alloc (.cells (madeCells #[Value.int .i64 0] L.length) 3) = w2 at *
  go_loopw [6] (fun iv wr => ∃ (k : Nat) (O : List Int), k ≤ L.length ∧ iv = .int .i64 k ∧ Hid (O.length = L.length ∧ ∀ j, j < k → O[j]? = some (if mineB L a j then (j : Int) else -1)) ∧ Hid (Own wr w1.heap.size 3 O) ∧ Hid (Below w1.heap.size w1 wr)) (fun iv _ => L.length - (intOf iv).toNat)
  case atStart => exact ⟨0, _, by omega, rfl, Lib.hid ⟨by simp, by omega⟩, HOWN, HB2⟩
  case round =>
    obtain ⟨k, O, hk, rfl, hO, ho, hbw⟩ := hrel
    by_cases hlt : k < L.length
    · have hhd := HHD.out
      have hbw' := HAL.out.trans (hbw.out.mono HAL.out.size)
      obtain ⟨b, off, x, rfl, hb, hx, hi, hc⟩ := (H0.out.below hbw' hB).at_ hlt
      obtain ⟨y, hy⟩ : ∃ y, O[k]? = some y := ⟨O[k]'(by rw [hO.out.1]; exact hlt), by simp⟩
      have c1 := ho.out.cell hy
      have f1 := ho.out.frozen k
      have ho' := ho.out.store k (-1)
      have hb' := hbw.out.setCell (p := ⟨w1.heap.size, k, none⟩) (Nat.le_refl _) (.int .i64 (-1))
      have hc' : (wr.setCell ⟨w1.heap.size, k, none⟩ (.int .i64 (-1))).cell? ⟨b, off + k, none⟩ = some (.int .i64 x) :=
        (World.cell?_of_block (w := wr) (a := ⟨b, off + k, none⟩) (Below.heap_setCell wr ⟨w1.heap.size, k, none⟩ _ b (by show b ≠ w1.heap.size; omega))).trans hc
      obtain ⟨wx, hwx⟩ : ∃ wx, wr.setCell ⟨w1.heap.size, k, none⟩ (.int .i64 (-1)) = wx := ⟨_, rfl⟩
      rw [hwx] at ho' hb' hc'
      have q2 := ((bcell hb').1 w.heap.size 2 (by omega)).trans B2.out
      have c3 := ho'.cell (List.getElem?_set_self (by rw [hO.out.1]; exact hlt) : (O.set k (-1))[k]? = some (-1))
      have f3 := ho'.frozen k
      have HX := Lib.hid hx
      have HB' := Lib.hid hb'
      have HO' := Lib.hid ho'
      clear hbw' hx hi hc hy ho' hb'
      by_cases hxa : x = a
      · have hb1 : (x == a) = true := by simpa using hxa
        have HMI : Hid (mineB L a k = true) := Lib.hid (mineB_iff.2 (by rw [HX.out, hxa]))
        have HO2 := Lib.hid (HO'.out.store k (k : Int))
        have HB3 := Lib.hid (HB'.out.setCell (p := ⟨w1.heap.size, k, none⟩) (Nat.le_refl _) (.int .i64 (k : Int)))
        have HOK : Hid (((O.set k (-1)).set k (k : Int)).length = L.length ∧ ∀ j, j < k + 1 → ((O.set k (-1)).set k (k : Int))[j]? = some (if mineB L a j then (j : Int) else -1)) := Lib.hid ⟨by simp [hO.out.1], fun j hj => by
          by_cases hjk : j = k
          · subst hjk
            rw [List.getElem?_set_self (by simp [hO.out.1]; exact hlt), HMI.out]; rfl
          · rw [List.getElem?_set_ne (by omega), List.getElem?_set_ne (by omega)]
            exact hO.out.2 j (by omega)⟩
        clear hxa
        go_wp2
        go_roundw
        case rel => exact ⟨k + 1, _, by omega, by go_num, HOK, HO2, HB3⟩
        case measure => simp [intOf]; omega
      · have hb1 : (x == a) = false := by simpa using hxa
        have HOK : Hid (((O.set k (-1))).length = L.length ∧ ∀ j, j < k + 1 → ((O.set k (-1)))[j]? = some (if mineB L a j then (j : Int) else -1)) := Lib.hid ⟨by simp [hO.out.1], fun j hj => by
          by_cases hjk : j = k
          · subst hjk
            have : mineB L a j = false := by
              cases hh : mineB L a j
              · rfl
              · have := mineB_iff.1 hh
                rw [HX.out] at this
                cases this
                exact absurd rfl hxa
            rw [List.getElem?_set_self (by rw [hO.out.1]; exact hlt), this]; rfl
          · rw [List.getElem?_set_ne (by omega)]
            exact hO.out.2 j (by omega)⟩
        clear hxa
        go_wp2
        go_roundw
        case rel => exact ⟨k + 1, _, by omega, by go_num, HOK, HO', HB'⟩
        case measure => simp [intOf]; omega
    · have HLB : Hid (Lab L.length (mineB L a) (linkB W L a) O) := Lib.hid (Lab.start hO.out.1 fun j hj => hO.out.2 j (by omega))
      clear hO hk
      go_wp2
      clear hlt
      go_loopw [7] (fun mv wo => ∃ (b : Bool) (O : List Int), mv = .bool b ∧ Hid (Lab L.length (mineB L a) (linkB W L a) O) ∧ Hid (b = false → ∀ i k, i < L.length → k < L.length → Still (nbB W) O i k) ∧ Hid (Own wo w1.heap.size 3 O) ∧ Hid (Below w1.heap.size w1 wo)) (fun mv wo => 2 * osumW wo w1.heap.size + boolN mv)
      case atStart => exact ⟨true, O, rfl, HLB, Lib.hid (fun h => by cases h), ho, hbw⟩
      case round =>
        clear HLB ho hbw
        obtain ⟨b, O1, rfl, hlb, hst, ho, hbw⟩ := hrel
        have HM := Lib.hid (osumW_own ho.out)
        cases b
        · have HST := Lib.hid (hst.out rfl)
          have HFIN := Lib.hid (hlb.out.fin (E := mineB L a) (R := linkB W L a) (nb := nbB W) (fun c d hcd => ⟨(linkB_iff.1 hcd).1, (linkB_iff.1 hcd).2.1⟩) linkB_symm (fun c d hcd => (linkB_iff.1 hcd).2.2) linkB_lt HST.out)
          obtain ⟨i0, hi, hz0, hz1, hz2⟩ := info_parts infoSl30
          have HI := Lib.hid hi
          obtain ⟨jI, hjI, hy0, hy1, hy2⟩ := info_parts infoInt'
          have HJI := Lib.hid hjI
          clear hst HST hi hjI HM
          go_wp2
          go_loopw [10, 11] (fun fv iv wo => ∃ (i : Nat) (vs : List Value), i ≤ L.length ∧ iv = .int .i64 i ∧ Hid (wo.ownsRow (w1.heap.size + 1) 22 1 fv (partsU W L a i).length vs) ∧ Hid (VRowsN wo fv vs (partsU W L a i)) ∧ Hid (Own wo w1.heap.size 3 O1) ∧ Hid (Below w1.heap.size w1 wo)) (fun _ iv _ => L.length - (intOf iv).toNat)
          case atStart => exact ⟨0, [], by omega, rfl, Lib.hid (own_row_nil _ _ _), Lib.hid (VRowsN.nil _ _), ho, hbw⟩
          case round =>
            clear ho hbw
            obtain ⟨i, vs, hi, rfl, hrw, hvr, ho, hbw⟩ := hrel
            rename World => wo
            by_cases hlt : i < L.length
            · obtain ⟨x, hx⟩ : ∃ x, O1[i]? = some x := ⟨O1[i]'(by rw [hlb.out.len]; exact hlt), by simp⟩
              have cx := ho.out.cell hx
              by_cases hxi : x = (i : Int)
              · subst hxi
                have HXI := Lib.hid hx
                have HU : Hid (partsU W L a (i + 1) = partsU W L a i ++ [ints (comp L.length (linkB W L a) i)]) := Lib.hid (by
                  unfold partsU
                  rw [partsTo_yes ((HFIN.out.lead i hlt).1 hx), List.map_append]
                  rfl)
                have HO := ho
                clear hx
                go_wp2
                clear cx
                go_loopw [12, 13] (fun pv kv wi => ∃ (k : Nat), k ≤ L.length ∧ kv = .int .i64 k ∧ Hid (wi.ownsRow wo.heap.size 3 1 pv (ints (selO O1 i k)).length ((ints (selO O1 i k)).map (Value.int .i64))) ∧ Hid (Below wo.heap.size wo wi)) (fun _ kv _ => L.length - (intOf kv).toNat)
                case atStart => exact ⟨0, by omega, rfl, Lib.hid (own_row_nil _ _ _), Lib.hid (Below.refl _ _)⟩
                case round =>
                  clear ho
                  rename World => wi
                  obtain ⟨k, hk, rfl, hrow, hbi⟩ := hrel
                  have hOw := HO.out.below hbi.out HO.out.lt
                  by_cases hkl : k < L.length
                  · obtain ⟨y, hy⟩ : ∃ y, O1[k]? = some y := ⟨O1[k]'(by rw [hlb.out.len]; exact hkl), by simp⟩
                    have cy := hOw.cell hy
                    have hsl := selO_len O1 i k
                    by_cases hyi : y = (i : Int)
                    · subst hyi
                      have HSEL := Lib.hid (selO_yes hy)
                      have hoz := Lib.hid (row_below hrow.out (Below.alloc (Below.refl wi.heap.size wi) (Nat.le_refl _) (.cells #[.int .i64 (k : Int)] 3)))
                      have hcz := Lib.hid (new_one wi (.int .i64 (k : Int)) 3)
                      have hbz := Lib.hid (Below.alloc (Below.refl wi.heap.size wi) (Nat.le_refl _) (.cells #[.int .i64 (k : Int)] 3))
                      have hwz : Hid ((wi.alloc (.cells #[.int .i64 (k : Int)] 3)).heap.size = wi.heap.size + 1) := Lib.hid (by simp)
                      have hzs := hbi.out.size
                      clear hy hOw
                      generalize hgw : wi.alloc (.cells #[.int .i64 (k : Int)] 3) = wa at *
                      go_wp2_with (at_builtin; refine wpList_append_own_at _ rfl _ _ 22 rfl wo.heap.size 3 jI (.int .i64 0) 1 8 Try.underlying22 HJI.out hy0 hy1 hy2 rfl (by decide) _ (ints (selO O1 i k)).length _ rfl hoz.out ⟨wi.heap.size, 0, none⟩ 1 1 [.int .i64 (k : Int)] rfl (by simp) hcz.out (by simp [Value.oneCell']) (by rw [ints_length]; unfold maxLen; omega) (by rw [ints_length]; omega) (by rw [hwz.out]; omega) ?_)
                      intro v' w8 hown hgrow _ hat
                      have HB8 : Hid (Below wo.heap.size wo w8) := Lib.hid ((hbi.out.trans (hbz.out.mono hzs)).grown hgrow (by rw [hwz.out]; omega) (fun q hq => (hoz.out.lt q hq).1))
                      have HO8 : Hid (w8.ownsRow wo.heap.size 3 1 v' (ints (selO O1 i (k + 1))).length ((ints (selO O1 i (k + 1))).map (Value.int .i64))) := Lib.hid (by rw [HSEL.out, ints_snoc]; simpa using hown)
                      clear hown hgrow hat hgw cy hrow hbi
                      go_wp2
                      go_roundw
                      case rel => exact ⟨k + 1, by omega, by go_num, HO8, HB8⟩
                      case measure => simp [intOf]; omega
                    · have HSEL : Hid (selO O1 i (k + 1) = selO O1 i k) := Lib.hid (selO_no (by rw [hy]; intro e; cases e; exact hyi rfl))
                      have hb1 : (y == (i : Int)) = false := by simpa using hyi
                      clear hyi hy hOw
                      go_wp2
                      go_roundw
                      case rel => exact ⟨k + 1, by omega, by go_num, by rw [HSEL.out]; exact hrow, hbi⟩
                      case measure => simp [intOf]; omega
                  · obtain ⟨pa, pc, rfl, hpa⟩ := row_slice hrow.out
                    have hSEL : ints (selO O1 i k) = ints (comp L.length (linkB W L a) i) := by rw [show k = L.length by omega, HFIN.out.sel i hlt HXI.out]
                    have hCI : ∀ x ∈ ints (comp L.length (linkB W L a) i), I64 x := by
                      intro x hx
                      obtain ⟨q, hq, rfl⟩ := List.mem_map.1 hx
                      have := comp_lt hlt q hq
                      exact ⟨by omega, by omega⟩
                    have hCn : (ints (comp L.length (linkB W L a) i)).length ≤ 144 := by rw [ints_length]; have := nodup_len ((comp_sorted L.length (linkB W L a) i).imp fun h => Nat.ne_of_lt h) (comp_lt hlt); omega
                    have hFk := partsU_len W L a i
                    rw [hSEL] at hrow ⊢
                    generalize ints (comp L.length (linkB W L a) i) = C at *
                    have R6 := row_rd hrow.out hCI (by omega)
                    have hlo : ∀ q, u10.ownBlock = some q → q < _ := fun q hq => (hrw.out.lt q hq).2
                    have hzs := hbi.out.size
                    have hgz := HO.out.lt
                    have HV7 := Lib.hid ((hvr.out.below hbi.out).snoc R6 (c := pc) (fun p hp hq => by have h1 := hpa p hp; have h2 := hlo _ hq; omega))
                    generalize hF : partsU W L a i = F at *
                    have hoz := Lib.hid (row_below (row_below hrw.out hbi.out) (Below.alloc (Below.refl wi.heap.size wi) (Nat.le_refl _) (.cells #[.slice pa C.length pc] 22)))
                    have hcz := Lib.hid (new_one wi (.slice pa C.length pc) 22)
                    have hbz := Lib.hid (Below.alloc (Below.refl wi.heap.size wi) (Nat.le_refl _) (.cells #[.slice pa C.length pc] 22))
                    have hwz : Hid ((wi.alloc (.cells #[.slice pa C.length pc] 22)).heap.size = wi.heap.size + 1) := Lib.hid (by simp)
                    have HOw := Lib.hid hOw
                    clear hCI R6 hlo hOw hSEL hpa
                    generalize hgw : wi.alloc (.cells #[.slice pa C.length pc] 22) = wa at *
                    have hvz := Lib.hid (HV7.out.below hbz.out)
                    go_wp2_with (at_builtin; refine wpList_append_own_at _ rfl _ _ 40 rfl (w1.heap.size + 1) 22 i0 (.slice none 0 0) 1 24 Try.underlying40 HI.out hz0 hz1 hz2 rfl (by decide) _ F.length _ rfl hoz.out ⟨wi.heap.size, 0, none⟩ 1 1 [.slice pa C.length pc] rfl (by simp) hcz.out (by simp [Value.oneCell']) (by unfold maxLen; omega) (by omega) (by rw [hwz.out]; omega) ?_)
                    intro v' w8 hown hgrow _ hat
                    have HV8 := Lib.hid (hvz.out.grown hgrow hat)
                    have HB8 : Hid (Below w1.heap.size w1 w8) := Lib.hid (hbw.out.trans (((hbi.out.mono hbw.out.size).trans (hbz.out.mono (by have := hbw.out.size; omega))).grown hgrow (by rw [hwz.out]; have := hbw.out.size; omega) (fun q hq => by have h1 := (hoz.out.lt q hq).1; omega)))
                    have HO8' : Hid (Own w8 w1.heap.size 3 O1) := Lib.hid ((HOw.out.below hbz.out HOw.out.lt).grown hgrow (fun hq => by have h1 := (hoz.out.lt _ hq.symm).1; omega))
                    have HO8 := Lib.hid hown
                    clear hown hgrow hat hgw hF hrow hbi hrw hvr
                    go_wp2
                    go_roundw
                    case rel => exact ⟨i + 1, _, by omega, by go_num, by rw [HU.out]; exact Lib.hid (by simpa using HO8.out), by rw [HU.out]; exact HV8, HO8', HB8⟩
                    case measure => simp [intOf]; omega
              · have HU : Hid (partsU W L a (i + 1) = partsU W L a i) := Lib.hid (by
                  unfold partsU
                  rw [partsTo_no (by
                    cases hh : isLead L.length (mineB L a) (linkB W L a) i
                    · rfl
                    · have := (HFIN.out.lead i hlt).2 hh
                      rw [hx] at this
                      cases this
                      exact absurd rfl hxi)])
                have hb1 : (x == (i : Int)) = false := by simpa using hxi
                clear hxi hx
                go_wp2
                go_roundw
                case rel => exact ⟨i + 1, vs, by omega, by go_num, by rw [HU.out]; exact hrw, by rw [HU.out]; exact hvr, ho, hbw⟩
                case measure => simp [intOf]; omega
            · have hkn : i = L.length := by omega
              obtain ⟨fa, fc, rfl, hfa⟩ := row_slice hrw.out
              have hle := partsU_len W L a i
              have R2 := Lib.hid (rd2_of_row hrw.out hvr.out.rows (by omega))
              have HU : Hid (partsU W L a i = partsK W L a) := Lib.hid (by rw [hkn]; rfl)
              have HEND := Lib.hid (HAL.out.trans (hbw.out.mono HAL.out.size))
              clear hrw hvr ho hbw hfa hkn
              go_wp2
              rw [← HQ.out]
              exact ⟨fa, fc, by rw [← HU.out]; rfl, by rw [← HU.out]; exact R2.out, HEND.out⟩
        · clear hst
          have HP0 := Lib.hid (Pass30.start L.length (nbB W) O1)
          go_wp2
          go_loopw [7, 8] (fun mv iv wi => ∃ (i : Nat) (b : Bool) (O' : List Int), i ≤ L.length ∧ iv = .int .i64 i ∧ mv = .bool b ∧ Hid (Lab L.length (mineB L a) (linkB W L a) O') ∧ Hid (Pass30 L.length (nbB W) O1 O' b i 0) ∧ Hid (Own wi w1.heap.size 3 O') ∧ Hid (Below w1.heap.size w1 wi)) (fun _ iv _ => L.length - (intOf iv).toNat)
          case atStart => exact ⟨0, false, O1, by omega, rfl, rfl, hlb, HP0, ho, hbw⟩
          case round =>
            clear hlb HP0 ho hbw
            obtain ⟨i, b, O2, hi, rfl, rfl, hlb, hps, ho, hbw⟩ := hrel
            by_cases hlt : i < L.length
            · go_wp2
              go_loopw [7, 9] (fun mv kv wi => ∃ (k : Nat) (b : Bool) (O' : List Int), k ≤ L.length ∧ kv = .int .i64 k ∧ mv = .bool b ∧ Hid (Lab L.length (mineB L a) (linkB W L a) O') ∧ Hid (Pass30 L.length (nbB W) O1 O' b i k) ∧ Hid (Own wi w1.heap.size 3 O') ∧ Hid (Below w1.heap.size w1 wi)) (fun _ kv _ => L.length - (intOf kv).toNat)
              case atStart => exact ⟨0, b, O2, by omega, rfl, rfl, hlb, hps, ho, hbw⟩
              case round =>
                clear hlb hps ho hbw
                obtain ⟨k, b, O3, hk, rfl, rfl, hlb, hps, ho, hbw⟩ := hrel
                by_cases hkl : k < L.length
                · obtain ⟨x, hx⟩ : ∃ x, O3[i]? = some x := ⟨O3[i]'(by rw [hlb.out.len]; exact hlt), by simp⟩
                  obtain ⟨y, hy⟩ : ∃ y, O3[k]? = some y := ⟨O3[k]'(by rw [hlb.out.len]; exact hkl), by simp⟩
                  have cx := ho.out.cell hx
                  have cy := ho.out.cell hy
                  have HX := Lib.hid hx
                  have HY := Lib.hid hy
                  have bx := hlb.out.bd hlt hx
                  have byy := hlb.out.bd hkl hy
                  clear hx hy
                  by_cases hg : 0 ≤ x ∧ 0 ≤ y ∧ x < y
                  · obtain ⟨g1, g2, g3⟩ := hg
                    have d1 : decide (0 ≤ x) = true := by simpa using g1
                    have d2 : decide (0 ≤ y) = true := by simpa using g2
                    have d3 : decide (x < y) = true := by simpa using g3
                    have q0 := ((bcell hbw.out).1 w.heap.size 0 HHD.out).trans B0.out
                    have q1 := ((bcell hbw.out).1 w.heap.size 1 HHD.out).trans B1.out
                    have q2 := ((bcell hbw.out).1 w.heap.size 2 HHD.out).trans B2.out
                    have hS0 : (wr.drew.cell? ⟨w.heap.size, 0, none⟩ = some (.int .i64 W) ∧ wr.drew.cell? ⟨w.heap.size, 1, none⟩ = some (.int .i64 H) ∧ wr.drew.cell? ⟨w.heap.size, 2, none⟩ = some (.slice A L.length cap) ∧ wr.drew.cell? ⟨w1.heap.size, i, none⟩ = some (.int .i64 x) ∧ wr.drew.cell? ⟨w1.heap.size, k, none⟩ = some (.int .i64 y) ∧ Hid (Below wr.heap.size wr wr.drew)) := ⟨q0, q1, q2, cx, cy, Lib.hid (below_drewN (Below.refl _ _) 1)⟩
                    have CN : Hid (∀ u : World, (u.cell? ⟨w.heap.size, 0, none⟩ = some (.int .i64 W) ∧ u.cell? ⟨w.heap.size, 1, none⟩ = some (.int .i64 H) ∧ u.cell? ⟨w.heap.size, 2, none⟩ = some (.slice A L.length cap) ∧ u.cell? ⟨w1.heap.size, i, none⟩ = some (.int .i64 x) ∧ u.cell? ⟨w1.heap.size, k, none⟩ = some (.int .i64 y) ∧ Hid (Below wr.heap.size wr u)) → Calls Try.prog 39 #[.agg #[.int .i64 W, .int .i64 H, .slice A L.length cap], .int .i64 i, .int .i64 k] u fun e u' => e = .returned (.bool (nbB W i k)) ∧ (u'.cell? ⟨w.heap.size, 0, none⟩ = some (.int .i64 W) ∧ u'.cell? ⟨w.heap.size, 1, none⟩ = some (.int .i64 H) ∧ u'.cell? ⟨w.heap.size, 2, none⟩ = some (.slice A L.length cap) ∧ u'.cell? ⟨w1.heap.size, i, none⟩ = some (.int .i64 x) ∧ u'.cell? ⟨w1.heap.size, k, none⟩ = some (.int .i64 y) ∧ Hid (Below wr.heap.size wr u'))) := Lib.hid (by
                      rintro u ⟨g0, g1, g2, g3, g4, g5⟩
                      have hgl := World.block_lt_of_cell? _ _ g3
                      have hhd := HHD.out
                      have hgl' : w1.heap.size < u.heap.size := hgl
                      exact (rNb W0 W12 (by omega) (by omega)).mono fun e u' ⟨he, hb'⟩ => ⟨he, ((bcell hb').1 _ _ (by omega)).trans g0, ((bcell hb').1 _ _ (by omega)).trans g1, ((bcell hb').1 _ _ (by omega)).trans g2, ((bcell hb').1 _ _ hgl').trans g3, ((bcell hb').1 _ _ hgl').trans g4, Lib.hid (g5.out.trans (hb'.mono g5.out.size))⟩)
                    clear q0 q1 q2 cx cy
                    cases hnb : nbB W i k
                    · have HST : Hid (Still (nbB W) O3 i k) := Lib.hid (fun x' y' h1 h2 h3 h4 h5 h6 => by rw [hnb] at h6; cases h6)
                      have HPS := Lib.hid (hps.out.keep HST.out)
                      rw [hnb] at CN
                      clear hps HST hnb
                      go_wp2
                      go_region_held3 (fun w' => w'.cell? ⟨w.heap.size, 0, none⟩ = some (.int .i64 W) ∧ w'.cell? ⟨w.heap.size, 1, none⟩ = some (.int .i64 H) ∧ w'.cell? ⟨w.heap.size, 2, none⟩ = some (.slice A L.length cap) ∧ w'.cell? ⟨w1.heap.size, i, none⟩ = some (.int .i64 x) ∧ w'.cell? ⟨w1.heap.size, k, none⟩ = some (.int .i64 y) ∧ Hid (Below wr.heap.size wr w')) (first | assumption | go_keep) (first | (go_at_call 39; refine (CN.out _ (by assumption)).mono ?_; rintro e w5 ⟨rfl, hS5⟩))
                      have HO5 := Lib.hid (ho.out.below hS5.2.2.2.2.2.out ho.out.lt)
                      have HB5 := Lib.hid (hbw.out.trans (hS5.2.2.2.2.2.out.mono hbw.out.size))
                      clear hS0 hS5 CN d1 d2 d3 ho hbw
                      go_wp2
                      go_roundw
                      case rel => exact ⟨k + 1, b, O3, by omega, by go_num, rfl, hlb, HPS, HO5, HB5⟩
                      case measure => simp [intOf]; omega
                    · have HLK : Hid (linkB W L a i k = true) := Lib.hid (linkB_iff.2 ⟨(hlb.out.pos hlt HX.out).1 g1, (hlb.out.pos hkl HY.out).1 g2, hnb⟩)
                      have HLB := Lib.hid (hlb.out.set linkB_symm hlt hkl HX.out HY.out g1 g2 g3 HLK.out)
                      have HPS := Lib.hid (hps.out.put (x := x) HY.out (by omega))
                      rw [hnb] at CN
                      clear hps hnb
                      go_wp2
                      go_region_held3 (fun w' => w'.cell? ⟨w.heap.size, 0, none⟩ = some (.int .i64 W) ∧ w'.cell? ⟨w.heap.size, 1, none⟩ = some (.int .i64 H) ∧ w'.cell? ⟨w.heap.size, 2, none⟩ = some (.slice A L.length cap) ∧ w'.cell? ⟨w1.heap.size, i, none⟩ = some (.int .i64 x) ∧ w'.cell? ⟨w1.heap.size, k, none⟩ = some (.int .i64 y) ∧ Hid (Below wr.heap.size wr w')) (first | assumption | go_keep) (first | (go_at_call 39; refine (CN.out _ (by assumption)).mono ?_; rintro e w5 ⟨rfl, hS5⟩))
                      have HO5 := Lib.hid (ho.out.below hS5.2.2.2.2.2.out ho.out.lt)
                      have HB5 := Lib.hid (hbw.out.trans (hS5.2.2.2.2.2.out.mono hbw.out.size))
                      have cx := HO5.out.cell HX.out
                      have cy := HO5.out.cell HY.out
                      have fy := HO5.out.frozen k
                      have HO6 := Lib.hid (HO5.out.store k x)
                      have HB6 := Lib.hid (HB5.out.setCell (p := ⟨w1.heap.size, k, none⟩) (Nat.le_refl _) (.int .i64 x))
                      clear hS0 hS5 CN d1 d2 d3 ho hbw
                      go_wp2
                      go_roundw
                      case rel => exact ⟨k + 1, true, O3.set k x, by omega, by go_num, rfl, HLB, HPS, HO6, HB6⟩
                      case measure => simp [intOf]; omega
                  · have HST : Hid (Still (nbB W) O3 i k) := Lib.hid (fun x' y' h1 h2 h3 h4 h5 _ => by
                      rw [HX.out] at h1
                      rw [HY.out] at h2
                      cases h1
                      cases h2
                      exact hg ⟨h3, h4, h5⟩)
                    have HPS := Lib.hid (hps.out.keep HST.out)
                    clear hps HST
                    by_cases h1 : 0 ≤ x
                    · have d1 : decide (0 ≤ x) = true := by simpa using h1
                      by_cases h2 : 0 ≤ y
                      · have d2 : decide (0 ≤ y) = true := by simpa using h2
                        have d3 : decide (x < y) = false := by simp; omega
                        clear h1 h2 hg bx byy
                        go_wp2
                        go_quiet (fail)
                        have HOD := Lib.hid (ho.out.drewN nq)
                        have HBD := Lib.hid (below_drewN hbw.out nq)
                        clear cx cy ho hbw d1 d2 d3
                        go_wp2
                        go_roundw
                        case rel => exact ⟨k + 1, b, O3, by omega, by go_num, rfl, hlb, HPS, HOD, HBD⟩
                        case measure => simp [intOf]; omega
                      · have d2 : decide (0 ≤ y) = false := by simpa using h2
                        have d3 : True := trivial
                        clear h1 h2 hg bx byy
                        go_wp2
                        go_quiet (fail)
                        have HOD := Lib.hid (ho.out.drewN nq)
                        have HBD := Lib.hid (below_drewN hbw.out nq)
                        clear cx cy ho hbw d1 d2 d3
                        go_wp2
                        go_roundw
                        case rel => exact ⟨k + 1, b, O3, by omega, by go_num, rfl, hlb, HPS, HOD, HBD⟩
                        case measure => simp [intOf]; omega
                    · have d1 : decide (0 ≤ x) = false := by simpa using h1
                      have d2 : True := trivial
                      have d3 : True := trivial
                      clear h1 hg bx byy
                      go_wp2
                      go_quiet (fail)
                      have HOD := Lib.hid (ho.out.drewN nq)
                      have HBD := Lib.hid (below_drewN hbw.out nq)
                      clear cx cy ho hbw d1 d2 d3
                      go_wp2
                      go_roundw
                      case rel => exact ⟨k + 1, b, O3, by omega, by go_num, rfl, hlb, HPS, HOD, HBD⟩
                      case measure => simp [intOf]; omega
                · have HPS := Lib.hid (show Pass30 L.length (nbB W) O1 O3 b (i + 1) 0 from by
                    have h1 := hps.out
                    rw [show k = L.length by omega] at h1
                    exact h1.row)
                  clear hps
                  go_wp2
                  go_roundw
                  case rel => exact ⟨i + 1, b, O3, by omega, by go_num, rfl, hlb, HPS, ho, hbw⟩
                  case measure => simp [intOf]; omega
            · have hin : i = L.length := by omega
              subst hin
              have HM2 := Lib.hid (osumW_own ho.out)
              clear hlt hi
              go_wp2
              go_roundw
              case rel => exact ⟨b, O2, rfl, hlb, Lib.hid (fun hb => by
                obtain ⟨h1, h2⟩ := hps.out.1 hb
                rw [h1]
                exact fun i' k' h3 h4 => h2 i' k' (.inl h3) h4), ho, hbw⟩
              case measure =>
                rw [HM.out, HM2.out]
                cases b
                · rw [(hps.out.1 rfl).1]; simp [boolN]
                · have := hps.out.2 rfl
                  simp [boolN]; omega
end Go.Proofs.Ytdkcpnmaglkmnaa
