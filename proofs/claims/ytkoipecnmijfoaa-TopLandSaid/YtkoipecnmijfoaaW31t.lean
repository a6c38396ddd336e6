import Derived.BigQuiet
import Derived.StillTailTactics
import Derived.Test.YtkoipecnmijfoaaW31q
/-! The walk of the statement's passed33: parts passed on by turning weeks. -/
namespace Go.Proofs.Ytkoipecnmijfoaa
open Go.RowKit Go.Deep
set_option linter.unusedVariables false
set_option maxRecDepth 100000

def sumZ : Nat → (Nat → Int) → Int
  | 0, _ => 0
  | n + 1, f => sumZ n f + f n
theorem sumZ_congr {n : Nat} {f g : Nat → Int} (h : ∀ i, i < n → f i = g i) : sumZ n f = sumZ n g := by
  induction n with
  | zero => rfl
  | succ n ih => rw [sumZ, sumZ, ih (fun i hi => h i (by omega)), h n (by omega)]
theorem sumZ_zero (n : Nat) : sumZ n (fun _ => 0) = 0 := by
  induction n with
  | zero => rfl
  | succ n ih => rw [sumZ, ih]; rfl
theorem sumZ_add (n : Nat) (f g : Nat → Int) : sumZ n (fun i => f i + g i) = sumZ n f + sumZ n g := by
  induction n with
  | zero => rfl
  | succ n ih => simp only [sumZ, ih]; omega
theorem sumZ_swap (n m : Nat) (f : Nat → Nat → Int) : sumZ n (fun i => sumZ m (fun j => f i j)) = sumZ m (fun j => sumZ n (fun i => f i j)) := by
  induction n with
  | zero => rw [sumZ]; exact (sumZ_zero m).symm
  | succ n ih => rw [sumZ, ih, ← sumZ_add]; rfl
theorem sumZ_bd {n : Nat} {f : Nat → Int} {c : Int} (h : ∀ i, i < n → 0 ≤ f i ∧ f i ≤ c) : 0 ≤ sumZ n f ∧ sumZ n f ≤ n * c := by
  induction n with
  | zero => simp [sumZ]
  | succ n ih =>
    have h1 := ih fun i hi => h i (by omega)
    have h2 := h n (by omega)
    have e : ((n + 1 : Nat) : Int) * c = n * c + c := by rw [Int.natCast_add, Int.add_mul]; simp
    rw [sumZ, e]
    omega
theorem sumZ_pick {n t0 : Nat} (h : t0 < n) (c : Int) : sumZ n (fun t => if t = t0 then c else 0) = c := by
  have key : ∀ n, sumZ n (fun t => if t = t0 then c else 0) = if t0 < n then c else 0 := by
    intro n
    induction n with
    | zero => rfl
    | succ n ih =>
      rw [sumZ, ih]
      by_cases h1 : t0 < n
      · rw [if_pos h1, if_neg (by omega), if_pos (by omega)]; omega
      · rw [if_neg h1]
        by_cases h2 : n = t0
        · rw [if_pos h2, if_pos (by omega)]; omega
        · rw [if_neg h2, if_neg (by omega)]; rfl
  rw [key, if_pos h]
/-- what agent i has of parcel k in week t -/
def turnG (V : List (List Int)) (b : List Int) (t i k : Nat) : Int := if (((i + t % V.length) % V.length : Nat) : Int) = b.getD k 0 then valV V i k else 0
/-- .. of all parcels -/
def weekG (V : List (List Int)) (b : List Int) (m t i : Nat) : Int := sumZ m (turnG V b t i)
def allG (V : List (List Int)) (b : List Int) (m T i : Nat) : Int := sumZ T fun t => weekG V b m t i
theorem turn_one {n i x : Nat} (hi : i < n) (hx : x < n) : ∃ t0, t0 < n ∧ ∀ t, t < n → ((i + t % n) % n = x ↔ t = t0) := by
  refine ⟨if i ≤ x then x - i else x + n - i, by split <;> omega, fun t ht => ?_⟩
  rw [Nat.mod_eq_of_lt ht]
  have e : (i + t) % n = if i + t < n then i + t else i + t - n := by
    split
    · exact Nat.mod_eq_of_lt (by assumption)
    · rw [Nat.mod_eq_sub_mod (by omega), Nat.mod_eq_of_lt (by omega)]
  rw [e]
  split <;> split <;> omega
/-- in the end each agent has all -/
theorem all_turns {V : List (List Int)} {b : List Int} {m i : Nat} (hb : ∀ k, k < m → 0 ≤ b.getD k 0 ∧ b.getD k 0 < V.length) (hi : i < V.length) : allG V b m V.length i = sumZ m (valV V i) := by
  unfold allG weekG
  rw [sumZ_swap]
  refine sumZ_congr fun k hk => ?_
  obtain ⟨h0, h1⟩ := hb k hk
  obtain ⟨t0, ht0, ht⟩ := turn_one (x := (b.getD k 0).toNat) hi (by omega)
  rw [← sumZ_pick ht0 (valV V i k)]
  refine sumZ_congr fun t htn => ?_
  unfold turnG
  by_cases h : t = t0
  · rw [if_pos h, if_pos (by have := (ht t htn).2 h; omega)]
  · rw [if_neg h, if_neg (fun e => h ((ht t htn).1 (by omega)))]
theorem rest_sum {V : List (List Int)} {m : Nat} (v : VS V m) (i : Nat) : ∀ k, k ≤ m → sumZ k (valV V i) + restV V m i k = restV V m i 0
  | 0, _ => by rw [sumZ]; omega
  | k + 1, h => by
    rw [sumZ, ← rest_sum v i k (by omega), restV_step v (k := k) (by omega)]
    omega
theorem rest_all {V : List (List Int)} {m : Nat} (v : VS V m) (i : Nat) : sumZ m (valV V i) = restV V m i 0 := by
  rw [← rest_sum v i m (Nat.le_refl _), restV_end]; omega
theorem turnG_bd {V : List (List Int)} {m : Nat} (v : VS V m) (b : List Int) (t i k : Nat) : 0 ≤ turnG V b t i k ∧ turnG V b t i k ≤ 1000 := by
  unfold turnG
  split
  · exact valV_bd v i k
  · omega
/-- the sums, when week t has come to parcel k and agent i -/
def sumTo (V : List (List Int)) (b : List Int) (m t k i j : Nat) : Int := allG V b m t j + sumZ k (turnG V b t j) + if j < i then turnG V b t j k else 0
theorem sumTo_bd {V : List (List Int)} {m : Nat} (v : VS V m) (hm : m ≤ 12) (b : List Int) {t k i j : Nat} (ht : t ≤ 6) (hk : k ≤ 12) : 0 ≤ sumTo V b m t k i j ∧ sumTo V b m t k i j ≤ 100000 := by
  have h1 : ∀ t, 0 ≤ weekG V b m t j ∧ weekG V b m t j ≤ 12000 := fun t => by
    have := sumZ_bd (n := m) (f := turnG V b t j) (c := 1000) (fun k _ => turnG_bd v b t j k)
    unfold weekG; omega
  have h2 := sumZ_bd (n := t) (f := fun t => weekG V b m t j) (c := 12000) (fun t _ => h1 t)
  have h3 := sumZ_bd (n := k) (f := turnG V b t j) (c := 1000) (fun k _ => turnG_bd v b t j k)
  have h4 := turnG_bd v b t j k
  unfold sumTo allG
  split <;> omega
theorem sumTo_next {V : List (List Int)} {b : List Int} {m t k i j : Nat} : sumTo V b m t k (i + 1) j = sumTo V b m t k i j + if j = i then turnG V b t j k else 0 := by
  unfold sumTo
  by_cases h : j = i
  · rw [if_pos h, if_pos (by omega), if_neg (by omega)]; omega
  · rw [if_neg h]
    by_cases h2 : j < i
    · rw [if_pos (by omega), if_pos h2]; omega
    · rw [if_neg (by omega), if_neg h2]; omega
theorem sumTo_row {V : List (List Int)} {b : List Int} {m t k n j : Nat} (hj : j < n) : sumTo V b m t k n j = sumTo V b m t (k + 1) 0 j := by
  unfold sumTo
  rw [if_pos hj, if_neg (by omega), sumZ]; omega
theorem sumTo_week {V : List (List Int)} {b : List Int} {m t j : Nat} : sumTo V b m t m 0 j = sumTo V b m (t + 1) 0 0 j := by
  unfold sumTo allG
  rw [if_neg (by omega), if_neg (by omega), sumZ, sumZ]
  unfold weekG
  omega
set_option maxHeartbeats 4000000 in
theorem passed {w : World} {B C m : Nat} {A A' : Option Addr} {V : List (List Int)} {b : List Int} {cap cap' : Nat} (v : VS V m) (h : Rd2 w C A V) (hC : C ≤ w.heap.size) (h' : Rd w B A' b) (hB : B ≤ w.heap.size) (hm : b.length = m) (h12 : m ≤ 12) (hb : ∀ x ∈ b, 0 ≤ x ∧ x < V.length) (L : Int) (hL0 : 0 ≤ L) (hL1 : L ≤ 16001) (hL : ∀ i, i < V.length → L ≤ restV V m i 0) :
    Calls Try.prog 8 #[.slice A V.length cap, .slice A' b.length cap', .int .i64 L] w fun e w' => e = .returned (.bool true) ∧ Below w.heap.size w w' := by
  have n0 := v.n0
  have n6 := v.n6
  have H := Lib.hid fun (u : World) (hu : Below w.heap.size w u) => h.below hu hC
  have H' := Lib.hid fun (u : World) (hu : Below w.heap.size w u) => h'.below hu hB
  have HV := Lib.hid v
  have HL := Lib.hid fun i hi => (show L ≤ sumZ m (valV V i) by rw [rest_all v]; exact hL i hi)
  have HT := Lib.hid fun i hi => all_turns (V := V) (b := b) (m := m) (i := i) (fun k hk => by
    rw [List.getD_eq_getElem?_getD, List.getElem?_eq_getElem (by omega)]
    exact hb _ (List.getElem_mem (by omega))) hi
  have HM := Lib.hid hm
  have hb12 : b.length ≤ 12 := by omega
  have hmk := fun u => run_make_row' (P := Try.prog) 23 3 (.int .i64 0) 8 Try.underlying23 infoInt' rfl .i64 .i64 V.length (by omega) (by omega) u
  have HOWN := Lib.hid (Own.made w 3 V.length)
  have HB2 := Lib.hid (Below.alloc (B := w.heap.size) (Below.refl _ w) (Nat.le_refl _) (.cells (madeCells #[Value.int .i64 0] V.length) 3))
  have HS0 : Hid ((List.replicate V.length (0 : Int)).length = V.length ∧ ∀ j, j < V.length → (List.replicate V.length (0 : Int))[j]? = some (sumTo V b m 0 0 0 j)) := Lib.hid ⟨by simp, fun j hj => by
    rw [List.getElem?_replicate, if_pos hj]
    unfold sumTo allG
    rw [if_neg (by omega)]; rfl⟩
  clear h h' v hb hL hm
  go_enter Try.func8, Try.ntmps8
  go_wp2_with fail
  generalize w.alloc (.cells (madeCells #[Value.int .i64 0] V.length) 3) = w2 at *
  clear hmk
  go_loopw [8] (fun tv wr => ∃ (t : Nat) (S : List Int), t ≤ V.length ∧ tv = .int .i64 t ∧ Hid (S.length = V.length ∧ ∀ j, j < V.length → S[j]? = some (sumTo V b m t 0 0 j)) ∧ Hid (Own wr w.heap.size 3 S) ∧ Hid (Below w.heap.size w wr)) (fun tv _ => V.length - (intOf tv).toNat)
  case atStart => exact ⟨0, _, by omega, rfl, HS0, HOWN, HB2⟩
  case round =>
    clear HS0 HOWN HB2
    obtain ⟨t, S, ht, rfl, hS, ho, hbw⟩ := hrel
    by_cases htn : t < V.length
    · have CT := Lib.hid (rTurning (w := wr) (n := V.length) (t := t) n0 (by omega) (by omega))
      go_wp2_with fail
      refine CT.out.mono ?_
      rintro e w3 ⟨g, rfl, hO, hg, hb3⟩
      have HO := Lib.hid hO
      have HB3 := Lib.hid (hbw.out.trans (hb3.mono hbw.out.size))
      have HSO := Lib.hid (ho.out.below hb3 ho.out.lt)
      have HGN : Hid (w.heap.size ≠ g ∧ w.heap.size ≤ g) := Lib.hid ⟨by have := ho.out.lt; omega, by have := ho.out.lt; omega⟩
      clear hO hb3 CT ho hbw hg
      go_wp2
      go_loopw [11] (fun kv wr => ∃ (k : Nat) (S : List Int), k ≤ b.length ∧ kv = .int .i64 k ∧ Hid (S.length = V.length ∧ ∀ j, j < V.length → S[j]? = some (sumTo V b m t k 0 j)) ∧ Hid (Own wr w.heap.size 3 S) ∧ Hid (Own wr g 3 (turnL V.length t)) ∧ Hid (Below w.heap.size w wr)) (fun kv _ => b.length - (intOf kv).toNat)
      case atStart => exact ⟨0, S, by omega, rfl, hS, HSO, HO, HB3⟩
      case round =>
        clear hS HSO HO HB3
        obtain ⟨k, S, hk, rfl, hS, ho, hg, hbw⟩ := hrel
        by_cases hkn : k < b.length
        · go_wp2
          go_loopw [12] (fun iv wr => ∃ (i : Nat) (S : List Int), i ≤ V.length ∧ iv = .int .i64 i ∧ Hid (S.length = V.length ∧ ∀ j, j < V.length → S[j]? = some (sumTo V b m t k i j)) ∧ Hid (Own wr w.heap.size 3 S) ∧ Hid (Own wr g 3 (turnL V.length t)) ∧ Hid (Below w.heap.size w wr)) (fun iv _ => V.length - (intOf iv).toNat)
          case atStart => exact ⟨0, S, by omega, rfl, hS, ho, hg, hbw⟩
          case round =>
            clear hS ho hg hbw
            obtain ⟨i, S, hi, rfl, hS, ho, hg, hbw⟩ := hrel
            by_cases hin : i < V.length
            · obtain ⟨b2, o2, x, e2, hb2, hx, hx64, hcx⟩ := (H'.out _ hbw.out).at_ hkn
              have hxd : b.getD k 0 = x := by rw [List.getD_eq_getElem?_getD, hx]; rfl
              have hwc := hg.out.cell (turnL_at (t := t) hin)
              have HTG : Hid (turnG V b t i k = if (((i + t % V.length) % V.length : Nat) : Int) = x then valV V i k else 0) := Lib.hid (by unfold turnG; rw [hxd])
              have hsb := sumTo_bd HV.out h12 b (t := t) (k := k) (i := i) (j := i) (by omega) (by omega)
              have hsi := hS.out.2 i hin
              have HSI := Lib.hid hsi
              have hkm : k < m := by have := HM.out; omega
              subst e2
              clear hx hx64 hxd hsi
              generalize ((i + t % V.length) % V.length : Nat) = wv at *
              by_cases hwx : (wv : Int) = x
              · have q : ((wv : Int) == x) = true := by rw [beq_iff_eq]; exact hwx
                rw [if_pos hwx] at HTG
                clear hwx
                go_wp2
                go_quiet (fail)
                have HSO := Lib.hid (ho.out.drewN nq)
                have HGO := Lib.hid (hg.out.drewN nq)
                have HBO := Lib.hid (below_drewN hbw.out nq)
                clear ho hg hbw hwc hcx q
                generalize wr.drewN nq = wd at *
                obtain ⟨b1, o1, y, A1, c1, e1, hb1, hy, hcy, hry⟩ := (H.out _ HBO.out).at_ hin
                cases e1
                have hym : y.length = m := HV.out.row _ (List.mem_of_getElem? hy)
                obtain ⟨b3, o3, yv, e3, hb3, hyv, hy64, hcv⟩ := hry.at_ (k := k) (by omega)
                have hval : valV V i k = yv := by
                  unfold valV
                  rw [List.getD_eq_getElem?_getD (l := V), hy, Option.getD_some, List.getD_eq_getElem?_getD, hyv]; rfl
                have hyb := valV_bd HV.out i k
                rw [hval] at hyb HTG
                rw [hym] at hcy
                subst e3
                have cs := HSO.out.cell HSI.out
                have fs := HSO.out.frozen i
                generalize hsv : sumTo V b m t k i i = sv at *
                have HSV := Lib.hid hsv
                have e5 : IntKind.i64.wrap (sv + yv) = sv + yv := IntWalk.i64_in _ (by omega)
                have HSN : Hid ((S.set i (sv + yv)).length = V.length ∧ ∀ j, j < V.length → (S.set i (sv + yv))[j]? = some (sumTo V b m t k (i + 1) j)) := Lib.hid ⟨by rw [List.length_set]; exact hS.out.1, fun j hj => by
                  rw [sumTo_next]
                  by_cases hji : j = i
                  · subst hji
                    rw [List.getElem?_set_self (by rw [hS.out.1]; exact hj), if_pos rfl, HTG.out, HSV.out]
                  · rw [List.getElem?_set_ne (by omega), if_neg hji, Int.add_zero]; exact hS.out.2 j hj⟩
                have HO9 : Hid (Own ((wd.setCell ⟨w.heap.size, i, none⟩ (.int .i64 (sv + yv))).drew) w.heap.size 3 (S.set i (sv + yv))) := Lib.hid (HSO.out.store i (sv + yv))
                have HG9 : Hid (Own ((wd.setCell ⟨w.heap.size, i, none⟩ (.int .i64 (sv + yv))).drew) g 3 (turnL V.length t)) := Lib.hid (HGO.out.far (p := ⟨w.heap.size, i, none⟩) (by show g ≠ w.heap.size; have := HGN.out; omega) (.int .i64 (sv + yv)))
                have HB9 : Hid (Below w.heap.size w ((wd.setCell ⟨w.heap.size, i, none⟩ (.int .i64 (sv + yv))).drew)) := Lib.hid (below_drewN (HBO.out.setCell (p := ⟨w.heap.size, i, none⟩) (Nat.le_refl _) (.int .i64 (sv + yv))) 1)
                clear hsv hS HSO HGO HBO HTG hry hy hyv hy64 hval hym hyb hb1 hb2 hb3 hsb
                go_wp2
                go_still_tail 13, (by kernel_rfl)
                change wpList _ _ _ _ _ wd.drew
                go_wp2
                go_roundw
                case rel => exact ⟨i + 1, _, by omega, by go_num, HSN, HO9, HG9, HB9⟩
                case measure => simp [intOf]; omega
              · have q : ((wv : Int) == x) = false := by rw [beq_eq_false_iff_ne]; exact hwx
                rw [if_neg hwx] at HTG
                have HSN : Hid (S.length = V.length ∧ ∀ j, j < V.length → S[j]? = some (sumTo V b m t k (i + 1) j)) := Lib.hid ⟨hS.out.1, fun j hj => by
                  rw [sumTo_next, hS.out.2 j hj]
                  by_cases hji : j = i
                  · subst hji; rw [if_pos rfl, HTG.out, Int.add_zero]
                  · rw [if_neg hji, Int.add_zero]⟩
                clear hwx hS
                go_wp2
                go_quiet (fail)
                have HSO := Lib.hid (ho.out.drewN nq)
                have HGO := Lib.hid (hg.out.drewN nq)
                have HBO := Lib.hid (below_drewN hbw.out nq)
                clear ho hg hbw hwc hcx q hsb
                go_wp2
                go_roundw
                case rel => exact ⟨i + 1, S, by omega, by go_num, HSN, HSO, HGO, HBO⟩
                case measure => simp [intOf]; omega
            · have HSN : Hid (S.length = V.length ∧ ∀ j, j < V.length → S[j]? = some (sumTo V b m t (k + 1) 0 j)) := Lib.hid ⟨hS.out.1, fun j hj => by
                rw [hS.out.2 j hj, show i = V.length by omega, sumTo_row hj]⟩
              clear hS
              go_wp2
              go_roundw
              case rel => exact ⟨k + 1, S, by omega, by go_num, HSN, ho, hg, hbw⟩
              case measure => simp [intOf]; omega
        · have HSN : Hid (S.length = V.length ∧ ∀ j, j < V.length → S[j]? = some (sumTo V b m (t + 1) 0 0 j)) := Lib.hid ⟨hS.out.1, fun j hj => by
            rw [hS.out.2 j hj, show k = m by have := HM.out; omega, sumTo_week]⟩
          clear hS
          go_wp2
          go_roundw
          case rel => exact ⟨t + 1, S, by omega, by go_num, HSN, ho, hbw⟩
          case measure => simp [intOf]; omega
    · have HSF : Hid (∀ j, j < V.length → S[j]? = some (sumZ m (valV V j))) := Lib.hid fun j hj => by
        rw [hS.out.2 j hj, show t = V.length by omega, ← HT.out j hj]
        unfold sumTo
        rw [if_neg (by omega), sumZ]
        congr 1
        omega
      have HSL := Lib.hid hS.out.1
      clear hS HT
      go_wp2
      go_loop [13] (fun iv => ∃ i : Nat, i ≤ V.length ∧ iv = .int .i64 i) (fun iv => V.length - (intOf iv).toNat)
      case atStart => exact ⟨0, by omega, rfl⟩
      case round =>
        obtain ⟨i, hi, rfl⟩ := hrel
        by_cases hin : i < V.length
        · go_wp2
          go_loop [14, 15] (fun av kv => ∃ k : Nat, k ≤ b.length ∧ kv = .int .i64 k ∧ av = .int .i64 (sumZ k (valV V i))) (fun _ kv => b.length - (intOf kv).toNat)
          case atStart => exact ⟨0, by omega, rfl, rfl⟩
          case round =>
            obtain ⟨k, hk, rfl, rfl⟩ := hrel
            by_cases hkn : k < b.length
            · obtain ⟨b1, o1, y, A1, c1, rfl, hb1, hy, hcy, hry⟩ := (H.out _ hbw.out).at_ hin
              have hym : y.length = m := HV.out.row _ (List.mem_of_getElem? hy)
              have hkm : k < m := by have := HM.out; omega
              obtain ⟨b3, o3, yv, rfl, hb3, hyv, hy64, hcv⟩ := hry.at_ (k := k) (by omega)
              have hval : valV V i k = yv := by
                unfold valV
                rw [List.getD_eq_getElem?_getD (l := V), hy, Option.getD_some, List.getD_eq_getElem?_getD, hyv]; rfl
              have hyb := valV_bd HV.out i k
              rw [hval] at hyb
              rw [hym] at hcy
              have hzb := sumZ_bd (n := k) (f := valV V i) (c := 1000) (fun k _ => valV_bd HV.out i k)
              have HNX : Hid (sumZ (k + 1) (valV V i) = sumZ k (valV V i) + yv) := Lib.hid (by rw [sumZ, hval])
              clear hry hy hyv hy64 hval hym hb1 hb3
              generalize sumZ k (valV V i) = z at *
              have e5 : IntKind.i64.wrap (z + yv) = z + yv := IntWalk.i64_in _ (by omega)
              go_wp2
              go_round
              case rel => exact ⟨k + 1, by omega, by go_num, by rw [HNX.out]⟩
              case measure => simp [intOf]; omega
            · have hkm : k = m := by have := HM.out; omega
              have cs := ho.out.cell (HSF.out i hin)
              have hLi := HL.out i hin
              rw [← hkm] at cs hLi
              have d1 : decide (sumZ k (valV V i) < L) = false := decide_eq_false (by omega)
              have q : (sumZ k (valV V i) != sumZ k (valV V i)) = false := by simp
              clear hkm hLi
              generalize sumZ k (valV V i) = z at *
              go_wp2
              go_round
              case rel => exact ⟨i + 1, by omega, by go_num⟩
              case measure => simp [intOf]; omega
        · clear HSF HL
          go_wp2
          go_ret
          exact ⟨rfl, hbw.out⟩
end Go.Proofs.Ytkoipecnmijfoaa
