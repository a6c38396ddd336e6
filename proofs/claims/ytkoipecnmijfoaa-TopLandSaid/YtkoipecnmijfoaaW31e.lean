import Derived.BigQuiet
import Derived.StillTailTactics
import Derived.Test.YtkoipecnmijfoaaW31d
import Derived.Test.YtkoipecnmijfoaaM30T
/-! The walk of strip.table. -/
namespace Go.Proofs.Ytkoipecnmijfoaa
open Go.RowKit Go.Deep
set_option linter.unusedVariables false
set_option maxRecDepth 100000

theorem pow_wrap : ∀ n, n < 7 → wrap64 ((2 : Int) ^ n) = ((2 ^ n : Nat) : Int) := by decide +kernel
theorem pow_wrap2 : ∀ n, n < 7 → IntKind.i64.wrap ((2 : Int) ^ n) = ((2 ^ n : Nat) : Int) := by decide +kernel
theorem bit_and : ∀ s : Nat, s < 64 → ∀ i : Nat, i < 6 → (bits BinOp.and IntKind.i64 ((s : Int) / 2 ^ i) 1 == 1) = s.testBit i := by decide +kernel
theorem bit_but : ∀ s : Nat, s < 64 → ∀ i : Nat, i < 6 → s.testBit i = true → bits BinOp.andNot IntKind.i64 (s : Int) ((2 ^ i : Nat) : Int) = ((s - 2 ^ i : Nat) : Int) := by decide +kernel
theorem pow_le64 : ∀ n, n < 7 → 2 ^ n ≤ 64 := by decide +kernel
/-- the entries before s are done -/
def TabTo (V : List (List Int)) (m : Nat) (L : Int) (O : List Nat) (s : Nat) : Prop := O.getD 0 0 = 0 ∧ ∀ j, 0 < j → j < s → O.getD j 0 = entK V L m (fun t => O.getD t 0) j V.length
theorem TabTo.start {V : List (List Int)} {m : Nat} {L : Int} (N : Nat) : TabTo V m L (List.replicate N 0) 0 := by
  refine ⟨?_, fun j h1 h2 => by omega⟩
  rw [List.getD_eq_getElem?_getD, List.getElem?_replicate]
  split <;> rfl
theorem TabTo.zero {V : List (List Int)} {m : Nat} {L : Int} {O : List Nat} (h : TabTo V m L O 0) : TabTo V m L O 1 := ⟨h.1, fun j h1 h2 => by omega⟩
theorem TabTo.next {V : List (List Int)} {m : Nat} {L : Int} {O O' : List Nat} {s : Nat} (h : TabTo V m L O s) (hs : 0 < s) (hsame : ∀ j, j < s → O'.getD j 0 = O.getD j 0) (he : O'.getD s 0 = entK V L m (fun t => O.getD t 0) s V.length) : TabTo V m L O' (s + 1) := by
  refine ⟨by rw [hsame 0 hs]; exact h.1, fun j h1 h2 => ?_⟩
  by_cases hj : j = s
  · subst hj
    rw [he]
    exact entK_ext (fun t ht => (hsame t ht).symm) _
  · rw [hsame j (by omega), h.2 j h1 (by omega)]
    exact entK_ext (fun t ht => (hsame t (by omega)).symm) _
def TabRes (w : World) (V : List (List Int)) (m : Nat) (L : Int) (e : Ending) (w' : World) : Prop :=
  ∃ (g : Nat) (O : List Nat), e = .returned (.slice (some ⟨g, 0, none⟩) (2 ^ V.length) (2 ^ V.length)) ∧ O.length = 2 ^ V.length ∧ TabOk V m L (fun t => O.getD t 0) ∧ (∀ t, t < 2 ^ V.length → O.getD t 0 ≤ m + 1) ∧ Own w' g 3 (ints O) ∧ w.heap.size ≤ g ∧ Below w.heap.size w w'
set_option maxHeartbeats 1000000 in
theorem sTable {w : World} {C m : Nat} {A : Option Addr} {V : List (List Int)} {cap : Nat} (h : Rd2 w C A V) (hC : C ≤ w.heap.size) (v : VS V m) (L : Int) (hL0 : 1 ≤ L) (hL1 : L ≤ 16001) :
    Calls Try.prog 18 #[.slice A V.length cap, .int .i64 L] w (TabRes w V m L) := by
  have n0 := v.n0
  have n6 := v.n6
  have H := Lib.hid fun (u : World) (hu : Below w.heap.size w u) => h.below hu hC
  obtain ⟨b0, o0, x0, A0, c0, rfl, _, hx0, hc0, hr0⟩ := h.at_ (show 0 < V.length by omega)
  rw [Nat.add_zero] at hc0
  have hm0 : x0.length = m := v.row _ (List.mem_of_getElem? hx0)
  have hm16 := v.m16
  rw [hm0] at hc0
  have hw := pow_wrap V.length (by omega)
  have HN64 := pow_le64 V.length (by omega)
  have HV := Lib.hid v
  generalize hN : 2 ^ V.length = N at *
  have HN := Lib.hid hN
  have hmk := fun u => run_make_row' (P := Try.prog) 23 3 (.int .i64 0) 8 Try.underlying23 infoInt' rfl .i64 .i64 N (by omega) (by omega) u
  have hown := Own.made w 3 N
  have hb2 := Below.alloc (B := w.heap.size) (Below.refl _ w) (Nat.le_refl _) (.cells (madeCells #[Value.int .i64 0] N) 3)
  have HOWN := Lib.hid hown
  have HB2 := Lib.hid hb2
  clear h hx0 hr0 hm0 v hN hown hb2
  go_enter Try.func18, Try.ntmps18
  go_wp2_with fail
  generalize w.alloc (.cells (madeCells #[Value.int .i64 0] N) 3) = w2 at *
  clear hmk hc0 hw
  go_loopw [19] (fun sv wr => ∃ (s : Nat) (O : List Nat), s ≤ N ∧ sv = .int .i64 s ∧ Hid (O.length = N) ∧ Hid (TabTo V m L O s) ∧ Hid (Own wr w.heap.size 3 (ints O)) ∧ Hid (Below w.heap.size w wr)) (fun sv _ => N - (intOf sv).toNat)
  case atStart => exact ⟨0, List.replicate N 0, by omega, rfl, Lib.hid (by simp), Lib.hid (TabTo.start N), Lib.hid (by rw [show ints (List.replicate N 0) = List.replicate N (0 : Int) by simp [ints]]; exact HOWN.out), HB2⟩
  case round =>
    clear HOWN HB2
    obtain ⟨s, O, hs, rfl, hl, ht, ho, hb⟩ := hrel
    by_cases hlt : s < N
    · by_cases hz : s = 0
      · subst hz
        have HT := Lib.hid ht.out.zero
        clear ht
        go_wp2
        go_roundw
        case rel => exact ⟨1, O, by omega, by go_num, hl, HT, ho, hb⟩
        case measure => simp [intOf]; omega
      · have d0 : ((s : Int) == 0) = false := by rw [beq_eq_false_iff_ne]; omega
        obtain ⟨y, hy⟩ : ∃ y, O[s]? = some y := ⟨O[s]'(by rw [hl.out]; exact hlt), by simp⟩
        have cs := ho.out.cell (ints_at hy)
        have fs := ho.out.frozen s
        have e1 : IntKind.i64.wrap ((m : Int) + 1) = (m : Int) + 1 := IntWalk.i64_in _ (by omega)
        have HO1 : Hid (Own (wr.setCell ⟨w.heap.size, s, none⟩ (.int .i64 ((m : Int) + 1))) w.heap.size 3 (ints (O.set s (m + 1)))) := Lib.hid (by
          have := ho.out.store s (((m + 1 : Nat) : Int))
          rw [show (((m + 1 : Nat) : Int)) = (m : Int) + 1 by omega] at this
          rw [ints, List.map_set]
          exact this)
        have HB1 := Lib.hid (hb.out.setCell (p := ⟨w.heap.size, s, none⟩) (Nat.le_refl _) (.int .i64 ((m : Int) + 1)))
        have HS0 : Hid ((O.set s (m + 1)).length = N ∧ (∀ j, j < s → (O.set s (m + 1)).getD j 0 = O.getD j 0) ∧ (O.set s (m + 1)).getD s 0 = entK V L m (fun t => O.getD t 0) s 0) := Lib.hid ⟨by rw [List.length_set]; exact hl.out, fun j hj => by
          rw [List.getD_eq_getElem?_getD, List.getElem?_set_ne (by omega), ← List.getD_eq_getElem?_getD], by
          rw [List.getD_eq_getElem?_getD, List.getElem?_set_self (by rw [hl.out]; exact hlt)]; rfl⟩
        clear hy
        go_wp2
        generalize wr.setCell ⟨w.heap.size, s, none⟩ (.int .i64 ((m : Int) + 1)) = w3 at *
        clear cs fs ho hb
        go_loopw [31] (fun iv wi => ∃ (i : Nat) (O' : List Nat), i ≤ V.length ∧ iv = .int .i64 i ∧ Hid (O'.length = N ∧ (∀ j, j < s → O'.getD j 0 = O.getD j 0) ∧ O'.getD s 0 = entK V L m (fun t => O.getD t 0) s i) ∧ Hid (Own wi w.heap.size 3 (ints O')) ∧ Hid (Below w.heap.size w wi)) (fun iv _ => V.length - (intOf iv).toNat)
        case atStart => exact ⟨0, _, by omega, rfl, HS0, HO1, HB1⟩
        case round =>
          clear HS0 HO1 HB1
          obtain ⟨i, O', hi, rfl, hS, ho, hb⟩ := hrel
          by_cases hin : i < V.length
          · have hba := bit_and s (by omega) i (by omega)
            cases hbit : s.testBit i
            · rw [hbit] at hba
              have HS2 : Hid (O'.length = N ∧ (∀ j, j < s → O'.getD j 0 = O.getD j 0) ∧ O'.getD s 0 = entK V L m (fun t => O.getD t 0) s (i + 1)) := Lib.hid ⟨hS.out.1, hS.out.2.1, by rw [entK, hbit]; exact hS.out.2.2⟩
              clear hS hbit
              go_wp2
              go_roundw
              case rel => exact ⟨i + 1, O', by omega, by go_num, HS2, ho, hb⟩
              case measure => simp [intOf]; omega
            · rw [hbit] at hba
              have hbu := bit_but s (by omega) i (by omega) hbit
              have hpw := pow_wrap2 i (by omega)
              have hsub := sub6 s (by omega) i (by omega) hbit
              obtain ⟨b1, o1, x, A1, c1, e1, hb1, hx, hcx, hrx⟩ := (H.out _ hb.out).at_ hin
              cases e1
              have hxm : x.length = m := HV.out.row _ (List.mem_of_getElem? hx)
              have hxb := HV.out.bd _ (List.mem_of_getElem? hx)
              have hxd : V.getD i [] = x := by rw [List.getD_eq_getElem?_getD, hx]; rfl
              obtain ⟨q, hq⟩ : ∃ q, q = s - 2 ^ i := ⟨_, rfl⟩
              have hq0 : q < s := by omega
              have hqN : q < N := by omega
              rw [← hq] at hbu
              obtain ⟨pw, hpwE⟩ : ∃ pw, pw = 2 ^ i := ⟨_, rfl⟩
              rw [← hpwE] at hpw hbu
              rw [← hpwE] at hsub
              have getv : ∀ (P : List Nat) (j : Nat) (z : Nat), j < P.length → P.getD j 0 = z → P[j]? = some z := fun P j z hj hz => by
                rw [List.getD_eq_getElem?_getD, List.getElem?_eq_getElem hj, Option.getD_some] at hz
                rw [List.getElem?_eq_getElem hj, hz]
              have hqv : O'[q]? = some (O.getD q 0) := getv _ _ _ (by rw [hS.out.1]; omega) (hS.out.2.1 q hq0)
              have hsv : O'[s]? = some (entK V L m (fun t => O.getD t 0) s i) := getv _ _ _ (by rw [hS.out.1]; omega) hS.out.2.2
              clear getv
              have hqm : O.getD q 0 ≤ m + 1 := by
                by_cases h0 : q = 0
                · rw [h0, ht.out.1]; omega
                · rw [ht.out.2 q (by omega) hq0]; exact entK_le _
              have hnx : entK V L m (fun t => O.getD t 0) s (i + 1) = min (entK V L m (fun t => O.getD t 0) s i) (reachN x (O.getD q 0) L) := by rw [entK, hbit, hxd, hq]; rfl
              have hel := entK_le (V := V) (L := L) (m := m) (T := fun t => O.getD t 0) (s := s) i
              have hrl := reachN_le (l := x) (p := O.getD q 0) (L := L) (by omega)
              have HNX := Lib.hid hnx
              have HSV := Lib.hid hsv
              have cq := ho.out.cell (ints_at hqv)
              have cs := ho.out.cell (ints_at hsv)
              have fs := ho.out.frozen s
              have CR := sReach (w := wr.drew) (cap := c1) (hrx.below (below_drewN (Below.refl wr.heap.size wr) 1) (Nat.le_trans hC hb.out.size)) (O.getD q 0) L (by omega) (by omega) hxb (by omega) (by omega)
              have HOX : Hid (∀ z : Nat, Own (wr.setCell ⟨w.heap.size, s, none⟩ (.int .i64 (z : Int))) w.heap.size 3 (ints (O'.set s z))) := Lib.hid fun z => by
                have := ho.out.store s (z : Int)
                rw [ints, List.map_set]
                exact this
              have HBX : Hid (∀ z : Nat, Below w.heap.size w (wr.setCell ⟨w.heap.size, s, none⟩ (.int .i64 (z : Int)))) := Lib.hid fun z => hb.out.setCell (p := ⟨w.heap.size, s, none⟩) (Nat.le_refl _) _
              have HSX : Hid (∀ z : Nat, z = entK V L m (fun t => O.getD t 0) s (i + 1) → (O'.set s z).length = N ∧ (∀ j, j < s → (O'.set s z).getD j 0 = O.getD j 0) ∧ (O'.set s z).getD s 0 = entK V L m (fun t => O.getD t 0) s (i + 1)) := Lib.hid fun z hz => ⟨by rw [List.length_set]; exact hS.out.1, fun j hj => by
                rw [List.getD_eq_getElem?_getD, List.getElem?_set_ne (by omega), ← List.getD_eq_getElem?_getD]; exact hS.out.2.1 j hj, by
                rw [List.getD_eq_getElem?_getD, List.getElem?_set_self (by rw [hS.out.1]; exact hlt), ← hz]; rfl⟩
              rw [hxm] at CR hcx hrl
              clear hxm hbit hx hrx hxd hq hqv hsv hnx hS hxb hsub hpwE
              generalize O.getD q 0 = tq at *
              generalize entK V L m (fun t => O.getD t 0) s i = E at *
              generalize reachN x tq L = r at *
              have hmz : ((min E r : Nat) : Int) = min (E : Int) (r : Int) := by omega
              have HSE := Lib.hid (HSX.out (min E r) HNX.out.symm)
              have HOE : Hid (Own ((wr.setCell ⟨w.heap.size, s, none⟩ (.int .i64 (min (E : Int) (r : Int)))).drew) w.heap.size 3 (ints (O'.set s (min E r)))) := Lib.hid (by rw [← hmz]; exact HOX.out (min E r))
              have HBE : Hid (Below w.heap.size w ((wr.setCell ⟨w.heap.size, s, none⟩ (.int .i64 (min (E : Int) (r : Int)))).drew)) := Lib.hid (by rw [← hmz]; exact below_drewN (HBX.out (min E r)) 1)
              clear HSX HOX HBX HNX hmz
              go_wp2
              go_still_tail 21, (by kernel_rfl)
              still_call (CR.mono fun _ _ h => ⟨h.1, h.2.symm⟩)
              repeat still_step
              refine wpStill_nil ?_
              change wpList _ _ _ _ _ wr.drew
              go_wp2
              go_roundw
              case rel => exact ⟨i + 1, O'.set s (min E r), by omega, by go_num, HSE, HOE, HBE⟩
              case measure => simp [intOf]; omega
          · obtain rfl : i = V.length := by omega
            have HT := Lib.hid (ht.out.next (by omega) hS.out.2.1 hS.out.2.2)
            have HLE := Lib.hid hS.out.1
            clear ht hS
            go_wp2
            go_roundw
            case rel => exact ⟨s + 1, O', by omega, by go_num, HLE, HT, ho, hb⟩
            case measure => simp [intOf]; omega
    · have hsN : s = N := by omega
      have HF : Hid (TabOk V m L (fun t => O.getD t 0)) := Lib.hid ⟨ht.out.1, fun j h1 h2 => ht.out.2 j h1 (by have := HN.out; omega)⟩
      have HLE : Hid (∀ t, t < N → O.getD t 0 ≤ m + 1) := Lib.hid fun t hh => by
        by_cases h0 : t = 0
        · rw [h0, ht.out.1]; omega
        · rw [ht.out.2 t (by omega) (by omega)]; exact entK_le _
      clear ht
      go_wp2
      go_ret
      exact ⟨w.heap.size, O, by rw [HN.out]; rfl, by rw [HN.out]; exact hl.out, HF.out, by rw [HN.out]; exact HLE.out, ho.out, Nat.le_refl _, hb.out⟩
end Go.Proofs.Ytkoipecnmijfoaa
