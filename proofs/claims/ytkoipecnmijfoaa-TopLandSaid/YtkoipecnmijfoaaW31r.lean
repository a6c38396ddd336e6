import Derived.BigQuiet
import Derived.Test.YtkoipecnmijfoaaW31a
/-! The walks of strip.division and strip.Is. -/
namespace Go.Proofs.Ytkoipecnmijfoaa
open Go.RowKit Go.Deep
set_option linter.unusedVariables false
set_option maxRecDepth 100000

/-- block g is just the bools L -/
def OwnB (w : World) (g T : Nat) (L : List Bool) : Prop := w.heap[g]? = some (.cells (L.map Value.bool).toArray T (0, 0))
section
variable {w w' : World} {g T : Nat} {L : List Bool}
theorem OwnB.cell (h : OwnB w g T L) {i : Nat} {x : Bool} (hx : L[i]? = some x) : w.cell? ⟨g, i, none⟩ = some (.bool x) := by
  rw [cell_of_row w g i _ T (0, 0) h]; simp [hx]
theorem OwnB.frozen (h : OwnB w g T L) (i : Nat) : w.frozen? ⟨g, i, none⟩ = false := by
  unfold OwnB at h
  simp [World.frozen?, h]
theorem OwnB.store (h : OwnB w g T L) (i : Nat) (x : Bool) : OwnB (w.setCell ⟨g, i, none⟩ (.bool x)) g T (L.set i x) := by
  unfold OwnB at h ⊢
  simp [World.setCell, Array.getElem?_modify, h, List.map_set]
end
/-- an agent that was left does not come again -/
def DivOk (a : List Int) : Prop := ∀ j k x, j < k → a[j]? = some x → a[k]? = some x → a[j + 1]? = some x
noncomputable def divB (a : List Int) : Bool := by classical exact decide (DivOk a)
theorem divB_iff {a : List Int} : divB a = true ↔ DivOk a := by classical unfold divB; exact decide_eq_true_iff
/-- agent i was left before place k -/
def Left31 (a : List Int) (k : Nat) (i : Int) : Prop := ∃ j y, j < k ∧ a[j]? = some i ∧ a[j + 1]? = some y ∧ y ≠ i
/-- all is well before place k -/
def OkTo31 (a : List Int) (k : Nat) : Prop := ∀ j k' x, j < k' → k' < k → a[j]? = some x → a[k']? = some x → a[j + 1]? = some x
theorem left_bad {a : List Int} {k : Nat} {x : Int} (h : Left31 a k x) (hx : a[k]? = some x) : ¬ DivOk a := fun hd => by
  obtain ⟨j, y, h1, h2, h3, h4⟩ := h
  have := hd j k x h1 h2 hx
  rw [h3] at this
  cases this
  exact h4 rfl
theorem ok_next {a : List Int} {k : Nat} {x : Int} (h : OkTo31 a k) (hx : a[k]? = some x) (hn : ¬ Left31 a k x) : OkTo31 a (k + 1) := fun j k' z h1 h2 h3 h4 => by
  by_cases hk : k' = k
  · subst hk
    rw [hx] at h4
    cases h4
    have hlt := (List.getElem?_eq_some_iff.1 hx).1
    obtain ⟨y, hy⟩ : ∃ y, a[j + 1]? = some y := ⟨a[j + 1]'(by omega), by simp⟩
    rw [hy]
    by_cases hyx : y = x
    · rw [hyx]
    · exact absurd ⟨j, y, h1, h3, hy, hyx⟩ hn
  · exact h j k' z h1 (by omega) h3 h4
theorem left_same {a : List Int} {k : Nat} {x : Int} (hx : a[k]? = some x) (hy : ∀ y, a[k + 1]? = some y → y = x) (i : Int) : Left31 a (k + 1) i ↔ Left31 a k i := by
  constructor
  · rintro ⟨j, y, h1, h2, h3, h4⟩
    by_cases hjk : j = k
    · subst hjk
      rw [hx] at h2
      cases h2
      exact absurd (hy y h3) h4
    · exact ⟨j, y, by omega, h2, h3, h4⟩
  · rintro ⟨j, y, h1, h2⟩
    exact ⟨j, y, by omega, h2⟩
theorem left_next {a : List Int} {k : Nat} {x y : Int} (hx : a[k]? = some x) (hy : a[k + 1]? = some y) (hyx : y ≠ x) (i : Int) : Left31 a (k + 1) i ↔ Left31 a k i ∨ i = x := by
  constructor
  · rintro ⟨j, z, h1, h2, h3, h4⟩
    by_cases hjk : j = k
    · subst hjk
      rw [hx] at h2
      cases h2
      exact .inr rfl
    · exact .inl ⟨j, z, by omega, h2, h3, h4⟩
  · rintro (⟨j, z, h1, h2⟩ | rfl)
    · exact ⟨j, z, by omega, h2⟩
    · exact ⟨k, y, by omega, hx, hy, hyx⟩
set_option maxHeartbeats 4000000 in
theorem sDivision {w : World} {B C m : Nat} {A A' : Option Addr} {V : List (List Int)} {a : List Int} {cap cap' : Nat} (v : VS V m) (h : Rd2 w C A V) (hC : C ≤ w.heap.size) (h' : Rd w B A' a) (hB : B ≤ w.heap.size) (hm : a.length = m) (ha : ∀ x ∈ a, 0 ≤ x ∧ x < V.length) :
    Calls Try.prog 25 #[.slice A V.length cap, .slice A' a.length cap'] w fun e w' => e = .returned (.bool (divB a)) ∧ Below w.heap.size w w' := by
  have n0 := v.n0
  have n6 := v.n6
  have m16 := v.m16
  have hal : Below w.heap.size w (w.alloc (.cells #[.bool false, .bool false, .bool false, .bool false, .bool false, .bool false] 75)) := (Below.refl _ _).alloc (Nat.le_refl _) _
  have hown : OwnB (w.alloc (.cells #[.bool false, .bool false, .bool false, .bool false, .bool false, .bool false] 75)) w.heap.size 75 (List.replicate 6 false) := heap_alloc_new w _
  have HAL := Lib.hid hal
  have HOW := Lib.hid hown
  have H' := Lib.hid fun (u : World) (hu : Below w.heap.size w u) => h'.below hu hB
  have HA := Lib.hid ha
  obtain ⟨b0, o0, x0, A0, c0, rfl, hb0, hx0, hc0, hr0⟩ := (h.below hal hC).at_ (show 0 < V.length by omega)
  rw [Nat.add_zero] at hc0
  have hm0 : x0.length = a.length := by rw [hm]; exact v.row _ (List.mem_of_getElem? hx0)
  rw [hm0] at hc0
  have ha16 : a.length ≤ 16 := by omega
  have HD : Hid (divB a = true ↔ DivOk a) := Lib.hid divB_iff
  generalize divB a = Q at *
  clear h h' hal hown hx0 hr0 hm0 hm v ha m16
  go_enter Try.func25, Try.ntmps25
  go_wp2_with fail
  generalize w.alloc (.cells #[.bool false, .bool false, .bool false, .bool false, .bool false, .bool false] 75) = w1 at *
  clear hc0
  go_loopw [17] (fun iv wr => ∃ (k : Nat) (Lf : List Bool), k ≤ a.length ∧ iv = .int .i64 k ∧ Hid (Lf.length = 6 ∧ ∀ i : Nat, i < 6 → (Lf[i]? = some true ↔ Left31 a k (i : Int))) ∧ Hid (OkTo31 a k) ∧ Hid (OwnB wr w.heap.size 75 Lf) ∧ Hid (Below w.heap.size w wr)) (fun iv _ => a.length - (intOf iv).toNat)
  case atStart => exact ⟨0, _, by omega, rfl, Lib.hid ⟨by simp, fun i hi => ⟨fun h => (by rw [List.getElem?_replicate, if_pos hi] at h; cases h), fun ⟨j, y, h, _⟩ => (by omega)⟩⟩, Lib.hid (fun j k' x h1 h2 => by omega), HOW, HAL⟩
  case round =>
    clear HOW HAL
    obtain ⟨k, Lf, hk, rfl, hL, hok, ho, hb⟩ := hrel
    by_cases hlt : k < a.length
    · obtain ⟨b1, o1, x, rfl, hb1, hx, hx64, hcx⟩ := (H'.out _ hb.out).at_ hlt
      obtain ⟨hx0, hx1⟩ := HA.out x (List.mem_of_getElem? hx)
      obtain ⟨x, rfl⟩ := Int.eq_ofNat_of_zero_le hx0
      have hx6 : x < 6 := by omega
      have d1 : decide ((x : Int) < 0) = false := decide_eq_false (by omega)
      have d2 : decide ((V.length : Int) ≤ (x : Int)) = false := decide_eq_false (by omega)
      have d2' : decide (V.length ≤ x) = false := decide_eq_false (by omega)
      obtain ⟨z, hz⟩ : ∃ z, Lf[x]? = some z := ⟨Lf[x]'(by rw [hL.out.1]; exact hx6), by simp⟩
      have cz := ho.out.cell hz
      have fz := ho.out.frozen x
      have HX := Lib.hid hx
      have HZ := Lib.hid hz
      have hxi : (x : Int) < 6 := by omega
      clear hx hx64 hz hx0 hx1 hb1
      cases z
      case true =>
        have HQ : Hid (Q = false) := Lib.hid (by
          cases hq : Q
          · rfl
          · exact absurd (HD.out.1 hq) (left_bad ((hL.out.2 x hx6).1 HZ.out) HX.out))
        clear HD hok hL
        go_wp2
        go_ret
        exact ⟨ret_bool HQ.out.symm, hb.out⟩
      case false =>
        have HOK := Lib.hid (ok_next hok.out HX.out (fun hl => by
          have := (hL.out.2 x hx6).2 hl
          rw [HZ.out] at this; cases this))
        have e1 : IntKind.i64.wrap ((k : Int) + 1) = (k : Int) + 1 := IntWalk.i64_in _ (by omega)
        clear hok
        by_cases hk1 : k + 1 < a.length
        · obtain ⟨b2, o2, y, e2, hb2, hy, hy64, hcy⟩ := (H'.out _ hb.out).at_ hk1
          cases e2
          have d3 : decide ((k : Int) + 1 < (a.length : Int)) = true := decide_eq_true (by omega)
          have hcy2 := hcy
          rw [← Nat.add_assoc] at hcy2
          have hk1i : (k : Int) + 1 < (a.length : Int) := by omega
          by_cases hyx : y = (x : Int)
          · subst hyx
            have q : ((x : Int) != (x : Int)) = false := by simp
            have HLN : Hid (Lf.length = 6 ∧ ∀ i : Nat, i < 6 → (Lf[i]? = some true ↔ Left31 a (k + 1) (i : Int))) := Lib.hid ⟨hL.out.1, fun i hi => by
              rw [hL.out.2 i hi, left_same HX.out (fun y' hy' => by rw [hy] at hy'; cases hy'; rfl)]⟩
            clear hL hy hy64
            go_wp2
            go_roundw
            case rel => exact ⟨k + 1, Lf, by omega, by go_num, HLN, HOK, ho, hb⟩
            case measure => simp [intOf]; omega
          · have q : (y != (x : Int)) = true := by rw [bne_iff_ne]; exact hyx
            have HLN : Hid ((Lf.set x true).length = 6 ∧ ∀ i : Nat, i < 6 → ((Lf.set x true)[i]? = some true ↔ Left31 a (k + 1) (i : Int))) := Lib.hid ⟨by rw [List.length_set]; exact hL.out.1, fun i hi => by
              rw [left_next HX.out hy hyx, ← hL.out.2 i hi]
              by_cases hix : i = x
              · subst hix
                rw [List.getElem?_set_self (by rw [hL.out.1]; exact hi)]
                simp
              · rw [List.getElem?_set_ne (by omega)]
                constructor
                · exact .inl
                · rintro (h | h)
                  · exact h
                  · exact absurd h (by omega)⟩
            have HO := Lib.hid (ho.out.store x true)
            have HB := Lib.hid (hb.out.setCell (p := ⟨w.heap.size, x, none⟩) (Nat.le_refl _) (.bool true))
            clear hL hy hy64 hyx
            go_wp2
            go_roundw
            case rel => exact ⟨k + 1, Lf.set x true, by omega, by go_num, HLN, HOK, HO, HB⟩
            case measure => simp [intOf]; omega
        · have d3 : decide ((k : Int) + 1 < (a.length : Int)) = false := decide_eq_false (by omega)
          have HLN : Hid (Lf.length = 6 ∧ ∀ i : Nat, i < 6 → (Lf[i]? = some true ↔ Left31 a (k + 1) (i : Int))) := Lib.hid ⟨hL.out.1, fun i hi => by
            rw [hL.out.2 i hi, left_same HX.out (fun y' hy' => by have := (List.getElem?_eq_some_iff.1 hy').1; omega)]⟩
          clear hL
          go_wp2
          go_roundw
          case rel => exact ⟨k + 1, Lf, by omega, by go_num, HLN, HOK, ho, hb⟩
          case measure => simp [intOf]; omega
    · have HQ : Hid (Q = true) := Lib.hid (HD.out.2 fun j k' x h1 h2 h3 => hok.out j k' x h1 (by have := (List.getElem?_eq_some_iff.1 h3).1; omega) h2 h3)
      clear HD hok hL
      go_wp2
      go_ret
      exact ⟨ret_bool HQ.out.symm, hb.out⟩
set_option maxHeartbeats 1000000 in
theorem sIs {w : World} {B C m : Nat} {A A' : Option Addr} {V : List (List Int)} {a : List Int} {cap cap' : Nat} (v : VS V m) (hck : chk31 V = 0) (h : Rd2 w C A V) (hC : C ≤ w.heap.size) (h' : Rd w B A' a) (hB : B ≤ w.heap.size) (hm : a.length = m) (ha : ∀ x ∈ a, 0 ≤ x ∧ x < V.length) :
    Calls Try.prog 13 #[.slice A V.length cap, .slice A' a.length cap'] w fun e w' => e = .returned (.tuple #[.bool (divB a), .int .i64 0]) ∧ Below w.heap.size w w' := by
  have C1 := sCheck (cap := cap) h hC
  rw [hck] at C1
  have H := Lib.hid fun (u : World) (hu : Below w.heap.size w u) => sDivision (cap := cap) (cap' := cap') v (h.below hu hC) (Nat.le_trans hC hu.size) (h'.below hu hB) (Nat.le_trans hB hu.size) hm ha
  clear h h' hm ha v
  generalize divB a = Q at *
  go_enter Try.func13, Try.ntmps13
  go_wp2_with fail
  refine C1.mono ?_
  rintro e w1 ⟨rfl, hb1⟩
  have HC := Lib.hid (H.out _ hb1)
  have HB1 := Lib.hid hb1
  clear hb1 C1 H
  go_wp2_with fail
  refine HC.out.mono ?_
  rintro e w2 ⟨rfl, hb2⟩
  have HB2 := Lib.hid (HB1.out.trans (hb2.mono HB1.out.size))
  clear hb2
  go_wp2
  go_ret2
  exact ⟨rfl, HB2.out⟩
end Go.Proofs.Ytkoipecnmijfoaa
