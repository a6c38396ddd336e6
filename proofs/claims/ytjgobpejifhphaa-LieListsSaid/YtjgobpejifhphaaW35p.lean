import Derived.Test.YtjgobpejifhphaaW35o
import Derived.Test.YtjgobpejifhphaaW33h
/-! Walks of chapter 35: True.
-/
namespace Go.Proofs.Ytjgobpejifhphaa
open Go.RowKit Go.Deep
set_option linter.unusedVariables false
set_option maxRecDepth 100000

def trCmp (V : List Int) (a b : Int) : Int := V.getD b.toNat 0 - V.getD a.toNat 0
/-- the true ranking -/
def truL (V : List Int) : List Int := rkList [] V
theorem tr_lt (V : List Int) : ltOf (trCmp V) = ltOf (rkCmp [] V) := by
  funext a b
  rw [Bool.eq_iff_iff, ltOf_iff]
  unfold ltOf trCmp
  simp only [decide_eq_true_eq]
  simp only [List.getD_nil]
  omega
theorem truL_eq (V : List Int) : isort (ltOf (trCmp V)) (iota V.length) = truL V := by rw [tr_lt]; rfl
theorem truL_length (V : List Int) : (truL V).length = V.length := rkList_length _ _
def trL (V : List Int) : List Int := if val35 V = 0 then truL V else []
theorem tr_rd {w : World} {g T : Nat} {V : List Int} (h : OwnP w g T (truL V)) (hl : V.length ≤ 40) : Rd w w.heap.size (some ⟨g, 0, none⟩) (truL V) := rk_rd h hl
set_option maxHeartbeats 400000 in
theorem lTrue1 {w : World} {D b1 : Nat} {A : Option Addr} {V : List Int} {cap a b : Nat} (hbox : w.cell? ⟨b1, 0, none⟩ = some (.slice A V.length cap)) (h : Rd w D A V) (ha : a < V.length) (hb : b < V.length) (hV : ∀ x ∈ V, 0 ≤ x ∧ x ≤ 1000) :
    Calls Try.prog 57 #[.int .i64 (a : Int), .int .i64 (b : Int), .pointer (some ⟨b1, 0, none⟩)] w fun e w' => e = .returned (.int .i64 (trCmp V a b)) ∧ Below w.heap.size w w' := by
  obtain ⟨x, hx⟩ : ∃ x, V[a]? = some x := ⟨V[a], by simp [ha]⟩
  obtain ⟨y, hy⟩ : ∃ y, V[b]? = some y := ⟨V[b], by simp [hb]⟩
  have hxb := hV x (List.mem_of_getElem? hx)
  have hyb := hV y (List.mem_of_getElem? hy)
  have hf := Lib.hid (show trCmp V a b = y - x by rw [trCmp, Int.toNat_natCast, Int.toNat_natCast, List.getD_eq_getElem?_getD, hy, List.getD_eq_getElem?_getD, hx]; rfl)
  obtain ⟨b2, o2, rfl, _, hc⟩ := h.2.2 (by omega)
  have cx := hc a x hx
  have cy := hc b y hy
  have hli := h.len
  have hai : (a : Int) < (V.length : Int) := by omega
  have hbi : (b : Int) < (V.length : Int) := by omega
  clear hc hx hy h hV
  go_enter Try.func57, Try.ntmps57
  go_wp2
  go_quiet (fail)
  have HB := Lib.hid (below_drewN (Below.refl w.heap.size w) nq)
  go_wp2
  go_ret
  exact ⟨ret_int hf.out.symm, HB.out⟩
theorem ins0 {w : World} (A : Option Addr) (cap F : Nat) (caps : Array Value) :
    Calls Try.prog 104 #[.slice A 0 cap, .int .i64 0, .int .i64 0, .func (.func F) #[] caps] w fun e w' => e = .returned (.tuple #[]) ∧ w = w' := by
  go_enter Try.func104, Try.ntmps104
  go_wp2
  refine wp_loop_rounds 1 ?_
  rw [rounds_succ]
  go_wp2
  go_end0
  exact ⟨rfl, rfl⟩
theorem stab0 {w : World} (A : Option Addr) (cap F : Nat) (caps : Array Value) :
    Calls Try.prog 87 #[.slice A 0 cap, .int .i64 0, .func (.func F) #[] caps] w fun e w' => e = .returned (.tuple #[]) ∧ w = w' := by
  have C := ins0 (w := w) A cap F caps
  go_enter Try.func87, Try.ntmps87
  go_wp2
  refine wp_loop_rounds 1 ?_
  rw [rounds_succ]
  go_wp2_with (go_at_call 104; refine C.mono ?_; rintro e w1 ⟨rfl, rfl⟩)
  refine wp_loop_rounds 1 ?_
  rw [rounds_succ]
  go_wp2
  go_end0
  exact ⟨rfl, rfl⟩
theorem stable0 {w : World} (A : Option Addr) (cap F : Nat) (caps : Array Value) :
    Calls Try.prog 56 #[.slice A 0 cap, .func (.func F) #[] caps] w fun e w' => e = .returned (.tuple #[]) ∧ w = w' := by
  have C := stab0 (w := w) A cap F caps
  go_enter Try.func56, Try.ntmps56
  go_wp2_with (go_at_call 87; refine C.mono ?_; rintro e w1 ⟨rfl, rfl⟩)
  go_end0
  exact ⟨rfl, rfl⟩
set_option maxHeartbeats 2000000 in
theorem lTrueE {w : World} {B : Nat} {A : Option Addr} {V : List Int} {cap : Nat} (h : Rd w B A V) (hB : B ≤ w.heap.size) :
    Calls Try.prog 27 #[.slice A V.length cap] w (RowE w (trL V) (val35 V)) := by
  have hal := (Below.refl w.heap.size w).alloc (Nat.le_refl _) (.cells #[.slice A V.length cap] 22)
  have hbx : (w.alloc (.cells #[.slice A V.length cap] 22)).cell? ⟨w.heap.size, 0, none⟩ = some (.slice A V.length cap) := by simp
  have hsz : (w.alloc (.cells #[.slice A V.length cap] 22)).heap.size = w.heap.size + 1 := by simp
  have C1 := lCheckV (cap := cap) (h.below hal hB)
  by_cases hk : val35 V = 0
  · obtain ⟨h6, hbd⟩ := val35_zero hk
    have hmk := fun u => run_make_row' (P := Try.prog) 22 3 (.int .i64 0) 8 Try.underlying22 infoInt' rfl .i64 .i64 V.length (by omega) (by omega) u
    have HL : Hid (trL V = truL V) := Lib.hid (by rw [trL, if_pos hk])
    rw [hk] at C1 ⊢
    have H := Lib.hid (h.below hal hB)
    have HBD := Lib.hid hbd
    have HAL := Lib.hid hal
    have HSZ := Lib.hid hsz
    clear hk h hbd hal hsz
    go_enter Try.func27, Try.ntmps27
    generalize hw1 : w.alloc (.cells #[.slice A V.length cap] 22) = w1 at *
    go_wp2_with (go_at_call 55; refine C1.mono ?_; rintro e w' ⟨rfl, rfl⟩)
    clear hmk C1 hw1
    have hown := Own.made w1 3 V.length
    have hb2 := Below.alloc (B := w1.heap.size) (Below.refl _ w1) (Nat.le_refl _) (.cells (madeCells #[Value.int .i64 0] V.length) 3)
    have HOWN := Lib.hid hown
    have HB2 := Lib.hid hb2
    have HBX := Lib.hid hbx
    clear hown hb2 hbx
    generalize w1.alloc (.cells (madeCells #[Value.int .i64 0] V.length) 3) = w2 at *
    go_loopw [17] (fun i wr => ∃ (k : Nat) (L : List Int), k ≤ V.length ∧ i = .int .i64 k ∧ Hid (L.length = V.length) ∧ Hid (∀ j : Nat, j < k → L[j]? = some (j : Int)) ∧ Hid (Own wr w1.heap.size 3 L) ∧ Hid (Below w1.heap.size w1 wr)) (fun i _ => V.length - (intOf i).toNat)
    case atStart => exact ⟨0, _, by omega, rfl, Lib.hid (by simp), Lib.hid (by omega), HOWN, HB2⟩
    case round =>
      obtain ⟨k, L, hk, rfl, hLl, hLv, hO, hBw⟩ := hrel
      by_cases hlt : k < V.length
      · obtain ⟨y, hy⟩ : ∃ y, L[k]? = some y := ⟨L[k]'(by rw [hLl.out]; exact hlt), by simp⟩
        have c1 := hO.out.cell hy
        have f1 := hO.out.frozen k
        have hO' := Lib.hid (hO.out.store k (k : Int))
        have hB' := Lib.hid (hBw.out.setCell (p := ⟨w1.heap.size, k, none⟩) (Nat.le_refl _) (.int .i64 (k : Int)))
        have hLv' : Hid (∀ j : Nat, j < k + 1 → (L.set k (k : Int))[j]? = some (j : Int)) := Lib.hid (by
          intro j hj
          by_cases e : j = k
          · subst e; rw [List.getElem?_set_self (by rw [hLl.out]; exact hlt)]
          · rw [List.getElem?_set_ne (by omega)]; exact hLv.out j (by omega))
        have hLl' : Hid ((L.set k (k : Int)).length = V.length) := Lib.hid (by simp [hLl.out])
        clear hy
        go_wp2
        go_roundw
        case rel => exact ⟨k + 1, _, by omega, by go_num, hLl', hLv', hO', hB'⟩
        case measure => simp [intOf]; omega
      · have hL : L = iota V.length := iota_of hLl.out (fun j hj => hLv.out j (by omega))
        have hO' : Own wr w1.heap.size 3 (iota V.length) := hL ▸ hO.out
        have HBW := Lib.hid (HAL.out.trans (hBw.out.mono HAL.out.size))
        by_cases h0 : V.length = 0
        · have HV0 : Hid (truL V = []) := Lib.hid (List.eq_nil_of_length_eq_zero (by rw [truL_length]; exact h0))
          have CS := stable0 (w := wr) (some ⟨w1.heap.size, 0, none⟩) 0 57 #[.pointer (some ⟨w.heap.size, 0, none⟩)]
          have HCS := Lib.hid CS
          clear CS hO' hL
          generalize hn0 : V.length = n0 at *
          subst h0
          go_wp2_with (go_at_call 56; refine HCS.out.mono ?_; rintro e w5 ⟨rfl, rfl⟩)
          go_ret2
          rw [HL.out, HV0.out]
          exact ⟨_, 0, rfl, Rd.nil _ _ _, HBW.out⟩
        · have hcm : Cmps wr w1.heap.size 57 #[.pointer (some ⟨w.heap.size, 0, none⟩)] (trCmp V) (fun x => ∃ a : Nat, x = a ∧ a < V.length) := by
            intro u hu a b ⟨a', ha, ha'⟩ ⟨b', hb, hb'⟩
            subst ha
            subst hb
            have hu2 := hBw.out.trans hu
            have hsz := HSZ.out
            exact lTrue1 (D := w1.heap.size) (cap := cap)
              ((hu2.cell (p := ⟨w.heap.size, 0, none⟩) (by show w.heap.size < _; omega)).trans HBX.out)
              ((H.out.more (by omega)).below hu2 (Nat.le_refl _)) ha' hb' HBD.out
          have CS := sortStable (cap := V.length) (D0 := iota V.length) (fun args u => by kernel_rfl) hcm (fun x hx => iota_mem.1 hx) hO' (by rw [iota_length]; omega) (by rw [iota_length]; omega)
          rw [iota_length, truL_eq] at CS
          have HCS := Lib.hid CS
          clear CS hcm hO' hL
          go_wp2_with (go_at_call 56; refine HCS.out.mono ?_; rintro e w5 ⟨rfl, hO5, hB5⟩)
          go_ret2
          rw [HL.out]
          exact ⟨_, V.length, by rw [truL_length]; rfl, tr_rd hO5.pre (by omega), HBW.out.trans (hB5.mono HAL.out.size)⟩
  · have HL : Hid (trL V = []) := Lib.hid (by rw [trL, if_neg hk])
    have hne : (val35 V != 0) = true := by rw [bne_iff_ne]; exact hk
    have HAL := Lib.hid hal
    rw [HL.out]
    clear hk h hal hsz
    generalize val35 V = c at *
    go_enter Try.func27, Try.ntmps27
    generalize hw1 : w.alloc (.cells #[.slice A V.length cap] 22) = w1 at *
    go_wp2_with (go_at_call 55; refine C1.mono ?_; rintro e w' ⟨rfl, rfl⟩)
    go_ret2
    exact RowE.none_ _ _ _ HAL.out
end Go.Proofs.Ytjgobpejifhphaa
