import Derived.Test.YtjgobpejifhphaaS33c
/-! Walks of chapter 33: Rank and Price of both. -/
namespace Go.Proofs.Ytjgobpejifhphaa
open Go.RowKit Go.Deep
set_option linter.unusedVariables false
set_option maxRecDepth 100000

/-- the results (a slice that reads as P, an error c), in the world behind the call -/
def ListRes (w : World) (P : List Int) (c : Int) (e : Ending) (w' : World) : Prop :=
  ∃ A cap, e = .returned (.tuple #[.slice A P.length cap, .int .i64 c]) ∧ Rd w' w'.heap.size A P ∧ Below w.heap.size w w'
def rkL (C B : List Int) : List Int := if hlk C B = 0 then rkList C B else []
theorem rk_i64 {C B : List Int} (h : B.length ≤ 40) : ∀ x ∈ rkList C B, I64 x := by
  intro x hx
  obtain ⟨a, rfl, ha⟩ := rkList_mem.1 hx
  unfold I64; omega
theorem rk_rd {w : World} {g T : Nat} {C B : List Int} (h : OwnP w g T (rkList C B)) (hl : B.length ≤ 40) : Rd w w.heap.size (some ⟨g, 0, none⟩) (rkList C B) :=
  h.rd (rk_i64 hl) (by rw [rkList_length]; omega) h.lt


theorem priceL {w : World} {D : Nat} {A1 A2 : Option Addr} {C B : List Int} {cap1 cap2 : Nat} {m : Nat} (hR : Rd w D A1 (rkList C B)) (hB : Rd w D A2 B) (hm : m ≤ B.length) :
    Calls Try.prog 82 #[.slice A1 B.length cap1, .slice A2 B.length cap2, .int .i64 m] w fun e w' => e = .returned (.int .i64 (prOf C B m)) ∧ w = w' := by
  have l1 := hB.len
  by_cases h0 : m = 0
  · subst h0
    have hf := Lib.hid (prOf_zero (C := C) (B := B) (m := ((0 : Nat) : Int)) (.inl rfl))
    clear hR hB
    go_enter Try.func82, Try.ntmps82
    go_wp2
    go_ret
    exact ⟨ret_int (by rw [hf.out]), rfl⟩
  · have d0 : ((m : Int) == 0) = false := beq_eq_false_iff_ne.2 (by omega)
    have d0' : (m == 0) = false := beq_eq_false_iff_ne.2 h0
    by_cases h1 : m = B.length
    · have hf := Lib.hid (prOf_zero (C := C) (B := B) (m := (m : Int)) (.inr (by omega)))
      have d1 : ((m : Int) == (B.length : Int)) = true := beq_iff_eq.2 (by omega)
      have d1' : (m == B.length) = true := beq_iff_eq.2 h1
      clear hR hB h0 h1
      go_enter Try.func82, Try.ntmps82
      go_wp2
      go_ret
      exact ⟨ret_int hf.out.symm, rfl⟩
    · obtain ⟨i, hi, hil, hpl⟩ := rk_nat (C := C) (B := B) (k := m) (by omega)
      obtain ⟨x, hx⟩ : ∃ x, B[i]? = some x := ⟨B[i], by simp [hil]⟩
      have hf := Lib.hid (prOf_at h0 h1 hi hx)
      have d1 : ((m : Int) == (B.length : Int)) = false := beq_eq_false_iff_ne.2 (by omega)
      have d1' : (m == B.length) = false := beq_eq_false_iff_ne.2 h1
      have hml : m < B.length := by omega
      obtain ⟨b1, o1, rfl, _, hc1⟩ := hR.2.2 (by rw [rkList_length]; omega)
      obtain ⟨b2, o2, rfl, _, hc2⟩ := hB.2.2 (by omega)
      have c1 := hc1 m i hi
      have c2 := hc2 i x hx
      clear hR hB h0 h1 hc1 hc2 hi hx hpl
      go_enter Try.func82, Try.ntmps82
      go_wp2
      go_ret
      exact ⟨ret_int hf.out.symm, rfl⟩

def pcE (C B : List Int) (m : Int) : Int := if hlk C B ≠ 0 then hlk C B else if m < 0 ∨ (C.length : Int) < m then 2 else 0
def pcV (C B : List Int) (m : Int) : Int := if pcE C B m = 0 then prOf C B m else 0
theorem pcE_lk {C B : List Int} {m : Int} (h : hlk C B ≠ 0) : pcE C B m = hlk C B := by rw [pcE, if_pos h]
theorem pcE_arg {C B : List Int} {m : Int} (h : hlk C B = 0) (h2 : m < 0 ∨ (C.length : Int) < m) : pcE C B m = 2 := by rw [pcE, if_neg (by simp [h]), if_pos h2]
theorem pcE_ok {C B : List Int} {m : Int} (h : hlk C B = 0) (h2 : ¬ (m < 0 ∨ (C.length : Int) < m)) : pcE C B m = 0 := by rw [pcE, if_neg (by simp [h]), if_neg h2]
theorem pcE_zero {C B : List Int} {m : Int} (h : pcE C B m = 0) : hlk C B = 0 ∧ 0 ≤ m ∧ m ≤ C.length := by
  unfold pcE at h
  split at h
  · contradiction
  · rename_i h0
    split at h
    · exact absurd h (by decide)
    · exact ⟨by simpa using h0, by omega, by omega⟩

set_option maxHeartbeats 1000000 in
theorem hPrice {w : World} {B C : Nat} {A A' : Option Addr} {L O : List Int} {cap cap' : Nat} (h : Rd w B A L) (h' : Rd w C A' O) (hB : B ≤ w.heap.size) (hC : C ≤ w.heap.size) (m : Int) :
    Calls Try.prog 51 #[.slice A L.length cap, .slice A' O.length cap', .int .i64 m] w fun e w' => e = .returned (.tuple #[.int .i64 (pcV L O m), .int .i64 (pcE L O m)]) ∧ Below w.heap.size w w' := by
  have C1 := hLooked (cap := cap) (cap' := cap') h h'
  have l1 := h.len
  by_cases hl : hlk L O = 0
  · rw [hl] at C1
    by_cases hm : m < 0 ∨ (L.length : Int) < m
    · have he := pcE_arg hl hm
      rw [pcV, he, if_neg (by decide)]
      clear he hl h h'
      rcases hm with hm | hm
      all_goals
        go_enter Try.func51, Try.ntmps51
        go_wp2_with (go_at_call 81; refine C1.mono ?_; rintro e w' ⟨rfl, rfl⟩)
        go_ret2
        exact ⟨rfl, Below.refl _ _⟩
    · have hV := hlk_ok hl
      have he := pcE_ok hl hm
      rw [pcV, if_pos he, he]
      have g0 : 0 ≤ m := by omega
      have g1 : m ≤ L.length := by omega
      obtain ⟨k, rfl⟩ := Int.eq_ofNat_of_zero_le g0
      have C2 := rank (cap1 := cap) (cap2 := cap') (h.more hB) (h'.more hC) (Nat.le_refl _) hV.len (by have := hV.len; have := hV.v.one; omega) (by have := hV.len; have := hV.v.twelve; omega)
      have hn : O.length ≤ 40 := by have := hV.len; have := hV.v.twelve; omega
      have HO := Lib.hid (h'.more hC)
      have HL := Lib.hid hV.len
      have HN := Lib.hid hn
      clear hl h h' hB hC hV he hm g0 hn
      go_enter Try.func51, Try.ntmps51
      go_wp2_with (first | (go_at_call 81; refine C1.mono ?_; rintro e w' ⟨rfl, rfl⟩) | (go_at_call 62; refine C2.mono ?_; rintro e w1 ⟨g, c, rfl, hg, hP, hb⟩; rw [rkList_length]))
      have hr1 := (rk_rd hP HN.out)
      have ho1 := (HO.out.below hb (Nat.le_refl _)).more hb.size
      have C3 := priceL (cap1 := c) (cap2 := cap') (m := k) hr1 ho1 (by have := HL.out; omega)
      have HB := Lib.hid hb
      clear C1 C2 hr1 ho1 hP hb
      go_wp2_with (go_at_call 82; refine C3.mono ?_; rintro e w2 ⟨rfl, rfl⟩)
      go_ret2
      exact ⟨rfl, HB.out⟩
  · have he := pcE_lk (m := m) hl
    rw [pcV, he, if_neg hl]
    have hb : (hlk L O != 0) = true := by simpa using hl
    clear hl he h h'
    generalize hlk L O = c at *
    go_enter Try.func51, Try.ntmps51
    go_wp2_with (go_at_call 81; refine C1.mono ?_; rintro e w' ⟨rfl, rfl⟩)
    go_ret2
    exact ⟨rfl, Below.refl _ _⟩
end Go.Proofs.Ytjgobpejifhphaa
