import Derived.Test.YtkoipecnmijfoaaGreatTK1
import Derived.Test.YtkoipecnmijfoaaGreatS35e
/-! Walks: slices.Index, slices.Contains; the closure of keepsake.Turns; turns as an order. (Printed by mkTK2.py.) -/
namespace Go.Proofs.YtkoipecnmijfoaaGreat
open Go.RowKit Go.Deep
set_option linter.unusedVariables false
set_option maxRecDepth 100000

def IdxRes (w : World) (x : Int) (L : List Int) (e : Ending) (w' : World) : Prop := ∃ r : Int, e = .returned (.int .i64 r) ∧ decide (0 ≤ r) = decide (x ∈ L) ∧ w = w'
set_option maxHeartbeats 1000000 in
theorem idxW {w : World} {B : Nat} {A : Option Addr} {L : List Int} {cap : Nat} (h : Rd w B A L) (x : Int) :
    Calls Tryz.prog 51 #[.slice A L.length cap, .int .i64 x] w (IdxRes w x L) := by
  have hlen := h.len
  have H := Lib.hid h
  clear h
  go_enter Tryz.func51, Tryz.ntmps51
  go_wp2
  go_loop [8] (fun i => ∃ k : Nat, k ≤ L.length ∧ i = .int .i64 k ∧ Hid (decide (x ∈ L.drop k) = decide (x ∈ L))) (fun i => L.length - (intOf i).toNat)
  case atStart => exact ⟨0, by omega, rfl, Lib.hid rfl⟩
  case round =>
    obtain ⟨k, hk, rfl, hr⟩ := hrel
    by_cases hlt : k < L.length
    · obtain ⟨b, off, y, rfl, hb, hy, hi, hc⟩ := H.out.at_ hlt
      have hd := drop_of hy
      have hr' := hr.out
      rw [hd] at hr'
      have HY := Lib.hid hy
      clear hy hd hi hr
      by_cases e : x = y
      · subst e
        have hin := Lib.hid (show decide (x ∈ L) = true by rw [← hr']; simp)
        clear hr'
        go_wp2
        go_ret
        exact ⟨k, rfl, by rw [hin.out]; simp, rfl⟩
      · have hne : (x == y) = false := beq_eq_false_iff_ne.2 e
        have hnx := Lib.hid (show decide (x ∈ L.drop (k + 1)) = decide (x ∈ L) by rw [← hr']; simp [e])
        clear hr' e
        go_wp2
        go_round
        case rel => exact ⟨k + 1, by omega, by go_num, hnx⟩
        case measure => simp [intOf]; omega
    · have hr' := hr.out
      rw [drop_end (by omega)] at hr'
      have hno := Lib.hid (show decide (x ∈ L) = false by rw [← hr']; simp)
      clear hr' hr
      go_wp2
      go_ret
      exact ⟨-1, rfl, by rw [hno.out]; decide, rfl⟩
theorem contW {w : World} {B : Nat} {A : Option Addr} {L : List Int} {cap : Nat} (h : Rd w B A L) (x : Int) :
    Calls Tryz.prog 23 #[.slice A L.length cap, .int .i64 x] w fun e w' => e = .returned (.bool (decide (x ∈ L))) ∧ w = w' := by
  have C := idxW (cap := cap) h x
  clear h
  go_enter Tryz.func23, Tryz.ntmps23
  go_wp2_with (go_at_call 51; refine C.mono ?_; rintro e w1 ⟨r, rfl, hr, rfl⟩)
  go_ret
  exact ⟨rfl, rfl⟩

theorem kTurnG {w : World} {b g c : Nat} {T : Nat} {out : List Int} {x : Int} (hb : w.cell? ⟨b, 0, none⟩ = some (.slice (some ⟨g, 0, none⟩) out.length c)) (ho : OwnP w g T out) (hx : ∃ a : Nat, x = a ∧ a < out.length) :
    Calls Tryz.prog 25 #[.int .i64 x, .pointer (some ⟨b, 0, none⟩)] w fun e w' => e = .returned (.bool (freeG out x)) ∧ w = w' := by
  obtain ⟨a, rfl, ha⟩ := hx
  obtain ⟨y, hy⟩ : ∃ y, out[a]? = some y := ⟨out[a], by simp [ha]⟩
  have hc := ho.cell hy
  have hf : freeG out (a : Int) = decide (y < 0) := by rw [freeG, Int.toNat_natCast, List.getD_eq_getElem?_getD, hy]; rfl
  have HF := Lib.hid hf
  clear hf hy ho
  go_enter Tryz.func25, Tryz.ntmps25
  go_wp2
  go_ret
  exact ⟨ret_bool HF.out.symm, rfl⟩
/-- an order that comes again and again -/
def turnsOf (P : List Int) (m : Nat) : List Int := (List.range m).map fun t => P.getD (t % P.length) 0
theorem turnsOf_length (P : List Int) (m : Nat) : (turnsOf P m).length = m := by simp [turnsOf]
theorem turnsOf_at {P : List Int} {m t : Nat} (h : t < m) : (turnsOf P m)[t]? = some (P.getD (t % P.length) 0) := by simp [turnsOf, h]
theorem turns_or {P : List Int} {R : List (List Int)} {m : Nat} (hm : m ≤ 6) (h0 : 0 < R.length) (h6 : R.length ≤ 6) (hP : (iota R.length).Perm P) (hR : ∀ l ∈ R, (iota m).Perm l) : OR (turnsOf P m) R := by
  have hl : P.length = R.length := by rw [← hP.length_eq, iota_length]
  refine ⟨h0, h6, by rw [turnsOf_length]; exact hm, fun l hl => by rw [turnsOf_length]; exact hR l hl, fun x hx => ?_⟩
  rw [turnsOf, List.mem_map] at hx
  obtain ⟨t, ht, rfl⟩ := hx
  have hlt : t % P.length < P.length := Nat.mod_lt _ (by omega)
  rw [List.getD_eq_getElem?_getD, List.getElem?_eq_getElem hlt, Option.getD_some]
  obtain ⟨a, ha, hal⟩ := iota_mem.1 (hP.mem_iff.2 (List.getElem_mem hlt))
  omega
/-- one is left while turns are left, and none when none is left -/
theorem pick_left {O : List Int} {R : List (List Int)} (h : OR O R) {k : Nat} (hk : k ≤ O.length) : decide ((-1 : Int) ∈ pickK O R k) = decide (k < O.length) := by
  by_cases hlt : k < O.length
  · rw [decide_eq_true hlt]
    obtain ⟨a, g, L, _, _, _, _, _, _, _, h8⟩ := turn_at h hlt
    exact decide_eq_true (List.mem_of_getElem? h8)
  · obtain rfl : k = O.length := by omega
    rw [decide_eq_false hlt]
    refine decide_eq_false fun hm => ?_
    have hneg : ∀ k, k ≤ O.length → negs (pickK O R k) + k = O.length := by
      intro k
      induction k with
      | zero =>
        intro _
        rw [pickK, negs, List.countP_eq_length.2, List.length_replicate]
        · rfl
        · intro b hb
          rw [List.mem_replicate] at hb
          rw [hb.2]; rfl
      | succ k ih =>
        intro hk
        have i1 := ih (by omega)
        obtain ⟨b, g, L, h1, h2, h3, h4, h5, h6, h7, h8⟩ := turn_at h (k := k) (by omega)
        have hlt' : g < (pickK O R k).length := by rw [pickK_length]; exact h6
        have he : (pickK O R k)[g] = -1 := by rw [List.getElem?_eq_getElem hlt'] at h8; simpa using h8
        have hd : pickK O R k = (pickK O R k).take g ++ (-1) :: (pickK O R k).drop (g + 1) := by
          rw [← he, ← List.drop_eq_getElem_cons hlt', List.take_append_drop]
        have hs : (pickK O R k).set g (b : Int) = (pickK O R k).take g ++ (b : Int) :: (pickK O R k).drop (g + 1) := by
          rw [List.set_eq_take_append_cons_drop, if_pos hlt']
        have hc : negs ((pickK O R k).set g b) + 1 = negs (pickK O R k) := by
          rw [hs]
          conv => rhs; rw [hd]
          simp only [negs, List.countP_append, List.countP_cons]
          rw [if_neg (by simp), if_pos (by decide)]
          omega
        rw [h7]
        omega
    have h0 := hneg O.length (Nat.le_refl _)
    have h1 : negs (pickK O R O.length) = 0 := by omega
    rw [negs, List.countP_eq_zero] at h1
    exact h1 _ hm rfl
end Go.Proofs.YtkoipecnmijfoaaGreat
