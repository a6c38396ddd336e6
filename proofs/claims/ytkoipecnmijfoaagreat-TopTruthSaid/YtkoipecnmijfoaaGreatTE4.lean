import Derived.Test.YtkoipecnmijfoaaGreatTE3
import Derived.Test.YtkoipecnmijfoaaGreatW33p
import Derived.Deep.RegionLaw
/-! Walks of the estate of two heirs and one item: later, Pay. -/
namespace Go.Proofs.YtkoipecnmijfoaaGreat
open Go.RowKit Go.Deep
set_option linter.unusedVariables false
set_option maxRecDepth 100000

/-- rounding down -/
theorem round_facts {E U : Int} (hU : 0 < U) (hU2 : U ≤ 1000000) (hE : -4000000000000 ≤ E ∧ E ≤ 4000000000000) :
    -U ≤ E.tmod U ∧ E.tmod U < U ∧ (E.tmod U + U).tmod U = E % U ∧ 0 ≤ E % U ∧ E % U < U ∧ (E - E % U).tdiv U = E / U ∧ -4000000000001 ≤ E / U ∧ E / U ≤ 4000000000001 := by
  have h0 := Int.emod_nonneg E (show U ≠ 0 by omega)
  have h2 := Int.emod_lt_of_pos E hU
  have key : E.tmod U = E % U ∨ E.tmod U = E % U - U := by
    rw [Int.tmod_eq_emod]
    split
    · left; simp
    · right; rw [Int.natAbs_of_nonneg (by omega)]
  have hb : -U ≤ E.tmod U ∧ E.tmod U < U := by omega
  have hm : (E.tmod U + U).tmod U = E % U := by
    rw [Int.tmod_eq_emod_of_nonneg (by omega), Int.add_emod_right]
    rcases key with h | h
    · rw [h, Int.emod_emod_of_dvd _ (Int.dvd_refl U)]
    · rw [h, Int.sub_emod_right, Int.emod_emod_of_dvd _ (Int.dvd_refl U)]
  have hd : E - E % U = U * (E / U) := by have := Int.mul_ediv_add_emod E U; omega
  have hq : (E - E % U).tdiv U = E / U := by rw [hd]; exact Int.mul_tdiv_cancel_left _ (by omega)
  refine ⟨hb.1, hb.2, hm, h0, h2, hq, ?_, ?_⟩
  · have := Int.le_ediv_of_mul_le (a := -4000000000001) (b := E) hU (by omega)
    exact this
  · have : E / U < 4000000000002 := Int.ediv_lt_of_lt_mul hU (by omega)
    omega
theorem sum_facts {E U : Int} (hU : 0 < U) : (E / U + (-E) / U = 0 ∨ E / U + (-E) / U = -1) ∧ (E % U = 0 → E / U + (-E) / U = 0) := by
  have h1 := Int.mul_ediv_add_emod E U
  have h2 := Int.mul_ediv_add_emod (-E) U
  have r1 := Int.emod_nonneg E (show U ≠ 0 by omega)
  have r2 := Int.emod_lt_of_pos E hU
  have r3 := Int.emod_nonneg (-E) (show U ≠ 0 by omega)
  have r4 := Int.emod_lt_of_pos (-E) hU
  have h3 : U * (E / U + (-E) / U) = -(E % U + (-E) % U) := by rw [Int.mul_add]; omega
  generalize hd : E / U + (-E) / U = d at *
  have hd1 : d ≤ 0 := by
    refine Decidable.byContradiction fun hc => ?_
    have := Int.mul_le_mul_of_nonneg_left (show 1 ≤ d by omega) (show 0 ≤ U by omega)
    omega
  have hd2 : -1 ≤ d := by
    refine Decidable.byContradiction fun hc => ?_
    have := Int.mul_le_mul_of_nonneg_left (show d ≤ -2 by omega) (show 0 ≤ U by omega)
    omega
  refine ⟨by omega, fun h0 => ?_⟩
  have : (-E) % U = 0 := by
    rw [Int.neg_emod, if_pos (Int.dvd_of_emod_eq_zero h0)]
  rw [h0, this] at h3
  rcases Int.mul_eq_zero.1 (show U * d = 0 by omega) with h | h
  · omega
  · exact h
set_option maxHeartbeats 1000000 in
theorem eLater {u : World} {B ga gb : Nat} {r0 r1 : Int} {ca cb a b : Nat} (h : Rd u B (some ⟨gb, 0, none⟩) [r0, r1]) (hB : B ≤ u.heap.size) (ha : a < 2) (hb : b < 2) :
    Calls Tryz.prog 40 #[.agg #[.slice (some ⟨ga, 0, none⟩) 2 ca, .slice (some ⟨gb, 0, none⟩) 2 cb], .int .i64 (a : Int), .int .i64 (b : Int)] u fun e u' => e = .returned (.int .i64 (cmpI ([r0, r1].getD b 0) ([r0, r1].getD a 0))) ∧ Below u.heap.size u u' := by
  have hal := (Below.refl u.heap.size u).alloc (Nat.le_refl _) (.cells #[.slice (some ⟨ga, 0, none⟩) 2 ca, .slice (some ⟨gb, 0, none⟩) 2 cb] 65)
  have hK : Blk (u.alloc (.cells #[.slice (some ⟨ga, 0, none⟩) 2 ca, .slice (some ⟨gb, 0, none⟩) 2 cb] 65)) u.heap.size 65 [.slice (some ⟨ga, 0, none⟩) 2 ca, .slice (some ⟨gb, 0, none⟩) 2 cb] := Blk.new _ _ _
  have hc1 := hK.cell (i := 1) rfl
  obtain ⟨_, _, x, e1, _, hx, _, k1⟩ := (h.below hal hB).at_ (k := a) ha
  cases e1
  obtain ⟨_, _, y, e1, _, hy, _, k2⟩ := (h.below hal hB).at_ (k := b) hb
  cases e1
  rw [Nat.zero_add] at k1 k2
  have ha2 : (a : Int) < 2 := by omega
  have hb2 : (b : Int) < 2 := by omega
  have HG : Hid (cmpI ([r0, r1].getD b 0) ([r0, r1].getD a 0) = cmpI y x) := Lib.hid (by rw [List.getD_eq_getElem?_getD, List.getD_eq_getElem?_getD, hx, hy]; rfl)
  rw [HG.out]
  have CC := Lib.hid fun v : World => compare (w := v) y x
  have HB := Lib.hid hal
  clear h hK hx hy HG hal
  go_enter Tryz.func40, Tryz.ntmps40
  go_wp2
  go_quiet ((go_at_call 66; exact Calls.quiet_of_same ((CC.out _).mono fun _ _ h => ⟨h.1, h.2.symm⟩)))
  go_wp2
  go_ret
  exact ⟨rfl, below_drewN HB.out _⟩
end Go.Proofs.YtkoipecnmijfoaaGreat
