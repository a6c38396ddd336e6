import Derived.Test.YtdkcpnmaglkmnaaBase2
/-! slices.Clone at []int. -/
namespace Go.Proofs.Ytdkcpnmaglkmnaa
open Go.RowKit Go.Deep
set_option linter.unusedVariables false

theorem infoInt' : (Try.prog.info? 3).map (fun i => (i.zero, i.size, i.bytes)) = some (some (.int .i64 0), 1, 8) := by kernel_rfl
/-- a new row that reads as L -/
def NewRow (w : World) (T : Nat) (L : List Int) (e : Ending) (w' : World) : Prop :=
  ∃ g c, e = .returned (.slice (some ⟨g, 0, none⟩) L.length c) ∧ w.heap.size ≤ g ∧ OwnP w' g T L ∧ Below w.heap.size w w'

set_option maxHeartbeats 400000 in
theorem clone {w : World} {B : Nat} {A : Option Addr} {L : List Int} {cap : Nat} (h : Rd w B A L) (hB : B ≤ w.heap.size) (hn : 0 < L.length) :
    Calls Try.prog 54 #[.slice A L.length cap] w (NewRow w 3 L) := by
  have hlen := h.len
  obtain ⟨i0, hi, hz0, hz1, hz2⟩ := info_parts infoInt'
  have hown0 := own_empty w 3
  have hal := Below.alloc (B := w.heap.size) (Below.refl _ w) (Nat.le_refl _) (.cells #[] 3)
  have hsz : (w.alloc (.cells #[] 3)).heap.size = w.heap.size + 1 := by simp
  obtain ⟨bb, off, rfl, hbb, hcells⟩ := (h.below hal hB).2.2 hn
  have HI := Lib.hid hi
  have HO := Lib.hid hown0
  have HCE := Lib.hid (cells_ints hcells)
  have HAL := Lib.hid hal
  have HSZ := Lib.hid hsz
  have hq := fun u => Lib.run_eql_slice_nil (P := Try.prog) u 22 3 (some ⟨bb, off, none⟩) L.length cap 0 0 Try.underlying22
  clear hcells hal hsz hi hown0 h
  go_enter Try.func54, Try.ntmps54
  generalize hw4 : w.alloc (.cells #[] 3) = w4 at *
  have HW4 := Lib.hid hw4
  clear hw4
  have hx4 : w.alloc (.cells #[] 3) = w4 := HW4.out
  go_wp2_with (at_builtin; refine wpList_append_own _ rfl _ _ 22 rfl w.heap.size 3 i0 (.int .i64 0) 1 8 Try.underlying22 HI.out hz0 hz1 hz2 rfl (by decide) _ 0 [] rfl HO.out ⟨bb, off, none⟩ L.length cap (L.map (Value.int .i64)) rfl (by simp) HCE.out (ints_oneCell _ _) (by unfold maxLen; omega) (by omega) (by rw [HSZ.out]; omega) ?_)
  intro v' w5 hown5 hgrow _
  have hb5 : Below w.heap.size w w5 := HAL.out.grown hgrow (by rw [HSZ.out]; omega) (by intro k hk; simp [Value.ownBlock] at hk; omega)
  obtain ⟨gg, c5, hv5, hgg, hP⟩ := ownP_of_row hown5 (by omega)
  rw [hv5]
  have HB5 := Lib.hid hb5
  have HP := Lib.hid hP
  clear hown5 hgrow hb5 hP hx4 hv5 HW4 HAL HCE HSZ
  go_wp2
  go_ret
  exact ⟨gg, c5, rfl, hgg, HP.out, HB5.out⟩
end Go.Proofs.Ytdkcpnmaglkmnaa
