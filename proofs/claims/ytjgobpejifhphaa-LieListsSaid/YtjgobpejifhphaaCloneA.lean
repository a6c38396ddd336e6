import Derived.Test.YtjgobpejifhphaaS33l
import Derived.Test.YtjgobpejifhphaaClone
/-! slices.Clone of any list of integers; of a list of lists. -/
namespace Go.Proofs.Ytjgobpejifhphaa
open Go.RowKit Go.Deep
set_option linter.unusedVariables false
set_option maxRecDepth 100000

/-- a copy: a new row, or an empty slice -/
def CopyRes (w : World) (T : Nat) (L : List Int) (e : Ending) (w' : World) : Prop :=
  ∃ A c, e = .returned (.slice A L.length c) ∧ (0 < L.length → ∃ g, A = some ⟨g, 0, none⟩ ∧ w.heap.size ≤ g ∧ OwnP w' g T L) ∧ Below w.heap.size w w'
set_option maxHeartbeats 400000 in
theorem cloneA {w : World} {B : Nat} {A : Option Addr} {L : List Int} {cap : Nat} (h : Rd w B A L) (hB : B ≤ w.heap.size) :
    Calls Try.prog 47 #[.slice A L.length cap] w (CopyRes w 3 L) := by
  by_cases hn : 0 < L.length
  · refine (clone h hB hn).mono ?_
    rintro e w' ⟨g, c, rfl, hg, hP, hb⟩
    exact ⟨_, c, rfl, fun _ => ⟨g, rfl, hg, hP⟩, hb⟩
  · have hL : L = [] := List.eq_nil_of_length_eq_zero (by omega)
    subst hL
    clear h hn
    show Calls Try.prog 47 #[.slice A 0 cap] w (CopyRes w 3 [])
    have hq := fun u a => Lib.run_eql_slice_nil (P := Try.prog) u 22 3 a 0 cap 0 0 Try.underlying22
    obtain ⟨i0, hi, hz0, hz1, hz2⟩ := info_parts infoInt'
    cases A with
    | none =>
      go_enter Try.func47, Try.ntmps47
      go_wp2
      go_ret
      exact ⟨none, 0, rfl, fun h => absurd h (by simp), Below.refl _ _⟩
    | some p =>
      have HO := Lib.hid (own_empty w 3)
      have HAL := Lib.hid (Below.alloc (B := w.heap.size) (Below.refl _ w) (Nat.le_refl _) (.cells #[] 3))
      have HSZ : Hid ((w.alloc (.cells #[] 3)).heap.size = w.heap.size + 1) := Lib.hid (by simp)
      have HI := Lib.hid hi
      clear hi
      go_enter Try.func47, Try.ntmps47
      generalize hw4 : w.alloc (.cells #[] 3) = w4 at *
      go_wp2_with (at_builtin; refine wpList_append_opt rfl _ _ 22 rfl w.heap.size 3 i0 (.int .i64 0) 1 8 Try.underlying22 HI.out hz0 hz1 hz2 rfl (by decide) _ 0 [] rfl HO.out (some p) 0 cap [] rfl rfl (fun h => rfl) (fun _ _ j u hu => by simp at hu) (by simp) (by unfold maxLen; omega) (by omega) (by rw [HSZ.out]; omega) ?_)
      intro v' w5 hown hgr hat
      have hb5 : Below w.heap.size w w5 := HAL.out.grown hgr (by rw [HSZ.out]; omega) (by intro k hk; simp [Value.ownBlock] at hk; omega)
      obtain ⟨A5, c5, hv5, _⟩ := row_slice hown
      subst hv5
      have HB5 := Lib.hid hb5
      clear hown hgr hat hb5 HO HAL HSZ hw4
      go_wp2
      go_ret
      exact ⟨A5, c5, rfl, fun h => absurd h (by simp), HB5.out⟩
theorem infoRowC : (Try.prog.info? 22).map (fun i => (i.zero, i.size, i.bytes)) = some (some (.slice none 0 0), 1, 24) := by kernel_rfl
/-- a new row of lists -/
def RowsRes (w : World) (B T : Nat) (R : List (List Int)) (e : Ending) (w' : World) : Prop :=
  ∃ g c vs, e = .returned (.slice (some ⟨g, 0, none⟩) R.length c) ∧ w.heap.size ≤ g ∧ w'.ownsRow w.heap.size T 1 (.slice (some ⟨g, 0, none⟩) R.length c) R.length vs ∧ (∀ (i : Nat) (L : List Int), R[i]? = some L → ∃ A1 c, vs[i]? = some (.slice A1 L.length c) ∧ Rd w B A1 L) ∧ Below w.heap.size w w'
set_option maxHeartbeats 400000 in
theorem cloneRows {w : World} {B : Nat} {A : Option Addr} {R : List (List Int)} {cap : Nat} (h : Rd2 w B A R) (hB : B ≤ w.heap.size) (hn : 0 < R.length) :
    Calls Try.prog 44 #[.slice A R.length cap] w (RowsRes w B 22 R) := by
  have hlen := h.len
  obtain ⟨i0, hi, hz0, hz1, hz2⟩ := info_parts infoRowC
  have hown0 := own_empty w 22
  have hal := Below.alloc (B := w.heap.size) (Below.refl _ w) (Nat.le_refl _) (.cells #[] 22)
  have hsz : (w.alloc (.cells #[] 22)).heap.size = w.heap.size + 1 := by simp
  obtain ⟨vs, hv1, _, hv3, hv4⟩ := rd2_vals h
  obtain ⟨bb, off, rfl, hbb, _⟩ := h.2 hn
  have HV3 := Lib.hid hv3
  have HV4 : Hid (∀ j u, vs[j]? = some u → (w.alloc (.cells #[] 22)).cell? ((⟨bb, off, none⟩ : Addr).add j) = some u) := Lib.hid fun j u hj => cell_kept hal (Nat.le_refl _) (hv4 _ rfl j u hj)
  have HO1 : Hid (∀ u ∈ vs, u.oneCell' = true) := Lib.hid (by
    intro u hu
    obtain ⟨i, hi⟩ := List.getElem?_of_mem hu
    have hlt := (List.getElem?_eq_some_iff.1 hi).1
    rw [hv1] at hlt
    obtain ⟨A', c', h1, _⟩ := hv3 i R[i] (by simp [hlt])
    rw [hi] at h1
    cases h1
    rfl)
  have HV1 := Lib.hid hv1
  have HI := Lib.hid hi
  have HO := Lib.hid hown0
  have HAL := Lib.hid hal
  have HSZ := Lib.hid hsz
  have hq := fun u => Lib.run_eql_slice_nil (P := Try.prog) u 29 22 (some ⟨bb, off, none⟩) R.length cap 0 0 Try.underlying29
  clear hal hsz hi hown0 h hv1 hv3 hv4
  go_enter Try.func44, Try.ntmps44
  generalize hw4 : w.alloc (.cells #[] 22) = w4 at *
  have HW4 := Lib.hid hw4
  clear hw4
  have hx4 : w.alloc (.cells #[] 22) = w4 := HW4.out
  go_wp2_with (at_builtin; refine wpList_append_own _ rfl _ _ 29 rfl w.heap.size 22 i0 (.slice none 0 0) 1 24 Try.underlying29 HI.out hz0 hz1 hz2 rfl (by decide) _ 0 [] rfl HO.out ⟨bb, off, none⟩ R.length cap vs rfl (by rw [HV1.out, Nat.mul_one]) HV4.out HO1.out (by unfold maxLen; omega) (by omega) (by rw [HSZ.out]; omega) ?_)
  intro v' w5 hown5 hgrow _
  have hb5 : Below w.heap.size w w5 := HAL.out.grown hgrow (by rw [HSZ.out]; omega) (by intro k hk; simp [Value.ownBlock] at hk; omega)
  have hown6 : w5.ownsRow w.heap.size 22 1 v' R.length vs := by simpa using hown5
  obtain ⟨gg, c5, hv5, hgg, _⟩ := hown6.form hn
  rw [hv5] at hown6
  have HP := Lib.hid hown6
  rw [hv5]
  have HB5 := Lib.hid hb5
  clear hown5 hgrow hb5 hx4 hv5 HW4 HAL HV4 HSZ hown6
  go_wp2
  go_ret
  exact ⟨gg, c5, vs, rfl, hgg, HP.out, HV3.out, HB5.out⟩
end Go.Proofs.Ytjgobpejifhphaa
