import Derived.Test.YtkoipecnmijfoaaW31o
/-! The walk of strip.Best. -/
namespace Go.Proofs.Ytkoipecnmijfoaa
open Go.RowKit Go.Deep
set_option linter.unusedVariables false
set_option maxRecDepth 100000

/-- the best division, as far as it is asked -/
def BestRes (w : World) (V : List (List Int)) (m : Nat) (e : Ending) (w' : World) : Prop :=
  ∃ (A : Option Addr) (c g k : Nat) (t : List Int), e = .returned (.tuple #[.slice A ((g : Int) :: t).length c, .int .i64 (k : Int), .int .i64 0]) ∧ Rd w' w'.heap.size A ((g : Int) :: t) ∧ g < V.length ∧ Begin V m (k : Int) g t ∧ k ≤ 16001 ∧ (k < 16001 → ¬ CanB V m ((k : Int) + 1)) ∧ Below w.heap.size w w'
set_option maxHeartbeats 4000000 in
theorem sBest {V : List (List Int)} {m : Nat} (v : VS V m) (hck : chk31 V = 0) (hm1 : 1 ≤ m) (hm12 : m ≤ 12) {w : World} {C : Nat} {A : Option Addr} {cap : Nat} (h : Rd2 w C A V) (hC : C ≤ w.heap.size) :
    Calls Try.prog 7 #[.slice A V.length cap] w (BestRes w V m) := by
  have n0 := v.n0
  have hb1 : Below w.heap.size w (w.alloc (.cells #[.slice A V.length cap] 22)) := (Below.refl _ _).alloc (Nat.le_refl _) _
  have hs1 : (w.alloc (.cells #[.slice A V.length cap] 22)).heap.size = w.heap.size + 1 := by simp
  have hv1 : (w.alloc (.cells #[.slice A V.length cap] 22)).cell? ⟨w.heap.size, 0, none⟩ = some (.slice A V.length cap) := by simp
  have H := Lib.hid fun (u : World) (hu : Below w.heap.size w u) => h.below hu hC
  have HV := Lib.hid v
  have HS1 := Lib.hid hs1
  have HB1 := Lib.hid hb1
  have HV1 := Lib.hid hv1
  have HHAS : Hid (∀ k : Nat, (0 < k → notB V m (k - 1) = false) → ∃ g0 l0, g0 < V.length ∧ Begin V m (k : Int) g0 l0) := Lib.hid fun k hk => by
    by_cases h0 : k = 0
    · subst h0; exact none_has v hm1
    · obtain ⟨T, h1, h2⟩ := notB_iff.1 (hk (by omega))
      rw [show (((k - 1 : Nat) : Int) + 1) = (k : Int) by omega] at h1
      exact table_has v hm1 (by omega) h1 h2
  clear h v hs1 hb1
  go_enter Try.func7, Try.ntmps7
  go_wp2_with fail
  generalize hw1 : w.alloc (.cells #[.slice A V.length cap] 22) = w1 at *
  have hsz := HS1.out
  refine (sCheck (cap := cap) (H.out _ HB1.out) (by omega)).mono ?_
  rintro e w2 ⟨rfl, hb2⟩
  rw [hck]
  have HB2 := Lib.hid (HB1.out.trans (hb2.mono HB1.out.size))
  have HB12 := Lib.hid hb2
  have hv2 : w2.cell? ⟨w.heap.size, 0, none⟩ = some (.slice A V.length cap) := (hb2.cell (p := ⟨w.heap.size, 0, none⟩) (by show w.heap.size < _; omega)).trans HV1.out
  obtain ⟨b0, o0, x0, A0, c0, eA, hb0, hx0, hc0, hr0⟩ := (H.out _ HB2.out).at_ (show 0 < V.length by omega)
  rw [Nat.add_zero] at hc0
  have hm0 : x0.length = m := HV.out.row _ (List.mem_of_getElem? hx0)
  rw [hm0] at hc0
  subst eA
  have ha3 : Below w2.heap.size w2 (w2.alloc (.cells #[.int .i64 (m : Int)] 3)) := (Below.refl _ _).alloc (Nat.le_refl _) _
  have hm3 : (w2.alloc (.cells #[.int .i64 (m : Int)] 3)).cell? ⟨w2.heap.size, 0, none⟩ = some (.int .i64 (m : Int)) := by simp
  have hs3 : (w2.alloc (.cells #[.int .i64 (m : Int)] 3)).heap.size = w2.heap.size + 1 := by simp
  have hv3 := (ha3.cell (p := ⟨w.heap.size, 0, none⟩) (by show w.heap.size < _; have := hb2.size; omega)).trans hv2
  have HA3 := Lib.hid ha3
  have HM3 := Lib.hid hm3
  have HS3 := Lib.hid hs3
  have HV3 := Lib.hid hv3
  have HB3 := Lib.hid (HB2.out.trans (ha3.mono HB2.out.size))
  clear hx0 hr0 hm0 hb2 hb0 ha3 hm3 hs3 hv3 hv1 hw1
  go_wp2_with fail
  generalize w2.alloc (.cells #[.int .i64 (m : Int)] 3) = w3 at *
  have CS := Lib.hid (sSearch (w := w3) (n := 16001) (by omega) 17 #[.pointer (some ⟨w.heap.size, 0, none⟩), .pointer (some ⟨w2.heap.size, 0, none⟩)] (notB V m) (fun args u => by kernel_rfl) (fun u i hi hu => by
    have hsz3 := HS3.out
    have hs2 := HB12.out.size
    have hs1 := HS1.out
    have hbu := HB3.out.trans (hu.mono HB3.out.size)
    have e1 := (hu.cell (p := ⟨w.heap.size, 0, none⟩) (by show w.heap.size < _; omega)).trans HV3.out
    have e2 := (hu.cell (p := ⟨w2.heap.size, 0, none⟩) (by show w2.heap.size < _; omega)).trans HM3.out
    exact sBest1 (cap := cap) (H.out _ hbu) (Nat.le_trans hC hbu.size) HV.out e1 e2 (by have := hu.size; omega) i (by omega)))
  rw [show ((16001 : Nat) : Int) = 16001 from rfl] at CS
  clear hv2 hc0
  refine CS.out.mono ?_
  rintro e w4 ⟨k, rfl, hk, hk0, hk1, hb4⟩
  have HK0 := Lib.hid (HHAS.out k hk0)
  have HK1 : Hid (k < 16001 → ¬ CanB V m ((k : Int) + 1)) := Lib.hid fun h hc => by
    have h1 := hk1 h
    rw [notB_iff.2 hc] at h1; cases h1
  have HB4 := Lib.hid (HB3.out.trans (hb4.mono HB3.out.size))
  have hv4 : w4.cell? ⟨w.heap.size, 0, none⟩ = some (.slice (some ⟨b0, o0, none⟩) V.length cap) := (hb4.cell (p := ⟨w.heap.size, 0, none⟩) (by show w.heap.size < _; have := HS3.out; have := HB12.out.size; have := HS1.out; omega)).trans HV3.out
  have e1 : IntKind.i64.wrap ((k : Int) + 1) = (k : Int) + 1 := IntWalk.i64_in _ (by omega)
  have e2 : IntKind.i64.wrap ((k : Int) + 1 - 1) = (k : Int) := by rw [show (k : Int) + 1 - 1 = k by omega]; exact IntWalk.i64_in _ (by omega)
  have CF := Lib.hid (sFirst HV.out hm1 hm12 (L := (k : Int)) (by omega) (by omega) HK0.out (cap := cap) (H.out _ HB4.out) (Nat.le_trans hC HB4.out.size))
  clear hk0 hk1 hb4 CS
  go_wp2_with fail
  refine CF.out.mono ?_
  rintro e w5 ⟨A5, c5, g, t, rfl, hr5, hg, hbg, hb5⟩
  have HR5 := Lib.hid hr5
  have HBG := Lib.hid hbg
  have HB5 := Lib.hid (HB4.out.trans (hb5.mono HB4.out.size))
  clear hr5 hbg hb5 CF
  go_wp2
  go_ret3
  exact ⟨A5, c5, g, k, t, rfl, HR5.out, hg, HBG.out, hk, HK1.out, HB5.out⟩
end Go.Proofs.Ytkoipecnmijfoaa
