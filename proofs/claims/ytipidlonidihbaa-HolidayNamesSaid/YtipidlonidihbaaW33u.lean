import Derived.Test.YtipidlonidihbaaW33t
import Derived.Test.YtipidlonidihbaaSame
/-! The walks of Great and Same. -/
namespace Go.Proofs.Ytipidlonidihbaa
open Go.RowKit Go.Deep
set_option linter.unusedVariables false
set_option maxRecDepth 100000

def SomeBool (w : World) (e : Ending) (w' : World) : Prop := ∃ b : Bool, e = .returned (.bool b) ∧ w = w'
theorem great33 {w : World} {C : Nat} {A' : Option Addr} {HL : List (Int × List Int)} {cap : Nat} (h : RdH w C A' HL) :
    Calls Try.prog 22 #[.slice A' HL.length cap] w (SomeBool w) := by
  have hlen := h.len
  have H := Lib.hid h
  clear h
  go_enter Try.func22, Try.ntmps22
  go_wp2
  go_loop [3] (fun i => ∃ k : Nat, k ≤ HL.length ∧ i = .int .i64 k) (fun i => HL.length - (intOf i).toNat)
  case atStart => exact ⟨0, by omega, rfl⟩
  case round =>
    obtain ⟨k, hk, rfl⟩ := hrel
    by_cases hlt : k < HL.length
    · obtain ⟨b, off, m, Bd, A1, c1, rfl, hb, hx, hi, hc0, hc1, hbd⟩ := H.out.at_ hlt
      clear hx hi hbd
      by_cases h40 : 40 < Bd.length
      · go_wp2
        go_ret
        exact ⟨_, rfl, rfl⟩
      · go_wp2
        go_round
        case rel => exact ⟨k + 1, by omega, by go_num⟩
        case measure => simp [intOf]; omega
    · have hge : HL.length ≤ k := by omega
      by_cases h1 : 40 < HL.length
      · by_cases h2 : HL.length ≤ 400
        · go_wp2
          go_ret
          exact ⟨_, rfl, rfl⟩
        · by_cases h3 : 410 < HL.length
          all_goals
            go_wp2
            go_ret
            exact ⟨_, rfl, rfl⟩
      · have h3 : ¬ 410 < HL.length := by omega
        go_wp2
        go_ret
        exact ⟨_, rfl, rfl⟩
theorem great32 {w : World} {C : Nat} {A' : Option Addr} {F : List (List Int)} {cap : Nat} (h : Rd2 w C A' F) :
    Calls Try.prog 23 #[.slice none 0 0, .slice A' F.length cap] w (SomeBool w) := by
  have hlen := h.len
  have H := Lib.hid h
  clear h
  by_cases h1 : (40 < F.length ∧ F.length ≤ 400) ∨ 410 < F.length
  · rcases h1 with ⟨h1, h2⟩ | h1
    · go_enter Try.func23, Try.ntmps23
      go_wp2
      go_ret
      exact ⟨_, rfl, rfl⟩
    · have h2 : 40 < F.length := by omega
      have h3 : ¬ F.length ≤ 400 := by omega
      go_enter Try.func23, Try.ntmps23
      go_wp2
      go_ret
      exact ⟨_, rfl, rfl⟩
  · have h3 : ¬ 410 < F.length := by omega
    have h4 : 40 < F.length → ¬ F.length ≤ 400 := by omega
    clear h1
    by_cases h1 : 40 < F.length
    all_goals
      first | (have h5 := h4 h1) | skip
      clear h4
      go_enter Try.func23, Try.ntmps23
      go_wp2
      go_loop [5] (fun i => i = .int .i64 0) (fun i => 0)
      case atStart => exact rfl
      case round =>
        subst hrel
        go_wp2
        go_loop [6] (fun i => ∃ k : Nat, k ≤ F.length ∧ i = .int .i64 k) (fun i => F.length - (intOf i).toNat)
        case atStart => exact ⟨0, by omega, rfl⟩
        case round =>
          obtain ⟨k, hk, rfl⟩ := hrel
          by_cases hlt : k < F.length
          · obtain ⟨b, off, row, A1, c1, rfl, hb, hx, hc, hrd⟩ := H.out.at_ hlt
            clear hx hrd
            by_cases h40 : 40 < row.length
            · go_wp2
              go_ret
              exact ⟨_, rfl, rfl⟩
            · go_wp2
              go_round
              case rel => exact ⟨k + 1, by omega, by go_num⟩
              case measure => simp [intOf]; omega
          · have hge : F.length ≤ k := by omega
            go_wp2
            go_ret
            exact ⟨_, rfl, rfl⟩

theorem dropA_eq {α : Type} {L M : List α} {k : Nat} {x y : α} (hx : L[k]? = some x) (hy : M[k]? = some y) : (L.drop k = M.drop k) ↔ (x = y ∧ L.drop (k + 1) = M.drop (k + 1)) := by
  rw [dropA_of hx, dropA_of hy]; simp
set_option maxHeartbeats 1000000 in
theorem sameRows {w : World} {B C : Nat} {A A' : Option Addr} {L M : List (List Int)} {cap cap' : Nat} (h : Rd2 w B A L) (h' : Rd2 w C A' M) (hB : B ≤ w.heap.size) (hC : C ≤ w.heap.size) :
    Calls Try.prog 28 #[.slice A L.length cap, .slice A' M.length cap'] w fun e w' => e = .returned (.bool (decide (L = M))) ∧ Below w.heap.size w w' := by
  have l1 := h.len
  have l2 := h'.len
  by_cases hl : L.length = M.length
  · have hb : ((L.length : Int) != (M.length : Int)) = false := by rw [hl]; simp
    have HL := Lib.hid hl
    have H := Lib.hid h
    have H' := Lib.hid h'
    clear h h' hl
    go_enter Try.func28, Try.ntmps28
    go_wp2
    clear hb
    go_loopw [5] (fun i wr => ∃ (k : Nat), k ≤ L.length ∧ i = .int .i64 k ∧ Hid (Below w.heap.size w wr) ∧ Hid (decide (L.drop k = M.drop k) = decide (L = M))) (fun i _ => L.length - (intOf i).toNat)
    case atStart => exact ⟨0, by omega, rfl, Lib.hid (Below.refl _ _), Lib.hid (by simp)⟩
    case round =>
      obtain ⟨k, hk, rfl, hw, hr⟩ := hrel
      by_cases hlt : k < L.length
      · have hlt' : k < M.length := by have := HL.out; omega
        obtain ⟨b, off, x, A1, c1, rfl, hb, hx, hc, hrd⟩ := (H.out.below hw.out hB).at_ hlt
        obtain ⟨b', off', y, A2, c2, rfl, hb', hy, hc', hrd'⟩ := (H'.out.below hw.out hC).at_ hlt'
        have hd := dropA_eq hx hy
        have HD := Lib.hid hd
        have hk0 : (0 : Int) ≤ (k : Int) := by omega
        have hk1 : (k : Int) < (L.length : Int) := by omega
        have hk2 : (k : Int) < (M.length : Int) := by omega
        have CS : Hid (∀ u : World, (u.cell? ⟨b, off + k, none⟩ = some (.slice A1 x.length c1) ∧ u.cell? ⟨b', off' + k, none⟩ = some (.slice A2 y.length c2) ∧ Hid (Below wr.heap.size wr u)) →
            Calls Try.prog 18 #[.slice A1 x.length c1, .slice A2 y.length c2] u fun e u' => e = .returned (.bool (decide (x = y))) ∧
              (u'.cell? ⟨b, off + k, none⟩ = some (.slice A1 x.length c1) ∧ u'.cell? ⟨b', off' + k, none⟩ = some (.slice A2 y.length c2) ∧ Hid (Below wr.heap.size wr u'))) := Lib.hid (fun u ⟨h1, h2, h3⟩ => by
          have s1 := hw.out.size
          have s2 := h3.out.size
          exact (sameInts (cap := c1) (cap' := c2) (hrd.below h3.out (by omega)) (hrd'.below h3.out (by omega)) (by omega) (by omega)).mono fun e u' ⟨he, hb2⟩ => ⟨he, ((bcell hb2).1 b _ (by omega)).trans h1, ((bcell hb2).1 b' _ (by omega)).trans h2, Lib.hid (h3.out.trans (hb2.mono s2))⟩)
        have hS0 : wr.drew.cell? ⟨b, off + k, none⟩ = some (.slice A1 x.length c1) ∧ wr.drew.cell? ⟨b', off' + k, none⟩ = some (.slice A2 y.length c2) ∧ Hid (Below wr.heap.size wr wr.drew) := ⟨hc, hc', Lib.hid (below_drewN (Below.refl _ _) 1)⟩
        clear hd hx hy hrd hrd' hc hc'
        by_cases hxy : x = y
        · have hdec : decide (x = y) = true := by simpa using hxy
          rw [hdec] at CS
          have hnx := Lib.hid (show decide (L.drop (k + 1) = M.drop (k + 1)) = decide (L = M) by rw [← hr.out]; exact decide_eq_decide.2 ⟨fun h => HD.out.2 ⟨hxy, h⟩, fun h => (HD.out.1 h).2⟩)
          clear hdec hxy
          go_wp2
          go_region_held3 (fun w' => w'.cell? ⟨b, off + k, none⟩ = some (.slice A1 x.length c1) ∧ w'.cell? ⟨b', off' + k, none⟩ = some (.slice A2 y.length c2) ∧ Hid (Below wr.heap.size wr w')) (first | assumption | go_keep)
            ((go_at_call 18; refine (CS.out _ (by assumption)).mono ?_; rintro e w3 ⟨rfl, hS3⟩))
          have HB3 := Lib.hid (hw.out.trans (hS3.2.2.out.mono hw.out.size))
          clear CS hS0 hS3
          go_wp2
          go_roundw
          case rel => exact ⟨k + 1, by omega, by go_num, HB3, hnx⟩
          case measure => simp [intOf]; omega
        · have hdec : decide (x = y) = false := by simpa using hxy
          rw [hdec] at CS
          have hno := Lib.hid (show decide (L = M) = false by rw [← hr.out]; exact decide_eq_false fun h => hxy (HD.out.1 h).1)
          clear hdec hxy
          go_wp2
          go_region_held3 (fun w' => w'.cell? ⟨b, off + k, none⟩ = some (.slice A1 x.length c1) ∧ w'.cell? ⟨b', off' + k, none⟩ = some (.slice A2 y.length c2) ∧ Hid (Below wr.heap.size wr w')) (first | assumption | go_keep)
            ((go_at_call 18; refine (CS.out _ (by assumption)).mono ?_; rintro e w3 ⟨rfl, hS3⟩))
          have HB3 := Lib.hid (hw.out.trans (hS3.2.2.out.mono hw.out.size))
          clear CS hS0 hS3
          go_wp2
          go_ret
          exact ⟨ret_bool hno.out.symm, HB3.out⟩
      · have hge : L.length ≤ k := by omega
        go_wp2
        go_ret
        exact ⟨ret_bool (by rw [← hr.out, drop_end hge, drop_end (by have := HL.out; omega)]; simp), hw.out⟩
  · have hb : ((L.length : Int) != (M.length : Int)) = true := by simp; omega
    have hfin := Lib.hid (show decide (L = M) = false from decide_eq_false fun h => hl (by rw [h]))
    clear h h' hl
    go_enter Try.func28, Try.ntmps28
    go_wp2
    go_ret
    exact ⟨ret_bool hfin.out.symm, Below.refl _ _⟩
end Go.Proofs.Ytipidlonidihbaa
