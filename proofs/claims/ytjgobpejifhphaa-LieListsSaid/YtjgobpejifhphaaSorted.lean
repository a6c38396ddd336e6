import Derived.Test.YtjgobpejifhphaaSeq
import Derived.Test.YtjgobpejifhphaaSortI
import Derived.Test.YtjgobpejifhphaaSort
import Derived.Test.YtjgobpejifhphaaS33r
import Derived.Sort.OwnSortedInts
/-! slices.Sort on a row of the call's own, slices.Collect, slices.Sorted at []int. -/
namespace Go.Proofs.Ytjgobpejifhphaa
open Go.RowKit Go.Deep
set_option linter.unusedVariables false
set_option maxRecDepth 100000

theorem sortRow {w : World} {base g cap : Nat} {D0 : List Int} (ho : w.ownsRow base 3 1 (.slice (some ⟨g, 0, none⟩) D0.length cap) D0.length (D0.map (Value.int .i64))) (hn : 1 ≤ D0.length) (hl : D0.length < 1000) :
    Calls Try.prog 63 #[.slice (some ⟨g, 0, none⟩) D0.length cap] w
      fun e w' => e = .returned (.tuple #[]) ∧ w'.ownsRow base 3 1 (.slice (some ⟨g, 0, none⟩) (sortI D0).length cap) (sortI D0).length ((sortI D0).map (Value.int .i64)) ∧ w.grownBy w' (some g) := by
  obtain ⟨g', cap', e1, hb, hp⟩ := ownP_of_row ho (by omega)
  cases e1
  rcases ho.2 with ⟨h0, _⟩ | ⟨g2, cap2, cur, hv, hg, hh, h1, h2, h3, h4⟩
  · cases h0
  cases hv
  have hH : Go.Sort.Holds (Value.int .i64) w g 0 D0.toArray := by
    intro j hj
    have hj' : j < D0.length := by simpa using hj
    refine ⟨?_, hp.frozen _⟩
    rw [Nat.zero_add]
    have := hp.cell (i := j) (x := D0[j]) (by simp [hj'])
    rw [this]
    simp [hj']
  refine (Try.slices_Sort_int g 0 cap D0 w hH hp.lt (by omega)).mono ?_
  rintro e w' ⟨rfl, n, os, rfl⟩
  refine ⟨rfl, ?_, grownBy_sortedI _⟩
  have := ownsRow_sortedI (n := n) (os := os) (sortI_length D0) hg hh h1 h2 h3
  rw [sortI_length]
  exact this

/-- a list in a row of the call's own, nil just where it is empty -/
def SeqRes (w : World) (L : List Int) (e : Ending) (w' : World) : Prop :=
  ∃ v, e = .returned v ∧ w'.ownsRow w.heap.size 3 1 v L.length (L.map (Value.int .i64)) ∧ (v = .slice none 0 0 ↔ L = []) ∧ Below w.heap.size w w'
theorem collectV {w : World} {Bs cap : Nat} {A : Option Addr} {zs : List Int} (hBs : Bs < w.heap.size) (hcB : w.cell? ⟨Bs, 0, none⟩ = some (.slice A zs.length cap)) (hI : Rd w w.heap.size A zs) :
    Calls Try.prog 121 #[.func (.func 122) #[] #[.pointer (some ⟨Bs, 0, none⟩)]] w (SeqRes w zs) := by
  have C1 := callsIn_wide.1 (appendSeq_in Fence.wide 3 trivial trivial rfl (by omega) Bs cap A zs w hBs hcB hI)
  clear hBs hcB hI
  go_enter Try.func121, Try.ntmps121
  go_wp2_with fail
  refine C1.mono ?_
  rintro e w1 ⟨v, rfl, ho, hn, hb⟩
  have HO := Lib.hid ho
  have HN := Lib.hid hn
  have HB := Lib.hid hb
  clear ho hn hb C1
  go_wp2
  go_ret
  exact ⟨v, rfl, HO.out, HN.out, HB.out⟩
/-- a list in a slice -/
def SortedRes (w : World) (L : List Int) (e : Ending) (w' : World) : Prop :=
  ∃ A c, e = .returned (.slice A L.length c) ∧ (0 < L.length → ∃ g, A = some ⟨g, 0, none⟩ ∧ w.heap.size ≤ g ∧ OwnP w' g 3 L) ∧ Below w.heap.size w w'
theorem sortedV {w : World} {Bs cap : Nat} {A : Option Addr} {zs : List Int} (hBs : Bs < w.heap.size) (hcB : w.cell? ⟨Bs, 0, none⟩ = some (.slice A zs.length cap)) (hI : Rd w w.heap.size A zs) (hl : zs.length < 1000) :
    Calls Try.prog 99 #[.func (.func 122) #[] #[.pointer (some ⟨Bs, 0, none⟩)]] w (SortedRes w (sortI zs)) := by
  have C1 := collectV hBs hcB hI
  clear hBs hcB hI
  go_enter Try.func99, Try.ntmps99
  go_wp2_with fail
  refine C1.mono ?_
  rintro e w1 ⟨v, rfl, ho, hn, hb⟩
  have HB := Lib.hid hb
  clear hb C1
  by_cases h0 : zs = []
  · subst h0
    obtain rfl := hn.2 rfl
    clear ho hn
    have CS := Try.slices_Sort_int_none none 0 w1
    go_wp2_with fail
    refine CS.mono ?_
    rintro e w2 ⟨rfl, rfl⟩
    go_wp2
    go_ret
    exact ⟨none, 0, by rw [show (sortI []).length = 0 by simp [sortI]]; rfl, fun h => by simp [sortI] at h, HB.out⟩
  · obtain ⟨g, c, rfl, hg, hP⟩ := ownP_of_row ho (List.length_pos_iff.2 h0)
    have CS := sortRow ho (List.length_pos_iff.2 h0) hl
    have HG := Lib.hid hg
    clear ho hn hP
    go_wp2_with fail
    refine CS.mono ?_
    rintro e w2 ⟨rfl, ho2, hgr⟩
    have hl2 : (sortI zs).length = zs.length := sortI_length zs
    obtain ⟨g', c', e', hg', hP2⟩ := ownP_of_row ho2 (by rw [hl2]; exact List.length_pos_iff.2 h0)
    cases e'
    have HP2 := Lib.hid hP2
    have HB2 := Lib.hid (HB.out.grown hgr HB.out.size (fun k hk => by cases hk; exact HG.out))
    have HL2 := Lib.hid hl2
    clear ho2 hgr hg' hP2 hl2 CS
    go_wp2
    go_ret
    exact ⟨some ⟨g, 0, none⟩, c, by rw [HL2.out]; rfl, fun _ => ⟨g, rfl, HG.out, HP2.out⟩, HB2.out⟩
end Go.Proofs.Ytjgobpejifhphaa
