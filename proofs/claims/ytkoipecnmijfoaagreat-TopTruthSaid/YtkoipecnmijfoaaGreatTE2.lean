import Derived.Test.YtkoipecnmijfoaaGreatTE1
import Derived.Deep.DeepCutAuto
import Derived.Deep.CutBlock
import Derived.Deep.RegionWith
import Derived.Deep.AppendLies
/-! Walks of the estate of two heirs and one item: reckon. -/
namespace Go.Proofs.YtkoipecnmijfoaaGreat
open Go.RowKit Go.Deep
set_option linter.unusedVariables false
set_option maxRecDepth 100000

/-- block g is just these cells, none frozen -/
def Blk (w : World) (g T : Nat) (vs : List Value) : Prop := w.heap[g]? = some (.cells vs.toArray T (0, 0))
section
variable {w w' : World} {g T : Nat} {vs : List Value}
theorem Blk.lt (h : Blk w g T vs) : g < w.heap.size := by
  rcases Nat.lt_or_ge g w.heap.size with hlt | hge
  · exact hlt
  · unfold Blk at h; rw [Array.getElem?_eq_none hge] at h; cases h
theorem Blk.cell (h : Blk w g T vs) {i : Nat} {x : Value} (hx : vs[i]? = some x) : w.cell? ⟨g, i, none⟩ = some x := by
  rw [cell_of_row w g i _ T (0, 0) h]; simp [hx]
theorem Blk.frozen (h : Blk w g T vs) (i : Nat) : w.frozen? ⟨g, i, none⟩ = false := by
  unfold Blk at h
  simp [World.frozen?, h]
theorem Blk.drew (h : Blk w g T vs) : Blk w.drew g T vs := h
theorem Blk.drewN (h : Blk w g T vs) (n : Nat) : Blk (w.drewN n) g T vs := h
theorem Blk.alloc (h : Blk w g T vs) (o : Obj) : Blk (w.alloc o) g T vs := (Below.heap_alloc w o g h.lt).trans h
theorem Blk.new (w : World) (T : Nat) (vs : List Value) : Blk (w.alloc (.cells vs.toArray T)) w.heap.size T vs := heap_alloc_new w _
theorem Blk.store (h : Blk w g T vs) (i : Nat) (x : Value) : Blk (w.setCell ⟨g, i, none⟩ x) g T (vs.set i x) := by
  unfold Blk at h ⊢
  simp [World.setCell, Array.getElem?_modify, h]
theorem Blk.far (h : Blk w g T vs) {p : Addr} (hp : g ≠ p.block) (u : Value) : Blk (w.setCell p u) g T vs := (Below.heap_setCell w p u g hp).trans h
theorem Blk.below {B : Nat} (h : Blk w g T vs) (hb : Below B w w') (hg : g < B) : Blk w' g T vs := (hb.block g hg).trans h
theorem Blk.grown {row : Option Nat} (h : Blk w g T vs) (hb : w.grownBy w' row) (hg : some g ≠ row) : Blk w' g T vs := (hb.block g h.lt hg).trans h
end
def bIdx (x y : Int) : Nat := if x < y then 1 else 0
def wOne (x y : Int) : Int := if x < y then 0 else x
def wTwo (x y : Int) : Int := if x < y then y else 0
/-- what reckon leaves -/
def ReckRes (w : World) (AS : Option Addr) (cs : Nat) (s x y : Int) (e : Ending) (w' : World) : Prop :=
  ∃ g gw cw gc cc, e = .returned (.pointer (some ⟨g, 0, none⟩)) ∧ w'.cell? ⟨g, 0, none⟩ = some (.slice AS 2 cs) ∧ w'.cell? ⟨g, 2, none⟩ = some (.int .i64 (s + s))
    ∧ w'.cell? ⟨g, 4, none⟩ = some (.slice (some ⟨gw, 0, none⟩) 2 cw) ∧ w'.cell? ⟨g, 5, none⟩ = some (.slice (some ⟨gc, 0, none⟩) 2 cc) ∧ g < w'.heap.size
    ∧ Rd w' w'.heap.size (some ⟨gw, 0, none⟩) [wOne x y, wTwo x y] ∧ Rd w' w'.heap.size (some ⟨gc, 0, none⟩) [s * x, s * y] ∧ Below w.heap.size w w'
theorem reck_new (w1 : World) (T T2 : Nat) (vs : List Value) : Blk ((w1.alloc (.cells #[.int .i64 0, .int .i64 0] T)).alloc (.cells vs.toArray T2)) (w1.heap.size + 1) T2 vs ∧ Own ((w1.alloc (.cells #[.int .i64 0, .int .i64 0] T)).alloc (.cells vs.toArray T2)) w1.heap.size T [0, 0]
    ∧ Below w1.heap.size w1 ((w1.alloc (.cells #[.int .i64 0, .int .i64 0] T)).alloc (.cells vs.toArray T2)) := by
  have h1 : Own (w1.alloc (.cells #[.int .i64 0, .int .i64 0] T)) w1.heap.size T [0, 0] := heap_alloc_new w1 _
  have h2 := Blk.new (w1.alloc (.cells #[.int .i64 0, .int .i64 0] T)) T2 vs
  rw [show (w1.alloc (.cells #[.int .i64 0, .int .i64 0] T)).heap.size = w1.heap.size + 1 by simp] at h2
  exact ⟨h2, h1.alloc _, ((Below.refl _ _).alloc (Nat.le_refl _) _).alloc (by simp) _⟩
set_option maxHeartbeats 4000000 in
theorem eReckon {w : World} {B C : Nat} {AS AB : Option Addr} {s x y : Int} {cs cb : Nat} (hS : Rd w B AS [s, s]) (hR : Rd2 w C AB [[x], [y]]) (hB : B ≤ w.heap.size) (hC : C ≤ w.heap.size)
    (s1 : 1 ≤ s) (s2 : s ≤ 500) (hx : 0 ≤ x ∧ x ≤ 1000000) (hy : 0 ≤ y ∧ y ≤ 1000000) :
    Calls Tryz.prog 64 #[.agg #[.slice AS 2 cs, .slice AB 2 cb]] w (ReckRes w AS cs s x y) := by
  have hal := (Below.refl w.heap.size w).alloc (Nat.le_refl _) (.cells #[.slice AS 2 cs, .slice AB 2 cb] 41)
  have hK : Blk (w.alloc (.cells #[.slice AS 2 cs, .slice AB 2 cb] 41)) w.heap.size 41 [.slice AS 2 cs, .slice AB 2 cb] := Blk.new _ _ _
  have hc0 := hK.cell (i := 0) rfl
  have hc1 := hK.cell (i := 1) rfl
  have hsz : (w.alloc (.cells #[.slice AS 2 cs, .slice AB 2 cb] 41)).heap.size = w.heap.size + 1 := by simp
  have HS := Lib.hid fun (u : World) (hu : Below w.heap.size w u) => hS.below hu hB
  have HR := Lib.hid fun (u : World) (hu : Below w.heap.size w u) => hR.below hu hC
  have HSZ := Lib.hid hsz
  have HAL := Lib.hid hal
  have HK := Lib.hid hK
  obtain ⟨i0, hi0, hz0, hz1, hz2⟩ := info_parts infoInt'
  have HI := Lib.hid hi0
  clear hS hR hal hsz hK hi0
  go_enter Tryz.func64, Tryz.ntmps64
  go_upto_region 1 with fail
  generalize w.alloc (.cells #[.slice AS 2 cs, .slice AB 2 cb] 41) = w1 at *
  obtain ⟨bS, oS, rfl, hbS, hcS⟩ := (HS.out _ HAL.out).2.2 (by simp)
  have hcS0 : w1.cell? ⟨bS, oS, none⟩ = some (.int .i64 s) := hcS 0 s rfl
  have hcS1 : w1.cell? ⟨bS, oS + 1, none⟩ = some (.int .i64 s) := hcS 1 s rfl
  clear hcS
  have CS : Hid (∀ u : World, (u.cell? ⟨w.heap.size, 0, none⟩ = some (.slice (some ⟨bS, oS, none⟩) 2 cs) ∧ u.cell? ⟨w.heap.size, 1, none⟩ = some (.slice AB 2 cb) ∧ u.cell? ⟨bS, oS, none⟩ = some (.int .i64 s) ∧ u.cell? ⟨bS, oS + 1, none⟩ = some (.int .i64 s)) →
      Calls Tryz.prog 39 #[.slice (some ⟨bS, oS, none⟩) 2 cs] u fun e u' => e = .returned (.int .i64 (s + s)) ∧ u = u') := Lib.hid (by
    intro u hS
    have hr : Rd u (bS + 1) (some ⟨bS, oS, none⟩) [s, s] := ⟨fun x hx => by simp at hx; unfold I64; omega, by simp, fun _ => ⟨bS, oS, rfl, by omega, fun i x hx => by
      match i, hx with
      | 0, hx => cases hx; exact hS.2.2.1
      | 1, hx => cases hx; exact hS.2.2.2
      | i + 2, hx => simp at hx⟩⟩
    have := eSum (cap := cs) hr (by simp) (fun z hz => by simp at hz; omega)
    rw [show sumL [s, s] = s + s by simp [sumL]] at this
    exact this)
  have hmk2 : ∀ u : World, (Instr.makeSlice 22 (.int .i64 2) (.int .i64 2)).run Tryz.prog u = .ok (.slice (some ⟨u.heap.size, 0, none⟩) 2 2) (u.alloc (.cells #[.int .i64 0, .int .i64 0] 3)) := fun u => by kernel_rfl
  go_cut [3] (fun t wx => ∃ gw g2 : Nat, t = .pointer (some ⟨g2, 0, none⟩) ∧ Hid (Blk wx g2 98 [.slice (some ⟨bS, oS, none⟩) 2 cs, .slice AB 2 cb, .int .i64 (s + s), .slice none 0 0, .slice (some ⟨gw, 0, none⟩) 2 2, .slice none 0 0]) ∧ Hid (Own wx gw 3 [0, 0]) ∧ Hid (g2 ≠ gw ∧ w1.heap.size ≤ g2 ∧ w1.heap.size ≤ gw) ∧ Hid (Below w1.heap.size w1 wx))
  case first =>
    go_region_held3 (fun u => u.cell? ⟨w.heap.size, 0, none⟩ = some (.slice (some ⟨bS, oS, none⟩) 2 cs) ∧ u.cell? ⟨w.heap.size, 1, none⟩ = some (.slice AB 2 cb) ∧ u.cell? ⟨bS, oS, none⟩ = some (.int .i64 s) ∧ u.cell? ⟨bS, oS + 1, none⟩ = some (.int .i64 s)) (first | assumption | go_keep)
      ((go_at_call 39; refine (CS.out _ (by assumption)).mono ?_; rintro e w3 ⟨rfl, rfl⟩))
    all_goals
      obtain ⟨k1, k2, k3⟩ := reck_new w1 3 98 [.slice (some ⟨bS, oS, none⟩) 2 cs, .slice AB 2 cb, .int .i64 (s + s), .slice none 0 0, .slice (some ⟨w1.heap.size, 0, none⟩) 2 2, .slice none 0 0]
      (try go_wp2_with fail)
      go_meet
      exact ⟨_, _, rfl, Lib.hid k1, Lib.hid k2, Lib.hid ⟨by omega, by omega, by omega⟩, Lib.hid (k3.trans ((Below.refl _ _).mono k3.size).drew)⟩
  case rest =>
  obtain ⟨gw, g2, rfl, HK2, HOW, HGG, HB2⟩ := hcut
  have HB2' := Lib.hid (HAL.out.trans (HB2.out.mono HAL.out.size))
  have HKE := Lib.hid (HK.out.below HB2.out (by rw [HSZ.out]; omega))
  have HGE : Hid (w.heap.size < g2 ∧ w.heap.size < gw ∧ g2 ≠ gw) := Lib.hid ⟨by have := HGG.out.2.1; have := HSZ.out; omega, by have := HGG.out.2.2; have := HSZ.out; omega, HGG.out.1⟩
  clear CS hcS0 hcS1 hc0 hc1 HK HGG HB2 HAL HSZ hbS
  generalize hgg : w.heap.size = g0 at *
  have HG0 := Lib.hid hgg
  clear hgg w1
  have hc0 := HKE.out.cell (i := 0) rfl
  have hc1 := HKE.out.cell (i := 1) rfl
  obtain ⟨bB, oB, r1, A1, c1, rfl, q1, h1, h2, h3⟩ := (HR.out w (by rw [← HG0.out]; exact Below.refl _ _)).at_ (k := 0) (by simp)
  obtain rfl : r1 = [x] := by simpa using h1.symm
  obtain ⟨bB', oB', r2, A2, c2, e2, _, h4, h5, h6⟩ := (HR.out w (by rw [← HG0.out]; exact Below.refl _ _)).at_ (k := 1) (by simp)
  cases e2
  obtain rfl : r2 = [y] := by simpa using h4.symm
  obtain ⟨b1, p1, rfl, q2, h7⟩ := h3.2.2 (by simp)
  obtain ⟨b2, p2, rfl, q3, h8⟩ := h6.2.2 (by simp)
  have ROW : Hid (∀ u, Below g0 w u → u.cell? ⟨bB, oB, none⟩ = some (.slice (some ⟨b1, p1, none⟩) 1 c1) ∧ u.cell? ⟨bB, oB + 1, none⟩ = some (.slice (some ⟨b2, p2, none⟩) 1 c2) ∧ u.cell? ⟨b1, p1, none⟩ = some (.int .i64 x) ∧ u.cell? ⟨b2, p2, none⟩ = some (.int .i64 y)) := Lib.hid fun u hu =>
    ⟨(cell_below hu (by omega)).trans h2, (cell_below hu (by omega)).trans h5, (cell_below hu (by omega)).trans (h7 0 x rfl), (cell_below hu (by omega)).trans (h8 0 y rfl)⟩
  clear h1 h2 h3 h4 h5 h6 h7 h8 HR
  obtain ⟨k1, k2, k3, k4⟩ := ROW.out _ HB2'.out
  go_wp2_with fail
  clear hc0 hc1 k1 k2 k3 k4
  go_loopw [25] (fun iv wr => ∃ k : Nat, k ≤ 1 ∧ iv = .int .i64 k ∧ ∃ ow, Hid (Blk wr g2 98 [.slice (some ⟨bS, oS, none⟩) 2 cs, .slice (some ⟨bB, oB, none⟩) 2 cb, .int .i64 (s + s), ow, .slice (some ⟨gw, 0, none⟩) 2 2, .slice none 0 0])
    ∧ (k = 0 → ow = .slice none 0 0) ∧ Hid (Own wr gw 3 (if k = 0 then [0, 0] else [wOne x y, wTwo x y])) ∧ Hid (Below g0 w wr) ∧ Hid (Blk wr g0 41 [.slice (some ⟨bS, oS, none⟩) 2 cs, .slice (some ⟨bB, oB, none⟩) 2 cb]) ∧ g2 < wr.heap.size) (fun iv _ => 1 - (intOf iv).toNat)
  case atStart => exact ⟨0, by omega, rfl, _, HK2, fun _ => rfl, HOW, HB2', HKE, HK2.out.lt⟩
  case round =>
    obtain ⟨k, hk, rfl, ow, hK2, how0, hO, hb, hKE, hg2⟩ := hrel
    by_cases hk0 : k = 0
    · subst hk0
      obtain rfl := how0 rfl
      rw [if_pos rfl] at hO
      clear how0 HB2' HKE HK2 HOW
      have hc1 := hKE.out.cell (i := 1) rfl
      go_wp2_with fail
      clear hc1
      go_loopw [5, 31] (fun bv iv wr => ∃ j b : Nat, j ≤ 2 ∧ iv = .int .i64 j ∧ bv = .int .i64 b ∧ b ≤ 1 ∧ Hid ((j ≤ 1 → b = 0) ∧ (j = 2 → b = bIdx x y)) ∧ Hid (Blk wr g2 98 [.slice (some ⟨bS, oS, none⟩) 2 cs, .slice (some ⟨bB, oB, none⟩) 2 cb, .int .i64 (s + s), .slice none 0 0, .slice (some ⟨gw, 0, none⟩) 2 2, .slice none 0 0])
        ∧ Hid (Own wr gw 3 [0, 0]) ∧ Hid (Below g0 w wr) ∧ Hid (Blk wr g0 41 [.slice (some ⟨bS, oS, none⟩) 2 cs, .slice (some ⟨bB, oB, none⟩) 2 cb])) (fun _ iv _ => 2 - (intOf iv).toNat)
      case atStart => exact ⟨0, 0, by omega, rfl, rfl, by omega, Lib.hid ⟨fun _ => rfl, by omega⟩, hK2, hO, hb, hKE⟩
      case round =>
        obtain ⟨j, b, hj, rfl, rfl, hb1, hbj, hK2, hO, hb, hKE⟩ := hrel
        obtain ⟨k1, k2, k3, k4⟩ := ROW.out _ hb.out
        have hc1 := hKE.out.cell (i := 1) rfl
        have hj' : j = 0 ∨ j = 1 ∨ j = 2 := by omega
        rcases hj' with rfl | rfl | rfl
        · obtain rfl : b = 0 := hbj.out.1 (by omega)
          have d1 : decide (x < x) = false := decide_eq_false (by omega)
          clear hbj
          go_wp2
          go_quiet (fail)
          go_wp2
          go_roundw
          case rel => exact ⟨1, 0, by omega, rfl, rfl, by omega, Lib.hid ⟨fun _ => rfl, by omega⟩, Lib.hid (hK2.out.drewN _), Lib.hid (hO.out.drewN _), Lib.hid (below_drewN hb.out _), Lib.hid (hKE.out.drewN _)⟩
          case measure => simp [intOf]
        · obtain rfl : b = 0 := hbj.out.1 (by omega)
          clear hbj
          by_cases hxy : x < y
          · have d1 : decide (x < y) = true := decide_eq_true hxy
            have HXY := Lib.hid hxy
            clear hxy
            go_wp2
            go_quiet (fail)
            go_wp2
            go_roundw
            case rel => exact ⟨2, 1, by omega, rfl, rfl, by omega, Lib.hid ⟨by omega, fun _ => (if_pos HXY.out).symm⟩, Lib.hid (hK2.out.drewN _), Lib.hid (hO.out.drewN _), Lib.hid (below_drewN hb.out _), Lib.hid (hKE.out.drewN _)⟩
            case measure => simp [intOf]
          · have d1 : decide (x < y) = false := decide_eq_false hxy
            have HXY := Lib.hid hxy
            clear hxy
            go_wp2
            go_quiet (fail)
            go_wp2
            go_roundw
            case rel =>
              have HN : Hid ((2 ≤ 1 → 0 = 0) ∧ (2 = 2 → 0 = bIdx x y)) := Lib.hid ⟨by omega, fun _ => (if_neg (by have := HXY.out; omega)).symm⟩
              first
              | exact ⟨2, 0, by omega, rfl, rfl, by omega, HN, Lib.hid (hK2.out.drewN _), Lib.hid (hO.out.drewN _), Lib.hid (below_drewN hb.out _), Lib.hid (hKE.out.drewN _)⟩
              | exact ⟨_, _, _, _, _, _, _, _, _, _, _, _, _, _, _, _, _, _, _, _, _, _, _, ⟨2, 0, by omega, rfl, rfl, by omega, HN, Lib.hid (hK2.out.drewN _), Lib.hid (hO.out.drewN _), Lib.hid (below_drewN hb.out _), Lib.hid (hKE.out.drewN _)⟩, rfl⟩
            all_goals try (case measure => simp [intOf])
        · have hbv := hbj.out.2 rfl
          have HBV := Lib.hid hbv
          clear hbv hbj k1 k2 k3 k4 hc1
          have hown0 := own_row_nil (wr.alloc (.cells #[.int .i64 (b : Int)] 3)) wr.heap.size 3
          have HO0 := Lib.hid hown0
          have hsz : (wr.alloc (.cells #[.int .i64 (b : Int)] 3)).heap.size = wr.heap.size + 1 := by simp
          have hcz := Lib.hid (new_one wr (.int .i64 (b : Int)) 3)
          have hal := Below.alloc (B := wr.heap.size) (Below.refl _ wr) (Nat.le_refl _) (.cells #[.int .i64 (b : Int)] 3)
          have HAL := Lib.hid hal
          have HSZ := Lib.hid hsz
          have hKA := hK2.out.alloc (.cells #[.int .i64 (b : Int)] 3)
          have hk3 := hK2.out.cell (i := 3) rfl
          have HKA := Lib.hid hKA
          clear hal hsz hown0 hKA
          generalize hwa : wr.alloc (.cells #[.int .i64 (b : Int)] 3) = wa at *
          have HWA := Lib.hid hwa
          clear hwa
          have hxa : wr.alloc (.cells #[.int .i64 (b : Int)] 3) = wa := HWA.out
          go_upto_region 13 with (at_builtin; refine wpList_append_own_at _ rfl _ _ 22 rfl wr.heap.size 3 i0 (.int .i64 0) 1 8 Tryz.underlying22 HI.out hz0 hz1 hz2 rfl (by decide) _ 0 [] rfl HO0.out ⟨wr.heap.size, 0, none⟩ 1 1 [.int .i64 (b : Int)] rfl (by simp) hcz.out (by simp [Value.oneCell']) (by unfold maxLen; omega) (by omega) (by rw [HSZ.out]; omega) ?_; intro v' w5 hown hgrow hiff hat; obtain ⟨go, co, rfl, _, _⟩ := hown.form (by omega); have hgr : wa.grownBy w5 none := hgrow; have hK5 := HKA.out.grown hgr (by simp); have hb5 := HAL.out.grown hgr (by rw [HSZ.out]; omega) (fun q hq => by cases hq); have hkc := hK5.cell (i := 3) rfl; have hkf := hK5.frozen 3; clear hown hgrow hgr hiff hat hxa)
          have hO5 := hO.out.below hb5 hO.out.lt
          have hKE5 := hKE.out.below hb5 hKE.out.lt
          have hB5 := hb.out.trans (hb5.mono (by rw [← HG0.out]; exact hb.out.size))
          have HK6 := Lib.hid (hK5.store 3 (.slice (some ⟨go, 0, none⟩) 1 co))
          have HO6 := Lib.hid (hO5.far (p := ⟨g2, 3, none⟩) (by have := HGE.out; show gw ≠ g2; omega) (.slice (some ⟨go, 0, none⟩) 1 co))
          have HKE6 := Lib.hid (hKE5.far (p := ⟨g2, 3, none⟩) (by have := HGE.out; show g0 ≠ g2; omega) (.slice (some ⟨go, 0, none⟩) 1 co))
          have HB6 := Lib.hid (hB5.setCell (p := ⟨g2, 3, none⟩) (by have := HGE.out; show g0 ≤ g2; omega) (.slice (some ⟨go, 0, none⟩) 1 co))
          clear hK5 hO5 hKE5 hB5 hb5 hkc hkf hk3 hK2 hO hb hKE HO0 hcz HAL HSZ HKA HWA
          generalize w5.setCell ⟨g2, 3, none⟩ (.slice (some ⟨go, 0, none⟩) 1 co) = w6 at *
          obtain ⟨k1, k2, k3, k4⟩ := ROW.out _ HB6.out
          have hc4 := HK6.out.cell (i := 4) rfl
          have hc1 := HKE6.out.cell (i := 1) rfl
          by_cases hxy : x < y
          · obtain rfl : b = 1 := by rw [HBV.out]; exact if_pos hxy
            have hcw := HO6.out.cell (i := 1) (x := 0) rfl
            have hcf := HO6.out.frozen 1
            have hw1 : wOne x y = 0 := if_pos hxy
            have hw2 : wTwo x y = y := if_pos hxy
            have HN : Hid (Own (w6.drew.setCell ⟨gw, 1, none⟩ (.int .i64 y)) gw 3 [wOne x y, wTwo x y]) := Lib.hid (by rw [hw1, hw2]; exact HO6.out.drew.store 1 y)
            clear hxy hw1 hw2 HBV
            have e1 : IntKind.i64.wrap (0 + y) = y := by rw [Int.zero_add]; exact IntWalk.i64_in _ (by omega)
            have e2 : IntKind.i64.wrap y = y := IntWalk.i64_in _ (by omega)
            go_still_tail 17, (by kernel_rfl)
            change wpList _ _ _ _ _ w6.drew
            replace hcw : w6.drew.cell? _ = _ := hcw
            replace hcf : w6.drew.frozen? _ = _ := hcf
            go_wp2
            go_roundw
            case rel => exact ⟨1, by omega, rfl, _, Lib.hid (HK6.out.drew.far (by have := HGE.out; show g2 ≠ gw; omega) _), by omega, HN, Lib.hid (HB6.out.drew.setCell (p := ⟨gw, 1, none⟩) (by have := HGE.out; show g0 ≤ gw; omega) _), Lib.hid (HKE6.out.drew.far (by have := HGE.out; show g0 ≠ gw; omega) _), by have := HK6.out.lt; simpa using this⟩
            case measure => simp [intOf]
          · obtain rfl : b = 0 := by rw [HBV.out]; exact if_neg hxy
            have hcw := HO6.out.cell (i := 0) (x := 0) rfl
            have hcf := HO6.out.frozen 0
            have hw1 : wOne x y = x := if_neg hxy
            have hw2 : wTwo x y = 0 := if_neg hxy
            have HN : Hid (Own (w6.drew.setCell ⟨gw, 0, none⟩ (.int .i64 x)) gw 3 [wOne x y, wTwo x y]) := Lib.hid (by rw [hw1, hw2]; exact HO6.out.drew.store 0 x)
            clear hxy hw1 hw2 HBV
            have e1 : IntKind.i64.wrap (0 + x) = x := by rw [Int.zero_add]; exact IntWalk.i64_in _ (by omega)
            have e2 : IntKind.i64.wrap x = x := IntWalk.i64_in _ (by omega)
            go_still_tail 17, (by kernel_rfl)
            change wpList _ _ _ _ _ w6.drew
            replace hcw : w6.drew.cell? _ = _ := hcw
            replace hcf : w6.drew.frozen? _ = _ := hcf
            go_wp2
            go_roundw
            case rel => exact ⟨1, by omega, rfl, _, Lib.hid (HK6.out.drew.far (by have := HGE.out; show g2 ≠ gw; omega) _), by omega, HN, Lib.hid (HB6.out.drew.setCell (p := ⟨gw, 0, none⟩) (by have := HGE.out; show g0 ≤ gw; omega) _), Lib.hid (HKE6.out.drew.far (by have := HGE.out; show g0 ≠ gw; omega) _), by have := HK6.out.lt; simpa using this⟩
            case measure => simp [intOf]
    · obtain rfl : k = 1 := by omega
      rw [if_neg (by omega)] at hO
      clear hk0 how0 hk HB2' HKE HK2 HOW
      have hc0 := hKE.out.cell (i := 0) rfl
      go_wp2_with fail
      clear hc0
      have HB0 : Hid (g0 < wr.heap.size ∧ g2 < wr.heap.size ∧ gw < wr.heap.size) := Lib.hid ⟨hKE.out.lt, hg2, hO.out.lt⟩
      generalize hbase : wr.heap.size = base at *
      have hbs : base ≤ wr.heap.size := by omega
      clear hbase hg2
      obtain ⟨clL, hclL⟩ : ∃ clL : List Int, clL = [s * x, s * y] := ⟨_, rfl⟩
      have px := mul_bd (p := x) (x := s) hx.1 hx.2 s1 (by omega)
      have py := mul_bd (p := y) (x := s) hy.1 hy.2 s1 (by omega)
      rw [Int.mul_comm x s] at px
      rw [Int.mul_comm y s] at py
      go_loopw [82] (fun iv wr => ∃ k : Nat, k ≤ 2 ∧ iv = .int .i64 k ∧ ∃ cl, Hid (Blk wr g2 98 [.slice (some ⟨bS, oS, none⟩) 2 cs, .slice (some ⟨bB, oB, none⟩) 2 cb, .int .i64 (s + s), ow, .slice (some ⟨gw, 0, none⟩) 2 2, cl])
        ∧ Hid (wr.ownsRow base 3 1 cl k ((clL.take k).map (Value.int .i64))) ∧ Hid (Own wr gw 3 [wOne x y, wTwo x y]) ∧ Hid (Below g0 w wr) ∧ Hid (Blk wr g0 41 [.slice (some ⟨bS, oS, none⟩) 2 cs, .slice (some ⟨bB, oB, none⟩) 2 cb]) ∧ base ≤ wr.heap.size) (fun iv _ => 2 - (intOf iv).toNat)
      case atStart => exact ⟨0, by omega, rfl, _, hK2, Lib.hid (own_row_nil _ _ _), hO, hb, hKE, hbs⟩
      case round =>
        obtain ⟨k, hk, rfl, cl, hK2, hcl, hO, hb, hKE, hbs⟩ := hrel
        by_cases hlt : k < 2
        · obtain ⟨k1, k2, k3, k4⟩ := ROW.out _ hb.out
          obtain ⟨b3, o3, s', e3, _, hs', _, cs'⟩ := (HS.out _ hb.out).at_ (k := k) hlt
          cases e3
          obtain rfl : s = s' := by
            match k, hlt, hs' with
            | 0, _, hs' => simpa using hs'
            | 1, _, hs' => simpa using hs'
          have hc1 := hKE.out.cell (i := 1) rfl
          have hc5 := hK2.out.cell (i := 5) rfl
          have hk2 : (k : Int) < 2 := by omega
          obtain ⟨z, bz, oz, cz, hz1', hz2', hz3', hz4'⟩ : ∃ (z : Int) (bz oz cz : Nat), wr.cell? ⟨bB, oB + k, none⟩ = some (.slice (some ⟨bz, oz, none⟩) 1 cz) ∧ wr.cell? ⟨bz, oz, none⟩ = some (.int .i64 z) ∧ clL[k]? = some (s * z) ∧ (0 ≤ z ∧ z ≤ 1000000 ∧ 0 ≤ s * z ∧ s * z ≤ 1000000000) := by
            have hk' : k = 0 ∨ k = 1 := by omega
            rcases hk' with rfl | rfl
            · exact ⟨x, b1, p1, c1, k1, k3, by rw [hclL]; rfl, hx.1, hx.2, px.1, px.2⟩
            · exact ⟨y, b2, p2, c2, k2, k4, by rw [hclL]; rfl, hy.1, hy.2, py.1, py.2⟩
          have CZ : Hid (Calls Tryz.prog 39 #[.slice (some ⟨bz, oz, none⟩) 1 cz] wr.drew fun e u' => e = .returned (.int .i64 z) ∧ wr.drew = u') := Lib.hid (by
            have hr : Rd wr.drew (bz + 1) (some ⟨bz, oz, none⟩) [z] := ⟨fun x hx => by simp at hx; unfold I64; omega, by simp, fun _ => ⟨bz, oz, rfl, by omega, fun i x hx => by
              match i, hx with
              | 0, hx => cases hx; exact hz2'
              | i + 1, hx => simp at hx⟩⟩
            have := eSum (cap := cz) hr (by simp) (fun z hz => by simp at hz; omega)
            rw [show sumL [z] = z by simp [sumL]] at this
            exact this)
          have e1 : IntKind.i64.wrap (s * z) = s * z := IntWalk.i64_in _ (by omega)
          clear hs' k1 k2 k3 k4
          have HCL : Hid ((wr.drew.alloc (.cells #[.int .i64 (s * z)] 3)).ownsRow base 3 1 cl k ((clL.take k).map (Value.int .i64))) := Lib.hid (hcl.out.drew.alloc _)
          have HNW := Lib.hid (new_one wr.drew (.int .i64 (s * z)) 3)
          have HKA := Lib.hid (hK2.out.drew.alloc (.cells #[.int .i64 (s * z)] 3))
          have HOA := Lib.hid (hO.out.drew.alloc (.cells #[.int .i64 (s * z)] 3))
          have HEA := Lib.hid (hKE.out.drew.alloc (.cells #[.int .i64 (s * z)] 3))
          have HBA := Lib.hid (hb.out.drew.alloc (by have := HB0.out; show g0 ≤ wr.heap.size; omega) (.cells #[.int .i64 (s * z)] 3))
          have HNE : Hid (some g2 ≠ cl.ownBlock ∧ some gw ≠ cl.ownBlock ∧ some g0 ≠ cl.ownBlock ∧ ∀ q, cl.ownBlock = some q → g0 ≤ q) := Lib.hid (by
            have h0 := HB0.out
            rcases hcl.out.2 with ⟨rfl, _⟩ | ⟨g, cap, cur, rfl, hbg, _⟩
            · simp [Value.ownBlock]
            · simp [Value.ownBlock]; omega)
          have HNXT : Hid ((clL.take k).map (Value.int .i64) ++ [.int .i64 (s * z)] = (clL.take (k + 1)).map (Value.int .i64)) := Lib.hid (by rw [List.take_add_one, hz3']; simp)
          obtain ⟨hz0b, hz1b, hz2b, hz3b⟩ := hz4'
          have hk4 : k + 1 ≤ maxLen := by unfold maxLen; omega
          clear hz3'
          have hc5a := (hK2.out.alloc (.cells #[.int .i64 (s * z)] 3)).cell (i := 5) rfl
          go_wp2
          go_region_law (first
            | (go_simp; go_at_call 39; refine CZ.out.mono ?_; rintro e u' ⟨rfl, rfl⟩)
            | (refine step_append_lies _ (by rfl) _ _ 22 (by rfl) base 3 i0 (.int .i64 0) 1 8 Tryz.underlying22 HI.out hz0 hz1 hz2 rfl (by omega) cl k ((clL.take k).map (Value.int .i64)) (by rfl) HCL.out ⟨wr.heap.size, 0, none⟩ 1 1 [.int .i64 (s * z)] (by rfl) (by rfl) HNW.out (by simp [Value.oneCell']) (by omega) hk4 (by omega) (by simp; omega) (wr.heap.size + 1) (by simp) ?_; intro gg gcap w7 hown hgrow hat hlt7; have hK7 := HKA.out.grown hgrow HNE.out.1; have hkc := hK7.cell (i := 5) rfl; have hkf := hK7.frozen 5))
          all_goals
            have HK8 := Lib.hid (hK7.store 5 (.slice (some ⟨gg, 0, none⟩) (k + 1) gcap))
            have HCL8 : Hid ((w7.setCell ⟨g2, 5, none⟩ (.slice (some ⟨gg, 0, none⟩) (k + 1) gcap)).ownsRow base 3 1 (.slice (some ⟨gg, 0, none⟩) (k + 1) gcap) (k + 1) ((clL.take (k + 1)).map (Value.int .i64))) := Lib.hid (by
              rw [← HNXT.out]
              exact ownsRow_setCell_below hown (by have := HB0.out; show g2 < base; omega) _)
            have HO8 := Lib.hid ((HOA.out.grown hgrow HNE.out.2.1).far (p := ⟨g2, 5, none⟩) (by have := HGE.out; show gw ≠ g2; omega) (.slice (some ⟨gg, 0, none⟩) (k + 1) gcap))
            have HE8 := Lib.hid ((HEA.out.grown hgrow HNE.out.2.2.1).far (p := ⟨g2, 5, none⟩) (by have := HGE.out; show g0 ≠ g2; omega) (.slice (some ⟨gg, 0, none⟩) (k + 1) gcap))
            have HB8 := Lib.hid ((HBA.out.grown hgrow (by have := HBA.out.size; have := HG0.out; omega) HNE.out.2.2.2).setCell (p := ⟨g2, 5, none⟩) (by have := HGE.out; show g0 ≤ g2; omega) (.slice (some ⟨gg, 0, none⟩) (k + 1) gcap))
            have hbs8 : base ≤ (w7.setCell ⟨g2, 5, none⟩ (.slice (some ⟨gg, 0, none⟩) (k + 1) gcap)).heap.size := by have := hgrow.size; simp at this ⊢; omega
            clear hK7 hown hgrow hat hkc hkf HCL HNW HKA HOA HEA HBA HNE HNXT hK2 hcl hO hb hKE hc5a hc5 hc1 cs'
            generalize w7.setCell ⟨g2, 5, none⟩ (.slice (some ⟨gg, 0, none⟩) (k + 1) gcap) = w8 at *
            (try go_wp2)
            go_roundw
            case rel => first | exact ⟨k + 1, by omega, by go_num, _, HK8, HCL8, HO8, HB8, HE8, hbs8⟩ | exact ⟨_, _, _, _, _, _, _, _, _, _, _, _, _, _, _, _, _, _, _, _, _, _, _, _, _, ⟨k + 1, by omega, by go_num, _, HK8, HCL8, HO8, HB8, HE8, hbs8⟩, rfl⟩ | ((repeat apply Exists.intro); exact ⟨⟨k + 1, by omega, by go_num, _, HK8, HCL8, HO8, HB8, HE8, hbs8⟩, rfl⟩)
            case measure => simp [intOf]; omega
        · obtain rfl : k = 2 := by omega
          have hc2 : (clL.take 2).map (Value.int .i64) = clL.map (Value.int .i64) := by rw [hclL]; rfl
          have hcl2 := hcl.out
          rw [hc2] at hcl2
          have hl2 : clL.length = 2 := by rw [hclL]; rfl
          obtain ⟨gc, cc, hce, hgb, hPc⟩ := ownP_of_row (L := clL) (by rw [hl2]; exact hcl2) (by omega)
          rw [hl2] at hce
          have HCE := Lib.hid hce
          have HPC := Lib.hid hPc
          clear hc2 hcl2 hce hPc
          go_wp2
          go_ret
          have e5 := hK2.out.cell (i := 5) rfl
          rw [HCE.out] at e5
          refine ⟨g2, gw, 2, gc, cc, rfl, hK2.out.cell (i := 0) rfl, hK2.out.cell (i := 2) rfl, hK2.out.cell (i := 4) rfl, e5, hK2.out.lt, ?_, ?_, ?_⟩
          · refine hO.out.rd ?_ (by simp) hO.out.lt
            intro q hq
            simp [wOne, wTwo] at hq
            unfold I64
            rcases hq with rfl | rfl <;> split <;> omega
          · have := HPC.out.rd (fun q hq => by rw [hclL] at hq; simp at hq; unfold I64; rcases hq with rfl | rfl <;> omega) (by rw [hl2]; omega) HPC.out.lt
            rw [hclL] at this
            exact this
          · have := hb.out; rw [← HG0.out] at this; exact this
end Go.Proofs.YtkoipecnmijfoaaGreat
