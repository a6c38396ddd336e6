import Derived.Deep.DeepCutAuto
import Derived.Deep.CutBlock
import Derived.Test.YtdkcpnmaglkmnaaW30y
import Derived.Test.YtdkcpnmaglkmnaaW30Gr
import Derived.Test.YtdkcpnmaglkmnaaW30c
import Derived.Test.YtdkcpnmaglkmnaaS30p
/-! The walk of the statement LandSides. -/
namespace Go.Proofs.Ytdkcpnmaglkmnaa
open Go.RowKit Go.Deep
set_option linter.unusedVariables false
set_option maxRecDepth 100000

theorem two_pts (w : World) (T : Nat) (a b c d : Int) : (((w.alloc (.cells #[.int .i64 a, .int .i64 b] T)).alloc (.cells #[.int .i64 c, .int .i64 d] T)).drew.cell? ⟨w.heap.size, 0, none⟩ = some (.int .i64 a) ∧ ((w.alloc (.cells #[.int .i64 a, .int .i64 b] T)).alloc (.cells #[.int .i64 c, .int .i64 d] T)).drew.cell? ⟨w.heap.size, 1, none⟩ = some (.int .i64 b) ∧ ((w.alloc (.cells #[.int .i64 a, .int .i64 b] T)).alloc (.cells #[.int .i64 c, .int .i64 d] T)).drew.cell? ⟨w.heap.size + 1, 0, none⟩ = some (.int .i64 c) ∧ ((w.alloc (.cells #[.int .i64 a, .int .i64 b] T)).alloc (.cells #[.int .i64 c, .int .i64 d] T)).drew.cell? ⟨w.heap.size + 1, 1, none⟩ = some (.int .i64 d) ∧ True ∧ w.heap.size < ((w.alloc (.cells #[.int .i64 a, .int .i64 b] T)).alloc (.cells #[.int .i64 c, .int .i64 d] T)).drew.heap.size ∧ w.heap.size + 1 < ((w.alloc (.cells #[.int .i64 a, .int .i64 b] T)).alloc (.cells #[.int .i64 c, .int .i64 d] T)).drew.heap.size) ∧ Below w.heap.size w ((w.alloc (.cells #[.int .i64 a, .int .i64 b] T)).alloc (.cells #[.int .i64 c, .int .i64 d] T)).drew := by
  have h1 : ((w.alloc (.cells #[.int .i64 a, .int .i64 b] T)).alloc (.cells #[.int .i64 c, .int .i64 d] T)).drew.heap[w.heap.size]? = some (.cells #[.int .i64 a, .int .i64 b] T (0, 0)) := (Below.heap_alloc (w.alloc (.cells #[.int .i64 a, .int .i64 b] T)) _ _ (by simp)).trans (heap_alloc_new w _)
  have h2 : ((w.alloc (.cells #[.int .i64 a, .int .i64 b] T)).alloc (.cells #[.int .i64 c, .int .i64 d] T)).drew.heap[w.heap.size + 1]? = some (.cells #[.int .i64 c, .int .i64 d] T (0, 0)) := by
    have := heap_alloc_new (w.alloc (.cells #[.int .i64 a, .int .i64 b] T)) (.cells #[.int .i64 c, .int .i64 d] T)
    rw [show (w.alloc (.cells #[.int .i64 a, .int .i64 b] T)).heap.size = w.heap.size + 1 by simp] at this
    exact this
  refine ⟨⟨(cell_of_row _ _ 0 _ T (0, 0) h1).trans rfl, (cell_of_row _ _ 1 _ T (0, 0) h1).trans rfl, (cell_of_row _ _ 0 _ T (0, 0) h2).trans rfl, (cell_of_row _ _ 1 _ T (0, 0) h2).trans rfl, trivial, by simp; omega, by simp⟩, below_drewN ((((Below.refl _ _).alloc (Nat.le_refl _) _)).alloc (by simp) _) 1⟩
theorem two_pts2 (w : World) (T : Nat) (a b c d : Int) : (((w.alloc (.cells #[.int .i64 c, .int .i64 d] T)).alloc (.cells #[.int .i64 a, .int .i64 b] T)).drew.cell? ⟨w.heap.size + 1, 0, none⟩ = some (.int .i64 a) ∧ ((w.alloc (.cells #[.int .i64 c, .int .i64 d] T)).alloc (.cells #[.int .i64 a, .int .i64 b] T)).drew.cell? ⟨w.heap.size + 1, 1, none⟩ = some (.int .i64 b) ∧ ((w.alloc (.cells #[.int .i64 c, .int .i64 d] T)).alloc (.cells #[.int .i64 a, .int .i64 b] T)).drew.cell? ⟨w.heap.size, 0, none⟩ = some (.int .i64 c) ∧ ((w.alloc (.cells #[.int .i64 c, .int .i64 d] T)).alloc (.cells #[.int .i64 a, .int .i64 b] T)).drew.cell? ⟨w.heap.size, 1, none⟩ = some (.int .i64 d) ∧ True ∧ w.heap.size + 1 < ((w.alloc (.cells #[.int .i64 c, .int .i64 d] T)).alloc (.cells #[.int .i64 a, .int .i64 b] T)).drew.heap.size ∧ w.heap.size < ((w.alloc (.cells #[.int .i64 c, .int .i64 d] T)).alloc (.cells #[.int .i64 a, .int .i64 b] T)).drew.heap.size) ∧ Below w.heap.size w ((w.alloc (.cells #[.int .i64 c, .int .i64 d] T)).alloc (.cells #[.int .i64 a, .int .i64 b] T)).drew := by
  obtain ⟨⟨h1, h2, h3, h4, _, h5, h6⟩, h7⟩ := two_pts w T c d a b
  exact ⟨⟨h3, h4, h1, h2, trivial, h6, h5⟩, h7⟩
set_option maxHeartbeats 16000000 in
theorem landSides {w : World} {A : Option Addr} {L : List Int} {cap : Nat} (h : Rd w w.heap.size A L) (W H a : Int) (_h1 : I64 W) (_h2 : I64 H) (_h3 : I64 a) :
    Calls Try.prog 6 #[.agg #[.int .i64 W, .int .i64 H, .slice A L.length cap], .int .i64 a] w fun e w' => e = .returned (.bool true) ∧ Below w.heap.size w w' := by
  have hal : Below w.heap.size w (w.alloc (.cells #[.int .i64 W, .int .i64 H, .slice A L.length cap] 24)) := (Below.refl _ _).alloc (Nat.le_refl _) _
  have hsz : (w.alloc (.cells #[.int .i64 W, .int .i64 H, .slice A L.length cap] 24)).heap.size = w.heap.size + 1 := by simp
  have b0 : (w.alloc (.cells #[.int .i64 W, .int .i64 H, .slice A L.length cap] 24)).cell? ⟨w.heap.size, 0, none⟩ = some (.int .i64 W) := by simp
  have b1 : (w.alloc (.cells #[.int .i64 W, .int .i64 H, .slice A L.length cap] 24)).cell? ⟨w.heap.size, 1, none⟩ = some (.int .i64 H) := by simp
  have b2 : (w.alloc (.cells #[.int .i64 W, .int .i64 H, .slice A L.length cap] 24)).cell? ⟨w.heap.size, 2, none⟩ = some (.slice A L.length cap) := by simp
  have hlen := h.len
  have HR : Hid (∀ u, Below w.heap.size w u → w.heap.size ≤ u.heap.size ∧ Rd u w.heap.size A L) := Lib.hid fun u hu => ⟨hu.size, h.below hu (Nat.le_refl _)⟩
  have HSZ := Lib.hid hsz
  have HAL := Lib.hid hal
  clear h hal hsz _h1 _h2 _h3
  go_enter Try.func6, Try.ntmps6
  go_wp2_with fail
  generalize w.alloc (.cells #[.int .i64 W, .int .i64 H, .slice A L.length cap] 24) = w0 at *
  have HB0 := Lib.hid (And.intro b0 (And.intro b1 b2))
  have KEEP : Hid (∀ u, Below w0.heap.size w0 u → u.cell? ⟨w.heap.size, 0, none⟩ = some (.int .i64 W) ∧ u.cell? ⟨w.heap.size, 1, none⟩ = some (.int .i64 H) ∧ u.cell? ⟨w.heap.size, 2, none⟩ = some (.slice A L.length cap)) := Lib.hid fun u hu => by
    have hz := HSZ.out
    exact ⟨((bcell hu).1 _ _ (by omega)).trans HB0.out.1, ((bcell hu).1 _ _ (by omega)).trans HB0.out.2.1, ((bcell hu).1 _ _ (by omega)).trans HB0.out.2.2⟩
  have TOT : Hid (∀ u, Below w0.heap.size w0 u → Below w.heap.size w u) := Lib.hid fun u hu => HAL.out.trans (hu.mono HAL.out.size)
  refine (alive30 w0).mono ?_
  rintro e w1 ⟨rfl, hb⟩
  have B1 := Lib.hid hb
  clear hb b0 b1 b2
  obtain ⟨c0, c1, c2⟩ := KEEP.out _ B1.out
  have R := HR.out _ (TOT.out _ B1.out)
  go_wp2_with fail
  refine (great30b W H hlen).mono ?_
  rintro e w2 ⟨g1, rfl, hgr, hb⟩
  have HGR := Lib.hid hgr
  clear hgr
  have B2 := Lib.hid (B1.out.trans (hb.mono B1.out.size))
  clear hb c0 c1 c2 R
  obtain ⟨c0, c1, c2⟩ := KEEP.out _ B2.out
  have R := HR.out _ (TOT.out _ B2.out)
  cases g1
  case true =>
    go_wp2
    go_ret
    exact ⟨rfl, TOT.out _ B2.out⟩
  case false =>
  go_wp2_with fail
  refine (lrCheck R.2 R.1 W H).mono ?_
  rintro e w3 ⟨rfl, hb⟩
  have B3 := Lib.hid (B2.out.trans (hb.mono B2.out.size))
  clear hb c0 c1 c2 R
  obtain ⟨c0, c1, c2⟩ := KEEP.out _ B3.out
  have R := HR.out _ (TOT.out _ B3.out)
  by_cases hl : lck W H L = 0
  case neg =>
    have hne : (lck W H L != 0) = true := by simpa using hl
    generalize lck W H L = c at *
    go_wp2
    go_ret
    exact ⟨rfl, TOT.out _ B3.out⟩
  case pos =>
  obtain ⟨W, H, rfl, rfl, hv⟩ := lck_zero hl
  have HL := Lib.hid hl
  have HV := Lib.hid hv
  rw [hl]
  clear hl hv
  go_wp2_with fail
  refine (lWalk R.2 R.1 W H a).mono ?_
  rintro e w4 ⟨A4, k4, rfl, hr, hb⟩
  have B4 := Lib.hid (B3.out.trans (hb.mono B3.out.size))
  have R4 := Lib.hid hr
  clear hr hb c0 c1 c2 R
  by_cases hg : wkE W H L a = 0
  case neg =>
    have hne : (wkE W H L a != 0) = true := by simpa using hg
    have hlen0 : wkP W H L a = [] := by rw [wkP, if_neg hg]
    rw [hlen0]
    generalize wkE W H L a = x1 at *
    clear hg hlen0 R4
    go_wp2
    go_ret
    exact ⟨rfl, TOT.out _ B4.out⟩
  case pos =>
  have hk : lkd W H L a = 0 := by
    by_cases h : lkd W H L a = 0
    · exact h
    · rw [wkE, if_pos h] at hg; exact absurd hg h
  have hf : ¬ fst L a < 0 := by
    intro h
    rw [wkE, if_neg (by simp [hk]), if_pos h] at hg
    exact absurd hg (by decide)
  obtain ⟨_, ha0, ha5⟩ := lkd_zero hk
  obtain ⟨st, _, _, _, _, hP, hW⟩ := wk_ok HV.out ha0 hk hf
  rw [hg]
  have hl : (wkP W H L a).length = walkN (ownF W H L a) (startS W st) := by rw [hP]; exact ptsK_length _ _ _
  have h4 : 4 ≤ (wkP W H L a).length := by rw [hl]; exact hW.four
  have h160 : (wkP W H L a).length ≤ 160 := by
    rw [hl]
    have h40 : L.length ≤ 40 := by
      have := HGR.out trivial
      have := HV.out.w1
      have := HV.out.h1
      omega
    have := hW.nW
    rw [HV.out.len] at h40
    omega
  have SD : Hid (∀ i, i < (wkP W H L a).length → ∃ d ax ay, SideOk (ownF W H L a) W H (wkP W H L a) i ((i + 1) % (wkP W H L a).length) d ax ay) := Lib.hid fun i hi => by
    rw [hl] at hi ⊢
    rw [hP]
    exact hW.side hi
  have ON : Hid (∀ i k, i < (wkP W H L a).length → k < i → ¬ ((wkP W H L a)[k]? = (wkP W H L a)[i]? ∧ (wkP W H L a)[k + 1]? = (wkP W H L a)[(i + 1) % (wkP W H L a).length]?)) := Lib.hid fun i k hi hk => by
    rw [hl] at hi ⊢
    rw [hP]
    exact hW.once hi hk
  clear hk hf hP hW hl hg
  have KG : Hid (∀ u, Below w4.heap.size w4 u → (u.cell? ⟨w.heap.size, 0, none⟩ = some (.int .i64 (W : Int)) ∧ u.cell? ⟨w.heap.size, 1, none⟩ = some (.int .i64 (H : Int)) ∧ u.cell? ⟨w.heap.size, 2, none⟩ = some (.slice A L.length cap)) ∧ RdP u w4.heap.size A4 (wkP W H L a) ∧ Rd u w.heap.size A L ∧ w4.heap.size ≤ u.heap.size ∧ w.heap.size ≤ u.heap.size ∧ Below w.heap.size w u) := Lib.hid fun u hu => by
    have hu0 := B4.out.trans (hu.mono B4.out.size)
    exact ⟨KEEP.out _ hu0, R4.out.below hu (Nat.le_refl _), (HR.out _ (TOT.out _ hu0)).2, hu.size, (HR.out _ (TOT.out _ hu0)).1, TOT.out _ hu0⟩
  clear R4 B4 B3 B2 B1 TOT KEEP HR HSZ HAL HB0 HGR
  generalize wkP W H L a = P at *
  go_wp2_with fail
  go_loopw [8] (fun i wr => ∃ (j : Nat), j ≤ P.length ∧ i = .int .i64 j ∧ Hid (Below w4.heap.size w4 wr)) (fun i _ => P.length - (intOf i).toNat)
  case atStart => exact ⟨0, by omega, rfl, Lib.hid (Below.refl _ _)⟩
  case round =>
    obtain ⟨i, hj, rfl, hw⟩ := hrel
    by_cases hlt : i < P.length
    · obtain ⟨d, ax, ay, hs⟩ := SD.out i hlt
      have hjl : (i + 1) % P.length < P.length := Nat.mod_lt _ (by omega)
      have hjm : ((i : Int) + 1).tmod (P.length : Int) = (((i + 1) % P.length : Nat) : Int) := rfl
      obtain ⟨_, r1, r2, z1, z2, _⟩ := KG.out _ hw.out
      obtain ⟨b, off, x, y, hA, hb, hx, p0, p1⟩ := r1.at_ hlt
      obtain ⟨b', off', x', y', hA', hb', hx', q0, q1⟩ := r1.at_ hjl
      subst hA
      cases hA'
      rw [hs.at_] at hx
      rw [hs.nx] at hx'
      cases hx
      cases hx'
      have HSD := Lib.hid hs
      have hdir := dir_cases hs.d4
      have x0 := hs.x0
      have x1 := hs.x1
      have y0 := hs.y0
      have y1 := hs.y1
      have hW12 := HV.out.w1
      have hH12 := HV.out.h1
      generalize hj : (i + 1) % P.length = j at *
      clear hs r1 r2 z1 z2
      have hi0 : (0 : Int) ≤ (i : Int) := by omega
      have hi1 : (i : Int) < (P.length : Int) := by omega
      have hj0 : (0 : Int) ≤ (j : Int) := by omega
      have hj1 : (j : Int) < (P.length : Int) := by omega
      obtain ⟨bx, hbx⟩ : ∃ bx, bx = ax + dxI d := ⟨_, rfl⟩
      obtain ⟨bz, hbz⟩ : ∃ bz, bz = ay + dyI d := ⟨_, rfl⟩
      rw [← hbx] at q0
      rw [← hbz] at q1
      obtain ⟨p, hp⟩ : ∃ p, p = bx - ax := ⟨_, rfl⟩
      obtain ⟨q, hq⟩ : ∃ q, q = bz - ay := ⟨_, rfl⟩
      have HSN := Lib.hid (show P[i]? = some (ax, ay) ∧ P[j]? = some (bx, bz) from ⟨HSD.out.at_, by rw [HSD.out.nx, hbx, hbz]⟩)
      have DR : Hid (∃ X Y U V : Int, (atL W H L X Y = a ∧ atL W H L U V ≠ a) ∧ ((p = 1 ∧ q = 0 ∧ X = ax ∧ Y = ay ∧ U = ax ∧ V = ay - 1) ∨ (p = 0 ∧ q = 1 ∧ X = ax - 1 ∧ Y = ay ∧ U = ax ∧ V = ay) ∨ (p = -1 ∧ q = 0 ∧ X = ax - 1 ∧ Y = ay - 1 ∧ U = ax - 1 ∧ V = ay) ∨ (p = 0 ∧ q = -1 ∧ X = ax ∧ Y = ay - 1 ∧ U = ax - 1 ∧ V = ay - 1))) := Lib.hid (by
        rcases hdir with ⟨rfl, e1, e2, e3, e4⟩ | ⟨rfl, e1, e2, e3, e4⟩ | ⟨rfl, e1, e2, e3, e4⟩ | ⟨rfl, e1, e2, e3, e4⟩
        · have q1 : dxI ((0 + 3) % 4) = 0 := by decide
          have q2 : dyI ((0 + 3) % 4) = -1 := by decide
          have q3 : dxI 3 = 0 := by decide
          have q4 : dyI 3 = -1 := by decide
          refine ⟨_, _, _, _, ⟨by simpa [ownF] using HSD.out.l, by simpa [ownF] using HSD.out.r⟩, .inl ⟨?_, ?_, ?_, ?_, ?_, ?_⟩⟩
          all_goals (clear HSD HSN KG; omega)
        · have q1 : dxI ((1 + 3) % 4) = 1 := by decide
          have q2 : dyI ((1 + 3) % 4) = 0 := by decide
          have q3 : dxI 0 = 1 := by decide
          have q4 : dyI 0 = 0 := by decide
          refine ⟨_, _, _, _, ⟨by simpa [ownF] using HSD.out.l, by simpa [ownF] using HSD.out.r⟩, .inr <| .inl ⟨?_, ?_, ?_, ?_, ?_, ?_⟩⟩
          all_goals (clear HSD HSN KG; omega)
        · have q1 : dxI ((2 + 3) % 4) = 0 := by decide
          have q2 : dyI ((2 + 3) % 4) = 1 := by decide
          have q3 : dxI 1 = 0 := by decide
          have q4 : dyI 1 = 1 := by decide
          refine ⟨_, _, _, _, ⟨by simpa [ownF] using HSD.out.l, by simpa [ownF] using HSD.out.r⟩, .inr <| .inr <| .inl ⟨?_, ?_, ?_, ?_, ?_, ?_⟩⟩
          all_goals (clear HSD HSN KG; omega)
        · have q1 : dxI ((3 + 3) % 4) = -1 := by decide
          have q2 : dyI ((3 + 3) % 4) = 0 := by decide
          have q3 : dxI 2 = -1 := by decide
          have q4 : dyI 2 = 0 := by decide
          refine ⟨_, _, _, _, ⟨by simpa [ownF] using HSD.out.l, by simpa [ownF] using HSD.out.r⟩, .inr <| .inr <| .inr ⟨?_, ?_, ?_, ?_, ?_, ?_⟩⟩
          all_goals (clear HSD HSN KG; omega))
      have PQ : Hid (∃ pp qq : Int, IntKind.i64.wrap (p * p) = pp ∧ IntKind.i64.wrap (q * q) = qq ∧ IntKind.i64.wrap (pp + qq) = 1) := Lib.hid (by
        obtain ⟨_, _, _, _, _, h⟩ := DR.out
        rcases h with ⟨rfl, rfl, _⟩ | ⟨rfl, rfl, _⟩ | ⟨rfl, rfl, _⟩ | ⟨rfl, rfl, _⟩ <;> exact ⟨_, _, rfl, rfl, by decide⟩)
      have hpb : p = bx - ax ∧ q = bz - ay ∧ -1 ≤ p ∧ p ≤ 1 ∧ -1 ≤ q ∧ q ≤ 1 := by
        obtain ⟨_, _, _, _, _, h⟩ := DR.out
        omega
      have hdx : IntKind.i64.wrap (bx - ax) = p := by rw [← hp]; exact IntWalk.i64_in _ (by omega)
      have hdy : IntKind.i64.wrap (bz - ay) = q := by rw [← hq]; exact IntWalk.i64_in _ (by omega)
      have HPB := Lib.hid hpb
      obtain ⟨pp, qq, s1, s2, s3⟩ := PQ.out
      clear hbx hbz hp hq hdir HSD PQ hpb
      have hwi : IntKind.i64.wrap ((i : Int) + 1) = (i : Int) + 1 := IntWalk.i64_in _ (by omega)
      have hi0 : (0 : Int) ≤ (i : Int) := by omega
      have hi1 : (i : Int) < (P.length : Int) := by omega
      have hj0 : (0 : Int) ≤ (j : Int) := by omega
      have hj1 : (j : Int) < (P.length : Int) := by omega
      have hS0 : wr.drew.cell? ⟨b, off + i * 2, none⟩ = some (.int .i64 ax) ∧ wr.drew.cell? ⟨b, off + i * 2 + 1, none⟩ = some (.int .i64 ay) ∧ wr.drew.cell? ⟨b, off + j * 2, none⟩ = some (.int .i64 bx) ∧ wr.drew.cell? ⟨b, off + j * 2 + 1, none⟩ = some (.int .i64 bz) := ⟨p0, p1, q0, q1⟩
      have hn0 : P.length ≠ 0 := by omega
      have hn1 : ¬ P = [] := by intro h; rw [h] at h4; simp at h4
      have hn2 : (P.length : Int) ≠ 0 := by omega
      have ne0 : wr.heap.size ≠ b := by have := hw.out.size; omega
      have ne1 : wr.heap.size + 1 ≠ b := by have := hw.out.size; omega
      go_wp2_with fail
      go_cut [9, 10] (fun t9 t10 wx => ∃ g9 g10 : Nat, t9 = .pointer (some ⟨g9, 0, none⟩) ∧ t10 = .pointer (some ⟨g10, 0, none⟩) ∧ Hid (∀ u, Below wx.heap.size wx u → u.cell? ⟨g9, 0, none⟩ = some (.int .i64 ax) ∧ u.cell? ⟨g9, 1, none⟩ = some (.int .i64 ay) ∧ u.cell? ⟨g10, 0, none⟩ = some (.int .i64 bx) ∧ u.cell? ⟨g10, 1, none⟩ = some (.int .i64 bz)) ∧ Hid (Below wr.heap.size wr wx))
      case first =>
        go_region_held3 (fun w' => w'.cell? ⟨b, off + i * 2, none⟩ = some (.int .i64 ax) ∧ w'.cell? ⟨b, off + i * 2 + 1, none⟩ = some (.int .i64 ay) ∧ w'.cell? ⟨b, off + j * 2, none⟩ = some (.int .i64 bx) ∧ w'.cell? ⟨b, off + j * 2 + 1, none⟩ = some (.int .i64 bz)) (first | assumption | go_keep) (fail)
        · (try go_wp2_with fail)
          go_meet
          obtain ⟨⟨f0, f1, f2, f3, _, f5, f6⟩, f7⟩ := two_pts wr 62 ax ay bx bz
          exact ⟨_, _, rfl, rfl, Lib.hid fun u hu => ⟨((bcell hu).1 _ _ f5).trans f0, ((bcell hu).1 _ _ f5).trans f1, ((bcell hu).1 _ _ f6).trans f2, ((bcell hu).1 _ _ f6).trans f3⟩, Lib.hid f7⟩
        · (try go_wp2_with fail)
          go_meet
          obtain ⟨⟨f0, f1, f2, f3, _, f5, f6⟩, f7⟩ := two_pts2 wr 62 ax ay bx bz
          exact ⟨_, _, rfl, rfl, Lib.hid fun u hu => ⟨((bcell hu).1 _ _ f5).trans f0, ((bcell hu).1 _ _ f5).trans f1, ((bcell hu).1 _ _ f6).trans f2, ((bcell hu).1 _ _ f6).trans f3⟩, Lib.hid f7⟩
      case rest =>
      rename World => wx
      obtain ⟨g9, g10, rfl, rfl, FX, hbw⟩ := hcut
      clear p0 p1 q0 q1 hS0 ne0 ne1 hwi hjm
      have BX := Lib.hid (hw.out.trans (hbw.out.mono hw.out.size))
      clear hbw
      obtain ⟨f0, f1, f2, f3⟩ := FX.out wx (Below.refl _ _)
      obtain ⟨⟨c0, c1, c2⟩, _, _, _⟩ := KG.out _ BX.out
      go_wp2_with fail
      go_quiet (fail)
      clear f0 f1 f2 f3 c0 c1 c2
      generalize hwy : wx.drewN _ = wy
      have BY := Lib.hid (hwy ▸ below_drewN (Below.refl wx.heap.size wx) _ : Below wx.heap.size wx wy)
      clear hwy
      obtain ⟨f0, f1, f2, f3⟩ := FX.out _ BY.out
      obtain ⟨⟨c0, c1, c2⟩, _, _, _⟩ := KG.out _ (BX.out.trans (BY.out.mono BX.out.size))
      go_wp2_with fail
      go_quiet (fail)
      clear f0 f1 f2 f3 c0 c1 c2 hdx hdy s1 s2 s3
      generalize hwz : wy.drewN _ = wz
      have BZ := Lib.hid (BY.out.trans ((hwz ▸ below_drewN (Below.refl wy.heap.size wy) _ : Below wy.heap.size wy wz).mono BY.out.size))
      clear hwz BY
      go_upto_block 2 with fail
      go_cut [13, 14, 15, 16] (fun x y u v wx' => ∃ X Y U V : Int, x = .int .i64 X ∧ y = .int .i64 Y ∧ u = .int .i64 U ∧ v = .int .i64 V ∧ Hid (atL W H L X Y = a ∧ atL W H L U V ≠ a) ∧ wx' = wz)
      case first =>
        have hwx : IntKind.i64.wrap (ax - 1) = ax - 1 := IntWalk.i64_in _ (by omega)
        have hwy : IntKind.i64.wrap (ay - 1) = ay - 1 := IntWalk.i64_in _ (by omega)
        obtain ⟨X, Y, U, V, hx, h⟩ := DR.out
        have HX := Lib.hid hx
        clear HPB DR hx
        rcases h with ⟨rfl, rfl, rfl, rfl, rfl, rfl⟩ | ⟨rfl, rfl, rfl, rfl, rfl, rfl⟩ | ⟨rfl, rfl, rfl, rfl, rfl, rfl⟩ | ⟨rfl, rfl, rfl, rfl, rfl, rfl⟩
        all_goals
          go_wp2_with fail
          go_meet
          exact ⟨_, _, _, _, rfl, rfl, rfl, rfl, HX, rfl⟩
      case rest =>
      obtain ⟨X, Y, U, V, rfl, rfl, rfl, rfl, HA, rfl⟩ := hcut
      clear DR HPB
      have K := KG.out _ (BX.out.trans (BZ.out.mono BX.out.size))
      obtain ⟨c0, c1, c2⟩ := K.1
      have RA := Lib.hid K.2.2
      clear K
      go_wp2_with fail
      refine (lrAt (cap := cap) RA.out.1 RA.out.2.2.1 HV.out X Y).mono ?_
      rintro e wa ⟨rfl, hb⟩
      rw [HA.out.1]
      have BA := Lib.hid (BZ.out.trans (hb.mono BZ.out.size))
      clear hb c0 c1 c2 RA
      have K := KG.out _ (BX.out.trans (BA.out.mono BX.out.size))
      obtain ⟨c0, c1, c2⟩ := K.1
      have RA := Lib.hid K.2.2
      clear K
      go_wp2_with fail
      refine (lrAt (cap := cap) RA.out.1 RA.out.2.2.1 HV.out U V).mono ?_
      rintro e wb ⟨rfl, hb⟩
      have hna : (atL W H L U V == a) = false := by simpa using HA.out.2
      have BB := Lib.hid (BA.out.trans (hb.mono BA.out.size))
      clear hb c0 c1 c2 RA
      go_wp2_with fail
      clear hna
      go_loopw [17] (fun kk wk => ∃ (k : Nat), k ≤ i ∧ kk = .int .i64 k ∧ Hid (Below wx.heap.size wx wk)) (fun kk _ => i - (intOf kk).toNat)
      case atStart => exact ⟨0, by omega, rfl, BB⟩
      case round =>
        rename World => wk
        obtain ⟨k, hk, rfl, hwk⟩ := hrel
        by_cases hki : k < i
        · have HON := Lib.hid (ON.out i k hlt hki)
          obtain ⟨f0, f1, f2, f3⟩ := FX.out _ hwk.out
          have R1 := (KG.out _ (BX.out.trans (hwk.out.mono BX.out.size))).2.1
          obtain ⟨b1, o1, px, py, hA1, hb1, hp1, p0, p1⟩ := R1.at_ (show k < P.length by omega)
          obtain ⟨b2, o2, qx, qy, hA2, hb2, hp2, p2, p3⟩ := R1.at_ (show k + 1 < P.length by omega)
          cases hA1
          cases hA2
          clear R1 hb1 hb2
          have hk0 : (0 : Int) ≤ (k : Int) := by omega
          have hk1 : (k : Int) < (P.length : Int) := by omega
          have hk2 : (0 : Int) ≤ (k : Int) + 1 := by omega
          have hk3 : (k : Int) + 1 < (P.length : Int) := by omega
          have hkw : IntKind.i64.wrap ((k : Int) + 1) = (k : Int) + 1 := IntWalk.i64_in _ (by omega)
          have HC : Hid (px = ax → py = ay → ¬ (qx = bx ∧ qy = bz)) := Lib.hid (by
            rintro rfl rfl ⟨rfl, rfl⟩
            apply HON.out
            rw [hj]
            exact ⟨hp1.trans HSN.out.1.symm, hp2.trans HSN.out.2.symm⟩)
          clear hp1 hp2 HON
          have hcs : (px ≠ ax ∨ (px = ax ∧ py ≠ ay)) ∨ (px = ax ∧ py = ay ∧ qx ≠ bx) ∨ (px = ax ∧ py = ay ∧ qx = bx ∧ qy ≠ bz) := by
            by_cases h1 : px = ax
            · by_cases h2 : py = ay
              · have := HC.out h1 h2
                by_cases h3 : qx = bx
                · exact .inr (.inr ⟨h1, h2, h3, fun h4 => this ⟨h3, h4⟩⟩)
                · exact .inr (.inl ⟨h1, h2, h3⟩)
              · exact .inl (.inr ⟨h1, h2⟩)
            · exact .inl (.inl h1)
          clear HC
          rcases hcs with (h1 | ⟨h1, h2⟩) | ⟨h1, h2, h3⟩ | ⟨h1, h2, h3, h4⟩
          · have hb1 : (px == ax) = false := by simpa using h1
            go_wp2
            go_quiet (fail)
            go_wp2
            go_roundw
            case rel => exact ⟨k + 1, by omega, by go_num, Lib.hid (below_drewN hwk.out _)⟩
            case measure => simp [intOf]; omega
          · subst h1
            have hb1 : (py == ay) = false := by simpa using h2
            go_wp2
            go_quiet (fail)
            go_wp2
            go_roundw
            case rel => exact ⟨k + 1, by omega, by go_num, Lib.hid (below_drewN hwk.out _)⟩
            case measure => simp [intOf]; omega
          · subst h1 h2
            have hb1 : (qx == bx) = false := by simpa using h3
            go_wp2
            go_quiet (fail)
            go_wp2
            go_roundw
            case rel => exact ⟨k + 1, by omega, by go_num, Lib.hid (below_drewN hwk.out _)⟩
            case measure => simp [intOf]; omega
          · subst h1 h2 h3
            have hb1 : (qy == bz) = false := by simpa using h4
            go_wp2
            go_quiet (fail)
            go_wp2
            go_roundw
            case rel => exact ⟨k + 1, by omega, by go_num, Lib.hid (below_drewN hwk.out _)⟩
            case measure => simp [intOf]; omega
        · go_wp2
          go_roundw
          case rel => exact ⟨i + 1, by omega, by go_num, Lib.hid (BX.out.trans (hwk.out.mono BX.out.size))⟩
          case measure => simp [intOf]; omega
    · go_wp2
      go_ret
      exact ⟨rfl, (KG.out _ hw.out).2.2.2.2.2⟩
end Go.Proofs.Ytdkcpnmaglkmnaa
