import Derived.Test.YtkoipecnmijfoaaGreatTT2
import Derived.Deep.DeepCutAuto
import Derived.Deep.RegionLaw
/-! Walks of the statement on firms, estates, turns and lies: the offers. -/
namespace Go.Proofs.YtkoipecnmijfoaaGreat
open Go.RowKit Go.Deep
set_option linter.unusedVariables false
set_option maxRecDepth 100000

/-- two rows of one number each, laid in either order -/
theorem ones2 (w : World) (x y : Int) (T T' : Nat) (hx : 0 ≤ x ∧ x ≤ 1000000) (hy : 0 ≤ y ∧ y ≤ 1000000) :
    (∀ u : World, u.heap = (((w.alloc (.cells #[.int .i64 x] T)).alloc (.cells #[.int .i64 y] T)).alloc (.cells #[.slice (some ⟨w.heap.size, 0, none⟩) 1 1, .slice (some ⟨w.heap.size + 1, 0, none⟩) 1 1] T')).heap → Rd2 u u.heap.size (some ⟨w.heap.size + 1 + 1, 0, none⟩) [[x], [y]]) ∧
    (∀ u : World, u.heap = (((w.alloc (.cells #[.int .i64 y] T)).alloc (.cells #[.int .i64 x] T)).alloc (.cells #[.slice (some ⟨w.heap.size + 1, 0, none⟩) 1 1, .slice (some ⟨w.heap.size, 0, none⟩) 1 1] T')).heap → Rd2 u u.heap.size (some ⟨w.heap.size + 1 + 1, 0, none⟩) [[x], [y]]) := by
  have one : ∀ (u : World) (g : Nat) (z : Int), 0 ≤ z ∧ z ≤ 1000000 → g < u.heap.size → u.heap[g]? = some (.cells #[.int .i64 z] T (0, 0)) → Rd u u.heap.size (some ⟨g, 0, none⟩) [z] := fun u g z hz hg hh => by
    have ho : Own u g T [z] := hh
    exact ho.rd (fun q hq => by simp at hq; unfold I64; omega) (by simp) hg
  constructor
  · intro u hu
    obtain ⟨h1, h2, h3, h4⟩ := three_heap w (.cells #[.int .i64 x] T) (.cells #[.int .i64 y] T) (.cells #[.slice (some ⟨w.heap.size, 0, none⟩) 1 1, .slice (some ⟨w.heap.size + 1, 0, none⟩) 1 1] T')
    rw [← hu] at h1 h2 h3
    have hs : u.heap.size = w.heap.size + 3 := by rw [hu]; simp
    refine ⟨by simp, fun _ => ⟨w.heap.size + 1 + 1, 0, rfl, by omega, fun i L hi => ?_⟩⟩
    match i, hi with
    | 0, hi => cases hi; exact ⟨_, _, (cell_of_row _ _ 0 _ _ (0, 0) h3).trans rfl, one u _ x hx (by omega) h1⟩
    | 1, hi => cases hi; exact ⟨_, _, (cell_of_row _ _ 1 _ _ (0, 0) h3).trans rfl, one u _ y hy (by omega) h2⟩
    | i + 2, hi => simp at hi
  · intro u hu
    obtain ⟨h1, h2, h3, h4⟩ := three_heap w (.cells #[.int .i64 y] T) (.cells #[.int .i64 x] T) (.cells #[.slice (some ⟨w.heap.size + 1, 0, none⟩) 1 1, .slice (some ⟨w.heap.size, 0, none⟩) 1 1] T')
    rw [← hu] at h1 h2 h3
    have hs : u.heap.size = w.heap.size + 3 := by rw [hu]; simp
    refine ⟨by simp, fun _ => ⟨w.heap.size + 1 + 1, 0, rfl, by omega, fun i L hi => ?_⟩⟩
    match i, hi with
    | 0, hi => cases hi; exact ⟨_, _, (cell_of_row _ _ 0 _ _ (0, 0) h3).trans rfl, one u _ x hx (by omega) h2⟩
    | 1, hi => cases hi; exact ⟨_, _, (cell_of_row _ _ 1 _ _ (0, 0) h3).trans rfl, one u _ y hy (by omega) h1⟩
    | i + 2, hi => simp at hi
set_option maxHeartbeats 4000000 in
theorem offered {w : World} {A A' : Option Addr} {S P : List Int} {cap cap' : Nat} (h : Rd w w.heap.size A S) (h' : Rd w w.heap.size A' P) :
    Calls Tryz.prog 5 #[.slice A S.length cap, .slice A' P.length cap'] w fun e w' => e = .returned (.bool true) ∧ Below w.heap.size w w' := by
  have H := Lib.hid fun (u : World) (hu : Below w.heap.size w u) => h.below hu (Nat.le_refl _)
  have H' := Lib.hid fun (u : World) (hu : Below w.heap.size w u) => h'.below hu (Nat.le_refl _)
  have l1 := h.len
  have l2 := h'.len
  have C0 := rOffers (cap := cap) (cap' := cap') h h'
  clear h h'
  by_cases hl : lok S P = 0
  case neg =>
    have q : (lok S P != 0) = true := by rw [bne_iff_ne]; exact hl
    generalize lok S P = lk at *
    clear hl
    go_enter Tryz.func5, Tryz.ntmps5
    go_wp2_with (go_at_call 16; refine C0.mono ?_; rintro e w' ⟨rfl, rfl⟩)
    go_ret
    exact ⟨rfl, Below.refl _ _⟩
  have hV := lok_ok hl
  obtain ⟨b, v, g, sec, eb, eg, hs⟩ := hV.sale
  have hbl := hs.best.lt_len
  have hv := hs.best.val
  have hvb := hV.bd v (List.mem_of_getElem? hv)
  have hby : byE S P = (b : Int) := by rw [byE_ok' hl]; exact eb
  rw [hl] at C0
  have HL := Lib.hid hl
  have HEB := Lib.hid eb
  have HV := Lib.hid hv
  have CB := dBuyer (cap := cap) (cap' := cap') (H.out _ (Below.refl _ _)) (H'.out _ (Below.refl _ _)) (Nat.le_refl _)
  rw [hl, hby] at CB
  have d1 : decide ((b : Int) < 0) = false := decide_eq_false (by omega)
  have d2 : decide ((P.length : Int) ≤ (b : Int)) = false := decide_eq_false (by omega)
  have d3 : decide (P.length ≤ b) = false := decide_eq_false (by omega)
  have hVV := Lib.hid hV
  clear hl hV eg hs hv hby eb
  go_enter Tryz.func5, Tryz.ntmps5
  go_wp2_with (go_at_call 16; refine C0.mono ?_; rintro e w' ⟨rfl, rfl⟩)
  refine CB.mono ?_
  rintro e w1 ⟨rfl, hb1⟩
  have HB1 := Lib.hid hb1
  clear hb1 CB C0
  obtain ⟨b1, o1, v', eA, _, hv', _, cv⟩ := (H'.out _ HB1.out).at_ (k := b) hbl
  rw [HV.out] at hv'
  obtain rfl : v = v' := Option.some.inj hv'
  have HCV := Lib.hid fun (u : World) (hu : Below w.heap.size w u) => by
    obtain ⟨b1', o1', v', eA', _, hv'', _, cv'⟩ := (H'.out _ hu).at_ (k := b) hbl
    rw [eA] at eA'
    cases eA'
    rw [HV.out] at hv''
    obtain rfl : v = v' := Option.some.inj hv''
    exact cv'
  subst eA
  clear hv'
  go_upto_if 42 with fail
  clear cv
  go_cut [4] (fun t wx => t = .bool false ∧ Hid (Below w.heap.size w wx))
  case first =>
    as_aux_lemma =>
    by_cases hv3 : v ≤ 300
    · obtain ⟨f1, f2, f3⟩ := buyer_law HL.out HEB.out HV.out hv3
      have CG := dGain (cap := cap) (cap' := cap') (H.out _ HB1.out) HB1.out.size (H'.out _ HB1.out) HB1.out.size 0 (b : Int) v
      rw [f1, f3] at CG
      have HCG := Lib.hid CG
      have CO := Lib.hid fun (u : World) (hu : Below w.heap.size w u) => dOffer (cap := cap) (cap' := cap') (H.out _ hu) hu.size (H'.out _ hu) hu.size 0 (b : Int) v 300
      rw [f2] at CO
      have cv := HCV.out _ HB1.out
      clear CG f1 f2 f3
      generalize (ofR S P 0 (b : Int) v 300).1 = r1 at *
      generalize (ofR S P 0 (b : Int) v 300).2 = r2 at *
      have s1 : (r2 != r2) = false := bne_self_eq_false r2
      go_wp2_with fail
      refine HCG.out.mono ?_
      rintro e w2 ⟨rfl, hb2⟩
      have HB2 := Lib.hid (HB1.out.trans (hb2.mono HB1.out.size))
      clear hb2 HCG cv
      have cv := HCV.out _ HB2.out
      go_wp2_with fail
      refine (CO.out _ HB2.out).mono ?_
      rintro e w3 ⟨rfl, hb3⟩
      have HB3 := Lib.hid (HB2.out.trans (hb3.mono HB2.out.size))
      clear hb3 CO cv
      go_wp2
      go_meet
      exact ⟨rfl, HB3⟩
    · have s1 : decide (v ≤ 300) = false := decide_eq_false hv3
      go_wp2
      go_meet
      exact ⟨rfl, HB1⟩
  case rest =>
  obtain ⟨rfl, HB2⟩ := hcut
  clear HB1 hbl hvb d1 d2 d3 HCV HV
  by_cases hn : S.length = 2
  case neg =>
    have q : ((S.length : Int) != 2) = true := by rw [bne_iff_ne]; omega
    clear hn
    go_wp2
    go_quiet (fail)
    go_wp2
    go_ret
    exact ⟨rfl, below_drewN HB2.out _⟩
  have hlen := hVV.out.len
  obtain ⟨s0, s1, rfl⟩ : ∃ s0 s1, S = [s0, s1] := by
    match S, hn with
    | [a, b], _ => exact ⟨a, b, rfl⟩
  obtain ⟨x, y, rfl⟩ : ∃ x y, P = [x, y] := by
    match P, hlen with
    | [a, b], _ => exact ⟨a, b, rfl⟩
  have hposs := hVV.out.v.pos s0 (by simp)
  have hsum : s0 + s1 ≤ 1000 := by have := hVV.out.v.sum; simp [sumL] at this; omega
  have hxb := hVV.out.bd x (by simp)
  have hyb := hVV.out.bd y (by simp)
  clear hn hlen HEB l1 l2
  rw [show [s0, s1].length = 2 from rfl, show [x, y].length = 2 from rfl]
  have CEL : Hid (∀ u, Below w.heap.size w u → ∃ bS oS, A = some ⟨bS, oS, none⟩ ∧ u.cell? ⟨bS, oS, none⟩ = some (.int .i64 s0) ∧ u.cell? ⟨bS, oS + 1, none⟩ = some (.int .i64 s1)) := Lib.hid fun u hu => by
    obtain ⟨bS, oS, e, _, hc⟩ := (H.out u hu).2.2 (by simp)
    exact ⟨bS, oS, e, hc 0 s0 rfl, hc 1 s1 rfl⟩
  have CEP : Hid (∀ u, Below w.heap.size w u → u.cell? ⟨b1, o1, none⟩ = some (.int .i64 x) ∧ u.cell? ⟨b1, o1 + 1, none⟩ = some (.int .i64 y)) := Lib.hid fun u hu => by
    obtain ⟨bS, oS, e, _, hc⟩ := (H'.out u hu).2.2 (by simp)
    cases e
    exact ⟨hc 0 x rfl, hc 1 y rfl⟩
  obtain ⟨bS, oS, rfl, k0, k1⟩ := CEL.out _ HB2.out
  by_cases hss : s0 = s1
  case neg =>
    have q : (s0 != s1) = true := by rw [bne_iff_ne]; exact hss
    clear hss
    go_wp2
    go_quiet (fail)
    go_wp2
    go_ret
    exact ⟨rfl, below_drewN HB2.out _⟩
  subst hss
  have q : (s0 != s0) = false := bne_self_eq_false s0
  obtain ⟨pb, hp, hse⟩ := pay_two HL.out
  obtain ⟨pq, hpq⟩ : ∃ pq : Int, pq = if x < y then ((x + y) / 2) / 2 else -(((x + y) / 2) / 2) := ⟨_, rfl⟩
  rw [← hpq] at hp
  have HPQ := Lib.hid hpq
  have hpqb : -1000000 ≤ pq ∧ pq ≤ 1000000 := by rw [hpq]; split <;> omega
  have h2 : Two s0 x y := ⟨hposs, by omega, hxb.1, hxb.2, hyb.1, hyb.2⟩
  have H2 := Lib.hid h2
  have CP := Lib.hid fun (u : World) (hu : Below w.heap.size w u) => dPay (cap := cap) (cap' := cap') (H.out u hu) hu.size (H'.out u hu) hu.size 1
  rw [hp, hse] at CP
  clear hpq hp hse h2 HL hVV hsum
  go_wp2
  go_quiet (fail)
  have HB3 := Lib.hid (below_drewN HB2.out nq)
  clear k0 k1 HB2
  generalize wc.drewN nq = wd at *
  go_wp2_with fail
  refine (CP.out _ HB3.out).mono ?_
  rintro e w3 ⟨A2, c2, rfl, hr2, hb3⟩
  have HB4 := Lib.hid (HB3.out.trans (hb3.mono HB3.out.size))
  have HR2 := Lib.hid hr2
  clear hr2 hb3 CP HB3
  rw [show [pq, pb].length = 2 from rfl]
  obtain ⟨k0, k1⟩ := CEP.out _ HB4.out
  obtain ⟨o1', o2'⟩ := ones2 w3 x y 3 22 hxb hyb
  have CE1 : Hid (∀ u : World, u.heap = (((w3.alloc (.cells #[.int .i64 x] 3)).alloc (.cells #[.int .i64 y] 3)).alloc (.cells #[.slice (some ⟨w3.heap.size, 0, none⟩) 1 1, .slice (some ⟨w3.heap.size + 1, 0, none⟩) 1 1] 22)).heap → Below w3.heap.size w3 u →
      Calls Tryz.prog 15 #[.agg #[.slice (some ⟨bS, oS, none⟩) 2 cap, .slice (some ⟨w3.heap.size + 1 + 1, 0, none⟩) 2 2]] u (PayERes u s0 x y)) := Lib.hid fun u hu hb => ePay (cs := cap) (cb := 2) (H.out u (HB4.out.trans (hb.mono HB4.out.size))) (o1' u hu) (HB4.out.trans (hb.mono HB4.out.size)).size (Nat.le_refl _) H2.out
  have CE2 : Hid (∀ u : World, u.heap = (((w3.alloc (.cells #[.int .i64 y] 3)).alloc (.cells #[.int .i64 x] 3)).alloc (.cells #[.slice (some ⟨w3.heap.size + 1, 0, none⟩) 1 1, .slice (some ⟨w3.heap.size, 0, none⟩) 1 1] 22)).heap → Below w3.heap.size w3 u →
      Calls Tryz.prog 15 #[.agg #[.slice (some ⟨bS, oS, none⟩) 2 cap, .slice (some ⟨w3.heap.size + 1 + 1, 0, none⟩) 2 2]] u (PayERes u s0 x y)) := Lib.hid fun u hu hb => ePay (cs := cap) (cb := 2) (H.out u (HB4.out.trans (hb.mono HB4.out.size))) (o2' u hu) (HB4.out.trans (hb.mono HB4.out.size)).size (Nat.le_refl _) H2.out
  clear o1' o2'
  have HCE1 := Lib.hid (CE1.out ((((w3.alloc (.cells #[.int .i64 x] 3)).alloc (.cells #[.int .i64 y] 3)).alloc (.cells #[.slice (some ⟨w3.heap.size, 0, none⟩) 1 1, .slice (some ⟨w3.heap.size + 1, 0, none⟩) 1 1] 22)).drew) rfl (three_heap w3 _ _ _).2.2.2.drew)
  have HCE2 := Lib.hid (CE2.out ((((w3.alloc (.cells #[.int .i64 y] 3)).alloc (.cells #[.int .i64 x] 3)).alloc (.cells #[.slice (some ⟨w3.heap.size + 1, 0, none⟩) 1 1, .slice (some ⟨w3.heap.size, 0, none⟩) 1 1] 22)).drew) rfl (three_heap w3 _ _ _).2.2.2.drew)
  have HX1 : Hid (Below w3.heap.size w3 ((((w3.alloc (.cells #[.int .i64 x] 3)).alloc (.cells #[.int .i64 y] 3)).alloc (.cells #[.slice (some ⟨w3.heap.size, 0, none⟩) 1 1, .slice (some ⟨w3.heap.size + 1, 0, none⟩) 1 1] 22)).drew)) := Lib.hid (three_heap w3 _ _ _).2.2.2.drew
  have HX2 : Hid (Below w3.heap.size w3 ((((w3.alloc (.cells #[.int .i64 y] 3)).alloc (.cells #[.int .i64 x] 3)).alloc (.cells #[.slice (some ⟨w3.heap.size + 1, 0, none⟩) 1 1, .slice (some ⟨w3.heap.size, 0, none⟩) 1 1] 22)).drew)) := Lib.hid (three_heap w3 _ _ _).2.2.2.drew
  clear CE1 CE2
  have ka1 := (CEP.out _ (HB4.out.alloc HB4.out.size (.cells #[.int .i64 x] 3))).2
  have ka0 := (CEP.out _ (HB4.out.alloc HB4.out.size (.cells #[.int .i64 y] 3))).1
  go_upto_region 14 with fail
  go_cut [14, 15] (fun t e wx => ∃ g a b, t = .slice (some ⟨g, 0, none⟩) 2 2 ∧ e = .int .i64 0 ∧ Hid (Own wx g 3 [a, b]) ∧ Hid (PayOk s0 x y a b ∧ I64 a ∧ I64 b) ∧ Hid (Below w3.heap.size w3 wx))
  case first =>
    as_aux_lemma =>
    go_region_law (first
      | (go_simp; go_at_call 15; (with_reducible refine HCE1.out.mono ?_); rintro e w5 ⟨g, a, b', rfl, hO, hP, hI, hb5⟩; have hbx := HX1.out.trans (hb5.mono HX1.out.size))
      | (go_simp; go_at_call 15; (with_reducible refine HCE2.out.mono ?_); rintro e w5 ⟨g, a, b', rfl, hO, hP, hI, hb5⟩; have hbx := HX2.out.trans (hb5.mono HX2.out.size)))
    all_goals
      (try go_wp2_with fail)
      go_meet
      exact ⟨g, a, b', rfl, rfl, Lib.hid hO, Lib.hid ⟨hP, hI⟩, Lib.hid hbx⟩
  case rest =>
  obtain ⟨g, a, b', rfl, rfl, HO, HPI, HB5⟩ := hcut
  have HN := Lib.hid (near_two (q := pq) hposs HPI.out.1 HPQ.out)
  have hI := HPI.out.2.1
  unfold I64 at hI
  have HR5 := Lib.hid (HR2.out.below HB5.out (Nat.le_refl _))
  have HB6 := Lib.hid (HB4.out.trans (HB5.out.mono HB4.out.size))
  obtain ⟨b2, o2, e2, _, hcA⟩ := HR5.out.2.2 (by simp)
  subst e2
  have hcq := hcA 0 pq rfl
  have hca := HO.out.cell (i := 0) (x := a) rfl
  rw [Nat.add_zero] at hcq
  have n1 := HN.out.1
  have n2 := HN.out.2
  have e1 : IntKind.i64.wrap (pq - a) = pq - a := IntWalk.i64_in _ (by omega)
  have e2 : IntKind.i64.wrap (a - pq) = a - pq := IntWalk.i64_in _ (by omega)
  have m1 : decide (pq - a ≤ 1) = true := decide_eq_true n1
  have m2 : decide (a - pq ≤ 1) = true := decide_eq_true n2
  clear hcA HCE1 HCE2 ka0 ka1 k0 k1 HB4 n1 n2 hI
  go_wp2
  go_quiet (fail)
  go_wp2
  go_ret
  exact ⟨rfl, below_drewN HB6.out _⟩
end Go.Proofs.YtkoipecnmijfoaaGreat
