import Derived.Deep.DeepCutAuto
import Derived.Deep.CutBlock
import Derived.Test.YtdkcpnmaglkmnaaW30y
import Derived.Test.YtdkcpnmaglkmnaaW30Gr
import Derived.Test.YtdkcpnmaglkmnaaW30c
import Derived.Test.YtdkcpnmaglkmnaaS30q
/-! The walk of the statement LandBorders. -/
namespace Go.Proofs.Ytdkcpnmaglkmnaa
open Go.RowKit Go.Deep
set_option linter.unusedVariables false
set_option maxRecDepth 100000

theorem sidesN_le {W H : Nat} {L : List Int} (v : VL W H L) (a : Int) (p : Int → Bool) : sidesN W H L a p ≤ 576 := by
  have h1 : sidesN W H L a p ≤ L.length * 4 := sumN_le fun i _ => by
    unfold sideG
    split
    · exact sumN_le (c := 1) fun j _ => one_le _
    · omega
  have := v.len144
  omega
theorem brdTo_le {W H : Nat} {L : List Int} (v : VL W H L) (a : Int) (c : Nat) : brdTo W H L a c ≤ c * 576 :=
  sumN_le fun c _ => by
    split
    · omega
    · exact sidesN_le v a _
/-- the sides of the first k places beside nobody -/
def nobTo (W H : Nat) (L : List Int) (a : Int) (k : Nat) : Nat := sumN k (sideG W H L a (fun x => decide (x < 0)))
theorem nobTo_le {W H : Nat} {L : List Int} (v : VL W H L) (a : Int) {k : Nat} (hk : k ≤ L.length) : nobTo W H L a k ≤ 576 := by
  have h1 : nobTo W H L a k ≤ k * 4 := sumN_le fun i _ => by
    unfold sideG
    split
    · exact sumN_le (c := 1) fun j _ => one_le _
    · omega
  have := v.len144
  omega
/-- the sides of a place beside nobody, the first j ways -/
def nobAt (W H : Nat) (L : List Int) (i j : Nat) : Nat := sumN j (fun j => one (decide (atL W H L ((i : Int) % W + dxI j) ((i : Int) / W + dyI j) < 0)))
theorem nobAt_le (W H : Nat) (L : List Int) (i j : Nat) : nobAt W H L i j ≤ j := by
  have := sumN_le (n := j) (f := fun j => one (decide (atL W H L ((i : Int) % W + dxI j) ((i : Int) / W + dyI j) < 0))) (c := 1) fun j _ => one_le _
  rw [Nat.mul_one] at this
  exact this
theorem nobTo_mine {W H : Nat} {L : List Int} {a : Int} {k : Nat} (h : L.getD k 0 = a) : nobTo W H L a (k + 1) = nobTo W H L a k + nobAt W H L k 4 := by
  rw [nobTo, sumN_succ, sideG, if_pos h]; rfl
theorem nobTo_not {W H : Nat} {L : List Int} {a : Int} {k : Nat} (h : L.getD k 0 ≠ a) : nobTo W H L a (k + 1) = nobTo W H L a k := by
  rw [nobTo, sumN_succ, sideG, if_neg h]; rfl
theorem nobAt_succ (W H : Nat) (L : List Int) (i j : Nat) : nobAt W H L i (j + 1) = nobAt W H L i j + one (decide (atL W H L ((i : Int) % W + dxI j) ((i : Int) / W + dyI j) < 0)) := rfl
theorem brdTo_succ (W H : Nat) (L : List Int) (a : Int) (c : Nat) : brdTo W H L a (c + 1) = brdTo W H L a c + if (c : Int) = a then 0 else sidesN W H L a (fun x => x == (c : Int)) := rfl
theorem brd_ne {W H : Nat} {L : List Int} (v : VL W H L) {a b : Int} (a0 : 0 ≤ a) (a1 : a < 6) (b0 : 0 ≤ b) (b1 : b < 6) (h : a ≠ b) : brdE W H L a b = 0 ∧ brdN W H L a b = (sidesN W H L a (fun x => x == b) : Nat) := by
  have hk : lkd W H L a = 0 := lkd_ok (lck_of v) (by omega)
  have he : brdE W H L a b = 0 := by
    rw [brdE, if_neg (by simp [hk]), if_neg]
    rintro (h1 | h1 | h1)
    · omega
    · omega
    · exact h h1
  exact ⟨he, by rw [brdN, if_pos he, Int.toNat_natCast, Int.toNat_natCast]⟩
theorem brd_eq {W H : Nat} {L : List Int} (v : VL W H L) {a : Int} (a0 : 0 ≤ a) (a1 : a < 6) : brdE W H L a a = 2 ∧ brdN W H L a a = 0 := by
  have hk : lkd W H L a = 0 := lkd_ok (lck_of v) (by omega)
  have he : brdE W H L a a = 2 := by rw [brdE, if_neg (by simp [hk]), if_pos (.inr (.inr rfl))]
  exact ⟨he, by rw [brdN, he]; rfl⟩
/-- both borders -/
theorem brd_two {W H : Nat} {L : List Int} (v : VL W H L) {a b : Int} (a0 : 0 ≤ a) (a1 : a < 6) (b0 : 0 ≤ b) (b1 : b < 6) :
    ∃ x y : Int, brdE W H L a b = x ∧ brdE W H L b a = x ∧ brdN W H L a b = y ∧ brdN W H L b a = y ∧ ((x = 2 ∧ a = b) ∨ (x = 0 ∧ a ≠ b)) := by
  by_cases h : a = b
  · subst h
    obtain ⟨h1, h2⟩ := brd_eq v a0 a1
    exact ⟨2, 0, h1, h1, h2, h2, .inl ⟨rfl, rfl⟩⟩
  · obtain ⟨h1, h2⟩ := brd_ne v a0 a1 b0 b1 h
    obtain ⟨h3, h4⟩ := brd_ne v b0 b1 a0 a1 (Ne.symm h)
    refine ⟨0, _, h1, h3, h2, ?_, .inr ⟨rfl, h⟩⟩
    rw [h4, border_comm v b0 a0]

set_option maxHeartbeats 16000000 in
theorem landBorders {w : World} {A : Option Addr} {L : List Int} {cap : Nat} (h : Rd w w.heap.size A L) (W H a b : Int) (_h1 : I64 W) (_h2 : I64 H) (_h3 : I64 a) (_h4 : I64 b) :
    Calls Try.prog 8 #[.agg #[.int .i64 W, .int .i64 H, .slice A L.length cap], .int .i64 a, .int .i64 b] w fun e w' => e = .returned (.bool true) ∧ Below w.heap.size w w' := by
  have hal : Below w.heap.size w (w.alloc (.cells #[.int .i64 W, .int .i64 H, .slice A L.length cap] 24)) := (Below.refl _ _).alloc (Nat.le_refl _) _
  have hsz : (w.alloc (.cells #[.int .i64 W, .int .i64 H, .slice A L.length cap] 24)).heap.size = w.heap.size + 1 := by simp
  have b0 : (w.alloc (.cells #[.int .i64 W, .int .i64 H, .slice A L.length cap] 24)).cell? ⟨w.heap.size, 0, none⟩ = some (.int .i64 W) := by simp
  have b1 : (w.alloc (.cells #[.int .i64 W, .int .i64 H, .slice A L.length cap] 24)).cell? ⟨w.heap.size, 1, none⟩ = some (.int .i64 H) := by simp
  have b2 : (w.alloc (.cells #[.int .i64 W, .int .i64 H, .slice A L.length cap] 24)).cell? ⟨w.heap.size, 2, none⟩ = some (.slice A L.length cap) := by simp
  have hlen := h.len
  have HR : Hid (∀ u, Below w.heap.size w u → w.heap.size ≤ u.heap.size ∧ Rd u w.heap.size A L) := Lib.hid fun u hu => ⟨hu.size, h.below hu (Nat.le_refl _)⟩
  have HSZ := Lib.hid hsz
  have HAL := Lib.hid hal
  clear h hal hsz _h1 _h2 _h3 _h4
  go_enter Try.func8, Try.ntmps8
  go_wp2_with fail
  generalize w.alloc (.cells #[.int .i64 W, .int .i64 H, .slice A L.length cap] 24) = w0 at *
  have HB0 := Lib.hid (And.intro b0 (And.intro b1 b2))
  have KEEP : Hid (∀ u, Below w0.heap.size w0 u → u.cell? ⟨w.heap.size, 0, none⟩ = some (.int .i64 W) ∧ u.cell? ⟨w.heap.size, 1, none⟩ = some (.int .i64 H) ∧ u.cell? ⟨w.heap.size, 2, none⟩ = some (.slice A L.length cap)) := Lib.hid fun u hu => by
    have hz := HSZ.out
    exact ⟨((bcell hu).1 _ _ (by omega)).trans HB0.out.1, ((bcell hu).1 _ _ (by omega)).trans HB0.out.2.1, ((bcell hu).1 _ _ (by omega)).trans HB0.out.2.2⟩
  have TOT : Hid (∀ u, Below w0.heap.size w0 u → Below w.heap.size w u) := Lib.hid fun u hu => HAL.out.trans (hu.mono HAL.out.size)
  refine (alive30 w0).mono ?_
  rintro e w1 ⟨rfl, hb⟩
  have B1 := Lib.hid hb
  clear hb b0 b1 b2
  obtain ⟨c0, c1, c2⟩ := KEEP.out _ B1.out
  have R := HR.out _ (TOT.out _ B1.out)
  go_wp2_with fail
  refine (great30b W H hlen).mono ?_
  rintro e w2 ⟨g1, rfl, hgr, hb⟩
  have HGR := Lib.hid hgr
  clear hgr
  have B2 := Lib.hid (B1.out.trans (hb.mono B1.out.size))
  clear hb c0 c1 c2 R
  obtain ⟨c0, c1, c2⟩ := KEEP.out _ B2.out
  have R := HR.out _ (TOT.out _ B2.out)
  cases g1
  case true =>
    go_wp2
    go_ret
    exact ⟨rfl, TOT.out _ B2.out⟩
  case false =>
  go_wp2_with fail
  refine (lrCheck R.2 R.1 W H).mono ?_
  rintro e w3 ⟨rfl, hb⟩
  have B3 := Lib.hid (B2.out.trans (hb.mono B2.out.size))
  clear hb c0 c1 c2 R
  obtain ⟨c0, c1, c2⟩ := KEEP.out _ B3.out
  have R := HR.out _ (TOT.out _ B3.out)
  by_cases hl : lck W H L = 0
  case neg =>
    have hne : (lck W H L != 0) = true := by simpa using hl
    generalize lck W H L = c at *
    go_wp2
    go_ret
    exact ⟨rfl, TOT.out _ B3.out⟩
  case pos =>
  obtain ⟨W, H, rfl, rfl, hv⟩ := lck_zero hl
  have HL := Lib.hid hl
  have HV := Lib.hid hv
  rw [hl]
  clear hl hv
  by_cases q1 : a < 0
  case pos =>
    go_wp2
    go_ret
    exact ⟨rfl, TOT.out _ B3.out⟩
  case neg =>
  by_cases q2 : 6 ≤ a
  case pos =>
    go_wp2
    go_ret
    exact ⟨rfl, TOT.out _ B3.out⟩
  case neg =>
  by_cases q3 : b < 0
  case pos =>
    go_wp2
    go_ret
    exact ⟨rfl, TOT.out _ B3.out⟩
  case neg =>
  by_cases q4 : 6 ≤ b
  case pos =>
    go_wp2
    go_ret
    exact ⟨rfl, TOT.out _ B3.out⟩
  case neg =>
  have KG : Hid (∀ u, Below w3.heap.size w3 u → (u.cell? ⟨w.heap.size, 0, none⟩ = some (.int .i64 (W : Int)) ∧ u.cell? ⟨w.heap.size, 1, none⟩ = some (.int .i64 (H : Int)) ∧ u.cell? ⟨w.heap.size, 2, none⟩ = some (.slice A L.length cap)) ∧ Rd u w.heap.size A L ∧ w.heap.size ≤ u.heap.size ∧ Below w.heap.size w u) := Lib.hid fun u hu => by
    have hu0 := B3.out.trans (hu.mono B3.out.size)
    exact ⟨KEEP.out _ hu0, (HR.out _ (TOT.out _ hu0)).2, (HR.out _ (TOT.out _ hu0)).1, TOT.out _ hu0⟩
  have hab : 0 ≤ a ∧ a < 6 ∧ 0 ≤ b ∧ b < 6 := by omega
  have HAB := Lib.hid hab
  obtain ⟨x, y, p1, p2, p3, p4, p5⟩ := brd_two HV.out hab.1 hab.2.1 hab.2.2.1 hab.2.2.2
  have P1 := Lib.hid p1
  have P2 := Lib.hid p2
  have P3 := Lib.hid p3
  have P4 := Lib.hid p4
  have P5 := Lib.hid p5
  have hlk : lkd W H L a = 0 := lkd_ok (lck_of HV.out) (by omega)
  have HBD : Hid (bdyN W H L a = ((brdTo W H L a 6 + nobTo W H L a L.length : Nat) : Int)) := Lib.hid (by
    rw [bdyN, if_pos hlk, Int.toNat_natCast, Int.toNat_natCast, borders_law HV.out hab.1]; rfl)
  have HLK := Lib.hid hlk
  clear p1 p2 p3 p4 p5 TOT KEEP HR HSZ HAL HB0 HGR B1 B2 B3 hlk hab
  go_wp2_with fail
  refine (lBorder R.2 R.1 W H a b).mono ?_
  rintro e w4 ⟨rfl, hb⟩
  rw [P1.out, P3.out]
  have B4 := Lib.hid hb
  clear hb c0 c1 c2 R
  obtain ⟨⟨c0, c1, c2⟩, R, Z, _⟩ := KG.out _ B4.out
  go_wp2_with fail
  refine (lBorder R Z W H b a).mono ?_
  rintro e w5 ⟨rfl, hb⟩
  rw [P2.out, P4.out]
  have B5 := Lib.hid (B4.out.trans (hb.mono B4.out.size))
  clear hb c0 c1 c2 R Z
  obtain ⟨⟨c0, c1, c2⟩, R, Z, _⟩ := KG.out _ B5.out
  have hq : (x == 2) = (a == b) := by
    rcases P5.out with ⟨rfl, rfl⟩ | ⟨rfl, h2⟩
    · simp
    · have : (a == b) = false := by simpa using h2
      rw [this]; rfl
  go_wp2_with fail
  refine (lBoundary R Z W H a).mono ?_
  rintro e w6 ⟨rfl, hb⟩
  rw [HLK.out, HBD.out]
  have B6 := Lib.hid (B5.out.trans (hb.mono B5.out.size))
  clear hb c0 c1 c2 R Z hq
  clear P1 P2 P3 P4 P5 HBD
  have V := Lib.hid HV.out
  generalize hN : brdTo W H L a 6 + nobTo W H L a L.length = N
  have HN := Lib.hid hN
  clear hN
  go_wp2_with fail
  go_loopw [14, 15] (fun s c wr => ∃ (m k : Nat), k ≤ 6 ∧ s = .int .i64 m ∧ c = .int .i64 k ∧ Hid (m = brdTo W H L a k) ∧ Hid (Below w3.heap.size w3 wr)) (fun s c _ => 6 - (intOf c).toNat)
  case atStart => exact ⟨0, 0, by omega, rfl, rfl, Lib.hid rfl, B6⟩
  case round =>
    obtain ⟨m, k, hk, rfl, rfl, hm, hw⟩ := hrel
    have hmb : m ≤ 3456 := by have := brdTo_le HV.out a k; have := hm.out; omega
    by_cases hlt : k < 6
    · by_cases hka : (k : Int) = a
      · have hm2 : Hid (m = brdTo W H L a (k + 1)) := Lib.hid (by rw [brdTo_succ, if_pos hka]; exact hm.out)
        have hb1 : ((k : Int) != a) = false := by simpa using hka
        go_wp2
        go_roundw
        case rel => exact ⟨m, k + 1, by omega, by go_num, by go_num, hm2, hw⟩
        case measure => simp [intOf]; omega
      · have hb1 : ((k : Int) != a) = true := by simpa using hka
        obtain ⟨⟨c0, c1, c2⟩, R, Z, _⟩ := KG.out _ hw.out
        have RR := Lib.hid R
        have ZZ := Lib.hid Z
        obtain ⟨n1, n2⟩ := brd_ne HV.out HAB.out.1 HAB.out.2.1 (show (0 : Int) ≤ (k : Int) by omega) (show (k : Int) < 6 by omega) (Ne.symm hka)
        have N1 := Lib.hid n1
        have N2 := Lib.hid n2
        have hm2 : Hid (m + sidesN W H L a (fun x => x == (k : Int)) = brdTo W H L a (k + 1)) := Lib.hid (by rw [brdTo_succ, if_neg hka, hm.out])
        have hle := sidesN_le HV.out a (fun x => x == (k : Int))
        clear n1 n2 R Z hka
        go_wp2_with fail
        refine (lBorder (cap := cap) RR.out ZZ.out W H a k).mono ?_
        rintro e w7 ⟨rfl, hb⟩
        rw [N1.out, N2.out]
        have B7 := Lib.hid (hw.out.trans (hb.mono hw.out.size))
        generalize sidesN W H L a (fun x => x == (k : Int)) = z at *
        clear hb c0 c1 c2 hw N1 N2 RR ZZ hm
        go_wp2
        go_roundw
        case rel => exact ⟨m + z, k + 1, by omega, by go_num, by go_num, hm2, B7⟩
        case measure => simp [intOf]; omega
    · have hm6 : Hid (m = brdTo W H L a 6) := Lib.hid (by have hk6 : k = 6 := by omega
                                                          rw [hm.out, hk6])
      clear hm
      go_wp2_with fail
      go_loopw [14, 18] (fun s c wr => ∃ (m k : Nat), k ≤ L.length ∧ s = .int .i64 m ∧ c = .int .i64 k ∧ Hid (m = brdTo W H L a 6 + nobTo W H L a k) ∧ Hid (Below w3.heap.size w3 wr)) (fun s c _ => L.length - (intOf c).toNat)
      case atStart => exact ⟨m, 0, by omega, rfl, rfl, Lib.hid (by rw [hm6.out]; rfl), hw⟩
      case round =>
        rename World => wo
        clear hw hm6 hmb
        obtain ⟨m, k, hk, rfl, rfl, hm, hw⟩ := hrel
        have hmb : m ≤ 4032 := by have := brdTo_le HV.out a 6; have := nobTo_le HV.out a hk; have := hm.out; omega
        obtain ⟨⟨c0, c1, c2⟩, R, Z, _⟩ := KG.out _ hw.out
        by_cases hlt : k < L.length
        · obtain ⟨bb, off, own, rfl, hbb, hown, howi, howc⟩ := R.at_ hlt
          have hgd : L.getD k 0 = own := by rw [List.getD_eq_getElem?_getD, hown]; rfl
          have l144 := HV.out.len144
          clear hown hbb R Z
          by_cases hoa : own = a
          · have hm2 : Hid (∀ j, m + nobAt W H L k j = brdTo W H L a 6 + nobTo W H L a k + nobAt W H L k j) := Lib.hid (fun j => by rw [hm.out])
            have hm3 : Hid (nobTo W H L a (k + 1) = nobTo W H L a k + nobAt W H L k 4) := Lib.hid (nobTo_mine (by rw [hgd, hoa]))
            have hb1 : (own != a) = false := by simpa using hoa
            clear hgd hoa
            go_wp2_with fail
            clear howc howi hb1 c0 c1 c2
            go_loopw [14, 19] (fun s c wr => ∃ (n j : Nat), j ≤ 4 ∧ s = .int .i64 n ∧ c = .int .i64 j ∧ Hid (n = m + nobAt W H L k j) ∧ Hid (Below w3.heap.size w3 wr)) (fun s c _ => 4 - (intOf c).toNat)
            case atStart => exact ⟨m, 0, by omega, rfl, rfl, Lib.hid rfl, hw⟩
            case round =>
              rename World => wq
              obtain ⟨n, j, hj, rfl, rfl, hn, hwq⟩ := hrel
              have hnb : n ≤ 4036 := by have := nobAt_le W H L k j; have := hn.out; omega
              obtain ⟨⟨c0, c1, c2⟩, R, Z, _⟩ := KG.out _ hwq.out
              by_cases hj4 : j < 4
              · have hW0 := HV.out.w0
                have hW12 := HV.out.w1
                have d1 : W ≠ 0 := by omega
                have t1 : Int.tmod (k : Int) W = (k : Int) % W := Int.tmod_eq_emod_of_nonneg (by omega)
                have t3 : Int.tdiv (k : Int) W = (k : Int) / W := Int.tdiv_eq_ediv_of_nonneg (by omega)
                obtain ⟨i0, i1, i2, i3⟩ := divmod_bd (W := W) (i := k) hW0 (by omega)
                have v1 : IntKind.i64.wrap ((k : Int) / W) = (k : Int) / W := IntWalk.i64_in _ (by omega)
                have v2 : IntKind.i64.wrap ((k : Int) / W + 1) = (k : Int) / W + 1 := IntWalk.i64_in _ (by omega)
                have v3 : IntKind.i64.wrap ((k : Int) / W - 1) = (k : Int) / W - 1 := IntWalk.i64_in _ (by omega)
                have v4 : IntKind.i64.wrap ((k : Int) % W + 1) = (k : Int) % W + 1 := IntWalk.i64_in _ (by omega)
                have v5 : IntKind.i64.wrap ((k : Int) % W - 1) = (k : Int) % W - 1 := IntWalk.i64_in _ (by omega)
                clear R Z
                obtain ⟨z, hz⟩ : ∃ z, atL W H L ((k : Int) % W + dxI j) ((k : Int) / W + dyI j) = z := ⟨_, rfl⟩
                have hm4 : Hid (n + one (decide (z < 0)) = m + nobAt W H L k (j + 1)) := Lib.hid (by
                  rw [nobAt_succ, hz, hn.out]; omega)
                have HZ := Lib.hid hz
                clear hz hn
                go_wp2_with fail
                go_quiet (fail)
                clear c0 c1 c2
                generalize hwy : wq.drewN _ = wy
                have BY := Lib.hid (hwq.out.trans ((hwy ▸ below_drewN (Below.refl wq.heap.size wq) _ : Below wq.heap.size wq wy).mono hwq.out.size))
                clear hwy t1 t3 v1 d1
                have I0 := Lib.hid i0
                have I1 := Lib.hid i1
                clear i0 i1 i2 i3
                go_upto_block 6 with fail
                go_cut [20, 21] (fun x y wx => ∃ X Y : Int, x = .int .i64 X ∧ y = .int .i64 Y ∧ Hid (X = (k : Int) % W + dxI j ∧ Y = (k : Int) / W + dyI j) ∧ wx = wy)
                case first =>
                  have hcj : j = 0 ∨ j = 1 ∨ j = 2 ∨ j = 3 := by omega
                  clear hm4 HZ hnb
                  rcases hcj with rfl | rfl | rfl | rfl
                  all_goals
                    go_wp2_with fail
                    go_meet
                    exact ⟨_, _, rfl, rfl, Lib.hid ⟨by simp [dxI] <;> omega, by simp [dyI] <;> omega⟩, rfl⟩
                case rest =>
                obtain ⟨X, Y, rfl, rfl, HXY, rfl⟩ := hcut
                clear v2 v3 v4 v5
                obtain ⟨⟨c0, c1, c2⟩, R, Z, _⟩ := KG.out _ BY.out
                have RR := Lib.hid R
                have ZZ := Lib.hid Z
                clear R Z
                go_wp2_with fail
                refine (lrAt (cap := cap) RR.out ZZ.out HV.out X Y).mono ?_
                rintro e wa ⟨rfl, hb⟩
                rw [HXY.out.1, HXY.out.2, HZ.out]
                have BA := Lib.hid (BY.out.trans (hb.mono BY.out.size))
                clear hb c0 c1 c2 RR ZZ
                by_cases hz0 : z < 0
                · have hm5 : Hid (n + 1 = m + nobAt W H L k (j + 1)) := Lib.hid (by rw [← hm4.out, decide_eq_true hz0]; rfl)
                  go_wp2
                  go_roundw
                  case rel => exact ⟨n + 1, j + 1, by omega, by go_num, by go_num, hm5, BA⟩
                  case measure => simp [intOf]; omega
                · have hm5 : Hid (n = m + nobAt W H L k (j + 1)) := Lib.hid (by rw [← hm4.out, decide_eq_false hz0]; rfl)
                  go_wp2
                  go_roundw
                  case rel => exact ⟨n, j + 1, by omega, by go_num, by go_num, hm5, BA⟩
                  case measure => simp [intOf]; omega
              · have hj4' : j = 4 := by omega
                subst hj4'
                have hm6 : Hid (n = brdTo W H L a 6 + nobTo W H L a (k + 1)) := Lib.hid (by rw [hn.out, hm3.out, hm2.out]; omega)
                clear R Z c0 c1 c2
                go_wp2
                go_roundw
                case rel => exact ⟨n, k + 1, by omega, by go_num, by go_num, hm6, hwq⟩
                case measure => simp [intOf]; omega
          · have hm2 : Hid (m = brdTo W H L a 6 + nobTo W H L a (k + 1)) := Lib.hid (by rw [nobTo_not (by rw [hgd]; exact hoa)]; exact hm.out)
            have hb1 : (own != a) = true := by simpa using hoa
            clear hm
            go_wp2
            go_roundw
            case rel => exact ⟨m, k + 1, by omega, by go_num, by go_num, hm2, hw⟩
            case measure => simp [intOf]; omega
        · have hkk : k = L.length := by omega
          have hmN : m = N := by rw [hm.out, hkk]; exact HN.out
          subst hmN
          go_wp2
          go_ret
          exact ⟨rfl, (KG.out _ hw.out).2.2.2⟩
end Go.Proofs.Ytdkcpnmaglkmnaa
