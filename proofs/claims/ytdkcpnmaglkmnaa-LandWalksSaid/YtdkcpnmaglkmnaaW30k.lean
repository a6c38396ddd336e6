import Derived.Test.YtdkcpnmaglkmnaaS30f
import Derived.WalkMore
import Derived.Deep.LoopGhost
/-! Walks of chapter 30: the reference's Walk. -/
namespace Go.Proofs.Ytdkcpnmaglkmnaa
open Go.RowKit Go.Deep
set_option linter.unusedVariables false
set_option maxRecDepth 100000

def PtsRes' (w : World) (P : List (Int × Int)) (c : Int) (e : Ending) (w' : World) : Prop :=
  ∃ A cap, e = .returned (.tuple #[.slice A P.length cap, .int .i64 c]) ∧ RdP w' w'.heap.size A P ∧ Below w.heap.size w w'
theorem infoPt' : (Try.prog.info? 62).map (fun i => (i.zero, i.size, i.bytes)) = some (some (.agg #[.int .i64 0, .int .i64 0]), 2, 16) := by kernel_rfl
theorem row_keep' {w w' : World} {base e size : Nat} {v : Value} {n : Nat} {xs : List Value} (h : w.ownsRow base e size v n xs) (hb : Below w.heap.size w w') : w'.ownsRow base e size v n xs := by
  refine ⟨h.1, ?_⟩
  rcases h.2 with h2 | ⟨g, cap, cur, hv, hg, hh, r⟩
  · exact .inl h2
  · have hlt : g < w.heap.size := by
      rcases Nat.lt_or_ge g w.heap.size with hlt | hge
      · exact hlt
      · rw [Array.getElem?_eq_none hge] at hh; cases hh
    exact .inr ⟨g, cap, cur, hv, hg, (hb.block g hlt).trans hh, r⟩
theorem row_slice' {w : World} {base e size : Nat} {v : Value} {n : Nat} {xs : List Value} (h : w.ownsRow base e size v n xs) : ∃ A c, v = .slice A n c := by
  rcases h.2 with ⟨rfl, rfl⟩ | ⟨g, cap, cur, rfl, hg, _⟩
  · exact ⟨none, 0, rfl⟩
  · exact ⟨_, cap, rfl⟩
theorem new_two (w : World) (x y : Value) (T : Nat) : ∀ (j : Nat) (u : Value), [x, y][j]? = some u → (w.alloc (.cells #[x, y] T)).cell? ((⟨w.heap.size, 0, none⟩ : Addr).add j) = some u := by
  intro j u hu
  rw [addr_add]
  match j, hu with
  | 0, hu => simp at hu; subst hu; exact (cell_of_row _ _ 0 _ T (0, 0) (heap_alloc_new _ _)).trans rfl
  | 1, hu => simp at hu; subst hu; exact (cell_of_row _ _ 1 _ T (0, 0) (heap_alloc_new _ _)).trans rfl
  | j + 2, hu => simp at hu

set_option maxHeartbeats 4000000 in
theorem lrWalk {w : World} {B : Nat} {A : Option Addr} {L : List Int} {cap : Nat} (h : Rd w B A L) (hB : B ≤ w.heap.size) (W H a : Int) :
    Calls Try.prog 17 #[.agg #[.int .i64 W, .int .i64 H, .slice A L.length cap], .int .i64 a] w (PtsRes' w (wkP W H L a) (wkE W H L a)) := by
  have hal : Below w.heap.size w (w.alloc (.cells #[.int .i64 W, .int .i64 H, .slice A L.length cap] 24)) := (Below.refl _ _).alloc (Nat.le_refl _) _
  have hsz : (w.alloc (.cells #[.int .i64 W, .int .i64 H, .slice A L.length cap] 24)).heap.size = w.heap.size + 1 := by simp
  have b0 : (w.alloc (.cells #[.int .i64 W, .int .i64 H, .slice A L.length cap] 24)).cell? ⟨w.heap.size, 0, none⟩ = some (.int .i64 W) := by simp
  have b1 : (w.alloc (.cells #[.int .i64 W, .int .i64 H, .slice A L.length cap] 24)).cell? ⟨w.heap.size, 1, none⟩ = some (.int .i64 H) := by simp
  have b2 : (w.alloc (.cells #[.int .i64 W, .int .i64 H, .slice A L.length cap] 24)).cell? ⟨w.heap.size, 2, none⟩ = some (.slice A L.length cap) := by simp
  have HSZ := Lib.hid hsz
  have HAL := Lib.hid hal
  have CC : Hid (∀ u, Below w.heap.size w u → Calls Try.prog 36 #[.agg #[.int .i64 W, .int .i64 H, .slice A L.length cap], .int .i64 a] u fun e w' => e = .returned (.int .i64 (lkd W H L a)) ∧ Below u.heap.size u w') := Lib.hid fun u hu => lrLooked (h.below hu hB) (Nat.le_trans hB hu.size) W H a
  have HR := Lib.hid h
  by_cases hk : lkd W H L a = 0
  · obtain ⟨q0, q1, q2⟩ := lkd_zero hk
    obtain ⟨W, H, rfl, rfl, hv⟩ := lck_zero q0
    have W0 := hv.w0
    have W12 := hv.w1
    have H12 := hv.h1
    have l144 := hv.len144
    have HK := Lib.hid hk
    have HV := Lib.hid hv
    have C1 := CC.out _ hal
    rw [hk] at C1
    clear hk q0 hv h hal hsz
    go_enter Try.func17, Try.ntmps17
    go_wp2_with fail
    generalize w.alloc (.cells #[.int .i64 W, .int .i64 H, .slice A L.length cap] 24) = w0 at *
    refine C1.mono ?_
    rintro e w1 ⟨rfl, hb⟩
    have hz := HSZ.out
    have c0 := ((bcell hb).1 _ _ (by omega)).trans b0
    have c1 := ((bcell hb).1 _ _ (by omega)).trans b1
    have c2 := ((bcell hb).1 _ _ (by omega)).trans b2
    have HB1 := Lib.hid (HAL.out.trans (hb.mono HAL.out.size))
    have HZ1 : Hid (w.heap.size < w1.heap.size) := Lib.hid (by have := hb.size; omega)
    have HRW := Lib.hid (HR.out.below HB1.out hB)
    clear b0 b1 b2 hb hz C1 HAL HSZ CC
    have HC := Lib.hid (And.intro c0 (And.intro c1 c2))
    go_wp2
    go_loop [6] (fun iv => ∃ k : Nat, k ≤ L.length ∧ iv = .int .i64 k ∧ Hid (∀ j, j < k → L.getD j 0 ≠ a)) (fun iv => L.length - (intOf iv).toNat)
    case atStart => exact ⟨0, by omega, rfl, Lib.hid (fun j hj => by omega)⟩
    case round =>
      obtain ⟨i, hi, rfl, hmin⟩ := hrel
      by_cases hlt : i < L.length
      · obtain ⟨bb, off, x, rfl, hbb, hx, hxi, hcx⟩ := HRW.out.at_ hlt
        have HX : Hid (L.getD i 0 = x) := Lib.hid (by rw [List.getD_eq_getElem?_getD, hx]; rfl)
        clear hx hxi
        by_cases hxa : x = a
        · have hb1 : (x != a) = false := by simpa using hxa
          have hne : ((i : Int) == (L.length : Int)) = false := beq_eq_false_iff_ne.2 (by omega)
          have hfst := fst_at hlt (HX.out.trans hxa) hmin.out
          obtain ⟨i', hi', e1, hx', e2, e3, hok⟩ := wk_ok HV.out q1 HK.out (by rw [hfst]; omega)
          have hii : i' = i := by omega
          subst hii
          have E2 := Lib.hid e2
          have E3 := Lib.hid e3
          have HOK := Lib.hid hok
          have hN : walkN (ownF W H L a) (startS W i') ≤ 600 := Nat.le_trans hok.nW (by have := mul_le_144 W12 H12; omega)
          clear e1 e2 e3 hx' hok hfst hxa hi'
          generalize walkN (ownF W H L a) (startS W i') = N at *
          obtain ⟨i0, i1, i2, i3⟩ := divmod_bd (W := W) (i := i') W0 (by omega)
          have d1 : W ≠ 0 := by omega
          have d0 : ((W : Int) == 0) = false := beq_eq_false_iff_ne.2 (by omega)
          have d2 : (W == 0) = false := beq_eq_false_iff_ne.2 (by omega)
          have t1 : Int.tmod (i' : Int) W = (i' : Int) % W := Int.tmod_eq_emod_of_nonneg (by omega)
          have t3 : Int.tdiv (i' : Int) W = (i' : Int) / W := Int.tdiv_eq_ediv_of_nonneg (by omega)
          have e1 : IntKind.i64.wrap ((i' : Int) / W) = (i' : Int) / W := IntWalk.i64_in _ (by omega)
          have e2 : IntKind.i64.wrap ((i' : Int) % W) = (i' : Int) % W := IntWalk.i64_in _ (by omega)
          go_wp2
          go_quiet (fail)
          clear t1 t3 e1 e2 d0 d1 d2 c0 c1 c2 hb1 hne hcx
          have HSX : Hid ((startS W i').x = (i' : Int) % W ∧ (startS W i').y = (i' : Int) / W) := Lib.hid ⟨rfl, rfl⟩
          generalize (i' : Int) % W = fx at *
          generalize (i' : Int) / W = fy at *
          have hb3 : Below w1.heap.size w1 (w1.drewN nq) := below_drewN (Below.refl _ _) _
          have HC3 : Hid ((w1.drewN nq).cell? ⟨w.heap.size, 0, none⟩ = some (.int .i64 W) ∧ (w1.drewN nq).cell? ⟨w.heap.size, 1, none⟩ = some (.int .i64 H) ∧ (w1.drewN nq).cell? ⟨w.heap.size, 2, none⟩ = some (.slice (some ⟨bb, off, none⟩) L.length cap)) := Lib.hid ⟨((bcell hb3).1 _ _ HZ1.out).trans HC.out.1, ((bcell hb3).1 _ _ HZ1.out).trans HC.out.2.1, ((bcell hb3).1 _ _ HZ1.out).trans HC.out.2.2⟩
          have HB3 := Lib.hid (HB1.out.trans (hb3.mono HB1.out.size))
          have HZ3 : Hid (w.heap.size < (w1.drewN nq).heap.size) := Lib.hid (Nat.lt_of_lt_of_le HZ1.out hb3.size)
          clear hb3
          generalize w1.drewN nq = w3 at *
          have hb6 : Below w3.heap.size w3 (w3.alloc (.cells #[.int .i64 fx, .int .i64 fy] 62)) := (Below.refl _ _).alloc (Nat.le_refl _) _
          have z6 : (w3.alloc (.cells #[.int .i64 fx, .int .i64 fy] 62)).heap.size = w3.heap.size + 1 := by simp
          have s0 : (w3.alloc (.cells #[.int .i64 fx, .int .i64 fy] 62)).cell? ⟨w3.heap.size, 0, none⟩ = some (.int .i64 fx) := by simp
          have s1 : (w3.alloc (.cells #[.int .i64 fx, .int .i64 fy] 62)).cell? ⟨w3.heap.size, 1, none⟩ = some (.int .i64 fy) := by simp
          go_wp2
          generalize w3.alloc (.cells #[.int .i64 fx, .int .i64 fy] 62) = w6 at *
          have HC6 : Hid (w6.cell? ⟨w.heap.size, 0, none⟩ = some (.int .i64 W) ∧ w6.cell? ⟨w.heap.size, 1, none⟩ = some (.int .i64 H) ∧ w6.cell? ⟨w.heap.size, 2, none⟩ = some (.slice (some ⟨bb, off, none⟩) L.length cap)) := Lib.hid ⟨((bcell hb6).1 _ _ HZ3.out).trans HC3.out.1, ((bcell hb6).1 _ _ HZ3.out).trans HC3.out.2.1, ((bcell hb6).1 _ _ HZ3.out).trans HC3.out.2.2⟩
          have HS6 := Lib.hid (And.intro s0 s1)
          have HB6 := Lib.hid (HB3.out.trans (hb6.mono HB3.out.size))
          have HZ6 : Hid (w.heap.size < w6.heap.size ∧ w3.heap.size < w6.heap.size) := Lib.hid (by have := HZ3.out; omega)
          clear hb6 z6 s0 s1 HC3 HB3 HC
          obtain ⟨j0, hj0, hz0, hz1, hz2⟩ := info_parts infoPt'
          have HJ := Lib.hid hj0
          clear hj0
          have HCE : Hid (∀ (u : World) (X Y : Int) (D : Nat), Below w6.heap.size w6 u → D < 4 → -1000 ≤ X → X ≤ 1000 → -1000 ≤ Y → Y ≤ 1000 → Calls Try.prog 44 #[.agg #[.int .i64 W, .int .i64 H, .slice (some ⟨bb, off, none⟩) L.length cap], .int .i64 a, .int .i64 X, .int .i64 Y, .int .i64 D] u
              fun e w' => e = .returned (.bool (edgeC (ownF W H L a) X Y D)) ∧ Below u.heap.size u w') := Lib.hid (fun u X Y D hu hD x0 x1 y0 y1 => by
            have h2 := HB6.out.trans (hu.mono HB6.out.size)
            exact rEdge (HR.out.below h2 hB) (Nat.le_trans hB h2.size) HV.out hD x0 x1 y0 y1)
          go_loopg [7, 8, 9, 11] N (fun g xv yv dv ov wr => ∃ (k : Nat) (oA : Option Addr) (oc : Nat), k + g = N ∧ xv = .int .i64 (cornX (itN (ownF W H L a) k (startS W i'))) ∧ yv = .int .i64 (cornY (itN (ownF W H L a) k (startS W i'))) ∧ dv = .int .i64 ((itN (ownF W H L a) k (startS W i')).d : Nat) ∧ ov = .slice oA k oc
            ∧ Hid (wr.ownsRow w6.heap.size 62 2 (.slice oA k oc) k (ptV (ptsK (ownF W H L a) (startS W i') k))) ∧ Hid (Below w6.heap.size w6 wr))
          case atStart => exact ⟨0, none, 0, by omega, (by rw [← HSX.out.1]; exact int_of (by simp [cornX, itN, cxI, HOK.out.d0])), (by rw [← HSX.out.2]; exact int_of (by simp [cornY, itN, cyI, HOK.out.d0])), (by rw [show itN (ownF W H L a) 0 (startS W i') = startS W i' from rfl, HOK.out.d0]; rfl), rfl, Lib.hid (World.ownsRow_nil _ _ _ _), Lib.hid (Below.refl _ _)⟩
          case round =>
            obtain ⟨k, oA, oc, hkg, rfl, rfl, rfl, rfl, ho, hw⟩ := hrel
            obtain ⟨G, hGe⟩ : ∃ G, G = gk := ⟨_, rfl⟩
            subst hGe
            have hE := HOK.out.edge k
            have hBD := HOK.out.bd k
            have HNX : Hid (itN (ownF W H L a) (k + 1) (startS W i') = nxt (ownF W H L a) (itN (ownF W H L a) k (startS W i'))) := Lib.hid rfl
            have HPK := Lib.hid (ptsK_succ (ownF W H L a) (startS W i') k)
            have HCN := Lib.hid (corn_nxt hE)
            have hseq := edge_seq hE
            have HLOW : Hid (0 < k → k < N → ¬ (itN (ownF W H L a) k (startS W i') = startS W i')) := Lib.hid (fun h1 h2 => HOK.out.low k h1 h2)
            have HBACK : Hid (k = N → itN (ownF W H L a) k (startS W i') = startS W i') := Lib.hid (fun h => by rw [h]; exact HOK.out.back)
            obtain ⟨S, hS⟩ : ∃ S, itN (ownF W H L a) k (startS W i') = S := ⟨_, rfl⟩
            rw [hS] at hE hBD HNX HPK HCN hseq HLOW HBACK ⊢
            have hd := hE.d
            obtain ⟨⟨x0, x1⟩, y0, y1⟩ := hBD
            have hcx : 0 ≤ cornX S ∧ cornX S ≤ 12 := by unfold cornX cxI; split <;> omega
            have hcy : 0 ≤ cornY S ∧ cornY S ≤ 12 := by unfold cornY cyI; split <;> omega
            have bdx : (-1 ≤ dxI S.d ∧ dxI S.d ≤ 1) ∧ (-1 ≤ dyI S.d ∧ dyI S.d ≤ 1) := by
              refine ⟨?_, ?_⟩ <;> (first | unfold dxI | unfold dyI) <;> (split <;> (try split) <;> omega)
            have HS := Lib.hid hS
            have HKG := Lib.hid hkg
            have hkN : k ≤ N := by omega
            have c0 := ((bcell hw.out).1 _ _ HZ6.out.1).trans HC6.out.1
            have c1 := ((bcell hw.out).1 _ _ HZ6.out.1).trans HC6.out.2.1
            have c2 := ((bcell hw.out).1 _ _ HZ6.out.1).trans HC6.out.2.2
            have s0 := ((bcell hw.out).1 _ _ HZ6.out.2).trans HS6.out.1
            have s1 := ((bcell hw.out).1 _ _ HZ6.out.2).trans HS6.out.2
            have hstart : Hid (cornX S = fx → cornY S = fy → S.d = 0 → S = startS W i') := Lib.hid (fun q1 q2 q3 => corner_inj
              (by rw [q1, ← HSX.out.1]; simp [cornX, cxI, HOK.out.d0]) (by rw [q2, ← HSX.out.2]; simp [cornY, cyI, HOK.out.d0]) (by rw [q3, HOK.out.d0]))
            have hfin : Hid (S = startS W i' → cornX S = fx ∧ cornY S = fy ∧ S.d = 0) := Lib.hid (fun q => by
              rw [q]; exact ⟨by rw [← HSX.out.1]; simp [cornX, cxI, HOK.out.d0], by rw [← HSX.out.2]; simp [cornY, cyI, HOK.out.d0], HOK.out.d0⟩)
            have HDN : Hid (∃ J, J ≤ 2 ∧ (∀ j, j < J → edgeC (ownF W H L a) (cornX S + dxI S.d) (cornY S + dyI S.d) (dTry S.d j) = false) ∧ edgeC (ownF W H L a) (cornX S + dxI S.d) (cornY S + dyI S.d) (dTry S.d J) = true ∧ (itN (ownF W H L a) (k + 1) (startS W i')).d = dTry S.d J) := Lib.hid (by rw [HNX.out]; exact hseq)
            rw [← HNX.out] at HCN
            clear hE hS hkg hseq x0 x1 y0 y1 HNX
            generalize hcX : cornX S = X at *
            generalize hcY : cornY S = Y at *
            generalize hcd : S.d = d at *
            have HCX := Lib.hid (And.intro hcX (And.intro hcY hcd))
            clear hcX hcY hcd
            by_cases hkend : k = N
            · have hSS := HBACK.out hkend
              obtain ⟨q1, q2, q3⟩ := hfin.out hSS
              have hk0 : ¬ k = 0 := by have := HOK.out.n0; omega
              have d0 : (k == 0) = false := beq_eq_false_iff_ne.2 hk0
              have d0i : ((k : Int) == 0) = false := beq_eq_false_iff_ne.2 (by omega)
              have HKE := Lib.hid hkend
              have HLEN := Lib.hid (ptsK_length (ownF W H L a) (startS W i') k)
              have hk600 : k ≤ 600 := by omega
              clear hSS hkend HBACK HLOW hstart hfin hk0
              subst q1
              subst q2
              subst q3
              go_wp2
              go_ret2
              rw [E2.out, E3.out, ← HKE.out]
              refine ⟨oA, oc, by rw [HLEN.out]; rfl, ?_, HB6.out.trans (hw.out.mono HB6.out.size)⟩
              have ho' := ho.out
              rw [← HLEN.out] at ho'
              have hrd := rdP_of_row (L := ptsK (ownF W H L a) (startS W i') k) (w := wr) (base := w6.heap.size) (T := 62) (A := oA) (c := oc) (by rw [HLEN.out]; exact ho.out) (by rw [HLEN.out]; omega)
              exact hrd
            · have hlow : ¬ k = 0 → ¬ (X = fx ∧ Y = fy ∧ d = 0) := fun h0 ⟨q1, q2, q3⟩ => HLOW.out (by omega) (by omega) (hstart.out q1 q2 q3)
              have hcase : (k = 0) ∨ (k ≠ 0 ∧ d ≠ 0) ∨ (k ≠ 0 ∧ d = 0 ∧ X ≠ fx) ∨ (k ≠ 0 ∧ d = 0 ∧ X = fx ∧ Y ≠ fy) := by
                by_cases h0 : k = 0
                · exact .inl h0
                · by_cases h1 : d = 0
                  · by_cases h2 : X = fx
                    · exact .inr (.inr (.inr ⟨h0, h1, h2, fun h3 => hlow h0 ⟨h2, h3, h1⟩⟩))
                    · exact .inr (.inr (.inl ⟨h0, h1, h2⟩))
                  · exact .inr (.inl ⟨h0, h1⟩)
              have hoz := Lib.hid (ho.out.alloc (.cells #[.int .i64 X, .int .i64 Y] 62))
              have hcz := Lib.hid (new_two wr (.int .i64 X) (.int .i64 Y) 62)
              have hbz := Lib.hid (Below.alloc hw.out hw.out.size (.cells #[.int .i64 X, .int .i64 Y] 62))
              have hwz : Hid ((wr.alloc (.cells #[.int .i64 X, .int .i64 Y] 62)).heap.size = wr.heap.size + 1) := Lib.hid (by simp)
              have hbs : w6.heap.size ≤ wr.heap.size := hw.out.size
              have n1 : ((d : Int) + 1) % 4 = (dTry d 0 : Nat) := by unfold dTry; omega
              have n1t : Int.tmod ((d : Int) + 1) 4 = (dTry d 0 : Nat) := by rw [Int.tmod_eq_emod_of_nonneg (by omega)]; exact n1
              have hk600 : k ≤ 600 := by omega
              have hgk : 0 < G := by have := HKG.out; omega
              have facts : Hid ((((k : Int) == 0) = true) ∨ ((((k : Int) == 0) = false) ∧ (((d : Int) != 0) = true)) ∨ ((((k : Int) == 0) = false) ∧ (((d : Int) != 0) = false) ∧ ((X != fx) = true)) ∨ ((((k : Int) == 0) = false) ∧ (((d : Int) != 0) = false) ∧ ((X != fx) = false) ∧ ((Y != fy) = true))) := Lib.hid (by
                rcases hcase with h | ⟨h, h1⟩ | ⟨h, h1, h2⟩ | ⟨h, h1, h2, h3⟩
                · exact .inl (by simp [h])
                · exact .inr (.inl ⟨by simp [h], by simp [h1]⟩)
                · exact .inr (.inr (.inl ⟨by simp [h], by simp [h1], by simpa using h2⟩))
                · exact .inr (.inr (.inr ⟨by simp [h], by simp [h1], by simpa using h2, by simpa using h3⟩)))
              have facts2 : Hid (((k == 0) = true ∧ ((k : Int) == 0) = true) ∨ ((k == 0) = false ∧ ((k : Int) == 0) = false)) := Lib.hid (by
                by_cases h : k = 0
                · exact .inl ⟨by simp [h], by simp [h]⟩
                · exact .inr ⟨by simp [h], by simp; omega⟩)
              clear hcase hlow hstart hfin HLOW HBACK hkend ho
              generalize hgw : wr.alloc (.cells #[.int .i64 X, .int .i64 Y] 62) = wa at *
              have HGW := Lib.hid hgw
              clear hgw
              rcases facts.out with g0 | ⟨g0, g1⟩ | ⟨g0, g1, g2⟩ | ⟨g0, g1, g2, g3⟩
              all_goals
                have hk0 : (k == 0) = ((k : Int) == 0) := by rcases facts2.out with ⟨u1, u2⟩ | ⟨u1, u2⟩ <;> rw [u1, u2]
                rw [g0] at hk0
                have hgw := HGW.out
                go_wp2_with (at_builtin; refine wpList_append_own _ rfl _ _ 33 rfl w6.heap.size 62 j0 (.agg #[.int .i64 0, .int .i64 0]) 2 16 Try.underlying33 HJ.out hz0 hz1 hz2 rfl (by decide) _ k _ rfl hoz.out ⟨wr.heap.size, 0, none⟩ 1 1 [.int .i64 X, .int .i64 Y] rfl (by simp) hcz.out (by simp [Value.oneCell']) (by unfold maxLen; omega) (by omega) (by rw [hwz.out]; omega) ?_)
                intro v' w7 hown hgrow _
                have hb7 : Below w6.heap.size w6 w7 := hbz.out.grown hgrow (by rw [hwz.out]; omega) (fun q hq => (hoz.out.lt q hq).1)
                have HO7 : Hid (w7.ownsRow w6.heap.size 62 2 v' (k + 1) (ptV (ptsK (ownF W H L a) (startS W i') (k + 1)))) := Lib.hid (by
                  rw [HPK.out, ptV_snoc]
                  have h2 : (cornX (itN (ownF W H L a) k (startS W i')), cornY (itN (ownF W H L a) k (startS W i'))) = (X, Y) := by rw [HS.out, HCX.out.1, HCX.out.2.1]
                  have h3 : ptsK (ownF W H L a) (startS W i') k ++ [(cornX S, cornY S)] = ptsK (ownF W H L a) (startS W i') k ++ [(X, Y)] := by rw [HCX.out.1, HCX.out.2.1]
                  first | exact hown | (simpa [h2, h3, HCX.out.1, HCX.out.2.1] using hown))
                obtain ⟨A7, c7, hv7⟩ := row_slice' HO7.out
                have HB7 := Lib.hid hb7
                subst hv7
                have k0 := ((bcell hb7).1 _ _ HZ6.out.1).trans HC6.out.1
                have k1 := ((bcell hb7).1 _ _ HZ6.out.1).trans HC6.out.2.1
                have k2 := ((bcell hb7).1 _ _ HZ6.out.1).trans HC6.out.2.2
                clear hown hgrow hb7 hgw c0 c1 c2 s0 s1 hk0
                go_wp2_with fail
                refine (rStep hd).mono ?_
                rintro e w8 ⟨rfl, rfl⟩
                obtain ⟨J, hJ2, hJlow, hJ, hJd⟩ := HDN.out
                have HJ1 := Lib.hid hJlow
                have HJ2 := Lib.hid hJ
                have HJ3 := Lib.hid hJd
                clear hJlow hJ hJd
                go_wp2
                go_loopg [9] J (fun g dv wi => ∃ j : Nat, j + g = J ∧ dv = .int .i64 (dTry d j : Nat) ∧ Hid (Below w7.heap.size w7 wi))
                case atStart => exact ⟨0, by omega, rfl, Lib.hid (Below.refl _ _)⟩
                case round =>
                  obtain ⟨j, hjg, rfl, hwi⟩ := hrel
                  have hz7 : w.heap.size < w7.heap.size := Nat.lt_of_lt_of_le HZ6.out.1 HB7.out.size
                  have h0 := ((bcell hwi.out).1 _ _ hz7).trans k0
                  have h1 := ((bcell hwi.out).1 _ _ hz7).trans k1
                  have h2 := ((bcell hwi.out).1 _ _ hz7).trans k2
                  have C := HCE.out wr (X + dxI d) (Y + dyI d) (dTry d j) (HB7.out.trans (hwi.out.mono HB7.out.size)) (dTry_lt d j) (by omega) (by omega) (by omega) (by omega)
                  have hdl := dTry_lt d j
                  by_cases hjl : j < J
                  · rw [HJ1.out j hjl] at C
                    have HC9 := Lib.hid C
                    have hgi : 0 < gk := by omega
                    have m1 : ((dTry d j : Nat) : Int) + 3 ≤ 10 := by omega
                    have m2 : (((dTry d j : Nat) : Int) + 3) % 4 = (dTry d (j + 1) : Nat) := by have := dTry_next d j; omega
                    have HJG := Lib.hid hjg
                    clear C hjg
                    go_wp2_with fail
                    refine HC9.out.mono ?_
                    rintro e w9 ⟨rfl, hb9⟩
                    have HW9 := Lib.hid (hwi.out.trans (hb9.mono hwi.out.size))
                    clear hb9 HC9 h0 h1 h2
                    go_wp2
                    go_roundg (gk - 1)
                    case measure => omega
                    case rel => exact ⟨j + 1, by have := HJG.out; omega, by first | rfl | exact int_of m2, HW9⟩
                  · have hjJ : j = J := by omega
                    rw [hjJ, HJ2.out, ← hjJ] at C
                    have HC9 := Lib.hid C
                    have HJJ := Lib.hid hjJ
                    clear C hjJ hjg
                    go_wp2_with fail
                    refine HC9.out.mono ?_
                    rintro e w9 ⟨rfl, hb9⟩
                    have HW9 := Lib.hid (hwi.out.trans (hb9.mono hwi.out.size))
                    clear hb9 HC9 h0 h1 h2
                    go_wp2
                    go_roundg (G - 1)
                    case measure => omega
                    case rel => exact ⟨k + 1, A7, c7, by have := HKG.out; omega, int_of HCN.out.1.symm, int_of HCN.out.2.symm, by rw [HJ3.out, ← HJJ.out], rfl, Lib.hid (row_keep' HO7.out HW9.out), Lib.hid (HB7.out.trans (HW9.out.mono HB7.out.size))⟩
        · have hb1 : (x != a) = true := by simpa using hxa
          have hnx : Hid (∀ j, j < i + 1 → L.getD j 0 ≠ a) := Lib.hid (fun j hj => by
            by_cases hji : j = i
            · rw [hji, HX.out]; exact hxa
            · exact hmin.out j (by omega))
          clear hxa
          go_wp2
          go_round
          case rel => exact ⟨i + 1, by omega, by go_num, hnx⟩
          case measure => simp [intOf]; omega
      · have hil : i = L.length := by omega
        have hneg := fst_no (fun j hj => hmin.out j (by omega))
        obtain ⟨e1, e2⟩ := wkE_none HK.out hneg
        have E1 := Lib.hid e1
        have E2 := Lib.hid e2
        have heq : ((i : Int) == (L.length : Int)) = true := by simp [hil]
        have HIL := Lib.hid hil
        clear hil hneg e1 e2
        go_wp2
        go_ret2
        rw [E1.out, E2.out]
        exact ⟨none, 0, rfl, RdOf.nil _ _ _, HB1.out⟩
  · obtain ⟨e1, e2⟩ := wkE_chk hk
    have E1 := Lib.hid e1
    have E2 := Lib.hid e2
    have hne : (lkd W H L a != 0) = true := by simpa using hk
    clear hk h hal hsz e1 e2
    generalize lkd W H L a = c at *
    go_enter Try.func17, Try.ntmps17
    go_wp2_with fail
    generalize w.alloc (.cells #[.int .i64 W, .int .i64 H, .slice A L.length cap] 24) = w0 at *
    refine (CC.out _ HAL.out).mono ?_
    rintro e w1 ⟨rfl, hb⟩
    have hz := HSZ.out
    have c0 := ((bcell hb).1 _ _ (by omega)).trans b0
    have c1 := ((bcell hb).1 _ _ (by omega)).trans b1
    have c2 := ((bcell hb).1 _ _ (by omega)).trans b2
    have HB1 := Lib.hid (HAL.out.trans (hb.mono HAL.out.size))
    clear b0 b1 b2 hb hz HAL HSZ
    go_wp2_with fail
    refine (CC.out _ HB1.out).mono ?_
    rintro e w2 ⟨rfl, hb2⟩
    have HB2 := Lib.hid (HB1.out.trans (hb2.mono HB1.out.size))
    clear hb2
    go_wp2
    go_ret2
    rw [E1.out, E2.out]
    exact ⟨none, 0, rfl, RdOf.nil _ _ _, HB2.out⟩
end Go.Proofs.Ytdkcpnmaglkmnaa
