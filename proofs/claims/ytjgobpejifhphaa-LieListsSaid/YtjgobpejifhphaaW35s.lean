import Derived.Test.YtjgobpejifhphaaW35r
/-! Walks of chapter 35: the reference's Rankings.
-/
namespace Go.Proofs.Ytjgobpejifhphaa
open Go.RowKit Go.Deep
set_option linter.unusedVariables false
set_option maxRecDepth 100000

theorem infoIntR : (Try.prog.info? 3).map (fun i => (i.zero, i.size, i.bytes)) = some (some (.int .i64 0), 1, 8) := by kernel_rfl
set_option maxHeartbeats 2000000 in
theorem rRankings {m : Nat} (hm6 : m ≤ 6) : ∀ (f : Nat) (w : World) (Bn B : Nat) (A : Option Addr) (b : List Int) (cap : Nat), Rd w B A b → B ≤ w.heap.size → b.length + f = m → (∀ x ∈ b, 0 ≤ x ∧ x ≤ 6) → (0 < b.length → ∀ p, A = some p → Bn ≤ p.block) → Bn ≤ w.heap.size →
    Calls Try.prog 60 #[.int .i64 (m : Int), .slice A b.length cap] w (RkRes w Bn (rkF m f b))
  | 0, w, Bn, B, A, b, cap, h, hB, hl, hs, hA, hBn => by
    have hx := World.ownsRow_lit (base := w.heap.size) (e := 22) (size := 1) w #[.slice A b.length cap] 1 (Nat.le_refl _) (by decide) rfl
    have hal := (Below.refl w.heap.size w).alloc (Nat.le_refl _) (.cells #[.slice A b.length cap] 22)
    have hv : VRows (w.alloc (.cells #[.slice A b.length cap] 22)) [.slice A b.length cap] [b] := (VRows.nil _).snoc ((h.below hal hB).more (by simp; omega))
    have hlb : LBv Bn [.slice A b.length cap] := by
      intro v hv A' n c e hn p hp
      rw [List.mem_singleton] at hv
      rw [hv] at e
      cases e
      exact hA hn p hp
    have HR := Lib.hid (rk_of_row (F := [b]) hx hv hlb (by simp) hal)
    have hlm : ((b.length : Int) == (m : Int)) = true := by rw [beq_iff_eq]; omega
    clear hx hal hv hlb h
    rw [rkF]
    go_enter Try.func60, Try.ntmps60
    go_wp2
    go_ret
    exact HR.out
  | f + 1, w, Bn, B, A, b, cap, h, hB, hl, hs, hA, hBn => by
    have hlm : ((b.length : Int) == (m : Int)) = false := by rw [beq_eq_false_iff_ne]; omega
    have hf6 : f ≤ 6 := by omega
    have H := Lib.hid h
    have HA := Lib.hid hA
    obtain ⟨i0, hi, hz0, hz1, hz2⟩ := info_parts infoRow
    obtain ⟨i3, hi3, hy0, hy1, hy2⟩ := info_parts infoIntR
    have HI := Lib.hid hi
    have HI3 := Lib.hid hi3
    have IH := Lib.hid (fun (w : World) (Bn B : Nat) (A : Option Addr) (b : List Int) (cap : Nat) => rRankings hm6 f w Bn B A b cap)
    have HS := Lib.hid hs
    have HBN := Lib.hid hBn
    have HHB := Lib.hid hB
    clear h hA hi hi3 hs hB hBn
    go_enter Try.func60, Try.ntmps60
    go_wp2_with fail
    go_loopw [5, 6] (fun fv iv wr => ∃ (k : Nat) (vs : List Value), k ≤ m ∧ iv = .int .i64 k ∧ Hid (wr.ownsRow w.heap.size 22 1 fv (rkG m f b k).length vs) ∧ Hid (VRowsN wr fv vs (rkG m f b k)) ∧ Hid (LBv Bn vs) ∧ Hid (Below w.heap.size w wr)) (fun _ iv _ => m - (intOf iv).toNat)
    case atStart => exact ⟨0, [], by omega, rfl, Lib.hid (own_row_nil _ _ _), Lib.hid (VRowsN.nil _ _), Lib.hid (LBv.nil _), Lib.hid (Below.refl _ _)⟩
    case round =>
      obtain ⟨k, vs, hk, rfl, hown, hvs, hlb, hb⟩ := hrel
      by_cases hlt : k < m
      · have HRD := Lib.hid (H.out.below hb.out HHB.out)
        have hgs := rkG_small hm6 hf6 b k
        have hbl : b.length ≤ 6 := by omega
        go_wp2_with fail
        generalize wr = wo at *
        go_loop [7, 8] (fun ag qv => ∃ q : Nat, q ≤ b.length ∧ qv = .int .i64 q ∧ ag = .bool ((b.take q).any fun y => y == (k : Int))) (fun _ qv => b.length - (intOf qv).toNat)
        case atStart => exact ⟨0, by omega, rfl, by simp⟩
        case round =>
          obtain ⟨q, hq, rfl, rfl⟩ := hrel
          by_cases hql : q < b.length
          · obtain ⟨bb, oo, x, e1, hbb, hx, hx64, hcx⟩ := HRD.out.at_ hql
            subst e1
            have HST := Lib.hid (any_take_succ (p := fun y => y == (k : Int)) hx)
            clear hx hx64
            cases hag : (b.take q).any fun y => y == (k : Int)
            · rw [hag, Bool.false_or] at HST
              clear hag
              go_wp2
              go_round
              case rel => exact ⟨q + 1, by omega, by go_num, by rw [HST.out]⟩
              case measure => simp [intOf]; omega
            · rw [hag, Bool.true_or] at HST
              clear hag
              go_wp2
              go_round
              case rel => exact ⟨q + 1, by omega, by go_num, by rw [HST.out]⟩
              case measure => simp [intOf]; omega
          · obtain rfl : q = b.length := by omega
            rw [List.take_length]
            have hst := rkG_succ m f b k
            cases hag : b.any fun y => y == (k : Int)
            · rw [hag, if_neg (by decide)] at hst
              have HST := Lib.hid hst
              clear hst hag
              have hal := Below.alloc (B := wo.heap.size) (Below.refl _ wo) (Nat.le_refl _) (.cells #[] 3)
              have HAL := Lib.hid hal
              have HOW0 := Lib.hid (own_empty wo 3)
              have HRD1 := Lib.hid (HRD.out.below hal (Nat.le_trans HHB.out hb.out.size))
              have hsz : (wo.alloc (.cells #[] 3)).heap.size = wo.heap.size + 1 := by simp
              have HSZ := Lib.hid hsz
              clear hal hsz
              generalize hwa : wo.alloc (.cells #[] 3) = wa at *
              have HWA := Lib.hid hwa
              clear hwa
              have hwa := HWA.out
              go_wp2_with (at_builtin; refine wpList_append_opt rfl _ _ 22 rfl wo.heap.size 3 i3 (.int .i64 0) 1 8 Try.underlying22 HI3.out hy0 hy1 hy2 rfl (by decide) _ 0 [] rfl HOW0.out A b.length cap (b.map (.int .i64)) rfl (by simp) (rd_none HRD1.out) (rd_news HRD1.out) (ints_oneCell _ _) (by unfold maxLen; omega) (by omega) (by rw [HSZ.out]; omega) ?_)
              intro v1 w2 hown1 hgrow1 hat1
              have hb2 := HAL.out.grown hgrow1 (by rw [HSZ.out]; omega) (fun q hq => (HOW0.out.lt q hq).1)
              obtain ⟨A1, c1, rfl, _⟩ := row_slice hown1
              have hal2 := Below.alloc (B := w2.heap.size) (Below.refl _ w2) (Nat.le_refl _) (.cells #[.int .i64 (k : Int)] 3)
              have hsz2 : (w2.alloc (.cells #[.int .i64 (k : Int)] 3)).heap.size = w2.heap.size + 1 := by simp
              have HAL2 := Lib.hid (hb2.trans (hal2.mono hb2.size))
              have HSZ2 := Lib.hid hsz2
              have HOW1 := Lib.hid (hown1.alloc (.cells #[.int .i64 (k : Int)] 3))
              have HS2 := Lib.hid hb2.size
              have HN2 := Lib.hid (new_one w2 (.int .i64 (k : Int)) 3)
              clear hal2 hsz2 hown1 hgrow1 hat1 hb2 hwa HWA HSZ HAL HOW0 HRD1
              generalize hwb : w2.alloc (.cells #[.int .i64 (k : Int)] 3) = wb at *
              have HWB := Lib.hid hwb
              clear hwb
              have hwb := HWB.out
              go_wp2_with (at_builtin; refine wpList_append_opt rfl _ _ 22 rfl wo.heap.size 3 i3 (.int .i64 0) 1 8 Try.underlying22 HI3.out hy0 hy1 hy2 rfl (by decide) _ b.length (b.map (.int .i64)) rfl HOW1.out (some ⟨w2.heap.size, 0, none⟩) 1 1 [.int .i64 (k : Int)] rfl rfl (by intro h; cases h) (by intro ad had; cases had; exact HN2.out) (ints_oneCell _ [(k : Int)]) (by unfold maxLen; omega) (by omega) (by rw [HSZ2.out]; have := HS2.out; omega) ?_)
              intro v2 w4 hown2 hgrow2 hat2
              have hb4 := HAL2.out.grown hgrow2 (by rw [HSZ2.out]; have := HS2.out; omega) (fun q hq => (HOW1.out.lt q hq).1)
              have hown3 : w4.ownsRow wo.heap.size 3 1 v2 (b ++ [(k : Int)]).length ((b ++ [(k : Int)]).map (.int .i64)) := by simpa using hown2
              obtain ⟨g2, c2, rfl, hg2, hP⟩ := ownP_of_row hown3 (by simp)
              have hlb1 : (b ++ [(k : Int)]).length = b.length + 1 := by simp
              have hrd4 := hP.rd (B := w4.heap.size) (by
                intro x hx
                rw [List.mem_append, List.mem_singleton] at hx
                rcases hx with hx | rfl
                · have := HS.out x hx; unfold I64; omega
                · unfold I64; omega) (by rw [hlb1]; omega) hP.lt
              have C6 := IH.out w4 wo.heap.size w4.heap.size _ (b ++ [(k : Int)]) c2 hrd4 (Nat.le_refl _) (by rw [hlb1]; omega) (by
                intro x hx
                rw [List.mem_append, List.mem_singleton] at hx
                rcases hx with hx | rfl
                · exact HS.out x hx
                · omega) (fun _ p hp => by cases hp; exact hg2) hb4.size
              rw [hlb1] at C6
              rw [hlb1]
              have HC6 := Lib.hid C6
              have HB4 := Lib.hid hb4
              have HLEN : Hid ((rkF m f (b ++ [(k : Int)])).length ≤ 46656) := Lib.hid (rkF_small hm6 hf6 _)
              clear C6 hrd4 hP hg2 hown3 hown2 hgrow2 hat2 hb4 hwb HWB HOW1 HN2 HSZ2 HAL2 HS2 hlb1
              generalize rkF m f (b ++ [(k : Int)]) = F1 at *
              go_wp2_with fail
              refine HC6.out.mono ?_
              rintro e w5 ⟨A5, c5, us, rfl, hu1, hu2, hu3, hu4, hu5, hb5⟩
              have hb5' := HB4.out.trans (hb5.mono HB4.out.size)
              have HB5 := Lib.hid (hb.out.trans (hb5'.mono hb.out.size))
              have HOW5 := Lib.hid (row_below hown.out hb5')
              have hvs5 := hvs.out.below hb5'
              have hun := hu1.toN (f := u5) hu2 (fun q hq => (hown.out.lt q hq).2)
              have HV5 := Lib.hid (hvs5.append hun)
              have HUN := Lib.hid hun.one
              have HUL := Lib.hid hu1.1
              have HU3 := Lib.hid hu3
              have HU4 := Lib.hid hu4
              have hll := HLEN.out
              have HLB := Lib.hid (hlb.out.append (hu2.mono (Nat.le_trans HBN.out hb.out.size)))
              have HVL := Lib.hid hvs.out.1
              clear hu1 hu2 hu3 hu4 hu5 hb5 hb5' hvs5 hun hown hvs hlb HC6 HB4 HRD
              go_wp2_with (at_builtin; refine wpList_append_opt rfl _ _ 29 rfl w.heap.size 22 i0 (.slice none 0 0) 1 24 Try.underlying29 HI.out hz0 hz1 hz2 rfl (by decide) _ (rkG m f b k).length vs rfl HOW5.out A5 F1.length c5 us rfl (by rw [HUL.out, Nat.mul_one]) HU3.out HU4.out HUN.out (by unfold maxLen; omega) (by omega) HB5.out.size ?_)
              intro v6 w6 hown6 hgrow6 hat6
              have HV6 := Lib.hid (HV5.out.grown hgrow6 hat6)
              have HB6 := Lib.hid (HB5.out.grown hgrow6 HB5.out.size (fun q hq => (HOW5.out.lt q hq).1))
              rw [← List.length_append, ← HST.out] at hown6
              have HOW6 := Lib.hid hown6
              rw [← HST.out] at HV6
              clear hown6 hgrow6 hat6 HV5 HOW5
              go_wp2
              go_roundw
              case rel => exact ⟨k + 1, _, by omega, by go_num, HOW6, HV6, HLB, HB6⟩
              case measure => simp [intOf]; omega
            · rw [hag, if_pos rfl, List.append_nil] at hst
              rw [← hst] at hown hvs
              clear hst hag
              go_wp2
              go_roundw
              case rel => exact ⟨k + 1, vs, by omega, by go_num, hown, hvs, hlb, hb⟩
              case measure => simp [intOf]; omega
      · obtain rfl : k = m := by omega
        obtain ⟨AF, cF, rfl, _⟩ := row_slice hown.out
        have HR := Lib.hid (rk_of_row (w := w) hown.out hvs.out.rows hlb.out (by have := rkG_small hm6 hf6 b k; omega) hb.out)
        rw [rkG_all] at HR
        go_wp2
        go_ret
        exact HR.out
end Go.Proofs.Ytjgobpejifhphaa
