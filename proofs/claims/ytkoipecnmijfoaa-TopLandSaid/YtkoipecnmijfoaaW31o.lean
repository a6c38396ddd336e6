import Derived.Deep.RegionLaw
import Derived.Test.YtkoipecnmijfoaaW31n
import Derived.Test.YtkoipecnmijfoaaW31f
/-! The walks of strip.first and strip.Best. -/
namespace Go.Proofs.Ytkoipecnmijfoaa
open Go.RowKit Go.Deep
set_option linter.unusedVariables false
set_option maxRecDepth 100000

theorem cst11 : ∀ d, d < 12 → cstN d ≤ 435356467 := fun d hd => by
  have h : ∀ d, cstN d ≤ cstN (d + 1) := fun d => by show cstN d ≤ 6 * cstN d + 1; omega
  have h2 : ∀ j d, cstN d ≤ cstN (d + j) := fun j => by
    induction j with
    | zero => intro d; exact Nat.le_refl _
    | succ j ih => intro d; exact Nat.le_trans (ih d) (h (d + j))
  have h3 := h2 (11 - d) d
  rw [show d + (11 - d) = 11 by omega] at h3
  have e : cstN 11 = 435356467 := by simp [cstN]
  omega
theorem pred_wrap {N : Nat} (h : 0 < N) (h2 : N ≤ 64) : IntKind.i64.wrap ((N : Int) - 1) = ((N - 1 : Nat) : Int) := by
  rw [show ((N : Int) - 1) = ((N - 1 : Nat) : Int) by omega]; exact IntWalk.i64_in _ (by omega)
/-- a division of at least a level, in new blocks -/
def FirstRes (w : World) (V : List (List Int)) (m : Nat) (L : Int) (e : Ending) (w' : World) : Prop :=
  ∃ (A : Option Addr) (c g : Nat) (t : List Int), e = .returned (.tuple #[.slice A ((g : Int) :: t).length c, .bool true]) ∧ Rd w' w'.heap.size A ((g : Int) :: t) ∧ g < V.length ∧ Begin V m L g t ∧ Below w.heap.size w w'
/-- what a search gives, in one shape -/
def FromRes1 (w : World) (gm n : Nat) (V : List (List Int)) (m : Nat) (L : Int) (k g : Nat) (sum : Int) (s c : Nat) (e : Ending) (w' : World) : Prop :=
  ∃ (A : Option Addr) (cap len : Nat) (ok : Bool), e = .returned (.tuple #[.slice A len cap, .bool ok]) ∧ Hid (∃ n' f', OwnD w' gm n' f' ∧ SoundD V m L f' ∧ n' ≤ n + c ∧ w.grownBy w' (some gm) ∧
    ((ok = false ∧ ∀ l, ¬ Compl V m L k g sum s l) ∨ (∃ l, ok = true ∧ len = l.length ∧ Rd w' w'.heap.size A l ∧ Compl V m L k g sum s l)))
theorem FromRes.one {w : World} {gm n : Nat} {V : List (List Int)} {m : Nat} {L : Int} {k g : Nat} {sum : Int} {s c c2 : Nat} {e : Ending} {w' : World} (h : FromRes w gm n V m L k g sum s c e w') (hc : c ≤ c2) : FromRes1 w gm n V m L k g sum s c2 e w' := by
  obtain ⟨n', f', h1, h2, h3, h4, h5⟩ := h
  rcases h5 with ⟨rfl, h6⟩ | ⟨A, cap, l, rfl, h6, h7⟩
  · exact ⟨none, 0, 0, false, rfl, Lib.hid ⟨n', f', h1, h2, by omega, h4, .inl ⟨rfl, h6⟩⟩⟩
  · exact ⟨A, cap, l.length, true, rfl, Lib.hid ⟨n', f', h1, h2, by omega, h4, .inr ⟨l, rfl, rfl, h6, h7⟩⟩⟩
set_option maxHeartbeats 4000000 in
theorem sFirst {V : List (List Int)} {m : Nat} (v : VS V m) (hm1 : 1 ≤ m) (hm12 : m ≤ 12) {L : Int} (hL0 : 0 ≤ L) (hL1 : L ≤ 16001) (hex : ∃ g0 l0, g0 < V.length ∧ Begin V m L g0 l0) {w : World} {C : Nat} {A : Option Addr} {cap : Nat} (h : Rd2 w C A V) (hC : C ≤ w.heap.size) :
    Calls Try.prog 19 #[.slice A V.length cap, .int .i64 L] w (FirstRes w V m L) := by
  have n0 := v.n0
  have n6 := v.n6
  have HF := Lib.hid (fun (d k : Nat) (hk : k + d = m) => sFrom v hm12 hL0 hL1 d k hk)
  have hfull := full_lt v
  have hpw := pow_wrap V.length (by omega)
  have hp64 := pow_le64 V.length (by omega)
  have hpos : 0 < 2 ^ V.length := Nat.two_pow_pos _
  have HFB := Lib.hid (fun (i : Nat) (hi : i < V.length) => full_bit v hi)
  obtain ⟨b0, o0, x0, A0, c0', rfl, _, hx0, hc0, hr0⟩ := h.at_ (show 0 < V.length by omega)
  rw [Nat.add_zero] at hc0
  have hm0 : x0.length = m := v.row _ (List.mem_of_getElem? hx0)
  rw [hm0] at hc0
  have d0 : ((m : Int) == 0) = false := by rw [beq_eq_false_iff_ne]; omega
  have HX := Lib.hid hex
  have HV := Lib.hid v
  have H := Lib.hid h
  obtain ⟨N, hN⟩ : ∃ N, N = 2 ^ V.length := ⟨_, rfl⟩
  rw [← hN] at hpw hp64 hpos
  have e1 := pred_wrap hpos hp64
  have hmk := @run_makeMap Try.prog
  have HNF : Hid (N - 1 = full V) := Lib.hid (by rw [hN]; rfl)
  have ha1 : Below w.heap.size w (w.alloc (.map #[] 0)) := (Below.refl _ _).alloc (Nat.le_refl _) _
  have hal : Below w.heap.size w ((w.alloc (.map #[] 0)).alloc (.cells #[.slice (some ⟨b0, o0, none⟩) V.length cap, .int .i64 L, .map (some w.heap.size)] 62)) := ha1.alloc ha1.size _
  have hwp : SearchW ((w.alloc (.map #[] 0)).alloc (.cells #[.slice (some ⟨b0, o0, none⟩) V.length cap, .int .i64 L, .map (some w.heap.size)] 62)) C w.heap.size (w.heap.size + 1) (some ⟨b0, o0, none⟩) cap V L :=
    ⟨h.below hal hC, hC, by omega, by simp; omega, by simp, by simp, by simp, by simp⟩
  have hdd : OwnD ((w.alloc (.map #[] 0)).alloc (.cells #[.slice (some ⟨b0, o0, none⟩) V.length cap, .int .i64 L, .map (some w.heap.size)] 62)) w.heap.size 0 (fun _ _ _ => none) := (OwnD.made w).but ((Below.refl _ _).alloc (Nat.le_refl _) _)
  have hc2 : ((w.alloc (.map #[] 0)).alloc (.cells #[.slice (some ⟨b0, o0, none⟩) V.length cap, .int .i64 L, .map (some w.heap.size)] 62)).cell? ⟨b0, o0, none⟩ = some (.slice A0 m c0') := (hal.cell (p := ⟨b0, o0, none⟩) (World.block_lt_of_cell? _ _ hc0)).trans hc0
  have HAL := Lib.hid hal
  have HW := Lib.hid hwp
  have HD := Lib.hid hdd
  have HS : Hid (SoundD V m L fun _ _ _ => none) := Lib.hid (SoundD.start V m L)
  clear hx0 hr0 hm0 v h hex hN ha1 hal hwp hdd hc0
  go_enter Try.func19, Try.ntmps19
  go_wp2_with fail
  generalize (w.alloc (.map #[] 0)).alloc (.cells #[.slice (some ⟨b0, o0, none⟩) V.length cap, .int .i64 L, .map (some w.heap.size)] 62) = w2 at *
  clear hmk hc2 e1 hpw d0
  have HN1 := Lib.hid hpos
  rw [HNF.out]
  clear hpos
  go_loopw [29] (fun iv wr => ∃ (i n' : Nat) (f' : Nat → Nat → Nat → Option Int), i ≤ V.length ∧ iv = .int .i64 i ∧ Hid (OwnD wr w.heap.size n' f') ∧ Hid (SoundD V m L f') ∧ Hid (n' ≤ i * 435356467) ∧ Hid (w2.grownBy wr (some w.heap.size)) ∧ Hid (∀ j l, j < i → ¬ Begin V m L j l)) (fun iv _ => V.length - (intOf iv).toNat)
  case atStart => exact ⟨0, 0, _, by omega, rfl, HD, HS, Lib.hid (by omega), Lib.hid (grown_refl _ _), Lib.hid (fun j l hj => by omega)⟩
  case round =>
    clear HD HS
    obtain ⟨i, n', f', hi, rfl, hD, hS, hn, hG, hno⟩ := hrel
    by_cases hlt : i < V.length
    · have HWr := Lib.hid (HW.out.but hG.out)
      obtain ⟨b1, o1, x, A1, c3, e1, hb1, hx, hcx, hrx⟩ := HWr.out.rd.at_ hlt
      cases e1
      have hxm : x.length = m := HV.out.row _ (List.mem_of_getElem? hx)
      have hkx : 0 < x.length := by omega
      obtain ⟨b2, o2, yv, rfl, hb2, hyv, hy64, hcy⟩ := hrx.at_ hkx
      have hval : valV V i 0 = yv := by
        unfold valV
        rw [List.getD_eq_getElem?_getD (l := V), hx, Option.getD_some, List.getD_eq_getElem?_getD, hyv]; rfl
      have hyb := valV_bd HV.out i 0
      rw [hval] at hyb
      rw [hxm] at hcx
      rw [Nat.add_zero] at hcy
      have hbit := HFB.out i hlt
      have hbu := bit_but (full V) hfull i (by omega) hbit
      have hpw := pow_wrap2 i (by omega)
      have hpw2 := pow_wrap i (by omega)
      have hsub := sub6 (full V) hfull i (by omega) hbit
      obtain ⟨pw, hpwE⟩ : ∃ pw, pw = 2 ^ i := ⟨_, rfl⟩
      obtain ⟨q, hq⟩ : ∃ q, q = full V - 2 ^ i := ⟨_, rfl⟩
      rw [← hq] at hbu
      rw [← hpwE] at hpw hpw2 hbu
      have hq64 : q < 64 := by omega
      have HBG : Hid (∀ l, Begin V m L i l ↔ Compl V m L 1 i yv q l) := Lib.hid fun l => by
        unfold Begin
        rw [hval, hq]; rfl
      have hcs := cst11 (m - 1) (by omega)
      have hnn : n' + cstN (m - 1) ≤ 9000000000 := by have := hn.out; omega
      have GD := grown_of (below_drewN (Below.refl wr.heap.size wr) 1) (some w.heap.size)
      have CI := HF.out (m - 1) 1 (by omega) wr.drew C w.heap.size (w.heap.size + 1) n' i q f' yv _ cap (HWr.out.but GD) (OwnD.same hD.out rfl) hS.out hnn hlt hq64 (by omega) (by omega)
      rw [show ((1 : Nat) : Int) = 1 from rfl] at CI
      have HCI := Lib.hid (CI.mono (R' := fun e w' => FromRes1 wr.drew w.heap.size n' V m L 1 i yv q 435356467 e w') (fun e w' h => h.one hcs))
      have HGD := Lib.hid GD
      have hmp : 0 < m := hm1
      clear CI hcs hnn hrx hx hyv hy64 hval hxm hkx hb1 hb2 hbit hsub hpwE hq hyb GD
      go_wp2
      go_region_law (go_simp; go_at_call 33; refine HCI.out.mono ?_; rintro e w5 ⟨A5, c5, len5, ok, rfl, hres⟩)
      all_goals
        obtain ⟨n2, f2, hD2, hS2, hn2, hG2, hcs⟩ := hres.out
        have HD2 := Lib.hid hD2
        have HS2 := Lib.hid hS2
        have HN2 : Hid (n2 ≤ (i + 1) * 435356467) := Lib.hid (by have := hn.out; omega)
        have HG2 := Lib.hid (hG.out.trans (HGD.out.trans hG2))
        clear hres hD2 hS2 hn2 hG2 HCI HGD hn
        rcases hcs with ⟨rfl, hno2⟩ | ⟨l5, rfl, rfl, hr5, hc5⟩
        · have HNN : Hid (∀ j l, j < i + 1 → ¬ Begin V m L j l) := Lib.hid fun j l hj => by
            by_cases hji : j = i
            · subst hji
              rw [HBG.out]; exact hno2 l
            · exact hno.out j l (by omega)
          clear hno hno2 HBG
          go_wp2
          go_roundw
          case rel => exact ⟨i + 1, n2, f2, by omega, by go_num, HD2, HS2, HN2, HG2, HNN⟩
          case measure => simp [intOf]; omega
        · have HC5 := Lib.hid ((HBG.out l5).2 hc5)
          have HR5 := Lib.hid hr5
          have hl5 : l5.length ≤ 12 := by have := hc5.len; omega
          have hi5 := hr5.1
          have HI5 : Hid (∀ x ∈ (i : Int) :: l5, I64 x) := Lib.hid fun x hx => by
            rcases List.mem_cons.1 hx with rfl | hx
            · exact ⟨by omega, by omega⟩
            · exact hi5 x hx
          clear hno hc5 hr5 HBG hi5
          obtain ⟨j0, hj, hz0, hz1, hz2⟩ := info_parts infoInt'
          have HJ := Lib.hid hj
          clear hj
          have hal5 := Below.alloc (B := w5.heap.size) (Below.refl _ w5) (Nat.le_refl _) (.cells #[.int .i64 (i : Int)] 3)
          have HO1 := Lib.hid (own_one w5 3 (.int .i64 (i : Int)))
          have HAL5 := Lib.hid hal5
          have HSZ5 : Hid ((w5.alloc (.cells #[.int .i64 (i : Int)] 3)).heap.size = w5.heap.size + 1) := Lib.hid (by simp)
          have HRA := Lib.hid (HR5.out.below hal5 (Nat.le_refl _))
          have HB5 : Hid (Below w.heap.size w w5) := Lib.hid (HAL.out.trans ⟨HG2.out.os, HG2.out.tape, HG2.out.output, HG2.out.size, fun b hb => HG2.out.block b (by have := HAL.out.size; omega) (by simp; omega)⟩)
          clear hal5 HR5
          generalize hw6 : w5.alloc (.cells #[.int .i64 (i : Int)] 3) = w6 at *
          have HW6 := Lib.hid hw6
          clear hw6
          have hx6 : w5.alloc (.cells #[.int .i64 (i : Int)] 3) = w6 := HW6.out
          go_wp2_with (at_builtin; refine wpList_append_opt rfl _ _ 23 rfl w5.heap.size 3 j0 (.int .i64 0) 1 8 Try.underlying23 HJ.out hz0 hz1 hz2 rfl (by decide) _ 1 [.int .i64 (i : Int)] rfl HO1.out A5 l5.length c5 (l5.map (.int .i64)) rfl (by simp) (rd_none HRA.out) (rd_news HRA.out) (ints_oneCell _ _) (by unfold maxLen; omega) (by omega) (by rw [HSZ5.out]; omega) ?_)
          intro v7 w7 hown7 hgrow7 _
          have hown8 : w7.ownsRow w5.heap.size 3 1 v7 ((i : Int) :: l5).length (((i : Int) :: l5).map (Value.int .i64)) := by
            have e : 1 + l5.length = ((i : Int) :: l5).length := by rw [List.length_cons]; omega
            rw [← e]
            simpa using hown7
          obtain ⟨A8, c8, rfl, _⟩ := row_slice hown8
          have HR8 := Lib.hid (row_rd hown8 HI5.out (by simp; omega))
          have HB7 := Lib.hid (HAL5.out.grown hgrow7 (by rw [HSZ5.out]; omega) (fun q hq => by simp [Value.ownBlock] at hq; omega))
          have HB8 := Lib.hid (HB5.out.trans (HB7.out.mono HB5.out.size))
          clear hown7 hgrow7 hx6 hown8 HAL5 HSZ5 HRA HO1 HW6
          go_wp2
          go_ret2
          exact ⟨A8, c8, i, l5, rfl, HR8.out, hlt, HC5.out, HB8.out⟩
    · obtain ⟨g0, l0, hg0, hb0⟩ := HX.out
      exact absurd hb0 (hno.out g0 l0 (by omega))
end Go.Proofs.Ytkoipecnmijfoaa
