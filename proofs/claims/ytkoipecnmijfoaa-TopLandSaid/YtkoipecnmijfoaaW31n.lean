import Derived.BigQuiet
import Derived.Deep.DeepCutAuto
import Derived.Deep.CutBlock
import Derived.StillTailTactics
import Derived.Test.YtkoipecnmijfoaaW31m
import Derived.Test.YtkoipecnmijfoaaW31e
/-! The walk of strip's search. -/
namespace Go.Proofs.Ytkoipecnmijfoaa
open Go.RowKit Go.Deep
set_option linter.unusedVariables false
set_option maxRecDepth 100000

theorem bit_and0 : ∀ s : Nat, s < 64 → ∀ i : Nat, i < 6 → (bits BinOp.and IntKind.i64 ((s : Int) / 2 ^ i) 1 == 0) = !s.testBit i := by decide +kernel
/-- what a search gives -/
def FromRes (w : World) (gm n : Nat) (V : List (List Int)) (m : Nat) (L : Int) (k g : Nat) (sum : Int) (s c : Nat) (e : Ending) (w' : World) : Prop :=
  ∃ n' f', OwnD w' gm n' f' ∧ SoundD V m L f' ∧ n' ≤ n + c ∧ w.grownBy w' (some gm) ∧
    ((e = .returned (.tuple #[.slice none 0 0, .bool false]) ∧ ∀ l, ¬ Compl V m L k g sum s l) ∨
     (∃ A cap l, e = .returned (.tuple #[.slice A l.length cap, .bool true]) ∧ Rd w' w'.heap.size A l ∧ Compl V m L k g sum s l))
set_option maxHeartbeats 2000000 in
theorem sFrom0 {V : List (List Int)} {m : Nat} (v : VS V m) {L : Int} {w : World} {C gm gs n g s : Nat} {f : Nat → Nat → Nat → Option Int} {sum : Int} {A : Option Addr} {cap : Nat}
    (h : Rd2 w C A V) (c0 : w.cell? ⟨gs, 0, none⟩ = some (.slice A V.length cap)) (c1 : w.cell? ⟨gs, 1, none⟩ = some (.int .i64 L)) (hD : OwnD w gm n f) (hS : SoundD V m L f) (hs : s < 64) :
    Calls Try.prog 33 #[.pointer (some ⟨gs, 0, none⟩), .int .i64 (m : Int), .int .i64 (g : Int), .int .i64 sum, .int .i64 (s : Int)] w (FromRes w gm n V m L m g sum s 1) := by
  have n0 := v.n0
  have n6 := v.n6
  obtain ⟨b0, o0, x0, A0, c0', rfl, _, hx0, hc0, hr0⟩ := h.at_ (show 0 < V.length by omega)
  rw [Nat.add_zero] at hc0
  have hm0 : x0.length = m := v.row _ (List.mem_of_getElem? hx0)
  rw [hm0] at hc0
  have HEND : Hid (∀ b : Bool, (b = true ↔ L ≤ sum ∧ ∀ j, j < V.length → s.testBit j = true → L ≤ 0) → FromRes w gm n V m L m g sum s 1 (.returned (.tuple #[.slice none 0 0, .bool b])) w) := Lib.hid fun b hb => by
    refine ⟨n, f, hD, hS, by omega, grown_refl w _, ?_⟩
    cases b
    · left
      refine ⟨rfl, fun l hc => ?_⟩
      have hlen := hc.len
      cases hc with
      | done h1 h2 =>
        have := hb.2 ⟨h1, h2⟩
        cases this
      | same h1 _ => omega
      | next h1 _ _ _ _ _ => omega
    · right
      exact ⟨none, 0, [], rfl, Rd.nil _ _ _, .done (hb.1 rfl).1 (hb.1 rfl).2⟩
  generalize FromRes w gm n V m L m g sum s 1 = Q at *
  clear h hx0 hr0 hm0 hD hS v
  go_enter Try.func33, Try.ntmps33
  go_wp2_with fail
  go_loop [12, 43] (fun tv iv => ∃ (i : Nat) (b : Bool), i ≤ V.length ∧ iv = .int .i64 i ∧ tv = .bool b ∧ Hid (b = true ↔ L ≤ sum ∧ ∀ j, j < i → s.testBit j = true → L ≤ 0)) (fun _ iv => V.length - (intOf iv).toNat)
  case atStart => exact ⟨0, decide (L ≤ sum), by omega, rfl, rfl, Lib.hid (by rw [decide_eq_true_iff]; exact ⟨fun h => ⟨h, fun j hj => by omega⟩, fun h => h.1⟩)⟩
  case round =>
    obtain ⟨i, b, hi, rfl, rfl, hb⟩ := hrel
    by_cases hlt : i < V.length
    · have hba := bit_and0 s hs i (by omega)
      have HN : Hid (((b && (!s.testBit i || decide (L ≤ 0))) = true) ↔ L ≤ sum ∧ ∀ j, j < i + 1 → s.testBit j = true → L ≤ 0) := Lib.hid (by
        rw [Bool.and_eq_true, hb.out, Bool.or_eq_true, decide_eq_true_iff]
        constructor
        · rintro ⟨⟨h1, h2⟩, h3⟩
          refine ⟨h1, fun j hj hbj => ?_⟩
          by_cases hji : j = i
          · subst hji
            rcases h3 with h3 | h3
            · rw [hbj] at h3; cases h3
            · exact h3
          · exact h2 j (by omega) hbj
        · rintro ⟨h1, h2⟩
          refine ⟨⟨h1, fun j hj => h2 j (by omega)⟩, ?_⟩
          cases hbi : s.testBit i
          · exact .inl rfl
          · exact .inr (h2 i (by omega) hbi))
      clear hb
      generalize s.testBit i = z at *
      by_cases hL : L ≤ 0
      · have d1 : decide (L ≤ 0) = true := decide_eq_true hL
        rw [d1] at HN
        clear hL
        cases b <;> cases z
        all_goals
          go_wp2
          go_round
          case rel => exact ⟨i + 1, _, by omega, by go_num, rfl, HN⟩
          case measure => simp [intOf]; omega
      · have d1 : decide (L ≤ 0) = false := decide_eq_false hL
        rw [d1] at HN
        clear hL
        cases b <;> cases z
        all_goals
          go_wp2
          go_round
          case rel => exact ⟨i + 1, _, by omega, by go_num, rfl, HN⟩
          case measure => simp [intOf]; omega
    · obtain rfl : i = V.length := by omega
      go_wp2
      exact HEND.out b hb.out

/-- what the search needs of the world -/
structure SearchW (w : World) (C gm gs : Nat) (A : Option Addr) (cap : Nat) (V : List (List Int)) (L : Int) : Prop where
  rd : Rd2 w C A V
  cm : C ≤ gm
  ne : gs ≠ gm
  ml : gm < w.heap.size
  sl : gs < w.heap.size
  c0 : w.cell? ⟨gs, 0, none⟩ = some (.slice A V.length cap)
  c1 : w.cell? ⟨gs, 1, none⟩ = some (.int .i64 L)
  c2 : w.cell? ⟨gs, 2, none⟩ = some (.map (some gm))
theorem SearchW.but {w w' : World} {C gm gs : Nat} {A : Option Addr} {cap : Nat} {V : List (List Int)} {L : Int} (h : SearchW w C gm gs A cap V L) (hg : w.grownBy w' (some gm)) : SearchW w' C gm gs A cap V L where
  rd := rd2_but h.rd hg h.cm h.ml
  cm := h.cm
  ne := h.ne
  ml := Nat.lt_of_lt_of_le h.ml hg.size
  sl := Nat.lt_of_lt_of_le h.sl hg.size
  c0 := (cell_but hg h.sl h.ne).trans h.c0
  c1 := (cell_but hg h.sl h.ne).trans h.c1
  c2 := (cell_but hg h.sl h.ne).trans h.c2
set_option maxHeartbeats 4000000 in
theorem sFrom {V : List (List Int)} {m : Nat} (v : VS V m) (hm12 : m ≤ 12) {L : Int} (hL0 : 0 ≤ L) (hL1 : L ≤ 16001) : ∀ (d k : Nat), k + d = m → ∀ (w : World) (C gm gs n g s : Nat) (f : Nat → Nat → Nat → Option Int) (sum : Int) (A : Option Addr) (cap : Nat),
    SearchW w C gm gs A cap V L → OwnD w gm n f → SoundD V m L f → n + cstN d ≤ 9000000000 → g < V.length → s < 64 → 0 ≤ sum → sum ≤ 1000 * (k : Int) →
    Calls Try.prog 33 #[.pointer (some ⟨gs, 0, none⟩), .int .i64 (k : Int), .int .i64 (g : Int), .int .i64 sum, .int .i64 (s : Int)] w (FromRes w gm n V m L k g sum s (cstN d)) := by
  intro d
  induction d with
  | zero =>
    intro k hk w C gm gs n g s f sum A cap hW hD hS _ _ hs _ _
    obtain rfl : k = m := by omega
    exact sFrom0 v hW.rd hW.c0 hW.c1 hD hS hs
  | succ d ih =>
    intro k hk w C gm gs n g s f sum A cap hW hD hS hn hg hs hsum0 hsum1
    have IH := Lib.hid (ih (k + 1) (by omega))
    clear ih
    have n0 := v.n0
    have n6 := v.n6
    have c0 := hW.c0
    have c1 := hW.c1
    have c2 := hW.c2
    obtain ⟨b0, o0, x0, A0, c0', rfl, _, hx0, hc0, hr0⟩ := hW.rd.at_ (show 0 < V.length by omega)
    rw [Nat.add_zero] at hc0
    have hm0 : x0.length = m := v.row _ (List.mem_of_getElem? hx0)
    rw [hm0] at hc0
    have d0 : ((k : Int) == (m : Int)) = false := by rw [beq_eq_false_iff_ne]; omega
    have hkm : k < m := by omega
    have HKD := Lib.hid hk
    clear hk
    have HW := Lib.hid hW
    have HD := Lib.hid hD
    have HS := Lib.hid hS
    have HV := Lib.hid v
    have HN : Hid (n + 6 * cstN d + 1 ≤ 9000000000) := Lib.hid (by have : cstN (d + 1) = 6 * cstN d + 1 := rfl; omega)
    clear hx0 hr0 hm0 hW hD hS v hn
    have HNO : Hid (∀ w' n' f', OwnD w' gm n' f' → SoundD V m L f' → n' ≤ n + (6 * cstN d + 1) → w.grownBy w' (some gm) → (∀ l, ¬ Compl V m L k g sum s l) → FromRes w gm n V m L k g sum s (cstN (d + 1)) (.returned (.tuple #[.slice none 0 0, .bool false])) w') := Lib.hid fun w' n' f' h1 h2 h3 h4 h5 => ⟨n', f', h1, h2, h3, h4, .inl ⟨rfl, h5⟩⟩
    have HYES : Hid (∀ w' n' f' A cap l, OwnD w' gm n' f' → SoundD V m L f' → n' ≤ n + (6 * cstN d + 1) → w.grownBy w' (some gm) → Rd w' w'.heap.size A l → Compl V m L k g sum s l → FromRes w gm n V m L k g sum s (cstN (d + 1)) (.returned (.tuple #[.slice A l.length cap, .bool true])) w') := Lib.hid fun w' n' f' A cap l h1 h2 h3 h4 h5 h6 => ⟨n', f', h1, h2, h3, h4, .inr ⟨A, cap, l, rfl, h5, h6⟩⟩
    generalize FromRes w gm n V m L k g sum s (cstN (d + 1)) = Q at *
    have hal : Below w.heap.size w (w.alloc (.cells #[.int .i64 (s : Int), .int .i64 (k : Int), .int .i64 (g : Int)] 79)) := (Below.refl _ _).alloc (Nat.le_refl _) _
    have hsz : (w.alloc (.cells #[.int .i64 (s : Int), .int .i64 (k : Int), .int .i64 (g : Int)] 79)).heap.size = w.heap.size + 1 := by simp
    have k0 : (w.alloc (.cells #[.int .i64 (s : Int), .int .i64 (k : Int), .int .i64 (g : Int)] 79)).cell? ⟨w.heap.size, 0, none⟩ = some (.int .i64 (s : Int)) := by simp
    have k1 : (w.alloc (.cells #[.int .i64 (s : Int), .int .i64 (k : Int), .int .i64 (g : Int)] 79)).cell? ⟨w.heap.size, 1, none⟩ = some (.int .i64 (k : Int)) := by simp
    have k2 : (w.alloc (.cells #[.int .i64 (s : Int), .int .i64 (k : Int), .int .i64 (g : Int)] 79)).cell? ⟨w.heap.size, 2, none⟩ = some (.int .i64 (g : Int)) := by simp
    have HAL := Lib.hid hal
    have HSZ := Lib.hid hsz
    have KK := Lib.hid (And.intro k0 (And.intro k1 k2))
    clear hal hsz k0 k1 k2
    go_enter Try.func33, Try.ntmps33
    go_wp2_with fail
    generalize w.alloc (.cells #[.int .i64 (s : Int), .int .i64 (k : Int), .int .i64 (g : Int)] 79) = w1 at *
    have G1 := Lib.hid (grown_of HAL.out (some gm))
    have HW1 := Lib.hid (HW.out.but G1.out)
    have HD1 := Lib.hid (HD.out.but HAL.out)
    clear c0 c1 c2 hc0
    have c2 := HW1.out.c2
    obtain ⟨k0, k1, k2⟩ := KK.out
    obtain ⟨y, ok, hlk0, hcase⟩ := HD1.out.looks (s := s) (k := k) (g := g) (by omega) (by omega) (by omega)
    have hlk : ∀ nn : Nat, (Instr.lookup 60 (.map (some gm)) (.agg #[.int .i64 (s : Int), .int .i64 (k : Int), .int .i64 (g : Int)]) true).run Try.prog (w1.drewN nn) = .ok (.tuple #[.int .i64 y, .bool ok]) (w1.drewN nn) := fun nn => hlk0 _ rfl
    have HCASE := Lib.hid hcase
    clear hcase hlk0
    go_quiet (fail)
    have G2 := Lib.hid (G1.out.trans (grown_of (below_drewN (Below.refl w1.heap.size w1) nq) (some gm)))
    have HD2 := Lib.hid (HD1.out.but (below_drewN (Below.refl w1.heap.size w1) nq))
    have KK2 := Lib.hid KK.out
    have HS2 : Hid ((w1.drewN nq).heap.size = w1.heap.size) := Lib.hid rfl
    have KC2 : Hid ((w1.drewN nq).cell? ⟨w.heap.size, 0, none⟩ = some (.int .i64 (s : Int)) ∧ (w1.drewN nq).cell? ⟨w.heap.size, 1, none⟩ = some (.int .i64 (k : Int)) ∧ (w1.drewN nq).cell? ⟨w.heap.size, 2, none⟩ = some (.int .i64 (g : Int))) := Lib.hid KK.out
    have HB2 : Hid (w.heap.size < (w1.drewN nq).heap.size) := Lib.hid (by have := HSZ.out; have := HS2.out; omega)
    clear hlk k0 k1 k2 c2 KK KK2 HW1 HD1 HD G1 HAL HSZ HS2
    generalize w1.drewN nq = w2 at *
    go_upto_region 11 with fail
    go_cut [81] (fun t wx => ∃ z : Bool, t = .bool z ∧ wx = w2 ∧ Hid (z = true → ∀ l, ¬ Compl V m L k g sum s l))
    case first =>
      rcases HCASE.out with ⟨rfl, _⟩ | ⟨rfl, hf⟩
      · go_wp2
        go_meet
        exact ⟨false, rfl, rfl, Lib.hid (fun h => by cases h)⟩
      · have HF := Lib.hid (HS.out s k g y hs (by omega) hg hf)
        clear hf
        by_cases hle : sum ≤ y
        · have d1 : decide (sum ≤ y) = true := decide_eq_true hle
          go_wp2
          go_meet
          exact ⟨true, rfl, rfl, Lib.hid (fun _ => HF.out sum hle)⟩
        · have d1 : decide (sum ≤ y) = false := decide_eq_false hle
          go_wp2
          go_meet
          exact ⟨false, rfl, rfl, Lib.hid (fun h => by cases h)⟩
    case rest =>
    obtain ⟨z, rfl, hwx, hz⟩ := hcut
    have hwx2 := hwx.symm
    clear hwx
    subst hwx2
    have HZ := hz
    clear hz HCASE
    cases z
    case true =>
      go_wp2
      exact HNO.out _ n f HD2.out HS.out (by omega) G2.out (HZ.out trivial)
    case false =>
    clear HZ
    have HW2 := Lib.hid (HW.out.but G2.out)
    have c0 := HW2.out.c0
    go_wp2
    clear c0 HW2
    have HNE : Hid (w.heap.size ≠ gm) := Lib.hid (by have := HW.out.ml; omega)
    go_loopw [87] (fun iv wr => ∃ (i n' : Nat) (f' : Nat → Nat → Nat → Option Int), i ≤ V.length ∧ iv = .int .i64 i ∧ Hid (OwnD wr gm n' f') ∧ Hid (SoundD V m L f') ∧ Hid (n' ≤ n + i * cstN d) ∧ Hid (w2.grownBy wr (some gm)) ∧ Hid (∀ j l, j < i → ¬ Compl V m L k g sum s (((j : Nat) : Int) :: l))) (fun iv _ => V.length - (intOf iv).toNat)
    case atStart => exact ⟨0, n, f, by omega, rfl, HD2, HS, Lib.hid (by omega), Lib.hid (grown_refl _ _), Lib.hid (fun j l hj => by omega)⟩
    case round =>
      clear HD2
      obtain ⟨i, n', f', hi, rfl, hD, hS, hn, hG, hno⟩ := hrel
      have GW := Lib.hid (G2.out.trans hG.out)
      have HWr := Lib.hid (HW.out.but GW.out)
      by_cases hlt : i < V.length
      · have hnn : n' + cstN d ≤ 9000000000 := by
          have h1 := hn.out
          have h2 : i * cstN d ≤ 5 * cstN d := Nat.mul_le_mul_right _ (by omega)
          have h3 := HN.out
          omega
        have HNS : Hid (∀ n2, n2 ≤ n' + cstN d → n2 ≤ n + (i + 1) * cstN d) := Lib.hid fun n2 h2 => by
          have h1 := hn.out
          rw [Nat.add_mul, Nat.one_mul]
          omega
        have HNT : Hid (∀ n2, n2 ≤ n' + cstN d → n2 ≤ n + (6 * cstN d + 1)) := Lib.hid fun n2 h2 => by
          have h1 := hn.out
          have h3 : i * cstN d ≤ 5 * cstN d := Nat.mul_le_mul_right _ (by omega)
          omega
        obtain ⟨b1, o1, x, A1, c3, e1, hb1, hx, hcx, hrx⟩ := HWr.out.rd.at_ hlt
        cases e1
        have hxm : x.length = m := HV.out.row _ (List.mem_of_getElem? hx)
        have hkx : k < x.length := by omega
        obtain ⟨b2, o2, yv, rfl, hb2, hyv, hy64, hcy⟩ := hrx.at_ hkx
        have hval : valV V i k = yv := by
          unfold valV
          rw [List.getD_eq_getElem?_getD (l := V), hx, Option.getD_some, List.getD_eq_getElem?_getD, hyv]; rfl
        have hyb := valV_bd HV.out i k
        rw [hval] at hyb
        rw [hxm] at hcx
        have HVAL := Lib.hid hval
        have c0 := HWr.out.c0
        have c1 := HWr.out.c1
        clear hrx hx hyv hy64 hval hxm hkx hb1 hb2
        have e2 : IntKind.i64.wrap ((k : Int) + 1) = (k : Int) + 1 := IntWalk.i64_in _ (by omega)
        by_cases hig : i = g
        · obtain rfl : i = g := hig
          have q0 : ((i : Int) == (i : Int)) = true := by simp
          have e3 : IntKind.i64.wrap (sum + yv) = sum + yv := IntWalk.i64_in _ (by omega)
          have CI := IH.out wr C gm gs n' i s f' (sum + yv) _ cap HWr.out hD.out hS.out hnn hlt hs (by omega) (by omega)
          rw [show ((k + 1 : Nat) : Int) = (k : Int) + 1 by omega] at CI
          have HCI := Lib.hid CI
          have HYC : Hid (∀ l, Compl V m L (k + 1) i (sum + yv) s l → Compl V m L k i sum s ((i : Int) :: l)) := Lib.hid fun l hl => .same hkm (by rw [HVAL.out]; exact hl)
          have HNC : Hid ((∀ l, ¬ Compl V m L (k + 1) i (sum + yv) s l) → ∀ l, ¬ Compl V m L k i sum s ((i : Int) :: l)) := Lib.hid fun h l hl => by
            rcases hl.head hkm with ⟨_, h2⟩ | ⟨h1, _⟩
            · rw [HVAL.out] at h2; exact h l h2
            · exact h1 rfl
          have HG0 := Lib.hid hg
          clear CI HVAL hnn hyb
          go_wp2_with fail
          refine HCI.out.mono ?_
          rintro e w5 ⟨n2, f2, hD2, hS2, hn2, hG2, hres⟩
          have HD2 := Lib.hid hD2
          have HS2 := Lib.hid hS2
          have HN2 := Lib.hid (HNS.out n2 hn2)
          have HN3 := Lib.hid (HNT.out n2 hn2)
          have HG2 := Lib.hid (hG.out.trans hG2)
          have HGW := Lib.hid (GW.out.trans hG2)
          clear hD2 hS2 hn2 hG2 HNS HNT HCI
          rcases hres with ⟨rfl, hno2⟩ | ⟨A5, c5, l5, rfl, hr5, hc5⟩
          · have HNN : Hid (∀ j l, j < i + 1 → ¬ Compl V m L k i sum s (((j : Nat) : Int) :: l)) := Lib.hid fun j l hj => by
              by_cases hji : j = i
              · subst hji; exact HNC.out hno2 l
              · exact hno.out j l (by omega)
            clear hno hno2 HNC HYC
            go_wp2
            go_roundw
            case rel => exact ⟨i + 1, n2, f2, by omega, by go_num, HD2, HS2, HN2, HG2, HNN⟩
            case measure => simp [intOf]; omega
          · have HC5 := Lib.hid (HYC.out l5 hc5)
            have HR5 := Lib.hid hr5
            have hl5 : l5.length ≤ 12 := by have := hc5.len; omega
            have hi5 := hr5.1
            have HI5 : Hid (∀ x ∈ (i : Int) :: l5, I64 x) := Lib.hid fun x hx => by
              rcases List.mem_cons.1 hx with rfl | hx
              · exact ⟨by omega, by omega⟩
              · exact hi5 x hx
            clear hno hc5 hr5 HNC HYC hi5
            obtain ⟨j0, hj, hz0, hz1, hz2⟩ := info_parts infoInt'
            have HJ := Lib.hid hj
            clear hj
            have hal5 := Below.alloc (B := w5.heap.size) (Below.refl _ w5) (Nat.le_refl _) (.cells #[.int .i64 (i : Int)] 3)
            have HO1 := Lib.hid (own_one w5 3 (.int .i64 (i : Int)))
            have HAL5 := Lib.hid hal5
            have HSZ5 : Hid ((w5.alloc (.cells #[.int .i64 (i : Int)] 3)).heap.size = w5.heap.size + 1) := Lib.hid (by simp)
            have HRA := Lib.hid (HR5.out.below hal5 (Nat.le_refl _))
            clear hal5 HR5
            generalize hw6 : w5.alloc (.cells #[.int .i64 (i : Int)] 3) = w6 at *
            have HW6 := Lib.hid hw6
            clear hw6
            have hx6 : w5.alloc (.cells #[.int .i64 (i : Int)] 3) = w6 := HW6.out
            go_wp2_with (at_builtin; refine wpList_append_opt rfl _ _ 23 rfl w5.heap.size 3 j0 (.int .i64 0) 1 8 Try.underlying23 HJ.out hz0 hz1 hz2 rfl (by decide) _ 1 [.int .i64 (i : Int)] rfl HO1.out A5 l5.length c5 (l5.map (.int .i64)) rfl (by simp) (rd_none HRA.out) (rd_news HRA.out) (ints_oneCell _ _) (by unfold maxLen; omega) (by omega) (by rw [HSZ5.out]; omega) ?_)
            intro v7 w7 hown7 hgrow7 _
            have hown8 : w7.ownsRow w5.heap.size 3 1 v7 ((i : Int) :: l5).length (((i : Int) :: l5).map (Value.int .i64)) := by
              have e : 1 + l5.length = ((i : Int) :: l5).length := by rw [List.length_cons]; omega
              rw [← e]
              simpa using hown7
            obtain ⟨A8, c8, rfl, _⟩ := row_slice hown8
            have HR8 := Lib.hid (row_rd hown8 HI5.out (by simp; omega))
            have HB7 := Lib.hid (HAL5.out.grown hgrow7 (by rw [HSZ5.out]; omega) (fun q hq => by simp [Value.ownBlock] at hq; omega))
            have HD7 := Lib.hid (HD2.out.but HB7.out)
            have HG7 := Lib.hid (HGW.out.trans (grown_of HB7.out (some gm)))
            clear hown7 hgrow7 hx6 hown8 HAL5 HSZ5 HRA HO1 HW6
            go_wp2
            exact HYES.out w7 n2 f2 A8 c8 _ HD7.out HS2.out HN3.out HG7.out HR8.out HC5.out
        · have q0 : ((i : Int) == (g : Int)) = false := by rw [beq_eq_false_iff_ne]; omega
          have hba := bit_and0 s hs i (by omega)
          by_cases hgo : s.testBit i = true ∧ L ≤ sum
          case neg =>
            have HNN : Hid (∀ j l, j < i + 1 → ¬ Compl V m L k g sum s (((j : Nat) : Int) :: l)) := Lib.hid fun j l hj => by
              by_cases hji : j = i
              · subst hji
                intro hl
                rcases hl.head hkm with ⟨h1, _⟩ | ⟨_, h2, h3, _⟩
                · exact hig h1
                · exact hgo ⟨h2, h3⟩
              · exact hno.out j l (by omega)
            have HNX : Hid (n' ≤ n + (i + 1) * cstN d) := Lib.hid (HNS.out n' (by omega))
            clear hno HNS HNT HVAL hnn hyb hig
            cases hb : s.testBit i
            · rw [hb] at hba
              clear hb hgo
              go_wp2
              go_roundw
              case rel => exact ⟨i + 1, n', f', by omega, by go_num, hD, hS, HNX, hG, HNN⟩
              case measure => simp [intOf]; omega
            · rw [hb] at hba
              have hls : sum < L := by
                rcases Int.lt_or_le sum L with h | h
                · exact h
                · exact absurd ⟨hb, h⟩ hgo
              have d3 : decide (sum < L) = true := decide_eq_true hls
              clear hb hgo hls
              go_wp2
              go_roundw
              case rel => exact ⟨i + 1, n', f', by omega, by go_num, hD, hS, HNX, hG, HNN⟩
              case measure => simp [intOf]; omega
          case pos =>
          obtain ⟨hbit, hls⟩ := hgo
          rw [hbit] at hba
          have d3 : decide (sum < L) = false := decide_eq_false (by omega)
          have hbu := bit_but s hs i (by omega) hbit
          have hpw := pow_wrap2 i (by omega)
          have hpw2 := pow_wrap i (by omega)
          have hsub := sub6 s hs i (by omega) hbit
          obtain ⟨pw, hpwE⟩ : ∃ pw, pw = 2 ^ i := ⟨_, rfl⟩
          obtain ⟨q, hq⟩ : ∃ q, q = s - 2 ^ i := ⟨_, rfl⟩
          rw [← hq] at hbu
          rw [← hpwE] at hpw hpw2 hbu
          have hq64 : q < 64 := by omega
          have e3 : IntKind.i64.wrap yv = yv := IntWalk.i64_in _ (by omega)
          have e4 : IntKind.i64.wrap (0 + yv) = yv := by rw [Int.zero_add]; exact e3
          have CI := IH.out wr C gm gs n' i q f' yv _ cap HWr.out hD.out hS.out hnn hlt hq64 (by omega) (by omega)
          rw [show ((k + 1 : Nat) : Int) = (k : Int) + 1 by omega] at CI
          have HCI := Lib.hid CI
          have HYC : Hid (∀ l, Compl V m L (k + 1) i yv q l → Compl V m L k g sum s ((i : Int) :: l)) := Lib.hid fun l hl => .next hkm hlt hig hbit hls (by rw [HVAL.out, ← hq]; exact hl)
          have HNC : Hid ((∀ l, ¬ Compl V m L (k + 1) i yv q l) → ∀ l, ¬ Compl V m L k g sum s ((i : Int) :: l)) := Lib.hid fun h l hl => by
            rcases hl.head hkm with ⟨h1, _⟩ | ⟨_, _, _, h4⟩
            · exact hig h1
            · rw [HVAL.out, ← hq] at h4; exact h l h4
          clear CI HVAL hnn hyb hig hbit hls hsub hpwE hq
          go_wp2_with fail
          refine HCI.out.mono ?_
          rintro e w5 ⟨n2, f2, hD2, hS2, hn2, hG2, hres⟩
          have HD2 := Lib.hid hD2
          have HS2 := Lib.hid hS2
          have HN2 := Lib.hid (HNS.out n2 hn2)
          have HN3 := Lib.hid (HNT.out n2 hn2)
          have HG2 := Lib.hid (hG.out.trans hG2)
          have HGW := Lib.hid (GW.out.trans hG2)
          clear hD2 hS2 hn2 hG2 HNS HNT HCI
          rcases hres with ⟨rfl, hno2⟩ | ⟨A5, c5, l5, rfl, hr5, hc5⟩
          · have HNN : Hid (∀ j l, j < i + 1 → ¬ Compl V m L k g sum s (((j : Nat) : Int) :: l)) := Lib.hid fun j l hj => by
              by_cases hji : j = i
              · subst hji; exact HNC.out hno2 l
              · exact hno.out j l (by omega)
            clear hno hno2 HNC HYC
            go_wp2
            go_roundw
            case rel => exact ⟨i + 1, n2, f2, by omega, by go_num, HD2, HS2, HN2, HG2, HNN⟩
            case measure => simp [intOf]; omega
          · have HC5 := Lib.hid (HYC.out l5 hc5)
            have HR5 := Lib.hid hr5
            have hl5 : l5.length ≤ 12 := by have := hc5.len; omega
            have hi5 := hr5.1
            have HI5 : Hid (∀ x ∈ (i : Int) :: l5, I64 x) := Lib.hid fun x hx => by
              rcases List.mem_cons.1 hx with rfl | hx
              · exact ⟨by omega, by omega⟩
              · exact hi5 x hx
            clear hno hc5 hr5 HNC HYC hi5
            obtain ⟨j0, hj, hz0, hz1, hz2⟩ := info_parts infoInt'
            have HJ := Lib.hid hj
            clear hj
            have hal5 := Below.alloc (B := w5.heap.size) (Below.refl _ w5) (Nat.le_refl _) (.cells #[.int .i64 (i : Int)] 3)
            have HO1 := Lib.hid (own_one w5 3 (.int .i64 (i : Int)))
            have HAL5 := Lib.hid hal5
            have HSZ5 : Hid ((w5.alloc (.cells #[.int .i64 (i : Int)] 3)).heap.size = w5.heap.size + 1) := Lib.hid (by simp)
            have HRA := Lib.hid (HR5.out.below hal5 (Nat.le_refl _))
            clear hal5 HR5
            generalize hw6 : w5.alloc (.cells #[.int .i64 (i : Int)] 3) = w6 at *
            have HW6 := Lib.hid hw6
            clear hw6
            have hx6 : w5.alloc (.cells #[.int .i64 (i : Int)] 3) = w6 := HW6.out
            go_wp2_with (at_builtin; refine wpList_append_opt rfl _ _ 23 rfl w5.heap.size 3 j0 (.int .i64 0) 1 8 Try.underlying23 HJ.out hz0 hz1 hz2 rfl (by decide) _ 1 [.int .i64 (i : Int)] rfl HO1.out A5 l5.length c5 (l5.map (.int .i64)) rfl (by simp) (rd_none HRA.out) (rd_news HRA.out) (ints_oneCell _ _) (by unfold maxLen; omega) (by omega) (by rw [HSZ5.out]; omega) ?_)
            intro v7 w7 hown7 hgrow7 _
            have hown8 : w7.ownsRow w5.heap.size 3 1 v7 ((i : Int) :: l5).length (((i : Int) :: l5).map (Value.int .i64)) := by
              have e : 1 + l5.length = ((i : Int) :: l5).length := by rw [List.length_cons]; omega
              rw [← e]
              simpa using hown7
            obtain ⟨A8, c8, rfl, _⟩ := row_slice hown8
            have HR8 := Lib.hid (row_rd hown8 HI5.out (by simp; omega))
            have HB7 := Lib.hid (HAL5.out.grown hgrow7 (by rw [HSZ5.out]; omega) (fun q hq => by simp [Value.ownBlock] at hq; omega))
            have HD7 := Lib.hid (HD2.out.but HB7.out)
            have HG7 := Lib.hid (HGW.out.trans (grown_of HB7.out (some gm)))
            clear hown7 hgrow7 hx6 hown8 HAL5 HSZ5 HRA HO1 HW6
            go_wp2
            exact HYES.out w7 n2 f2 A8 c8 _ HD7.out HS2.out HN3.out HG7.out HR8.out HC5.out
      · have HALL : Hid (∀ l, ¬ Compl V m L k g sum s l) := Lib.hid fun l hl => by
          rcases hl.inv hkm with ⟨l', rfl, _⟩ | ⟨j, l', hj, _, _, _, rfl, _⟩
          · exact hno.out g l' (by omega) hl
          · exact hno.out j l' (by omega) hl
        have HNF : Hid (n' + 1 ≤ n + (6 * cstN d + 1)) := Lib.hid (by
          have h1 := hn.out
          have h3 : i * cstN d ≤ 6 * cstN d := Nat.mul_le_mul_right _ (by omega)
          omega)
        have GWD := Lib.hid (GW.out.trans (grown_of (below_drewN (Below.refl wr.heap.size wr) 1) (some gm)))
        have HDD : Hid (OwnD wr.drew gm n' f') := Lib.hid hD.out
        have HSP := Lib.hid (hS.out.put (s := s) (k := k) (g := g) (x := sum) HALL.out)
        have c2 := HWr.out.c2
        have hw2 := hG.out.size
        have k0 := (cell_but (o := 0) hG.out HB2.out HNE.out).trans KC2.out.1
        have k1 := (cell_but (o := 1) hG.out HB2.out HNE.out).trans KC2.out.2.1
        have k2 := (cell_but (o := 2) hG.out HB2.out HNE.out).trans KC2.out.2.2
        have HI64 : Hid (I64 sum) := Lib.hid ⟨by omega, by omega⟩
        have hn9 : n' < 10000000000 := by
          have h1 := HNF.out
          have h2 := HN.out
          omega
        have HN9 := Lib.hid hn9
        clear hno hn hD hS hn9 hw2
        go_wp2
        go_still_tail 6, (by kernel_rfl)
        change wpList _ _ _ _ _ wr.drew
        go_wp2_with (at_mapUpdate; refine wpd_put rfl _ _ _ rfl rfl HDD.out HN9.out (s := s) (k := k) (g := g) (by omega) (by omega) (by omega) rfl HI64.out rfl ?_; intro w9 hD9 hG9)
        go_wp2
        exact HNO.out w9 (n' + 1) _ hD9 HSP.out HNF.out (GWD.out.trans hG9) HALL.out
end Go.Proofs.Ytkoipecnmijfoaa
