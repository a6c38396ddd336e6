import Derived.Test.YtkoipecnmijfoaaGreatTT1
import Derived.Test.YtkoipecnmijfoaaGreatSameM
import Derived.Test.YtkoipecnmijfoaaGreatW35A
/-! Walks of the statement on firms, estates, turns and lies: its example; the offers. -/
namespace Go.Proofs.YtkoipecnmijfoaaGreat
open Go.RowKit Go.Deep
set_option linter.unusedVariables false
set_option maxRecDepth 100000

theorem exPy : pyL [1, 1] [100, 60] 1 = [-40, 40] ∧ sE [1, 1] [100, 60] 1 = 0 := by decide +kernel
theorem exTwo : Two 1 100 60 := ⟨by omega, by omega, by omega, by omega, by omega, by omega⟩
theorem exPayOk {a b : Int} (h : PayOk 1 100 60 a b) : a = -40 ∧ b = 40 := by
  have h1 := h.2 (by decide +kernel)
  exact ⟨h1.1.trans (by decide +kernel), h1.2.trans (by decide +kernel)⟩
set_option maxHeartbeats 2000000 in
theorem aliveT {w : World} : Calls Tryz.prog 4 #[] w fun e w' => e = .returned (.bool true) ∧ Below w.heap.size w w' := by
  go_enter Tryz.func4, Tryz.ntmps4
  go_wp2_with fail
  generalize hw1 : (w.alloc (.cells #[.int .i64 1, .int .i64 1] 3)).alloc (.cells #[.int .i64 100, .int .i64 60] 3) = w1 at *
  obtain ⟨b1, s1, r1, r2⟩ := lits2 w [1, 1] [100, 60] 3 3 (by decide) (by decide) w1 hw1
  have C1 := dPay (cap := 2) (cap' := 2) r1 (Nat.le_refl _) r2 (Nat.le_refl _) 1
  rw [exPy.1, exPy.2] at C1
  refine C1.mono ?_
  rintro e w2 ⟨A1, c1, rfl, hr1, hb⟩
  have HB2 := Lib.hid (b1.trans (hb.mono b1.size))
  have HR1 := Lib.hid hr1
  clear hb r1 r2 b1 s1 hw1 C1 hr1
  go_wp2_with fail
  have l1 := litRd (w := w2) (T := 3) (L := [1, 1]) (by decide)
  obtain ⟨b3, s3, r3⟩ := rows2 (w2.alloc (.cells #[.int .i64 1, .int .i64 1] 3)) [100] [60] 3 22 (by decide) (by decide) _ rfl
  have z1 : (w2.alloc (.cells #[.int .i64 1, .int .i64 1] 3)).heap.size = w2.heap.size + 1 := sizeA _ _
  have ba := (Below.refl w2.heap.size w2).alloc (Nat.le_refl _) (.cells #[.int .i64 1, .int .i64 1] 3)
  simp only [List.map_cons, List.map_nil, z1] at l1 b3 s3 r3
  simp only [List.length_cons, List.length_nil, Nat.zero_add] at b3 s3 r3
  generalize (((w2.alloc (.cells #[.int .i64 1, .int .i64 1] 3)).alloc (.cells #[.int .i64 100] 3)).alloc (.cells #[.int .i64 60] 3)).alloc (.cells #[.slice (some ⟨w2.heap.size + 1, 0, none⟩) 1 1, .slice (some ⟨w2.heap.size + 1 + 1, 0, none⟩) 1 1] 22) = w4 at *
  have l2 : Rd w4 w4.heap.size (some ⟨w2.heap.size, 0, none⟩) [1, 1] := (l1.below b3 (Nat.le_refl _)).more (by omega)
  have C2 := ePay (cs := 2) (cb := 2) l2 r3 (Nat.le_refl _) (Nat.le_refl _) exTwo
  have hx := ba.trans (b3.mono (by omega))
  have HR1' := Lib.hid ((HR1.out.below hx (Nat.le_refl _)).more hx.size)
  have HB4 := Lib.hid (HB2.out.trans (hx.mono HB2.out.size))
  clear hx b3 ba l1 l2 r3 s3 z1 HR1
  refine C2.mono ?_
  rintro e w5 ⟨g, a, b, rfl, hO, hP, _, hb5⟩
  obtain ⟨rfl, rfl⟩ := exPayOk hP
  have HR5 := Lib.hid ((HR1'.out.below hb5 (Nat.le_refl _)).more hb5.size)
  have HB5 := Lib.hid (HB4.out.trans (hb5.mono HB4.out.size))
  have HQ5 := Lib.hid (hO.rd (B := w5.heap.size) (fun z hz => by simp at hz; unfold I64; omega) (by decide) hO.lt)
  clear hO hP hb5 C2 HR1'
  have h9 := litRd (w := w5) (T := 3) (L := [-40, 40]) (by decide)
  have ba := (Below.refl w5.heap.size w5).alloc (Nat.le_refl _) (.cells #[.int .i64 (-40), .int .i64 40] 3)
  have z1 : (w5.alloc (.cells #[.int .i64 (-40), .int .i64 40] 3)).heap.size = w5.heap.size + 1 := sizeA _ _
  simp only [List.map_cons, List.map_nil] at h9
  have CS := sameInts (cap := c1) (cap' := 2) (HR5.out.below ba (Nat.le_refl _)) h9 (by omega) (by omega)
  rw [decide_eq_true rfl] at CS
  have HCS := Lib.hid CS
  have HBA := Lib.hid ba
  clear CS ba h9
  go_wp2_with fail
  generalize w5.alloc (.cells #[.int .i64 (-40), .int .i64 40] 3) = w6 at *
  refine HCS.out.mono ?_
  rintro e w7 ⟨rfl, hb7⟩
  have HX7 := Lib.hid (HBA.out.trans (hb7.mono HBA.out.size))
  have CS2 := sameInts (cap := 2) (cap' := c1) (HQ5.out.below HX7.out (Nat.le_refl _)) (HR5.out.below HX7.out (Nat.le_refl _)) HX7.out.size HX7.out.size
  rw [decide_eq_true rfl] at CS2
  have HCS2 := Lib.hid CS2
  have HB7 := Lib.hid (HB5.out.trans (HX7.out.mono HB5.out.size))
  clear CS2 hb7 HCS
  go_wp2_with fail
  refine HCS2.out.mono ?_
  rintro e w8 ⟨rfl, hb8⟩
  have HB8 := Lib.hid (HB7.out.trans (hb8.mono HB7.out.size))
  clear hb8
  go_wp2
  go_ret
  exact ⟨rfl, HB8.out⟩
end Go.Proofs.YtkoipecnmijfoaaGreat
