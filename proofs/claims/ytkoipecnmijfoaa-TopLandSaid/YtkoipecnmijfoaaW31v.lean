import Derived.Test.YtkoipecnmijfoaaLitT
import Derived.Test.YtkoipecnmijfoaaSameM
import Derived.Test.YtkoipecnmijfoaaW31p
import Derived.Test.YtkoipecnmijfoaaW31q
/-! The walk of the statement's example. -/
namespace Go.Proofs.Ytkoipecnmijfoaa
open Go.RowKit Go.Deep
set_option linter.unusedVariables false
set_option maxRecDepth 100000

def exV : List (List Int) := [[1, 0], [0, 1]]
theorem exVS : VS exV 2 ∧ chk31 exV = 0 := by
  have h : chk31 exV = 0 := by decide +kernel
  exact ⟨chk31_zero h, h⟩
theorem exTab : TabOk exV 2 1 (fun s => [0, 1, 2, 2].getD s 0) := ⟨rfl, fun s h1 h2 => by
  have h3 : s < 4 := h2
  have : s = 1 ∨ s = 2 ∨ s = 3 := by omega
  rcases this with rfl | rfl | rfl <;> decide +kernel⟩
theorem Compl.fin {V : List (List Int)} {m g s : Nat} {L sum : Int} {l : List Int} (h : Compl V m L m g sum s l) : l = [] ∧ L ≤ sum ∧ ∀ i, i < V.length → s.testBit i = true → L ≤ 0 := by
  have hl := h.len
  cases h with
  | done h1 h2 => exact ⟨rfl, h1, h2⟩
  | same h1 _ => omega
  | next h1 _ _ _ _ _ => omega
theorem exVal : valV exV 0 0 = 1 ∧ valV exV 0 1 = 0 ∧ valV exV 1 0 = 0 ∧ valV exV 1 1 = 1 := by decide +kernel
theorem exBest {k g : Nat} {t : List Int} (hg : g < 2) (hb : Begin exV 2 (k : Int) g t) (hk : k ≤ 16001) (hn : k < 16001 → ¬ CanB exV 2 ((k : Int) + 1)) : k = 1 ∧ (g : Int) :: t = [0, 1] := by
  obtain ⟨v00, v01, v10, v11⟩ := exVal
  have h0 : k ≠ 0 := fun e => hn (by omega) (by rw [e]; exact ⟨_, exTab, by decide +kernel⟩)
  obtain ⟨_, _, h3⟩ := begin_ok exVS.1 (by omega) hg hb
  have h4 := h3 (by omega) 0 (by decide)
  have h5 : restV exV 2 0 0 = 1 := by decide +kernel
  have hk1 : k = 1 := by omega
  refine ⟨hk1, ?_⟩
  subst hk1
  unfold Begin at hb
  have e2 : exV.length = 2 := rfl
  rw [e2] at hb
  have hgc : g = 0 ∨ g = 1 := by omega
  rcases hgc with rfl | rfl
  · rcases hb.inv (by omega) with ⟨l', rfl, h6⟩ | ⟨i, l', hi, hne, _, _, rfl, h6⟩
    · obtain ⟨_, _, h7⟩ := h6.fin
      have := h7 1 (by decide) (by decide)
      omega
    · obtain ⟨rfl, _, _⟩ := h6.fin
      have : i = 1 := by have : i < 2 := hi; omega
      subst this
      rfl
  · rcases hb.inv (by omega) with ⟨l', rfl, h6⟩ | ⟨i, l', hi, hne, _, hs, rfl, h6⟩
    · obtain ⟨_, _, h7⟩ := h6.fin
      have := h7 0 (by decide) (by decide)
      omega
    · rw [v10] at hs
      omega
theorem exBrd : brdN 2 1 [0, 1] 0 1 = 1 ∧ brdE 2 1 [0, 1] 0 1 = 0 := by decide +kernel
theorem exTurn : turnL 2 1 = [1, 0] := by decide +kernel
set_option maxHeartbeats 2000000 in
theorem alive33 {w : World} : Calls Try.prog 4 #[] w fun e w' => e = .returned (.bool true) ∧ Below w.heap.size w w' := by
  go_enter Try.func4, Try.ntmps4
  go_wp2_with fail
  obtain ⟨b3, s3, r3⟩ := rows2 w [1, 0] [0, 1] 3 23 (by decide) (by decide) _ rfl
  simp only [List.map_cons, List.map_nil, List.length_cons, List.length_nil, Nat.zero_add, Nat.reduceAdd] at b3 s3 r3
  generalize ((w.alloc (.cells #[.int .i64 1, .int .i64 0] 3)).alloc (.cells #[.int .i64 0, .int .i64 1] 3)).alloc (.cells #[.slice (some ⟨w.heap.size, 0, none⟩) 2 2, .slice (some ⟨w.heap.size + 1, 0, none⟩) 2 2] 23) = w3 at *
  have CB := sBest exVS.1 exVS.2 (by omega) (by omega) (cap := 2) (V := exV) r3 (Nat.le_refl _)
  rw [show exV.length = 2 from rfl] at CB
  have HB3 := Lib.hid b3
  clear b3 s3 r3
  refine CB.mono ?_
  rintro e w4 ⟨A4, c4, g, k, t, rfl, hr4, hg, hbg, hk, hn, hb4⟩
  obtain ⟨rfl, hgt⟩ := exBest hg hbg hk hn
  rw [hgt] at hr4 ⊢
  have HR4 := Lib.hid hr4
  have HB4 := Lib.hid (HB3.out.trans (hb4.mono HB3.out.size))
  clear hr4 hg hbg hk hn hb4 CB hgt
  have CL := Lib.hid (lBorder (cap := c4) HR4.out (Nat.le_refl _) 2 1 0 1)
  rw [exBrd.1, exBrd.2] at CL
  go_wp2_with fail
  refine CL.out.mono ?_
  rintro e w5 ⟨rfl, hb5⟩
  have HB5 := Lib.hid (HB4.out.trans (hb5.mono HB4.out.size))
  have HR5 := Lib.hid ((HR4.out.below hb5 (Nat.le_refl _)).more hb5.size)
  clear hb5 CL HR4
  have CT := Lib.hid (rTurning (w := w5) (n := 2) (t := 1) (by omega) (by omega) (by omega))
  rw [show ((2 : Nat) : Int) = 2 from rfl, show ((1 : Nat) : Int) = 1 from rfl, exTurn] at CT
  go_wp2_with fail
  refine CT.out.mono ?_
  rintro e w6 ⟨g6, rfl, hO6, hg6, hb6⟩
  have HB6 := Lib.hid (HB5.out.trans (hb6.mono HB5.out.size))
  have HR6 := Lib.hid ((HR5.out.below hb6 (Nat.le_refl _)).more hb6.size)
  have HQ6 := Lib.hid (hO6.rd (B := w6.heap.size) (fun z hz => by simp at hz; unfold I64; omega) (by decide) hO6.lt)
  clear hO6 hg6 hb6 CT HR5
  have l7 := litRd (w := w6) (T := 3) (L := [0, 1]) (by decide)
  have ba := (Below.refl w6.heap.size w6).alloc (Nat.le_refl _) (.cells #[.int .i64 0, .int .i64 1] 3)
  have z1 : (w6.alloc (.cells #[.int .i64 0, .int .i64 1] 3)).heap.size = w6.heap.size + 1 := sizeA _ _
  simp only [List.map_cons, List.map_nil] at l7
  have CS := sameInts (cap := c4) (cap' := 2) (HR6.out.below ba (Nat.le_refl _)) l7 (by omega) (by omega)
  rw [decide_eq_true rfl] at CS
  have HCS := Lib.hid CS
  have HBA := Lib.hid ba
  clear CS ba l7
  go_wp2_with fail
  generalize w6.alloc (.cells #[.int .i64 0, .int .i64 1] 3) = w7 at *
  refine HCS.out.mono ?_
  rintro e w8 ⟨rfl, hb8⟩
  have HX8 := Lib.hid (HBA.out.trans (hb8.mono HBA.out.size))
  have HB8 := Lib.hid (HB6.out.trans (HX8.out.mono HB6.out.size))
  have HQ8 := Lib.hid ((HQ6.out.below HX8.out (Nat.le_refl _)).more HX8.out.size)
  clear hb8 HCS HBA z1 HR6
  have l9 := litRd (w := w8) (T := 3) (L := [1, 0]) (by decide)
  have bb := (Below.refl w8.heap.size w8).alloc (Nat.le_refl _) (.cells #[.int .i64 1, .int .i64 0] 3)
  have z2 : (w8.alloc (.cells #[.int .i64 1, .int .i64 0] 3)).heap.size = w8.heap.size + 1 := sizeA _ _
  simp only [List.map_cons, List.map_nil] at l9
  have CS2 := sameInts (cap := 2) (cap' := 2) (HQ8.out.below bb (Nat.le_refl _)) l9 (by omega) (by omega)
  rw [decide_eq_true rfl] at CS2
  have HCS2 := Lib.hid CS2
  have HBB := Lib.hid bb
  clear CS2 bb l9
  go_wp2_with fail
  generalize w8.alloc (.cells #[.int .i64 1, .int .i64 0] 3) = w9 at *
  refine HCS2.out.mono ?_
  rintro e w10 ⟨rfl, hb10⟩
  have HB10 := Lib.hid (HB8.out.trans ((HBB.out.trans (hb10.mono HBB.out.size)).mono HB8.out.size))
  clear hb10
  go_wp2
  go_ret
  exact ⟨rfl, HB10.out⟩
end Go.Proofs.Ytkoipecnmijfoaa
