import Derived.Test.YtjaobcmladkjcaaW34p
/-! The walk of the statement DissolveNames. -/
namespace Go.Proofs.Ytjaobcmladkjcaa
open Go.RowKit Go.Deep
set_option linter.unusedVariables false

set_option maxRecDepth 100000 in
set_option maxHeartbeats 4000000 in
theorem names {w : World} : Calls Try.prog 8 #[] w fun e w' => e = .returned (.bool true) ∧ Below w.heap.size w w' := by
  have hmk : ∀ u : World, (Instr.makeSlice 22 (.int .i64 11) (.int .i64 11)).run Try.prog u = .ok (.slice (some ⟨u.heap.size, 0, none⟩) 11 11) (u.alloc (.cells #[.int .i64 0, .int .i64 0, .int .i64 0, .int .i64 0, .int .i64 0, .int .i64 0, .int .i64 0, .int .i64 0, .int .i64 0, .int .i64 0, .int .i64 0] 3)) := fun u => by kernel_rfl
  have HB0 := Lib.hid (Below.refl w.heap.size w)
  go_enter Try.func8, Try.ntmps8
  go_wp2_with fail
  have hn1 := newRd (w := w) (T := 3) (L := [0, 0, 0, 0, 0, 0, 0, 0, 0, 0, 0]) (by decide) (by decide)
  have ha1 : Below w.heap.size w (w.alloc (.cells ([0, 0, 0, 0, 0, 0, 0, 0, 0, 0, 0].map (Value.int .i64)).toArray 3)) := (Below.refl _ _).alloc (Nat.le_refl _) _
  have hs1 : (w.alloc (.cells ([0, 0, 0, 0, 0, 0, 0, 0, 0, 0, 0].map (Value.int .i64)).toArray 3)).heap.size = w.heap.size + 1 := by simp
  simp only [List.map_cons, List.map_nil] at hn1 ha1 hs1
  generalize w.alloc (.cells #[.int .i64 0, .int .i64 0, .int .i64 0, .int .i64 0, .int .i64 0, .int .i64 0, .int .i64 0, .int .i64 0, .int .i64 0, .int .i64 0, .int .i64 0] 3) = a1 at *
  have HN1 := Lib.hid hn1
  have HS1 := Lib.hid hs1
  have HB1 := Lib.hid (HB0.out.trans (ha1.mono HB0.out.size))
  have HA1 := Lib.hid ha1
  clear hn1 ha1 hs1
  refine (dCheck (cap := 11) HN1.out).mono ?_
  rw [show chk [0, 0, 0, 0, 0, 0, 0, 0, 0, 0, 0] = 4 by decide]
  rintro e u2 ⟨rfl, hu2⟩
  have HB2 : Hid (Below w.heap.size w u2) := Lib.hid (by rw [← hu2]; exact HB1.out)
  have HX2 : Hid (Below a1.heap.size a1 u2) := Lib.hid (by rw [← hu2]; exact Below.refl _ _)
  clear hu2
  go_wp2_with fail
  have hn3 := newRd (w := u2) (T := 3) (L := [1]) (by decide) (by decide)
  have ha3 : Below u2.heap.size u2 (u2.alloc (.cells ([1].map (Value.int .i64)).toArray 3)) := (Below.refl _ _).alloc (Nat.le_refl _) _
  have hs3 : (u2.alloc (.cells ([1].map (Value.int .i64)).toArray 3)).heap.size = u2.heap.size + 1 := by simp
  simp only [List.map_cons, List.map_nil] at hn3 ha3 hs3
  generalize u2.alloc (.cells #[.int .i64 1] 3) = a3 at *
  have HN3 := Lib.hid hn3
  have HS3 := Lib.hid hs3
  have HB3 := Lib.hid (HB2.out.trans (ha3.mono HB2.out.size))
  have HA3 := Lib.hid ha3
  clear hn3 ha3 hs3
  refine (dCheck (cap := 1) HN3.out).mono ?_
  rw [show chk [1] = 8 by decide]
  rintro e u4 ⟨rfl, hu4⟩
  have HB4 : Hid (Below w.heap.size w u4) := Lib.hid (by rw [← hu4]; exact HB3.out)
  have HX4 : Hid (Below a3.heap.size a3 u4) := Lib.hid (by rw [← hu4]; exact Below.refl _ _)
  clear hu4
  go_wp2_with fail
  have hn5 := newRd (w := u4) (T := 3) (L := [1, 0]) (by decide) (by decide)
  have ha5 : Below u4.heap.size u4 (u4.alloc (.cells ([1, 0].map (Value.int .i64)).toArray 3)) := (Below.refl _ _).alloc (Nat.le_refl _) _
  have hs5 : (u4.alloc (.cells ([1, 0].map (Value.int .i64)).toArray 3)).heap.size = u4.heap.size + 1 := by simp
  simp only [List.map_cons, List.map_nil] at hn5 ha5 hs5
  generalize u4.alloc (.cells #[.int .i64 1, .int .i64 0] 3) = a5 at *
  have HN5 := Lib.hid hn5
  have HS5 := Lib.hid hs5
  have HB5 := Lib.hid (HB4.out.trans (ha5.mono HB4.out.size))
  have HA5 := Lib.hid ha5
  clear hn5 ha5 hs5
  refine (dCheck (cap := 2) HN5.out).mono ?_
  rw [show chk [1, 0] = 8 by decide]
  rintro e u6 ⟨rfl, hu6⟩
  have HB6 : Hid (Below w.heap.size w u6) := Lib.hid (by rw [← hu6]; exact HB5.out)
  have HX6 : Hid (Below a5.heap.size a5 u6) := Lib.hid (by rw [← hu6]; exact Below.refl _ _)
  clear hu6
  go_wp2_with fail
  have hn7 := newRd (w := u6) (T := 3) (L := [1, 1000]) (by decide) (by decide)
  have ha7 : Below u6.heap.size u6 (u6.alloc (.cells ([1, 1000].map (Value.int .i64)).toArray 3)) := (Below.refl _ _).alloc (Nat.le_refl _) _
  have hs7 : (u6.alloc (.cells ([1, 1000].map (Value.int .i64)).toArray 3)).heap.size = u6.heap.size + 1 := by simp
  simp only [List.map_cons, List.map_nil] at hn7 ha7 hs7
  generalize u6.alloc (.cells #[.int .i64 1, .int .i64 1000] 3) = a7 at *
  have HN7 := Lib.hid hn7
  have HS7 := Lib.hid hs7
  have HB7 := Lib.hid (HB6.out.trans (ha7.mono HB6.out.size))
  have HA7 := Lib.hid ha7
  clear hn7 ha7 hs7
  refine (dCheck (cap := 2) HN7.out).mono ?_
  rw [show chk [1, 1000] = 8 by decide]
  rintro e u8 ⟨rfl, hu8⟩
  have HB8 : Hid (Below w.heap.size w u8) := Lib.hid (by rw [← hu8]; exact HB7.out)
  have HX8 : Hid (Below a7.heap.size a7 u8) := Lib.hid (by rw [← hu8]; exact Below.refl _ _)
  clear hu8
  go_wp2_with fail
  have hn9 := newRd (w := u8) (T := 3) (L := [1, 999]) (by decide) (by decide)
  have ha9 : Below u8.heap.size u8 (u8.alloc (.cells ([1, 999].map (Value.int .i64)).toArray 3)) := (Below.refl _ _).alloc (Nat.le_refl _) _
  have hs9 : (u8.alloc (.cells ([1, 999].map (Value.int .i64)).toArray 3)).heap.size = u8.heap.size + 1 := by simp
  simp only [List.map_cons, List.map_nil] at hn9 ha9 hs9
  generalize u8.alloc (.cells #[.int .i64 1, .int .i64 999] 3) = a9 at *
  have HN9 := Lib.hid hn9
  have HS9 := Lib.hid hs9
  have HB9 := Lib.hid (HB8.out.trans (ha9.mono HB8.out.size))
  have HA9 := Lib.hid ha9
  clear hn9 ha9 hs9
  refine (dCheck (cap := 2) HN9.out).mono ?_
  rw [show chk [1, 999] = 0 by decide]
  rintro e u10 ⟨rfl, hu10⟩
  have HB10 : Hid (Below w.heap.size w u10) := Lib.hid (by rw [← hu10]; exact HB9.out)
  have HX10 : Hid (Below a9.heap.size a9 u10) := Lib.hid (by rw [← hu10]; exact Below.refl _ _)
  clear hu10
  go_wp2_with fail
  have hn11 := newRd (w := u10) (T := 3) (L := [1, 1]) (by decide) (by decide)
  have ha11 : Below u10.heap.size u10 (u10.alloc (.cells ([1, 1].map (Value.int .i64)).toArray 3)) := (Below.refl _ _).alloc (Nat.le_refl _) _
  have hs11 : (u10.alloc (.cells ([1, 1].map (Value.int .i64)).toArray 3)).heap.size = u10.heap.size + 1 := by simp
  simp only [List.map_cons, List.map_nil] at hn11 ha11 hs11
  generalize u10.alloc (.cells #[.int .i64 1, .int .i64 1] 3) = a11 at *
  have HN11 := Lib.hid hn11
  have HS11 := Lib.hid hs11
  have HB11 := Lib.hid (HB10.out.trans (ha11.mono HB10.out.size))
  have HA11 := Lib.hid ha11
  clear hn11 ha11 hs11
  have htw : ∀ u, Below a11.heap.size a11 u → Rd u a11.heap.size (some ⟨u10.heap.size, 0, none⟩) [1, 1] ∧ a11.heap.size ≤ u.heap.size :=
    fun u hu => ⟨(HN11.out.below hu (by rw [HS11.out]; exact Nat.le_refl _)).more (by rw [HS11.out]; exact Nat.le_refl _), hu.size⟩
  have R2 := Lib.hid htw
  have HT11 := Lib.hid (Below.refl a11.heap.size a11)
  clear htw
  have hn12 := newRd (w := a11) (T := 3) (L := [1]) (by decide) (by decide)
  have ha12 : Below a11.heap.size a11 (a11.alloc (.cells ([1].map (Value.int .i64)).toArray 3)) := (Below.refl _ _).alloc (Nat.le_refl _) _
  have hs12 : (a11.alloc (.cells ([1].map (Value.int .i64)).toArray 3)).heap.size = a11.heap.size + 1 := by simp
  simp only [List.map_cons, List.map_nil] at hn12 ha12 hs12
  generalize a11.alloc (.cells #[.int .i64 1] 3) = a12 at *
  have HN12 := Lib.hid hn12
  have HS12 := Lib.hid hs12
  have HB12 := Lib.hid (HB11.out.trans (ha12.mono HB11.out.size))
  have HA12 := Lib.hid ha12
  clear hn12 ha12 hs12
  replace HN12 : Hid (Rd a12 (a11.heap.size + 1) (some ⟨u10.heap.size + 1, 0, none⟩) [1]) := Lib.hid (by rw [← HS11.out]; exact HN12.out)
  have HT12 : Hid (Below a11.heap.size a11 a12) := Lib.hid (HT11.out.trans (HA12.out.mono HT11.out.size))
  refine (dBuyer (cap := 2) (cap' := 1) (R2.out _ HT12.out).1 HN12.out (by rw [HS12.out]; exact Nat.le_refl _) ).mono ?_
  rw [show byE [1, 1] [1] = 0 by decide, show lok [1, 1] [1] = 8 by decide]
  rintro e u13 ⟨rfl, hu13⟩
  have HB13 := Lib.hid (HB12.out.trans (hu13.mono HB12.out.size))
  have HX13 := Lib.hid hu13
  clear hu13
  have HT13 : Hid (Below a11.heap.size a11 u13) := Lib.hid (HT12.out.trans (HX13.out.mono HT12.out.size))
  go_wp2_with fail
  have hn14 := newRd (w := u13) (T := 3) (L := [1, -1]) (by decide) (by decide)
  have ha14 : Below u13.heap.size u13 (u13.alloc (.cells ([1, -1].map (Value.int .i64)).toArray 3)) := (Below.refl _ _).alloc (Nat.le_refl _) _
  have hs14 : (u13.alloc (.cells ([1, -1].map (Value.int .i64)).toArray 3)).heap.size = u13.heap.size + 1 := by simp
  simp only [List.map_cons, List.map_nil] at hn14 ha14 hs14
  generalize u13.alloc (.cells #[.int .i64 1, .int .i64 (-1)] 3) = a14 at *
  have HN14 := Lib.hid hn14
  have HS14 := Lib.hid hs14
  have HB14 := Lib.hid (HB13.out.trans (ha14.mono HB13.out.size))
  have HA14 := Lib.hid ha14
  clear hn14 ha14 hs14
  have HT14 : Hid (Below a11.heap.size a11 a14) := Lib.hid (HT13.out.trans (HA14.out.mono HT13.out.size))
  refine (dBuyer (cap := 2) (cap' := 2) (R2.out _ HT14.out).1 HN14.out (by rw [HS14.out]; exact Nat.le_refl _) ).mono ?_
  rw [show byE [1, 1] [1, -1] = 0 by decide, show lok [1, 1] [1, -1] = 8 by decide]
  rintro e u15 ⟨rfl, hu15⟩
  have HB15 := Lib.hid (HB14.out.trans (hu15.mono HB14.out.size))
  have HX15 := Lib.hid hu15
  clear hu15
  have HT15 : Hid (Below a11.heap.size a11 u15) := Lib.hid (HT14.out.trans (HX15.out.mono HT14.out.size))
  go_wp2_with fail
  have hn16 := newRd (w := u15) (T := 3) (L := [1, 1000001]) (by decide) (by decide)
  have ha16 : Below u15.heap.size u15 (u15.alloc (.cells ([1, 1000001].map (Value.int .i64)).toArray 3)) := (Below.refl _ _).alloc (Nat.le_refl _) _
  have hs16 : (u15.alloc (.cells ([1, 1000001].map (Value.int .i64)).toArray 3)).heap.size = u15.heap.size + 1 := by simp
  simp only [List.map_cons, List.map_nil] at hn16 ha16 hs16
  generalize u15.alloc (.cells #[.int .i64 1, .int .i64 1000001] 3) = a16 at *
  have HN16 := Lib.hid hn16
  have HS16 := Lib.hid hs16
  have HB16 := Lib.hid (HB15.out.trans (ha16.mono HB15.out.size))
  have HA16 := Lib.hid ha16
  clear hn16 ha16 hs16
  have HT16 : Hid (Below a11.heap.size a11 a16) := Lib.hid (HT15.out.trans (HA16.out.mono HT15.out.size))
  refine (dBuyer (cap := 2) (cap' := 2) (R2.out _ HT16.out).1 HN16.out (by rw [HS16.out]; exact Nat.le_refl _) ).mono ?_
  rw [show byE [1, 1] [1, 1000001] = 0 by decide, show lok [1, 1] [1, 1000001] = 8 by decide]
  rintro e u17 ⟨rfl, hu17⟩
  have HB17 := Lib.hid (HB16.out.trans (hu17.mono HB16.out.size))
  have HX17 := Lib.hid hu17
  clear hu17
  have HT17 : Hid (Below a11.heap.size a11 u17) := Lib.hid (HT16.out.trans (HX17.out.mono HT16.out.size))
  go_wp2_with fail
  have hn18 := newRd (w := u17) (T := 3) (L := [1, 2]) (by decide) (by decide)
  have ha18 : Below u17.heap.size u17 (u17.alloc (.cells ([1, 2].map (Value.int .i64)).toArray 3)) := (Below.refl _ _).alloc (Nat.le_refl _) _
  have hs18 : (u17.alloc (.cells ([1, 2].map (Value.int .i64)).toArray 3)).heap.size = u17.heap.size + 1 := by simp
  simp only [List.map_cons, List.map_nil] at hn18 ha18 hs18
  generalize u17.alloc (.cells #[.int .i64 1, .int .i64 2] 3) = a18 at *
  have HN18 := Lib.hid hn18
  have HS18 := Lib.hid hs18
  have HB18 := Lib.hid (HB17.out.trans (ha18.mono HB17.out.size))
  have HA18 := Lib.hid ha18
  clear hn18 ha18 hs18
  have HT18 : Hid (Below a11.heap.size a11 a18) := Lib.hid (HT17.out.trans (HA18.out.mono HT17.out.size))
  refine (dPrice (cap := 2) (cap' := 2) (R2.out _ HT18.out).1 HN18.out (by rw [HS18.out]; exact Nat.le_refl _) 2).mono ?_
  rw [show sP [1, 1] [1, 2] 2 = 0 by decide, show sE [1, 1] [1, 2] 2 = 2 by decide]
  rintro e u19 ⟨rfl, hu19⟩
  have HB19 := Lib.hid (HB18.out.trans (hu19.mono HB18.out.size))
  have HX19 := Lib.hid hu19
  clear hu19
  have HT19 : Hid (Below a11.heap.size a11 u19) := Lib.hid (HT18.out.trans (HX19.out.mono HT18.out.size))
  go_wp2_with fail
  have hn20 := newRd (w := u19) (T := 3) (L := [1, 2]) (by decide) (by decide)
  have ha20 : Below u19.heap.size u19 (u19.alloc (.cells ([1, 2].map (Value.int .i64)).toArray 3)) := (Below.refl _ _).alloc (Nat.le_refl _) _
  have hs20 : (u19.alloc (.cells ([1, 2].map (Value.int .i64)).toArray 3)).heap.size = u19.heap.size + 1 := by simp
  simp only [List.map_cons, List.map_nil] at hn20 ha20 hs20
  generalize u19.alloc (.cells #[.int .i64 1, .int .i64 2] 3) = a20 at *
  have HN20 := Lib.hid hn20
  have HS20 := Lib.hid hs20
  have HB20 := Lib.hid (HB19.out.trans (ha20.mono HB19.out.size))
  have HA20 := Lib.hid ha20
  clear hn20 ha20 hs20
  have HT20 : Hid (Below a11.heap.size a11 a20) := Lib.hid (HT19.out.trans (HA20.out.mono HT19.out.size))
  refine (dPrice (cap := 2) (cap' := 2) (R2.out _ HT20.out).1 HN20.out (by rw [HS20.out]; exact Nat.le_refl _) (-1)).mono ?_
  rw [show sP [1, 1] [1, 2] (-1) = 0 by decide, show sE [1, 1] [1, 2] (-1) = 2 by decide]
  rintro e u21 ⟨rfl, hu21⟩
  have HB21 := Lib.hid (HB20.out.trans (hu21.mono HB20.out.size))
  have HX21 := Lib.hid hu21
  clear hu21
  have HT21 : Hid (Below a11.heap.size a11 u21) := Lib.hid (HT20.out.trans (HX21.out.mono HT20.out.size))
  go_wp2_with fail
  have hn22 := newRd (w := u21) (T := 3) (L := [1, 2]) (by decide) (by decide)
  have ha22 : Below u21.heap.size u21 (u21.alloc (.cells ([1, 2].map (Value.int .i64)).toArray 3)) := (Below.refl _ _).alloc (Nat.le_refl _) _
  have hs22 : (u21.alloc (.cells ([1, 2].map (Value.int .i64)).toArray 3)).heap.size = u21.heap.size + 1 := by simp
  simp only [List.map_cons, List.map_nil] at hn22 ha22 hs22
  generalize u21.alloc (.cells #[.int .i64 1, .int .i64 2] 3) = a22 at *
  have HN22 := Lib.hid hn22
  have HS22 := Lib.hid hs22
  have HB22 := Lib.hid (HB21.out.trans (ha22.mono HB21.out.size))
  have HA22 := Lib.hid ha22
  clear hn22 ha22 hs22
  have HT22 : Hid (Below a11.heap.size a11 a22) := Lib.hid (HT21.out.trans (HA22.out.mono HT21.out.size))
  refine (dGain (cap := 2) (cap' := 2) (R2.out _ HT22.out).1 (R2.out _ HT22.out).2 HN22.out (by rw [HS22.out]; exact Nat.le_refl _) 0 2 5).mono ?_
  rw [show gV [1, 1] [1, 2] 0 2 5 = 0 by decide, show gE [1, 1] [1, 2] 0 2 5 = 2 by decide]
  rintro e u23 ⟨rfl, hu23⟩
  have HB23 := Lib.hid (HB22.out.trans (hu23.mono HB22.out.size))
  have HX23 := Lib.hid hu23
  clear hu23
  have HT23 : Hid (Below a11.heap.size a11 u23) := Lib.hid (HT22.out.trans (HX23.out.mono HT22.out.size))
  go_wp2_with fail
  have hn24 := newRd (w := u23) (T := 3) (L := [1, 2]) (by decide) (by decide)
  have ha24 : Below u23.heap.size u23 (u23.alloc (.cells ([1, 2].map (Value.int .i64)).toArray 3)) := (Below.refl _ _).alloc (Nat.le_refl _) _
  have hs24 : (u23.alloc (.cells ([1, 2].map (Value.int .i64)).toArray 3)).heap.size = u23.heap.size + 1 := by simp
  simp only [List.map_cons, List.map_nil] at hn24 ha24 hs24
  generalize u23.alloc (.cells #[.int .i64 1, .int .i64 2] 3) = a24 at *
  have HN24 := Lib.hid hn24
  have HS24 := Lib.hid hs24
  have HB24 := Lib.hid (HB23.out.trans (ha24.mono HB23.out.size))
  have HA24 := Lib.hid ha24
  clear hn24 ha24 hs24
  have HT24 : Hid (Below a11.heap.size a11 a24) := Lib.hid (HT23.out.trans (HA24.out.mono HT23.out.size))
  refine (dGain (cap := 2) (cap' := 2) (R2.out _ HT24.out).1 (R2.out _ HT24.out).2 HN24.out (by rw [HS24.out]; exact Nat.le_refl _) 0 1 (-1)).mono ?_
  rw [show gV [1, 1] [1, 2] 0 1 (-1) = 0 by decide, show gE [1, 1] [1, 2] 0 1 (-1) = 2 by decide]
  rintro e u25 ⟨rfl, hu25⟩
  have HB25 := Lib.hid (HB24.out.trans (hu25.mono HB24.out.size))
  have HX25 := Lib.hid hu25
  clear hu25
  have HT25 : Hid (Below a11.heap.size a11 u25) := Lib.hid (HT24.out.trans (HX25.out.mono HT24.out.size))
  go_wp2_with fail
  have hn26 := newRd (w := u25) (T := 3) (L := [1, 2]) (by decide) (by decide)
  have ha26 : Below u25.heap.size u25 (u25.alloc (.cells ([1, 2].map (Value.int .i64)).toArray 3)) := (Below.refl _ _).alloc (Nat.le_refl _) _
  have hs26 : (u25.alloc (.cells ([1, 2].map (Value.int .i64)).toArray 3)).heap.size = u25.heap.size + 1 := by simp
  simp only [List.map_cons, List.map_nil] at hn26 ha26 hs26
  generalize u25.alloc (.cells #[.int .i64 1, .int .i64 2] 3) = a26 at *
  have HN26 := Lib.hid hn26
  have HS26 := Lib.hid hs26
  have HB26 := Lib.hid (HB25.out.trans (ha26.mono HB25.out.size))
  have HA26 := Lib.hid ha26
  clear hn26 ha26 hs26
  have HT26 : Hid (Below a11.heap.size a11 a26) := Lib.hid (HT25.out.trans (HA26.out.mono HT25.out.size))
  refine (dGain (cap := 2) (cap' := 2) (R2.out _ HT26.out).1 (R2.out _ HT26.out).2 HN26.out (by rw [HS26.out]; exact Nat.le_refl _) 0 1 1000001).mono ?_
  rw [show gV [1, 1] [1, 2] 0 1 1000001 = 0 by decide, show gE [1, 1] [1, 2] 0 1 1000001 = 2 by decide]
  rintro e u27 ⟨rfl, hu27⟩
  have HB27 := Lib.hid (HB26.out.trans (hu27.mono HB26.out.size))
  have HX27 := Lib.hid hu27
  clear hu27
  have HT27 : Hid (Below a11.heap.size a11 u27) := Lib.hid (HT26.out.trans (HX27.out.mono HT26.out.size))
  go_wp2_with fail
  have hn28 := newRd (w := u27) (T := 3) (L := [7, 7]) (by decide) (by decide)
  have ha28 : Below u27.heap.size u27 (u27.alloc (.cells ([7, 7].map (Value.int .i64)).toArray 3)) := (Below.refl _ _).alloc (Nat.le_refl _) _
  have hs28 : (u27.alloc (.cells ([7, 7].map (Value.int .i64)).toArray 3)).heap.size = u27.heap.size + 1 := by simp
  simp only [List.map_cons, List.map_nil] at hn28 ha28 hs28
  generalize u27.alloc (.cells #[.int .i64 7, .int .i64 7] 3) = a28 at *
  have HN28 := Lib.hid hn28
  have HS28 := Lib.hid hs28
  have HB28 := Lib.hid (HB27.out.trans (ha28.mono HB27.out.size))
  have HA28 := Lib.hid ha28
  clear hn28 ha28 hs28
  have HT28 : Hid (Below a11.heap.size a11 a28) := Lib.hid (HT27.out.trans (HA28.out.mono HT27.out.size))
  refine (dBuyer (cap := 2) (cap' := 2) (R2.out _ HT28.out).1 HN28.out (by rw [HS28.out]; exact Nat.le_refl _) ).mono ?_
  rw [show byE [1, 1] [7, 7] = 0 by decide, show lok [1, 1] [7, 7] = 0 by decide]
  rintro e u29 ⟨rfl, hu29⟩
  have HB29 := Lib.hid (HB28.out.trans (hu29.mono HB28.out.size))
  have HX29 := Lib.hid hu29
  clear hu29
  have HT29 : Hid (Below a11.heap.size a11 u29) := Lib.hid (HT28.out.trans (HX29.out.mono HT28.out.size))
  go_wp2_with fail
  have hn30 := newRd (w := u29) (T := 3) (L := [1, 1, 1]) (by decide) (by decide)
  have ha30 : Below u29.heap.size u29 (u29.alloc (.cells ([1, 1, 1].map (Value.int .i64)).toArray 3)) := (Below.refl _ _).alloc (Nat.le_refl _) _
  have hs30 : (u29.alloc (.cells ([1, 1, 1].map (Value.int .i64)).toArray 3)).heap.size = u29.heap.size + 1 := by simp
  simp only [List.map_cons, List.map_nil] at hn30 ha30 hs30
  generalize u29.alloc (.cells #[.int .i64 1, .int .i64 1, .int .i64 1] 3) = a30 at *
  have HN30 := Lib.hid hn30
  have HS30 := Lib.hid hs30
  have HB30 := Lib.hid (HB29.out.trans (ha30.mono HB29.out.size))
  have HA30 := Lib.hid ha30
  clear hn30 ha30 hs30
  have HT30 : Hid (Below a11.heap.size a11 a30) := Lib.hid (HT29.out.trans (HA30.out.mono HT29.out.size))
  refine (dShoot (cap := 3) HN30.out (by rw [HS30.out]; exact Nat.le_refl _) 5 0 5).mono ?_
  rw [show shB [1, 1, 1] 5 0 5 = false by decide, show shL [1, 1, 1] 5 0 5 = [] by decide, show shE [1, 1, 1] 5 0 5 = 2 by decide]
  rintro e u31 ⟨SA31, sc31, rfl, sr31, hu31⟩
  have HB31 := Lib.hid (HB30.out.trans (hu31.mono HB30.out.size))
  have HX31 := Lib.hid hu31
  clear hu31
  have HT31 : Hid (Below a11.heap.size a11 u31) := Lib.hid (HT30.out.trans (HX31.out.mono HT30.out.size))
  have SR31 := Lib.hid sr31
  clear sr31
  go_wp2_with fail
  refine (dShoot (cap := 2) (R2.out _ HT31.out).1 (R2.out _ HT31.out).2 5 2 5).mono ?_
  rw [show shB [1, 1] 5 2 5 = false by decide, show shL [1, 1] 5 2 5 = [] by decide, show shE [1, 1] 5 2 5 = 2 by decide]
  rintro e u32 ⟨SA32, sc32, rfl, sr32, hu32⟩
  have HB32 := Lib.hid (HB31.out.trans (hu32.mono HB31.out.size))
  have HX32 := Lib.hid hu32
  clear hu32
  have HT32 : Hid (Below a11.heap.size a11 u32) := Lib.hid (HT31.out.trans (HX32.out.mono HT31.out.size))
  have SR32 := Lib.hid sr32
  clear sr32
  go_wp2_with fail
  refine (dShoot (cap := 2) (R2.out _ HT32.out).1 (R2.out _ HT32.out).2 (-1) 0 5).mono ?_
  rw [show shB [1, 1] (-1) 0 5 = false by decide, show shL [1, 1] (-1) 0 5 = [] by decide, show shE [1, 1] (-1) 0 5 = 2 by decide]
  rintro e u33 ⟨SA33, sc33, rfl, sr33, hu33⟩
  have HB33 := Lib.hid (HB32.out.trans (hu33.mono HB32.out.size))
  have HX33 := Lib.hid hu33
  clear hu33
  have HT33 : Hid (Below a11.heap.size a11 u33) := Lib.hid (HT32.out.trans (HX33.out.mono HT32.out.size))
  have SR33 := Lib.hid sr33
  clear sr33
  go_wp2_with fail
  refine (dShoot (cap := 2) (R2.out _ HT33.out).1 (R2.out _ HT33.out).2 5 0 1000001).mono ?_
  rw [show shB [1, 1] 5 0 1000001 = false by decide, show shL [1, 1] 5 0 1000001 = [] by decide, show shE [1, 1] 5 0 1000001 = 2 by decide]
  rintro e u34 ⟨SA34, sc34, rfl, sr34, hu34⟩
  have HB34 := Lib.hid (HB33.out.trans (hu34.mono HB33.out.size))
  have HX34 := Lib.hid hu34
  clear hu34
  have HT34 : Hid (Below a11.heap.size a11 u34) := Lib.hid (HT33.out.trans (HX34.out.mono HT33.out.size))
  have SR34 := Lib.hid sr34
  clear sr34
  go_wp2_with fail
  refine (dShoot (cap := 2) (R2.out _ HT34.out).1 (R2.out _ HT34.out).2 100 1 100).mono ?_
  rw [show shB [1, 1] 100 1 100 = true by decide, show shL [1, 1] 100 1 100 = [50, -50] by decide, show shE [1, 1] 100 1 100 = 0 by decide]
  rintro e u35 ⟨SA35, sc35, rfl, sr35, hu35⟩
  have HB35 := Lib.hid (HB34.out.trans (hu35.mono HB34.out.size))
  have HX35 := Lib.hid hu35
  clear hu35
  have HT35 : Hid (Below a11.heap.size a11 u35) := Lib.hid (HT34.out.trans (HX35.out.mono HT34.out.size))
  have SR35 := Lib.hid sr35
  clear sr35
  go_wp2_with fail
  refine (dShoot (cap := 2) (R2.out _ HT35.out).1 (R2.out _ HT35.out).2 100 1 99).mono ?_
  rw [show shB [1, 1] 100 1 99 = false by decide, show shL [1, 1] 100 1 99 = [-50, 50] by decide, show shE [1, 1] 100 1 99 = 0 by decide]
  rintro e u36 ⟨SA36, sc36, rfl, sr36, hu36⟩
  have HB36 := Lib.hid (HB35.out.trans (hu36.mono HB35.out.size))
  have HX36 := Lib.hid hu36
  clear hu36
  have HT36 : Hid (Below a11.heap.size a11 u36) := Lib.hid (HT35.out.trans (HX36.out.mono HT35.out.size))
  have SR36 := Lib.hid sr36
  clear sr36
  go_wp2_with fail
  have hn37 := newRd (w := u36) (T := 3) (L := [1, 2]) (by decide) (by decide)
  have ha37 : Below u36.heap.size u36 (u36.alloc (.cells ([1, 2].map (Value.int .i64)).toArray 3)) := (Below.refl _ _).alloc (Nat.le_refl _) _
  have hs37 : (u36.alloc (.cells ([1, 2].map (Value.int .i64)).toArray 3)).heap.size = u36.heap.size + 1 := by simp
  simp only [List.map_cons, List.map_nil] at hn37 ha37 hs37
  generalize u36.alloc (.cells #[.int .i64 1, .int .i64 2] 3) = a37 at *
  have HN37 := Lib.hid hn37
  have HS37 := Lib.hid hs37
  have HB37 := Lib.hid (HB36.out.trans (ha37.mono HB36.out.size))
  have HA37 := Lib.hid ha37
  clear hn37 ha37 hs37
  have HT37 : Hid (Below a11.heap.size a11 a37) := Lib.hid (HT36.out.trans (HA37.out.mono HT36.out.size))
  refine (dShoot (cap := 2) HN37.out (by rw [HS37.out]; exact Nat.le_refl _) 101 0 101).mono ?_
  rw [show shB [1, 2] 101 0 101 = true by decide, show shL [1, 2] 101 0 101 = [-67, 67] by decide, show shE [1, 2] 101 0 101 = 0 by decide]
  rintro e u38 ⟨SA38, sc38, rfl, sr38, hu38⟩
  have HB38 := Lib.hid (HB37.out.trans (hu38.mono HB37.out.size))
  have HX38 := Lib.hid hu38
  clear hu38
  have HT38 : Hid (Below a11.heap.size a11 u38) := Lib.hid (HT37.out.trans (HX38.out.mono HT37.out.size))
  have SR38 := Lib.hid sr38
  clear sr38
  go_wp2_with fail
  refine (alive _).mono ?_
  rintro e v0 ⟨rfl, hv0⟩
  have HV0 := Lib.hid (HB38.out.trans (hv0.mono HB38.out.size))
  have D1 : Hid (Below u35.heap.size u35 v0) := Lib.hid ((HX36.out.trans ((HA37.out.trans (HX38.out.mono HA37.out.size)).mono HX36.out.size)).trans (hv0.mono (Nat.le_trans HX36.out.size (Nat.le_trans HA37.out.size HX38.out.size))))
  have D2 : Hid (Below u36.heap.size u36 v0) := Lib.hid ((HA37.out.trans (HX38.out.mono HA37.out.size)).trans (hv0.mono (Nat.le_trans HA37.out.size HX38.out.size)))
  have D3 : Hid (Below u38.heap.size u38 v0) := Lib.hid hv0
  clear hv0
  go_wp2_with fail
  have hn := newRd (w := v0) (T := 3) (L := [50, -50]) (by decide) (by decide)
  have ha : Below v0.heap.size v0 (v0.alloc (.cells ([50, -50].map (Value.int .i64)).toArray 3)) := (Below.refl _ _).alloc (Nat.le_refl _) _
  have hs : (v0.alloc (.cells ([50, -50].map (Value.int .i64)).toArray 3)).heap.size = v0.heap.size + 1 := by simp
  simp only [List.map_cons, List.map_nil] at hn ha hs
  generalize v0.alloc (.cells #[.int .i64 50, .int .i64 (-50)] 3) = b1 at *
  refine (sameInts (cap := sc35) (cap' := 2) ((SR35.out.below D1.out (Nat.le_refl _)).below ha D1.out.size) hn (by have := D1.out.size; omega) (by omega)).mono ?_
  rw [show decide (([50, -50] : List Int) = [50, -50]) = true by decide]
  rintro e v1 ⟨rfl, hv⟩
  have hall := ha.trans (hv.mono ha.size)
  have HV1 := Lib.hid (HV0.out.trans (hall.mono HV0.out.size))
  replace D2 := Lib.hid (D2.out.trans (hall.mono D2.out.size))
  replace D3 := Lib.hid (D3.out.trans (hall.mono D3.out.size))
  clear hn ha hs hv hall
  go_wp2_with fail
  have hn := newRd (w := v1) (T := 3) (L := [-50, 50]) (by decide) (by decide)
  have ha : Below v1.heap.size v1 (v1.alloc (.cells ([-50, 50].map (Value.int .i64)).toArray 3)) := (Below.refl _ _).alloc (Nat.le_refl _) _
  have hs : (v1.alloc (.cells ([-50, 50].map (Value.int .i64)).toArray 3)).heap.size = v1.heap.size + 1 := by simp
  simp only [List.map_cons, List.map_nil] at hn ha hs
  generalize v1.alloc (.cells #[.int .i64 (-50), .int .i64 50] 3) = b2 at *
  refine (sameInts (cap := sc36) (cap' := 2) ((SR36.out.below D2.out (Nat.le_refl _)).below ha D2.out.size) hn (by have := D2.out.size; omega) (by omega)).mono ?_
  rw [show decide (([-50, 50] : List Int) = [-50, 50]) = true by decide]
  rintro e v2 ⟨rfl, hv⟩
  have hall := ha.trans (hv.mono ha.size)
  have HV2 := Lib.hid (HV1.out.trans (hall.mono HV1.out.size))
  replace D3 := Lib.hid (D3.out.trans (hall.mono D3.out.size))
  clear hn ha hs hv hall
  go_wp2_with fail
  have hn := newRd (w := v2) (T := 3) (L := [-67, 67]) (by decide) (by decide)
  have ha : Below v2.heap.size v2 (v2.alloc (.cells ([-67, 67].map (Value.int .i64)).toArray 3)) := (Below.refl _ _).alloc (Nat.le_refl _) _
  have hs : (v2.alloc (.cells ([-67, 67].map (Value.int .i64)).toArray 3)).heap.size = v2.heap.size + 1 := by simp
  simp only [List.map_cons, List.map_nil] at hn ha hs
  generalize v2.alloc (.cells #[.int .i64 (-67), .int .i64 67] 3) = b3 at *
  refine (sameInts (cap := sc38) (cap' := 2) ((SR38.out.below D3.out (Nat.le_refl _)).below ha D3.out.size) hn (by have := D3.out.size; omega) (by omega)).mono ?_
  rw [show decide (([-67, 67] : List Int) = [-67, 67]) = true by decide]
  rintro e v3 ⟨rfl, hv⟩
  have hall := ha.trans (hv.mono ha.size)
  have HV3 := Lib.hid (HV2.out.trans (hall.mono HV2.out.size))
  clear hn ha hs hv hall
  go_wp2
  go_ret
  exact ⟨rfl, HV3.out⟩
end Go.Proofs.Ytjaobcmladkjcaa
