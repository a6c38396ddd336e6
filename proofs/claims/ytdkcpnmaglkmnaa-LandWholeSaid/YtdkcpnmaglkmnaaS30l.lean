import Derived.Test.YtdkcpnmaglkmnaaW30s
/-! Plain law: land with one parcel changed; joints. No statement about the program. -/
namespace Go.Proofs.Ytdkcpnmaglkmnaa
set_option linter.unusedVariables false

theorem VL.set {w h : Nat} {L : List Int} (v : VL w h L) (i : Nat) {x : Int} (hx : -1 ≤ x ∧ x ≤ 5) : VL w h (L.set i x) where
  w0 := v.w0
  w1 := v.w1
  h0 := v.h0
  h1 := v.h1
  len := by rw [List.length_set]; exact v.len
  bd := fun z hz => by
    rcases List.mem_or_eq_of_mem_set hz with hz | rfl
    · exact v.bd z hz
    · exact hx
theorem partsK_len {W : Nat} {L : List Int} {a : Int} : (partsK W L a).length ≤ L.length := partsU_len W L a L.length
/-- is this parcel a joint? -/
def isJnt (W : Nat) (L : List Int) (a : Int) (i : Nat) : Bool := mineB L a i && decide ((partsK W L a).length < (partsK W (L.set i (-1)) a).length)
def jntTo (W : Nat) (L : List Int) (a : Int) (k : Nat) : List Nat := (List.range k).filter (isJnt W L a)
theorem jntTo_yes {W : Nat} {L : List Int} {a : Int} {k : Nat} (h : isJnt W L a k = true) : jntTo W L a (k + 1) = jntTo W L a k ++ [k] := by
  simp [jntTo, List.range_succ, List.filter_append, h]
theorem jntTo_no {W : Nat} {L : List Int} {a : Int} {k : Nat} (h : isJnt W L a k = false) : jntTo W L a (k + 1) = jntTo W L a k := by
  simp [jntTo, List.range_succ, List.filter_append, h]
theorem jntTo_len (W : Nat) (L : List Int) (a : Int) (k : Nat) : (jntTo W L a k).length ≤ k := by
  have := List.length_filter_le (isJnt W L a) (List.range k)
  simp [jntTo] at this ⊢
  exact this
theorem jntTo_lt {W : Nat} {L : List Int} {a : Int} {k j : Nat} (h : j ∈ jntTo W L a k) : j < k := by
  simp [jntTo] at h; exact h.1
/-- the joints, or none if there is an error -/
def jntF (W H : Int) (L : List Int) (a : Int) : List Int := if lkd W H L a = 0 then ints (jntTo W.toNat L a L.length) else []
end Go.Proofs.Ytdkcpnmaglkmnaa
