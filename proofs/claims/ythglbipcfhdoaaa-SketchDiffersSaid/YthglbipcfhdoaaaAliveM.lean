/- The chapter's example, worked out: the sketch of 1 and 2. -/
import Derived.Test.YthglbipcfhdoaaaSkDef
import Derived.Test.YthglbipcfhdoaaaField
namespace Goss
def divT1 (a b : List F) : List F × List F :=
  let r := trim a
  let n := r.length + 1 - b.length
  let x := divLoop b 1#32 n r (List.replicate n 0#32)
  (trim x.1, trim x.2)
theorem divT_one (a b : List F) (h : (b[b.length - 1]?).getD 0#32 = 1#32) : divT a b = divT1 a b := by
  simp only [divT, divT1, h, inv_one]
abbrev P0 : List F := [2#32, 3#32, 1#32]
def tracesLoop1 : Nat → List F → List F → List F
  | 0, out, _ => out
  | n + 1, out, a => tracesLoop1 n (addP out a) (divT1 (spread a) P0).2
theorem trimP0 : trim P0 = P0 := by decide +kernel
theorem squared0 (a : List F) : squaredP a P0 = (divT1 (spread a) P0).2 := by
  rw [squaredP, trimP0, divT_one _ _ rfl]
theorem traces0 (n : Nat) : ∀ out a, tracesLoop P0 n out a = tracesLoop1 n out a := by
  induction n with
  | zero => intro _ _; rfl
  | succ n ih => intro out a; rw [tracesLoop, tracesLoop1, ih, squared0]
theorem tracesP0 (k : F) : tracesP P0 k = tracesLoop1 32 [] (divT1 [0#32, k] P0).2 := by
  rw [tracesP, traces0, restP, trimP0, divT_one _ _ rfl]
set_option maxRecDepth 1000000 in
theorem none24 : ∀ b : Fin 24, tracesLoop1 32 [] (divT1 [0#32, 1#32 <<< b.val] P0).2 = [] := by decide +kernel
set_option maxRecDepth 1000000 in
theorem common0 : commonP P0 [] = P0 := by decide +kernel
set_option maxRecDepth 1000000 in
theorem two0 : monicP (divT P0 (trim P0)).1 = [1#32] := by decide +kernel
set_option maxRecDepth 1000000 in
theorem at24 : tracesLoop1 32 [] (divT1 [0#32, 1#32 <<< 24] P0).2 = [0xffffff84#32, 0xffffff84#32] := by decide +kernel
set_option maxRecDepth 1000000 in
theorem one24' : commonP P0 [0xffffff84#32, 0xffffff84#32] = [1#32, 1#32] := by decide +kernel
theorem one24 : partOne P0 24 = [1#32, 1#32] := by rw [partOne, tracesP0, at24, one24']
set_option maxRecDepth 1000000 in
theorem two24' : monicP (divT P0 (trim [1#32, 1#32])).1 = [2#32, 1#32] := by decide +kernel
theorem two24 : partTwo P0 24 = [2#32, 1#32] := by rw [partTwo, one24, two24']
theorem one_lt (b : Nat) (h : b < 24) : partOne P0 b = P0 := by
  rw [partOne, tracesP0, none24 ⟨b, h⟩, common0]
theorem two_lt (b : Nat) (h : b < 24) : partTwo P0 b = [1#32] := by
  rw [partTwo, one_lt b h, two0]
theorem step0 (k b : Nat) (h : b < 24) : foundLoop (k + 2) [(P0, b)] [] = foundLoop k [(P0, b + 1)] [] := by
  rw [foundLoop, if_neg (by decide), if_pos ⟨by decide, by omega⟩, one_lt b h, two_lt b h, foundLoop, if_neg (by decide), if_neg (by rintro ⟨h1, _⟩; exact absurd h1 (by decide))]
theorem steps0 (k : Nat) : ∀ n, n ≤ 24 → foundLoop (k + 2 * n) [(P0, 24 - n)] [] = foundLoop k [(P0, 24)] [] := by
  intro n
  induction n with
  | zero => intro _; rfl
  | succ n ih =>
    intro h
    rw [show k + 2 * (n + 1) = k + 2 * n + 2 from by omega, step0 _ _ (by omega), show 24 - (n + 1) + 1 = 24 - n from by omega]
    exact ih (by omega)
theorem last0 (k : Nat) : foundLoop (k + 4) [(P0, 24)] [] = [2#32, 1#32] := by
  rw [foundLoop, if_neg (by decide), if_pos ⟨by decide, by omega⟩, one24, two24, foundLoop, if_pos (by decide), foundLoop, if_pos (by decide), foundLoop]
  rfl
theorem found0 : foundP P0 = [1#32, 2#32] := by
  have h1 := steps0 (8589934540 + 4) 24 (Nat.le_refl _)
  have h2 := last0 8589934540
  unfold foundP
  rw [show (8589934592 : Nat) = 8589934540 + 4 + 2 * 24 from rfl]
  rw [show (0 : Nat) = 24 - 24 from rfl, h1, h2]
  decide
set_option maxRecDepth 1000000 in
theorem linear0 : linearP P0 = P0 := by decide +kernel
set_option maxRecDepth 1000000 in
theorem short0 : shortestP (powersP [3#32, 9#32]) = [1#32, 3#32, 2#32] := by decide +kernel
set_option maxRecDepth 1000000 in
theorem new0 : newS 2 [1#32, 2#32] = [3#32, 9#32] := by decide +kernel
theorem found0' : foundP (linearP (shortestP (powersP [3#32, 9#32])).reverse) = [1#32, 2#32] := by
  rw [short0]
  show foundP (linearP P0) = _
  rw [linear0, found0]
theorem decode0 : decodeP [3#32, 9#32] = some [1#32, 2#32] := by
  have h := found0'
  unfold decodeP
  rw [h, short0]
  show (if 2 < 2 then _ else if (1 ≤ dlen P0 ∧ dlen P0 ≤ 61) ∧ 3 = dlen P0 then if 0#32 ∈ [1#32, 2#32] then none else if newS 2 [1#32, 2#32] = [3#32, 9#32] then some [1#32, 2#32] else none else none) = _
  rw [new0, if_neg (by decide), if_pos (by decide), if_neg (by decide), if_pos rfl]
end Goss
