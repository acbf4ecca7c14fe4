/- The plain functions of the package sketch. -/
import Derived.Test.YthglbipcfhdoaaaDef
namespace Goss
def powersTo (s : List F) : Nat → List F
  | 0 => []
  | n + 1 => powersTo s n ++ [if n % 2 = 0 then (s[n / 2]?).getD 0#32 else sq (((powersTo s n)[n / 2]?).getD 0#32)]
def powersP (s : List F) : List F := powersTo s (2 * s.length)
def addPow : List F → F → F → List F
  | [], _, _ => []
  | x :: r, id, t => (x ^^^ id) :: addPow r (tabMul t id) t
def putS (s : List F) (id : F) : List F := addPow s id (sq id)
def newS (c : Nat) (ids : List F) : List F := ids.foldl putS (List.replicate c 0#32)
/-- What a sketch says. -/
def decodeP (s : List F) : Option (List F) :=
  if s.length < (shortestP (powersP s)).length - 1 then none
  else if (1 ≤ dlen (shortestP (powersP s)).reverse ∧ dlen (shortestP (powersP s)).reverse ≤ 61) ∧ (foundP (linearP (shortestP (powersP s)).reverse)).length + 1 = dlen (shortestP (powersP s)).reverse then
    if 0#32 ∈ foundP (linearP (shortestP (powersP s)).reverse) then none
    else if newS s.length (foundP (linearP (shortestP (powersP s)).reverse)) = s then some (foundP (linearP (shortestP (powersP s)).reverse)) else none
  else none
def bytesF (x : F) : List (BitVec 8) := [x.setWidth 8, (x >>> 8).setWidth 8, (x >>> 16).setWidth 8, (x >>> 24).setWidth 8]
def bytesP (l : List F) : List (BitVec 8) := l.flatMap bytesF
theorem powersTo_length (s : List F) (n : Nat) : (powersTo s n).length = n := by
  induction n with
  | zero => rfl
  | succ n ih => simp [powersTo, ih]
theorem addPow_length (s : List F) : ∀ (id t : F), (addPow s id t).length = s.length := by
  induction s with
  | nil => intro _ _; rfl
  | cons x r ih => intro id t; simp [addPow, ih]
theorem putS_length (s : List F) (id : F) : (putS s id).length = s.length := addPow_length _ _ _
theorem foldl_putS_length (ids : List F) : ∀ s : List F, (ids.foldl putS s).length = s.length := by
  induction ids with
  | nil => intro s; rfl
  | cons x r ih => intro s; rw [List.foldl_cons, ih, putS_length]
theorem newS_length (c : Nat) (ids : List F) : (newS c ids).length = c := by rw [newS, foldl_putS_length, List.length_replicate]
end Goss
namespace Goss
/-- The word of bytes, the lowest first: the first i of them. -/
def wordTo (c : List (BitVec 8)) : Nat → F
  | 0 => 0#32
  | i + 1 => wordTo c i ||| ((((c[i]?).getD 0#8).setWidth 32) <<< (8 * i))
def wordAt (bs : List (BitVec 8)) (k : Nat) : F := wordTo (bs.drop (4 * k)) 4
def sumsP (bs : List (BitVec 8)) : List F := (List.range (bs.length / 4)).map (wordAt bs)
end Goss
