/- The plain functions that the packages gf, poly, massey, roots, sketch work out: numbers and lists alone, no program. -/
namespace Goss
abbrev F := BitVec 32
def shift (a : F) : F := if a.getLsbD 31 then (a <<< 1) ^^^ 0x8d#32 else a <<< 1
def mulLoop (a b : F) : Nat → F → F
  | 0, out => out
  | k + 1, out => mulLoop a b k (if b.getLsbD k then shift out ^^^ a else shift out)
def mul (a b : F) : F := mulLoop a b 32 0#32
def sq (a : F) : F := mul a a
/-- Power by the bits of n, the lowest first; k rounds at most. -/
def powLoop : Nat → F → Nat → F → F
  | 0, _, _, out => out
  | k + 1, a, n, out => if n = 0 then out else powLoop k (sq a) (n / 2) (if n % 2 = 1 then mul out a else out)
def pow (a : F) (n : Nat) : F := powLoop 64 a n 1#32
def inv (a : F) : F := pow a 4294967294
/-- The table of an element: of each byte of the other one, what it gives. -/
def byTab (a : F) (i b : Nat) : F := mul a (BitVec.ofNat 32 b <<< (8 * i))
def tabPart (a b : F) : Nat → F
  | 0 => 0#32
  | k + 1 => tabPart a b k ^^^ byTab a k (b.toNat / 2 ^ (8 * k) % 256)
def tabMul (a b : F) : F := tabPart a b 4

/-- How long a list is when the noughts at its end are cut off, of its first n. -/
def tlen (a : List F) : Nat → Nat
  | 0 => 0
  | n + 1 => if a[n]? = some 0#32 then tlen a n else n + 1
def trim (a : List F) : List F := a.take (tlen a a.length)
/-- An element put to place i of a list. -/
def addAt (a : List F) (i : Nat) (x : F) : List F := a.set i ((a[i]?).getD 0#32 ^^^ x)
/-- 'put': a times by, moved up by some places, put to another list. -/
def putP : List F → List F → F → Nat → List F
  | to, [], _, _ => to
  | to, c :: a, by', up => putP (addAt to up (mul c by')) a by' (up + 1)
def divLoop (b : List F) (iv : F) : Nat → List F → List F → List F × List F
  | 0, r, q => (q, r)
  | i + 1, r, q =>
    let c := mul ((r[i + b.length - 1]?).getD 0#32) iv
    divLoop b iv i (putP r b c i) (q.set i c)
/-- The quotient and the rest; b has a last element that isn't 0. -/
def divT (a b : List F) : List F × List F :=
  let r := trim a
  let n := r.length + 1 - b.length
  let x := divLoop b (inv ((b[b.length - 1]?).getD 0#32)) n r (List.replicate n 0#32)
  (trim x.1, trim x.2)
def xorL : List F → List F → List F
  | a, [] => a
  | [], b => b
  | x :: a, y :: b => (x ^^^ y) :: xorL a b
def addP (a b : List F) : List F := trim (xorL a b)
def scaleP (a : List F) (k : F) : List F := trim (a.map fun x => tabMul k x)
def monicP (a : List F) : List F := if trim a = [] then [] else scaleP (trim a) (inv (((trim a)[(trim a).length - 1]?).getD 0#32))
/-- Euclid's way; k rounds at most. -/
def euclid : Nat → List F → List F → List F
  | 0, a, _ => a
  | k + 1, a, b => if b = [] then a else euclid k b (divT a b).2
def commonP (a b : List F) : List F := monicP (euclid ((trim b).length + 1) (trim a) (trim b))
/-- A square: nought between the squares of the elements. -/
def spread : List F → List F
  | [] => []
  | [x] => [sq x]
  | x :: y :: r => sq x :: 0#32 :: spread (y :: r)
def squaredP (a by' : List F) : List F := (divT (spread a) (trim by')).2

def restP (a p : List F) : List F := (divT a (trim p)).2
def tracesLoop (p : List F) : Nat → List F → List F → List F
  | 0, out, _ => out
  | n + 1, out, a => tracesLoop p n (addP out a) (squaredP a p)
def tracesP (p : List F) (by' : F) : List F := tracesLoop p 32 [] (restP [0#32, by'] p)
def linLoop (p : List F) : Nat → List F → List F
  | 0, a => a
  | n + 1, a => linLoop p n (squaredP a p)
def linearP (p : List F) : List F := commonP p (addP (linLoop p 32 (restP [0#32, 1#32] p)) (restP [0#32, 1#32] p))
/-- The two parts of a polynomial, by a bit. -/
def partOne (p : List F) (bit : Nat) : List F := commonP p (tracesP p (1#32 <<< bit))
def partTwo (p : List F) (bit : Nat) : List F := monicP (divT p (trim (partOne p bit))).1
/-- How many noughts off is the degree: -1 is 0 here. -/
def dlen (p : List F) : Nat := tlen p p.length
/-- The roots, by a stack of parts, the top first; k rounds at most. -/
def foundLoop : Nat → List (List F × Nat) → List F → List F
  | 0, _, out => out
  | _ + 1, [], out => out
  | k + 1, (p, bit) :: st, out =>
    if dlen p = 2 then foundLoop k st (out ++ [(p[0]?).getD 0#32])
    else if 2 < dlen p ∧ bit < 32 then foundLoop k ((partTwo p bit, bit + 1) :: (partOne p bit, bit + 1) :: st) out
    else foundLoop k st out
def insertF (x : F) : List F → List F
  | [] => [x]
  | y :: r => if x.toNat ≤ y.toNat then x :: y :: r else y :: insertF x r
def sortF : List F → List F
  | [] => []
  | x :: r => insertF x (sortF r)
def foundP (p : List F) : List F := sortF (foundLoop 8589934592 [(p, 0)] [])

/-- By how much a sequence is off a recurrence at a place: the first n terms. -/
def offTo (c s : List F) (at' : Nat) : Nat → F
  | 0 => 0#32
  | n + 1 => offTo c s at' n ^^^ mul ((c[n]?).getD 0#32) ((s[at' - n]?).getD 0#32)
def offP (c s : List F) (at' : Nat) : F := offTo c s at' (min c.length (at' + 1))
structure MSt where
  now : List F
  old : List F
  len : Nat
  gap : Nat
  was : F
def mendedP (now old : List F) (gap : Nat) (was by' : F) : List F :=
  putP (now ++ List.replicate (gap + old.length - now.length) 0#32) old (mul by' (inv was)) gap
def takeP (x : MSt) (s : List F) (at' : Nat) : MSt :=
  if offP x.now s at' = 0#32 then { x with gap := x.gap + 1 }
  else if 2 * x.len ≤ at' then { now := mendedP x.now x.old (x.gap + 1) x.was (offP x.now s at'), old := x.now, len := at' + 1 - x.len, gap := 0, was := offP x.now s at' }
  else { x with now := mendedP x.now x.old (x.gap + 1) x.was (offP x.now s at'), gap := x.gap + 1 }
def runTo (s : List F) : Nat → MSt
  | 0 => { now := [1#32], old := [1#32], len := 0, gap := 0, was := 1#32 }
  | n + 1 => takeP (runTo s n) s n
def shortestP (s : List F) : List F :=
  ((runTo s s.length).now ++ List.replicate ((runTo s s.length).len + 1) 0#32).take ((runTo s s.length).len + 1)
end Goss
