/- The reference's product and power; sums of odd powers. No program. -/
import Derived.Test.YthglbipcfhdoaaaField
import Derived.Test.YthglbipcfhdoaaaTab
import Derived.Test.YthglbipcfhdoaaaSkDef
namespace Goss
def restTo : Nat → BitVec 64 → BitVec 64
  | 0, a => a
  | k + 1, a => restTo k (if a.getLsbD (32 + k) then a ^^^ (4294967437#64 <<< k) else a)
def rest64 (a : BitVec 64) : F := (restTo 32 a).setWidth 32
def mul64To (a b : F) : Nat → BitVec 64
  | 0 => 0#64
  | k + 1 => if b.getLsbD k then mul64To a b k ^^^ ((a.setWidth 64) <<< k) else mul64To a b k
theorem restTo_xor (k : Nat) : ∀ a b : BitVec 64, restTo k (a ^^^ b) = restTo k a ^^^ restTo k b := by
  induction k with
  | zero => intro a b; rfl
  | succ k ih =>
    intro a b
    rw [restTo, restTo, restTo, ← ih, BitVec.getLsbD_xor]
    congr 1
    cases a.getLsbD (32 + k) <;> cases b.getLsbD (32 + k)
    · rfl
    · show a ^^^ b ^^^ _ = a ^^^ (b ^^^ _)
      rw [BitVec.xor_assoc]
    · show a ^^^ b ^^^ _ = a ^^^ _ ^^^ b
      rw [BitVec.xor_assoc, BitVec.xor_assoc, BitVec.xor_comm b]
    · show a ^^^ b = a ^^^ _ ^^^ (b ^^^ _)
      rw [BitVec.xor_assoc, BitVec.xor_comm _ (b ^^^ _), BitVec.xor_assoc b, BitVec.xor_self, BitVec.xor_zero]
theorem rest64_xor (a b : BitVec 64) : rest64 (a ^^^ b) = rest64 a ^^^ rest64 b := by
  unfold rest64
  rw [restTo_xor, BitVec.setWidth_xor]
theorem rest_sh_basis : ∀ k i : Fin 32, rest64 (((1#32 <<< i.val).setWidth 64) <<< k.val) = sh k.val (1#32 <<< i.val) := by decide +kernel
theorem rest_sh (k : Nat) (hk : k < 32) (a : F) : rest64 ((a.setWidth 64) <<< k) = sh k a := by
  refine lin_ext (fun a => rest64 ((a.setWidth 64) <<< k)) (sh k) ?_ (sh_xor k) (fun i => rest_sh_basis ⟨k, hk⟩ i) a
  intro a b
  show rest64 _ = _
  rw [BitVec.setWidth_xor, BitVec.shiftLeft_xor_distrib, rest64_xor]
theorem mul64_lin (a b : F) : ∀ n, n ≤ 32 → rest64 (mul64To a b n) = lin a b n := by
  intro n
  induction n with
  | zero => intro _; show rest64 0#64 = 0#32; decide +kernel
  | succ n ih =>
    intro h
    rw [mul64To, lin]
    by_cases hb : b.getLsbD n = true
    · rw [if_pos hb, rest64_xor, ih (by omega), rest_sh n (by omega), hb]
      rfl
    · rw [if_neg hb, ih (by omega)]
      have : b.getLsbD n = false := by simpa using hb
      rw [this]
      exact (xor_zero _).symm
theorem refMul_eq (a b : F) : rest64 (mul64To a b 32) = mul a b := by rw [mul64_lin a b 32 (Nat.le_refl _), mul_eq]

/-- A power: so many times. -/
def pw (a : F) : Nat → F
  | 0 => 1#32
  | n + 1 => mul (pw a n) a
theorem pw_add (a : F) (m n : Nat) : pw a (m + n) = mul (pw a m) (pw a n) := by
  induction n with
  | zero => rw [pw, mul_one]; rfl
  | succ n ih => rw [← Nat.add_assoc, pw, pw, ih, mul_assoc]
theorem pw_two (a : F) : pw a 2 = sq a := by rw [pw, pw, pw, one_mul]; rfl
theorem pw_one (a : F) : pw a 1 = a := by rw [pw, pw, one_mul]
theorem pw_half (a : F) (n : Nat) : pw a n = if n % 2 = 1 then mul (mul (pw a (n / 2)) (pw a (n / 2))) a else mul (pw a (n / 2)) (pw a (n / 2)) := by
  rw [← pw_add]
  split
  · have : pw a n = pw a (n / 2 + n / 2 + 1) := by congr 1; omega
    rw [this, pw]
  · congr 1; omega
theorem addPow_at (s : List F) : ∀ (id t : F) (k : Nat), (addPow s id t)[k]? = (s[k]?).map fun x => x ^^^ mul id (pw t k) := by
  induction s with
  | nil => intro id t k; simp [addPow]
  | cons x r ih =>
    intro id t k
    cases k with
    | zero => simp [addPow, pw, mul_one]
    | succ k =>
      rw [addPow, List.getElem?_cons_succ, List.getElem?_cons_succ, ih, tabMul_eq]
      congr 1
      funext y
      rw [pw]
      congr 1
      ac_rfl
theorem putS_at (s : List F) (id : F) (k : Nat) : (putS s id)[k]? = (s[k]?).map fun x => x ^^^ pw id (2 * k + 1) := by
  rw [putS, addPow_at]
  congr 1
  funext y
  congr 1
  have : ∀ k, pw (sq id) k = pw id (2 * k) := by
    intro k
    induction k with
    | zero => rfl
    | succ k ih => rw [pw, ih, show 2 * (k + 1) = 2 * k + 2 from by omega, pw_add, pw_two]
  rw [this, Nat.add_comm, pw_add, pw_one]
/-- The k-th sum of ids. -/
def sumAt (ids : List F) (k : Nat) : F := ids.foldl (fun x id => x ^^^ pw id (2 * k + 1)) 0#32
theorem foldl_putS_at (ids : List F) : ∀ (s : List F) (k : Nat), (ids.foldl putS s)[k]? = (s[k]?).map fun x => ids.foldl (fun x id => x ^^^ pw id (2 * k + 1)) x := by
  induction ids with
  | nil => intro s k; simp
  | cons i r ih => intro s k; rw [List.foldl_cons, ih, putS_at]; cases s[k]? <;> rfl
theorem newS_eq (c : Nat) (ids : List F) : newS c ids = (List.range c).map (sumAt ids) := by
  apply List.ext_getElem?
  intro k
  rw [newS, foldl_putS_at, List.getElem?_map]
  by_cases hk : k < c
  · rw [List.getElem?_replicate_of_lt hk, List.getElem?_range hk]; rfl
  · rw [List.getElem?_eq_none (by simp; omega), List.getElem?_eq_none (by simp; omega)]; rfl
end Goss
