/- Field elements of 32 bits: how the model's whole numbers are written. No program. -/
import Derived.WalkKit
import Derived.WalkSpells
import Derived.WalkLawsBesides
import Derived.Lib.Hide
import Derived.Test.YthglbipcfhdoaaaDef
namespace Go.Proofs.Ythglbipcfhdoaaa
open Go.RowKit

theorem u32_bits (a b : Goss.F) :
  (bits .xor .u32 (a.toNat : Int) (b.toNat : Int) = ((a ^^^ b).toNat : Int)) ∧
  (bits .and .u32 (a.toNat : Int) (b.toNat : Int) = ((a &&& b).toNat : Int)) ∧
  (bits .or .u32 (a.toNat : Int) (b.toNat : Int) = ((a ||| b).toNat : Int)) := by
  refine ⟨?_, ?_, ?_⟩
  · show IntKind.u32.wrap ((BitVec.ofInt 32 (a.toNat : Int) ^^^ BitVec.ofInt 32 (b.toNat : Int)).toNat : Int) = _
    rw [BitVec.ofInt_natCast, BitVec.ofInt_natCast, BitVec.ofNat_toNat, BitVec.ofNat_toNat]
    simp only [BitVec.setWidth_eq]
    rw [IntKind.wrap_u32]
    omega
  · show IntKind.u32.wrap ((BitVec.ofInt 32 (a.toNat : Int) &&& BitVec.ofInt 32 (b.toNat : Int)).toNat : Int) = _
    rw [BitVec.ofInt_natCast, BitVec.ofInt_natCast, BitVec.ofNat_toNat, BitVec.ofNat_toNat]
    simp only [BitVec.setWidth_eq]
    rw [IntKind.wrap_u32]
    omega
  · show IntKind.u32.wrap ((BitVec.ofInt 32 (a.toNat : Int) ||| BitVec.ofInt 32 (b.toNat : Int)).toNat : Int) = _
    rw [BitVec.ofInt_natCast, BitVec.ofInt_natCast, BitVec.ofNat_toNat, BitVec.ofNat_toNat]
    simp only [BitVec.setWidth_eq]
    rw [IntKind.wrap_u32]
    omega
theorem u32_xor (a b : Goss.F) : bits .xor .u32 (a.toNat : Int) (b.toNat : Int) = ((a ^^^ b).toNat : Int) := (u32_bits a b).1
theorem u32_and (a b : Goss.F) : bits .and .u32 (a.toNat : Int) (b.toNat : Int) = ((a &&& b).toNat : Int) := (u32_bits a b).2.1
theorem u32_or (a b : Goss.F) : bits .or .u32 (a.toNat : Int) (b.toNat : Int) = ((a ||| b).toNat : Int) := (u32_bits a b).2.2

theorem u32_shl (a : Goss.F) (n : Nat) : ((a.toNat : Int) * (2 : Int) ^ n) % (4294967296 : Int) = ((a <<< n).toNat : Int) := by
  rw [BitVec.toNat_shiftLeft, Nat.shiftLeft_eq, Int.natCast_emod, Int.natCast_mul, Int.natCast_pow]; rfl
theorem u32_shl1 (a : Goss.F) : ((a.toNat : Int) * (2 : Int)) % (4294967296 : Int) = ((a <<< 1).toNat : Int) := u32_shl a 1
theorem u32_shr (a : Goss.F) (n : Nat) : (a.toNat : Int) / (2 : Int) ^ n = ((a >>> n).toNat : Int) := by
  rw [BitVec.toNat_ushiftRight, Nat.shiftRight_eq_div_pow, Int.natCast_ediv, Int.natCast_pow]; rfl
theorem top_eq (a : Goss.F) : bits .and .u32 (a.toNat : Int) (2147483648 : Int) = ((a &&& 0x80000000#32).toNat : Int) := u32_and a 0x80000000#32
theorem low_eq (a : Goss.F) : bits .xor .u32 (a.toNat : Int) (141 : Int) = ((a ^^^ 0x8d#32).toNat : Int) := u32_xor a 0x8d#32

theorem and_top (a : Goss.F) : (((a &&& 0x80000000#32).toNat : Int) != 0) = a.getLsbD 31 := by
  have e : a &&& 0x80000000#32 = if a.getLsbD 31 then 0x80000000#32 else 0#32 := by
    apply BitVec.eq_of_getLsbD_eq
    intro i hi
    rw [BitVec.getLsbD_and]
    by_cases h31 : i = 31
    · subst h31
      cases h : a.getLsbD 31 <;> simp
    · have : ∀ j : Fin 32, j.val ≠ 31 → (0x80000000#32).getLsbD j.val = false := by decide
      rw [this ⟨i, hi⟩ h31, Bool.and_false]
      cases h : a.getLsbD 31
      · simp
      · simp only [if_true]; exact (this ⟨i, hi⟩ h31).symm
  rw [e]
  cases h : a.getLsbD 31 <;> rfl
theorem top_test (a : Goss.F) : (bits .and .u32 (a.toNat : Int) (2147483648 : Int) != 0) = a.getLsbD 31 := by rw [top_eq]; exact and_top a

theorem and_one (x : Goss.F) : x &&& 1#32 = if x.getLsbD 0 then 1#32 else 0#32 := by
  apply BitVec.eq_of_getLsbD_eq
  intro i hi
  rw [BitVec.getLsbD_and]
  by_cases h0 : i = 0
  · subst h0; cases h : x.getLsbD 0 <;> simp
  · have h1 : (1#32).getLsbD i = false := by simp [BitVec.getLsbD_one]; omega
    rw [h1, Bool.and_false]
    cases h : x.getLsbD 0
    · simp
    · simp only [if_true]; exact h1.symm
theorem bit_test (b : Goss.F) (k : Nat) : (bits .and .u32 ((b.toNat : Int) / (2 : Int) ^ k) (1 : Int) == 1) = b.getLsbD k := by
  rw [u32_shr]
  have : bits .and .u32 ((b >>> k).toNat : Int) 1 = (((b >>> k) &&& 1#32).toNat : Int) := u32_and _ 1#32
  rw [this, and_one]
  have : (b >>> k).getLsbD 0 = b.getLsbD k := by simp
  rw [this]
  cases h : b.getLsbD k <;> rfl

theorem byte_at (b : Goss.F) (n : Nat) : bits .and .u32 ((b.toNat : Int) / (2 : Int) ^ n) (255 : Int) = ((b.toNat / 2 ^ n % 256 : Nat) : Int) := by
  rw [u32_shr]
  have : bits .and .u32 ((b >>> n).toNat : Int) 255 = (((b >>> n) &&& 255#32).toNat : Int) := u32_and _ 255#32
  rw [this, BitVec.toNat_and, BitVec.toNat_ushiftRight, Nat.shiftRight_eq_div_pow]
  have : (255#32).toNat = 2 ^ 8 - 1 := by decide
  rw [this, Nat.and_two_pow_sub_one_eq_mod]
def Ret (v : Value) (w : World) (e : Ending) (w' : World) : Prop := e = .returned v ∧ w = w'
theorem ret_int {k : IntKind} {a b : Int} (h : a = b) : Ending.returned (.int k a) = .returned (.int k b) := by rw [h]
theorem ret_u {a b : Goss.F} (h : a = b) : Ending.returned (.int .u32 (a.toNat : Int)) = .returned (.int .u32 (b.toNat : Int)) := by rw [h]
end Go.Proofs.Ythglbipcfhdoaaa
