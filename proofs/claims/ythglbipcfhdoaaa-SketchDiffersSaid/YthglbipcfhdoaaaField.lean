/- The plain maths of GF(2^32): shift is linear, mul is a commutative ring's product, each element but 0 has an inverse. No program. -/
import Derived.Test.YthglbipcfhdoaaaDef
namespace Goss

theorem xor_self (a : F) : a ^^^ a = 0#32 := BitVec.xor_self
theorem xor_zero (a : F) : a ^^^ 0#32 = a := BitVec.xor_zero
theorem zero_xor (a : F) : 0#32 ^^^ a = a := BitVec.zero_xor
theorem xor_comm (a b : F) : a ^^^ b = b ^^^ a := BitVec.xor_comm a b
theorem xor_assoc (a b c : F) : a ^^^ b ^^^ c = a ^^^ (b ^^^ c) := BitVec.xor_assoc a b c
theorem xor_left_comm (a b c : F) : a ^^^ (b ^^^ c) = b ^^^ (a ^^^ c) := by rw [← xor_assoc, xor_comm a b, xor_assoc]
theorem xor_xor_self (a b : F) : a ^^^ (a ^^^ b) = b := by rw [← xor_assoc, xor_self, zero_xor]
theorem xor_eq_zero {a b : F} : a ^^^ b = 0#32 ↔ a = b := by
  constructor
  · intro h
    have : a ^^^ (a ^^^ b) = a ^^^ 0#32 := by rw [h]
    rw [xor_xor_self, xor_zero] at this
    exact this.symm
  · rintro rfl; exact xor_self a

theorem shift_xor (a b : F) : shift (a ^^^ b) = shift a ^^^ shift b := by
  unfold shift
  rw [BitVec.getLsbD_xor, BitVec.shiftLeft_xor_distrib]
  cases a.getLsbD 31 <;> cases b.getLsbD 31 <;> simp only [Bool.xor_false, Bool.xor_true, Bool.not_true, Bool.not_false, if_true, if_false, Bool.false_eq_true]
  · ac_rfl
  · ac_rfl
  · have : (a <<< 1 ^^^ 141#32) ^^^ (b <<< 1 ^^^ 141#32) = (a <<< 1 ^^^ b <<< 1) ^^^ (141#32 ^^^ 141#32) := by ac_rfl
    rw [this, xor_self, xor_zero]
theorem shift_zero : shift 0#32 = 0#32 := by decide

/-- shift, n times. -/
def sh : Nat → F → F
  | 0, a => a
  | n + 1, a => shift (sh n a)
theorem sh_xor (n : Nat) (a b : F) : sh n (a ^^^ b) = sh n a ^^^ sh n b := by
  induction n with
  | zero => rfl
  | succ n ih => rw [sh, sh, sh, ih, shift_xor]
theorem sh_zero (n : Nat) : sh n 0#32 = 0#32 := by
  induction n with
  | zero => rfl
  | succ n ih => rw [sh, ih, shift_zero]
theorem sh_add (m n : Nat) (a : F) : sh m (sh n a) = sh (m + n) a := by
  induction m with
  | zero => rw [Nat.zero_add]; rfl
  | succ m ih => rw [Nat.succ_add]; simp only [sh]; rw [ih]

/-- 'a, if t'. -/
def bit (t : Bool) (a : F) : F := if t then a else 0#32
theorem bit_xor (t : Bool) (a b : F) : bit t (a ^^^ b) = bit t a ^^^ bit t b := by
  cases t
  · exact (xor_zero _).symm
  · rfl
theorem bit_xor' (s t : Bool) (a : F) : bit (s ^^ t) a = bit s a ^^^ bit t a := by
  cases s <;> cases t
  · exact (xor_zero _).symm
  · exact (zero_xor _).symm
  · exact (xor_zero _).symm
  · exact (xor_self _).symm
theorem bit_zero (t : Bool) : bit t 0#32 = 0#32 := by cases t <;> rfl
theorem sh_bit (n : Nat) (t : Bool) (a : F) : sh n (bit t a) = bit t (sh n a) := by
  cases t
  · exact sh_zero n
  · rfl

/-- The sum of the first n bits of b, each times so many shifts of a. -/
def lin (a b : F) : Nat → F
  | 0 => 0#32
  | n + 1 => lin a b n ^^^ bit (b.getLsbD n) (sh n a)
theorem lin_xor_left (a a' b : F) (n : Nat) : lin (a ^^^ a') b n = lin a b n ^^^ lin a' b n := by
  induction n with
  | zero => exact (xor_self _).symm
  | succ n ih => rw [lin, lin, lin, ih, sh_xor, bit_xor]; ac_rfl
theorem lin_xor_right (a b b' : F) (n : Nat) : lin a (b ^^^ b') n = lin a b n ^^^ lin a b' n := by
  induction n with
  | zero => exact (xor_self _).symm
  | succ n ih => rw [lin, lin, lin, ih, BitVec.getLsbD_xor, bit_xor']; ac_rfl
theorem lin_zero_left (b : F) (n : Nat) : lin 0#32 b n = 0#32 := by
  induction n with
  | zero => rfl
  | succ n ih => rw [lin, ih, sh_zero, bit_zero, xor_self]
theorem lin_shift (a b : F) (n : Nat) : lin (shift a) b n = shift (lin a b n) := by
  induction n with
  | zero => exact shift_zero.symm
  | succ n ih =>
    have h1 : sh n (shift a) = shift (sh n a) := sh_add n 1 a
    have h2 : bit (b.getLsbD n) (shift (sh n a)) = shift (bit (b.getLsbD n) (sh n a)) := by cases b.getLsbD n <;> first | exact shift_zero.symm | rfl
    rw [lin, lin, ih, shift_xor, h1, h2]
/-- The product by the bits from the highest down is the sum over the bits. -/
theorem mulLoop_eq (a b : F) : ∀ (k : Nat) (x : F), mulLoop a b k x = sh k x ^^^ lin a b k := by
  intro k
  induction k with
  | zero => intro x; exact (xor_zero _).symm
  | succ k ih =>
    intro x
    have h : sh k (shift x) = sh (k + 1) x := by
      have := sh_add k 1 x
      exact this
    rw [mulLoop, ih, lin]
    cases b.getLsbD k
    · rw [if_neg Bool.false_ne_true, h]
      show _ = _ ^^^ (_ ^^^ 0#32)
      rw [xor_zero]
    · rw [if_pos rfl, sh_xor, h]
      show _ = _ ^^^ (_ ^^^ sh k a)
      ac_rfl
theorem mul_eq (a b : F) : mul a b = lin a b 32 := by
  unfold mul
  rw [mulLoop_eq, sh_zero, zero_xor]

theorem mul_xor (a b b' : F) : mul a (b ^^^ b') = mul a b ^^^ mul a b' := by simp only [mul_eq, lin_xor_right]
theorem xor_mul (a a' b : F) : mul (a ^^^ a') b = mul a b ^^^ mul a' b := by simp only [mul_eq, lin_xor_left]
theorem zero_mul (b : F) : mul 0#32 b = 0#32 := by rw [mul_eq, lin_zero_left]
theorem mul_zero (a : F) : mul a 0#32 = 0#32 := by
  have h : mul a 0#32 = mul a 0#32 ^^^ mul a 0#32 := by rw [← mul_xor, xor_self]
  rw [h, xor_self]
theorem shift_mul (a b : F) : mul (shift a) b = shift (mul a b) := by rw [mul_eq, mul_eq, lin_shift]
theorem sh_mul (n : Nat) (a b : F) : mul (sh n a) b = sh n (mul a b) := by
  induction n with
  | zero => rfl
  | succ n ih => rw [sh, shift_mul, ih, sh]
theorem bit_mul (t : Bool) (a b : F) : mul (bit t a) b = bit t (mul a b) := by
  cases t
  · exact zero_mul b
  · rfl

/-- The n-th power of x is the n-th bit, below 32. -/
theorem sh_one (n : Nat) (h : n < 32) : sh n 1#32 = 1#32 <<< n := by
  have : ∀ m : Fin 32, sh m.val 1#32 = 1#32 <<< m.val := by decide +kernel
  exact this ⟨n, h⟩
/-- The bits of what the first n bits of b give. -/
theorem lin_one_bits (b : F) (n : Nat) (hn : n ≤ 32) (i : Nat) : (lin 1#32 b n).getLsbD i = (decide (i < n) && b.getLsbD i) := by
  induction n with
  | zero => simp [lin]
  | succ n ih =>
    rw [lin, BitVec.getLsbD_xor, ih (by omega), sh_one n (by omega)]
    by_cases h1 : i = n
    · subst h1
      cases hb : b.getLsbD i
      · simp [bit]
      · have h32 : i < 32 := by omega
        simp [bit, h32]
    · have h2 : (bit (b.getLsbD n) (1#32 <<< n)).getLsbD i = false := by
        cases b.getLsbD n
        · simp [bit]
        · show ((1#32) <<< n).getLsbD i = false
          rw [BitVec.getLsbD_shiftLeft, BitVec.getLsbD_one]
          by_cases h : i < n
          · simp [h]
          · have h3 : i - n ≠ 0 := by omega
            simp [h3]
      rw [h2, Bool.xor_false]
      by_cases h : i < n
      · simp [h, Nat.lt_succ_of_lt h]
      · have h3 : ¬ i < n + 1 := by omega
        simp [h, h3]
theorem one_mul (b : F) : mul 1#32 b = b := by
  rw [mul_eq]
  apply BitVec.eq_of_getLsbD_eq
  intro i hi
  rw [lin_one_bits b 32 (Nat.le_refl _)]
  simp [hi]
/-- The sum over the bits of a, of so many shifts of a product by 1. -/
theorem lin_mul (a b : F) (n : Nat) : mul (lin 1#32 a n) b = lin b a n := by
  induction n with
  | zero => exact zero_mul b
  | succ n ih => rw [lin, xor_mul, ih, bit_mul, sh_mul, one_mul, lin]
theorem mul_comm (a b : F) : mul a b = mul b a := by
  have h := lin_mul a b 32
  rw [← mul_eq, one_mul, ← mul_eq] at h
  exact h
theorem mul_one (a : F) : mul a 1#32 = a := by rw [mul_comm, one_mul]
theorem mul_shift (a b : F) : mul a (shift b) = shift (mul a b) := by rw [mul_comm, shift_mul, mul_comm]
theorem mul_sh (n : Nat) (a b : F) : mul a (sh n b) = sh n (mul a b) := by rw [mul_comm, sh_mul, mul_comm]
theorem mul_bit (t : Bool) (a b : F) : mul a (bit t b) = bit t (mul a b) := by rw [mul_comm, bit_mul, mul_comm]
theorem mul_lin (a b c : F) (n : Nat) : mul a (lin b c n) = lin (mul a b) c n := by
  induction n with
  | zero => exact mul_zero a
  | succ n ih => rw [lin, mul_xor, ih, mul_bit, mul_sh, lin]
theorem mul_assoc (a b c : F) : mul (mul a b) c = mul a (mul b c) := by
  rw [mul_eq (mul a b) c, mul_eq b c, mul_lin]
theorem mul_left_comm (a b c : F) : mul a (mul b c) = mul b (mul a c) := by rw [← mul_assoc, mul_comm a b, mul_assoc]

instance : Std.Commutative (α := F) mul := ⟨mul_comm⟩
instance : Std.Associative (α := F) mul := ⟨mul_assoc⟩

/-- A map that keeps sums is known by its values at the bits. -/
theorem lin_ext (f g : F → F) (hf : ∀ a b, f (a ^^^ b) = f a ^^^ f b) (hg : ∀ a b, g (a ^^^ b) = g a ^^^ g b) (h : ∀ i : Fin 32, f (1#32 <<< i.val) = g (1#32 <<< i.val)) (a : F) : f a = g a := by
  have f0 : f 0#32 = 0#32 := by have := hf 0#32 0#32; rw [xor_self] at this; rw [this, xor_self]
  have g0 : g 0#32 = 0#32 := by have := hg 0#32 0#32; rw [xor_self] at this; rw [this, xor_self]
  have key : ∀ n, n ≤ 32 → f (lin 1#32 a n) = g (lin 1#32 a n) := by
    intro n
    induction n with
    | zero => intro _; show f 0#32 = g 0#32; rw [f0, g0]
    | succ n ih =>
      intro hn
      rw [lin, hf, hg, ih (by omega), sh_one n (by omega)]
      cases a.getLsbD n
      · show _ ^^^ f 0#32 = _ ^^^ g 0#32
        rw [f0, g0]
      · show _ ^^^ f (1#32 <<< n) = _ ^^^ g (1#32 <<< n)
        rw [h ⟨n, by omega⟩]
  have := key 32 (Nat.le_refl _)
  rw [← mul_eq, one_mul] at this
  exact this

theorem sq_xor (a b : F) : sq (a ^^^ b) = sq a ^^^ sq b := by
  unfold sq
  rw [mul_xor, xor_mul, xor_mul, mul_comm b a]
  have : mul a a ^^^ mul a b ^^^ (mul a b ^^^ mul b b) = mul a a ^^^ mul b b ^^^ (mul a b ^^^ mul a b) := by ac_rfl
  rw [this, xor_self, xor_zero]
theorem sq_mul (a b : F) : sq (mul a b) = mul (sq a) (sq b) := by unfold sq; ac_rfl
/-- n squarings. -/
def fr : Nat → F → F
  | 0, a => a
  | n + 1, a => sq (fr n a)
theorem fr_xor (n : Nat) (a b : F) : fr n (a ^^^ b) = fr n a ^^^ fr n b := by
  induction n with
  | zero => rfl
  | succ n ih => rw [fr, fr, fr, ih, sq_xor]
theorem fr_mul (n : Nat) (a b : F) : fr n (mul a b) = mul (fr n a) (fr n b) := by
  induction n with
  | zero => rfl
  | succ n ih => rw [fr, fr, fr, ih, sq_mul]
theorem fr_add (m n : Nat) (a : F) : fr m (fr n a) = fr (m + n) a := by
  induction m with
  | zero => rw [Nat.zero_add]; rfl
  | succ m ih => rw [Nat.succ_add]; simp only [fr]; rw [ih]

theorem fr32_two : fr 32 2#32 = 2#32 := by decide +kernel
theorem sq_one : sq 1#32 = 1#32 := by decide +kernel
theorem fr_one (n : Nat) : fr n 1#32 = 1#32 := by
  induction n with
  | zero => rfl
  | succ n ih => rw [fr, ih, sq_one]
theorem shift_eq (a : F) : shift a = mul 2#32 a := by
  have h : shift (mul 1#32 a) = mul (shift 1#32) a := (shift_mul 1#32 a).symm
  rw [one_mul] at h
  rw [h]
  have : shift 1#32 = 2#32 := by decide
  rw [this]
/-- Each element is its own 2^32-th power. -/
theorem fr32 (a : F) : fr 32 a = a := by
  refine lin_ext (fr 32) id (fr_xor 32) (fun _ _ => rfl) ?_ a
  have key : ∀ n, fr 32 (sh n 1#32) = sh n 1#32 := by
    intro n
    induction n with
    | zero => exact fr_one 32
    | succ n ih => rw [sh, shift_eq, fr_mul, ih, fr32_two]
  intro i
  rw [← sh_one i.val i.isLt]
  exact key i.val

/-- A map by its values at the bits. -/
def app : List F → F → Nat → F
  | [], _, _ => 0#32
  | t :: r, y, k => bit (y.getLsbD k) t ^^^ app r y (k + 1)
theorem app_xor (l : List F) (a b : F) : ∀ k, app l (a ^^^ b) k = app l a k ^^^ app l b k := by
  induction l with
  | nil => intro k; exact (xor_self _).symm
  | cons t r ih => intro k; rw [app, app, app, ih, BitVec.getLsbD_xor, bit_xor']; ac_rfl

def tabIdem : List F := [0x54fd1264#32, 0xc26fcd64#32, 0xc26fcd66#32, 0x238a7462#32, 0xc26fcd62#32, 0x973bccaa#32, 0x238a746a#32, 0x77766712#32, 0xc26fcd72#32, 0xc1bdd556#32, 0x973bcc8a#32, 0x572a094c#32, 0x238a742a#32, 0xb693be84#32, 0x77766792#32, 0x9555c03e#32, 0xc26fcc72#32, 0x568419f8#32, 0xc1bdd756#32, 0x96c3d2ca#32, 0x973bc88a#32, 0x54861fdc#32, 0x572a014c#32, 0xb79badc4#32, 0x238a642a#32, 0x00000000#32, 0xb6939e84#32, 0xc519fa86#32, 0x77762792#32, 0xb9b99fe0#32, 0x9555403e#32, 0x377627ba#32]
def tabTrace : List F := [0x2888889d#32, 0x94444408#32, 0x62aaaa99#32, 0x99dddd97#32, 0xcceeee8d#32, 0xe6777700#32, 0x733bbb80#32, 0x1115555d#32, 0x888aaae8#32, 0x44455574#32, 0x2222aaba#32, 0x1111555d#32, 0x8888aae8#32, 0x44445574#32, 0x22222aba#32, 0x1111155d#32, 0x88888ae8#32, 0x44444574#32, 0x222222ba#32, 0x1111115d#32, 0x888888e8#32, 0x44444474#32, 0x2222223a#32, 0x1111111d#32, 0x888888c8#32, 0x44444464#32, 0x22222232#32, 0x11111119#32, 0x888888ca#32, 0x44444465#32, 0xa2222274#32, 0x5111113a#32]

theorem and_xor (c a b : F) : c &&& (a ^^^ b) = (c &&& a) ^^^ (c &&& b) := by
  apply BitVec.eq_of_getLsbD_eq
  intro i _
  simp only [BitVec.getLsbD_and, BitVec.getLsbD_xor]
  cases c.getLsbD i <;> simp
/-- What is its own square is 0 or 1. -/
theorem idem (a : F) (h : sq a = a) : a = 0#32 ∨ a = 1#32 := by
  have key := lin_ext (fun a => app tabIdem (sq a ^^^ a) 0) (fun a => a &&& 0xfffffffe#32) ?_ ?_ (by decide +kernel) a
  · simp only [h, xor_self] at key
    have h0 : app tabIdem 0#32 0 = 0#32 := by decide +kernel
    rw [h0] at key
    have h1 : a.toNat &&& 4294967294 = 0 := by
      have := congrArg BitVec.toNat key
      rw [BitVec.toNat_and] at this
      simpa using this.symm
    have h2 : a.toNat % 4294967296 = a.toNat := Nat.mod_eq_of_lt a.isLt
    have h3 : a.toNat < 2 := by
      rcases Nat.lt_or_ge a.toNat 2 with h | h
      · exact h
      · exfalso
        have e : a = (a &&& 0xfffffffe#32) ^^^ (a &&& 1#32) := by
          rw [← and_xor]
          have : 0xfffffffe#32 ^^^ 1#32 = BitVec.allOnes 32 := by decide
          rw [this, BitVec.and_allOnes]
        rw [← key, zero_xor] at e
        have := congrArg BitVec.toNat e
        rw [BitVec.toNat_and] at this
        have h4 : a.toNat &&& (1#32).toNat ≤ 1 := Nat.and_le_right
        omega
    rcases Nat.eq_zero_or_pos a.toNat with h | h
    · exact .inl (BitVec.eq_of_toNat_eq (by simpa using h))
    · exact .inr (BitVec.eq_of_toNat_eq (by simp; omega))
  · intro a b
    show app tabIdem _ 0 = _
    rw [sq_xor, ← app_xor]
    congr 1
    ac_rfl
  · intro a b
    show (a ^^^ b) &&& _ = _
    rw [BitVec.and_comm, and_xor, BitVec.and_comm _ a, BitVec.and_comm _ b]

/-- The product of m further squares, from the i-th on, times out. -/
def pf (x : F) : Nat → F → F
  | 0, out => out
  | m + 1, out => pf (sq x) m (mul out x)
theorem powLoop_ones (m : Nat) : ∀ (k : Nat) (x out : F), m + 1 ≤ k → powLoop k x (2 ^ m - 1) out = pf x m out := by
  induction m with
  | zero =>
    intro k x out hk
    obtain ⟨k, rfl⟩ : ∃ j, k = j + 1 := ⟨k - 1, by omega⟩
    rfl
  | succ m ih =>
    intro k x out hk
    obtain ⟨k, rfl⟩ : ∃ j, k = j + 1 := ⟨k - 1, by omega⟩
    have hp : 0 < 2 ^ m := Nat.pow_pos (by omega)
    rw [powLoop, if_neg (by rw [Nat.pow_succ]; omega), if_pos (by rw [Nat.pow_succ]; omega)]
    rw [show (2 ^ (m + 1) - 1) / 2 = 2 ^ m - 1 from by rw [Nat.pow_succ]; omega, ih k _ _ (by omega), pf]
theorem pf_out (m : Nat) : ∀ x out : F, pf x m out = mul out (pf x m 1#32) := by
  induction m with
  | zero => intro x out; exact (mul_one out).symm
  | succ m ih => intro x out; rw [pf, pf, ih, ih _ (mul 1#32 x), one_mul, mul_assoc]
theorem inv_eq (a : F) : inv a = pf (sq a) 31 1#32 := by
  unfold inv pow
  rw [powLoop, if_neg (by omega), if_neg (by omega)]
  have : 4294967294 / 2 = 2 ^ 31 - 1 := by decide
  rw [this]
  exact powLoop_ones 31 63 _ _ (by omega)
/-- The last factor apart. -/
theorem pf_last (m : Nat) : ∀ x : F, pf x (m + 1) 1#32 = mul (pf x m 1#32) (fr m x) := by
  induction m with
  | zero => intro x; rw [pf, pf, pf, fr, one_mul]
  | succ m ih =>
    intro x
    have h := ih (sq x)
    rw [pf, one_mul, pf_out, h, pf, one_mul, pf_out m (sq x) x]
    have : fr m (sq x) = fr (m + 1) x := fr_add m 1 x
    rw [this, mul_assoc]
theorem fr_comm (m : Nat) (x : F) : sq (fr m x) = fr m (sq x) := by
  have h1 : fr m (sq x) = fr (m + 1) x := fr_add m 1 x
  rw [h1, fr]
theorem sq_pf (m : Nat) : ∀ x : F, sq (pf x m 1#32) = pf (sq x) m 1#32 := by
  induction m with
  | zero => intro x; exact sq_one
  | succ m ih => intro x; rw [pf_last, pf_last, sq_mul, ih, fr_comm]
theorem pf_mul (m : Nat) (x : F) : mul (pf x m 1#32) x = fr m x := by
  induction m with
  | zero => exact one_mul x
  | succ m ih =>
    rw [pf_last, mul_assoc, mul_comm (fr m x) x, ← mul_assoc, ih]
    rfl
/-- EACH ELEMENT BUT 0 HAS AN INVERSE. -/
theorem mul_inv (a : F) (h : a ≠ 0#32) : mul a (inv a) = 1#32 := by
  have e1 : mul a (inv a) = pf a 32 1#32 := by
    have h1 : pf a 32 1#32 = pf (sq a) 31 (mul 1#32 a) := rfl
    rw [inv_eq, h1, one_mul, pf_out 31 _ a]
  have e2 : pf (sq a) 32 1#32 = mul (inv a) a := by
    have h1 : pf (sq a) 32 1#32 = mul (pf (sq a) 31 1#32) (fr 31 (sq a)) := pf_last 31 (sq a)
    have h2 : fr 31 (sq a) = fr 32 a := fr_add 31 1 a
    rw [h1, ← inv_eq, h2, fr32]
  have e3 : sq (mul a (inv a)) = mul a (inv a) := by
    conv => lhs; rw [e1, sq_pf, e2]
    exact mul_comm _ _
  rcases idem _ e3 with h0 | h1
  · exfalso
    have := pf_mul 32 a
    rw [fr32, ← e1, h0, zero_mul] at this
    exact h this.symm
  · exact h1
theorem mul_eq_zero {a b : F} (h : mul a b = 0#32) : a = 0#32 ∨ b = 0#32 := by
  by_cases ha : a = 0#32
  · exact .inl ha
  · right
    have : mul (inv a) (mul a b) = b := by rw [← mul_assoc, mul_comm (inv a), mul_inv a ha, one_mul]
    rw [← this, h, mul_zero]
theorem inv_ne_zero (a : F) (h : a ≠ 0#32) : inv a ≠ 0#32 := by
  intro e
  have := mul_inv a h
  rw [e, mul_zero] at this
  revert this
  decide
theorem inv_one : inv 1#32 = 1#32 := by
  have := mul_inv 1#32 (by decide)
  rw [one_mul] at this
  exact this

/-- The trace. -/
def trUp : Nat → F → F
  | 0, _ => 0#32
  | n + 1, a => trUp n a ^^^ fr n a
def tr (a : F) : F := trUp 32 a
theorem trUp_xor (n : Nat) (a b : F) : trUp n (a ^^^ b) = trUp n a ^^^ trUp n b := by
  induction n with
  | zero => exact (xor_self _).symm
  | succ n ih => rw [trUp, trUp, trUp, ih, fr_xor]; ac_rfl
theorem tr_xor (a b : F) : tr (a ^^^ b) = tr a ^^^ tr b := trUp_xor 32 a b
theorem sq_trUp (n : Nat) (a : F) : sq (trUp n a) ^^^ trUp n a = fr n a ^^^ a := by
  induction n with
  | zero =>
    show sq 0#32 ^^^ 0#32 = a ^^^ a
    have : sq 0#32 = 0#32 := zero_mul _
    rw [this, xor_self, xor_self]
  | succ n ih =>
    rw [trUp, sq_xor]
    have h1 : sq (fr n a) = fr (n + 1) a := rfl
    rw [h1]
    have : sq (trUp n a) ^^^ fr (n + 1) a ^^^ (trUp n a ^^^ fr n a) = (sq (trUp n a) ^^^ trUp n a) ^^^ (fr (n + 1) a ^^^ fr n a) := by ac_rfl
    rw [this, ih]
    have : fr n a ^^^ a ^^^ (fr (n + 1) a ^^^ fr n a) = (fr n a ^^^ fr n a) ^^^ (fr (n + 1) a ^^^ a) := by ac_rfl
    rw [this, xor_self, zero_xor]
theorem tr_01 (a : F) : tr a = 0#32 ∨ tr a = 1#32 := by
  apply idem
  have := sq_trUp 32 a
  rw [fr32, xor_self] at this
  exact xor_eq_zero.1 this
def trTab : List F := [0#32, 0#32, 0#32, 0#32, 0#32, 0#32, 0#32, 0#32, 0#32, 0#32, 0#32, 0#32, 0#32, 0#32, 0#32, 0#32, 0#32, 0#32, 0#32, 0#32, 0#32, 0#32, 0#32, 0#32, 0#32, 1#32, 0#32, 0#32, 0#32, 1#32, 0#32, 0#32]
theorem tr_lin (a : F) : tr a = app trTab a 0 := lin_ext tr (fun a => app trTab a 0) tr_xor (fun a b => app_xor _ a b 0) (by decide +kernel) a
/-- Traces of the shifts, side by side. -/
def trAll (a : F) : Nat → F
  | 0 => 0#32
  | n + 1 => trAll a n ^^^ sh n (app trTab (sh n a) 0)
theorem trAll_xor (n : Nat) (a b : F) : trAll (a ^^^ b) n = trAll a n ^^^ trAll b n := by
  induction n with
  | zero => exact (xor_self _).symm
  | succ n ih => rw [trAll, trAll, trAll, ih, sh_xor, app_xor, sh_xor]; ac_rfl
theorem bit_mul_sh (n : Nat) (hn : n < 32) (a : F) : mul (1#32 <<< n) a = sh n a := by rw [← sh_one n hn, sh_mul, one_mul]
theorem trAll_basis : ∀ i : Fin 32, app tabTrace (trAll (1#32 <<< i.val) 32) 0 = 1#32 <<< i.val := by decide +kernel
/-- Traces tell elements apart. -/
theorem tr_apart (a : F) (h : ∀ n, n < 32 → tr (mul (1#32 <<< n) a) = 0#32) : a = 0#32 := by
  have key := lin_ext (fun a => app tabTrace (trAll a 32) 0) (fun a => a) (fun a b => by show app _ _ 0 = _; rw [trAll_xor, app_xor]) (fun _ _ => rfl) trAll_basis a
  have h0 : ∀ n, n ≤ 32 → trAll a n = 0#32 := by
    intro n
    induction n with
    | zero => intro _; rfl
    | succ n ih =>
      intro hn
      have := h n (by omega)
      rw [bit_mul_sh n (by omega), tr_lin] at this
      rw [trAll, ih (by omega), this, sh_zero, xor_self]
  simp only [h0 32 (Nat.le_refl _)] at key
  have e : app tabTrace 0#32 0 = 0#32 := by decide +kernel
  rw [e] at key
  exact key.symm
end Goss
