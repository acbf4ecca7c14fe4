/- The plain maths: the product by an element's table is the product; what Common comes to isn't 0. No program. -/
import Derived.Test.YthglbipcfhdoaaaPolyM
namespace Goss

theorem low8 (j : Nat) : (255#32).getLsbD j = decide (j < 8) := by
  by_cases h : j < 32
  · have : ∀ i : Fin 32, (255#32).getLsbD i.val = decide (i.val < 8) := by decide
    exact this ⟨j, h⟩
  · have h2 : ¬ j < 8 := by omega
    rw [BitVec.getLsbD_of_ge _ _ (by omega)]
    simp [h2]
theorem byte_eq (b : F) (n : Nat) : BitVec.ofNat 32 (b.toNat / 2 ^ n % 256) = (b >>> n) &&& 255#32 := by
  apply BitVec.eq_of_toNat_eq
  rw [BitVec.toNat_and, BitVec.toNat_ushiftRight, Nat.shiftRight_eq_div_pow, BitVec.toNat_ofNat]
  have : (255#32).toNat = 2 ^ 8 - 1 := by decide
  rw [this, Nat.and_two_pow_sub_one_eq_mod]
  omega
theorem byte_bit (b : F) (n i : Nat) : (((b >>> n) &&& 255#32) <<< n).getLsbD i = (decide (i < 32) && (decide (n ≤ i) && (decide (i < n + 8) && b.getLsbD i))) := by
  rw [BitVec.getLsbD_shiftLeft, BitVec.getLsbD_and, BitVec.getLsbD_ushiftRight, low8]
  by_cases h1 : i < 32 <;> by_cases h2 : n ≤ i
  · have h3 : n + (i - n) = i := by omega
    rw [h3]
    by_cases h4 : i < n + 8
    · have h5 : i - n < 8 := by omega
      simp [h1, h2, h4, h5]
    · have h5 : ¬ i - n < 8 := by omega
      simp [h4, h5]
  · have h5 : i < n := by omega
    simp [h2, h5]
  · simp [h1]
  · simp [h1]
theorem bytes_eq (b : F) : ((b >>> 0) &&& 255#32) <<< 0 ^^^ ((b >>> 8) &&& 255#32) <<< 8 ^^^ ((b >>> 16) &&& 255#32) <<< 16 ^^^ ((b >>> 24) &&& 255#32) <<< 24 = b := by
  apply BitVec.eq_of_getLsbD_eq
  intro i hi
  simp only [BitVec.getLsbD_xor, byte_bit]
  rcases (show i < 8 ∨ (8 ≤ i ∧ i < 16) ∨ (16 ≤ i ∧ i < 24) ∨ 24 ≤ i from by omega) with h | h | h | h
  · have h1 : ¬ 8 ≤ i := by omega
    have h2 : ¬ 16 ≤ i := by omega
    have h3 : ¬ 24 ≤ i := by omega
    simp [hi, h, h1, h2, h3]
  · have h0 : ¬ i < 8 := by omega
    have h2 : ¬ 16 ≤ i := by omega
    have h3 : ¬ 24 ≤ i := by omega
    simp [hi, h, h0, h2, h3]
  · have h0 : ¬ i < 8 := by omega
    have h1 : ¬ i < 16 := by omega
    have h3 : ¬ 24 ≤ i := by omega
    simp [hi, h, h0, h1, h3]
  · have h0 : ¬ i < 8 := by omega
    have h1 : ¬ i < 16 := by omega
    have h2 : ¬ i < 24 := by omega
    simp [hi, h, h0, h1, h2]
theorem tabMul_eq (a b : F) : tabMul a b = mul a b := by
  unfold tabMul tabPart tabPart tabPart tabPart tabPart byTab
  simp only [byte_eq, Nat.mul_zero, Nat.mul_one, Nat.reduceMul]
  rw [zero_xor, ← mul_xor, ← mul_xor, ← mul_xor, bytes_eq]

theorem co_map_mul (a : List F) (k : F) (i : Nat) : co (a.map fun x => tabMul k x) i = mul k (co a i) := by
  unfold co
  rw [List.getElem?_map]
  cases a[i]? with
  | none => exact (mul_zero k).symm
  | some x => exact tabMul_eq k x
theorem co_scaleP (a : List F) (k : F) (i : Nat) : co (scaleP a k) i = mul k (co a i) := by unfold scaleP; rw [co_trim, co_map_mul]
theorem ev_scaleP (a : List F) (k x : F) : ev (scaleP a k) x = mul k (ev a x) := by
  unfold scaleP
  rw [ev_trim]
  induction a with
  | nil => exact (mul_zero k).symm
  | cons c r ih =>
    show tabMul k c ^^^ mul x (ev (r.map fun x => tabMul k x) x) = mul k (c ^^^ mul x (ev r x))
    rw [ih, mul_xor, tabMul_eq, mul_left_comm]
theorem trim_le' (a : List F) : (trim a).length ≤ a.length := by rw [trim_length']; exact tlen_le' _ _
theorem trim_trim' (a : List F) : trim (trim a) = trim a := by
  apply trim_of_last
  by_cases e : trim a = []
  · exact .inl e
  · exact .inr (trim_last _ e)
theorem scaleP_len (a : List F) (k : F) : (scaleP a k).length ≤ a.length := by
  have := trim_le' (a.map fun x => tabMul k x)
  rw [List.length_map] at this
  exact this
theorem scaleP_trim (a : List F) (k : F) : trim (scaleP a k) = scaleP a k := trim_trim' _
theorem trim_ne_nil (a : List F) (i : Nat) (h : co a i ≠ 0#32) : trim a ≠ [] := by
  intro e
  apply h
  rw [← co_trim, e]; rfl
theorem scaleP_nonzero (a : List F) (k : F) (hk : k ≠ 0#32) (ha : trim a ≠ []) : trim (scaleP (trim a) k) ≠ [] := by
  have hl := trim_last a ha
  apply trim_ne_nil _ ((trim a).length - 1)
  rw [co_scaleP]
  intro e
  rcases mul_eq_zero e with h | h
  · exact hk h
  · exact hl h
theorem monicP_nonzero (a : List F) (ha : trim a ≠ []) : trim (monicP a) ≠ [] := by
  unfold monicP
  rw [if_neg ha]
  exact scaleP_nonzero a _ (inv_ne_zero _ (trim_last a ha)) ha
theorem monicP_len (a : List F) : (monicP a).length ≤ a.length := by
  unfold monicP
  split
  · exact Nat.zero_le _
  · have h1 := scaleP_len (trim a) (inv (((trim a)[(trim a).length - 1]?).getD 0#32))
    have h2 := trim_le' a
    omega
theorem last_of_trim (b : List F) (hb : b ≠ []) (ht : trim b = b) : co b (b.length - 1) ≠ 0#32 := by
  have := trim_last b (by rw [ht]; exact hb)
  rw [ht] at this
  exact this
theorem euclid_len (k : Nat) : ∀ a b : List F, trim b = b → (euclid k a b).length ≤ max a.length b.length := by
  induction k with
  | zero => intro a b _; show a.length ≤ _; omega
  | succ k ih =>
    intro a b hb
    rw [euclid]
    split
    · omega
    · rename_i h
      have hs := divT_spec a b h (last_of_trim b h hb)
      have := ih b (divT a b).2 hs.2.2.2.2
      omega
theorem euclid_nonzero (k : Nat) : ∀ a b : List F, a ≠ [] → trim a = a → trim b = b → euclid k a b ≠ [] ∧ trim (euclid k a b) = euclid k a b := by
  induction k with
  | zero => intro a b h1 h2 _; exact ⟨h1, h2⟩
  | succ k ih =>
    intro a b h1 h2 hb
    rw [euclid]
    split
    · exact ⟨h1, h2⟩
    · rename_i h
      exact ih b _ h hb (divT_spec a b h (last_of_trim b h hb)).2.2.2.2
theorem commonP_len (a b : List F) : (commonP a b).length ≤ max a.length b.length := by
  unfold commonP
  have h1 := monicP_len (euclid ((trim b).length + 1) (trim a) (trim b))
  have h2 := euclid_len ((trim b).length + 1) (trim a) (trim b) (trim_trim' b)
  have h3 := trim_le' a
  have h4 := trim_le' b
  omega
theorem commonP_nonzero (a b : List F) (ha : trim a ≠ []) : trim (commonP a b) ≠ [] := by
  unfold commonP
  have h := euclid_nonzero ((trim b).length + 1) (trim a) (trim b) ha (trim_trim' a) (trim_trim' b)
  apply monicP_nonzero
  rw [h.2]; exact h.1
theorem divT_quot_len (a b : List F) (hb : b ≠ []) (ht : trim b = b) : (divT a b).1.length ≤ a.length := by
  have hs := divT_spec a b hb (last_of_trim b hb ht)
  have h3 := trim_le' a
  have : 0 < b.length := by
    rcases Nat.eq_zero_or_pos b.length with h | h
    · exact absurd (List.eq_nil_of_length_eq_zero h) hb
    · exact h
  rcases hs.2.2.2.1 with h | h
  · omega
  · rw [h]; exact Nat.zero_le _
end Goss
