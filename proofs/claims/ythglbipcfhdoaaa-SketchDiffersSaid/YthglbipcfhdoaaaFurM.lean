/- Words and bytes: each way back. -/
import Derived.Test.YthglbipcfhdoaaaRefB
namespace Goss
theorem bytesP_append (xs ys : List F) : bytesP (xs ++ ys) = bytesP xs ++ bytesP ys := by simp [bytesP]
theorem bytesP_length (xs : List F) : (bytesP xs).length = 4 * xs.length := by
  induction xs with
  | nil => rfl
  | cons x r ih => simp [bytesP, bytesF] at ih ⊢; omega
theorem bytesF_length (x : F) : (bytesF x).length = 4 := rfl
theorem byte_lt (x : F) (n : Nat) : ((x >>> n).setWidth 8 : BitVec 8).toNat = x.toNat / 2 ^ n % 256 := by
  rw [BitVec.toNat_setWidth, BitVec.toNat_ushiftRight, Nat.shiftRight_eq_div_pow]
theorem word_bytes (x : F) (r : List (BitVec 8)) : wordTo (bytesF x ++ r) 4 = x := by
  apply BitVec.eq_of_toNat_eq
  rw [Go.Proofs.Ythglbipcfhdoaaa.wordTo_four]
  have h0 : ((bytesF x ++ r)[0]?).getD 0#8 = x.setWidth 8 := rfl
  have h1 : ((bytesF x ++ r)[1]?).getD 0#8 = (x >>> 8).setWidth 8 := rfl
  have h2 : ((bytesF x ++ r)[2]?).getD 0#8 = (x >>> 16).setWidth 8 := rfl
  have h3 : ((bytesF x ++ r)[3]?).getD 0#8 = (x >>> 24).setWidth 8 := rfl
  rw [h0, h1, h2, h3, byte_lt, byte_lt, byte_lt, BitVec.toNat_setWidth]
  have := x.isLt
  omega
theorem drop_bytesP (xs : List F) : ∀ k, (bytesP xs).drop (4 * k) = bytesP (xs.drop k) := by
  induction xs with
  | nil => intro k; simp [bytesP]
  | cons x r ih =>
    intro k
    cases k with
    | zero => rfl
    | succ k =>
      have e : bytesP (x :: r) = bytesF x ++ bytesP r := rfl
      rw [e, List.drop_append, show 4 * (k + 1) = 4 + 4 * k from by omega, List.drop_eq_nil_of_le (by rw [bytesF_length]; omega), bytesF_length, Nat.add_sub_cancel_left, List.nil_append, ih, List.drop_succ_cons]
theorem wordAt_bytesP (xs : List F) (k : Nat) (x : F) (h : xs[k]? = some x) : wordAt (bytesP xs) k = x := by
  obtain ⟨hl, rfl⟩ := List.getElem?_eq_some_iff.1 h
  rw [wordAt, drop_bytesP, List.drop_eq_getElem_cons hl]
  exact word_bytes _ _
theorem sumsP_bytesP (xs : List F) : sumsP (bytesP xs) = xs := by
  rw [sumsP, bytesP_length, Nat.mul_div_cancel_left _ (by omega)]
  apply List.ext_getElem?
  intro k
  rw [List.getElem?_map]
  by_cases hk : k < xs.length
  · rw [List.getElem?_range hk, List.getElem?_eq_getElem hk]
    simp only [Option.map_some]
    rw [wordAt_bytesP xs k _ (List.getElem?_eq_getElem hk)]
  · rw [List.getElem?_eq_none (by simp; omega), List.getElem?_eq_none (by omega)]
    rfl
theorem bytes_word (a b c d : BitVec 8) (r : List (BitVec 8)) : bytesF (wordTo (a :: b :: c :: d :: r) 4) = [a, b, c, d] := by
  have h := Go.Proofs.Ythglbipcfhdoaaa.wordTo_four (a :: b :: c :: d :: r)
  simp only [List.getElem?_cons_zero, List.getElem?_cons_succ, Option.getD_some] at h
  have ha := a.isLt
  have hb := b.isLt
  have hc := c.isLt
  have hd := d.isLt
  generalize wordTo (a :: b :: c :: d :: r) 4 = x at *
  unfold bytesF
  congr 1
  · apply BitVec.eq_of_toNat_eq; rw [BitVec.toNat_setWidth]; omega
  congr 1
  · apply BitVec.eq_of_toNat_eq; rw [byte_lt]; omega
  congr 1
  · apply BitVec.eq_of_toNat_eq; rw [byte_lt]; omega
  congr 1
  · apply BitVec.eq_of_toNat_eq; rw [byte_lt]; omega
theorem sumsP_four (a b c d : BitVec 8) (r : List (BitVec 8)) : sumsP (a :: b :: c :: d :: r) = wordTo (a :: b :: c :: d :: r) 4 :: sumsP r := by
  unfold sumsP
  rw [show (a :: b :: c :: d :: r).length / 4 = r.length / 4 + 1 from by simp only [List.length_cons]; omega, List.range_succ_eq_map, List.map_cons, List.map_map]
  congr 1
theorem bytesP_sumsP : ∀ (n : Nat) (bs : List (BitVec 8)), bs.length = 4 * n → bytesP (sumsP bs) = bs := by
  intro n
  induction n with
  | zero =>
    intro bs h
    obtain rfl : bs = [] := List.eq_nil_of_length_eq_zero (by omega)
    rfl
  | succ n ih =>
    intro bs h
    match bs, h with
    | a :: b :: c :: d :: r, h =>
      rw [sumsP_four]
      have e : ∀ (x : F) (l : List F), bytesP (x :: l) = bytesF x ++ bytesP l := fun _ _ => rfl
      rw [e, bytes_word, ih r (by simp only [List.length_cons] at h; omega)]
      rfl
    | [], h => simp at h
    | [_], h => simp at h; omega
    | [_, _], h => simp at h; omega
    | [_, _, _], h => simp at h; omega
end Goss
