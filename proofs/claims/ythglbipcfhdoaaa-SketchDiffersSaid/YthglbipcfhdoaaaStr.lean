/- Slices of bytes: how a value reads, and its string. -/
import Derived.Test.YthglbipcfhdoaaaNum
import Derived.Laws.Strings
namespace Go.Proofs.Ythglbipcfhdoaaa
open Go.RowKit

/-- v reads in w as bytes. -/
def SlB (w : World) (v : Value) (xs : List (BitVec 8)) : Prop :=
  ∃ p n c, v = .slice p n c ∧ n = xs.length ∧ n ≤ c ∧ c ≤ maxLen ∧
    ((p = none ∧ n = 0 ∧ c = 0) ∨ ∃ b o, p = some ⟨b, o, none⟩ ∧ b < w.heap.size ∧ ∀ i x, xs[i]? = some x → w.cell? ⟨b, o + i, none⟩ = some (encB x))
theorem SlB.below {w w' : World} {v : Value} {xs : List (BitVec 8)} (h : SlB w v xs) (hb : Below w.heap.size w w') : SlB w' v xs := by
  obtain ⟨p, n, c, h1, h2, h3, h4, h5⟩ := h
  refine ⟨p, n, c, h1, h2, h3, h4, ?_⟩
  rcases h5 with h5 | ⟨b, o, rfl, hlt, hc⟩
  · exact .inl h5
  · exact .inr ⟨b, o, rfl, Nat.lt_of_lt_of_le hlt hb.size, fun i x hi => by rw [hb.cell (p := ⟨b, o + i, none⟩) hlt]; exact hc i x hi⟩
theorem SlB.shape {w : World} {v : Value} {xs : List (BitVec 8)} (h : SlB w v xs) : ∃ p c, v = .slice p xs.length c := by
  obtain ⟨p, n, c, h1, rfl, _⟩ := h
  exact ⟨p, c, h1⟩
theorem SlB.len' {w : World} {v : Value} {xs : List (BitVec 8)} (h : SlB w v xs) : xs.length ≤ maxLen := by
  obtain ⟨p, n, c, h1, h2, h3, h4, _⟩ := h
  omega
theorem SlB.len {w : World} {p : Option Addr} {n c : Nat} {xs : List (BitVec 8)} (h : SlB w (.slice p n c) xs) : n = xs.length ∧ n ≤ c ∧ c ≤ maxLen := by
  obtain ⟨p', n', c', h1, h2, h3, h4, h5⟩ := h
  simp only [Value.slice.injEq] at h1
  obtain ⟨rfl, rfl, rfl⟩ := h1
  exact ⟨h2, h3, h4⟩
theorem SlB.read {w : World} {p : Option Addr} {n c : Nat} {xs : List (BitVec 8)} (h : SlB w (.slice p n c) xs) {k : Nat} (hk : k < n) :
    ∃ b o x, p = some ⟨b, o, none⟩ ∧ xs[k]? = some x ∧ w.cell? ⟨b, o + k, none⟩ = some (.int .u8 x.toNat) := by
  obtain ⟨p', n', c', h1, h2, h3, h4, h5⟩ := h
  simp only [Value.slice.injEq] at h1
  obtain ⟨rfl, rfl, rfl⟩ := h1
  rcases h5 with ⟨_, h0, _⟩ | ⟨b, o, rfl, hlt, hc⟩
  · omega
  · exact ⟨b, o, xs[k]'(by omega), rfl, List.getElem?_eq_getElem (by omega), hc _ _ (List.getElem?_eq_getElem (by omega))⟩
theorem OwnB.slB {w : World} {B : Nat} {v : Value} {xs : List (BitVec 8)} (h : OwnB w B v xs) : SlB w v xs := by
  obtain ⟨h1, h2⟩ := h
  rcases h2 with ⟨rfl, h0⟩ | ⟨g, cap, cur, rfl, hb, hg, hnc, hcm, hcs, htake⟩
  · exact ⟨none, 0, 0, rfl, h0.symm, Nat.le_refl _, Nat.zero_le _, .inl ⟨rfl, rfl, rfl⟩⟩
  · refine ⟨_, _, _, rfl, rfl, hnc, hcm, .inr ⟨g, 0, rfl, (Array.getElem?_eq_some_iff.1 hg).1, fun i x hi => ?_⟩⟩
    rw [Nat.zero_add, cell_of_row w g i cur _ (0, 0) hg]
    have : (xs.map encB)[i]? = some (encB x) := by rw [List.getElem?_map, hi]; rfl
    rw [← htake, List.getElem?_take] at this
    split at this
    · simpa using this
    · cases this

/-- The string of bytes. -/
def strB (xs : List (BitVec 8)) : ByteArray := strOfNums (xs.map fun x => (x.toNat : Int))
theorem SlB.str {w : World} {v : Value} {xs : List (BitVec 8)} (h : SlB w v xs) : (convert 40 9 v).run Try.prog w = .ok (.string (strB xs)) w := by
  obtain ⟨p, n, c, rfl, h2, h3, h4, h5⟩ := h
  rcases h5 with ⟨rfl, h0, rfl⟩ | ⟨b, o, rfl, hlt, hc⟩
  · have : xs = [] := List.eq_nil_of_length_eq_zero (by omega)
    subst this
    exact run_convert_bytes_nil w 40 5 Try.underlying40 Try.underlying5 n 0 9 Try.underlying9
  · refine run_convert_bytes_arg w 40 5 Try.underlying40 Try.underlying5 b o n c (xs.map fun x => (x.toNat : Int)) (by simp [h2]) ?_ 9 Try.underlying9
    intro i hi
    rw [hc i (xs[i]'(by omega)) (List.getElem?_eq_getElem (by omega))]
    simp [List.getD, List.getElem?_eq_getElem (show i < xs.length by omega)]
theorem strB_inj {xs ys : List (BitVec 8)} (h : strB xs = strB ys) : xs = ys := by
  have h1 : (strB xs).data.toList = (strB ys).data.toList := by rw [h]
  unfold strB at h1
  rw [strOfNums_data, strOfNums_data, List.map_map, List.map_map] at h1
  have key : ∀ l : List (BitVec 8), (l.map ((fun n : Int => UInt8.ofNat n.toNat) ∘ fun x : BitVec 8 => (x.toNat : Int))).map UInt8.toBitVec = l := by
    intro l
    rw [List.map_map]
    conv => rhs; rw [← List.map_id l]
    apply List.map_congr_left
    intro x _
    apply BitVec.eq_of_toNat_eq
    simp
  rw [← key xs, ← key ys, h1]
theorem strB_beq (xs ys : List (BitVec 8)) : ((strB xs).toList == (strB ys).toList) = decide (xs = ys) := by
  by_cases h : xs = ys
  · subst h; simp
  · rw [decide_eq_false h, beq_eq_false_iff_ne]
    intro e
    apply h
    apply strB_inj
    rw [ByteArray.toList_eq, ByteArray.toList_eq] at e
    cases hx : strB xs with | mk a =>
    cases hy : strB ys with | mk b =>
    rw [hx, hy] at e
    simp only at e
    rw [Array.toList_inj.1 e]
theorem strB_append (xs ys : List (BitVec 8)) : strB (xs ++ ys) = strB xs ++ strB ys := by
  apply WideShapes.bytes_inj
  rw [ByteArray.data_append, Array.toList_append]
  unfold strB
  rw [strOfNums_data, strOfNums_data, strOfNums_data, List.map_append, List.map_append]
end Go.Proofs.Ythglbipcfhdoaaa
