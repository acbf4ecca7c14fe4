/- Sorted lists of field elements: the insertion sort's way, in plain Lean. -/
import Derived.Test.YthglbipcfhdoaaaDef
namespace Goss
def at' (c : List F) (k : Nat) : Nat := ((c[k]?).getD 0#32).toNat
theorem insertF_perm (x : F) (l : List F) : (insertF x l).Perm (x :: l) := by
  induction l with
  | nil => exact .refl _
  | cons y r ih =>
    rw [insertF]
    split
    · exact .refl _
    · exact (ih.cons y).trans (.swap x y r)
theorem sortF_perm (l : List F) : (sortF l).Perm l := by
  induction l with
  | nil => exact .refl _
  | cons x r ih => exact (insertF_perm x _).trans (ih.cons x)
theorem sortF_length (l : List F) : (sortF l).length = l.length := (sortF_perm l).length_eq
theorem insertF_sorted (x : F) (l : List F) (h : l.Pairwise fun a b => a.toNat ≤ b.toNat) : (insertF x l).Pairwise fun a b => a.toNat ≤ b.toNat := by
  induction l with
  | nil => simp [insertF]
  | cons y r ih =>
    rw [insertF]
    split
    · rename_i hxy
      refine List.pairwise_cons.2 ⟨fun b hb => ?_, h⟩
      rcases List.mem_cons.1 hb with rfl | hb
      · exact hxy
      · exact Nat.le_trans hxy ((List.pairwise_cons.1 h).1 b hb)
    · rename_i hxy
      refine List.pairwise_cons.2 ⟨fun b hb => ?_, ih (List.pairwise_cons.1 h).2⟩
      rcases List.mem_cons.1 ((insertF_perm x r).mem_iff.1 hb) with rfl | hb
      · omega
      · exact (List.pairwise_cons.1 h).1 b hb
theorem sortF_sorted (l : List F) : (sortF l).Pairwise fun a b => a.toNat ≤ b.toNat := by
  induction l with
  | nil => exact .nil
  | cons x r ih => exact insertF_sorted x _ ih
theorem sort_unique {l m : List F} (hp : l.Perm m) (hs : l.Pairwise fun a b => a.toNat ≤ b.toNat) : l = sortF m := by
  refine List.Perm.eq_of_pairwise (le := fun a b => a.toNat ≤ b.toNat) ?_ hs (sortF_sorted m) (hp.trans (sortF_perm m).symm)
  intro a b _ _ h1 h2
  exact BitVec.eq_of_toNat_eq (Nat.le_antisymm h1 h2)

/-- The first i are sorted, of the same elements. -/
structure InsTo (xs cur : List F) (i : Nat) : Prop where
  perm : cur.Perm xs
  srt : ∀ a b, a < b → b < i → at' cur a ≤ at' cur b
/-- Within: the first i + 1 are sorted but for the one at j, that sinks. -/
structure SinkTo (xs cur : List F) (i j : Nat) : Prop where
  perm : cur.Perm xs
  ji : j ≤ i
  srt : ∀ a b, a < b → b ≤ i → b ≠ j → at' cur a ≤ at' cur b
theorem InsTo.start (xs : List F) : InsTo xs xs 1 := ⟨.refl _, fun a b h1 h2 => by omega⟩
theorem InsTo.sink {xs cur : List F} {i : Nat} (h : InsTo xs cur i) : SinkTo xs cur i i := ⟨h.perm, Nat.le_refl _, fun a b h1 h2 h3 => h.srt a b h1 (by omega)⟩
theorem at_swap (cur : List F) (j : Nat) (x y : F) (hx : cur[j + 1]? = some x) (hy : cur[j]? = some y) (k : Nat) :
    at' ((cur.set (j + 1) y).set j x) k = if k = j then at' cur (j + 1) else if k = j + 1 then at' cur j else at' cur k := by
  have hl : j + 1 < cur.length := (List.getElem?_eq_some_iff.1 hx).1
  unfold at'
  rw [List.getElem?_set, List.getElem?_set]
  by_cases h1 : k = j
  · subst h1
    rw [if_pos rfl, if_pos rfl, if_pos (by rw [List.length_set]; omega), hx]
  · rw [if_neg (fun e => h1 e.symm), if_neg h1]
    by_cases h2 : k = j + 1
    · subst h2
      rw [if_pos rfl, if_pos rfl, if_pos hl, hy]
    · rw [if_neg (fun e => h2 e.symm), if_neg h2]
theorem SinkTo.step {xs cur : List F} {i j : Nat} {x y : F} (h : SinkTo xs cur i (j + 1)) (hx : cur[j + 1]? = some x) (hy : cur[j]? = some y) (hlt : x.toNat < y.toNat) :
    SinkTo xs ((cur.set (j + 1) y).set j x) i j := by
  have hl : j + 1 < cur.length := (List.getElem?_eq_some_iff.1 hx).1
  refine ⟨?_, by have := h.ji; omega, fun a b h1 h2 h3 => ?_⟩
  · refine List.Perm.trans ?_ h.perm
    have := List.set_set_perm (as := cur) (i := j + 1) (j := j) hl (by omega)
    rw [(List.getElem?_eq_some_iff.1 hx).2, (List.getElem?_eq_some_iff.1 hy).2] at this
    exact this
  · have hji := h.ji
    have e1 : at' cur (j + 1) = x.toNat := by unfold at'; rw [hx]; rfl
    have e2 : at' cur j = y.toNat := by unfold at'; rw [hy]; rfl
    rw [at_swap cur j x y hx hy, at_swap cur j x y hx hy]
    rw [if_neg h3]
    by_cases hb : b = j + 1
    · subst hb
      rw [if_pos rfl]
      by_cases ha : a = j
      · rw [if_pos ha]; omega
      · rw [if_neg ha, if_neg (by omega)]
        exact h.srt a j (by omega) (by omega) (by omega)
    · rw [if_neg hb]
      by_cases ha : a = j
      · rw [if_pos ha]; exact h.srt (j + 1) b (by omega) h2 hb
      · rw [if_neg ha]
        by_cases ha2 : a = j + 1
        · rw [if_pos ha2]; exact h.srt j b (by omega) h2 hb
        · rw [if_neg ha2]; exact h.srt a b h1 h2 hb
theorem SinkTo.done0 {xs cur : List F} {i : Nat} (h : SinkTo xs cur i 0) : InsTo xs cur (i + 1) :=
  ⟨h.perm, fun a b h1 h2 => h.srt a b h1 (by omega) (by omega)⟩
theorem SinkTo.done {xs cur : List F} {i j : Nat} {x y : F} (h : SinkTo xs cur i (j + 1)) (hx : cur[j + 1]? = some x) (hy : cur[j]? = some y) (hle : ¬ x.toNat < y.toNat) : InsTo xs cur (i + 1) := by
  refine ⟨h.perm, fun a b h1 h2 => ?_⟩
  have hji := h.ji
  have e1 : at' cur (j + 1) = x.toNat := by unfold at'; rw [hx]; rfl
  have e2 : at' cur j = y.toNat := by unfold at'; rw [hy]; rfl
  by_cases hb : b = j + 1
  · subst hb
    by_cases ha : a = j
    · subst ha; omega
    · have := h.srt a j (by omega) (by omega) (by omega)
      omega
  · exact h.srt a b h1 (by omega) hb
theorem InsTo.done {xs cur : List F} {i : Nat} (h : InsTo xs cur i) (hi : xs.length ≤ i) : cur = sortF xs := by
  refine sort_unique h.perm ?_
  rw [List.pairwise_iff_getElem]
  intro a b ha hb hab
  have h1 := h.srt a b hab (by have := h.perm.length_eq; omega)
  unfold at' at h1
  rw [List.getElem?_eq_getElem ha, List.getElem?_eq_getElem hb] at h1
  exact h1
end Goss
