/- Ids put twice. No program. -/
import Derived.Test.YthglbipcfhdoaaaRefM
namespace Goss
theorem newS_append (c : Nat) (a b : List F) : newS c (a ++ b) = b.foldl putS (newS c a) := by
  unfold newS
  rw [List.foldl_append]
theorem foldl_xor (f : F → F) (l : List F) : ∀ x : F, l.foldl (fun x id => x ^^^ f id) x = x ^^^ l.foldl (fun x id => x ^^^ f id) 0#32 := by
  induction l with
  | nil => intro x; exact (xor_zero x).symm
  | cons y r ih =>
    intro x
    rw [List.foldl_cons, List.foldl_cons, ih, ih (0#32 ^^^ f y), zero_xor, xor_assoc]
theorem put_twice (c : Nat) (l : List F) : l.foldl putS (newS c l) = List.replicate c 0#32 := by
  apply List.ext_getElem?
  intro k
  rw [foldl_putS_at, newS_eq, List.getElem?_map]
  by_cases hk : k < c
  · rw [List.getElem?_range hk, List.getElem?_replicate_of_lt hk]
    simp only [Option.map_some]
    rw [foldl_xor (fun id => pw id (2 * k + 1))]
    unfold sumAt
    rw [xor_self]
  · rw [List.getElem?_eq_none (by simp; omega), List.getElem?_eq_none (by simp; omega)]; rfl
end Goss
