/- How many roots can be found. No program. -/
import Derived.Test.YthglbipcfhdoaaaFoundM
import Derived.Test.YthglbipcfhdoaaaSkDef
namespace Goss
theorem dlen_le (p : List F) : dlen p ≤ p.length := tlen_le' p p.length
theorem dlen_trim (p : List F) : dlen p = (trim p).length := (trim_length' p).symm
theorem monicP_dlen (a : List F) : (monicP a).length ≤ (trim a).length := by
  unfold monicP
  split
  · exact Nat.zero_le _
  · exact scaleP_len _ _
/-- A common divisor is no longer than what it divides. -/
theorem common_len (p t : List F) (hp : trim p ≠ []) (hl : p.length ≤ 1000000) : (commonP p t).length ≤ (trim p).length := by
  have hd := euclid_dvd ((trim t).length + 1) (trim p) (trim t) (trim_trim' t) (by omega)
  have hnz := euclid_nonzero ((trim t).length + 1) (trim p) (trim t) hp (trim_trim' p) (trim_trim' t)
  unfold commonP
  generalize euclid ((trim t).length + 1) (trim p) (trim t) = g at *
  have hm := (monicP_spec g hnz.1 hnz.2).1
  obtain ⟨⟨h, h1, h2⟩, _⟩ := hd
  have hh : h ≠ [] := by
    intro e
    subst e
    have hz : ∀ z, ev (trim p) z = 0#32 := fun z => by rw [h2 z]; exact zero_mul _
    have htl := trim_le' p
    have := ev_zero_all (trim p) (by omega) hz ((trim p).length - 1)
    exact trim_last p hp this
  have hhl : 0 < h.length := List.length_pos_iff.2 hh
  rcases h1 with h1 | h1
  · exact absurd h1 hh
  · omega
def degs : List (List F × Nat) → Nat
  | [] => 0
  | (p, _) :: r => (dlen p - 1) + degs r
theorem found_len_aux (k : Nat) : ∀ (st : List (List F × Nat)) (out : List F), (∀ x ∈ st, x.1.length ≤ 1000000) → (foundLoop k st out).length ≤ out.length + degs st := by
  induction k with
  | zero => intro st out _; exact Nat.le_add_right _ _
  | succ k ih =>
    intro st out hl
    match st with
    | [] => exact Nat.le_add_right _ _
    | (p, b) :: st =>
      have hlp : p.length ≤ 1000000 := hl _ (List.mem_cons_self ..)
      have hls : ∀ x ∈ st, x.1.length ≤ 1000000 := fun x hx => hl x (List.mem_cons_of_mem _ hx)
      rw [foundLoop]
      simp only [degs]
      split
      · have := ih st (out ++ [(p[0]?).getD 0#32]) hls
        rw [List.length_append] at this
        simp only [List.length_singleton] at this
        omega
      · split
        · rename_i _ h2
          have hp : trim p ≠ [] := by
            intro e
            have := dlen_trim p
            rw [e] at this
            simp at this
            omega
          have h1l := common_len p (tracesP p (1#32 <<< b)) hp hlp
          have h1n := commonP_nonzero p (tracesP p (1#32 <<< b)) hp
          have hs := divT_spec p (trim (partOne p b)) h1n (trim_last _ h1n)
          have htl := trim_le' p
          have h1t := trim_le' (partOne p b)
          have h2m := monicP_dlen (divT p (trim (partOne p b))).1
          have h2t := trim_le' (divT p (trim (partOne p b))).1
          have d1 := dlen_trim (partOne p b)
          have d2 := dlen_le (partTwo p b)
          have hdp := dlen_trim p
          have hp1 : (partOne p b).length ≤ (trim p).length := h1l
          have hp2 : (partTwo p b).length ≤ (trim (divT p (trim (partOne p b))).1).length := h2m
          have h1pos : 0 < (trim (partOne p b)).length := List.length_pos_iff.2 h1n
          have key : (dlen (partTwo p b) - 1) + (dlen (partOne p b) - 1) ≤ dlen p - 1 := by
            rcases hs.2.2.2.1 with h3 | h3
            · omega
            · have : (divT p (trim (partOne p b))).1.length = 0 := by rw [h3]; rfl
              omega
          have q2 := divT_quot_len p (trim (partOne p b)) h1n (trim_trim' _)
          have l2 : (partTwo p b).length ≤ 1000000 := by omega
          have l1 : (partOne p b).length ≤ 1000000 := by omega
          clear hs hp2 h2m h2t q2 h1n h1l hp
          generalize partTwo p b = P2 at *
          generalize partOne p b = P1 at *
          have hih := ih ((P2, b + 1) :: (P1, b + 1) :: st) out (by
            intro x hx
            rcases List.mem_cons.1 hx with rfl | hx
            · exact l2
            · rcases List.mem_cons.1 hx with rfl | hx
              · exact l1
              · exact hls x hx)
          simp only [degs] at hih
          generalize foundLoop k ((P2, b + 1) :: (P1, b + 1) :: st) out = FL at *
          clear ih
          omega
        · have := ih st out hls
          omega
theorem found_len (p : List F) (hl : p.length ≤ 1000000) : (foundP p).length ≤ dlen p - 1 := by
  unfold foundP
  rw [sortF_length]
  have := found_len_aux 8589934592 [(p, 0)] [] (by intro x hx; rw [List.mem_singleton] at hx; rw [hx]; exact hl)
  simpa [degs] using this
theorem now_one (s : List F) (n : Nat) : co (runTo s n).now 0 = 1#32 := by
  induction n with
  | zero => rfl
  | succ n ih =>
    rw [runTo]
    unfold takeP
    split
    · exact ih
    · split
      · show co (mendedP _ _ _ _ _) 0 = _
        unfold mendedP
        rw [co_putP _ _ _ _ _ (by rw [List.length_append, List.length_replicate]; omega), co_pad, if_neg (by omega), xor_zero, ih]
      · show co (mendedP _ _ _ _ _) 0 = _
        unfold mendedP
        rw [co_putP _ _ _ _ _ (by rw [List.length_append, List.length_replicate]; omega), co_pad, if_neg (by omega), xor_zero, ih]
theorem short_one (s : List F) : co (shortestP s) 0 = 1#32 := by
  unfold shortestP
  have h := now_one s s.length
  rw [← co_pad (runTo s s.length).now ((runTo s s.length).len + 1) 0] at h
  unfold co at h ⊢
  rw [List.getElem?_take, if_pos (by omega)]
  exact h
theorem rule_ne (s : List F) : trim (shortestP s).reverse ≠ [] := by
  have h := short_one s
  have hl : 0 < (shortestP s).length := by
    unfold shortestP
    rw [List.length_take, List.length_append, List.length_replicate]
    omega
  apply trim_ne_nil _ ((shortestP s).length - 1)
  unfold co at h ⊢
  rw [List.getElem?_reverse (by omega), show (shortestP s).length - 1 - ((shortestP s).length - 1) = 0 from by omega, h]
  decide
/-- .. of a sketch's rule. -/
theorem found_rule (s : List F) (n : Nat) (hn : n ≤ 999999) (hr : (shortestP s).length ≤ n + 1) : (foundP (linearP (shortestP s).reverse)).length ≤ n := by
  have hrl : (shortestP s).reverse.length ≤ n + 1 := by rw [List.length_reverse]; exact hr
  have hz := rule_ne s
  generalize (shortestP s).reverse = p at *
  have hc : (linearP p).length ≤ n + 1 := by
    have := common_len p (addP (linLoop p 32 (restP [0#32, 1#32] p)) (restP [0#32, 1#32] p)) hz (by omega)
    have h2 := trim_le' p
    unfold linearP
    omega
  have h1 := found_len (linearP p) (by omega)
  have h2 := dlen_le (linearP p)
  omega
end Goss
