/- The roots of a polynomial that splits are found. No program. -/
import Derived.Test.YthglbipcfhdoaaaRootM
import Derived.Test.YthglbipcfhdoaaaSortM
namespace Goss

theorem ev_rest (a p : List F) (x : F) (hp : trim p ≠ []) (hx : ev p x = 0#32) : ev (restP a p) x = ev a x := by
  have hs := divT_spec a (trim p) hp (trim_last p hp)
  unfold restP
  have := hs.2.2.1 x
  rw [ev_trim, hx, mul_zero, zero_xor] at this
  exact this.symm
theorem ev_squared (a p : List F) (x : F) (hp : trim p ≠ []) (hx : ev p x = 0#32) : ev (squaredP a p) x = sq (ev a x) := by
  have hs := divT_spec (spread a) (trim p) hp (trim_last p hp)
  unfold squaredP
  have := hs.2.2.1 x
  rw [ev_trim, hx, mul_zero, zero_xor, ev_spread_sq] at this
  exact this.symm
theorem restP_lt' (a p : List F) (hp : trim p ≠ []) : (restP a p).length < p.length := by
  have hs := divT_spec a (trim p) hp (trim_last p hp)
  have := trim_le' p
  unfold restP
  omega
theorem squaredP_lt' (a p : List F) (hp : trim p ≠ []) : (squaredP a p).length < p.length := by
  have hs := divT_spec (spread a) (trim p) hp (trim_last p hp)
  have := trim_le' p
  unfold squaredP
  omega
/-- n squarings, the first first. -/
def frL : Nat → F → F
  | 0, a => a
  | n + 1, a => frL n (sq a)
theorem fr_succ (n : Nat) (a : F) : fr n (sq a) = fr (n + 1) a := by
  have := fr_add n 1 a
  exact this
theorem trUp_succ (n : Nat) (a : F) : trUp (n + 1) a = a ^^^ trUp n (sq a) := by
  induction n with
  | zero => show 0#32 ^^^ a = a ^^^ 0#32; rw [zero_xor, xor_zero]
  | succ n ih =>
    rw [trUp, ih, trUp, fr_succ, xor_assoc]
theorem ev_tracesLoop (p : List F) (x : F) (hp : trim p ≠ []) (hx : ev p x = 0#32) (n : Nat) : ∀ out a, ev (tracesLoop p n out a) x = ev out x ^^^ trUp n (ev a x) := by
  induction n with
  | zero => intro out a; exact (xor_zero _).symm
  | succ n ih => intro out a; rw [tracesLoop, ih, ev_addP, ev_squared _ _ _ hp hx, trUp_succ, xor_assoc]
theorem ev_traces (p : List F) (b x : F) (hp : trim p ≠ []) (hx : ev p x = 0#32) : ev (tracesP p b) x = tr (mul b x) := by
  unfold tracesP
  rw [ev_tracesLoop p x hp hx, ev_rest _ _ _ hp hx]
  show 0#32 ^^^ trUp 32 (0#32 ^^^ mul x (b ^^^ mul x 0#32)) = _
  rw [zero_xor, zero_xor, mul_zero, xor_zero, mul_comm]
  rfl
theorem ev_linLoop (p : List F) (x : F) (hp : trim p ≠ []) (hx : ev p x = 0#32) (n : Nat) : ∀ a, ev (linLoop p n a) x = fr n (ev a x) := by
  induction n with
  | zero => intro a; rfl
  | succ n ih => intro a; rw [linLoop, ih, ev_squared _ _ _ hp hx, fr_succ]
theorem linLoop_lt (p : List F) (hp : trim p ≠ []) (n : Nat) : ∀ a : List F, a.length < p.length → (linLoop p n a).length < p.length := by
  induction n with
  | zero => intro a h; exact h
  | succ n ih => intro a _; rw [linLoop]; exact ih _ (squaredP_lt' a p hp)
theorem addP_le (a b : List F) : (addP a b).length ≤ max a.length b.length := by
  unfold addP
  have := trim_le' (xorL a b)
  rw [xorL_len] at this
  exact this
theorem monicP_one (p R : List F) (h : Splits p R) : monicP p = p := by
  have hm := monicP_spec p h.ne h.trim
  apply ext_co _ _ hm.1
  intro i
  unfold monicP
  rw [h.trim, if_neg h.ne, co_scaleP]
  have e : (p[p.length - 1]?).getD 0#32 = 1#32 := by
    have := h.last
    rw [h.len, Nat.add_sub_cancel]
    exact this
  rw [e, inv_one, one_mul]
theorem common_nil (p R : List F) (h : Splits p R) : commonP p [] = p := by
  unfold commonP
  have e : trim ([] : List F) = [] := rfl
  rw [e, h.trim]
  show monicP (if ([] : List F) = [] then p else _) = p
  rw [if_pos rfl]
  exact monicP_one p R h
/-- Where a polynomial splits, its linear part is it itself. -/
theorem linear_splits (p R : List F) (h : Splits p R) : linearP p = p := by
  have hp : trim p ≠ [] := by rw [h.trim]; exact h.ne
  have hl := restP_lt' [0#32, 1#32] p hp
  have hl2 := linLoop_lt p hp 32 _ hl
  unfold linearP
  have hq : addP (linLoop p 32 (restP [0#32, 1#32] p)) (restP [0#32, 1#32] p) = [] := by
    have hle := addP_le (linLoop p 32 (restP [0#32, 1#32] p)) (restP [0#32, 1#32] p)
    have hpl := h.len
    have hz := roots_bound _ (addP (linLoop p 32 (restP [0#32, 1#32] p)) (restP [0#32, 1#32] p)) R (Nat.le_refl _) (by omega) h.nd (by
      intro x hx
      have hx0 := h.root x hx
      rw [ev_addP, ev_linLoop p x hp hx0, ev_rest _ _ _ hp hx0, fr32, xor_self])
    have h2 : trim (addP (linLoop p 32 (restP [0#32, 1#32] p)) (restP [0#32, 1#32] p)) = [] := trim_nil _ (co_all_zero _ hz)
    unfold addP at h2 ⊢
    rw [trim_trim'] at h2
    exact h2
  rw [hq]
  exact common_nil p R h

/-- The roots agree in the traces by the first bits. -/
def Agree (R : List F) (b : Nat) : Prop := ∀ x ∈ R, ∀ y ∈ R, ∀ n, n < b → tr (mul (1#32 <<< n) x) = tr (mul (1#32 <<< n) y)
theorem Agree.one {R : List F} (h : Agree R 32) (hn : R.Nodup) : R.length ≤ 1 := by
  match R, h, hn with
  | [], _, _ => simp
  | [_], _, _ => simp
  | x :: y :: r, h, hn =>
    exfalso
    have e : x ^^^ y = 0#32 := by
      apply tr_apart
      intro n hlt
      rw [mul_xor, tr_xor, h x (by simp) y (by simp) n hlt, xor_self]
    rw [xor_eq_zero] at e
    rw [List.nodup_cons] at hn
    exact hn.1 (by rw [e]; exact List.mem_cons_self ..)
theorem dlen_of_trim (p : List F) (h : trim p = p) : dlen p = p.length := by
  unfold dlen
  rw [← trim_length', h]
/-- What a stack's roots cost at most. -/
def costR : List (List F × Nat) → Nat
  | [] => 0
  | (_, b) :: r => (2 ^ (33 - b) - 1) + costR r
/-- The stack's parts, each with its roots. -/
inductive Parts : List (List F × Nat) → List F → Prop
  | nil : Parts [] []
  | cons {p R : List F} {b : Nat} {st : List (List F × Nat)} {T : List F} (h : Splits p R) (ha : Agree R b) (hb : b ≤ 32) (hl : R.length ≤ 1000000) (hr : Parts st T) : Parts ((p, b) :: st) (R ++ T)
theorem filter_perm (q : F → Bool) (R : List F) : ((R.filter fun x => !q x) ++ R.filter q).Perm R := by
  induction R with
  | nil => exact .refl _
  | cons x r ih =>
    rw [List.filter_cons, List.filter_cons]
    cases q x
    · exact (List.Perm.cons x ih)
    · simp only [Bool.not_true, Bool.false_eq_true, if_false, if_true]
      exact List.perm_middle.trans (List.Perm.cons x ih)
theorem pow33 (b : Nat) (h : b < 32) : 2 * 2 ^ (33 - (b + 1)) = 2 ^ (33 - b) ∧ 1 ≤ 2 ^ (33 - (b + 1)) := by
  refine ⟨?_, Nat.pow_pos (by omega)⟩
  rw [show 33 - b = (33 - (b + 1)) + 1 from by omega, Nat.pow_succ]
  omega
theorem found_perm (k : Nat) : ∀ (st : List (List F × Nat)) (T out : List F), Parts st T → costR st ≤ k → (foundLoop k st out).Perm (out ++ T) := by
  induction k with
  | zero =>
    intro st T out hp hc
    cases hp with
    | nil => rw [List.append_nil]; exact .refl _
    | cons h ha hb hl hr =>
      rename_i b _ _
      exfalso
      simp only [costR] at hc
      have : 2 ^ 1 ≤ 2 ^ (33 - b) := Nat.pow_le_pow_right (by omega) (by omega)
      omega
  | succ k ih =>
    intro st T out hp hc
    cases hp with
    | nil => rw [List.append_nil]; exact .refl _
    | @cons p R b st T h ha hb hl hr =>
      simp only [costR] at hc
      have hd := dlen_of_trim p h.trim
      have hpl := h.len
      have hpos : 2 ^ 1 ≤ 2 ^ (33 - b) := Nat.pow_le_pow_right (by omega) (by omega)
      rw [foundLoop]
      by_cases h2 : dlen p = 2
      · rw [if_pos h2]
        have hR1 : R.length = 1 := by omega
        obtain ⟨x, rfl⟩ := List.length_eq_one_iff.1 hR1
        obtain ⟨c, d, rfl⟩ : ∃ c d, p = [c, d] := by
          match p, hpl with
          | [c, d], _ => exact ⟨c, d, rfl⟩
        have hlast : d = 1#32 := h.last
        have hx := h.root x (List.mem_singleton.2 rfl)
        have hx' : c ^^^ mul x (d ^^^ mul x 0#32) = 0#32 := hx
        rw [hlast, mul_zero, xor_zero, mul_one, xor_eq_zero] at hx'
        have := ih st T (out ++ [c]) hr (by omega)
        rw [hx'] at this
        show (foundLoop k st (out ++ [c])).Perm _
        rw [hx']
        simpa using this
      · rw [if_neg h2]
        by_cases h3 : 2 < dlen p ∧ b < 32
        · rw [if_pos h3]
          have hp0 : trim p ≠ [] := by rw [h.trim]; exact h.ne
          have h1s := common_splits p R (tracesP p (1#32 <<< b)) h hl
          have h2s := other_splits p R (commonP p (tracesP p (1#32 <<< b))) _ h hl h1s
          have hfs := filter_split (fun x => decide (ev (tracesP p (1#32 <<< b)) x = 0#32)) R
          have hfp := filter_perm (fun x => decide (ev (tracesP p (1#32 <<< b)) x = 0#32)) R
          have hev : ∀ x ∈ R, ev (tracesP p (1#32 <<< b)) x = tr (mul (1#32 <<< b) x) := fun x hx => ev_traces p _ x hp0 (h.root x hx)
          have ha1 : Agree (R.filter fun x => decide (ev (tracesP p (1#32 <<< b)) x = 0#32)) (b + 1) := by
            intro x hx y hy n hn
            rw [List.mem_filter, decide_eq_true_iff] at hx hy
            by_cases e : n = b
            · subst e
              rw [← hev x hx.1, ← hev y hy.1, hx.2, hy.2]
            · exact ha x hx.1 y hy.1 n (by omega)
          have ha2 : Agree (R.filter fun x => !decide (ev (tracesP p (1#32 <<< b)) x = 0#32)) (b + 1) := by
            intro x hx y hy n hn
            rw [List.mem_filter] at hx hy
            have hx2 : ev (tracesP p (1#32 <<< b)) x ≠ 0#32 := by simpa using hx.2
            have hy2 : ev (tracesP p (1#32 <<< b)) y ≠ 0#32 := by simpa using hy.2
            by_cases e : n = b
            · subst e
              rw [hev x hx.1] at hx2
              rw [hev y hy.1] at hy2
              rcases tr_01 (mul (1#32 <<< n) x) with e1 | e1
              · exact absurd e1 hx2
              · rcases tr_01 (mul (1#32 <<< n) y) with e2 | e2
                · exact absurd e2 hy2
                · rw [e1, e2]
            · exact ha x hx.1 y hy.1 n (by omega)
          have hpw := pow33 b h3.2
          have hP : Parts ((partTwo p b, b + 1) :: (partOne p b, b + 1) :: st) _ := .cons h2s ha2 (by omega) (by omega) (.cons h1s ha1 (by omega) (by omega) hr)
          refine (ih _ _ out hP (by simp only [costR]; omega)).trans ?_
          refine List.Perm.append_left _ ?_
          rw [← List.append_assoc]
          exact List.Perm.append_right _ hfp
        · rw [if_neg h3]
          have hR0 : R.length ≤ 1 := by
            by_cases hb32 : b < 32
            · omega
            · have : b = 32 := by omega
              subst this
              exact ha.one h.nd
          have hR : R = [] := by
            apply List.eq_nil_of_length_eq_zero
            omega
          subst hR
          exact ih st T out hr (by omega)
theorem found_splits (p R : List F) (h : Splits p R) (hl : R.length ≤ 1000000) : foundP p = sortF R := by
  have hP : Parts [(p, 0)] (R ++ []) := .cons h (fun _ _ _ _ n hn => by omega) (by omega) hl .nil
  have hf := found_perm 8589934592 [(p, 0)] _ [] hP (by simp [costR])
  rw [List.append_nil, List.nil_append] at hf
  unfold foundP
  exact sort_unique ((sortF_perm _).trans hf) (sortF_sorted _)
end Goss
