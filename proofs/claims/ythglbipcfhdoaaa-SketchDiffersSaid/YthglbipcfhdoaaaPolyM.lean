/- The plain maths of polynomials over GF(2^32), as lists: values, division, roots. No program. -/
import Derived.Test.YthglbipcfhdoaaaField
namespace Goss

/-- The element at a place; 0 behind the end. -/
def co (a : List F) (i : Nat) : F := (a[i]?).getD 0#32
/-- The value at x. -/
def ev : List F → F → F
  | [], _ => 0#32
  | c :: r, x => c ^^^ mul x (ev r x)
def xp (x : F) : Nat → F
  | 0 => 1#32
  | n + 1 => mul x (xp x n)

theorem tlen_succ' (a : List F) (n : Nat) : tlen a (n + 1) = if a[n]? = some 0#32 then tlen a n else n + 1 := rfl
theorem tlen_le' (a : List F) (n : Nat) : tlen a n ≤ n := by
  induction n with
  | zero => exact Nat.le_refl _
  | succ n ih => rw [tlen_succ']; split <;> omega
theorem tlen_zero (a : List F) (n i : Nat) (h1 : tlen a n ≤ i) (h2 : i < n) : a[i]? = some 0#32 := by
  induction n with
  | zero => omega
  | succ n ih =>
    rw [tlen_succ'] at h1
    split at h1
    · rename_i h
      by_cases e : i = n
      · subst e; exact h
      · exact ih h1 (by omega)
    · omega
theorem tlen_last (a : List F) (n : Nat) (h : 0 < tlen a n) : a[tlen a n - 1]? ≠ some 0#32 := by
  induction n with
  | zero => exact absurd h (by simp [tlen])
  | succ n ih =>
    rw [tlen_succ'] at h ⊢
    split
    · rename_i h1; rw [if_pos h1] at h; exact ih h
    · rename_i h1; simpa using h1
theorem tlen_small (a : List F) (n k : Nat) (hk : k ≤ n) (h : ∀ i, k ≤ i → i < n → a[i]? = some 0#32) : tlen a n ≤ k := by
  induction n with
  | zero => exact Nat.zero_le _
  | succ n ih =>
    by_cases e : k = n + 1
    · rw [e]; exact tlen_le' _ _
    · rw [tlen_succ', if_pos (h n (by omega) (by omega))]
      exact ih (by omega) fun i h1 h2 => h i h1 (by omega)
theorem trim_length' (a : List F) : (trim a).length = tlen a a.length := by
  unfold trim
  rw [List.length_take]
  have := tlen_le' a a.length
  omega
theorem co_trim (a : List F) (i : Nat) : co (trim a) i = co a i := by
  unfold co trim
  rw [List.getElem?_take]
  split
  · rfl
  · rename_i h
    by_cases h2 : i < a.length
    · rw [tlen_zero a a.length i (by omega) h2]; rfl
    · rw [List.getElem?_eq_none (by omega)]
theorem trim_last (a : List F) (h : trim a ≠ []) : co (trim a) ((trim a).length - 1) ≠ 0#32 := by
  have hl : 0 < (trim a).length := by
    rcases Nat.eq_zero_or_pos (trim a).length with h0 | h0
    · exact absurd (List.eq_nil_of_length_eq_zero h0) h
    · exact h0
  rw [co_trim]
  rw [trim_length'] at hl ⊢
  have h1 := tlen_last a a.length hl
  have h2 := tlen_le' a a.length
  unfold co
  rw [List.getElem?_eq_getElem (by omega)] at h1 ⊢
  simpa using h1
/-- All noughts: nothing is left. -/
theorem trim_nil (a : List F) (h : ∀ i, co a i = 0#32) : trim a = [] := by
  have : tlen a a.length ≤ 0 := tlen_small a a.length 0 (Nat.zero_le _) fun i _ hi => by
    have := h i
    unfold co at this
    rw [List.getElem?_eq_getElem hi] at this ⊢
    simpa using this
  apply List.eq_nil_of_length_eq_zero
  rw [trim_length']
  omega
theorem trim_len_le (a : List F) (k : Nat) (h : ∀ i, k ≤ i → co a i = 0#32) : (trim a).length ≤ k := by
  rw [trim_length']
  by_cases hk : k ≤ a.length
  · exact tlen_small a a.length k hk fun i h1 h2 => by
      have := h i h1
      unfold co at this
      rw [List.getElem?_eq_getElem h2] at this ⊢
      simpa using this
  · have := tlen_le' a a.length
    omega
theorem trim_of_last (a : List F) (h : a = [] ∨ co a (a.length - 1) ≠ 0#32) : trim a = a := by
  rcases h with rfl | h
  · rfl
  · unfold trim
    rcases Nat.eq_zero_or_pos a.length with h0 | h0
    · have : a = [] := List.eq_nil_of_length_eq_zero h0
      subst this; rfl
    · obtain ⟨n, hn⟩ : ∃ n, a.length = n + 1 := ⟨a.length - 1, by omega⟩
      have h1 : a[n]? ≠ some 0#32 := by
        intro e
        apply h
        unfold co
        rw [hn, Nat.add_sub_cancel, e]; rfl
      rw [hn, tlen_succ', if_neg h1, ← hn, List.take_length]

theorem ev_zero (a : List F) (h : ∀ i, co a i = 0#32) (x : F) : ev a x = 0#32 := by
  induction a with
  | nil => rfl
  | cons c r ih =>
    have h0 : c = 0#32 := h 0
    have hr : ∀ i, co r i = 0#32 := fun i => h (i + 1)
    rw [ev, ih hr, mul_zero, xor_zero, h0]
/-- Values are those of equal elements. -/
theorem ev_congr (a b : List F) (h : ∀ i, co a i = co b i) (x : F) : ev a x = ev b x := by
  induction a generalizing b with
  | nil =>
    have : ∀ i, co b i = 0#32 := fun i => (h i).symm
    rw [ev_zero b this]; rfl
  | cons c r ih =>
    cases b with
    | nil => rw [ev_zero (c :: r) (fun i => h i)]; rfl
    | cons d s =>
      have h0 : c = d := h 0
      rw [ev, ev, h0, ih s fun i => h (i + 1)]
theorem ev_trim (a : List F) (x : F) : ev (trim a) x = ev a x := ev_congr _ _ (co_trim a) x

theorem co_set (a : List F) (i j : Nat) (c : F) (hi : i < a.length) : co (a.set i c) j = if i = j then c else co a j := by
  unfold co
  rw [List.getElem?_set]
  split
  · rename_i h; subst h; simp
  · rfl
theorem co_addAt (a : List F) (i j : Nat) (c : F) (hi : i < a.length) : co (addAt a i c) j = if i = j then co a j ^^^ c else co a j := by
  unfold addAt
  rw [co_set a i j _ hi]
  split
  · rename_i h; subst h; rfl
  · rfl
theorem addAt_len (a : List F) (i : Nat) (c : F) : (addAt a i c).length = a.length := List.length_set
theorem putP_len (b : List F) : ∀ (a : List F) (k : F) (up : Nat), (putP a b k up).length = a.length := by
  induction b with
  | nil => intro a k up; rfl
  | cons c b ih => intro a k up; rw [putP, ih, addAt_len]
theorem co_putP (b : List F) : ∀ (a : List F) (k : F) (up j : Nat), up + b.length ≤ a.length → co (putP a b k up) j = co a j ^^^ (if up ≤ j then mul (co b (j - up)) k else 0#32) := by
  induction b with
  | nil =>
    intro a k up j _
    have : ∀ i, co ([] : List F) i = 0#32 := fun _ => rfl
    rw [putP, this, zero_mul, ite_self, xor_zero]
  | cons c b ih =>
    intro a k up j h
    simp only [List.length_cons] at h
    rw [putP, ih _ _ _ _ (by rw [addAt_len]; omega), co_addAt a up j _ (by omega)]
    by_cases h1 : up = j
    · subst h1
      rw [if_pos rfl, if_neg (by omega), if_pos (Nat.le_refl _), Nat.sub_self, xor_zero]
      rfl
    · rw [if_neg h1]
      by_cases h2 : up + 1 ≤ j
      · rw [if_pos h2, if_pos (by omega)]
        have : j - up = (j - (up + 1)) + 1 := by omega
        rw [this]
        rfl
      · rw [if_neg h2, if_neg (by omega)]
theorem ev_addAt (a : List F) (i : Nat) (c x : F) (hi : i < a.length) : ev (addAt a i c) x = ev a x ^^^ mul c (xp x i) := by
  induction a generalizing i with
  | nil => exact absurd hi (by simp)
  | cons d r ih =>
    cases i with
    | zero =>
      show (d ^^^ c) ^^^ mul x (ev r x) = _
      rw [ev, xp, mul_one]; ac_rfl
    | succ i =>
      have : addAt (d :: r) (i + 1) c = d :: addAt r i c := rfl
      rw [this, ev, ih i (by simpa using hi), mul_xor, ev, xp, mul_left_comm]
      ac_rfl
theorem ev_putP (b : List F) : ∀ (a : List F) (k : F) (up : Nat) (x : F), up + b.length ≤ a.length → ev (putP a b k up) x = ev a x ^^^ mul (mul k (xp x up)) (ev b x) := by
  induction b with
  | nil => intro a k up x _; rw [putP, ev, mul_zero, xor_zero]
  | cons c b ih =>
    intro a k up x h
    simp only [List.length_cons] at h
    rw [putP, ih _ _ _ _ (by rw [addAt_len]; omega), ev_addAt _ _ _ _ (by omega), ev, mul_xor, xp]
    have h1 : mul (mul c k) (xp x up) = mul (mul k (xp x up)) c := by ac_rfl
    have h2 : mul (mul k (mul x (xp x up))) (ev b x) = mul (mul k (xp x up)) (mul x (ev b x)) := by ac_rfl
    rw [h1, h2]
    ac_rfl

/-- What the loop of a division comes to. b's last element times iv is 1. -/
theorem divLoop_spec (b : List F) (iv : F) (hb : 0 < b.length) (hiv : mul (co b (b.length - 1)) iv = 1#32) (n : Nat) : ∀ (r q : List F), n + b.length ≤ r.length + 1 → n ≤ q.length →
    (∀ j, n + b.length - 1 ≤ j → co r j = 0#32) →
    (∀ j, b.length - 1 ≤ j → co (divLoop b iv n r q).2 j = 0#32) ∧
    (∀ j, n ≤ j → co (divLoop b iv n r q).1 j = co q j) ∧
    (divLoop b iv n r q).1.length = q.length ∧ (divLoop b iv n r q).2.length = r.length ∧
    (∀ x, ev (divLoop b iv n r q).2 x = ev r x ^^^ mul (ev ((divLoop b iv n r q).1.take n) x) (ev b x)) := by
  induction n with
  | zero =>
    intro r q _ _ hz
    refine ⟨fun j hj => hz j (by omega), fun j _ => rfl, rfl, rfl, fun x => ?_⟩
    rw [List.take_zero, ev, zero_mul, xor_zero]; rfl
  | succ n ih =>
    intro r q hr hq hz
    rw [divLoop]
    have hcc : (r[n + b.length - 1]?).getD 0#32 = co r (n + b.length - 1) := rfl
    rw [hcc]
    generalize hc : mul (co r (n + b.length - 1)) iv = c
    have hl : (putP r b c n).length = r.length := putP_len _ _ _ _
    have hz' : ∀ j, n + b.length - 1 ≤ j → co (putP r b c n) j = 0#32 := by
      intro j hj
      rw [co_putP _ _ _ _ _ (by omega), if_pos (by omega)]
      by_cases e : j = n + b.length - 1
      · subst e
        have : n + b.length - 1 - n = b.length - 1 := by omega
        rw [this, ← hc]
        have : mul (co b (b.length - 1)) (mul (co r (n + b.length - 1)) iv) = co r (n + b.length - 1) := by
          rw [mul_left_comm, hiv, mul_one]
        rw [this, xor_self]
      · rw [hz j (by omega), zero_xor]
        have : co b (j - n) = 0#32 := by
          unfold co
          rw [List.getElem?_eq_none (by omega)]; rfl
        rw [this, zero_mul]
    obtain ⟨h1, h2, h3, h4, h5⟩ := ih (putP r b c n) (q.set n c) (by omega) (by rw [List.length_set]; omega) hz'
    refine ⟨h1, fun j hj => ?_, by rw [h3, List.length_set], by rw [h4, hl], fun x => ?_⟩
    · rw [h2 j (by omega), co_set _ _ _ _ (by omega), if_neg (by omega)]
    · rw [h5, ev_putP _ _ _ _ _ (by omega)]
      generalize hQ : (divLoop b iv n (putP r b c n) (q.set n c)).1 = Q at *
      rw [List.length_set] at h3
      have hn : n < Q.length := by omega
      have hq' : Q[n] = c := by
        have := h2 n (Nat.le_refl _)
        rw [co_set _ _ _ _ (by omega), if_pos rfl] at this
        unfold co at this
        rw [List.getElem?_eq_getElem hn] at this
        exact this
      rw [List.take_succ_eq_append_getElem hn, hq']
      have hap : ∀ (l : List F) (m : Nat), l.length = m → ev (l ++ [c]) x = ev l x ^^^ mul c (xp x m) := by
        intro l
        induction l with
        | nil => rintro m rfl; show c ^^^ mul x 0#32 = 0#32 ^^^ mul c 1#32; rw [mul_zero, mul_one, xor_zero, zero_xor]
        | cons d l ihl =>
          rintro m rfl
          show d ^^^ mul x (ev (l ++ [c]) x) = (d ^^^ mul x (ev l x)) ^^^ mul c (mul x (xp x l.length))
          rw [ihl _ rfl, mul_xor, mul_left_comm c x]
          ac_rfl
      rw [hap _ n (by rw [List.length_take]; omega), xor_mul]
      ac_rfl

/-- A DIVISION: the dividend is quotient times divisor, and rest; the rest is shorter than the divisor. -/
theorem divT_spec (a b : List F) (hb : b ≠ []) (hlast : co b (b.length - 1) ≠ 0#32) :
    (divT a b).2.length < b.length ∧ (divT a b).2.length ≤ a.length ∧ (∀ x, ev a x = mul (ev (divT a b).1 x) (ev b x) ^^^ ev (divT a b).2 x) ∧
    ((divT a b).1.length + b.length ≤ (trim a).length + 1 ∨ (divT a b).1 = []) ∧ trim (divT a b).2 = (divT a b).2 := by
  have hbl : 0 < b.length := by
    rcases Nat.eq_zero_or_pos b.length with h0 | h0
    · exact absurd (List.eq_nil_of_length_eq_zero h0) hb
    · exact h0
  have hta := trim_length' a
  have htl := tlen_le' a a.length
  have hiv : mul (co b (b.length - 1)) (inv (co b (b.length - 1))) = 1#32 := mul_inv _ hlast
  have hco : (b[b.length - 1]?).getD 0#32 = co b (b.length - 1) := rfl
  unfold divT
  dsimp only
  rw [hco]
  by_cases hge : b.length ≤ (trim a).length + 1
  · have hs := divLoop_spec b (inv (co b (b.length - 1))) hbl hiv ((trim a).length + 1 - b.length) (trim a) (List.replicate ((trim a).length + 1 - b.length) 0#32) (by omega) (by simp)
      (fun j hj => by unfold co; rw [List.getElem?_eq_none (by omega)]; rfl)
    generalize divLoop b (inv (co b (b.length - 1))) ((trim a).length + 1 - b.length) (trim a) (List.replicate ((trim a).length + 1 - b.length) 0#32) = D at *
    obtain ⟨h1, h2, h3, h4, h5⟩ := hs
    rw [List.length_replicate] at h3
    have hr := trim_len_le D.2 (b.length - 1) h1
    have hq : (trim D.1).length ≤ D.1.length := by rw [trim_length']; exact tlen_le' _ _
    refine ⟨by omega, ?_, fun x => ?_, .inl (by omega), ?_⟩
    · have : (trim D.2).length ≤ D.2.length := by rw [trim_length']; exact tlen_le' _ _
      omega
    · rw [ev_trim, ev_trim, h5 x, ev_trim]
      rw [List.take_of_length_le (by omega)]
      rw [xor_comm (ev a x), xor_xor_self]
    · apply trim_of_last
      by_cases e : trim D.2 = []
      · exact .inl e
      · exact .inr (trim_last _ e)
  · have hn : (trim a).length + 1 - b.length = 0 := by omega
    rw [hn]
    show (trim (trim a)).length < _ ∧ (trim (trim a)).length ≤ _ ∧ (∀ x, ev a x = mul (ev (trim []) x) (ev b x) ^^^ ev (trim (trim a)) x) ∧ ((trim []).length + _ ≤ _ ∨ trim [] = []) ∧ trim (trim (trim a)) = trim (trim a)
    have htt : trim (trim a) = trim a := by
      apply trim_of_last
      by_cases e : trim a = []
      · exact .inl e
      · exact .inr (trim_last _ e)
    rw [htt, htt]
    refine ⟨by omega, by omega, fun x => ?_, .inr rfl, rfl⟩
    show ev a x = mul (ev [] x) (ev b x) ^^^ ev (trim a) x
    rw [ev, zero_mul, zero_xor, ev_trim]

theorem ext_co (a b : List F) (hl : a.length = b.length) (h : ∀ i, co a i = co b i) : a = b := by
  apply List.ext_getElem hl
  intro i h1 h2
  have := h i
  unfold co at this
  rw [List.getElem?_eq_getElem h1, List.getElem?_eq_getElem h2] at this
  exact this
theorem xorL_nil (a : List F) : xorL [] a = a := by cases a <;> rfl
theorem xorL_nil_right (a : List F) : xorL a [] = a := by cases a <;> rfl
theorem xorL_len (a : List F) : ∀ b, (xorL a b).length = max a.length b.length := by
  induction a with
  | nil => intro b; rw [xorL_nil]; simp
  | cons x a ih =>
    intro b
    cases b with
    | nil => rw [xorL]; simp
    | cons y b => rw [xorL]; simp [ih]
theorem co_xorL (a : List F) : ∀ b i, co (xorL a b) i = co a i ^^^ co b i := by
  induction a with
  | nil => intro b i; rw [xorL_nil]; exact (zero_xor _).symm
  | cons x a ih =>
    intro b i
    cases b with
    | nil => rw [xorL]; exact (xor_zero _).symm
    | cons y b =>
      rw [xorL]
      cases i with
      | zero => rfl
      | succ i => exact ih b i
theorem co_pad (a : List F) (n i : Nat) : co (a ++ List.replicate n 0#32) i = co a i := by
  unfold co
  rw [List.getElem?_append]
  split
  · rfl
  · rename_i h
    rw [List.getElem?_eq_none (l := a) (by omega), List.getElem?_replicate]
    split <;> rfl
/-- Elements put to a list that is long enough: the sum of both. -/
theorem putP_one (a b : List F) : putP (a ++ List.replicate (b.length - a.length) 0#32) b 1#32 0 = xorL a b := by
  have hl : (a ++ List.replicate (b.length - a.length) 0#32).length = max a.length b.length := by simp; omega
  apply ext_co
  · rw [putP_len, hl, xorL_len]
  · intro i
    rw [co_putP _ _ _ _ _ (by rw [hl]; omega), co_pad, if_pos (Nat.zero_le _), Nat.sub_zero, mul_one, co_xorL]
theorem ev_xorL (a : List F) : ∀ b x, ev (xorL a b) x = ev a x ^^^ ev b x := by
  induction a with
  | nil => intro b x; rw [xorL_nil]; exact (zero_xor _).symm
  | cons c a ih =>
    intro b x
    cases b with
    | nil => rw [xorL]; exact (xor_zero _).symm
    | cons d b => rw [xorL, ev, ev, ev, ih, mul_xor]; ac_rfl
theorem ev_addP (a b : List F) (x : F) : ev (addP a b) x = ev a x ^^^ ev b x := by unfold addP; rw [ev_trim, ev_xorL]

theorem spread_len (a : List F) : (spread a).length = 2 * a.length - 1 := by
  induction a with
  | nil => rfl
  | cons x r ih =>
    cases r with
    | nil => rfl
    | cons y r => rw [spread]; simp only [List.length_cons] at ih ⊢; omega
theorem co_spread (a : List F) : ∀ i, co (spread a) i = if i % 2 = 0 then sq (co a (i / 2)) else 0#32 := by
  have h0 : sq 0#32 = 0#32 := zero_mul _
  induction a with
  | nil => intro i; show 0#32 = if _ then sq 0#32 else _; rw [h0, ite_self]
  | cons x r ih =>
    intro i
    cases r with
    | nil =>
      rcases i with _ | i
      · rfl
      · show (none : Option F).getD 0#32 = _
        split
        · rename_i h
          obtain ⟨j, hj⟩ : ∃ j, (i + 1) / 2 = j + 1 := ⟨(i + 1) / 2 - 1, by omega⟩
          rw [hj]
          show 0#32 = sq 0#32
          rw [h0]
        · rfl
    | cons y r =>
      rcases i with _ | _ | i
      · rfl
      · rfl
      · show co (spread (y :: r)) i = _
        rw [ih i]
        have h1 : (i + 1 + 1) % 2 = i % 2 := by omega
        have h2 : (i + 1 + 1) / 2 = i / 2 + 1 := by omega
        rw [h1, h2]; rfl
theorem ev_spread (a : List F) (x : F) : ev (spread a) (x) = (fun y => ev (a.map sq) y) (sq x) := by
  show _ = ev (a.map sq) (sq x)
  induction a with
  | nil => rfl
  | cons c r ih =>
    cases r with
    | nil => show _ ^^^ mul x 0#32 = _ ^^^ mul (sq x) 0#32; rw [mul_zero, mul_zero]
    | cons y r =>
      rw [spread, ev, ev, ih]
      show _ = sq c ^^^ mul (sq x) (ev ((y :: r).map sq) (sq x))
      rw [zero_xor]
      congr 1
      rw [← mul_assoc]; rfl
theorem ev_sq (a : List F) (x : F) : ev (a.map sq) (sq x) = sq (ev a x) := by
  induction a with
  | nil => exact (zero_mul _).symm
  | cons c r ih =>
    show sq c ^^^ mul (sq x) (ev (r.map sq) (sq x)) = sq (c ^^^ mul x (ev r x))
    rw [ih, sq_xor, sq_mul]
/-- The square's value. -/
theorem ev_spread_sq (a : List F) (x : F) : ev (spread a) x = sq (ev a x) := by rw [ev_spread]; exact ev_sq a x
end Goss
