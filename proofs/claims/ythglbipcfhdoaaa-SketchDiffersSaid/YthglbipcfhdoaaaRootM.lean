/- Polynomials over GF(2^32) as lists: how many roots there can be, what splits, common divisors. No program. -/
import Derived.Test.YthglbipcfhdoaaaTab
namespace Goss

/-- The quotient by z - x. -/
def sdiv : List F → F → List F
  | [], _ => []
  | [_], _ => []
  | _ :: d :: r, x => ev (d :: r) x :: sdiv (d :: r) x
theorem sdiv_len (a : List F) (x : F) : (sdiv a x).length = a.length - 1 := by
  induction a with
  | nil => rfl
  | cons c r ih =>
    cases r with
    | nil => rfl
    | cons d r => rw [sdiv, List.length_cons, ih]; simp
theorem ev_sdiv (a : List F) (x z : F) : ev a z = ev a x ^^^ mul (z ^^^ x) (ev (sdiv a x) z) := by
  induction a with
  | nil => show 0#32 = 0#32 ^^^ mul _ 0#32; rw [mul_zero, xor_zero]
  | cons c r ih =>
    cases r with
    | nil => show c ^^^ mul z 0#32 = (c ^^^ mul x 0#32) ^^^ mul _ 0#32; simp only [mul_zero, xor_zero]
    | cons d r =>
      rw [sdiv]
      show c ^^^ mul z (ev (d :: r) z) = (c ^^^ mul x (ev (d :: r) x)) ^^^ mul (z ^^^ x) (ev (d :: r) x ^^^ mul z (ev (sdiv (d :: r) x) z))
      rw [ih]
      generalize ev (d :: r) x = A
      generalize ev (sdiv (d :: r) x) z = B
      simp only [mul_xor, xor_mul]
      rw [mul_left_comm z x B]
      simp only [xor_left_comm, xor_comm, xor_xor_self]
theorem sdiv_zero (a : List F) (x : F) : ev a x = 0#32 → (∀ c ∈ sdiv a x, c = 0#32) → ∀ c ∈ a, c = 0#32 := by
  induction a with
  | nil => intro _ _ c hc; cases hc
  | cons c r ih =>
    cases r with
    | nil =>
      intro h _ e he
      have : c ^^^ mul x 0#32 = 0#32 := h
      rw [mul_zero, xor_zero] at this
      rw [List.mem_singleton] at he
      rw [he, this]
    | cons d r =>
      intro h hs
      rw [sdiv] at hs
      have h1 : ev (d :: r) x = 0#32 := hs _ (List.mem_cons_self ..)
      have h2 := ih h1 fun e he => hs e (List.mem_cons_of_mem _ he)
      have h3 : c ^^^ mul x (ev (d :: r) x) = 0#32 := h
      rw [h1, mul_zero, xor_zero] at h3
      intro e he
      rcases List.mem_cons.1 he with rfl | he
      · exact h3
      · exact h2 e he
/-- More roots than the degree: all is nought. -/
theorem roots_bound (n : Nat) : ∀ (a S : List F), a.length ≤ n → n ≤ S.length → S.Nodup → (∀ x ∈ S, ev a x = 0#32) → ∀ c ∈ a, c = 0#32 := by
  induction n with
  | zero =>
    intro a S h _ _ _ c hc
    rw [List.eq_nil_of_length_eq_zero (Nat.le_zero.1 h)] at hc
    cases hc
  | succ n ih =>
    intro a S ha hS hnd h
    cases S with
    | nil => simp at hS
    | cons x S =>
      have hx := h x (List.mem_cons_self ..)
      rw [List.nodup_cons] at hnd
      refine sdiv_zero a x hx (ih (sdiv a x) S (by rw [sdiv_len]; omega) (by simpa using hS) hnd.2 ?_)
      intro y hy
      have h1 := h y (List.mem_cons_of_mem _ hy)
      rw [ev_sdiv a x y, hx, zero_xor] at h1
      rcases mul_eq_zero h1 with h2 | h2
      · rw [xor_eq_zero] at h2
        rw [h2] at hy
        exact absurd hy hnd.1
      · exact h2
theorem co_all_zero (a : List F) (h : ∀ c ∈ a, c = 0#32) (i : Nat) : co a i = 0#32 := by
  unfold co
  cases e : a[i]? with
  | none => rfl
  | some c => exact h c (List.mem_of_getElem? e)
/-- So many elements. -/
def someF (n : Nat) : List F := (List.range n).map (BitVec.ofNat 32)
theorem someF_len (n : Nat) : (someF n).length = n := by simp [someF]
theorem someF_nodup (n : Nat) (h : n ≤ 4294967296) : (someF n).Nodup := by
  unfold someF List.Nodup
  rw [List.pairwise_map]
  refine List.Pairwise.imp_of_mem ?_ (List.nodup_range (n := n))
  intro i j hi hj hne e
  rw [List.mem_range] at hi hj
  have := congrArg BitVec.toNat e
  rw [BitVec.toNat_ofNat, BitVec.toNat_ofNat, Nat.mod_eq_of_lt (by omega), Nat.mod_eq_of_lt (by omega)] at this
  exact hne this
/-- What is nought everywhere has only noughts. -/
theorem ev_zero_all (a : List F) (hl : a.length ≤ 4294967296) (h : ∀ z, ev a z = 0#32) (i : Nat) : co a i = 0#32 :=
  co_all_zero a (roots_bound a.length a (someF a.length) (Nat.le_refl _) (by rw [someF_len]; exact Nat.le_refl _) (someF_nodup _ hl) fun x _ => h x) i

/-- A monic polynomial that has as many roots as its degree: these. -/
structure Splits (p R : List F) : Prop where
  len : p.length = R.length + 1
  last : co p R.length = 1#32
  nd : R.Nodup
  root : ∀ x ∈ R, ev p x = 0#32
theorem Splits.trim {p R : List F} (h : Splits p R) : trim p = p := by
  apply trim_of_last
  right
  rw [h.len, Nat.add_sub_cancel, h.last]
  decide
theorem Splits.ne {p R : List F} (h : Splits p R) : p ≠ [] := by
  intro e
  have := h.len
  rw [e] at this
  simp at this
theorem Splits.mem {p R : List F} (h : Splits p R) {x : F} (hx : ev p x = 0#32) : x ∈ R := by
  by_cases hm : x ∈ R
  · exact hm
  · have := co_all_zero p (roots_bound p.length p (x :: R) (Nat.le_refl _) (by rw [h.len]; simp) (List.nodup_cons.2 ⟨hm, h.nd⟩) (by
      intro y hy
      rcases List.mem_cons.1 hy with rfl | hy
      · exact hx
      · exact h.root y hy)) R.length
    rw [h.last] at this
    exact absurd this (by decide)
theorem Splits.some {p R : List F} (h : Splits p R) (hl : R.length ≤ 1000000) : ¬ ∀ z, ev p z = 0#32 := by
  intro hz
  have := ev_zero_all p (by rw [h.len]; omega) hz R.length
  rw [h.last] at this
  exact absurd this (by decide)

theorem ev_map_mul (b : List F) (k z : F) : ev (b.map (mul k)) z = mul k (ev b z) := by
  induction b with
  | nil => exact (mul_zero k).symm
  | cons c r ih =>
    show mul k c ^^^ mul z (ev (r.map (mul k)) z) = mul k (c ^^^ mul z (ev r z))
    rw [ih, mul_xor, mul_left_comm]
/-- A product. -/
def mulL : List F → List F → List F
  | [], _ => []
  | c :: r, b => xorL (b.map (mul c)) (0#32 :: mulL r b)
theorem ev_mulL (a b : List F) (z : F) : ev (mulL a b) z = mul (ev a z) (ev b z) := by
  induction a with
  | nil => exact (zero_mul _).symm
  | cons c r ih =>
    rw [mulL, ev_xorL, ev_map_mul]
    show mul c (ev b z) ^^^ (0#32 ^^^ mul z (ev (mulL r b) z)) = mul (c ^^^ mul z (ev r z)) (ev b z)
    rw [ih, zero_xor, xor_mul, mul_assoc]
theorem mulL_len (a b : List F) (hb : b ≠ []) : (mulL a b).length ≤ a.length + b.length - 1 := by
  have hbl : 0 < b.length := List.length_pos_iff.2 hb
  induction a with
  | nil => exact Nat.zero_le _
  | cons c r ih =>
    rw [mulL, xorL_len, List.length_map]
    simp only [List.length_cons]
    cases r with
    | nil => simp [mulL]; omega
    | cons d r => simp only [List.length_cons] at ih ⊢; omega

/-- g is a divisor of a. -/
def Dvd (g a : List F) : Prop := ∃ h : List F, (h = [] ∨ h.length + g.length ≤ a.length + 1) ∧ ∀ z, ev a z = mul (ev h z) (ev g z)
theorem Dvd.refl (a : List F) : Dvd a a := ⟨[1#32], .inr (by simp; omega), fun z => by
  show ev a z = mul (1#32 ^^^ mul z 0#32) (ev a z)
  rw [mul_zero, xor_zero, one_mul]⟩
theorem Dvd.nil (g : List F) : Dvd g [] := ⟨[], .inl rfl, fun _ => (zero_mul _).symm⟩
theorem euclid_dvd (k : Nat) : ∀ a b : List F, trim b = b → b.length < k → Dvd (euclid k a b) a ∧ Dvd (euclid k a b) b ∧ ∀ x, ev a x = 0#32 → ev b x = 0#32 → ev (euclid k a b) x = 0#32 := by
  induction k with
  | zero => intro a b _ h; omega
  | succ k ih =>
    intro a b hb hk
    rw [euclid]
    split
    · rename_i h
      subst h
      exact ⟨.refl a, .nil a, fun x h _ => h⟩
    · rename_i h
      have hs := divT_spec a b h (last_of_trim b h hb)
      have hta := trim_le' a
      generalize divT a b = D at *
      obtain ⟨s1, s2, s3, s4, s5⟩ := hs
      obtain ⟨⟨hb', h1, h2⟩, ⟨hr', h3, h4⟩, h5⟩ := ih b D.2 s5 (by omega)
      generalize euclid k b D.2 = g at *
      refine ⟨?_, ⟨hb', h1, h2⟩, fun x hax hbx => h5 x hbx ?_⟩
      · by_cases hq : D.1 = [] ∨ hb' = []
        · refine ⟨hr', ?_, fun z => ?_⟩
          · rcases h3 with h3 | h3
            · exact .inl h3
            · exact .inr (by omega)
          · rw [s3 z, h4 z]
            rcases hq with hq | hq
            · rw [hq]; show mul 0#32 _ ^^^ _ = _; rw [zero_mul, zero_xor]
            · rw [h2 z, hq]; show mul _ (mul 0#32 _) ^^^ _ = _; rw [zero_mul, mul_zero, zero_xor]
        · rw [not_or] at hq
          have hml := mulL_len D.1 hb' hq.2
          refine ⟨xorL (mulL D.1 hb') hr', .inr ?_, fun z => ?_⟩
          · rw [xorL_len]
            rcases s4 with s4 | s4
            · rcases h1 with h1 | h1
              · exact absurd h1 hq.2
              · have hqp : 0 < hb'.length := List.length_pos_iff.2 hq.2
                rcases h3 with h3 | h3
                · rw [h3]
                  simp only [List.length_nil]
                  omega
                · omega
            · exact absurd s4 hq.1
          · rw [ev_xorL, ev_mulL, s3 z, h2 z, h4 z, xor_mul, mul_assoc]
      · have := s3 x
        rw [hax, hbx, mul_zero, zero_xor] at this
        exact this.symm

theorem monicP_spec (a : List F) (h : a ≠ []) (ht : trim a = a) : (monicP a).length = a.length ∧ co (monicP a) (a.length - 1) = 1#32 ∧ ∀ z, ev (monicP a) z = mul (inv (co a (a.length - 1))) (ev a z) := by
  have hl := last_of_trim a h ht
  have hc : co (monicP a) (a.length - 1) = 1#32 := by
    unfold monicP
    rw [ht, if_neg h, co_scaleP]
    show mul (inv (co a (a.length - 1))) _ = _
    rw [mul_comm, mul_inv _ hl]
  refine ⟨?_, hc, fun z => ?_⟩
  · have h1 := monicP_len a
    have : a.length - 1 < (monicP a).length := by
      apply Classical.byContradiction
      intro hn
      unfold co at hc
      rw [List.getElem?_eq_none (by omega)] at hc
      exact absurd hc (by decide)
    omega
  · unfold monicP
    rw [ht, if_neg h, ev_scaleP]
    rfl

theorem filter_split (q : F → Bool) (R : List F) : (R.filter q).length + (R.filter fun x => !q x).length = R.length := by
  induction R with
  | nil => rfl
  | cons x r ih =>
    rw [List.filter_cons, List.filter_cons]
    cases q x <;> simp <;> omega

/-- What a polynomial that splits has in common with another one: the roots that both have. -/
theorem common_splits (p R t : List F) (h : Splits p R) (hR : R.length ≤ 1000000) : Splits (commonP p t) (R.filter fun x => decide (ev t x = 0#32)) := by
  have hnz := euclid_nonzero ((trim t).length + 1) (trim p) (trim t) (by rw [h.trim]; exact h.ne) (trim_trim' p) (trim_trim' t)
  have hd := euclid_dvd ((trim t).length + 1) (trim p) (trim t) (trim_trim' t) (by omega)
  unfold commonP
  generalize euclid ((trim t).length + 1) (trim p) (trim t) = g at *
  rw [h.trim] at hd
  obtain ⟨⟨hp, h1, h2⟩, ⟨ht, h3, h4⟩, h5⟩ := hd
  have hm := monicP_spec g hnz.1 hnz.2
  have hgl := last_of_trim g hnz.1 hnz.2
  have hgp : 0 < g.length := List.length_pos_iff.2 hnz.1
  have hfs := filter_split (fun x => decide (ev t x = 0#32)) R
  have e0 : ∀ x ∈ R.filter fun x => decide (ev t x = 0#32), ev g x = 0#32 := by
    intro x hx
    rw [List.mem_filter, decide_eq_true_iff] at hx
    exact h5 x (h.root x hx.1) (by rw [ev_trim]; exact hx.2)
  have e1 : ∀ x ∈ R.filter fun x => !decide (ev t x = 0#32), ev hp x = 0#32 := by
    intro x hx
    rw [List.mem_filter] at hx
    have hx1 := hx.1
    have hx2 : ev t x ≠ 0#32 := by simpa using hx.2
    have h6 := h2 x
    rw [h.root x hx1] at h6
    rcases mul_eq_zero h6.symm with h7 | h7
    · exact h7
    · exfalso; apply hx2
      rw [← ev_trim, h4 x, h7, mul_zero]
  have n0 : (R.filter fun x => decide (ev t x = 0#32)).Nodup := h.nd.filter _
  have n1 : (R.filter fun x => !decide (ev t x = 0#32)).Nodup := h.nd.filter _
  have l0 : (R.filter fun x => decide (ev t x = 0#32)).length < g.length := by
    apply Classical.byContradiction
    intro hn
    have := co_all_zero g (roots_bound g.length g _ (Nat.le_refl _) (by omega) n0 e0) (g.length - 1)
    exact hgl this
  have l1 : (R.filter fun x => !decide (ev t x = 0#32)).length < hp.length := by
    apply Classical.byContradiction
    intro hn
    have hz := roots_bound hp.length hp _ (Nat.le_refl _) (by omega) n1 e1
    apply h.some hR
    intro z
    rw [h2 z, ev_zero hp (co_all_zero hp hz), zero_mul]
  have hpl := h.len
  have hg1 : g.length = (R.filter fun x => decide (ev t x = 0#32)).length + 1 := by
    rcases h1 with h1 | h1
    · rw [h1] at l1; simp at l1
    · omega
  refine ⟨by rw [hm.1, hg1], ?_, n0, fun x hx => by rw [hm.2.2, e0 x hx, mul_zero]⟩
  have := hm.2.1
  rw [hg1, Nat.add_sub_cancel] at this
  exact this

/-- The other part: the roots that the first one lacks. -/
theorem other_splits (p R g : List F) (q : F → Bool) (h : Splits p R) (hR : R.length ≤ 1000000) (hg : Splits g (R.filter q)) : Splits (monicP (divT p (trim g)).1) (R.filter fun x => !q x) := by
  have hgn := hg.ne
  have hgt := hg.trim
  rw [hgt]
  have hs := divT_spec p g hgn (last_of_trim g hgn hgt)
  have hQt : trim (divT p g).1 = (divT p g).1 := by unfold divT; exact trim_trim' _
  generalize divT p g = D at *
  obtain ⟨s1, s2, s3, s4, s5⟩ := hs
  have hfs := filter_split q R
  have hpl := h.len
  have hgl := hg.len
  rw [h.trim] at s4
  have hr : ∀ z, ev D.2 z = 0#32 := by
    have hz := roots_bound D.2.length D.2 (R.filter q) (Nat.le_refl _) (by omega) (h.nd.filter _) (by
      intro x hx
      have h6 := s3 x
      rw [hg.root x hx, h.root x (List.mem_filter.1 hx).1, mul_zero, zero_xor] at h6
      exact h6.symm)
    intro z
    exact ev_zero _ (co_all_zero _ hz) z
  have e1 : ∀ x ∈ R.filter fun x => !q x, ev D.1 x = 0#32 := by
    intro x hx
    rw [List.mem_filter] at hx
    have h6 := s3 x
    rw [h.root x hx.1, hr, xor_zero] at h6
    rcases mul_eq_zero h6.symm with h7 | h7
    · exact h7
    · have h8 := hg.mem h7
      rw [List.mem_filter] at h8
      have h9 := hx.2
      rw [h8.2] at h9
      exact absurd h9 (by decide)
  have n1 : (R.filter fun x => !q x).Nodup := h.nd.filter _
  have l1 : (R.filter fun x => !q x).length < D.1.length := by
    apply Classical.byContradiction
    intro hn
    have hz := roots_bound D.1.length D.1 _ (Nat.le_refl _) (by omega) n1 e1
    apply h.some hR
    intro z
    rw [s3 z, hr, xor_zero, ev_zero D.1 (co_all_zero D.1 hz), zero_mul]
  have hDn : D.1 ≠ [] := by intro e; rw [e] at l1; simp at l1
  have hm := monicP_spec D.1 hDn hQt
  have hD1 : D.1.length = (R.filter fun x => !q x).length + 1 := by
    rcases s4 with s4 | s4
    · omega
    · exact absurd s4 hDn
  refine ⟨by rw [hm.1, hD1], ?_, n1, fun x hx => by rw [hm.2.2, e1 x hx, mul_zero]⟩
  have := hm.2.1
  rw [hD1, Nat.add_sub_cancel] at this
  exact this
end Goss
