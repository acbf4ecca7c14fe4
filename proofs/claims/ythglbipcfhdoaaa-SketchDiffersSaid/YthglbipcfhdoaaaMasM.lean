/- Sums of field elements; powers; what a set's sums of powers say of a recurrence. No program. -/
import Derived.Test.YthglbipcfhdoaaaFoundM
import Derived.Test.YthglbipcfhdoaaaPutM
import Derived.Test.YthglbipcfhdoaaaSkDef
namespace Goss
/-- A sum over 0 .. n-1. -/
def sm (f : Nat → F) : Nat → F
  | 0 => 0#32
  | n + 1 => sm f n ^^^ f n
theorem sm_congr {f g : Nat → F} (n : Nat) (h : ∀ i, i < n → f i = g i) : sm f n = sm g n := by
  induction n with
  | zero => rfl
  | succ n ih => rw [sm, sm, ih fun i hi => h i (by omega), h n (by omega)]
theorem sm_zero (f : Nat → F) (n : Nat) (h : ∀ i, i < n → f i = 0#32) : sm f n = 0#32 := by
  induction n with
  | zero => rfl
  | succ n ih => rw [sm, ih fun i hi => h i (by omega), h n (by omega), xor_self]
theorem sm_xor (f g : Nat → F) (n : Nat) : sm (fun i => f i ^^^ g i) n = sm f n ^^^ sm g n := by
  induction n with
  | zero => exact (xor_self _).symm
  | succ n ih => rw [sm, sm, sm, ih]; ac_rfl
theorem sm_mul (a : F) (f : Nat → F) (n : Nat) : mul a (sm f n) = sm (fun i => mul a (f i)) n := by
  induction n with
  | zero => exact mul_zero a
  | succ n ih => rw [sm, sm, mul_xor, ih]
theorem sm_swap (f : Nat → Nat → F) (n m : Nat) : sm (fun i => sm (fun j => f i j) m) n = sm (fun j => sm (fun i => f i j) n) m := by
  induction n with
  | zero => exact (sm_zero _ m fun i _ => rfl).symm
  | succ n ih => rw [sm, ih, ← sm_xor]; rfl
theorem sm_cut (f : Nat → F) {m n : Nat} (hm : m ≤ n) (h : ∀ i, m ≤ i → i < n → f i = 0#32) : sm f n = sm f m := by
  induction n with
  | zero => rw [Nat.le_zero.1 hm]
  | succ n ih =>
    by_cases e : m = n + 1
    · rw [e]
    · rw [sm, ih (by omega) (fun i h1 h2 => h i h1 (by omega)), h n (by omega) (by omega), xor_zero]
theorem sm_shift (f : Nat → F) (g n : Nat) : sm (fun k => if g ≤ k then f (k - g) else 0#32) (n + g) = sm f n := by
  induction n with
  | zero =>
    rw [Nat.zero_add]
    exact sm_zero _ _ fun i hi => if_neg (by omega)
  | succ n ih =>
    rw [show n + 1 + g = (n + g) + 1 from by omega, sm, ih, if_pos (by omega), Nat.add_sub_cancel]
    rfl
theorem sm_head (f : Nat → F) (n : Nat) : sm f (n + 1) = f 0 ^^^ sm (fun i => f (i + 1)) n := by
  induction n with
  | zero => show 0#32 ^^^ f 0 = f 0 ^^^ 0#32; rw [zero_xor, xor_zero]
  | succ n ih => rw [sm, ih, sm, xor_assoc]
theorem sm_rev (f : Nat → F) (n : Nat) : sm (fun i => f (n - i)) (n + 1) = sm f (n + 1) := by
  induction n generalizing f with
  | zero => rfl
  | succ n ih =>
    rw [sm_head]
    have e : sm (fun i => f (n + 1 - (i + 1))) (n + 1) = sm f (n + 1) := by
      rw [← ih f]
      apply sm_congr
      intro i _
      congr 1
      omega
    rw [e, xor_comm]
    rfl
/-- A sum over a list. -/
def lsm (S : List F) (f : F → F) : F := S.foldr (fun x r => f x ^^^ r) 0#32
theorem lsm_cons (x : F) (S : List F) (f : F → F) : lsm (x :: S) f = f x ^^^ lsm S f := rfl
theorem lsm_congr {S : List F} {f g : F → F} (h : ∀ x ∈ S, f x = g x) : lsm S f = lsm S g := by
  induction S with
  | nil => rfl
  | cons x r ih => rw [lsm_cons, lsm_cons, h x (List.mem_cons_self ..), ih fun y hy => h y (List.mem_cons_of_mem _ hy)]
theorem lsm_zero {S : List F} {f : F → F} (h : ∀ x ∈ S, f x = 0#32) : lsm S f = 0#32 := by
  induction S with
  | nil => rfl
  | cons x r ih => rw [lsm_cons, h x (List.mem_cons_self ..), ih fun y hy => h y (List.mem_cons_of_mem _ hy), xor_self]
theorem lsm_mul (a : F) (S : List F) (f : F → F) : mul a (lsm S f) = lsm S fun x => mul a (f x) := by
  induction S with
  | nil => exact mul_zero a
  | cons x r ih => rw [lsm_cons, lsm_cons, mul_xor, ih]
theorem lsm_xor (S : List F) (f g : F → F) : lsm S (fun x => f x ^^^ g x) = lsm S f ^^^ lsm S g := by
  induction S with
  | nil => exact (xor_self _).symm
  | cons x r ih => rw [lsm_cons, lsm_cons, lsm_cons, ih]; ac_rfl
theorem lsm_sm (S : List F) (f : F → Nat → F) (n : Nat) : lsm S (fun x => sm (f x) n) = sm (fun i => lsm S fun x => f x i) n := by
  induction S with
  | nil => exact (sm_zero _ n fun i _ => rfl).symm
  | cons x r ih => rw [lsm_cons, ih, ← sm_xor]; rfl
theorem lsm_sq (S : List F) (f : F → F) : sq (lsm S f) = lsm S fun x => sq (f x) := by
  induction S with
  | nil => exact zero_mul _
  | cons x r ih => rw [lsm_cons, lsm_cons, sq_xor, ih]
theorem foldl_lsm (f : F → F) (l : List F) : l.foldl (fun x id => x ^^^ f id) 0#32 = lsm l f := by
  induction l with
  | nil => rfl
  | cons y r ih => rw [List.foldl_cons, foldl_xor, ih, zero_xor]; rfl
theorem sumAt_eq (S : List F) (k : Nat) : sumAt S k = lsm S fun x => pw x (2 * k + 1) := foldl_lsm _ _
theorem lsm_perm {S T : List F} (h : S.Perm T) (f : F → F) : lsm S f = lsm T f := by
  induction h with
  | nil => rfl
  | cons x _ ih => rw [lsm_cons, lsm_cons, ih]
  | swap x y r => rw [lsm_cons, lsm_cons, lsm_cons, lsm_cons, xor_left_comm]
  | trans _ _ h1 h2 => rw [h1, h2]
theorem newS_perm {S T : List F} (h : S.Perm T) (c : Nat) : newS c S = newS c T := by
  rw [newS_eq, newS_eq]
  congr 1
  funext k
  rw [sumAt_eq, sumAt_eq, lsm_perm h]

theorem pw_succ' (x : F) (n : Nat) : pw x (n + 1) = mul x (pw x n) := by rw [pw, mul_comm]
theorem ev_sm (a : List F) (x : F) : ev a x = sm (fun i => mul (co a i) (pw x i)) a.length := by
  induction a with
  | nil => rfl
  | cons c r ih =>
    rw [List.length_cons, sm_head]
    show c ^^^ mul x (ev r x) = mul c 1#32 ^^^ _
    rw [mul_one, ih, sm_mul]
    congr 1
    apply sm_congr
    intro i _
    show mul x (mul (co r i) (pw x i)) = mul (co r i) (pw x (i + 1))
    rw [pw_succ', mul_left_comm]
theorem pw_ne (x : F) (h : x ≠ 0#32) (n : Nat) : pw x n ≠ 0#32 := by
  induction n with
  | zero => show 1#32 ≠ 0#32; decide
  | succ n ih =>
    intro e
    rw [pw] at e
    rcases mul_eq_zero e with e | e
    · exact ih e
    · exact h e

/-- The monic polynomial of roots. -/
def prodR : List F → List F
  | [] => [1#32]
  | x :: r => xorL (0#32 :: prodR r) ((prodR r).map (mul x))
theorem prodR_len (R : List F) : (prodR R).length = R.length + 1 := by
  induction R with
  | nil => rfl
  | cons x r ih => rw [prodR, xorL_len, List.length_map]; simp only [List.length_cons]; omega
theorem co_map_mul' (b : List F) (k : F) (i : Nat) : co (b.map (mul k)) i = mul k (co b i) := by
  unfold co
  rw [List.getElem?_map]
  cases b[i]? with
  | none => exact (mul_zero k).symm
  | some x => rfl
theorem co_ge (a : List F) (i : Nat) (h : a.length ≤ i) : co a i = 0#32 := by
  unfold co
  rw [List.getElem?_eq_none h]; rfl
theorem prodR_last (R : List F) : co (prodR R) R.length = 1#32 := by
  induction R with
  | nil => rfl
  | cons x r ih =>
    rw [prodR, co_xorL, co_map_mul', List.length_cons, co_ge (prodR r) (r.length + 1) (by rw [prodR_len]; omega), mul_zero, xor_zero]
    exact ih
theorem ev_prodR_cons (x : F) (r : List F) (z : F) : ev (prodR (x :: r)) z = mul (z ^^^ x) (ev (prodR r) z) := by
  rw [prodR, ev_xorL, ev_map_mul]
  show 0#32 ^^^ mul z (ev (prodR r) z) ^^^ _ = _
  rw [zero_xor, xor_mul]
theorem prodR_root (R : List F) : ∀ x ∈ R, ev (prodR R) x = 0#32 := by
  induction R with
  | nil => intro x hx; cases hx
  | cons y r ih =>
    intro x hx
    rw [ev_prodR_cons]
    rcases List.mem_cons.1 hx with rfl | hx
    · rw [xor_self, zero_mul]
    · rw [ih x hx, mul_zero]
theorem prodR_splits (R : List F) (h : R.Nodup) : Splits (prodR R) R := ⟨prodR_len R, prodR_last R, h, prodR_root R⟩

/-- Powers of unlike elements are apart. -/
theorem vander (S : List F) (hn : S.Nodup) (h0 : 0#32 ∉ S) (w : F → F) (h : ∀ m, m < S.length → lsm S (fun x => mul (pw x (m + 1)) (w x)) = 0#32) : ∀ y ∈ S, w y = 0#32 := by
  have key : ∀ q : List F, q.length ≤ S.length → lsm S (fun x => mul (mul x (ev q x)) (w x)) = 0#32 := by
    intro q hq
    have e : lsm S (fun x => mul (mul x (ev q x)) (w x)) = lsm S fun x => sm (fun i => mul (co q i) (mul (pw x (i + 1)) (w x))) q.length := by
      apply lsm_congr
      intro x _
      rw [ev_sm, mul_comm, sm_mul, sm_mul]
      apply sm_congr
      intro i _
      rw [pw_succ']
      ac_rfl
    rw [e, lsm_sm]
    apply sm_zero
    intro i hi
    rw [← lsm_mul, h i (by omega), mul_zero]
  intro y hy
  obtain ⟨A, B, rfl⟩ := List.append_of_mem hy
  have hp : (A ++ y :: B).Perm (y :: (A ++ B)) := List.perm_middle
  have hn' := hp.nodup_iff.1 hn
  rw [List.nodup_cons] at hn'
  have hk := key (prodR (A ++ B)) (by rw [prodR_len]; simp; omega)
  rw [lsm_perm hp, lsm_cons, lsm_zero (S := A ++ B) (fun x hx => by rw [prodR_root _ x hx, mul_zero, zero_mul]), xor_zero] at hk
  rcases mul_eq_zero hk with e | e
  · exfalso
    rcases mul_eq_zero e with e | e
    · exact h0 (by rw [← e]; simp)
    · exact hn'.1 ((prodR_splits _ hn'.2).mem e)
  · exact e

/-- What a recurrence is off at a place. -/
def conv (c s : List F) (i : Nat) : F := sm (fun k => mul (co c k) (co s (i - k))) (i + 1)
theorem offTo_sm (c s : List F) (i n : Nat) : offTo c s i n = sm (fun k => mul (co c k) (co s (i - k))) n := by
  induction n with
  | zero => rfl
  | succ n ih => rw [offTo, ih, sm]; rfl
theorem offP_conv (c s : List F) (i : Nat) : offP c s i = conv c s i := by
  unfold offP conv
  rw [offTo_sm]
  symm
  refine sm_cut _ (by omega) fun k h1 h2 => ?_
  rw [co_ge c k (by omega), zero_mul]
theorem conv_len (c s : List F) (L i : Nat) (hL : ∀ k, L < k → co c k = 0#32) (hi : L ≤ i) : conv c s i = sm (fun k => mul (co c k) (co s (i - k))) (L + 1) :=
  sm_cut _ (by omega) fun k h1 _ => by rw [hL k (by omega), zero_mul]

/-- All powers' sums. -/
def PowSums (S s : List F) (N : Nat) : Prop := ∀ i, i < N → co s i = lsm S fun x => pw x (i + 1)
theorem pw_dbl (x : F) (n : Nat) : sq (pw x n) = pw x (2 * n) := by
  unfold sq
  rw [← pw_add]
  congr 1
  omega
theorem powersTo_sums (S : List F) (c : Nat) : ∀ n, n ≤ 2 * c → ∀ i, i < n → co (powersTo (newS c S) n) i = lsm S fun x => pw x (i + 1) := by
  intro n
  induction n with
  | zero => intro _ i hi; omega
  | succ n ih =>
    intro hn i hi
    have hl := powersTo_length (newS c S) n
    by_cases e : i < n
    · have := ih (by omega) i e
      unfold co at this ⊢
      rw [powersTo, List.getElem?_append_left (by omega)]
      exact this
    · obtain rfl : i = n := by omega
      have h1 : co (powersTo (newS c S) (i + 1)) i = if i % 2 = 0 then co (newS c S) (i / 2) else sq (co (powersTo (newS c S) i) (i / 2)) := by
        unfold co
        rw [powersTo, List.getElem?_append_right (by omega), hl, Nat.sub_self]
        rfl
      rw [h1]
      split
      · rename_i h2
        have h3 : co (newS c S) (i / 2) = sumAt S (i / 2) := by
          unfold co
          rw [newS_eq, List.getElem?_map, List.getElem?_range (by omega)]; rfl
        rw [h3, sumAt_eq]
        apply lsm_congr
        intro x _
        congr 1
        omega
      · rename_i h2
        rw [ih (by omega) (i / 2) (by omega), lsm_sq]
        apply lsm_congr
        intro x _
        rw [pw_dbl]
        congr 1
        omega
theorem powers_sums (S : List F) (c : Nat) : PowSums S (powersP (newS c S)) (2 * c) := by
  intro i hi
  unfold powersP
  rw [newS_length]
  exact powersTo_sums S c (2 * c) (Nat.le_refl _) i hi

theorem co_reverse (a : List F) (L i : Nat) (hl : a.length = L + 1) (hi : i ≤ L) : co a.reverse i = co a (L - i) := by
  unfold co
  rw [List.getElem?_reverse (by omega)]
  congr 2
  omega
/-- A recurrence at a set's sums of powers: the turned polynomial's values. -/
theorem conv_rev (S s c : List F) (N L i : Nat) (hs : PowSums S s N) (hl : c.length = L + 1) (h1 : L ≤ i) (h2 : i < N) : conv c s i = lsm S fun x => mul (pw x (i - L + 1)) (ev c.reverse x) := by
  rw [conv_len c s L i (fun k hk => co_ge c k (by omega)) h1]
  have e : (fun x => mul (pw x (i - L + 1)) (ev c.reverse x)) = fun x => sm (fun k => mul (co c k) (pw x (i - k + 1))) (L + 1) := by
    funext x
    rw [ev_sm, List.length_reverse, hl, sm_mul, ← sm_rev]
    apply sm_congr
    intro k hk
    rw [co_reverse c L (L - k) hl (by omega), mul_left_comm, ← pw_add]
    congr 2
    · congr 1; omega
    · omega
  rw [e, lsm_sm]
  apply sm_congr
  intro k hk
  rw [hs (i - k) (by omega), lsm_mul]
end Goss
/- The shortest recurrence (Berlekamp and Massey); what a sketch says. No program. -/
namespace Goss

theorem mended_len (now old : List F) (gap : Nat) : gap + old.length ≤ (now ++ List.replicate (gap + old.length - now.length) 0#32).length := by
  rw [List.length_append, List.length_replicate]
  omega
theorem co_mended (now old : List F) (gap : Nat) (was d : F) (k : Nat) : co (mendedP now old gap was d) k = co now k ^^^ (if gap ≤ k then mul (co old (k - gap)) (mul d (inv was)) else 0#32) := by
  unfold mendedP
  rw [co_putP _ _ _ _ _ (mended_len now old gap), co_pad]
theorem conv_mended (now old s : List F) (gap : Nat) (was d : F) (i : Nat) : conv (mendedP now old gap was d) s i = conv now s i ^^^ (if gap ≤ i then mul (conv old s (i - gap)) (mul d (inv was)) else 0#32) := by
  unfold conv
  have e : sm (fun k => mul (co (mendedP now old gap was d) k) (co s (i - k))) (i + 1) =
      sm (fun k => mul (co now k) (co s (i - k)) ^^^ (if gap ≤ k then mul (co old (k - gap)) (mul (co s (i - k)) (mul d (inv was))) else 0#32)) (i + 1) := by
    apply sm_congr
    intro k _
    rw [co_mended, xor_mul]
    congr 1
    split
    · rw [mul_assoc, mul_comm (mul d (inv was))]
    · rw [zero_mul]
  rw [e, sm_xor]
  congr 1
  split
  · rename_i h
    obtain ⟨j, rfl⟩ : ∃ j, i = j + gap := ⟨i - gap, by omega⟩
    rw [Nat.add_sub_cancel, mul_comm (sm (fun k => mul (co old k) (co s (j - k))) (j + 1)), sm_mul]
    have e2 := sm_shift (fun k => mul (mul d (inv was)) (mul (co old k) (co s (j - k)))) gap (j + 1)
    rw [show j + 1 + gap = j + gap + 1 from by omega] at e2
    rw [← e2]
    apply sm_congr
    intro k hk
    split
    · rw [show j + gap - k = j - (k - gap) from by omega]
      ac_rfl
    · rfl
  · rename_i h
    exact sm_zero _ _ fun k hk => if_neg (by omega)

/-- If a recurrence goes up to n and not at n, another one that does is long. -/
theorem long_other (c D s : List F) (L v n : Nat) (hc : ∀ k, L < k → co c k = 0#32) (hD : ∀ k, v < k → co D k = 0#32) (hD0 : co D 0 = 1#32)
    (h1 : ∀ i, L ≤ i → i < n → conv c s i = 0#32) (h2 : ∀ i, v ≤ i → i ≤ n → conv D s i = 0#32) (hne : conv c s n ≠ 0#32) : n + 1 ≤ L + v := by
  apply Classical.byContradiction
  intro hlt
  apply hne
  have e1 : sm (fun j => mul (co c j) (conv D s (n - j))) (L + 1) = 0#32 := by
    apply sm_zero
    intro j hj
    rw [h2 (n - j) (by omega) (by omega), mul_zero]
  have e2 : sm (fun j => mul (co c j) (conv D s (n - j))) (L + 1) = sm (fun k => mul (co D k) (conv c s (n - k))) (v + 1) := by
    have a1 : sm (fun j => mul (co c j) (conv D s (n - j))) (L + 1) = sm (fun j => sm (fun k => mul (co c j) (mul (co D k) (co s (n - j - k)))) (v + 1)) (L + 1) := by
      apply sm_congr
      intro j hj
      rw [conv_len D s v (n - j) hD (by omega), sm_mul]
    have a2 : sm (fun k => mul (co D k) (conv c s (n - k))) (v + 1) = sm (fun k => sm (fun j => mul (co D k) (mul (co c j) (co s (n - k - j)))) (L + 1)) (v + 1) := by
      apply sm_congr
      intro k hk
      rw [conv_len c s L (n - k) hc (by omega), sm_mul]
    rw [a1, a2, sm_swap]
    apply sm_congr
    intro k _
    apply sm_congr
    intro j _
    rw [mul_left_comm, show n - j - k = n - k - j from by omega]
  rw [e1, sm_head, hD0, one_mul] at e2
  rw [sm_zero (fun i => mul (co D (i + 1)) (conv c s (n - (i + 1)))) v (fun i hi => by rw [h1 (n - (i + 1)) (by omega) (by omega), mul_zero]), xor_zero] at e2
  exact e2.symm

/-- The state after n elements. -/
structure MInv (s : List F) (n v : Nat) (x : MSt) : Prop where
  one : co x.now 0 = 1#32
  short : ∀ k, x.len < k → co x.now k = 0#32
  goes : ∀ i, x.len ≤ i → i < n → conv x.now s i = 0#32
  le : x.len ≤ v
  old : ∃ LB, (∀ k, LB < k → co x.old k = 0#32) ∧ x.was ≠ 0#32 ∧
    ((x.gap = n ∧ LB = 0 ∧ x.len = 0) ∨ ∃ r, r + 1 + x.gap = n ∧ x.len + LB = r + 1 ∧ LB ≤ r ∧ (∀ i, LB ≤ i → i < r → conv x.old s i = 0#32) ∧ conv x.old s r = x.was)
theorem MInv.step {s D : List F} {n v : Nat} {x : MSt} (h : MInv s n v x) (hD : ∀ k, v < k → co D k = 0#32) (hD0 : co D 0 = 1#32) (h2 : ∀ i, v ≤ i → i ≤ n → conv D s i = 0#32) : MInv s (n + 1) v (takeP x s n) := by
  obtain ⟨one, short, goes, le, LB, hLB, hwas, hold⟩ := h
  unfold takeP
  rw [offP_conv]
  by_cases hd : conv x.now s n = 0#32
  · rw [if_pos hd]
    refine ⟨one, short, fun i hi1 hi2 => ?_, le, LB, hLB, hwas, ?_⟩
    · by_cases e : i = n
      · rw [e]; exact hd
      · exact goes i hi1 (by omega)
    · rcases hold with ⟨g1, g2, g3⟩ | ⟨r, r1, r2, r3, r4, r5⟩
      · exact .inl ⟨by show x.gap + 1 = _; omega, g2, g3⟩
      · exact .inr ⟨r, by show r + 1 + (x.gap + 1) = _; omega, r2, r3, r4, r5⟩
  · rw [if_neg hd]
    have hmul : mul x.was (mul (conv x.now s n) (inv x.was)) = conv x.now s n := by rw [mul_left_comm, mul_inv _ hwas, mul_one]
    have hone : co (mendedP x.now x.old (x.gap + 1) x.was (conv x.now s n)) 0 = 1#32 := by
      rw [co_mended, if_neg (by omega), xor_zero, one]
    by_cases hA : 2 * x.len ≤ n
    · rw [if_pos hA]
      have hlo := long_other x.now D s x.len v n short hD hD0 goes h2 hd
      refine ⟨hone, fun k hk => ?_, fun i hi1 hi2 => ?_, by show n + 1 - x.len ≤ v; omega, x.len, short, hd, .inr ⟨n, by show n + 1 + 0 = _; omega, by show n + 1 - x.len + x.len = _; omega, by omega, goes, rfl⟩⟩
      · have hk' : n + 1 - x.len < k := hk
        rw [co_mended, short k (by omega), zero_xor]
        split
        · rw [hLB (k - (x.gap + 1)) (by rcases hold with ⟨g1, g2, g3⟩ | ⟨r, r1, r2, r3, r4, r5⟩ <;> omega), zero_mul]
        · rfl
      · have hi1' : n + 1 - x.len ≤ i := hi1
        rw [conv_mended]
        rcases hold with ⟨g1, g2, g3⟩ | ⟨r, r1, r2, r3, r4, r5⟩
        · omega
        · rw [if_pos (by omega)]
          by_cases e : i = n
          · subst e
            rw [show i - (x.gap + 1) = r from by omega, r5, hmul, xor_self]
          · rw [goes i (by omega) (by omega), r4 (i - (x.gap + 1)) (by omega) (by omega), zero_mul, xor_self]
    · rw [if_neg hA]
      rcases hold with ⟨g1, g2, g3⟩ | ⟨r, r1, r2, r3, r4, r5⟩
      · omega
      · refine ⟨hone, fun k hk => ?_, fun i hi1 hi2 => ?_, le, LB, hLB, hwas, .inr ⟨r, by show r + 1 + (x.gap + 1) = _; omega, r2, r3, r4, r5⟩⟩
        · have hk' : x.len < k := hk
          rw [co_mended, short k hk', zero_xor]
          split
          · rw [hLB (k - (x.gap + 1)) (by omega), zero_mul]
          · rfl
        · have hi1' : x.len ≤ i := hi1
          rw [conv_mended, if_pos (by omega)]
          by_cases e : i = n
          · subst e
            rw [show i - (x.gap + 1) = r from by omega, r5, hmul, xor_self]
          · rw [goes i hi1' (by omega), r4 (i - (x.gap + 1)) (by omega) (by omega), zero_mul, xor_self]
theorem run_inv {s D : List F} {v : Nat} (hD : ∀ k, v < k → co D k = 0#32) (hD0 : co D 0 = 1#32) (N : Nat) (h2 : ∀ i, v ≤ i → i < N → conv D s i = 0#32) : ∀ n, n ≤ N → MInv s n v (runTo s n) := by
  intro n
  induction n with
  | zero =>
    intro _
    refine ⟨rfl, fun k hk => co_ge _ _ hk, fun i _ hi => by omega, Nat.zero_le _, 0, fun k hk => co_ge _ _ hk, by show 1#32 ≠ 0#32; decide, .inl ⟨rfl, rfl, rfl⟩⟩
  | succ n ih =>
    intro hn
    exact (ih (by omega)).step hD hD0 fun i h3 h4 => h2 i h3 (by omega)

theorem co_shortest (s : List F) (h : ∀ k, (runTo s s.length).len < k → co (runTo s s.length).now k = 0#32) (k : Nat) : co (shortestP s) k = co (runTo s s.length).now k := by
  unfold shortestP
  have e : co (((runTo s s.length).now ++ List.replicate ((runTo s s.length).len + 1) 0#32).take ((runTo s s.length).len + 1)) k = if k < (runTo s s.length).len + 1 then co (runTo s s.length).now k else 0#32 := by
    rw [← co_pad (runTo s s.length).now ((runTo s s.length).len + 1) k]
    unfold co
    rw [List.getElem?_take]
    split <;> rfl
  rw [e]
  split
  · rfl
  · exact (h k (by omega)).symm
theorem shortest_len (s : List F) : (shortestP s).length = (runTo s s.length).len + 1 := by
  unfold shortestP
  rw [List.length_take, List.length_append, List.length_replicate]
  omega

/-- THE RULE of a set's sums of powers, turned, splits: its roots are the set. -/
theorem rule_splits (S : List F) (c : Nat) (hn : S.Nodup) (h0 : 0#32 ∉ S) (hc : S.length ≤ c) : Splits (shortestP (powersP (newS c S))).reverse S := by
  have hps := powers_sums S c
  have hlen : (powersP (newS c S)).length = 2 * c := by unfold powersP; rw [powersTo_length, newS_length]
  generalize hs : powersP (newS c S) = s at *
  have hsp := prodR_splits S hn
  have hDl : (prodR S).reverse.length = S.length + 1 := by rw [List.length_reverse, prodR_len]
  have hinv := run_inv (s := s) (D := (prodR S).reverse) (v := S.length) (fun k hk => co_ge _ _ (by omega)) (by rw [co_reverse _ S.length 0 (prodR_len S) (Nat.zero_le _), Nat.sub_zero, prodR_last]) (2 * c) (fun i h1 h2 => by
    rw [conv_rev S s _ (2 * c) S.length i hps hDl h1 h2, List.reverse_reverse]
    exact lsm_zero fun x hx => by rw [prodR_root S x hx, mul_zero]) (2 * c) (Nat.le_refl _)
  rw [← hlen] at hinv
  have hco := co_shortest s hinv.short
  have hsl := shortest_len s
  have hle := hinv.le
  have hgoes := hinv.goes
  have hone := hinv.one
  clear hinv
  generalize runTo s s.length = x at *
  have hgo : ∀ i, x.len ≤ i → i < s.length → conv (shortestP s) s i = 0#32 := by
    intro i h1 h2
    rw [← hgoes i h1 h2]
    unfold conv
    apply sm_congr
    intro k _
    rw [hco]
  have hroot : ∀ y ∈ S, ev (shortestP s).reverse y = 0#32 := by
    apply vander S hn h0
    intro m hm
    have := conv_rev S s (shortestP s) (2 * c) x.len (x.len + m) hps hsl (by omega) (by omega)
    rw [hgo (x.len + m) (by omega) (by omega), show x.len + m - x.len = m from by omega] at this
    exact this.symm
  have hlast : co (shortestP s).reverse x.len = 1#32 := by
    rw [co_reverse _ x.len x.len hsl (Nat.le_refl _), Nat.sub_self, hco, hone]
  have hL : x.len = S.length := by
    apply Nat.le_antisymm hle
    apply Nat.le_of_not_lt
    intro hlt
    have := co_all_zero _ (roots_bound _ (shortestP s).reverse S (Nat.le_refl _) (by rw [List.length_reverse, hsl]; omega) hn hroot) x.len
    rw [hlast] at this
    exact absurd this (by decide)
  rw [hL] at hsl hlast
  exact ⟨by rw [List.length_reverse, hsl], hlast, hn, hroot⟩

/-- A sketch of at most as many ids as it has sums says just these. -/
theorem decode_complete (S : List F) (c : Nat) (hn : S.Nodup) (h0 : 0#32 ∉ S) (hc : S.length ≤ c) (h40 : c ≤ 40) : decodeP (newS c S) = some (sortF S) := by
  have hr := rule_splits S c hn h0 hc
  have hfound : foundP (linearP (shortestP (powersP (newS c S))).reverse) = sortF S := by
    rw [linear_splits _ _ hr]
    exact found_splits _ _ hr (by omega)
  have hdl := dlen_of_trim _ hr.trim
  have hrl := hr.len
  have hl : (shortestP (powersP (newS c S))).length = S.length + 1 := by rw [← List.length_reverse]; exact hrl
  unfold decodeP
  rw [newS_length, hfound, hdl, hrl, hl, if_neg (by omega), if_pos ⟨⟨by omega, by omega⟩, by rw [sortF_length]⟩]
  have h01 : ¬ 0#32 ∈ sortF S := fun e => h0 ((sortF_perm S).mem_iff.1 e)
  rw [if_neg h01, if_pos (newS_perm (sortF_perm S) c)]
end Goss
/- What two sets differ in, plain: rising ids, each that is there an odd number of times; their sums. No program. -/
namespace Goss
/-- An id in, or out again. -/
def toggle (x : F) : List F → List F
  | [] => [x]
  | y :: r => if y.toNat < x.toNat then y :: toggle x r else if y = x then r else x :: y :: r
def sortedP (l : List F) : List F := l.foldl (fun out x => toggle x out) []
abbrev Rising (l : List F) : Prop := l.Pairwise fun a b => a.toNat < b.toNat
theorem toggle_mem (x : F) (l : List F) : ∀ z ∈ toggle x l, z = x ∨ z ∈ l := by
  induction l with
  | nil => intro z hz; simp [toggle] at hz; exact .inl hz
  | cons y r ih =>
    intro z hz
    rw [toggle] at hz
    split at hz
    · rcases List.mem_cons.1 hz with h | h
      · exact .inr (by rw [h]; exact List.mem_cons_self ..)
      · rcases ih z h with h | h
        · exact .inl h
        · exact .inr (List.mem_cons_of_mem _ h)
    · split at hz
      · exact .inr (List.mem_cons_of_mem _ hz)
      · rcases List.mem_cons.1 hz with h | h
        · exact .inl h
        · exact .inr h
theorem toggle_rising (x : F) (l : List F) (h : Rising l) : Rising (toggle x l) := by
  induction l with
  | nil => simp [toggle]
  | cons y r ih =>
    have h' := List.pairwise_cons.1 h
    rw [toggle]
    split
    · rename_i hlt
      refine List.pairwise_cons.2 ⟨fun z hz => ?_, ih h'.2⟩
      rcases toggle_mem x r z hz with hz | hz
      · rw [hz]; exact hlt
      · exact h'.1 z hz
    · split
      · exact h'.2
      · rename_i hge hne
        have hlt : x.toNat < y.toNat := by
          rcases Nat.lt_trichotomy x.toNat y.toNat with h1 | h1 | h1
          · exact h1
          · exact absurd (BitVec.eq_of_toNat_eq h1).symm hne
          · exact absurd h1 hge
        refine List.pairwise_cons.2 ⟨fun z hz => ?_, h⟩
        rcases List.mem_cons.1 hz with hz | hz
        · rw [hz]; exact hlt
        · exact Nat.lt_trans hlt (h'.1 z hz)
theorem toggle_sum (x : F) (l : List F) (f : F → F) : lsm (toggle x l) f = f x ^^^ lsm l f := by
  induction l with
  | nil => rfl
  | cons y r ih =>
    rw [toggle]
    split
    · rw [lsm_cons, ih, lsm_cons, xor_left_comm]
    · split
      · rename_i _ h
        rw [lsm_cons, h, xor_xor_self]
      · rfl
theorem foldl_toggle (l : List F) : ∀ out : List F, Rising out → Rising (l.foldl (fun out x => toggle x out) out) ∧ (∀ z ∈ l.foldl (fun out x => toggle x out) out, z ∈ l ∨ z ∈ out) ∧ ∀ f, lsm (l.foldl (fun out x => toggle x out) out) f = lsm l f ^^^ lsm out f := by
  induction l with
  | nil => intro out h; exact ⟨h, fun z hz => .inr hz, fun f => (zero_xor _).symm⟩
  | cons x r ih =>
    intro out h
    obtain ⟨h1, h2, h3⟩ := ih (toggle x out) (toggle_rising x out h)
    refine ⟨h1, fun z hz => ?_, fun f => ?_⟩
    · rcases h2 z hz with h4 | h4
      · exact .inl (List.mem_cons_of_mem _ h4)
      · rcases toggle_mem x out z h4 with h5 | h5
        · exact .inl (by rw [h5]; exact List.mem_cons_self ..)
        · exact .inr h5
    · rw [List.foldl_cons, h3, toggle_sum, lsm_cons]
      ac_rfl
theorem sortedP_rising (l : List F) : Rising (sortedP l) := (foldl_toggle l [] List.Pairwise.nil).1
theorem sortedP_mem (l : List F) : ∀ z ∈ sortedP l, z ∈ l := fun z hz => by
  rcases (foldl_toggle l [] List.Pairwise.nil).2.1 z hz with h | h
  · exact h
  · cases h
theorem sortedP_sum (l : List F) (f : F → F) : lsm (sortedP l) f = lsm l f := by
  have := (foldl_toggle l [] List.Pairwise.nil).2.2 f
  rw [show lsm [] f = 0#32 from rfl, xor_zero] at this
  exact this
theorem rising_nodup {l : List F} (h : Rising l) : l.Nodup := List.Pairwise.imp (fun hlt e => by rw [e] at hlt; omega) h
theorem rising_sorted {l : List F} (h : Rising l) : sortF l = l := (sort_unique (.refl l) (List.Pairwise.imp (fun hlt => Nat.le_of_lt hlt) h)).symm
theorem lsm_append (a b : List F) (f : F → F) : lsm (a ++ b) f = lsm a f ^^^ lsm b f := by
  induction a with
  | nil => exact (zero_xor _).symm
  | cons x r ih => rw [List.cons_append, lsm_cons, lsm_cons, ih, xor_assoc]
theorem newS_sum {S T : List F} (c : Nat) (h : ∀ f, lsm S f = lsm T f) : newS c S = newS c T := by
  rw [newS_eq, newS_eq]
  congr 1
  funext k
  rw [sumAt_eq, sumAt_eq, h]
theorem newS_zip (ca cb : Nat) (both a b : List F) : List.zipWith (· ^^^ ·) (newS ca (both ++ a)) (newS cb (both ++ b)) = newS (min ca cb) (sortedP (a ++ b)) := by
  rw [newS_sum (min ca cb) (T := a ++ b) (sortedP_sum (a ++ b))]
  rw [newS_eq, newS_eq, newS_eq]
  apply List.ext_getElem?
  intro k
  rw [List.getElem?_zipWith, List.getElem?_map, List.getElem?_map, List.getElem?_map]
  by_cases h1 : k < ca
  · by_cases h2 : k < cb
    · rw [List.getElem?_range h1, List.getElem?_range h2, List.getElem?_range (by omega)]
      simp only [Option.map_some]
      rw [sumAt_eq, sumAt_eq, sumAt_eq, lsm_append, lsm_append, lsm_append]
      congr 1
      generalize lsm both _ = x
      generalize lsm a _ = y
      generalize lsm b _ = z
      rw [show x ^^^ y ^^^ (x ^^^ z) = x ^^^ (x ^^^ (y ^^^ z)) from by ac_rfl, xor_xor_self]
    · rw [List.getElem?_range h1, List.getElem?_eq_none (l := List.range cb) (by simp; omega), List.getElem?_eq_none (l := List.range (min ca cb)) (by simp; omega)]
      rfl
  · rw [List.getElem?_eq_none (l := List.range ca) (by simp; omega), List.getElem?_eq_none (l := List.range (min ca cb)) (by simp; omega)]
    rfl
/-- What a sketch says has its sums. -/
theorem decode_sound (s ids : List F) (h : decodeP s = some ids) : 0#32 ∉ ids ∧ ids.length ≤ s.length ∧ newS s.length ids = s := by
  unfold decodeP at h
  generalize shortestP (powersP s) = r at h
  generalize foundP (linearP r.reverse) = L at h
  have h5 : dlen r.reverse ≤ r.length := by
    have := tlen_le' r.reverse r.reverse.length
    rw [List.length_reverse] at this
    unfold dlen
    rw [List.length_reverse]
    exact this
  generalize dlen r.reverse = q at h h5
  by_cases h1 : s.length < r.length - 1
  · rw [if_pos h1] at h; exact absurd h (by simp)
  · rw [if_neg h1] at h
    by_cases h2 : (1 ≤ q ∧ q ≤ 61) ∧ L.length + 1 = q
    · rw [if_pos h2] at h
      by_cases h3 : 0#32 ∈ L
      · rw [if_pos h3] at h; exact absurd h (by simp)
      · rw [if_neg h3] at h
        by_cases h4 : newS s.length L = s
        · rw [if_pos h4] at h
          obtain rfl : L = ids := Option.some.inj h
          exact ⟨h3, by omega, h4⟩
        · rw [if_neg h4] at h; exact absurd h (by simp)
    · rw [if_neg h2] at h; exact absurd h (by simp)
end Goss
