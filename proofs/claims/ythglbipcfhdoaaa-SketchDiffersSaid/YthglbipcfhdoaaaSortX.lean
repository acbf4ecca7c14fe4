/- The whole sort, plain: exchanges within a range, insertion, heap, partition. No program. -/
import Derived.Test.YthglbipcfhdoaaaSortM
namespace Goss
/-- Two places exchanged. -/
def swp (l : List F) (i j : Nat) : List F := if i < l.length ∧ j < l.length then (l.set i ((l[j]?).getD 0#32)).set j ((l[i]?).getD 0#32) else l
theorem swp_eq {l : List F} {i j : Nat} {x y : F} (hx : l[i]? = some x) (hy : l[j]? = some y) : (l.set i y).set j x = swp l i j := by
  unfold swp
  rw [if_pos ⟨(List.getElem?_eq_some_iff.1 hx).1, (List.getElem?_eq_some_iff.1 hy).1⟩, hx, hy]; rfl
theorem swp_len (l : List F) (i j : Nat) : (swp l i j).length = l.length := by
  unfold swp
  split
  · rw [List.length_set, List.length_set]
  · rfl
theorem swp_get (l : List F) (i j k : Nat) (hi : i < l.length) (hj : j < l.length) : (swp l i j)[k]? = if k = j then l[i]? else if k = i then l[j]? else l[k]? := by
  unfold swp
  rw [if_pos ⟨hi, hj⟩, List.getElem?_set, List.getElem?_set]
  by_cases h1 : k = j
  · subst h1
    rw [if_pos rfl, if_pos rfl, if_pos (by rw [List.length_set]; exact hj), List.getElem?_eq_getElem hi]; rfl
  · rw [if_neg (fun e => h1 e.symm), if_neg h1]
    by_cases h2 : k = i
    · subst h2
      rw [if_pos rfl, if_pos rfl, if_pos hi, List.getElem?_eq_getElem hj]; rfl
    · rw [if_neg (fun e => h2 e.symm), if_neg h2]
theorem at_swp (l : List F) (i j k : Nat) (hi : i < l.length) (hj : j < l.length) : at' (swp l i j) k = if k = j then at' l i else if k = i then at' l j else at' l k := by
  unfold at'
  rw [swp_get l i j k hi hj]
  split
  · rfl
  · split <;> rfl
theorem swp_perm (l : List F) (i j : Nat) : (swp l i j).Perm l := by
  by_cases h : i < l.length ∧ j < l.length
  · have : swp l i j = (l.set i l[j]).set j l[i] := by
      unfold swp
      rw [if_pos h, List.getElem?_eq_getElem h.1, List.getElem?_eq_getElem h.2]; rfl
    rw [this]
    exact List.set_set_perm h.1 h.2
  · unfold swp
    rw [if_neg h]
/-- Exchanges within a range. -/
inductive Mv (a b : Nat) : List F → List F → Prop
  | refl (l : List F) : Mv a b l l
  | swap {cur old : List F} (h : Mv a b cur old) (i j : Nat) (hi : a ≤ i ∧ i < b) (hj : a ≤ j ∧ j < b) : Mv a b (swp cur i j) old
theorem Mv.len {a b : Nat} {cur old : List F} (h : Mv a b cur old) : cur.length = old.length := by
  induction h with
  | refl l => rfl
  | swap _ i j _ _ ih => rw [swp_len, ih]
theorem Mv.perm {a b : Nat} {cur old : List F} (h : Mv a b cur old) : cur.Perm old := by
  induction h with
  | refl l => exact .refl _
  | swap _ i j _ _ ih => exact (swp_perm _ i j).trans ih
theorem Mv.trans {a b : Nat} {x y z : List F} (h : Mv a b x y) (k : Mv a b y z) : Mv a b x z := by
  induction h with
  | refl l => exact k
  | swap _ i j hi hj ih => exact .swap (ih k) i j hi hj
theorem Mv.mono {a b a' b' : Nat} {x y : List F} (h : Mv a b x y) (ha : a' ≤ a) (hb : b ≤ b') : Mv a' b' x y := by
  induction h with
  | refl l => exact .refl l
  | swap _ i j hi hj ih => exact .swap ih i j ⟨by omega, by omega⟩ ⟨by omega, by omega⟩
theorem Mv.out {a b : Nat} {cur old : List F} (h : Mv a b cur old) (k : Nat) (hk : k < a ∨ b ≤ k) : at' cur k = at' old k := by
  induction h with
  | refl l => rfl
  | @swap cur old _ i j hi hj ih =>
    by_cases hl : i < cur.length ∧ j < cur.length
    · rw [at_swp _ _ _ _ hl.1 hl.2, if_neg (by omega), if_neg (by omega)]
      exact ih
    · unfold swp
      rw [if_neg hl]
      exact ih
theorem Mv.all {a b : Nat} {cur old : List F} (h : Mv a b cur old) (P : Nat → Prop) (hP : ∀ k, a ≤ k → k < b → P (at' old k)) : ∀ k, a ≤ k → k < b → P (at' cur k) := by
  induction h with
  | refl l => exact hP
  | @swap cur old _ i j hi hj ih =>
    intro k h1 h2
    by_cases hl : i < cur.length ∧ j < cur.length
    · rw [at_swp _ _ _ _ hl.1 hl.2]
      split
      · exact ih hP i hi.1 hi.2
      · split
        · exact ih hP j hj.1 hj.2
        · exact ih hP k h1 h2
    · unfold swp
      rw [if_neg hl]
      exact ih hP k h1 h2
/-- Sorted within a range. -/
def SrtIn (a b : Nat) (l : List F) : Prop := ∀ i j, a ≤ i → i < j → j < b → at' l i ≤ at' l j
/-- .. but for the one at j, that sinks. -/
def SnkIn (a i j : Nat) (l : List F) : Prop := a ≤ j ∧ j ≤ i ∧ ∀ p q, a ≤ p → p < q → q ≤ i → q ≠ j → at' l p ≤ at' l q
theorem SrtIn.one (a : Nat) (l : List F) : SrtIn a (a + 1) l := fun i j h1 h2 h3 => by omega
theorem SrtIn.snk {a i : Nat} {l : List F} (h : SrtIn a i l) (hi : a ≤ i) : SnkIn a i i l := ⟨hi, Nat.le_refl _, fun p q h1 h2 h3 h4 => h p q h1 h2 (by omega)⟩
theorem SnkIn.step {a i j : Nat} {l : List F} {x y : F} (h : SnkIn a i (j + 1) l) (ha : a ≤ j) (hx : l[j + 1]? = some x) (hy : l[j]? = some y) (hlt : x.toNat < y.toNat) : SnkIn a i j (swp l (j + 1) j) := by
  have hl1 : j + 1 < l.length := (List.getElem?_eq_some_iff.1 hx).1
  have hl0 : j < l.length := by omega
  have ex : at' l (j + 1) = x.toNat := by unfold at'; rw [hx]; rfl
  have ey : at' l j = y.toNat := by unfold at'; rw [hy]; rfl
  obtain ⟨h1, h2, h3⟩ := h
  refine ⟨ha, by omega, fun p q hp hpq hqi hqj => ?_⟩
  rw [at_swp l (j + 1) j p hl1 hl0, at_swp l (j + 1) j q hl1 hl0, if_neg hqj]
  by_cases e1 : q = j + 1
  · rw [if_pos e1]
    by_cases e2 : p = j
    · rw [if_pos e2]; omega
    · rw [if_neg e2, if_neg (by omega)]
      exact h3 p j hp (by omega) (by omega) (by omega)
  · rw [if_neg e1]
    have hq1 : p ≠ j + 1 → p ≠ j → at' l p ≤ at' l q := fun _ _ => h3 p q hp hpq hqi e1
    by_cases e2 : p = j
    · rw [if_pos e2]
      have := h3 (j + 1) q (by omega) (by omega) hqi (by omega)
      exact this
    · rw [if_neg e2]
      by_cases e3 : p = j + 1
      · rw [if_pos e3]
        exact h3 j q ha (by omega) hqi e1
      · rw [if_neg e3]; exact hq1 e3 e2
theorem SnkIn.done0 {a i : Nat} {l : List F} (h : SnkIn a i a l) : SrtIn a (i + 1) l := fun p q h1 h2 h3 => h.2.2 p q h1 h2 (by omega) (by omega)
theorem SnkIn.done {a i j : Nat} {l : List F} {x y : F} (h : SnkIn a i (j + 1) l) (ha : a ≤ j) (hx : l[j + 1]? = some x) (hy : l[j]? = some y) (hle : ¬ x.toNat < y.toNat) : SrtIn a (i + 1) l := by
  have ex : at' l (j + 1) = x.toNat := by unfold at'; rw [hx]; rfl
  have ey : at' l j = y.toNat := by unfold at'; rw [hy]; rfl
  intro p q h1 h2 h3
  by_cases e : q = j + 1
  · subst e
    by_cases e2 : p = j
    · subst e2; omega
    · have := h.2.2 p j h1 (by omega) (by have := h.2.1; omega) (by omega)
      omega
  · exact h.2.2 p q h1 h2 (by omega) e

/-- A heap's order: parents from lo on, places below hi, the first one at f. -/
def Hp (l : List F) (f lo hi : Nat) : Prop := ∀ k c, lo ≤ k → (c = 2 * k + 1 ∨ c = 2 * k + 2) → c < hi → at' l (f + c) ≤ at' l (f + k)
/-- .. but for the one at r, that sinks. -/
structure Sft (l : List F) (f lo hi r : Nat) : Prop where
  low : lo ≤ r
  ord : ∀ k c, lo ≤ k → k ≠ r → (c = 2 * k + 1 ∨ c = 2 * k + 2) → c < hi → at' l (f + c) ≤ at' l (f + k)
  up : ∀ c p, lo ≤ p → (r = 2 * p + 1 ∨ r = 2 * p + 2) → (c = 2 * r + 1 ∨ c = 2 * r + 2) → c < hi → at' l (f + c) ≤ at' l (f + p)
theorem Sft.start {l : List F} {f lo hi : Nat} (h : Hp l f (lo + 1) hi) : Sft l f lo hi lo :=
  ⟨Nat.le_refl _, fun k c h1 h2 h3 h4 => h k c (by omega) h3 h4, fun c p h1 h2 => by omega⟩
theorem Sft.step {l : List F} {f lo hi r ch : Nat} (h : Sft l f lo hi r) (hc : ch = 2 * r + 1 ∨ ch = 2 * r + 2) (hhi : ch < hi) (hl : f + hi ≤ l.length)
    (hmax : ∀ c, (c = 2 * r + 1 ∨ c = 2 * r + 2) → c < hi → at' l (f + c) ≤ at' l (f + ch)) (hlt : at' l (f + r) < at' l (f + ch)) : Sft (swp l (f + r) (f + ch)) f lo hi ch := by
  have hr := h.low
  have l1 : f + r < l.length := by omega
  have l2 : f + ch < l.length := by omega
  refine ⟨by omega, fun k c h1 h2 h3 h4 => ?_, fun c p h1 h2 h3 h4 => ?_⟩
  · rw [at_swp l _ _ _ l1 l2, at_swp l _ _ _ l1 l2]
    by_cases e : k = r
    · subst e
      rw [if_neg (by omega : ¬ f + k = f + ch), if_pos rfl]
      by_cases e2 : c = ch
      · rw [if_pos (by omega)]; omega
      · rw [if_neg (by omega), if_neg (by omega)]
        exact hmax c h3 h4
    · rw [if_neg (by omega : ¬ f + k = f + ch), if_neg (by omega : ¬ f + k = f + r), if_neg (by omega : ¬ f + c = f + ch)]
      by_cases e2 : c = r
      · rw [if_pos (by omega)]
        exact h.up ch k h1 (by omega) hc hhi
      · rw [if_neg (by omega)]
        exact h.ord k c h1 e h3 h4
  · obtain rfl : p = r := by omega
    rw [at_swp l _ _ _ l1 l2, at_swp l _ _ _ l1 l2, if_neg (by omega : ¬ f + p = f + ch), if_pos rfl, if_neg (by omega), if_neg (by omega)]
    exact h.ord ch c (by omega) (by omega) h3 h4
theorem Sft.done {l : List F} {f lo hi r : Nat} (h : Sft l f lo hi r) (hd : ∀ c, (c = 2 * r + 1 ∨ c = 2 * r + 2) → c < hi → at' l (f + c) ≤ at' l (f + r)) : Hp l f lo hi := by
  intro k c h1 h2 h3
  by_cases e : k = r
  · subst e; exact hd c h2 h3
  · exact h.ord k c h1 e h2 h3
theorem Hp.top {l : List F} {f hi : Nat} (h : Hp l f 0 hi) : ∀ k, k < hi → at' l (f + k) ≤ at' l f := by
  intro k
  induction k using Nat.strongRecOn with
  | _ k ih =>
    intro hk
    by_cases e : k = 0
    · subst e; exact Nat.le_refl _
    · have h1 := h ((k - 1) / 2) k (Nat.zero_le _) (by omega) hk
      have h2 := ih ((k - 1) / 2) (by omega) (by omega)
      omega
theorem Hp.less {l : List F} {f lo hi lo' hi' : Nat} (h : Hp l f lo hi) (h1 : lo ≤ lo') (h2 : hi' ≤ hi) : Hp l f lo' hi' := fun k c a b d => h k c (by omega) b (by omega)
/-- The heap sort under way: below i a heap, from i on the greatest, sorted. -/
structure Pop (l : List F) (f b i : Nat) : Prop where
  heap : Hp l f 0 i
  srt : SrtIn (f + i) b l
  le : ∀ p q, f ≤ p → p < f + i → f + i ≤ q → q < b → at' l p ≤ at' l q
theorem Pop.swap {l : List F} {f b i : Nat} (h : Pop l f b (i + 1)) (hb : f + i < b) (hl : b ≤ l.length) : Hp (swp l f (f + i)) f 1 i ∧ SrtIn (f + i) b (swp l f (f + i)) ∧ (∀ p q, f ≤ p → p < f + i → f + i ≤ q → q < b → at' (swp l f (f + i)) p ≤ at' (swp l f (f + i)) q) := by
  have l1 : f < l.length := by omega
  have l2 : f + i < l.length := by omega
  have htop := h.heap.top
  refine ⟨fun k c h1 h2 h3 => ?_, fun p q h1 h2 h3 => ?_, fun p q h1 h2 h3 h4 => ?_⟩
  · rw [at_swp l _ _ _ l1 l2, at_swp l _ _ _ l1 l2, if_neg (by omega), if_neg (by omega), if_neg (by omega), if_neg (by omega)]
    exact h.heap k c (Nat.zero_le _) h2 (by omega)
  · rw [at_swp l _ _ _ l1 l2, at_swp l _ _ _ l1 l2]
    by_cases e : p = f + i
    · rw [if_pos e, if_neg (by omega), if_neg (by omega)]
      exact h.le f q (Nat.le_refl _) (by omega) (by omega) h3
    · rw [if_neg e, if_neg (by omega), if_neg (by omega), if_neg (by omega)]
      exact h.srt p q (by omega) h2 h3
  · have hmax : ∀ k, k ≤ i → at' l (f + k) ≤ at' l f := fun k hk => htop k (by omega)
    have hp : at' (swp l f (f + i)) p ≤ at' l f := by
      rw [at_swp l _ _ _ l1 l2, if_neg (by omega)]
      split
      · exact hmax i (Nat.le_refl _)
      · have := hmax (p - f) (by omega)
        rwa [show f + (p - f) = p from by omega] at this
    have hq : at' l f ≤ at' (swp l f (f + i)) q := by
      rw [at_swp l _ _ _ l1 l2]
      by_cases e : q = f + i
      · rw [if_pos e]; exact Nat.le_refl _
      · rw [if_neg e, if_neg (by omega)]
        exact h.le f q (Nat.le_refl _) (by omega) (by omega) h4
    omega
theorem Pop.next {l m : List F} {f b i : Nat} (hm : Mv f (f + i) m l) (h1 : Hp m f 0 i) (h2 : SrtIn (f + i) b l) (h3 : ∀ p q, f ≤ p → p < f + i → f + i ≤ q → q < b → at' l p ≤ at' l q) : Pop m f b i := by
  refine ⟨h1, fun p q a1 a2 a3 => ?_, fun p q a1 a2 a3 a4 => ?_⟩
  · rw [hm.out p (by omega), hm.out q (by omega)]
    exact h2 p q a1 a2 a3
  · rw [hm.out q (by omega)]
    exact hm.all (fun v => v ≤ at' l q) (fun k k1 k2 => h3 k q k1 k2 a3 a4) p a1 a2
theorem Pop.done {l : List F} {f b : Nat} (h : Pop l f b 0) : SrtIn f b l := h.srt

/-- What the sort of a range comes to. -/
structure Sorts (a b : Nat) (cur old : List F) : Prop where
  mv : Mv a b cur old
  srt : SrtIn a b cur
theorem Sorts.whole {cur old : List F} (h : Sorts 0 old.length cur old) : cur = sortF old := by
  apply sort_unique h.mv.perm
  rw [List.pairwise_iff_getElem]
  intro i j hi hj hij
  have := h.srt i j (Nat.zero_le _) hij (by rw [← h.mv.len]; exact hj)
  unfold at' at this
  rw [List.getElem?_eq_getElem hi, List.getElem?_eq_getElem hj] at this
  exact this
/-- The range that is left in pdqsort: what stands ahead is sorted and no greater, what stands behind sorted and no less. -/
structure Rest (A B a b : Nat) (cur old : List F) : Prop where
  mv : Mv A B cur old
  ab : A ≤ a ∧ a ≤ b ∧ b ≤ B
  lo : SrtIn A a cur
  hi : SrtIn b B cur
  le : ∀ p q, A ≤ p → p < a → a ≤ q → q < B → at' cur p ≤ at' cur q
  ge : ∀ p q, a ≤ p → p < b → b ≤ q → q < B → at' cur p ≤ at' cur q
theorem Rest.start (A B : Nat) (h : A ≤ B) (l : List F) : Rest A B A B l l := ⟨.refl _, ⟨Nat.le_refl _, h, Nat.le_refl _⟩, fun i j _ _ _ => by omega, fun i j _ _ _ => by omega, fun p q _ _ => by omega, fun p q _ _ _ _ => by omega⟩
theorem Rest.moved {A B a b : Nat} {m cur old : List F} (h : Rest A B a b cur old) (hm : Mv a b m cur) : Rest A B a b m old := by
  obtain ⟨h1, h2, h3⟩ := h.ab
  refine ⟨(hm.mono h1 h3).trans h.mv, h.ab, fun i j a1 a2 a3 => ?_, fun i j a1 a2 a3 => ?_, fun p q a1 a2 a3 a4 => ?_, fun p q a1 a2 a3 a4 => ?_⟩
  · rw [hm.out i (by omega), hm.out j (by omega)]; exact h.lo i j a1 a2 a3
  · rw [hm.out i (by omega), hm.out j (by omega)]; exact h.hi i j a1 a2 a3
  · rw [hm.out p (by omega)]
    by_cases e : q < b
    · exact hm.all (fun v => at' cur p ≤ v) (fun k k1 k2 => h.le p k a1 a2 k1 (by omega)) q a3 e
    · rw [hm.out q (by omega)]; exact h.le p q a1 a2 a3 a4
  · rw [hm.out q (by omega)]
    exact hm.all (fun v => v ≤ at' cur q) (fun k k1 k2 => h.ge k q k1 k2 a3 a4) p a1 a2
theorem Rest.done {A B a b : Nat} {cur old : List F} (h : Rest A B a b cur old) (hs : SrtIn a b cur) : Sorts A B cur old := by
  refine ⟨h.mv, fun i j h1 h2 h3 => ?_⟩
  by_cases c1 : j < a
  · exact h.lo i j h1 h2 c1
  · by_cases c2 : i < a
    · exact h.le i j h1 c2 (by omega) h3
    · by_cases c3 : j < b
      · exact hs i j (by omega) h2 c3
      · by_cases c4 : i < b
        · exact h.ge i j (by omega) c4 (by omega) h3
        · exact h.hi i j (by omega) h2 h3
/-- Parted at m: less ahead, m's own, no less behind. -/
structure Prt (a b m : Nat) (l : List F) : Prop where
  pos : a ≤ m ∧ m < b
  lo : ∀ p, a ≤ p → p < m → at' l p ≤ at' l m
  hi : ∀ q, m < q → q < b → at' l m ≤ at' l q
theorem Rest.left {A B a b m : Nat} {cur s old : List F} (h : Rest A B a b cur old) (hp : Prt a b m cur) (hs : Sorts a m s cur) : Rest A B (m + 1) b s old := by
  obtain ⟨m1, m2⟩ := hp.pos
  have hr := h.moved (hs.mv.mono (Nat.le_refl _) (by omega))
  obtain ⟨h1, h2, h3⟩ := h.ab
  have em : at' s m = at' cur m := hs.mv.out m (by omega)
  have hlo : ∀ p, a ≤ p → p < m → at' s p ≤ at' cur m := hs.mv.all (fun v => v ≤ at' cur m) hp.lo
  have hhi : ∀ q, m < q → q < b → at' cur m ≤ at' s q := fun q q1 q2 => by rw [hs.mv.out q (by omega)]; exact hp.hi q q1 q2
  refine ⟨hr.mv, ⟨by omega, by omega, h3⟩, fun i j a1 a2 a3 => ?_, hr.hi, fun p q a1 a2 a3 a4 => ?_, fun p q a1 a2 a3 a4 => hr.ge p q (by omega) a2 a3 a4⟩
  · by_cases c1 : j < a
    · exact hr.lo i j a1 a2 c1
    · by_cases c2 : i < a
      · exact hr.le i j a1 c2 (by omega) (by omega)
      · by_cases c3 : j < m
        · exact hs.srt i j (by omega) a2 c3
        · obtain rfl : j = m := by omega
          rw [em]; exact hlo i (by omega) a2
  · by_cases c2 : p < a
    · exact hr.le p q a1 c2 (by omega) a4
    · by_cases c3 : q < b
      · have c4 := hhi q (by omega) c3
        by_cases c5 : p < m
        · have := hlo p (by omega) c5; omega
        · obtain rfl : p = m := by omega
          omega
      · exact hr.ge p q (by omega) (by omega) (by omega) a4
theorem Rest.right {A B a b m : Nat} {cur s old : List F} (h : Rest A B a b cur old) (hp : Prt a b m cur) (hs : Sorts (m + 1) b s cur) : Rest A B a m s old := by
  obtain ⟨m1, m2⟩ := hp.pos
  have hr := h.moved (hs.mv.mono (by omega) (Nat.le_refl _))
  obtain ⟨h1, h2, h3⟩ := h.ab
  have em : at' s m = at' cur m := hs.mv.out m (by omega)
  have hhi : ∀ q, m + 1 ≤ q → q < b → at' cur m ≤ at' s q := hs.mv.all (fun v => at' cur m ≤ v) (fun k k1 k2 => hp.hi k (by omega) k2)
  have hlo : ∀ p, a ≤ p → p < m → at' s p ≤ at' cur m := fun p p1 p2 => by rw [hs.mv.out p (by omega)]; exact hp.lo p p1 p2
  refine ⟨hr.mv, ⟨h1, by omega, by omega⟩, hr.lo, fun i j a1 a2 a3 => ?_, fun p q a1 a2 a3 a4 => hr.le p q a1 a2 a3 a4, fun p q a1 a2 a3 a4 => ?_⟩
  · by_cases c1 : j < b
    · by_cases c2 : i = m
      · subst c2; rw [em]; exact hhi j (by omega) c1
      · exact hs.srt i j (by omega) a2 c1
    · by_cases c2 : i < b
      · exact hr.ge i j (by omega) c2 (by omega) a3
      · exact hr.hi i j (by omega) a2 a3
  · by_cases c1 : q < b
    · have c4 := hlo p a1 a2
      by_cases c5 : q = m
      · subst c5; omega
      · have := hhi q (by omega) c1; omega
    · exact hr.ge p q a1 (by omega) (by omega) a4
/-- Parted into those equal to the least and the greater ones. -/
theorem Rest.equal {A B a b m v : Nat} {cur old : List F} (h : Rest A B a b cur old) (hm : a ≤ m ∧ m ≤ b) (hlo : ∀ p, a ≤ p → p < m → at' cur p = v) (hhi : ∀ q, m ≤ q → q < b → v ≤ at' cur q) : Rest A B m b cur old := by
  obtain ⟨h1, h2, h3⟩ := h.ab
  refine ⟨h.mv, ⟨by omega, by omega, h3⟩, fun i j a1 a2 a3 => ?_, h.hi, fun p q a1 a2 a3 a4 => ?_, fun p q a1 a2 a3 a4 => h.ge p q (by omega) a2 a3 a4⟩
  · by_cases c1 : j < a
    · exact h.lo i j a1 a2 c1
    · by_cases c2 : i < a
      · exact h.le i j a1 c2 (by omega) (by omega)
      · rw [hlo i (by omega) (by omega), hlo j (by omega) a3]; exact Nat.le_refl _
  · by_cases c2 : p < a
    · exact h.le p q a1 c2 (by omega) a4
    · by_cases c3 : q < b
      · rw [hlo p (by omega) a2]; exact hhi q a3 c3
      · exact h.ge p q (by omega) (by omega) (by omega) a4
/-- A partition under way: the pivot's value v at a; ahead of i those of one kind, behind j those of the other. -/
structure PIn (Lo : Nat → Prop) (a b i j v : Nat) (l : List F) : Prop where
  len : b ≤ l.length
  piv : at' l a = v
  ij : a + 1 ≤ i ∧ i ≤ j + 1 ∧ j < b
  lo : ∀ p, a < p → p < i → Lo (at' l p)
  hi : ∀ q, j < q → q < b → ¬ Lo (at' l q)
theorem PIn.start {Lo : Nat → Prop} {a b j : Nat} {l : List F} (hl : b ≤ l.length) (hab : a ≤ j) (hj : j + 1 = b) : PIn Lo a b (a + 1) j (at' l a) l :=
  ⟨hl, rfl, ⟨Nat.le_refl _, by omega, by omega⟩, fun p h1 h2 => by omega, fun q h1 h2 => by omega⟩
theorem PIn.up {Lo : Nat → Prop} {a b i j v : Nat} {l : List F} (h : PIn Lo a b i j v l) (hij : i ≤ j) (hlo : Lo (at' l i)) : PIn Lo a b (i + 1) j v l := by
  obtain ⟨h1, h2, h3⟩ := h.ij
  refine ⟨h.len, h.piv, ⟨by omega, by omega, h3⟩, fun p a1 a2 => ?_, h.hi⟩
  by_cases e : p = i
  · rw [e]; exact hlo
  · exact h.lo p a1 (by omega)
theorem PIn.down {Lo : Nat → Prop} {a b i j v : Nat} {l : List F} (h : PIn Lo a b i (j + 1) v l) (hij : i ≤ j + 1) (hhi : ¬ Lo (at' l (j + 1))) : PIn Lo a b i j v l := by
  obtain ⟨h1, h2, h3⟩ := h.ij
  refine ⟨h.len, h.piv, ⟨h1, by omega, by omega⟩, h.lo, fun q a1 a2 => ?_⟩
  by_cases e : q = j + 1
  · rw [e]; exact hhi
  · exact h.hi q (by omega) a2
theorem PIn.swap {Lo : Nat → Prop} {a b i j v : Nat} {l : List F} (h : PIn Lo a b i (j + 1) v l) (hij : i ≤ j + 1) (hi : ¬ Lo (at' l i)) (hj : Lo (at' l (j + 1))) : i ≤ j ∧ PIn Lo a b (i + 1) j v (swp l i (j + 1)) := by
  obtain ⟨h1, h2, h3⟩ := h.ij
  have hne : i ≠ j + 1 := fun e => hi (by rw [e]; exact hj)
  have hl := h.len
  have l1 : i < l.length := by omega
  have l2 : j + 1 < l.length := by omega
  refine ⟨by omega, by rw [swp_len]; exact hl, ?_, ⟨by omega, by omega, by omega⟩, fun p a1 a2 => ?_, fun q a1 a2 => ?_⟩
  · rw [at_swp l _ _ _ l1 l2, if_neg (by omega), if_neg (by omega)]; exact h.piv
  · rw [at_swp l _ _ _ l1 l2, if_neg (by omega)]
    split
    · exact hj
    · exact h.lo p a1 (by omega)
  · rw [at_swp l _ _ _ l1 l2]
    split
    · exact hi
    · rw [if_neg (by omega)]
      exact h.hi q (by omega) a2
theorem PIn.fin {a b i j v : Nat} {l : List F} (h : PIn (fun x => x < v) a b i j v l) (hij : j < i) : Prt a b j (swp l j a) := by
  obtain ⟨h1, h2, h3⟩ := h.ij
  have hl := h.len
  have l1 : j < l.length := by omega
  have l2 : a < l.length := by omega
  have hp := h.piv
  have em : at' (swp l j a) j = v := by
    rw [at_swp l _ _ _ l1 l2]
    split
    · rename_i e; rw [e]; exact hp
    · rw [if_pos rfl]; exact hp
  refine ⟨⟨by omega, h3⟩, fun p a1 a2 => ?_, fun q a1 a2 => ?_⟩
  · rw [em, at_swp l _ _ _ l1 l2]
    split
    · have := h.lo j (by omega) (by omega); omega
    · rw [if_neg (by omega)]
      have := h.lo p (by omega) (by omega); omega
  · rw [em, at_swp l _ _ _ l1 l2, if_neg (by omega), if_neg (by omega)]
    have := h.hi q a1 a2; omega
end Goss
