/- package roots: found. -/
import Derived.Test.YthglbipcfhdoaaaRootsA
import Derived.Deep.LoopGhost
import Derived.Test.YthglbipcfhdoaaaApp2
import Derived.Test.YthglbipcfhdoaaaSortH
namespace Go.Proofs.Ythglbipcfhdoaaa
open Go.RowKit

/-- How many rounds a stack can still cost. -/
def wt (b : Nat) : Nat := 2 ^ (33 - b) - 1
def total : List (List Goss.F × Nat) → Nat
  | [] => 0
  | (_, b) :: r => wt b + total r
theorem wt_pos (b : Nat) (h : b ≤ 32) : 1 ≤ wt b := by
  unfold wt
  have : 2 ^ 1 ≤ 2 ^ (33 - b) := Nat.pow_le_pow_right (by omega) (by omega)
  omega
theorem wt_split (b : Nat) (h : b < 32) : wt (b + 1) + wt (b + 1) < wt b := by
  unfold wt
  have : 2 ^ (33 - b) = 2 ^ (33 - (b + 1)) * 2 := by rw [← Nat.pow_succ]; congr 1; omega
  have : 0 < 2 ^ (33 - (b + 1)) := Nat.pow_pos (by omega)
  omega
theorem total_len (st : List (List Goss.F × Nat)) (h : ∀ x ∈ st, x.2 ≤ 32) : st.length ≤ total st := by
  induction st with
  | nil => exact Nat.le_refl _
  | cons x r ih =>
    obtain ⟨p, b⟩ := x
    have h1 := wt_pos b (h _ (List.mem_cons_self ..))
    have h2 := ih fun y hy => h y (List.mem_cons_of_mem _ hy)
    simp only [List.length_cons, total]
    omega
/-- More rounds than the stack can cost come to the same. -/
theorem found_fuel (k : Nat) : ∀ (st : List (List Goss.F × Nat)) (out : List Goss.F), (∀ x ∈ st, x.2 ≤ 32) → total st < k → ∀ k', total st < k' → Goss.foundLoop k st out = Goss.foundLoop k' st out := by
  induction k with
  | zero => intro st out _ h; omega
  | succ k ih =>
    intro st out hb h k' h'
    obtain ⟨k', rfl⟩ : ∃ j, k' = j + 1 := ⟨k' - 1, by omega⟩
    cases st with
    | nil => rfl
    | cons x r =>
      obtain ⟨p, b⟩ := x
      have h1 := wt_pos b (hb _ (List.mem_cons_self ..))
      have hr : ∀ y ∈ r, y.2 ≤ 32 := fun y hy => hb y (List.mem_cons_of_mem _ hy)
      simp only [total] at h h'
      rw [Goss.foundLoop, Goss.foundLoop]
      split
      · exact ih r _ hr (by omega) k' (by omega)
      · split
        · rename_i _ h2
          have h3 := wt_split b h2.2
          refine ih _ _ ?_ (by simp only [total]; omega) k' (by simp only [total]; omega)
          intro y hy
          rcases List.mem_cons.1 hy with rfl | hy
          · show b + 1 ≤ 32; omega
          · rcases List.mem_cons.1 hy with rfl | hy
            · show b + 1 ≤ 32; omega
            · exact hr y hy
        · exact ih r _ hr (by omega) k' (by omega)

/-- The cells of parts, the bottom first. -/
def partCells : List (Value × Nat) → List Value
  | [] => []
  | (v, b) :: r => v :: .int .i64 (b : Int) :: partCells r
theorem partCells_len (l : List (Value × Nat)) : (partCells l).length = l.length * 2 := by
  induction l with
  | nil => rfl
  | cons x r ih => obtain ⟨v, b⟩ := x; simp only [partCells, List.length_cons, ih]; omega
theorem partCells_append (l m : List (Value × Nat)) : partCells (l ++ m) = partCells l ++ partCells m := by
  induction l with
  | nil => rfl
  | cons x r ih => obtain ⟨v, b⟩ := x; simp only [List.cons_append, partCells, ih]
/-- A stack in memory: a row of parts (the bottom first), each part's polynomial to be read. -/
structure Stack (w : World) (B : Nat) (v : Value) (l : List (Value × Nat)) (st : List (List Goss.F × Nat)) : Prop where
  row : w.ownsRow B 141 2 v l.length (partCells l)
  len : l.length = st.length
  each : ∀ (i : Nat) (x : Value × Nat) (y : List Goss.F × Nat), l.reverse[i]? = some x → st[i]? = some y → x.2 = y.2 ∧ Sl w x.1 y.1

theorem infoPart : (Try.prog.info? 141).map (fun i => (i.zero, i.size, i.bytes)) = some (some (.agg #[.slice none 0 0, .int .i64 0]), 2, 32) := by kernel_rfl

theorem Stack.below {w w' : World} {B : Nat} {v : Value} {l : List (Value × Nat)} {st : List (List Goss.F × Nat)} (h : Stack w B v l st) (hb : Below w.heap.size w w') : Stack w' B v l st := by
  refine ⟨⟨h.row.1, ?_⟩, h.len, fun i x y hx hy => ⟨(h.each i x y hx hy).1, (h.each i x y hx hy).2.below hb⟩⟩
  rcases h.row.2 with hn | ⟨g, cap, cur, rfl, hbg, hg, rest⟩
  · exact .inl hn
  · exact .inr ⟨g, cap, cur, rfl, hbg, by rw [hb.block g (Array.getElem?_eq_some_iff.1 hg).1]; exact hg, rest⟩
/-- The top of a stack that isn't empty: its two cells; the stack without it. -/
theorem Stack.top {w : World} {B : Nat} {v : Value} {l : List (Value × Nat)} {p : List Goss.F} {b : Nat} {st : List (List Goss.F × Nat)} (h : Stack w B v l ((p, b) :: st)) :
    ∃ g c vp l', v = .slice (some ⟨g, 0, none⟩) (st.length + 1) c ∧ B ≤ g ∧ g < w.heap.size ∧ st.length + 1 ≤ c ∧ c ≤ maxLen ∧ w.cell? ⟨g, st.length * 2, none⟩ = some vp ∧ w.cell? ⟨g, st.length * 2 + 1, none⟩ = some (.int .i64 (b : Int)) ∧ Sl w vp p ∧
      Stack w B (.slice (some ⟨g, 0, none⟩) st.length c) l' st ∧ l = l' ++ [(vp, b)] := by
  have hlen := h.len
  simp only [List.length_cons] at hlen
  obtain ⟨l', ⟨vp, b'⟩, rfl⟩ : ∃ l' x, l = l' ++ [x] := by
    have hne : l ≠ [] := by intro e; rw [e] at hlen; simp at hlen
    exact ⟨l.dropLast, l.getLast hne, (List.dropLast_concat_getLast hne).symm⟩
  have hl' : l'.length = st.length := by simp at hlen; exact hlen
  have htop := h.each 0 (vp, b') (p, b) (by simp) rfl
  obtain ⟨hb, hsl⟩ := htop
  simp only at hb hsl
  subst hb
  rcases h.row.2 with ⟨_, h0⟩ | ⟨g, cap, cur, rfl, hbg, hg, hnc, hcm, hcs, htake⟩
  · simp at h0
  · have hlen2 : (l' ++ [(vp, b')]).length = st.length + 1 := hlen
    rw [hlen2] at htake hnc
    have hcells : ∀ j u, (partCells (l' ++ [(vp, b')]))[j]? = some u → w.cell? ⟨g, j, none⟩ = some u := by
      intro j u hu
      rw [← htake, List.getElem?_take] at hu
      rw [cell_of_row w g j cur _ (0, 0) hg]
      split at hu
      · simpa using hu
      · cases hu
    have hpc := partCells_append l' [(vp, b')]
    have hpl := partCells_len l'
    refine ⟨g, cap, vp, l', by rw [hlen2], hbg, (Array.getElem?_eq_some_iff.1 hg).1, hnc, hcm, hcells _ _ ?_, hcells _ _ ?_, hsl, ⟨⟨by rw [partCells_len], .inr ⟨g, cap, cur, by rw [hl'], hbg, hg, by omega, hcm, hcs, ?_⟩⟩, hl', ?_⟩, rfl⟩
    · rw [hpc, List.getElem?_append_right (by omega), hpl, hl']
      simp [partCells]
    · rw [hpc, List.getElem?_append_right (by omega), hpl, hl']
      simp [partCells]
    · have : (cur.toList.take ((st.length + 1) * 2)).take (l'.length * 2) = (partCells l' ++ partCells [(vp, b')]).take (l'.length * 2) := by rw [htake, hpc]
      rw [List.take_take] at this
      rw [show min (l'.length * 2) ((st.length + 1) * 2) = l'.length * 2 from by omega] at this
      rw [this, ← hpl, List.take_left]
    · intro i x y hx hy
      refine h.each (i + 1) x y ?_ hy
      rw [List.reverse_append]
      exact hx

/-- Two rows lie in two blocks. -/
def Apart (u v : Value) : Prop := ∀ k, u.ownBlock = some k → v.ownBlock = some k → False
theorem Apart.symm {u v : Value} (h : Apart u v) : Apart v u := fun k h1 h2 => h k h2 h1
theorem Sl.blkLt {w : World} {v : Value} {xs : List Goss.F} (h : Sl w v xs) : ∀ k, v.ownBlock = some k → k < w.heap.size := by
  intro k hk
  obtain ⟨p, n, c, rfl, h2, h3, h4, h5⟩ := h
  rcases h5 with ⟨rfl, _⟩ | ⟨b, o, rfl, hlt, _⟩
  · cases hk
  · cases hk; exact hlt
theorem Sl.grownA {w w' : World} {u v : Value} {xs : List Goss.F} (h : Sl w v xs) (hg : w.grownBy w' u.ownBlock) (ha : Apart u v) : Sl w' v xs :=
  h.grown hg fun b o n c e he => by subst e; exact ha b he.symm rfl
theorem Own.grownA {w w' : World} {B : Nat} {u v : Value} {xs : List Goss.F} (h : Own w B v xs) (hg : w.grownBy w' u.ownBlock) (ha : Apart u v) : Own w' B v xs := by
  refine World.ownsRow.kept h hg ?_
  cases hv : v.ownBlock with
  | none => exact .inl rfl
  | some k => exact .inr fun e => ha k e.symm hv
theorem apart_new {u u' v : Value} {n : Nat} (h : u'.ownBlock = u.ownBlock ∨ u'.ownBlock = some n) (ha : Apart u v) (hv : ∀ k, v.ownBlock = some k → k < n) : Apart u' v := by
  intro k h1 h2
  rcases h with h | h
  · exact ha k (h ▸ h1) h2
  · rw [h] at h1
    cases h1
    exact absurd (hv _ h2) (Nat.lt_irrefl _)
theorem Stack.grownA {w w' : World} {B : Nat} {u v : Value} {l : List (Value × Nat)} {st : List (List Goss.F × Nat)} (h : Stack w B v l st) (hg : w.grownBy w' u.ownBlock) (ha : Apart u v) (hl : ∀ x ∈ l, Apart u x.1) : Stack w' B v l st := by
  refine ⟨World.ownsRow.kept h.row hg ?_, h.len, fun i x y hx hy => ⟨(h.each i x y hx hy).1, (h.each i x y hx hy).2.grownA hg (hl x ?_)⟩⟩
  · cases hv : v.ownBlock with
    | none => exact .inl rfl
    | some k => exact .inr fun e => ha k e.symm hv
  · exact List.mem_reverse.1 (List.mem_of_getElem? hx)
theorem Stack.empty {w : World} {B : Nat} {v : Value} (h : Stack w B v [] []) : ∃ p c, v = .slice p 0 c := by
  rcases h.row.2 with ⟨rfl, _⟩ | ⟨g, cap, cur, rfl, _⟩
  · exact ⟨_, _, rfl⟩
  · exact ⟨_, _, rfl⟩
theorem Stack.eachLt {w : World} {B : Nat} {v : Value} {l : List (Value × Nat)} {st : List (List Goss.F × Nat)} (h : Stack w B v l st) : ∀ x ∈ l, ∀ k, x.1.ownBlock = some k → k < w.heap.size := by
  intro x hx k hk
  obtain ⟨i, hi, hxi⟩ := List.mem_iff_getElem.1 (List.mem_reverse.2 hx)
  have hlen : l.reverse.length = st.length := by rw [List.length_reverse]; exact h.len
  have h1 : l.reverse[i]? = some x := by rw [List.getElem?_eq_getElem hi, hxi]
  have h2 : st[i]? = some (st[i]'(by omega)) := List.getElem?_eq_getElem (by omega)
  exact (h.each i x _ h1 h2).2.blkLt k hk
theorem Stack.rowLt {w : World} {B : Nat} {v : Value} {l : List (Value × Nat)} {st : List (List Goss.F × Nat)} (h : Stack w B v l st) : ∀ k, v.ownBlock = some k → k < w.heap.size :=
  fun k hk => (World.ownsRow.lt h.row k hk).2
/-- Two parts more on top of a stack. -/
theorem Stack.push {w : World} {B : Nat} {v : Value} {l : List (Value × Nat)} {st : List (List Goss.F × Nat)} {v1 v2 : Value} {p1 p2 : List Goss.F} {b : Nat}
    (hrow : w.ownsRow B 141 2 v (l.length + 2) (partCells l ++ [v1, .int .i64 (b : Int), v2, .int .i64 (b : Int)])) (hlen : l.length = st.length)
    (heach : ∀ (i : Nat) (x : Value × Nat) (y : List Goss.F × Nat), l.reverse[i]? = some x → st[i]? = some y → x.2 = y.2 ∧ Sl w x.1 y.1) (h1 : Sl w v1 p1) (h2 : Sl w v2 p2) :
    Stack w B v (l ++ [(v1, b), (v2, b)]) ((p2, b) :: (p1, b) :: st) := by
  refine ⟨?_, by simp [hlen], ?_⟩
  · rw [partCells_append]
    simpa [partCells] using hrow
  · intro i x y hx hy
    rw [List.reverse_append] at hx
    rcases i with _ | _ | i
    · simp at hx hy; subst hx; subst hy; exact ⟨rfl, h2⟩
    · simp at hx hy; subst hx; subst hy; exact ⟨rfl, h1⟩
    · exact heach i x y hx hy

set_option maxRecDepth 100000 in
set_option maxHeartbeats 4000000 in
theorem found_any (vp : Value) (ps : List Goss.F) (w : World) (hp : Sl w vp ps) (hlp : ps.length ≤ 1000000) (h12 : (Goss.foundP ps).length ≤ 49) :
    Calls Try.prog 81 #[vp] w (New (Goss.foundP ps) w) := by
  generalize hB : w.heap.size = B at *
  have HB := Lib.hid hB; clear hB
  obtain ⟨p0, c0, rfl⟩ := hp.shape
  obtain ⟨R, hR⟩ : ∃ R, Goss.foundP ps = R := ⟨_, rfl⟩
  rw [hR] at h12 ⊢
  have H12 := Lib.hid h12; clear h12
  have HR := Lib.hid hR; clear hR
  go_enter Try.func81, Try.ntmps81
  have hst0 : Stack (w.alloc (.cells #[.slice p0 ps.length c0, .int .i64 ((0 : Nat) : Int)] 141)) B (.slice (some ⟨w.heap.size, 0, none⟩) 1 1) [(.slice p0 ps.length c0, 0)] [(ps, 0)] := by
    refine ⟨?_, rfl, ?_⟩
    · have := World.ownsRow_lit (base := B) (e := 141) (size := 2) w #[.slice p0 ps.length c0, .int .i64 ((0 : Nat) : Int)] 1 (by rw [HB.out]; exact Nat.le_refl _) (by unfold maxLen; omega) rfl
      exact this
    · intro i x y hx hy
      rcases i with _ | i
      · simp at hx hy
        subst hx; subst hy
        exact ⟨rfl, hp.below ((Below.refl _ _).alloc (Nat.le_refl _) _)⟩
      · simp at hx
  have hB0 : Below B w (w.alloc (.cells #[.slice p0 ps.length c0, .int .i64 ((0 : Nat) : Int)] 141)) := (Below.refl _ _).alloc (by rw [HB.out]; exact Nat.le_refl _) _
  obtain ⟨R1, hR1⟩ : ∃ x, Goss.foundLoop 8589934592 [(ps, 0)] [] = x := ⟨_, rfl⟩
  have HR1 : Hid (Goss.sortF R1 = R) := by rw [← hR1]; exact HR.out
  have hw0 : total [(ps, 0)] = 8589934591 := rfl
  have hF0 : Hid (Goss.foundLoop (8589934591 + 1) [(ps, 0)] [] = R1) := hR1
  clear hR1 hw0
  have hap0 : Apart (.slice none 0 0) (.slice (some ⟨w.heap.size, 0, none⟩) 1 1) := by
    intro k h1 _
    cases h1
  have hapl0 : Hid (∀ x ∈ [((Value.slice p0 ps.length c0), 0)], Apart (.slice none 0 0) x.1 ∧ Apart (.slice (some ⟨w.heap.size, 0, none⟩) 1 1) x.1) := by
    intro x hx
    simp at hx
    subst hx
    refine ⟨?_, ?_⟩
    · intro k h1 _
      cases h1
    · intro k h1 h2
      cases h1
      exact absurd (hp.blkLt _ h2) (Nat.lt_irrefl _)
  go_wp2_with fail
  go_loopg [3, 4] 8589934591 (fun gk vo vs wr => ∃ (out : List Goss.F) (st : List (List Goss.F × Nat)) (l : List (Value × Nat)), Own wr B vo out ∧ Stack wr B vs l st ∧ Hid (total st = gk) ∧ Hid (∀ x ∈ st, x.2 ≤ 32) ∧ Hid (∀ x ∈ st, x.1.length ≤ 1000000) ∧ out.length + gk ≤ 8589934591 ∧ Hid (Goss.foundLoop (gk + 1) st out = R1) ∧ Below B w wr ∧ Apart vo vs ∧ Hid (∀ x ∈ l, Apart vo x.1 ∧ Apart vs x.1))
  case atStart =>
    exact ⟨[], [(ps, 0)], _, Own.nil _ _, hst0, rfl, fun x hx => by simp at hx; subst hx; exact Nat.zero_le _, fun x hx => by simp at hx; subst hx; exact hlp, by simp, hF0, hB0, hap0, hapl0⟩
  case round =>
    clear hst0 hB0 hF0 hap0 hapl0
    obtain ⟨out, st, l, hown, hst, hgk, hbits, hlens, hsum, hx, hbw, hap, hapl⟩ := hrel
    obtain ⟨po, co, rfl⟩ := hown.sl.shape
    have hzB : B ≤ wr.heap.size := by rw [← HB.out]; exact hbw.size
    cases st with
    | nil =>
      have hl0 : l = [] := List.eq_nil_of_length_eq_zero hst.len
      subst hl0
      obtain ⟨pv, cv, rfl⟩ := hst.empty
      have hgk0 : gk = 0 := hgk.out.symm
      subst hgk0
      have hR1 : out = R1 := hx.out
      have HRf : Hid (Goss.sortF out = R) := by rw [hR1]; exact HR1.out
      clear hR1 hx hgk hst hap hapl hbits hlens
      have hshape := hown.shape
      rcases hshape with ⟨he, h0⟩ | ⟨g, c, he, hg1, hg2, hg3, hg4⟩
      · rw [he] at hown ⊢
        subst h0
        clear he
        go_wp2_with fail
        refine (sort_none _).mono ?_
        rintro e w3 ⟨rfl, rfl⟩
        go_wp2
        go_ret
        have h1 : ([] : List Goss.F) = R := HRf.out
        rw [← h1]
        exact ⟨_, rfl, Own.nil _ _, by rw [HB.out]; exact hbw⟩
      · rw [he] at hown ⊢
        clear he hg3 hg4
        have hsrt := sort_fifty B g _ c out wr hown (by have h1 := HRf.out; have h2 := Goss.sortF_length out; rw [h1] at h2; have := H12.out; omega)
        rw [HRf.out] at hsrt
        go_wp2_with fail
        refine hsrt.mono ?_
        rintro e w3 ⟨rfl, ho3, hg3⟩
        have hbw3 : Below B w w3 := hbw.grown hg3 hzB (fun k hk => by cases hk; exact hg1)
        go_wp2
        go_ret
        exact ⟨_, rfl, by rw [HB.out]; exact ho3, by rw [HB.out]; exact hbw3⟩
    | cons x st =>
      obtain ⟨p, b⟩ := x
      obtain ⟨g, c, vp1, l', rfl, hgB, hgw, hnc, hcm, hc0, hc1, hsl, hst', hl⟩ := hst.top
      have hpl := hlens.out _ (List.mem_cons_self ..)
      have hbb := hbits.out _ (List.mem_cons_self ..)
      simp only at hpl hbb
      have hap' : Apart (.slice po out.length co) (.slice (some ⟨g, 0, none⟩) st.length c) := fun k h1 h2 => hap k h1 h2
      have hapl' : Hid (∀ x ∈ l', Apart (.slice po out.length co) x.1 ∧ Apart (.slice (some ⟨g, 0, none⟩) st.length c) x.1) := fun x hx => ⟨(hapl.out x (by rw [hl]; exact List.mem_append_left _ hx)).1, fun k h1 h2 => (hapl.out x (by rw [hl]; exact List.mem_append_left _ hx)).2 k h1 h2⟩
      have hapx : Apart (.slice po out.length co) vp1 := (hapl.out (vp1, b) (by rw [hl]; exact List.mem_append_right _ (List.mem_cons_self ..))).1
      clear hl hap hapl
      have hgk1 : st.length ≤ total st := total_len st fun y hy => hbits.out y (List.mem_cons_of_mem _ hy)
      have hgk2 := hgk.out
      have hwp := wt_pos b hbb
      simp only [total] at hgk2
      have hsl63 : st.length ≤ 8589934591 := by omega
      have Hgk1 := Lib.hid hgk1; have Hgk2 := Lib.hid hgk2; have Hwp := Lib.hid hwp
      clear hgk1 hgk2 hwp
      obtain ⟨pp, cp, rfl⟩ := hsl.shape
      generalize hm : st.length = m at *
      have Hm := Lib.hid hm; clear hm
      have hc0' : wr.cell? ⟨g, m * 2, none⟩ = some (.slice pp p.length cp) := hc0
      have hpos : decide ((0 : Int) < ((m + 1 : Nat) : Int)) = true := decide_eq_true (by omega)
      have hm1 : ((m + 1 : Nat) : Int) - 1 = (m : Int) := by omega
      have hbA : Below wr.heap.size wr (wr.alloc (.cells #[.slice pp p.length cp, .int .i64 (b : Int)] 141)) := (Below.refl _ wr).alloc (Nat.le_refl _) _
      have hpc := pair_cells wr (.slice pp p.length cp) (.int .i64 (b : Int)) 141
      have hdeg := degree_any _ p _ (hsl.below hbA)
      change Calls _ _ _ _ (Gives (.int .i64 ((Goss.dlen p : Int) - 1)) _) at hdeg
      have hstA := hst'.below hbA
      have hownA := hown.below hbA
      have hslA := hsl.below hbA
      have hbwA := hbw.trans (hbA.mono hzB)
      have hX : (wr.alloc (.cells #[.slice pp p.length cp, .int .i64 (b : Int)] 141)).heap.size = wr.heap.size + 1 := by simp
      go_wp2_with fail
      refine hdeg.mono ?_
      rintro e w2 ⟨rfl, hb2⟩
      have hk0 : w2.cell? ⟨wr.heap.size, 0, none⟩ = some (.slice pp p.length cp) := (hb2.cell (p := ⟨wr.heap.size, 0, none⟩) (by rw [hX]; exact Nat.lt_succ_self _)).trans hpc.1
      have hk1 : w2.cell? ⟨wr.heap.size, 1, none⟩ = some (.int .i64 (b : Int)) := (hb2.cell (p := ⟨wr.heap.size, 1, none⟩) (by rw [hX]; exact Nat.lt_succ_self _)).trans hpc.2
      have hst2 := hstA.below hb2
      have hown2 := hownA.below hb2
      have hsl2 := hslA.below hb2
      have hbw2 := hbwA.trans (hb2.mono (by rw [← HB.out]; exact hbwA.size))
      have hz2 : B ≤ w2.heap.size := by rw [← HB.out]; exact hbw2.size
      obtain ⟨X, hXX⟩ : ∃ X, X = wr.heap.size := ⟨_, rfl⟩
      rw [← hXX] at hk0 hk1 ⊢
      clear hdeg hstA hownA hslA hbwA hpc hbA hX hb2 hc0 hc0' hc1 hst hst' hsl hown hbw hzB hXX hgw
      clear wr
      obtain ⟨d, hd⟩ : ∃ d, Goss.dlen p = d := ⟨_, rfl⟩
      have hdl : d ≤ p.length := by rw [← hd]; exact tlen_le p p.length
      rw [hd]
      have Hd := Lib.hid hd; clear hd
      by_cases hd2 : d = 2
      · subst hd2
        have hx1 : Hid (Goss.foundLoop (gk + 1) ((p, b) :: st) out = Goss.foundLoop gk st (out ++ [(p[0]?).getD 0#32])) := by
          show _ = _
          rw [Goss.foundLoop, if_pos Hd.out]
        obtain ⟨bb, oo, x0, rfl, hx0, hxc⟩ := hsl2.read (k := 0) (by omega)
        have Hx0 := Lib.hid hx0; clear hx0
        have hxc' : w2.cell? ⟨bb, oo, none⟩ = some (.int .u32 x0.toNat) := hxc
        have hpl0 : (0 : Int) < (p.length : Int) := by omega
        clear hxc
        have hb3 : Below w2.heap.size w2 (w2.alloc (.cells #[.int .u32 (x0.toNat : Int)] 55)) := (Below.refl _ _).alloc (Nat.le_refl _) _
        have hown3 := hown2.below hb3
        have hst3 := hst2.below hb3
        have hbw3 := hbw2.trans (hb3.mono hz2)
        have hone := Sl.one w2 x0
        have hsum' : out.length + 1 ≤ 35184372088832 := by omega
        go_wp2_with (at_builtin; go_must (refine app_own2 rfl _ _ rfl B _ out rfl hown3 _ [x0] rfl hone hsum' (by simp; omega) ?_); intro v4 w4 hown4 hg4 hv4)
        go_roundg (total st)
        case measure => have h1 := Hgk2.out; have h2 := Hwp.out; omega
        case rel =>
          have hbl := hbits.out
          have h1 := Hgk2.out
          have h2 := Hwp.out
          have hbw4 := grown_below hbw3 hown3 (by simp; omega) hg4
          refine ⟨out ++ [x0], st, l', hown4, hst3.grownA hg4 hap' (fun x hx => (hapl'.out x hx).1), rfl, fun y hy => hbl y (List.mem_cons_of_mem _ hy), fun y hy => hlens.out y (List.mem_cons_of_mem _ hy), by simp; omega, ?_, hbw4, ?_, ?_⟩
          · show _ = _
            have h3 := hx.out
            rw [hx1.out, Hx0.out] at h3
            rw [← h3]
            exact found_fuel _ _ _ (fun y hy => hbl y (List.mem_cons_of_mem _ hy)) (Nat.lt_succ_self _) _ (by omega)
          · exact apart_new hv4 hap' fun k hk => Nat.lt_of_lt_of_le (hst2.rowLt k hk) (by simp)
          · exact fun x hx => ⟨apart_new hv4 (hapl'.out x hx).1 fun k hk => Nat.lt_of_lt_of_le (hst2.eachLt x hx k hk) (by simp), (hapl'.out x hx).2⟩
      · have hd2' : (((d : Nat) : Int) - 1 == 1) = false := by rw [beq_eq_false_iff_ne]; omega
        by_cases hgo : 2 < d ∧ b < 32
        · obtain ⟨hg2, hg32⟩ := hgo
          have hdec1 : decide ((1 : Int) < (d : Int) - 1) = true := decide_eq_true (by omega)
          have hdec2 : decide ((b : Int) < 32) = true := decide_eq_true (by omega)
          have hnz : Goss.trim p ≠ [] := by
            intro e
            have h1 := trim_length p
            have h2 : Goss.tlen p p.length = d := Hd.out
            rw [e, h2] at h1
            simp at h1
            omega
          have hpart := parted_any (.slice pp p.length cp) p b w2 hsl2 hpl hnz hg32
          have hx1 : Hid (Goss.foundLoop (gk + 1) ((p, b) :: st) out = Goss.foundLoop gk ((Goss.partTwo p b, b + 1) :: (Goss.partOne p b, b + 1) :: st) out) := by
            show _ = _
            have h2 : Goss.dlen p = d := Hd.out
            rw [Goss.foundLoop, h2, if_neg hd2, if_pos ⟨hg2, hg32⟩]
          have hl1 : (Goss.partOne p b).length ≤ p.length := by
            have h1 := Goss.commonP_len p (Goss.tracesP p (1#32 <<< b))
            have h2 := tracesP_len p (1#32 <<< b) hnz
            show (Goss.commonP p _).length ≤ _
            omega
          have hl2 : (Goss.partTwo p b).length ≤ p.length := by
            have h0 : Goss.trim (Goss.partOne p b) ≠ [] := Goss.commonP_nonzero _ _ hnz
            have h1 := Goss.monicP_len (Goss.divT p (Goss.trim (Goss.partOne p b))).1
            have h2 := Goss.divT_quot_len p (Goss.trim (Goss.partOne p b)) h0 (Goss.trim_trim' _)
            show (Goss.monicP _).length ≤ _
            omega
          obtain ⟨q1, hq1⟩ : ∃ x, Goss.partOne p b = x := ⟨_, rfl⟩
          obtain ⟨q2, hq2⟩ : ∃ x, Goss.partTwo p b = x := ⟨_, rfl⟩
          rw [hq1, hq2] at hpart hx1
          rw [hq1] at hl1
          rw [hq2] at hl2
          clear hq1 hq2 hnz
          have Hl1 := Lib.hid hl1; have Hl2 := Lib.hid hl2
          clear hl1 hl2
          go_wp2_with fail
          refine hpart.mono ?_
          rintro e w3 ⟨g3, v1, v2, rfl, hg3, hg3b, ho1, ho2, hb3⟩
          have hst3 := hst2.below hb3
          have hown3 := hown2.below hb3
          have hbw3 := hbw2.trans (hb3.mono hz2)
          have hz3 : w2.heap.size ≤ w3.heap.size := hb3.size
          have hzB3 : B ≤ w3.heap.size := Nat.le_trans hz2 hz3
          obtain ⟨n1, m1, rfl⟩ := ho1.sl.shape
          obtain ⟨n2, m2, rfl⟩ := ho2.sl.shape
          obtain ⟨i0, hi, hz0, hzs, hzb⟩ := info_parts infoPart
          have hllen := hst3.len
          have hll : l'.length = m := by rw [hllen, Hm.out]
          have hrow3 := hst3.row
          have hgw2 : g < w2.heap.size := hst2.rowLt g rfl
          have hlt2 := hst2.eachLt
          have holt := hown2.sl.blkLt
          have Hlt2 := Lib.hid hlt2; have Holt := Lib.hid holt; clear hlt2 holt
          rw [hll] at hrow3
          clear hpart hb3 hst2 hown2 hbw2 hk0 hk1 hsl2
          have Hll := Lib.hid hll
          have Hllen := Lib.hid hllen
          clear hll hllen
          go_wp2_with (at_builtin; go_must (refine wpList_append_own2 _ rfl _ _ 142 rfl B 141 i0 _ 2 32 Try.underlying142 hi hz0 hzs hzb rfl (by decide) _ m (partCells l') rfl hrow3 ⟨g3, 0, none⟩ 2 2 [.slice n1 q1.length m1, .int .i64 ((b + 1 : Nat) : Int), .slice n2 q2.length m2, .int .i64 ((b + 1 : Nat) : Int)] rfl rfl ?_ ?_ (by unfold maxLen; omega) (by omega) hzB3 ?_))
          · intro j u hj
            rw [addr_add, Nat.zero_add, cell_of_row _ _ _ _ _ (0, 0) hg3b]
            simpa using hj
          · intro u hu
            simp at hu
            rcases hu with rfl | rfl | rfl | rfl <;> rfl
          · intro v4 w4 hrow4 hg4 hv4
            go_wp2
            go_roundg (wt (b + 1) + wt (b + 1) + total st)
            case measure => have h1 := Hgk2.out; have h2 := wt_split b hg32; omega
            case rel =>
              have hbl := hbits.out
              have h1 := Hgk2.out
              have h2 := wt_split b hg32
              have hbw4 : Below B w w4 := hbw3.grown hg4 hzB3 (fun k hk => by cases hk; exact hgB)
              have ha1 : Apart (.slice (some ⟨g, 0, none⟩) m c) (.slice n1 q1.length m1) := by
                intro k e1 e2
                cases e1
                have h9 : w2.heap.size ≤ g := (World.ownsRow.lt ho1 _ e2).1
                omega
              have ha2 : Apart (.slice (some ⟨g, 0, none⟩) m c) (.slice n2 q2.length m2) := by
                intro k e1 e2
                cases e1
                have h9 : w2.heap.size ≤ g := (World.ownsRow.lt ho2 _ e2).1
                omega
              have hb1 : Apart (.slice po out.length co) (.slice n1 q1.length m1) := by
                intro k e1 e2
                have h3 := Holt.out k e1
                have := (World.ownsRow.lt ho1 _ e2).1
                omega
              have hb2 : Apart (.slice po out.length co) (.slice n2 q2.length m2) := by
                intro k e1 e2
                have h3 := Holt.out k e1
                have := (World.ownsRow.lt ho2 _ e2).1
                omega
              have hs1 : Sl w4 (.slice n1 q1.length m1) q1 := ho1.sl.grownA hg4 ha1
              have hs2 : Sl w4 (.slice n2 q2.length m2) q2 := ho2.sl.grownA hg4 ha2
              have hpush := Stack.push (l := l') (st := st) (v1 := .slice n1 q1.length m1) (v2 := .slice n2 q2.length m2) (p1 := q1) (p2 := q2) (b := b + 1) (by rw [Hll.out]; exact hrow4) Hllen.out (fun i x y hxi hyi => ⟨(hst3.each i x y hxi hyi).1, (hst3.each i x y hxi hyi).2.grownA hg4 (hapl'.out x (List.mem_reverse.1 (List.mem_of_getElem? hxi))).2⟩) hs1 hs2
              have hown4 : Own w4 B (.slice po out.length co) out := hown3.grownA hg4 hap'.symm
              have hlt3 : ∀ x ∈ l' ++ [((Value.slice n1 q1.length m1), b + 1), ((Value.slice n2 q2.length m2), b + 1)], ∀ k, x.1.ownBlock = some k → k < w3.heap.size := by
                intro x hx k hk
                rcases List.mem_append.1 hx with hx | hx
                · exact Nat.lt_of_lt_of_le (Hlt2.out x hx k hk) hz3
                · simp at hx
                  rcases hx with rfl | rfl
                  · exact ho1.sl.blkLt k hk
                  · exact ho2.sl.blkLt k hk
              refine ⟨out, _, _, hown4, hpush, by show _ = _; simp only [total]; omega, ?_, ?_, by omega, ?_, hbw4, ?_, ?_⟩
              · intro y hy
                rcases List.mem_cons.1 hy with rfl | hy
                · show b + 1 ≤ 32; omega
                · rcases List.mem_cons.1 hy with rfl | hy
                  · show b + 1 ≤ 32; omega
                  · exact hbl y (List.mem_cons_of_mem _ hy)
              · intro y hy
                have h4 := Hl1.out
                have h5 := Hl2.out
                rcases List.mem_cons.1 hy with rfl | hy
                · show q2.length ≤ _; omega
                · rcases List.mem_cons.1 hy with rfl | hy
                  · show q1.length ≤ _; omega
                  · exact hlens.out y (List.mem_cons_of_mem _ hy)
              · show _ = _
                have h3 := hx.out
                rw [hx1.out] at h3
                rw [← h3]
                refine found_fuel _ _ _ ?_ (by simp only [total]; omega) _ (by simp only [total]; omega)
                intro y hy
                rcases List.mem_cons.1 hy with rfl | hy
                · show b + 1 ≤ 32; omega
                · rcases List.mem_cons.1 hy with rfl | hy
                  · show b + 1 ≤ 32; omega
                  · exact hbl y (List.mem_cons_of_mem _ hy)
              · exact (apart_new hv4 hap'.symm fun k hk => Nat.lt_of_lt_of_le (Holt.out k hk) hz3).symm
              · intro x hx
                refine ⟨?_, apart_new hv4 ?_ (hlt3 x hx)⟩
                · rcases List.mem_append.1 hx with hx | hx
                  · exact (hapl'.out x hx).1
                  · simp at hx
                    rcases hx with rfl | rfl
                    · exact hb1
                    · exact hb2
                · rcases List.mem_append.1 hx with hx | hx
                  · exact (hapl'.out x hx).2
                  · simp at hx
                    rcases hx with rfl | rfl
                    · exact ha1
                    · exact ha2
        · have hx1 : Hid (Goss.foundLoop (gk + 1) ((p, b) :: st) out = Goss.foundLoop gk st out) := by
            show _ = _
            have h2 : Goss.dlen p = d := Hd.out
            rw [Goss.foundLoop, h2, if_neg hd2, if_neg hgo]
          have hfin : ∀ w3, w3 = w2 → ∃ (out' : List Goss.F) (st' : List (List Goss.F × Nat)) (l : List (Value × Nat)), Own w3 B (.slice po out.length co) out' ∧ Stack w3 B (.slice (some ⟨g, 0, none⟩) m c) l st' ∧ Hid (total st' = total st) ∧ Hid (∀ x ∈ st', x.2 ≤ 32) ∧ Hid (∀ x ∈ st', x.1.length ≤ 1000000) ∧ out'.length + total st ≤ 8589934591 ∧ Hid (Goss.foundLoop (total st + 1) st' out' = R1) ∧ Below B w w3 ∧ Apart (.slice po out.length co) (.slice (some ⟨g, 0, none⟩) m c) ∧ Hid (∀ x ∈ l, Apart (.slice po out.length co) x.1 ∧ Apart (.slice (some ⟨g, 0, none⟩) m c) x.1) := by
            rintro w3 rfl
            have hbl := hbits.out
            have h1 := Hgk2.out
            have h2 := Hwp.out
            refine ⟨out, st, l', hown2, hst2, rfl, fun y hy => hbl y (List.mem_cons_of_mem _ hy), fun y hy => hlens.out y (List.mem_cons_of_mem _ hy), by omega, ?_, hbw2, hap', hapl'⟩
            show _ = _
            have h3 := hx.out
            rw [hx1.out] at h3
            rw [← h3]
            exact found_fuel _ _ _ (fun y hy => hbl y (List.mem_cons_of_mem _ hy)) (Nat.lt_succ_self _) _ (by omega)
          have Hfin := Lib.hid hfin; clear hfin
          by_cases hd3 : 2 < d
          · have hdec1 : decide ((1 : Int) < (d : Int) - 1) = true := decide_eq_true (by omega)
            have hdec2 : decide ((b : Int) < 32) = false := decide_eq_false (by omega)
            go_wp2
            go_roundg (total st)
            case measure => have h1 := Hgk2.out; have h2 := Hwp.out; omega
            case rel =>
              obtain ⟨a1, a2, a3, h1, h2, h3, h4, h5, h6, h7, h8, h9, h10⟩ := Hfin.out _ rfl
              exact ⟨a1, a2, a3, h1, h2, h3, h4, h5, h6, h7, h8, h9, h10⟩
          · have hdec1 : decide ((1 : Int) < (d : Int) - 1) = false := decide_eq_false (by omega)
            go_wp2
            go_roundg (total st)
            case measure => have h1 := Hgk2.out; have h2 := Hwp.out; omega
            case rel =>
              obtain ⟨a1, a2, a3, h1, h2, h3, h4, h5, h6, h7, h8, h9, h10⟩ := Hfin.out _ rfl
              exact ⟨a1, a2, a3, h1, h2, h3, h4, h5, h6, h7, h8, h9, h10⟩
end Go.Proofs.Ythglbipcfhdoaaa
