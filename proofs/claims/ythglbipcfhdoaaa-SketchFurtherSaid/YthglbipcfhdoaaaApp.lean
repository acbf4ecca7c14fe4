/- Append and make, said of lists of field elements. -/
import Derived.Test.YthglbipcfhdoaaaBy
import Derived.Laws.AppendOwnNone
import Derived.Lib.AppendZeros
namespace Go.Proofs.Ythglbipcfhdoaaa
open Go.RowKit

theorem infoU : (Try.prog.info? 55).map (fun i => (i.zero, i.size, i.bytes)) = some (some (.int .u32 0), 1, 4) := by kernel_rfl

theorem encs_one (xs : List Goss.F) : ∀ u ∈ xs.map enc, u.oneCell' = true := by
  intro u hu
  obtain ⟨x, _, rfl⟩ := List.mem_map.1 hu
  rfl
theorem addr_add (b o j : Nat) : (⟨b, o, none⟩ : Addr).add j = ⟨b, o + j, none⟩ := by
  unfold Addr.add
  split <;> simp_all

/-- 'append(s, x...)' onto a row of the call's own; what is appended reads as ys. -/
theorem app_own {w : World} {ops : Array Oper} {rest : List Oper} {o : Oper} {a : Act} {Q : Exit → Act → World → Prop} (hgd : o.guard = none) (s x : Operand)
    (ho : o.op = .call { callee := .builtin .append, args := #[s, x], argTypes := #[22, 22] })
    (B : Nat) (v : Value) (xs : List Goss.F) (hs : a.eval s = v) (hown : Own w B v xs)
    (vs : Value) (ys : List Goss.F) (hx : a.eval x = vs) (hys : Sl w vs ys)
    (hlen : xs.length + ys.length ≤ 35184372088832) (hbase : B ≤ w.heap.size)
    (h : ∀ v' w', Own w' B v' (xs ++ ys) → w.grownBy w' v.ownBlock → (v' = .slice none 0 0 ↔ v = .slice none 0 0 ∧ ys.length = 0) → wpList Try.prog ops Q rest (a.put o.dst v') w') :
    wpList Try.prog ops Q (o :: rest) a w := by
  obtain ⟨i0, hi, hz0, hz1, hz2⟩ := info_parts infoU
  have hl := hys.len'
  obtain ⟨p, n, c, rfl, h2, h3, h4, h5⟩ := hys
  rcases h5 with ⟨rfl, h0, rfl⟩ | ⟨b, of, rfl, hlt, hc⟩
  · have : ys = [] := List.eq_nil_of_length_eq_zero (by omega)
    subst this
    obtain rfl : n = 0 := by omega
    refine wpList_append_own_none hgd s x 22 ho B 55 i0 1 Try.underlying22 hi v _ _ hs hown hx ?_
    refine h v w (by simpa using hown) ⟨rfl, rfl, rfl, Nat.le_refl _, fun _ _ _ => rfl⟩ (by simp)
  · subst h2
    refine wpList_append_own w hgd s x 22 ho B 55 i0 (.int .u32 0) 1 4 Try.underlying22 hi hz0 hz1 hz2 rfl (by decide) v xs.length (xs.map enc) hs hown ⟨b, of, none⟩ ys.length c (ys.map enc) hx (by simp) ?_ (encs_one ys) (by unfold maxLen; omega) (by omega) hbase ?_
    · intro j u hj
      rw [List.getElem?_map] at hj
      cases hy : ys[j]? with
      | none => rw [hy] at hj; cases hj
      | some y =>
        rw [hy] at hj
        cases hj
        rw [addr_add]
        exact hc j y hy
    · intro v' w' h1 h2 h3
      refine h v' w' ?_ h2 h3
      unfold Own
      rw [List.length_append, List.map_append]
      exact h1

/-- A slice that was just written out with one element. -/
theorem Sl.one (w : World) (x : Goss.F) : Sl (w.alloc (.cells #[.int .u32 (x.toNat : Int)] 55)) (.slice (some ⟨w.heap.size, 0, none⟩) 1 1) [x] := by
  refine ⟨_, _, _, rfl, rfl, Nat.le_refl _, by unfold maxLen; omega, .inr ⟨w.heap.size, 0, rfl, by simp, ?_⟩⟩
  intro i y hi
  rw [Nat.zero_add, cell_of_row (w.alloc _) w.heap.size i _ _ (0, 0) (heap_alloc_new w _)]
  rcases i with _ | i
  · simp at hi; subst hi; rfl
  · simp at hi
/-- .. with two. -/
theorem Sl.two (w : World) (x y : Goss.F) : Sl (w.alloc (.cells #[.int .u32 (x.toNat : Int), .int .u32 (y.toNat : Int)] 55)) (.slice (some ⟨w.heap.size, 0, none⟩) 2 2) [x, y] := by
  refine ⟨_, _, _, rfl, rfl, Nat.le_refl _, by unfold maxLen; omega, .inr ⟨w.heap.size, 0, rfl, by simp, ?_⟩⟩
  intro i z hi
  rw [Nat.zero_add, cell_of_row (w.alloc _) w.heap.size i _ _ (0, 0) (heap_alloc_new w _)]
  rcases i with _ | _ | i
  · simp at hi; subst hi; rfl
  · simp at hi; subst hi; rfl
  · simp at hi
/-- A row that was just written out. -/
theorem Own.made (w : World) (B : Nat) (xs : List Goss.F) (hB : B ≤ w.heap.size) (hl : xs.length ≤ maxLen) :
    Own (w.alloc (.cells (xs.map enc).toArray 55)) B (.slice (some ⟨w.heap.size, 0, none⟩) xs.length xs.length) xs := by
  have := World.ownsRow_lit (base := B) (e := 55) (size := 1) w (xs.map enc).toArray xs.length hB hl (by simp)
  simpa [Own] using this
theorem Own.empty (w : World) (B : Nat) (hB : B ≤ w.heap.size) : Own (w.alloc (.cells #[] 55)) B (.slice (some ⟨w.heap.size, 0, none⟩) 0 0) [] :=
  Own.made w B [] hB (Nat.zero_le _)

/-- 'make([]uint32, n)'. -/
theorem mk_own {w : World} {ops : Array Oper} {rest : List Oper} {o : Oper} {a : Act} {Q : Exit → Act → World → Prop} (hgd : o.guard = none) (l c : Operand)
    (hop : o.op = Op.makeSlice 22 l c) (B : Nat) (kl kc : IntKind) (L C : Int) (n : Nat) (hl : a.eval l = .int kl L) (hc : a.eval c = .int kc C) (hL : L = (n : Int)) (hC : C = (n : Int))
    (hn : n ≤ 35184372088832) (hB : B ≤ w.heap.size)
    (h : ∀ w', Own w' B (.slice (some ⟨w.heap.size, 0, none⟩) n n) (List.replicate n 0#32) → w.grownBy w' none → wpList Try.prog ops Q rest (a.put o.dst (.slice (some ⟨w.heap.size, 0, none⟩) n n)) w') :
    wpList Try.prog ops Q (o :: rest) a w := by
  obtain ⟨i0, hi, hz0, hz1, hz2⟩ := info_parts infoU
  refine wpList_make_full w hgd l c 22 hop B 55 i0 (.int .u32 0) 1 Try.underlying22 hi hz0 hz1 kl kc L C n hl hc hL hC (by rw [hz2]; omega) (by unfold maxLen; omega) hB ?_
  intro w' h1 h2
  refine h w' ?_ h2
  unfold Own
  rw [List.length_replicate, List.map_replicate]
  have : (madeCells (Value.int .u32 0).cells (n * 1)).toList = List.replicate n (enc 0#32) := by
    rw [Nat.mul_one]; exact toList_madeCells_one _ n
  rw [← this]
  exact h1

theorem grown_refl' (w : World) (row : Option Nat) : w.grownBy w row := ⟨rfl, rfl, rfl, Nat.le_refl _, fun _ _ _ => rfl⟩
theorem zeros_eq (n : Nat) : (Builtin.zeroCells (Value.int .u32 0).cells n).toList = List.replicate n (enc 0#32) := by
  apply List.ext_getElem?
  intro j
  by_cases hj : j < n
  · simp [Builtin.zeroCells, hj, Value.cells, Nat.mod_one]
  · simp [Builtin.zeroCells, hj, Value.cells]

theorem run_zeros0 (w : World) (ty : TypeId) (p : Option Addr) (m c : Nat) (hm : m ≤ c) :
    (Builtin.append_ #[22, 3] ty #[.slice p m c, .int .i64 ((0 : Nat) : Int)]).run Try.prog w = .ok (.slice p m c) w := by
  obtain ⟨i, hi, hz, hs1, hb4⟩ := info_parts infoU
  have ht := Try.underlying22
  have htn := Try.underlying3
  have hw : IntKind.i64.wrap 0 = 0 := by decide
  cases p <;> simp [Builtin.append_, run_underlying ht, run_underlying htn, sizeOf, typeInfo, hi, asInt, asIntOf, hw, hm, storeCells]

theorem run_zeros_room (w : World) (ty : TypeId) (g m c n : Nat) (cur : Array Value) (hg : w.heap[g]? = some (.cells cur 55 (0, 0))) (hn : 0 < n) (hb : n ≤ 35184372088832) (hroom : m + n ≤ c) (hcs : c ≤ cur.size) :
    (Builtin.append_ #[22, 3] ty #[.slice (some ⟨g, 0, none⟩) m c, .int .i64 (n : Int)]).run Try.prog w =
      .ok (.slice (some ⟨g, 0, none⟩) (m + n) c) (w.setRow g (cur.toList.take m ++ List.replicate n (enc 0#32) ++ cur.toList.drop (m + n)).toArray) := by
  obtain ⟨i, hi, hz, hs1, hb4⟩ := info_parts infoU
  have ht := Try.underlying22
  have htn := Try.underlying3
  have hw : IntKind.i64.wrap (n : Int) = n := by rw [IntKind.wrap_i64]; omega
  have hneg : ¬ ((n : Int) < 0) := by omega
  have h48i : ¬ (281474976710656 < (n : Int) * (4 : Int)) := by omega
  have hn0 : n ≠ 0 := by omega
  have hst := run_storeCells_at Try.prog g m 55 (List.replicate n (enc 0#32)) 0 cur w hg (by simp; omega) (by intro u hu; rw [List.eq_of_mem_replicate hu]; rfl)
  simp only [Nat.add_zero, List.length_replicate] at hst
  have hz' := zeros_eq n
  simp [Builtin.append_, run_underlying ht, run_underlying htn, sizeOf, typeInfo, zeroValue, hi, hz, asInt, asIntOf, hw, hneg, hs1, hb4, h48i, hn0, hroom, Addr.add_lit, hz', hst]

theorem run_zeros_grow (w : World) (ty : TypeId) (g m c n : Nat) (olds : List Value) (hlo : olds.length = m) (holds : ∀ j v, olds[j]? = some v → w.cell? ((⟨g, 0, none⟩ : Addr).add j) = some v) (hn : 0 < n) (hb : m + n ≤ 35184372088832) (hgr : c < m + n) :
    (Builtin.append_ #[22, 3] ty #[.slice (some ⟨g, 0, none⟩) m c, .int .i64 (n : Int)]).run Try.prog w =
      .ok (.slice (some ⟨w.heap.size, 0, none⟩) (m + n) (grownCap w (m + n) c 55))
        (w.drew.alloc (.cells (olds.toArray ++ Builtin.zeroCells (Value.int .u32 0).cells n ++ Builtin.zeroCells (Value.int .u32 0).cells (grownCap w (m + n) c 55 - (m + n))) 55)) := by
  obtain ⟨i, hi, hz, hs1, hb4⟩ := info_parts infoU
  have ht := Try.underlying22
  have htn := Try.underlying3
  have hw : IntKind.i64.wrap (n : Int) = n := by rw [IntKind.wrap_i64]; omega
  have hneg : ¬ ((n : Int) < 0) := by omega
  have h48i : ¬ (281474976710656 < (n : Int) * (4 : Int)) := by omega
  have hn0 : n ≠ 0 := by omega
  have hroom : ¬ (m + n ≤ c) := by omega
  have h63' : ¬ (9223372036854775807 < ((m : Int) + (n : Int))) := by omega
  have h48' : ¬ (281474976710656 < Builtin.nextslicecap (m + n) c * 4) := by have := growslice_fits (need := m + n) (old := c) (bytes := 4) hgr (by omega); omega
  have hfo := run_firstCells_some (P := Try.prog) w.drew 1 m ⟨g, 0, none⟩ m c olds (by omega) (by simpa using holds)
  simp [Builtin.append_, run_underlying ht, run_underlying htn, sizeOf, typeInfo, zeroValue, hi, hz, asInt, asIntOf, hw, hneg, hs1, hb4, h48i, hn0, hroom, h63', h48', Question.forced, hfo, newRow, grownCap]

/-- 'append(s, make([]uint32, n)...)' onto a row of the call's own. -/
theorem run_zeros (w : World) (ty : TypeId) (B : Nat) (v : Value) (xs : List Goss.F) (hown : Own w B v xs) (n : Nat) (hlen : xs.length + n ≤ 35184372088832) (hB : B ≤ w.heap.size) :
    ∃ v' w', (Builtin.append_ #[22, 3] ty #[v, .int .i64 (n : Int)]).run Try.prog w = .ok v' w' ∧ Own w' B v' (xs ++ List.replicate n 0#32) ∧ w.grownBy w' v.ownBlock := by
  have hmap : (xs ++ List.replicate n 0#32).map enc = xs.map enc ++ List.replicate n (enc 0#32) := by rw [List.map_append, List.map_replicate]
  have hll : (xs ++ List.replicate n 0#32).length = xs.length + n := by simp
  rcases Nat.eq_zero_or_pos n with rfl | hn
  · obtain ⟨p, c, rfl⟩ := hown.sl.shape
    exact ⟨_, w, run_zeros0 w ty p _ c hown.sl.len.2.1, by simpa using hown, grown_refl' w _⟩
  have hcm : ∀ old, grownCap w (xs.length + n) old 55 ≤ maxLen := fun old => grownCap_le_maxLen w _ old _ (by unfold maxLen; omega)
  have one : (Value.int .u32 0).cells.size = 1 := rfl
  rcases hown.2 with ⟨rfl, h0⟩ | ⟨g, cap, cur, rfl, hbg, hg, hnc, hcm', hcs, htake⟩
  · have : xs = [] := List.eq_nil_of_length_eq_zero h0
    subst this
    obtain ⟨i, hi, hz, hs1, hb4⟩ := info_parts infoU
    have hr := Lib.run_append_nil_zeros (P := Try.prog) w 22 3 ty 55 i (.int .u32 0) .i64 .i64 Try.underlying22 Try.underlying3 hi hz n hn (by omega) (by simp at hlen; omega) (by rw [hb4]; simp at hlen; omega)
    have hge := grownCap_ge w n 0 55
    have hcm0 := hcm 0
    simp only [List.length_nil, Nat.zero_add] at hcm0
    refine ⟨_, _, hr, ⟨by simp, .inr ⟨w.heap.size, grownCap w n 0 55, _, by simp, hB, heap_alloc_new w.drew _, by simpa using hge, hcm0, ?_, ?_⟩⟩, ⟨rfl, rfl, rfl, by simp, fun k hk _ => Below.heap_alloc w.drew _ k (by simpa using hk)⟩⟩
    · simp only [Array.size_append, size_zeroCells, one]
      omega
    · rw [hll, hmap, Array.toList_append, zeros_eq, zeros_eq]
      simp
  · by_cases hroom : xs.length + n ≤ cap
    · refine ⟨_, _, run_zeros_room w ty g xs.length cap n cur hg hn (by omega) hroom (by omega), ⟨by simp, .inr ⟨g, cap, _, by rw [hll], hbg, setRow_heap w g cur _ _ _ hg, by rw [hll]; exact hroom, hcm', ?_, ?_⟩⟩, ⟨rfl, rfl, rfl, by simp, fun k _ hk => setRow_other w g k _ (fun e => hk (by simp [Value.ownBlock, e]))⟩⟩
      · simp only [List.size_toArray, List.length_append, List.length_take, List.length_drop, List.length_replicate, Array.length_toList]; omega
      · rw [hll, hmap]
        have e1 : cur.toList.take xs.length = xs.map enc := by rw [← htake, Nat.mul_one]
        rw [e1]
        have : (xs.map enc ++ List.replicate n (enc 0#32)).length = (xs.length + n) * 1 := by simp
        rw [← this]
        exact List.take_left
    · have holds : ∀ j u, (xs.map enc)[j]? = some u → w.cell? ((⟨g, 0, none⟩ : Addr).add j) = some u := World.ownsRow.cells hown (g := g) rfl
      have hge := grownCap_ge w (xs.length + n) cap 55
      refine ⟨_, _, run_zeros_grow w ty g xs.length cap n (xs.map enc) (by simp) holds hn (by omega) (by omega), ⟨by simp, .inr ⟨w.heap.size, grownCap w (xs.length + n) cap 55, _, by rw [hll], hB, heap_alloc_new w.drew _, by rw [hll]; exact hge, hcm cap, ?_, ?_⟩⟩, ⟨rfl, rfl, rfl, by simp, fun k hk _ => Below.heap_alloc w.drew _ k (by simpa using hk)⟩⟩
      · simp only [Array.size_append, size_zeroCells, one, List.size_toArray, List.length_map]
        omega
      · rw [hll, hmap, Array.toList_append, Array.toList_append, zeros_eq, zeros_eq]
        have : (xs.map enc ++ List.replicate n (enc 0#32)).length = (xs.length + n) * 1 := by simp
        rw [← this]
        exact List.take_left
/-- .. as an operation of a walk. -/
theorem app_zeros {w : World} {ops : Array Oper} {rest : List Oper} {o : Oper} {a : Act} {Q : Exit → Act → World → Prop} (hgd : o.guard = none) (s x : Operand)
    (ho : o.op = .call { callee := .builtin .append, args := #[s, x], argTypes := #[22, 3] })
    (B : Nat) (v : Value) (xs : List Goss.F) (hs : a.eval s = v) (hown : Own w B v xs) (L : Int) (n : Nat) (hx : a.eval x = .int .i64 L) (hL : L = (n : Int))
    (hlen : xs.length + n ≤ 35184372088832) (hB : B ≤ w.heap.size)
    (h : ∀ v' w', Own w' B v' (xs ++ List.replicate n 0#32) → w.grownBy w' v.ownBlock → wpList Try.prog ops Q rest (a.put o.dst v') w') :
    wpList Try.prog ops Q (o :: rest) a w := by
  subst hL
  obtain ⟨v', w', hr, h1, h2⟩ := run_zeros w o.type B v xs hown n hlen hB
  exact Lib.wpList_append_run w hgd s x _ _ ho _ _ hs hx v' w' hr (h v' w' h1 h2)

theorem grown_below {B : Nat} {w0 w w' : World} {v : Value} {xs : List Goss.F} (h0 : Below B w0 w) (hown : Own w B v xs) (hB : B ≤ w.heap.size) (hg : w.grownBy w' v.ownBlock) : Below B w0 w' :=
  h0.grown hg hB fun k hk => (World.ownsRow.lt hown k hk).1
end Go.Proofs.Ythglbipcfhdoaaa
