/- Package poly, first part: Degree, cut, Trim; slices.Clone. -/
import Derived.Test.YthglbipcfhdoaaaBy
import Derived.Laws.AppendOwnNone
import Derived.Lib.AppendZeros
namespace Go.Proofs.Ythglbipcfhdoaaa
open Go.RowKit

theorem tlen_le (a : List Goss.F) (n : Nat) : Goss.tlen a n ≤ n := by
  induction n with
  | zero => exact Nat.le_refl _
  | succ n ih => unfold Goss.tlen; split <;> omega

theorem tlen_succ (a : List Goss.F) (n : Nat) : Goss.tlen a (n + 1) = if a[n]? = some 0#32 then Goss.tlen a n else n + 1 := rfl

theorem zero_test (x : Goss.F) : (((x.toNat : Int)) == 0) = decide (x = 0#32) := by
  by_cases h : x = 0#32
  · subst h; rfl
  · rw [decide_eq_false h]
    have : x.toNat ≠ 0 := fun e => h (BitVec.eq_of_toNat_eq (by simpa using e))
    rw [beq_eq_false_iff_ne]; omega

set_option maxRecDepth 100000 in
set_option maxHeartbeats 400000 in
theorem degree_any (v : Value) (xs : List Goss.F) (w : World) (h : Sl w v xs) :
    Calls Try.prog 63 #[v] w (Gives (.int .i64 ((Goss.tlen xs xs.length : Int) - 1)) w) := by
  obtain ⟨p, c, rfl⟩ := h.shape
  have hl := h.len
  have hm : xs.length ≤ 9223372036854775807 := by unfold maxLen at hl; omega
  generalize hn : xs.length = n at *
  have Hn := Lib.hid hn; clear hn hl
  go_enter Try.func63, Try.ntmps63
  go_wp2
  go_loopw [3] (fun i wr => ∃ k : Nat, k ≤ n ∧ i = .int .i64 ((k : Int) - 1) ∧ Hid (Goss.tlen xs k = Goss.tlen xs n) ∧ Below w.heap.size w wr) (fun i _ => (intOf i + 1).toNat)
  case atStart => exact ⟨n, Nat.le_refl _, rfl, rfl, Below.refl _ _⟩
  case round =>
    obtain ⟨k, hk, rfl, hx, hb⟩ := hrel
    rcases Nat.eq_zero_or_pos k with rfl | hpos
    · have hge : decide ((0 : Int) ≤ ((0 : Nat) : Int) - 1) = false := by decide
      go_wp2
      go_ret
      exact ⟨ret_int (by rw [← hx.out]; rfl), hb⟩
    · obtain ⟨k, rfl⟩ : ∃ j, k = j + 1 := ⟨k - 1, by omega⟩
      obtain ⟨b, o, x, rfl, hx0, hc⟩ := (h.below hb).read (k := k) (by omega)
      have hz := zero_test x
      have hge : decide ((0 : Int) ≤ ((k + 1 : Nat) : Int) - 1) = true := decide_eq_true (by omega)
      have hlt : ((k : Int)) < n := by omega
      cases hd : decide (x = 0#32)
      all_goals
        rw [hd] at hz
        have Hd := Lib.hid hd; clear hd
        have Hx0 := Lib.hid hx0; clear hx0
        go_wp2
      · go_ret
        refine ⟨ret_int ?_, hb⟩
        rw [← hx.out]
        have : x ≠ 0#32 := of_decide_eq_false Hd.out
        rw [tlen_succ, Hx0.out, if_neg (by simpa using this)]
      · go_roundw
        case rel =>
          refine ⟨k, by omega, by first | rfl | go_num, ?_, hb⟩
          have h1 := hx.out
          rw [tlen_succ, Hx0.out, if_pos (by rw [of_decide_eq_true Hd.out])] at h1
          exact h1
        case measure => first | omega | (simp [intOf]; done) | (simp [intOf]; omega)

set_option maxHeartbeats 400000 in
theorem cut_any (p : Option Addr) (n c : Nat) (xs : List Goss.F) (w : World) (h : Sl w (.slice p n c) xs) :
    Calls Try.prog 121 #[.slice p n c] w (Gives (.slice p (Goss.tlen xs xs.length) c) w) := by
  have hl := h.len
  have ht := tlen_le xs xs.length
  have hm : c ≤ 9223372036854775807 := by unfold maxLen at hl; omega
  have hD := degree_any _ xs w h
  generalize htn : Goss.tlen xs xs.length = t at *
  have Ht := Lib.hid htn; clear htn
  have htc : t ≤ c := by omega
  clear hl ht
  go_enter Try.func121, Try.ntmps121
  go_wp2_with fail
  refine hD.mono ?_
  rintro e w1 ⟨rfl, hb⟩
  go_wp2
  go_ret
  exact ⟨rfl, hb⟩
end Go.Proofs.Ythglbipcfhdoaaa
/- Append and make, said of lists of field elements. -/
namespace Go.Proofs.Ythglbipcfhdoaaa
open Go.RowKit

theorem infoU : (Try.prog.info? 55).map (fun i => (i.zero, i.size, i.bytes)) = some (some (.int .u32 0), 1, 4) := by kernel_rfl

theorem encs_one (xs : List Goss.F) : ∀ u ∈ xs.map enc, u.oneCell' = true := by
  intro u hu
  obtain ⟨x, _, rfl⟩ := List.mem_map.1 hu
  rfl
theorem addr_add (b o j : Nat) : (⟨b, o, none⟩ : Addr).add j = ⟨b, o + j, none⟩ := by
  unfold Addr.add
  split <;> simp_all

/-- 'append(s, x...)' onto a row of the call's own; what is appended reads as ys. -/
theorem app_own {w : World} {ops : Array Oper} {rest : List Oper} {o : Oper} {a : Act} {Q : Exit → Act → World → Prop} (hgd : o.guard = none) (s x : Operand)
    (ho : o.op = .call { callee := .builtin .append, args := #[s, x], argTypes := #[22, 22] })
    (B : Nat) (v : Value) (xs : List Goss.F) (hs : a.eval s = v) (hown : Own w B v xs)
    (vs : Value) (ys : List Goss.F) (hx : a.eval x = vs) (hys : Sl w vs ys)
    (hlen : xs.length + ys.length ≤ 35184372088832) (hbase : B ≤ w.heap.size)
    (h : ∀ v' w', Own w' B v' (xs ++ ys) → w.grownBy w' v.ownBlock → (v' = .slice none 0 0 ↔ v = .slice none 0 0 ∧ ys.length = 0) → wpList Try.prog ops Q rest (a.put o.dst v') w') :
    wpList Try.prog ops Q (o :: rest) a w := by
  obtain ⟨i0, hi, hz0, hz1, hz2⟩ := info_parts infoU
  have hl := hys.len'
  obtain ⟨p, n, c, rfl, h2, h3, h4, h5⟩ := hys
  rcases h5 with ⟨rfl, h0, rfl⟩ | ⟨b, of, rfl, hlt, hc⟩
  · have : ys = [] := List.eq_nil_of_length_eq_zero (by omega)
    subst this
    obtain rfl : n = 0 := by omega
    refine wpList_append_own_none hgd s x 22 ho B 55 i0 1 Try.underlying22 hi v _ _ hs hown hx ?_
    refine h v w (by simpa using hown) ⟨rfl, rfl, rfl, Nat.le_refl _, fun _ _ _ => rfl⟩ (by simp)
  · subst h2
    refine wpList_append_own w hgd s x 22 ho B 55 i0 (.int .u32 0) 1 4 Try.underlying22 hi hz0 hz1 hz2 rfl (by decide) v xs.length (xs.map enc) hs hown ⟨b, of, none⟩ ys.length c (ys.map enc) hx (by simp) ?_ (encs_one ys) (by unfold maxLen; omega) (by omega) hbase ?_
    · intro j u hj
      rw [List.getElem?_map] at hj
      cases hy : ys[j]? with
      | none => rw [hy] at hj; cases hj
      | some y =>
        rw [hy] at hj
        cases hj
        rw [addr_add]
        exact hc j y hy
    · intro v' w' h1 h2 h3
      refine h v' w' ?_ h2 h3
      unfold Own
      rw [List.length_append, List.map_append]
      exact h1

/-- A slice that was just written out with one element. -/
theorem Sl.one (w : World) (x : Goss.F) : Sl (w.alloc (.cells #[.int .u32 (x.toNat : Int)] 55)) (.slice (some ⟨w.heap.size, 0, none⟩) 1 1) [x] := by
  refine ⟨_, _, _, rfl, rfl, Nat.le_refl _, by unfold maxLen; omega, .inr ⟨w.heap.size, 0, rfl, by simp, ?_⟩⟩
  intro i y hi
  rw [Nat.zero_add, cell_of_row (w.alloc _) w.heap.size i _ _ (0, 0) (heap_alloc_new w _)]
  rcases i with _ | i
  · simp at hi; subst hi; rfl
  · simp at hi
/-- .. with two. -/
theorem Sl.two (w : World) (x y : Goss.F) : Sl (w.alloc (.cells #[.int .u32 (x.toNat : Int), .int .u32 (y.toNat : Int)] 55)) (.slice (some ⟨w.heap.size, 0, none⟩) 2 2) [x, y] := by
  refine ⟨_, _, _, rfl, rfl, Nat.le_refl _, by unfold maxLen; omega, .inr ⟨w.heap.size, 0, rfl, by simp, ?_⟩⟩
  intro i z hi
  rw [Nat.zero_add, cell_of_row (w.alloc _) w.heap.size i _ _ (0, 0) (heap_alloc_new w _)]
  rcases i with _ | _ | i
  · simp at hi; subst hi; rfl
  · simp at hi; subst hi; rfl
  · simp at hi
/-- A row that was just written out. -/
theorem Own.made (w : World) (B : Nat) (xs : List Goss.F) (hB : B ≤ w.heap.size) (hl : xs.length ≤ maxLen) :
    Own (w.alloc (.cells (xs.map enc).toArray 55)) B (.slice (some ⟨w.heap.size, 0, none⟩) xs.length xs.length) xs := by
  have := World.ownsRow_lit (base := B) (e := 55) (size := 1) w (xs.map enc).toArray xs.length hB hl (by simp)
  simpa [Own] using this
theorem Own.empty (w : World) (B : Nat) (hB : B ≤ w.heap.size) : Own (w.alloc (.cells #[] 55)) B (.slice (some ⟨w.heap.size, 0, none⟩) 0 0) [] :=
  Own.made w B [] hB (Nat.zero_le _)

/-- 'make([]uint32, n)'. -/
theorem mk_own {w : World} {ops : Array Oper} {rest : List Oper} {o : Oper} {a : Act} {Q : Exit → Act → World → Prop} (hgd : o.guard = none) (l c : Operand)
    (hop : o.op = Op.makeSlice 22 l c) (B : Nat) (kl kc : IntKind) (L C : Int) (n : Nat) (hl : a.eval l = .int kl L) (hc : a.eval c = .int kc C) (hL : L = (n : Int)) (hC : C = (n : Int))
    (hn : n ≤ 35184372088832) (hB : B ≤ w.heap.size)
    (h : ∀ w', Own w' B (.slice (some ⟨w.heap.size, 0, none⟩) n n) (List.replicate n 0#32) → w.grownBy w' none → wpList Try.prog ops Q rest (a.put o.dst (.slice (some ⟨w.heap.size, 0, none⟩) n n)) w') :
    wpList Try.prog ops Q (o :: rest) a w := by
  obtain ⟨i0, hi, hz0, hz1, hz2⟩ := info_parts infoU
  refine wpList_make_full w hgd l c 22 hop B 55 i0 (.int .u32 0) 1 Try.underlying22 hi hz0 hz1 kl kc L C n hl hc hL hC (by rw [hz2]; omega) (by unfold maxLen; omega) hB ?_
  intro w' h1 h2
  refine h w' ?_ h2
  unfold Own
  rw [List.length_replicate, List.map_replicate]
  have : (madeCells (Value.int .u32 0).cells (n * 1)).toList = List.replicate n (enc 0#32) := by
    rw [Nat.mul_one]; exact toList_madeCells_one _ n
  rw [← this]
  exact h1

theorem grown_refl' (w : World) (row : Option Nat) : w.grownBy w row := ⟨rfl, rfl, rfl, Nat.le_refl _, fun _ _ _ => rfl⟩
theorem zeros_eq (n : Nat) : (Builtin.zeroCells (Value.int .u32 0).cells n).toList = List.replicate n (enc 0#32) := by
  apply List.ext_getElem?
  intro j
  by_cases hj : j < n
  · simp [Builtin.zeroCells, hj, Value.cells, Nat.mod_one]
  · simp [Builtin.zeroCells, hj, Value.cells]

theorem run_zeros0 (w : World) (ty : TypeId) (p : Option Addr) (m c : Nat) (hm : m ≤ c) :
    (Builtin.append_ #[22, 3] ty #[.slice p m c, .int .i64 ((0 : Nat) : Int)]).run Try.prog w = .ok (.slice p m c) w := by
  obtain ⟨i, hi, hz, hs1, hb4⟩ := info_parts infoU
  have ht := Try.underlying22
  have htn := Try.underlying3
  have hw : IntKind.i64.wrap 0 = 0 := by decide
  cases p <;> simp [Builtin.append_, run_underlying ht, run_underlying htn, sizeOf, typeInfo, hi, asInt, asIntOf, hw, hm, storeCells]

theorem run_zeros_room (w : World) (ty : TypeId) (g m c n : Nat) (cur : Array Value) (hg : w.heap[g]? = some (.cells cur 55 (0, 0))) (hn : 0 < n) (hb : n ≤ 35184372088832) (hroom : m + n ≤ c) (hcs : c ≤ cur.size) :
    (Builtin.append_ #[22, 3] ty #[.slice (some ⟨g, 0, none⟩) m c, .int .i64 (n : Int)]).run Try.prog w =
      .ok (.slice (some ⟨g, 0, none⟩) (m + n) c) (w.setRow g (cur.toList.take m ++ List.replicate n (enc 0#32) ++ cur.toList.drop (m + n)).toArray) := by
  obtain ⟨i, hi, hz, hs1, hb4⟩ := info_parts infoU
  have ht := Try.underlying22
  have htn := Try.underlying3
  have hw : IntKind.i64.wrap (n : Int) = n := by rw [IntKind.wrap_i64]; omega
  have hneg : ¬ ((n : Int) < 0) := by omega
  have h48i : ¬ (281474976710656 < (n : Int) * (4 : Int)) := by omega
  have hn0 : n ≠ 0 := by omega
  have hst := run_storeCells_at Try.prog g m 55 (List.replicate n (enc 0#32)) 0 cur w hg (by simp; omega) (by intro u hu; rw [List.eq_of_mem_replicate hu]; rfl)
  simp only [Nat.add_zero, List.length_replicate] at hst
  have hz' := zeros_eq n
  simp [Builtin.append_, run_underlying ht, run_underlying htn, sizeOf, typeInfo, zeroValue, hi, hz, asInt, asIntOf, hw, hneg, hs1, hb4, h48i, hn0, hroom, Addr.add_lit, hz', hst]

theorem run_zeros_grow (w : World) (ty : TypeId) (g m c n : Nat) (olds : List Value) (hlo : olds.length = m) (holds : ∀ j v, olds[j]? = some v → w.cell? ((⟨g, 0, none⟩ : Addr).add j) = some v) (hn : 0 < n) (hb : m + n ≤ 35184372088832) (hgr : c < m + n) :
    (Builtin.append_ #[22, 3] ty #[.slice (some ⟨g, 0, none⟩) m c, .int .i64 (n : Int)]).run Try.prog w =
      .ok (.slice (some ⟨w.heap.size, 0, none⟩) (m + n) (grownCap w (m + n) c 55))
        (w.drew.alloc (.cells (olds.toArray ++ Builtin.zeroCells (Value.int .u32 0).cells n ++ Builtin.zeroCells (Value.int .u32 0).cells (grownCap w (m + n) c 55 - (m + n))) 55)) := by
  obtain ⟨i, hi, hz, hs1, hb4⟩ := info_parts infoU
  have ht := Try.underlying22
  have htn := Try.underlying3
  have hw : IntKind.i64.wrap (n : Int) = n := by rw [IntKind.wrap_i64]; omega
  have hneg : ¬ ((n : Int) < 0) := by omega
  have h48i : ¬ (281474976710656 < (n : Int) * (4 : Int)) := by omega
  have hn0 : n ≠ 0 := by omega
  have hroom : ¬ (m + n ≤ c) := by omega
  have h63' : ¬ (9223372036854775807 < ((m : Int) + (n : Int))) := by omega
  have h48' : ¬ (281474976710656 < Builtin.nextslicecap (m + n) c * 4) := by have := growslice_fits (need := m + n) (old := c) (bytes := 4) hgr (by omega); omega
  have hfo := run_firstCells_some (P := Try.prog) w.drew 1 m ⟨g, 0, none⟩ m c olds (by omega) (by simpa using holds)
  simp [Builtin.append_, run_underlying ht, run_underlying htn, sizeOf, typeInfo, zeroValue, hi, hz, asInt, asIntOf, hw, hneg, hs1, hb4, h48i, hn0, hroom, h63', h48', Question.forced, hfo, newRow, grownCap]

/-- 'append(s, make([]uint32, n)...)' onto a row of the call's own. -/
theorem run_zeros (w : World) (ty : TypeId) (B : Nat) (v : Value) (xs : List Goss.F) (hown : Own w B v xs) (n : Nat) (hlen : xs.length + n ≤ 35184372088832) (hB : B ≤ w.heap.size) :
    ∃ v' w', (Builtin.append_ #[22, 3] ty #[v, .int .i64 (n : Int)]).run Try.prog w = .ok v' w' ∧ Own w' B v' (xs ++ List.replicate n 0#32) ∧ w.grownBy w' v.ownBlock := by
  have hmap : (xs ++ List.replicate n 0#32).map enc = xs.map enc ++ List.replicate n (enc 0#32) := by rw [List.map_append, List.map_replicate]
  have hll : (xs ++ List.replicate n 0#32).length = xs.length + n := by simp
  rcases Nat.eq_zero_or_pos n with rfl | hn
  · obtain ⟨p, c, rfl⟩ := hown.sl.shape
    exact ⟨_, w, run_zeros0 w ty p _ c hown.sl.len.2.1, by simpa using hown, grown_refl' w _⟩
  have hcm : ∀ old, grownCap w (xs.length + n) old 55 ≤ maxLen := fun old => grownCap_le_maxLen w _ old _ (by unfold maxLen; omega)
  have one : (Value.int .u32 0).cells.size = 1 := rfl
  rcases hown.2 with ⟨rfl, h0⟩ | ⟨g, cap, cur, rfl, hbg, hg, hnc, hcm', hcs, htake⟩
  · have : xs = [] := List.eq_nil_of_length_eq_zero h0
    subst this
    obtain ⟨i, hi, hz, hs1, hb4⟩ := info_parts infoU
    have hr := Lib.run_append_nil_zeros (P := Try.prog) w 22 3 ty 55 i (.int .u32 0) .i64 .i64 Try.underlying22 Try.underlying3 hi hz n hn (by omega) (by simp at hlen; omega) (by rw [hb4]; simp at hlen; omega)
    have hge := grownCap_ge w n 0 55
    have hcm0 := hcm 0
    simp only [List.length_nil, Nat.zero_add] at hcm0
    refine ⟨_, _, hr, ⟨by simp, .inr ⟨w.heap.size, grownCap w n 0 55, _, by simp, hB, heap_alloc_new w.drew _, by simpa using hge, hcm0, ?_, ?_⟩⟩, ⟨rfl, rfl, rfl, by simp, fun k hk _ => Below.heap_alloc w.drew _ k (by simpa using hk)⟩⟩
    · simp only [Array.size_append, size_zeroCells, one]
      omega
    · rw [hll, hmap, Array.toList_append, zeros_eq, zeros_eq]
      simp
  · by_cases hroom : xs.length + n ≤ cap
    · refine ⟨_, _, run_zeros_room w ty g xs.length cap n cur hg hn (by omega) hroom (by omega), ⟨by simp, .inr ⟨g, cap, _, by rw [hll], hbg, setRow_heap w g cur _ _ _ hg, by rw [hll]; exact hroom, hcm', ?_, ?_⟩⟩, ⟨rfl, rfl, rfl, by simp, fun k _ hk => setRow_other w g k _ (fun e => hk (by simp [Value.ownBlock, e]))⟩⟩
      · simp only [List.size_toArray, List.length_append, List.length_take, List.length_drop, List.length_replicate, Array.length_toList]; omega
      · rw [hll, hmap]
        have e1 : cur.toList.take xs.length = xs.map enc := by rw [← htake, Nat.mul_one]
        rw [e1]
        have : (xs.map enc ++ List.replicate n (enc 0#32)).length = (xs.length + n) * 1 := by simp
        rw [← this]
        exact List.take_left
    · have holds : ∀ j u, (xs.map enc)[j]? = some u → w.cell? ((⟨g, 0, none⟩ : Addr).add j) = some u := World.ownsRow.cells hown (g := g) rfl
      have hge := grownCap_ge w (xs.length + n) cap 55
      refine ⟨_, _, run_zeros_grow w ty g xs.length cap n (xs.map enc) (by simp) holds hn (by omega) (by omega), ⟨by simp, .inr ⟨w.heap.size, grownCap w (xs.length + n) cap 55, _, by rw [hll], hB, heap_alloc_new w.drew _, by rw [hll]; exact hge, hcm cap, ?_, ?_⟩⟩, ⟨rfl, rfl, rfl, by simp, fun k hk _ => Below.heap_alloc w.drew _ k (by simpa using hk)⟩⟩
      · simp only [Array.size_append, size_zeroCells, one, List.size_toArray, List.length_map]
        omega
      · rw [hll, hmap, Array.toList_append, Array.toList_append, zeros_eq, zeros_eq]
        have : (xs.map enc ++ List.replicate n (enc 0#32)).length = (xs.length + n) * 1 := by simp
        rw [← this]
        exact List.take_left
/-- .. as an operation of a walk. -/
theorem app_zeros {w : World} {ops : Array Oper} {rest : List Oper} {o : Oper} {a : Act} {Q : Exit → Act → World → Prop} (hgd : o.guard = none) (s x : Operand)
    (ho : o.op = .call { callee := .builtin .append, args := #[s, x], argTypes := #[22, 3] })
    (B : Nat) (v : Value) (xs : List Goss.F) (hs : a.eval s = v) (hown : Own w B v xs) (L : Int) (n : Nat) (hx : a.eval x = .int .i64 L) (hL : L = (n : Int))
    (hlen : xs.length + n ≤ 35184372088832) (hB : B ≤ w.heap.size)
    (h : ∀ v' w', Own w' B v' (xs ++ List.replicate n 0#32) → w.grownBy w' v.ownBlock → wpList Try.prog ops Q rest (a.put o.dst v') w') :
    wpList Try.prog ops Q (o :: rest) a w := by
  subst hL
  obtain ⟨v', w', hr, h1, h2⟩ := run_zeros w o.type B v xs hown n hlen hB
  exact Lib.wpList_append_run w hgd s x _ _ ho _ _ hs hx v' w' hr (h v' w' h1 h2)

theorem grown_below {B : Nat} {w0 w w' : World} {v : Value} {xs : List Goss.F} (h0 : Below B w0 w) (hown : Own w B v xs) (hB : B ≤ w.heap.size) (hg : w.grownBy w' v.ownBlock) : Below B w0 w' :=
  h0.grown hg hB fun k hk => (World.ownsRow.lt hown k hk).1
end Go.Proofs.Ythglbipcfhdoaaa
/- slices.Clone; poly: Trim, put, Scale. -/
namespace Go.Proofs.Ythglbipcfhdoaaa
open Go.RowKit

/-- A new row that reads as xs; nothing that was there has turned. -/
def New (xs : List Goss.F) (w : World) (e : Ending) (w' : World) : Prop := ∃ v, e = .returned v ∧ Own w' w.heap.size v xs ∧ Below w.heap.size w w'

set_option maxRecDepth 100000 in
set_option maxHeartbeats 400000 in
theorem clone_any (v : Value) (xs : List Goss.F) (w : World) (h : Sl w v xs) (hlen : xs.length ≤ 35184372088832) :
    Calls Try.prog 53 #[v] w (New xs w) := by
  have h0 := h
  obtain ⟨p, n, c, rfl, h2, h3, h4, h5⟩ := h
  rcases h5 with ⟨rfl, hn0, rfl⟩ | ⟨b, of, rfl, hlt, hc⟩
  · have : xs = [] := List.eq_nil_of_length_eq_zero (by omega)
    subst this
    obtain rfl : n = 0 := by omega
    clear h2 h3 h4 hn0 hlen
    have e1 := fun W => Lib.run_eql_slice_nil (P := Try.prog) W 22 55 none 0 0 0 0 Try.underlying22
    go_enter Try.func53, Try.ntmps53
    go_wp2
    go_ret
    exact ⟨_, rfl, Own.nil w _, Below.refl _ _⟩
  · clear hc h2
    have e1 := fun W => Lib.run_eql_slice_nil (P := Try.prog) W 22 55 (some ⟨b, of, none⟩) n c 0 0 Try.underlying22
    go_enter Try.func53, Try.ntmps53
    go_wp2_with (first | (at_builtin; refine app_own rfl _ _ rfl w.heap.size _ [] rfl (Own.empty w _ (Nat.le_refl _)) _ xs rfl (h0.below ((Below.refl _ _).alloc (Nat.le_refl _) _)) (by simpa using hlen) (by simp) ?_; intro v' w' hown hgr _))
    go_ret
    exact ⟨_, rfl, hown, grown_below ((Below.refl _ _).alloc (Nat.le_refl _) _) (Own.empty w w.heap.size (Nat.le_refl _)) (by simp) hgr⟩

theorem New.sl {xs : List Goss.F} {w w' : World} {v : Value} (h : Own w' w.heap.size v xs) : Sl w' v xs := h.sl

set_option maxHeartbeats 400000 in
theorem trim_any (v : Value) (xs : List Goss.F) (w : World) (h : Sl w v xs) (hlen : xs.length ≤ 35184372088832) :
    Calls Try.prog 134 #[v] w (New (Goss.trim xs) w) := by
  obtain ⟨p, c, rfl⟩ := h.shape
  have hcut := cut_any p _ c xs w h
  have hle := tlen_le xs xs.length
  go_enter Try.func134, Try.ntmps134
  go_wp2_with fail
  refine hcut.mono ?_
  rintro e w1 ⟨rfl, hb⟩
  have hs := (h.below hb).cut _ hle
  have hl : (xs.take (Goss.tlen xs xs.length)).length ≤ 35184372088832 := by rw [List.length_take]; omega
  go_wp2_with fail
  refine (clone_any _ _ w1 hs hl).mono ?_
  rintro e w2 ⟨v2, rfl, hown, hb2⟩
  go_wp2
  go_ret
  exact ⟨_, rfl, hown.mono hb.size, hb.trans (hb2.mono hb.size)⟩
theorem _root_.Go.World.grownBy.trans' {w w1 w2 : World} {row : Option Nat} (h : w.grownBy w1 row) (h2 : w1.grownBy w2 row) : w.grownBy w2 row :=
  ⟨h2.os.trans h.os, h2.tape.trans h.tape, h2.output.trans h.output, Nat.le_trans h.size h2.size, fun k hk hne => (h2.block k (Nat.lt_of_lt_of_le hk h.size) hne).trans (h.block k hk hne)⟩
theorem Sl.grown {w w' : World} {v : Value} {xs : List Goss.F} (h : Sl w v xs) {row : Option Nat} (hg : w.grownBy w' row) (hne : ∀ b o n c, v = .slice (some ⟨b, o, none⟩) n c → some b ≠ row) : Sl w' v xs := by
  obtain ⟨p, n, c, rfl, h2, h3, h4, h5⟩ := h
  refine ⟨p, n, c, rfl, h2, h3, h4, ?_⟩
  rcases h5 with h5 | ⟨b, o, rfl, hlt, hc⟩
  · exact .inl h5
  · exact .inr ⟨b, o, rfl, Nat.lt_of_lt_of_le hlt hg.size, fun i x hi => by rw [World.cell?_of_block (w := w) (a := ⟨b, o + i, none⟩) (hg.block b hlt (hne b o n c rfl))]; exact hc i x hi⟩
theorem grown_store (w : World) (g k : Nat) (u : Value) : w.grownBy (w.setCell ⟨g, k, none⟩ u) (some g) :=
  ⟨rfl, rfl, rfl, by simp [World.setCell], fun j _ hk => Below.heap_setCell w _ u j (fun e => hk (by rw [e]))⟩
theorem grown_drew (w : World) (row : Option Nat) : w.grownBy w.drew row := ⟨rfl, rfl, rfl, Nat.le_refl _, fun _ _ _ => rfl⟩
theorem grown_refl (w : World) (row : Option Nat) : w.grownBy w row := ⟨rfl, rfl, rfl, Nat.le_refl _, fun _ _ _ => rfl⟩
theorem addAt_length (a : List Goss.F) (i : Nat) (x : Goss.F) : (Goss.addAt a i x).length = a.length := List.length_set
theorem putP_length (xs : List Goss.F) : ∀ (ts : List Goss.F) (k : Goss.F) (up : Nat), (Goss.putP ts xs k up).length = ts.length := by
  induction xs with
  | nil => intro ts k up; rfl
  | cons c a ih => intro ts k up; rw [Goss.putP, ih, addAt_length]

/-- The rest of the places written: one row, its elements, what else there is. -/
def PutEnd (g n c B : Nat) (zs : List Goss.F) (w : World) (e : Ending) (w' : World) : Prop :=
  e = .returned (.tuple #[]) ∧ Own w' B (.slice (some ⟨g, 0, none⟩) n c) zs ∧ w.grownBy w' (some g)

set_option maxRecDepth 100000 in
set_option maxHeartbeats 1000000 in
theorem put_any (B g n c : Nat) (tos : List Goss.F) (va : Value) (xs : List Goss.F) (k : Goss.F) (up : Nat) (w : World)
    (ho : Own w B (.slice (some ⟨g, 0, none⟩) n c) tos) (ha : Sl w va xs) (hne : ∀ b o n c, va = .slice (some ⟨b, o, none⟩) n c → b ≠ g) (hfit : up + xs.length ≤ n) (hbig : n ≤ 35184372088832) :
    Calls Try.prog 135 #[.slice (some ⟨g, 0, none⟩) n c, va, .int .u32 k.toNat, .int .i64 up] w (PutEnd g n c B (Goss.putP tos xs k up) w) := by
  obtain ⟨p, ca, rfl⟩ := ha.shape
  generalize hz : Goss.putP tos xs k up = zs
  have Hz := Lib.hid hz; clear hz
  generalize hm : xs.length = m at *
  have Hm := Lib.hid hm; clear hm
  go_enter Try.func135, Try.ntmps135
  go_wp2
  go_loopw [12] (fun i wr => ∃ (j : Nat) (cur : List Goss.F), j ≤ m ∧ i = .int .i64 j ∧ Hid (Goss.putP cur (xs.drop j) k (up + j) = zs) ∧ Own wr B (.slice (some ⟨g, 0, none⟩) n c) cur ∧ w.grownBy wr (some g)) (fun i _ => m - (intOf i).toNat)
  case atStart => exact ⟨0, tos, Nat.zero_le _, rfl, Hz.out, ho, grown_refl _ _⟩
  case round =>
    obtain ⟨j, cur, hj, rfl, hx, how, hgr⟩ := hrel
    by_cases hlt : j < m
    · have hs := ha.grown hgr (fun b o n c e => by have := hne b o n c e; simp; exact this)
      obtain ⟨b, o, x, rfl, hx0, hc⟩ := hs.read (k := j) (by omega)
      obtain ⟨y, hy0, hyc, hyf⟩ := how.read (k := up + j) (by omega)
      have hlti : (j : Int) < m := by omega
      have hup0 : (0 : Int) ≤ (up : Int) + j := by omega
      have hupn : (up : Int) + j < n := by omega
      have e1 : IntKind.i64.wrap ((up : Int) + j) = (up : Int) + j := IntWalk.i64_in _ (by omega)
      have e2 : ((up : Int) + j).toNat = up + j := by omega
      obtain ⟨z, hzz⟩ : ∃ z, z = y ^^^ Goss.mul x k := ⟨_, rfl⟩
      have e3 : bits .xor .u32 (y.toNat : Int) ((Goss.mul x k).toNat : Int) = (z.toNat : Int) := by rw [hzz]; exact u32_xor _ _
      have Hx0 := Lib.hid hx0; clear hx0
      have Hy0 := Lib.hid hy0; clear hy0
      have Hzz := Lib.hid hzz; clear hzz
      go_wp2_with fail
      go_still_tail 11, (by kernel_rfl)
      still_call (Ret.still (mul_any x k _))
      repeat still_step
      refine wpStill_nil ?_
      change wpList _ _ _ _ _ wr.drew
      have how2 : Own wr.drew B (.slice (some ⟨g, 0, none⟩) n c) cur := how
      have hgr2 := hgr.trans' (grown_drew wr (some g))
      clear how hgr hs hc hyc hyf
      generalize wr.drew = w2 at *
      obtain ⟨y', hy0', hyc, hyf⟩ := how2.read (k := up + j) (by omega)
      have Hy0' := Lib.hid hy0'; clear hy0'
      go_wp2
      go_roundw
      case rel =>
        refine ⟨j + 1, cur.set (up + j) z, by omega, by first | rfl | go_num, ?_, how2.stored _ _, hgr2.trans' (grown_store _ _ _ _)⟩
        have h1 := hx.out
        have hd : xs.drop j = x :: xs.drop (j + 1) := List.drop_eq_getElem_cons (by rw [Hm.out]; omega) ▸ by
          congr 1; have := Hx0.out; rw [List.getElem?_eq_getElem (by rw [Hm.out]; omega)] at this; exact Option.some.inj this
        rw [hd, Goss.putP, Goss.addAt, Hy0.out] at h1
        show Goss.putP _ _ _ _ = _
        rw [Hzz.out, ← Nat.add_assoc]; exact h1
      case measure => first | omega | (simp [intOf]; done) | (simp [intOf]; omega)
    · obtain rfl : j = m := by omega
      go_wp2
      go_end0
      refine ⟨rfl, ?_, hgr⟩
      have h1 := hx.out
      rw [List.drop_eq_nil_of_le (by rw [Hm.out]; exact Nat.le_refl _)] at h1
      rw [← h1]; exact how
end Go.Proofs.Ythglbipcfhdoaaa
/- package poly: Scale, Monic, Divide. -/
namespace Go.Proofs.Ythglbipcfhdoaaa
open Go.RowKit

/-- A value that is a row of the call's own, reads as xs, nothing else turned: what a function hands back that cuts its own row. -/
theorem scale_round (k : Goss.F) (xs : List Goss.F) (j : Nat) (x : Goss.F) (hx : xs[j]? = some x) :
    ((xs.take j).map (Goss.tabMul k) ++ xs.drop j).set j (Goss.tabMul k x) = (xs.take (j + 1)).map (Goss.tabMul k) ++ xs.drop (j + 1) := by
  obtain ⟨hlt, rfl⟩ := List.getElem?_eq_some_iff.1 hx
  rw [List.drop_eq_getElem_cons hlt, List.take_succ_eq_append_getElem hlt, List.map_append, List.append_assoc]
  have hl : ((xs.take j).map (Goss.tabMul k)).length = j := by simp; omega
  rw [List.set_append_right _ _ (by omega), hl, Nat.sub_self]
  rfl
theorem scale_at (k : Goss.F) (xs : List Goss.F) (j : Nat) (hj : j < xs.length) : ((xs.take j).map (Goss.tabMul k) ++ xs.drop j)[j]? = xs[j]? := by
  have hl : ((xs.take j).map (Goss.tabMul k)).length = j := by simp; omega
  rw [List.getElem?_append_right (by omega), hl, List.getElem?_drop]
  simp

set_option maxRecDepth 100000 in
set_option maxHeartbeats 1000000 in
theorem scale_any (v : Value) (xs : List Goss.F) (k : Goss.F) (w : World) (h : Sl w v xs) (hlen : xs.length ≤ 35184372088832) :
    Calls Try.prog 136 #[v, .int .u32 k.toNat] w (New (Goss.scaleP xs k) w) := by
  have hcl := clone_any v xs w h hlen
  go_enter Try.func136, Try.ntmps136
  go_wp2_with fail
  refine hcl.mono ?_
  rintro e w1 ⟨v1, rfl, ho1, hb1⟩
  have hs := ho1.shape
  generalize hB : w.heap.size = B at *
  have HB := Lib.hid hB; clear hB
  go_wp2_with fail
  refine (by_any k w1).mono ?_
  rintro e w2 ⟨rfl, ht, hb2⟩
  have hz2 : w1.heap.size ≤ w2.heap.size := hb2.size
  generalize hT : w1.heap.size = T at *
  have HT := Lib.hid hT; clear hT
  have ho2 : Own w2 B v1 xs := ho1.below (by rw [HT.out]; exact hb2)
  have hb : Below B w w2 := hb1.trans (hb2.mono (by rw [← HT.out, ← HB.out]; exact hb1.size))
  clear ho1 hb2 hb1 hcl
  rcases hs with ⟨rfl, rfl⟩ | ⟨g, c, rfl, hg1, hg2, hg3, hg4⟩
  · go_wp2_with fail
    go_loopw [14] (fun i wr => i = .int .i64 0 ∧ wr = w2) (fun _ _ => 0)
    case atStart => exact ⟨rfl, rfl⟩
    case round =>
      obtain ⟨rfl, rfl⟩ := hrel
      go_wp2_with fail
      refine (cut_any none 0 0 [] _ (Sl.nil _)).mono ?_
      rintro e w3 ⟨rfl, hb3⟩
      go_wp2
      go_ret
      exact ⟨_, rfl, Own.nil _ _, by rw [HB.out]; exact hb.trans (hb3.mono (by rw [← HB.out]; exact hb.size))⟩
  · generalize hm : xs.length = m at *
    have Hm := Lib.hid hm; clear hm
    have hm63 : m ≤ 9223372036854775807 := by omega
    go_wp2_with fail
    go_loopw [14] (fun i wr => ∃ (j : Nat) (cur : List Goss.F), j ≤ m ∧ i = .int .i64 j ∧ Hid (cur = (xs.take j).map (Goss.tabMul k) ++ xs.drop j) ∧ Own wr B (.slice (some ⟨g, 0, none⟩) m c) cur ∧ TabAt k T 1024 wr ∧ Below B w wr) (fun i _ => m - (intOf i).toNat)
    case atStart => exact ⟨0, xs, Nat.zero_le _, rfl, by show _ = _; simp, ho2, ht, hb⟩
    case round =>
      obtain ⟨j, cur, hj, rfl, hx, how, htw, hbw⟩ := hrel
      by_cases hlt : j < m
      · obtain ⟨x, hx0, hxc, _⟩ := how.read (k := j) (by omega)
        have Hx0 := Lib.hid hx0; clear hx0
        have hlti : (j : Int) < m := by omega
        have hlw := how.lt
        go_wp2_with fail
        refine (tmul_any k x T wr htw).mono ?_
        rintro e w3 ⟨rfl, hb3⟩
        have how3 := how.below hb3
        have htw3 := htw.below hb3
        have hbw3 := hbw.trans (hb3.mono (by omega))
        clear how htw hbw hb3 hxc hlw
        obtain ⟨x', hx0', hxc', hxf'⟩ := how3.read (k := j) (by omega)
        have Hx0' := Lib.hid hx0'; clear hx0'
        go_wp2
        go_roundw
        case rel =>
          refine ⟨j + 1, cur.set j (Goss.tabMul k x), by omega, by first | rfl | go_num, ?_, how3.stored _ _, ?_, hbw3.setCell (by omega) _⟩
          · show _ = _
            have hjx : xs[j]? = some x := by rw [← Hx0.out, hx.out, scale_at k xs j (by rw [Hm.out]; exact hlt)]
            rw [hx.out, scale_round k xs j x hjx]
          · obtain ⟨tc, h1, h2, h3⟩ := htw3
            exact ⟨tc, by rw [Below.heap_setCell w3 _ _ T (by show T ≠ g; omega)]; exact h1, h2, h3⟩
        case measure => first | omega | (simp [intOf]; done) | (simp [intOf]; omega)
      · obtain rfl : j = m := by omega
        have hcut := cut_any _ _ _ _ _ how.sl
        have hle := tlen_le cur cur.length
        go_wp2_with fail
        refine hcut.mono ?_
        rintro e w3 ⟨rfl, hb3⟩
        have hlw := how.lt
        have hlen' := how.sl.len.1
        go_wp2
        go_ret
        refine ⟨_, rfl, ?_, by rw [HB.out]; exact hbw.trans (hb3.mono (by rw [← HB.out]; exact hbw.size))⟩
        have := (how.below hb3).cut _ (by rw [hlen']; exact hle)
        rw [HB.out]
        unfold Goss.scaleP Goss.trim
        have e : cur = xs.map (Goss.tabMul k) := by rw [hx.out, ← Hm.out, List.take_length, List.drop_length, List.append_nil]
        rw [← e]
        exact this
end Go.Proofs.Ythglbipcfhdoaaa
