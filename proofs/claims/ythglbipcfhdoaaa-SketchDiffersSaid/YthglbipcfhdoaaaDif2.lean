/- gossamerlaw05: sorted. -/
import Derived.Test.YthglbipcfhdoaaaSk11
import Derived.Test.YthglbipcfhdoaaaMasM
import Derived.Laws.CopyOwn
import Derived.Deep.RegionLaw
import Derived.Deep.DeepCutAuto
namespace Go.Proofs.Ythglbipcfhdoaaa
open Go.RowKit
attribute [local go_sem ↓] Go.wp_at_zero Go.wp_at_succ

/-- 'append(s, x...)' onto a row of the call's own, run. -/
theorem run_app (w : World) (ty : TypeId) (B : Nat) (v : Value) (xs : List Goss.F) (hown : Own w B v xs) (vs : Value) (ys : List Goss.F) (hys : Sl w vs ys) (hlen : xs.length + ys.length ≤ 35184372088832) (hbase : B ≤ w.heap.size) :
    ∃ v' w', (Builtin.append_ #[22, 22] ty #[v, vs]).run Try.prog w = .ok v' w' ∧ Own w' B v' (xs ++ ys) ∧ w.grownBy w' v.ownBlock ∧ (v' = .slice none 0 0 ↔ v = .slice none 0 0 ∧ ys.length = 0) := by
  obtain ⟨i0, hi, hz0, hz1, hz2⟩ := info_parts infoU
  have hl := hys.len'
  obtain ⟨p, n, c, rfl, h2, h3, h4, h5⟩ := hys
  rcases h5 with ⟨rfl, h0, rfl⟩ | ⟨b, of, rfl, hlt, hc⟩
  · have : ys = [] := List.eq_nil_of_length_eq_zero (by omega)
    subst this
    obtain rfl : n = 0 := by omega
    exact ⟨v, w, run_append_owned_none (P := Try.prog) (w := w) B 22 ty 55 i0 1 Try.underlying22 hi v _ _ hown, by simpa using hown, ⟨rfl, rfl, rfl, Nat.le_refl _, fun _ _ _ => rfl⟩, by simp⟩
  · subst h2
    obtain ⟨v', w', h6, h7, h8, h9⟩ := run_append_own (P := Try.prog) (w := w) B 22 ty 55 i0 (.int .u32 0) 1 4 Try.underlying22 hi hz0 hz1 hz2 rfl (by decide) v xs.length (xs.map enc) hown ⟨b, of, none⟩ ys.length c (ys.map enc) (by simp) (by
      intro j u hj
      rw [List.getElem?_map] at hj
      cases hy : ys[j]? with
      | none => rw [hy] at hj; cases hj
      | some y =>
        rw [hy] at hj
        cases hj
        rw [addr_add]
        exact hc j y hy) (encs_one ys) (by unfold maxLen; omega) (by omega) hbase
    refine ⟨v', w', h6, ?_, h8, h9⟩
    unfold Own
    rw [List.length_append, List.map_append]
    exact h7
theorem step_app {ops : Array Oper} {o : Oper} {a : Act} {w : World} {K : Act → World → Prop} {Q : Exit → Act → World → Prop} {E : Prop} (hgd : o.guard = none) (s x : Operand)
    (ho : o.op = .call { callee := .builtin .append, args := #[s, x], argTypes := #[22, 22] })
    (B : Nat) (v : Value) (xs : List Goss.F) (hs : a.eval s = v) (hown : Own w B v xs)
    (vs : Value) (ys : List Goss.F) (hx : a.eval x = vs) (hys : Sl w vs ys)
    (hlen : xs.length + ys.length ≤ 35184372088832) (hbase : B ≤ w.heap.size)
    (h : ∀ v' w', Own w' B v' (xs ++ ys) → w.grownBy w' v.ownBlock → (v' = .slice none 0 0 ↔ v = .slice none 0 0 ∧ ys.length = 0) → K (a.put o.dst v') w') :
    if Region.wanted o (yielded ops a.tmps) = true then Oper.wp Try.prog o a w K Q else E := by
  have hw : Region.wanted o (yielded ops a.tmps) = true := by simp [Region.wanted, hgd]
  rw [if_pos hw]
  obtain ⟨v', w', hr, h2, h3, h4⟩ := run_app w o.type B v xs hown vs ys hys hlen hbase
  unfold Oper.wp execOp
  simp only [ho, resolve, invoke, builtin, Sem.run_bind, Sem.run_pure, Result.andThen_ok, List.map_toArray, List.map_cons, List.map_nil, hs, hx, hr]
  exact h v' w' h2 h3 h4

def TgTo (x : Goss.F) (cur : List Goss.F) (k : Nat) : Prop := Goss.toggle x cur = cur.take k ++ Goss.toggle x (cur.drop k)
theorem TgTo.start (x : Goss.F) (cur : List Goss.F) : TgTo x cur 0 := by simp [TgTo]
theorem drop_at {cur : List Goss.F} {k : Nat} {y : Goss.F} (hy : cur[k]? = some y) : cur.drop k = y :: cur.drop (k + 1) := by
  obtain ⟨hk, rfl⟩ := List.getElem?_eq_some_iff.1 hy
  exact List.drop_eq_getElem_cons hk
theorem TgTo.step {x y : Goss.F} {cur : List Goss.F} {k : Nat} (h : TgTo x cur k) (hy : cur[k]? = some y) (hlt : y.toNat < x.toNat) : TgTo x cur (k + 1) := by
  unfold TgTo at h ⊢
  obtain ⟨hk, hyk⟩ := List.getElem?_eq_some_iff.1 hy
  rw [h, drop_at hy, Goss.toggle, if_pos hlt, List.take_succ_eq_append_getElem hk, hyk]
  simp
theorem TgTo.out {x y : Goss.F} {cur : List Goss.F} {k : Nat} (h : TgTo x cur k) (hy : cur[k]? = some y) (he : y = x) : Goss.toggle x cur = cur.take k ++ cur.drop (k + 1) := by
  unfold TgTo at h
  rw [h, drop_at hy, Goss.toggle, if_neg (by rw [he]; omega), if_pos he]
theorem TgTo.mid {x y : Goss.F} {cur : List Goss.F} {k : Nat} (h : TgTo x cur k) (hy : cur[k]? = some y) (hge : ¬ y.toNat < x.toNat) (hne : y ≠ x) : Goss.toggle x cur = cur.take k ++ x :: cur.drop k := by
  unfold TgTo at h
  rw [h, drop_at hy, Goss.toggle, if_neg hge, if_neg hne]
theorem TgTo.end {x : Goss.F} {cur : List Goss.F} {k : Nat} (h : TgTo x cur k) (hk : cur.length ≤ k) : Goss.toggle x cur = cur.take k ++ x :: cur.drop k := by
  unfold TgTo at h
  rw [h, List.drop_eq_nil_of_le hk]
  rfl
/-- A row of the call's own, its block's cells. -/
theorem Own.cells {w : World} {B g n c : Nat} {xs : List Goss.F} (h : Own w B (.slice (some ⟨g, 0, none⟩) n c) xs) : ∃ cs : List Value, w.heap[g]? = some (.cells cs.toArray 55 (0, 0)) ∧ cs.length = c ∧ n ≤ c ∧ cs.take n = xs.map enc := by
  have hn := h.sl.len.1
  obtain ⟨h1, h2⟩ := h
  rcases h2 with ⟨h, h0⟩ | ⟨g', cap, cur, h, hbg, hg, hnc, hcm, hcs, htake⟩
  · cases h
  · simp only [Value.slice.injEq, Option.some.injEq, Addr.mk.injEq] at h
    obtain ⟨⟨rfl, _⟩, hnn, rfl⟩ := h
    refine ⟨cur.toList, by simpa using hg, by rw [Array.length_toList, hcs, Nat.mul_one], by omega, ?_⟩
    rw [hn, ← htake, Nat.mul_one]
theorem Own.of_cells {w : World} {B g n c : Nat} {xs : List Goss.F} {cs : List Value} (hB : B ≤ g) (hg : w.heap[g]? = some (.cells cs.toArray 55 (0, 0))) (hc : cs.length = c) (hn : n ≤ c) (hm : c ≤ maxLen) (hl : xs.length = n) (ht : cs.take n = xs.map enc) : Own w B (.slice (some ⟨g, 0, none⟩) n c) xs := by
  refine ⟨by simp, .inr ⟨g, c, cs.toArray, by rw [hl], hB, hg, by omega, hm, by rw [List.size_toArray, hc, Nat.mul_one], ?_⟩⟩
  rw [hl, Nat.mul_one]
  exact ht
/-- The rest of a row, from a place on. -/
theorem Own.rest {w : World} {B g n c : Nat} {xs : List Goss.F} (h : Own w B (.slice (some ⟨g, 0, none⟩) n c) xs) (k o : Nat) (hk : k ≤ n) (ho : o = k ∨ k = n) : Sl w (.slice (some ⟨g, o, none⟩) (n - k) (c - k)) (xs.drop k) := by
  have hs := h.sl
  obtain ⟨h1, h2, h3⟩ := hs.len
  refine ⟨_, _, _, rfl, by rw [List.length_drop, h1], by omega, by omega, .inr ⟨g, o, rfl, h.lt.2, fun i x hi => ?_⟩⟩
  rw [List.getElem?_drop] at hi
  have hlt := (List.getElem?_eq_some_iff.1 hi).1
  rcases ho with rfl | rfl
  · obtain ⟨b, o', y, hp, hy, hc⟩ := hs.read (k := o + i) (by omega)
    simp only [Option.some.injEq, Addr.mk.injEq] at hp
    obtain ⟨rfl, rfl, _⟩ := hp
    rw [hi] at hy
    obtain rfl := Option.some.inj hy
    simpa using hc
  · omega
theorem set_mid (cur : List Goss.F) (k : Nat) (x z : Goss.F) (hk : k ≤ cur.length) : (((cur ++ [z]).take (k + 1)) ++ cur.drop k).set k x = cur.take k ++ x :: cur.drop k := by
  have h1 : (cur ++ [z]).take (k + 1) = cur.take k ++ [((cur ++ [z])[k]'(by simp; omega))] := by
    rw [List.take_succ_eq_append_getElem (by simp; omega), List.take_append_of_le_length hk]
  rw [h1, List.append_assoc, List.set_append_right _ _ (by rw [List.length_take]; omega)]
  simp [List.length_take, Nat.min_eq_left hk]
theorem splice_take (cs : List Value) (cur : List Goss.F) (k : Nat) (z : Goss.F) (hk : k ≤ cur.length) (_ : cur.length + 1 ≤ cs.length) (ht : cs.take (cur.length + 1) = (cur ++ [z]).map enc) : (splice cs (k + 1) ((cur.drop k).map enc)).take (cur.length + 1) = (((cur ++ [z]).take (k + 1)) ++ cur.drop k).map enc := by
  have h1 : cs.take (k + 1) = ((cur ++ [z]).take (k + 1)).map enc := by
    rw [List.map_take, ← ht, List.take_take]
    congr 1
    omega
  unfold splice
  rw [h1, List.take_append, List.take_of_length_le (by simp; omega), List.map_append]
  congr 1
  rw [List.take_append, List.take_of_length_le (by simp; omega)]
  have : (cur.length + 1 - (List.map enc (List.take (k + 1) (cur ++ [z]))).length - (List.map enc (List.drop k cur)).length) = 0 := by simp; omega
  rw [this]
  simp
end Go.Proofs.Ythglbipcfhdoaaa
/- gossamerlaw05: sorted, walked. -/
namespace Go.Proofs.Ythglbipcfhdoaaa
open Go.RowKit
attribute [local go_sem ↓] Go.wp_at_zero Go.wp_at_succ

set_option maxRecDepth 100000 in
set_option maxHeartbeats 8000000 in
theorem sorted_any (v : Value) (xs : List Goss.F) (w : World) (h : Sl w v xs) (hlen : xs.length ≤ 1000) :
    Calls Try.prog 14 #[v] w (New (Goss.sortedP xs) w) := by
  obtain ⟨p, c0, rfl⟩ := h.shape
  obtain ⟨R, hR⟩ : ∃ R, Goss.sortedP xs = R := ⟨_, rfl⟩
  rw [hR]
  have HR := Lib.hid hR; clear hR
  generalize hB : w.heap.size = B at *
  have HB := Lib.hid hB; clear hB
  have hBw : B ≤ w.heap.size := by rw [HB.out]; exact Nat.le_refl _
  generalize hm : xs.length = m at *
  have Hm := Lib.hid hm; clear hm
  have hE : Own (w.alloc (.cells #[] 55)) B (.slice (some ⟨w.heap.size, 0, none⟩) 0 0) [] := Own.empty w B hBw
  have hbE : Below B w (w.alloc (.cells #[] 55)) := (Below.refl _ _).alloc hBw _
  rw [HB.out] at hE
  go_enter Try.func14, Try.ntmps14
  go_wp2_with fail
  rw [HB.out]
  generalize w.alloc (.cells #[] 55) = wE at *
  go_loopw [3, 10] (fun vo vi wr => ∃ (i : Nat) (cur : List Goss.F) (n g c : Nat), i ≤ m ∧ vi = .int .i64 i ∧ vo = .slice (some ⟨g, 0, none⟩) n c ∧ Hid (cur = Goss.sortedP (xs.take i)) ∧ Own wr B (.slice (some ⟨g, 0, none⟩) n c) cur ∧ n ≤ i ∧ Below B w wr) (fun _ vi _ => m - (intOf vi).toNat)
  case atStart => exact ⟨0, [], 0, B, 0, by omega, rfl, rfl, rfl, hE, by omega, hbE⟩
  case round =>
    clear hE hbE
    obtain ⟨i, cur, n, g, c, hi, rfl, rfl, hS, how, hni, hbw⟩ := hrel
    have hnl := how.sl.len
    have Hn : Hid (cur.length = n) := hnl.1.symm
    have hnc := hnl.2.1
    have hcm := hnl.2.2
    unfold maxLen at hcm
    clear hnl
    by_cases hlt : i < m
    · have hd : decide ((i : Int) < (m : Int)) = true := decide_eq_true (by omega)
      have hd' : decide (i < m) = true := decide_eq_true hlt
      have hb0 : Below w.heap.size w wr := by rw [HB.out]; exact hbw
      obtain ⟨bx, ox, x, rfl, hx0, hxc⟩ := (h.below hb0).read (k := i) hlt
      have bi : (i : Int) < (m : Int) := by omega
      have HS1 : Hid (Goss.toggle x cur = Goss.sortedP (xs.take (i + 1))) := by
        show _ = _
        obtain ⟨hil, hxi⟩ := List.getElem?_eq_some_iff.1 hx0
        rw [List.take_succ_eq_append_getElem hil, hxi, Goss.sortedP, List.foldl_append, hS.out]
        rfl
      have hzB : B ≤ wr.heap.size := by rw [← HB.out]; exact hb0.size
      clear hx0 hb0 hS
      obtain ⟨wo, rfl⟩ : ∃ wx : World, wx = wr := ⟨_, rfl⟩
      go_wp2_with fail
      go_loop [6] (fun vk => ∃ k : Nat, k ≤ n ∧ vk = .int .i64 k ∧ Hid (TgTo x cur k)) (fun vk => n - (intOf vk).toNat)
      case atStart => exact ⟨0, by omega, rfl, TgTo.start x cur⟩
      case round =>
        obtain ⟨k, hk, rfl, htg⟩ := hrel
        by_cases hkn : k < n
        · have hd2 : decide ((k : Int) < (n : Int)) = true := decide_eq_true (by omega)
          have hd2' : decide (k < n) = true := decide_eq_true hkn
          obtain ⟨y, hy0, hyc, hyf⟩ := how.read (k := k) hkn
          have bk : (k : Int) < (n : Int) := by omega
          by_cases hyx : y.toNat < x.toNat
          · have hd3 : decide ((y.toNat : Int) < (x.toNat : Int)) = true := decide_eq_true (by omega)
            have hd3' : decide (y.toNat < x.toNat) = true := decide_eq_true hyx
            have htg1 := Lib.hid (htg.out.step hy0 hyx)
            clear htg hy0
            go_wp2
            go_round
            case rel => exact ⟨k + 1, by omega, by first | rfl | go_num, htg1⟩
            case measure => simp only [intOf]; omega
          · have hd3 : decide ((y.toNat : Int) < (x.toNat : Int)) = false := decide_eq_false (by omega)
            have hd3' : decide (y.toNat < x.toNat) = false := decide_eq_false hyx
            by_cases hyx2 : y = x
            · have ht4 : ((y.toNat : Int) == (x.toNat : Int)) = true := by rw [hyx2]; simp
              have HTG := Lib.hid (htg.out.out hy0 hyx2)
              have hTk := how.cut k hk
              obtain ⟨k1, hk1⟩ : ∃ k1, k1 = k + 1 := ⟨_, rfl⟩
              have q1 : IntKind.i64.wrap ((k : Int) + 1) = (k1 : Int) := by rw [IntWalk.i64_in _ (by omega)]; omega
              have q2 : (k1 : Int) ≤ (n : Int) := by omega
              have q3 : (n : Int) ≤ (c : Int) := by omega
              have q5 : (k1 : Int) ≤ (c : Int) := by omega
              have q6 : (k : Int) ≤ (c : Int) := by omega
              have q7 : (k : Int) ≤ (n : Int) := by omega
              have hk1n : k1 ≤ n := by omega
              have hlenA : (cur.take k).length + (cur.drop k1).length ≤ 35184372088832 := by rw [List.length_take, List.length_drop, Hn.out]; omega
              have HlenA := Lib.hid hlenA
              have Hk1 := Lib.hid hk1
              clear hk1 hlenA htg hy0
              by_cases hkc : k1 = c
              · have hkn1 : k1 = n := by omega
                have hDr := how.rest k1 0 (by omega) (.inr hkn1)
                have hkc2 : c = k1 := hkc.symm
                have hb2' := Lib.hid hbw
                have hnil : cur.drop (k + 1) = [] := List.drop_eq_nil_of_le (by rw [Hn.out]; have := Hk1.out; omega)
                have ho5 : Own wo.drew B (.slice (some ⟨g, 0, none⟩) k c) (Goss.toggle x cur) := by
                  rw [HTG.out, hnil, List.append_nil]
                  exact hTk.below (Below.refl _ _).drew
                have Ho5 := Lib.hid ho5
                clear hbw hkn1 hnil ho5 hDr hTk
                subst hkc2
                go_wp2_with fail
                go_region_held_law (fun _ => True) (trivial) (fail)
                clear how
                go_wp2
                go_roundw
                case rel => exact ⟨i + 1, Goss.toggle x cur, k, g, c, by omega, by first | rfl | go_num, rfl, HS1, Ho5.out, by omega, hb2'.out.drew⟩
                case measure => simp only [intOf]; omega
              · have hkc' : ¬ c = k1 := fun e => hkc e.symm
                have hDr := how.rest k1 k1 hk1n (.inl rfl)
                have hb2' := Lib.hid hbw
                clear hbw
                go_wp2_with fail
                go_region_held_law (fun _ => True) (trivial)
                  ((refine step_app (by rfl) _ _ (by rfl) B _ (cur.take k) (by rfl) (hTk.below (Below.refl _ _).drew) _ (cur.drop k1) (by rfl) (hDr.below (Below.refl _ _).drew) HlenA.out hzB ?_; intro v5 w5 ho5 hg5 hnil5))
                have hb5 := grown_below hb2'.out.drew (hTk.below (Below.refl _ _).drew) hzB hg5
                rw [show k1 = k + 1 from Hk1.out, ← HTG.out] at ho5
                rcases ho5.shape with ⟨e5, _⟩ | ⟨g5, c5, hv5, hg5B, hg5l, hn5, hc5⟩
                · exfalso
                  first
                    | exact hnil5 e5
                    | (have := hnil5.1 e5; simp at this)
                obtain ⟨n5, hn5e⟩ : ∃ n5, (Goss.toggle x cur).length = n5 := ⟨_, rfl⟩
                rw [hn5e] at hv5 hn5
                subst hv5
                have hn5i : n5 ≤ i + 1 := by
                  rw [HTG.out, List.length_append, List.length_take, List.length_drop, Hn.out] at hn5e
                  omega
                have ho5' : Own w5 B (.slice (some ⟨g5, 0, none⟩) n5 c5) (Goss.toggle x cur) := ho5
                clear ho5 hnil5 hg5 hTk hDr hn5e how
                go_wp2
                go_roundw
                case rel => exact ⟨i + 1, Goss.toggle x cur, n5, g5, c5, by omega, by first | rfl | go_num, rfl, HS1, ho5', hn5i, hb5⟩
                case measure => simp only [intOf]; omega
            · have ht4 : ((y.toNat : Int) == (x.toNat : Int)) = false := by rw [beq_u]; simp [hyx2]
              have HTG := Lib.hid (htg.out.mid hy0 hyx hyx2)
              clear htg hy0
              have hlen5 : cur.length + [0#32].length ≤ 35184372088832 := by rw [Hn.out]; simp; omega
              have Hlen5 := Lib.hid hlen5
              clear hlen5
              go_wp2_with (at_builtin; go_must (refine app_own rfl _ _ rfl B _ cur rfl (how.below ((Below.refl _ _).alloc (Nat.le_refl _) _)) _ [0#32] rfl (Sl.one _ 0#32) Hlen5.out (by simp; omega) ?_))
              intro v5 w5 ho5 hg5 hnil5
              have hbA := hbw.alloc (o := .cells #[.int .u32 ((0#32 : Goss.F).toNat : Int)] 55) hzB
              have hb5 := grown_below hbA (how.below ((Below.refl _ _).alloc (Nat.le_refl _) _)) (by simp; omega) hg5
              rcases ho5.shape with ⟨e5, _⟩ | ⟨g5, c5, hv5, hg5B, hg5l, hn5, hc5⟩
              · exfalso
                first
                  | exact hnil5 e5
                  | (have := hnil5.1 e5; simp at this)
              have hl5 : (cur ++ [0#32]).length = n + 1 := by rw [List.length_append, Hn.out]; rfl
              rw [hl5] at hv5 hn5
              subst hv5
              clear hnil5 hg5 hbA how hbw hzB hl5
              obtain ⟨cs, hcs1, hcs2, hcs3, hcs4⟩ := ho5.cells
              have hsrc := ho5.rest k k (by omega) (.inl rfl)
              unfold maxLen at hc5
              obtain ⟨k1, hk1⟩ : ∃ k1, k1 = k + 1 := ⟨_, rfl⟩
              have q1 : IntKind.i64.wrap ((k : Int) + 1) = (k1 : Int) := by rw [IntWalk.i64_in _ (by omega)]; omega
              have q2 : (k1 : Int) ≤ ((n + 1 : Nat) : Int) := by omega
              have q3 : ((n + 1 : Nat) : Int) ≤ (c5 : Int) := by omega
              have q4 : (k : Int) ≤ ((n + 1 : Nat) : Int) := by omega
              obtain ⟨n1, hn1⟩ : ∃ n1, n + 1 = n1 := ⟨_, rfl⟩
              rw [hn1] at q2 q3 q4 hn5 hcs3 hcs4 ho5 hsrc ⊢
              have q5 : (k1 : Int) ≤ (c5 : Int) := by omega
              have q6 : (k : Int) ≤ (c5 : Int) := by omega
              have hkc5 : ¬ c5 = k := by omega
              have hkn1 : k1 ≤ n1 := by omega
              have hkn2 : k ≤ n1 := by omega
              have hsplit := splice_take cs cur k 0#32 (by rw [Hn.out]; omega) (by rw [Hn.out]; omega) (by rw [Hn.out, hn1]; exact hcs4)
              rw [Hn.out, hn1] at hsplit
              have hcl : ((cur.drop k).map enc).length = n - k := by rw [List.length_map, List.length_drop, Hn.out]
              have hcc : ∀ j v, ((cur.drop k).map enc)[j]? = some v → w5.cell? ((⟨g5, k, none⟩ : Addr).add j) = some v := by
                intro j v hj
                rw [List.getElem?_map] at hj
                cases hy : (cur.drop k)[j]? with
                | none => rw [hy] at hj; cases hj
                | some y =>
                  rw [hy] at hj
                  cases hj
                  have h1 : ((cur ++ [0#32]).drop k)[j]? = some y := by
                    rw [List.getElem?_drop] at hy ⊢
                    rw [List.getElem?_append_left (List.getElem?_eq_some_iff.1 hy).1]
                    exact hy
                  have hjl : j < n1 - k := by
                    have := (List.getElem?_eq_some_iff.1 hy).1
                    rw [List.length_drop, Hn.out] at this
                    omega
                  obtain ⟨b', o', y', hp', hy', hc'⟩ := hsrc.read hjl
                  simp only [Option.some.injEq, Addr.mk.injEq] at hp'
                  obtain ⟨rfl, rfl, _⟩ := hp'
                  rw [h1] at hy'
                  obtain rfl := Option.some.inj hy'
                  rw [addr_add]
                  exact hc'
              have Hcs1 := Lib.hid hcs1; have Hcs4 := Lib.hid hcs4; have Hsp := Lib.hid hsplit; have Hcl := Lib.hid hcl; have Hcc := Lib.hid hcc; have Hn1 := Lib.hid hn1; have Hk1 := Lib.hid hk1; have Hcs2 := Lib.hid hcs2
              clear hcs1 hcs4 hsplit hcl hcc hn1 hk1 hcs2 hsrc
              have hb5' := Lib.hid hb5
              go_upto_region 11 with (fail)
              go_cut [58] (fun _ wx => Own wx B (.slice (some ⟨g5, 0, none⟩) n1 c5) (((cur ++ [0#32]).take (k + 1)) ++ cur.drop k) ∧ Below B w wx)
              case first =>
                by_cases hkc : k1 = c5
                · have hkc' : (k1 : Int) = (c5 : Int) := by omega
                  have hkc2 : c5 = k1 := hkc.symm
                  subst hkc2
                  go_region_held_law (fun _ => True) (trivial)
                    ((refine step_copy_splice (by rfl) _ _ 22 22 (by rfl) 55 Try.underlying22 (by kernel_rfl) _ _ _ _ _ _ (by rfl) (by rfl) g5 (k + 1) cs 55 Hcs1.out ((cur.drop k).map enc) (by rw [Hcl.out]; show _ = Nat.min _ _; have := Hn1.out; have := Hk1.out; simp only [Nat.min_def]; split <;> omega) (fun hp => by exfalso; rw [Hcl.out] at hp; have := Hn1.out; have := Hk1.out; omega) (by rw [Hcl.out, Hcs2.out]; have := Hn1.out; omega) (encs_one _) B w hb5'.out.drew hg5B ?_; intro w6 hg6 hb6))
                  go_wp2_with fail
                  go_meet
                  refine ⟨?_, hb6⟩
                  exact Own.of_cells hg5B hg6.out (by rw [length_splice _ _ _ (by rw [Hcl.out, Hcs2.out]; have := Hn1.out; omega)]; exact Hcs2.out) hcs3 (by unfold maxLen; omega) (by rw [List.length_append, List.length_take, List.length_append, List.length_drop, Hn.out]; have := Hn1.out; simp; omega) Hsp.out
                · have hkc' : ¬ c5 = k1 := fun e => hkc e.symm
                  go_region_held_law (fun _ => True) (trivial)
                    ((refine step_copy_splice (by rfl) _ _ 22 22 (by rfl) 55 Try.underlying22 (by kernel_rfl) _ _ _ _ _ _ (by rfl) (by rfl) g5 (k + 1) cs 55 Hcs1.out ((cur.drop k).map enc) (by rw [Hcl.out]; show _ = Nat.min _ _; have := Hn1.out; have := Hk1.out; simp only [Nat.min_def]; split <;> omega) (fun hp => ⟨by rw [Hk1.out], _, rfl, Hcc.out⟩) (by rw [Hcl.out, Hcs2.out]; have := Hn1.out; omega) (encs_one _) B w hb5'.out.drew hg5B ?_; intro w6 hg6 hb6))
                  go_wp2_with fail
                  go_meet
                  refine ⟨?_, hb6⟩
                  exact Own.of_cells hg5B hg6.out (by rw [length_splice _ _ _ (by rw [Hcl.out, Hcs2.out]; have := Hn1.out; omega)]; exact Hcs2.out) hcs3 (by unfold maxLen; omega) (by rw [List.length_append, List.length_take, List.length_append, List.length_drop, Hn.out]; have := Hn1.out; simp; omega) Hsp.out
              case rest =>
                obtain ⟨ho6, hb6⟩ := hcut
                clear hb5 hb5' ho5 Hcs1 Hcs4 Hsp Hcl Hcc Hcs2
                obtain ⟨z6, hz60, hz6c, hz6f⟩ := ho6.read (k := k) (by have := Hn1.out; omega)
                clear hz60
                have b1 : (k : Int) < (n1 : Int) := by have := Hn1.out; omega
                have b1' : k < n1 := by have := Hn1.out; omega
                have ho7 := ho6.stored k x
                rw [set_mid cur k x 0#32 (by rw [Hn.out]; omega), ← HTG.out] at ho7
                have hb7 := hb6.setCell (p := ⟨g5, k, none⟩) hg5B (.int .u32 x.toNat)
                have hl7 := ho7.sl.len.1
                have Hl7 := Lib.hid hl7
                clear ho6 hb6 hl7
                go_wp2
                go_roundw
                case rel => exact ⟨i + 1, Goss.toggle x cur, n1, g5, c5, by omega, by first | rfl | go_num, rfl, HS1, ho7, by have := Hn1.out; omega, hb7⟩
                case measure => simp only [intOf]; omega
        · have hd2 : decide ((k : Int) < (n : Int)) = false := decide_eq_false (by omega)
          have hd2' : decide (k < n) = false := decide_eq_false hkn
          have HTG := Lib.hid (htg.out.end (by rw [Hn.out]; omega))
          clear htg
          have hlen5 : cur.length + [0#32].length ≤ 35184372088832 := by rw [Hn.out]; simp; omega
          have Hlen5 := Lib.hid hlen5
          clear hlen5
          go_wp2_with (at_builtin; go_must (refine app_own rfl _ _ rfl B _ cur rfl (how.below ((Below.refl _ _).alloc (Nat.le_refl _) _)) _ [0#32] rfl (Sl.one _ 0#32) Hlen5.out (by simp; omega) ?_))
          intro v5 w5 ho5 hg5 hnil5
          have hbA := hbw.alloc (o := .cells #[.int .u32 ((0#32 : Goss.F).toNat : Int)] 55) hzB
          have hb5 := grown_below hbA (how.below ((Below.refl _ _).alloc (Nat.le_refl _) _)) (by simp; omega) hg5
          rcases ho5.shape with ⟨e5, _⟩ | ⟨g5, c5, hv5, hg5B, hg5l, hn5, hc5⟩
          · exfalso
            first
              | exact hnil5 e5
              | (have := hnil5.1 e5; simp at this)
          have hl5 : (cur ++ [0#32]).length = n + 1 := by rw [List.length_append, Hn.out]; rfl
          rw [hl5] at hv5 hn5
          subst hv5
          clear hnil5 hg5 hbA how hbw hzB hl5
          obtain ⟨cs, hcs1, hcs2, hcs3, hcs4⟩ := ho5.cells
          have hsrc := ho5.rest k k (by omega) (.inl rfl)
          unfold maxLen at hc5
          obtain ⟨k1, hk1⟩ : ∃ k1, k1 = k + 1 := ⟨_, rfl⟩
          have q1 : IntKind.i64.wrap ((k : Int) + 1) = (k1 : Int) := by rw [IntWalk.i64_in _ (by omega)]; omega
          have q2 : (k1 : Int) ≤ ((n + 1 : Nat) : Int) := by omega
          have q3 : ((n + 1 : Nat) : Int) ≤ (c5 : Int) := by omega
          have q4 : (k : Int) ≤ ((n + 1 : Nat) : Int) := by omega
          obtain ⟨n1, hn1⟩ : ∃ n1, n + 1 = n1 := ⟨_, rfl⟩
          rw [hn1] at q2 q3 q4 hn5 hcs3 hcs4 ho5 hsrc ⊢
          have q5 : (k1 : Int) ≤ (c5 : Int) := by omega
          have q6 : (k : Int) ≤ (c5 : Int) := by omega
          have hkc5 : ¬ c5 = k := by omega
          have hkn1 : k1 ≤ n1 := by omega
          have hkn2 : k ≤ n1 := by omega
          have hsplit := splice_take cs cur k 0#32 (by rw [Hn.out]; omega) (by rw [Hn.out]; omega) (by rw [Hn.out, hn1]; exact hcs4)
          rw [Hn.out, hn1] at hsplit
          have hcl : ((cur.drop k).map enc).length = n - k := by rw [List.length_map, List.length_drop, Hn.out]
          have hcc : ∀ j v, ((cur.drop k).map enc)[j]? = some v → w5.cell? ((⟨g5, k, none⟩ : Addr).add j) = some v := by
            intro j v hj
            rw [List.getElem?_map] at hj
            cases hy : (cur.drop k)[j]? with
            | none => rw [hy] at hj; cases hj
            | some y =>
              rw [hy] at hj
              cases hj
              have h1 : ((cur ++ [0#32]).drop k)[j]? = some y := by
                rw [List.getElem?_drop] at hy ⊢
                rw [List.getElem?_append_left (List.getElem?_eq_some_iff.1 hy).1]
                exact hy
              have hjl : j < n1 - k := by
                have := (List.getElem?_eq_some_iff.1 hy).1
                rw [List.length_drop, Hn.out] at this
                omega
              obtain ⟨b', o', y', hp', hy', hc'⟩ := hsrc.read hjl
              simp only [Option.some.injEq, Addr.mk.injEq] at hp'
              obtain ⟨rfl, rfl, _⟩ := hp'
              rw [h1] at hy'
              obtain rfl := Option.some.inj hy'
              rw [addr_add]
              exact hc'
          have Hcs1 := Lib.hid hcs1; have Hcs4 := Lib.hid hcs4; have Hsp := Lib.hid hsplit; have Hcl := Lib.hid hcl; have Hcc := Lib.hid hcc; have Hn1 := Lib.hid hn1; have Hk1 := Lib.hid hk1; have Hcs2 := Lib.hid hcs2
          clear hcs1 hcs4 hsplit hcl hcc hn1 hk1 hcs2 hsrc
          have hb5' := Lib.hid hb5
          go_upto_region 11 with (fail)
          go_cut [58] (fun _ wx => Own wx B (.slice (some ⟨g5, 0, none⟩) n1 c5) (((cur ++ [0#32]).take (k + 1)) ++ cur.drop k) ∧ Below B w wx)
          case first =>
            by_cases hkc : k1 = c5
            · have hkc' : (k1 : Int) = (c5 : Int) := by omega
              have hkc2 : c5 = k1 := hkc.symm
              subst hkc2
              go_region_held_law (fun _ => True) (trivial)
                ((refine step_copy_splice (by rfl) _ _ 22 22 (by rfl) 55 Try.underlying22 (by kernel_rfl) _ _ _ _ _ _ (by rfl) (by rfl) g5 (k + 1) cs 55 Hcs1.out ((cur.drop k).map enc) (by rw [Hcl.out]; show _ = Nat.min _ _; have := Hn1.out; have := Hk1.out; simp only [Nat.min_def]; split <;> omega) (fun hp => by exfalso; rw [Hcl.out] at hp; have := Hn1.out; have := Hk1.out; omega) (by rw [Hcl.out, Hcs2.out]; have := Hn1.out; omega) (encs_one _) B w hb5'.out.drew hg5B ?_; intro w6 hg6 hb6))
              go_wp2_with fail
              go_meet
              refine ⟨?_, hb6⟩
              exact Own.of_cells hg5B hg6.out (by rw [length_splice _ _ _ (by rw [Hcl.out, Hcs2.out]; have := Hn1.out; omega)]; exact Hcs2.out) hcs3 (by unfold maxLen; omega) (by rw [List.length_append, List.length_take, List.length_append, List.length_drop, Hn.out]; have := Hn1.out; simp; omega) Hsp.out
            · have hkc' : ¬ c5 = k1 := fun e => hkc e.symm
              go_region_held_law (fun _ => True) (trivial)
                ((refine step_copy_splice (by rfl) _ _ 22 22 (by rfl) 55 Try.underlying22 (by kernel_rfl) _ _ _ _ _ _ (by rfl) (by rfl) g5 (k + 1) cs 55 Hcs1.out ((cur.drop k).map enc) (by rw [Hcl.out]; show _ = Nat.min _ _; have := Hn1.out; have := Hk1.out; simp only [Nat.min_def]; split <;> omega) (fun hp => ⟨by rw [Hk1.out], _, rfl, Hcc.out⟩) (by rw [Hcl.out, Hcs2.out]; have := Hn1.out; omega) (encs_one _) B w hb5'.out.drew hg5B ?_; intro w6 hg6 hb6))
              go_wp2_with fail
              go_meet
              refine ⟨?_, hb6⟩
              exact Own.of_cells hg5B hg6.out (by rw [length_splice _ _ _ (by rw [Hcl.out, Hcs2.out]; have := Hn1.out; omega)]; exact Hcs2.out) hcs3 (by unfold maxLen; omega) (by rw [List.length_append, List.length_take, List.length_append, List.length_drop, Hn.out]; have := Hn1.out; simp; omega) Hsp.out
          case rest =>
            obtain ⟨ho6, hb6⟩ := hcut
            clear hb5 hb5' ho5 Hcs1 Hcs4 Hsp Hcl Hcc Hcs2
            obtain ⟨z6, hz60, hz6c, hz6f⟩ := ho6.read (k := k) (by have := Hn1.out; omega)
            clear hz60
            have b1 : (k : Int) < (n1 : Int) := by have := Hn1.out; omega
            have b1' : k < n1 := by have := Hn1.out; omega
            have ho7 := ho6.stored k x
            rw [set_mid cur k x 0#32 (by rw [Hn.out]; omega), ← HTG.out] at ho7
            have hb7 := hb6.setCell (p := ⟨g5, k, none⟩) hg5B (.int .u32 x.toNat)
            have hl7 := ho7.sl.len.1
            have Hl7 := Lib.hid hl7
            clear ho6 hb6 hl7
            go_wp2
            go_roundw
            case rel => exact ⟨i + 1, Goss.toggle x cur, n1, g5, c5, by omega, by first | rfl | go_num, rfl, HS1, ho7, by have := Hn1.out; omega, hb7⟩
            case measure => simp only [intOf]; omega
    · obtain rfl : i = m := by omega
      have hd : decide ((i : Int) < (i : Int)) = false := by simp
      have hd' : decide (i < i) = false := by simp
      have e1 : Hid (cur = R) := by
        show _ = _
        rw [hS.out, ← Hm.out, List.take_length]
        exact HR.out
      clear hS
      go_wp2
      go_ret
      refine ⟨_, rfl, ?_, by rw [HB.out]; exact hbw⟩
      rw [HB.out, ← e1.out]
      have h9 := Hn.out
      unfold Own at how ⊢
      rw [h9] at how ⊢
      exact how
end Go.Proofs.Ythglbipcfhdoaaa
