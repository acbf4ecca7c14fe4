/- package massey: run, Shortest. -/
import Derived.Test.YthglbipcfhdoaaaMasA
import Derived.Test.YthglbipcfhdoaaaRoots3
import Derived.Laws.CopyOwn
namespace Go.Proofs.Ythglbipcfhdoaaa
open Go.RowKit

/-- 'copy(out, s)' into a row of the call's own that fills its block. -/
theorem copy_own {w : World} {ops : Array Oper} {rest : List Oper} {o : Oper} {a : Act} {Q : Exit → Act → World → Prop} (hgd : o.guard = none) (d s : Operand)
    (ho : o.op = .call { callee := .builtin .copy, args := #[d, s], argTypes := #[22, 22] })
    (B g N : Nat) (ds : List Goss.F) (hd : a.eval d = .slice (some ⟨g, 0, none⟩) N N) (hown : Own w B (.slice (some ⟨g, 0, none⟩) N N) ds)
    (vs : Value) (ss : List Goss.F) (hs : a.eval s = vs) (hss : Sl w vs ss) (w0 : World) (hb : Below B w0 w)
    (h : ∀ w', Own w' B (.slice (some ⟨g, 0, none⟩) N N) (ss.take N ++ ds.drop ss.length) → Below B w0 w' → wpList Try.prog ops Q rest (a.put o.dst (.int .i64 ((min ss.length N : Nat) : Int))) w') :
    wpList Try.prog ops Q (o :: rest) a w := by
  have hNd := hown.sl.len.1
  have hBg := hown.lt
  obtain ⟨cur, hgb, hcl⟩ : ∃ cur : Array Value, w.heap[g]? = some (.cells cur 55 (0, 0)) ∧ cur.toList = ds.map enc := by
    rcases hown.2 with ⟨he, _⟩ | ⟨g', cap, cur, he, hbg, hg, hnc, hcm, hcs, htake⟩
    · cases he
    · simp only [Value.slice.injEq, Option.some.injEq, Addr.mk.injEq, and_true] at he
      obtain ⟨rfl, _, rfl⟩ := he
      refine ⟨cur, hg, ?_⟩
      rw [← htake, List.take_of_length_le (by rw [Array.length_toList, hcs]; omega)]
  obtain ⟨sp, sn, sc, rfl, h2, h3, h4, h5⟩ := hss
  have hlen : ((ss.take N).map enc).length = min sn N := by rw [List.length_map, List.length_take]; omega
  refine wpList_copy_splice hgd d s _ _ ho 55 Try.underlying22 (by obtain ⟨i, hi, _, hz, _⟩ := info_parts infoU; rw [hi, ← hz]; rfl) (some ⟨g, 0, none⟩) sp N N sn sc hd hs g 0 cur.toList 55 (by simpa using hgb) ((ss.take N).map enc) hlen ?_ ?_ (encs_one _) B w0 hb hBg.1 ?_
  · intro hpos
    refine ⟨rfl, ?_⟩
    rcases h5 with ⟨rfl, h0, _⟩ | ⟨b, of, rfl, hlt, hc⟩
    · exfalso; omega
    · refine ⟨_, rfl, ?_⟩
      intro j v hj
      rw [addr_add]
      rw [List.getElem?_map, List.getElem?_take] at hj
      split at hj
      · cases hy : ss[j]? with
        | none => rw [hy] at hj; cases hj
        | some y => rw [hy] at hj; cases hj; exact hc j y hy
      · cases hj
  · rw [hlen, hcl, List.length_map, ← hNd]; omega
  · intro w' hg' hb'
    have hres : splice cur.toList 0 ((ss.take N).map enc) = (ss.take N ++ ds.drop ss.length).map enc := by
      unfold splice
      rw [hcl, hlen, List.take_zero, List.nil_append, Nat.zero_add, List.map_append, ← List.map_drop]
      congr 1
      rcases Nat.le_total sn N with h | h
      · rw [Nat.min_eq_left h, h2]
      · rw [Nat.min_eq_right h, List.drop_of_length_le (by omega), List.drop_of_length_le (by omega)]
    have hll : (ss.take N ++ ds.drop ss.length).length = N := by simp; omega
    have hgi : goInt ((ss.take N).map enc).length = .int .i64 ((min ss.length N : Nat) : Int) := by rw [hlen, h2]; rfl
    rw [hgi]
    refine h w' ?_ hb'
    have hcapN : N ≤ maxLen := hown.sl.len.2.2
    refine ⟨by simp, .inr ⟨g, N, _, by rw [hll], hBg.1, hg'.out, by rw [hll]; exact Nat.le_refl _, hcapN, ?_, ?_⟩⟩
    · rw [hres, List.size_toArray, List.length_map, hll, Nat.mul_one]
    · rw [hres]; show ((ss.take N ++ ds.drop ss.length).map enc).take _ = _; rw [hll, List.take_of_length_le (by rw [List.length_map, hll]; omega)]

theorem runTo_bound (s : List Goss.F) (n : Nat) : (Goss.runTo s n).now.length ≤ n + 1 ∧ (Goss.runTo s n).gap + (Goss.runTo s n).old.length ≤ n + 1 ∧ (Goss.runTo s n).len ≤ n := by
  induction n with
  | zero => exact ⟨Nat.le_refl _, Nat.le_refl _, Nat.le_refl _⟩
  | succ n ih =>
    rw [Goss.runTo]
    generalize Goss.runTo s n = x at *
    obtain ⟨h1, h2, h3⟩ := ih
    have hm : ∀ d, (Goss.mendedP x.now x.old (x.gap + 1) x.was d).length ≤ n + 2 := by
      intro d
      unfold Goss.mendedP
      rw [Goss.putP_len]
      simp only [List.length_append, List.length_replicate]
      omega
    unfold Goss.takeP
    split
    · exact ⟨by simp only; omega, by simp only; omega, by simp only; omega⟩
    · split
      · exact ⟨hm _, by simp only; omega, by simp only; omega⟩
      · exact ⟨hm _, by simp only; omega, by simp only; omega⟩

def RunEnd (x : Goss.MSt) (w : World) (e : Ending) (w' : World) : Prop :=
  ∃ X vn vo, e = .returned (.pointer (some ⟨X, 0, none⟩)) ∧ StAt w' X vn vo x ∧ w.heap.size ≤ X ∧ Below w.heap.size w w'

set_option maxRecDepth 100000 in
set_option maxHeartbeats 2000000 in
theorem run_any (vs : Value) (ss : List Goss.F) (w : World) (hs : Sl w vs ss) (hls : ss.length ≤ 900000) :
    Calls Try.prog 60 #[vs] w (RunEnd (Goss.runTo ss ss.length) w) := by
  obtain ⟨ps, cps, rfl⟩ := hs.shape
  generalize hB : w.heap.size = B at *
  have HB := Lib.hid hB; clear hB
  generalize hm : ss.length = m at *
  have Hm := Lib.hid hm; clear hm
  have hst : StAt (((w.alloc (.cells #[.int .u32 (((1#32 : Goss.F).toNat : Nat) : Int)] 55)).alloc (.cells #[.int .u32 (((1#32 : Goss.F).toNat : Nat) : Int)] 55)).alloc (.cells #[.slice (some ⟨w.heap.size, 0, none⟩) 1 1, .slice (some ⟨w.heap.size + 1, 0, none⟩) 1 1, .int .i64 (((0 : Nat) : Nat) : Int), .int .i64 (((0 : Nat) : Nat) : Int), .int .u32 (((1#32 : Goss.F).toNat : Nat) : Int)] 100)) (w.heap.size + 1 + 1) (.slice (some ⟨w.heap.size, 0, none⟩) 1 1) (.slice (some ⟨w.heap.size + 1, 0, none⟩) 1 1) (Goss.runTo ss 0) := by
    have e2 : ((w.alloc (.cells #[.int .u32 (((1#32 : Goss.F).toNat : Nat) : Int)] 55)).alloc (.cells #[.int .u32 (((1#32 : Goss.F).toNat : Nat) : Int)] 55)).heap.size = w.heap.size + 1 + 1 := by simp
    have e1 : (w.alloc (.cells #[.int .u32 (((1#32 : Goss.F).toNat : Nat) : Int)] 55)).heap.size = w.heap.size + 1 := by simp
    have s1 := Sl.one w 1#32
    have s2 := Sl.one (w.alloc (.cells #[.int .u32 (((1#32 : Goss.F).toNat : Nat) : Int)] 55)) 1#32
    rw [e1] at s2
    refine ⟨?_, ?_, ?_, ?_, ?_⟩
    · rw [← e2]; exact heap_alloc_new _ _
    · exact (s1.below ((Below.refl _ _).alloc (Nat.le_refl _) _)).below ((Below.refl _ _).alloc (Nat.le_refl _) _)
    · exact s2.below ((Below.refl _ _).alloc (Nat.le_refl _) _)
    · intro k hk; cases hk; show w.heap.size ≠ _; omega
    · intro k hk; cases hk; show w.heap.size + 1 ≠ _; omega
  have hbW : Below B w (((w.alloc (.cells #[.int .u32 (((1#32 : Goss.F).toNat : Nat) : Int)] 55)).alloc (.cells #[.int .u32 (((1#32 : Goss.F).toNat : Nat) : Int)] 55)).alloc (.cells #[.slice (some ⟨w.heap.size, 0, none⟩) 1 1, .slice (some ⟨w.heap.size + 1, 0, none⟩) 1 1, .int .i64 (((0 : Nat) : Nat) : Int), .int .i64 (((0 : Nat) : Nat) : Int), .int .u32 (((1#32 : Goss.F).toNat : Nat) : Int)] 100)) := by
    have e0 := HB.out
    exact (((Below.refl B w).alloc (by omega) _).alloc (by simp; omega) _).alloc (by simp; omega) _
  have hsX : ∀ k, (Value.slice ps m cps).ownBlock = some k → k ≠ w.heap.size + 1 + 1 := by
    intro k hk
    have := hs.blkLt k hk
    omega
  have HsX := Lib.hid hsX; clear hsX
  have hXB : B ≤ w.heap.size + 1 + 1 := by have := HB.out; omega
  go_enter Try.func60, Try.ntmps60
  go_wp2_with fail
  generalize w.heap.size + 1 + 1 = X at *
  go_loopw [11] (fun i wr => ∃ (j : Nat) (vn vo : Value), j ≤ m ∧ i = .int .i64 j ∧ StAt wr X vn vo (Goss.runTo ss j) ∧ Below B w wr) (fun i _ => m - (intOf i).toNat)
  case atStart => exact ⟨0, _, _, Nat.zero_le _, rfl, hst, hbW⟩
  case round =>
    clear hst hbW
    obtain ⟨j, vn, vo, hj, rfl, hst, hbw⟩ := hrel
    by_cases hlt : j < m
    · have hsw := hs.below (by rw [HB.out]; exact hbw)
      have hbd := runTo_bound ss j
      have htk := take_any X vn vo _ _ ss j wr hst hsw HsX.out (by rw [Hm.out]; exact hlt) (by rw [Hm.out]; omega) (by omega) (by omega) (by omega) hbd.2.2
      change Calls _ _ _ _ (TakeEnd X (Goss.runTo ss (j + 1)) wr) at htk
      clear hbd hsw
      obtain ⟨nxt, hnxt⟩ : ∃ nxt, Goss.runTo ss (j + 1) = nxt := ⟨_, rfl⟩
      rw [hnxt] at htk
      have Hnxt := Lib.hid hnxt; clear hnxt
      have hlti : (j : Int) < m := by omega
      go_wp2_with fail
      refine htk.mono ?_
      rintro e w3 ⟨vn3, vo3, rfl, hst3, hg3⟩
      have hbw3 : Below B w w3 := hbw.grown hg3 (by rw [← HB.out]; exact hbw.size) (fun k hk => by cases hk; exact hXB)
      go_wp2
      go_roundw
      case rel => exact ⟨j + 1, vn3, vo3, by omega, by first | rfl | go_num, by rw [Hnxt.out]; exact hst3, hbw3⟩
      case measure => first | omega | (simp [intOf]; done) | (simp [intOf]; omega)
    · obtain rfl : j = m := by omega
      go_wp2
      go_ret
      exact ⟨X, vn, vo, rfl, hst, by rw [HB.out]; exact hXB, by rw [HB.out]; exact hbw⟩

set_option maxRecDepth 100000 in
set_option maxHeartbeats 2000000 in
theorem shortest_any (vs : Value) (ss : List Goss.F) (w : World) (hs : Sl w vs ss) (hls : ss.length ≤ 900000) :
    Calls Try.prog 35 #[vs] w (New (Goss.shortestP ss) w) := by
  have hrun := run_any vs ss w hs hls
  have hbd := runTo_bound ss ss.length
  obtain ⟨Z, hZ⟩ : ∃ Z, Goss.shortestP ss = Z := ⟨_, rfl⟩
  rw [hZ]
  unfold Goss.shortestP at hZ
  generalize Goss.runTo ss ss.length = x at *
  have HZ := Lib.hid hZ; clear hZ
  generalize hB : w.heap.size = B at *
  have HB := Lib.hid hB; clear hB
  go_enter Try.func35, Try.ntmps35
  go_wp2_with fail
  refine hrun.mono ?_
  rintro e w1 ⟨X, vn, vo, rfl, hst, hX, hb1⟩
  rw [HB.out] at hX hb1
  obtain ⟨c0, _, c2, _, _⟩ := hst.cells
  obtain ⟨pn, cn, hvn⟩ := hst.now.shape
  obtain ⟨N, hN⟩ : ∃ N, x.len + 1 = N := ⟨_, rfl⟩
  have hNi : ((x.len : Nat) : Int) + 1 = (N : Int) := by omega
  have hN2 : N ≤ 1000000 := by omega
  have hz1 : B ≤ w1.heap.size := by rw [← HB.out]; exact hb1.size
  have hwr : IntKind.i64.wrap ((x.len : Int) + 1) = (x.len : Int) + 1 := IntWalk.i64_in _ (by omega)
  have HN := Lib.hid hN; clear hN
  have HNi := Lib.hid hNi; clear hNi
  have hnl := hst.now.len'
  go_wp2_with (at_make; refine mk_own rfl _ _ rfl B .i64 .i64 _ _ N rfl rfl HNi.out HNi.out (by omega) hz1 ?_)
  intro w2 hq hgr
  have hb12 : Below w1.heap.size w1 w2 := ⟨hgr.os, hgr.tape, hgr.output, hgr.size, fun k hk => hgr.block k hk (by simp)⟩
  have hst2 := hst.below hb12
  have hb2 := hb1.trans (hb12.mono hz1)
  obtain ⟨d0, _, _, _, _⟩ := hst2.cells
  have hnow2 := hst2.now
  subst hvn
  clear hst hst2 hb12 hgr c0 c2 hb1
  go_wp2_with (refine copy_own (o := ⟨some 18, _, _, _, _, _⟩) rfl _ _ rfl B w1.heap.size N _ rfl hq _ x.now rfl hnow2 w hb2 ?_)
  intro w3 hown3 hb3
  go_wp2
  go_ret
  refine ⟨_, rfl, ?_, by rw [HB.out]; exact hb3⟩
  rw [HB.out]
  have e : Z = x.now.take N ++ List.replicate (N - x.now.length) 0#32 := by
    rw [← HZ.out, HN.out, List.take_append, List.take_replicate]
    congr 2
    omega
  rw [e]
  exact hown3
end Go.Proofs.Ythglbipcfhdoaaa
