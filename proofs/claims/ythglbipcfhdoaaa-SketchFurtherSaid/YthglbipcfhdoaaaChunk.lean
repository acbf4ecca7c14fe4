/- slices.Chunk at bytes: the iterator's contract. -/
import Derived.RangeFuncNested
import Derived.RangeFuncBound
import Derived.RangeFuncCalls
import Derived.RangeFuncLeaves
import Derived.Shelf.Abstract
import Derived.Shelf.RegionOpen
import Derived.WalkKit
import Derived.OwnWalkIn
import Derived.TacticsInMore
import Derived.LoopNIn
import Derived.LoopIn
import Derived.RegionIn
import Derived.Sort.BigQuietIn
import Derived.Sort.QuietIn
import Derived.Test.YthglbipcfhdoaaaStr
namespace Go.Proofs.Ythglbipcfhdoaaa
open Go.RowKit Go.Shelf
attribute [local go_sem] Oper.semAt_some

/-- What a round leaves alone: what lay below B0, and the iterator's two boxes. -/
structure ChKeep (B0 Bs Bn : Nat) (A B : World) : Prop where
  low : Below B0 A B
  s : B.heap[Bs]? = A.heap[Bs]?
  n : B.heap[Bn]? = A.heap[Bn]?
theorem ChKeep.refl (B0 Bs Bn : Nat) (A : World) : ChKeep B0 Bs Bn A A := ⟨Below.refl _ _, rfl, rfl⟩
theorem ChKeep.trans {B0 Bs Bn : Nat} {A B C : World} (h : ChKeep B0 Bs Bn A B) (k : ChKeep B0 Bs Bn B C) : ChKeep B0 Bs Bn A C :=
  ⟨h.low.trans k.low, k.s.trans h.s, k.n.trans h.n⟩

set_option maxRecDepth 100000 in
set_option maxHeartbeats 2000000 in
theorem chunk1_in (n : Nat) (hn : 1 ≤ n) (l Bs Bn B0 b off m cap : Nat) (hm1 : 1 ≤ m) (hm : m ≤ 1000000) (hcap : 4 * m ≤ cap) (_hcap2 : cap ≤ maxLen) (J Jx : List Nat → World → Prop)
    (hY : ∀ pre x W, J pre W → pre.length < m → YieldAt Fence.wide (n - 1) Try.prog l #[.slice (some ⟨b, off + 4 * (x % m), none⟩) 4 4] W fun e W' =>
      (e = .returned (.bool true) ∧ J (pre ++ [x]) W' ∧ ChKeep B0 Bs Bn W W') ∨ (e = .returned (.bool false) ∧ Jx (pre ++ [x]) W'))
    (hJd : ∀ pre (A : World) q, J pre A → J pre (A.drewN q))
    (W : World) (hBs : W.cell? ⟨Bs, 0, none⟩ = some (.slice (some ⟨b, off, none⟩) (4 * m) cap)) (hBn : W.cell? ⟨Bn, 0, none⟩ = some (.int .i64 4)) (h0 : J [] W) :
    CallsIn Fence.wide n Try.prog 83 #[.func (.yield l) #[] #[], .pointer (some ⟨Bs, 0, none⟩), .pointer (some ⟨Bn, 0, none⟩)] W fun e W' => (∃ v, e = .returned v) ∧
      ((∃ ys, ys = List.range m ∧ J ys W') ∨ (∃ pre, True ∧ Jx pre W')) := by
  unfold maxLen at _hcap2
  refine callsIn_of_wp Try.func83 rfl trivial ?_ rfl
  simp only [Try.ntmps83, List.size_toArray, List.length_cons, List.length_nil, Nat.reduceAdd, Nat.reduceSub, Array.replicate_succ, Array.replicate_zero, List.push_toArray, List.append_toArray, List.nil_append, List.cons_append]
  gi_wp2
  gi_loopw [4] (fun i wr => ∃ k : Nat, k ≤ m ∧ i = .int .i64 (4 * k : Nat) ∧ J (List.range k) wr ∧ ChKeep B0 Bs Bn W wr)
    (fun i _ => 4 * m - (intOf i).toNat)
  case atStart => exact ⟨0, Nat.zero_le _, rfl, h0, ChKeep.refl _ _ _ _⟩
  case round =>
    obtain ⟨k, hk, rfl, hJs, hkp⟩ := hrel
    have hcs : wr.cell? ⟨Bs, 0, none⟩ = some (.slice (some ⟨b, off, none⟩) (4 * m) cap) := (World.cell?_of_block (w := W) (a := ⟨Bs, 0, none⟩) hkp.s).trans hBs
    have hcn : wr.cell? ⟨Bn, 0, none⟩ = some (.int .i64 4) := (World.cell?_of_block (w := W) (a := ⟨Bn, 0, none⟩) hkp.n).trans hBn
    by_cases hlt : k < m
    · have hlti : ((4 * k : Nat) : Int) < (4 * m : Nat) := by omega
      have hd : decide (((4 * k : Nat) : Int) < ((4 * m : Nat) : Int)) = true := decide_eq_true hlti
      gi_wp2_with fail
      gi_quiet (fail)
      have hJs2 := hJd _ _ nq hJs
      have hkp2 : ChKeep B0 Bs Bn W (wr.drewN nq) := ⟨hkp.low.drewN _, hkp.s, hkp.n⟩
      generalize wr.drewN nq = ws at *
      have hcs2 : ws.cell? ⟨Bs, 0, none⟩ = some (.slice (some ⟨b, off, none⟩) (4 * m) cap) := (World.cell?_of_block (w := W) (a := ⟨Bs, 0, none⟩) hkp2.s).trans hBs
      have hcn2 : ws.cell? ⟨Bn, 0, none⟩ = some (.int .i64 4) := (World.cell?_of_block (w := W) (a := ⟨Bn, 0, none⟩) hkp2.n).trans hBn
      obtain ⟨fn, tmps, assign, body, hy, hR⟩ := hY (List.range k) k ws hJs2 (by simp; exact hlt)
      rw [Nat.mod_eq_of_lt hlt] at hy
      clear hcs hcn hkp hJs
      gi_wp2
      refine hR.mono ?_
      rintro e W3 (⟨rfl, hJ3, hk3⟩ | ⟨rfl, hJx3⟩)
      · have hkp3 := hkp2.trans hk3
        have hcn3 : W3.cell? ⟨Bn, 0, none⟩ = some (.int .i64 4) := (World.cell?_of_block (w := W) (a := ⟨Bn, 0, none⟩) hkp3.n).trans hBn
        clear hcs2 hcn2 hkp2 hR hy
        gi_wp2
        go_roundw
        case rel => exact ⟨k + 1, by omega, by first | rfl | (congr 1; done) | (congr 1; omega), by rw [List.range_succ]; exact hJ3, hkp3⟩
        case measure => first | omega | (simp [intOf]; done) | (simp [intOf]; omega)
      · gi_wp2
        refine bodyPost_ret (results_none rfl _ _ _) rfl ?_
        exact ⟨⟨_, rfl⟩, .inr ⟨_, trivial, hJx3⟩⟩
    · obtain rfl : k = m := by omega
      have hd : decide (((4 * k : Nat) : Int) < ((4 * k : Nat) : Int)) = false := decide_eq_false (by omega)
      gi_wp2
      go_end0
      exact ⟨⟨_, rfl⟩, .inl ⟨_, rfl, hJs⟩⟩
set_option maxRecDepth 100000 in
set_option maxHeartbeats 1000000 in
theorem chunk1_nil_in (n : Nat) (l Bs Bn : Nat) (p : Option Addr) (cap : Nat) (J : List Nat → World → Prop) (W : World) (hBs : W.cell? ⟨Bs, 0, none⟩ = some (.slice p 0 cap)) (h0 : J [] W) :
    CallsIn Fence.wide n Try.prog 83 #[.func (.yield l) #[] #[], .pointer (some ⟨Bs, 0, none⟩), .pointer (some ⟨Bn, 0, none⟩)] W fun e W' => (∃ v, e = .returned v) ∧ J [] W' := by
  refine callsIn_of_wp Try.func83 rfl trivial ?_ rfl
  simp only [Try.ntmps83, List.size_toArray, List.length_cons, List.length_nil, Nat.reduceAdd, Nat.reduceSub, Array.replicate_succ, Array.replicate_zero, List.push_toArray, List.append_toArray, List.nil_append, List.cons_append]
  gi_wp2
  gi_loopw [4] (fun i wr => i = .int .i64 0 ∧ wr = W) (fun _ _ => 0)
  case atStart => exact ⟨rfl, rfl⟩
  case round =>
    obtain ⟨rfl, rfl⟩ := hrel
    gi_wp2
    go_end0
    exact ⟨⟨_, rfl⟩, h0⟩
theorem abides_drewN {B0 : Nat} {J : List Nat → World → Prop} (h : AbidesFrom B0 J) (pre : List Nat) (A : World) (q : Nat) (hj : J pre A) : J pre (A.drewN q) :=
  h pre A (A.drewN q) none hj (grown_drewN A q none) (fun r e => by cases e)
/-- The iterator over 4 * m bytes: the m pieces, in order. -/
theorem chunk_stops (n : Nat) (hn : 1 ≤ n) (Bs Bn B0 : Nat) (p : Option Addr) (m cap : Nat) (hm : m ≤ 1000000) (hcap : 4 * m ≤ cap) (hcap2 : cap ≤ maxLen) (b off : Nat) (hp : m ≠ 0 → p = some ⟨b, off, none⟩) (w : World)
    (hBsl : Bs < w.heap.size) (hBnl : Bn < w.heap.size) (hBs : w.cell? ⟨Bs, 0, none⟩ = some (.slice p (4 * m) cap)) (hBn : w.cell? ⟨Bn, 0, none⟩ = some (.int .i64 4)) :
    SeqStopsK Fence.wide n Try.prog 83 #[.pointer (some ⟨Bs, 0, none⟩), .pointer (some ⟨Bn, 0, none⟩)] (fun x : Nat => #[Value.slice (some ⟨b, off + 4 * (x % m), none⟩) 4 4]) (ChKeep B0 Bs Bn) (fun ys => ys = List.range m) (fun _ => True) m w := fun l J Jx W hW hJ _ hY h0 => by
  have hc' := (hW.cell (p := ⟨Bs, 0, none⟩) hBsl).trans hBs
  have hn' := (hW.cell (p := ⟨Bn, 0, none⟩) hBnl).trans hBn
  by_cases h : m = 0
  · subst h
    exact (chunk1_nil_in n l Bs Bn p cap J W hc' h0).mono fun e W' ⟨he, hj⟩ => ⟨he, .inl ⟨_, rfl, hj⟩⟩
  · rw [hp h] at hc'
    exact chunk1_in n hn l Bs Bn B0 b off m cap (by omega) hm hcap hcap2 J Jx hY (abides_drewN hJ) W hc' hn' h0
set_option maxRecDepth 100000 in
theorem chunk_in (n : Nat) (p : Option Addr) (len cap : Nat) (w : World) :
    CallsIn Fence.wide n Try.prog 64 #[.slice p len cap, .int .i64 4] w fun e w' => e = .returned (.func (.func 83) #[] #[.pointer (some ⟨w.heap.size, 0, none⟩), .pointer (some ⟨w.heap.size + 1, 0, none⟩)]) ∧ w' = (w.alloc (.cells #[.slice p len cap] 40)).alloc (.cells #[.int .i64 4] 3) := by
  refine callsIn_of_wp Try.func64 rfl trivial ?_ rfl
  simp only [Try.ntmps64, List.size_toArray, List.length_cons, List.length_nil, Nat.reduceAdd, Nat.reduceSub, Array.replicate_succ, Array.replicate_zero, List.push_toArray, List.append_toArray, List.nil_append, List.cons_append]
  gi_wp2
  go_ret
  exact ⟨rfl, rfl⟩
end Go.Proofs.Ythglbipcfhdoaaa
