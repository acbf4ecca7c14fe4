/- slices.Chunk at bytes: the iterator's contract. -/
import Derived.RangeFuncNested
import Derived.RangeFuncBound
import Derived.RangeFuncCalls
import Derived.RangeFuncLeaves
import Derived.Shelf.Abstract
import Derived.Shelf.RegionOpen
import Derived.WalkKit
import Derived.OwnWalkIn
import Derived.TacticsInMore
import Derived.LoopNIn
import Derived.LoopIn
import Derived.RegionIn
import Derived.Sort.BigQuietIn
import Derived.Sort.QuietIn
import Derived.Test.YthglbipcfhdoaaaStr
import Derived.Maps.AppendAt
namespace Go.Proofs.Ythglbipcfhdoaaa
open Go.RowKit Go.Shelf
attribute [local go_sem] Oper.semAt_some

/-- What a round leaves alone: what lay below B0, and the iterator's two boxes. -/
structure ChKeep (B0 Bs Bn : Nat) (A B : World) : Prop where
  low : Below B0 A B
  s : B.heap[Bs]? = A.heap[Bs]?
  n : B.heap[Bn]? = A.heap[Bn]?
theorem ChKeep.refl (B0 Bs Bn : Nat) (A : World) : ChKeep B0 Bs Bn A A := ⟨Below.refl _ _, rfl, rfl⟩
theorem ChKeep.trans {B0 Bs Bn : Nat} {A B C : World} (h : ChKeep B0 Bs Bn A B) (k : ChKeep B0 Bs Bn B C) : ChKeep B0 Bs Bn A C :=
  ⟨h.low.trans k.low, k.s.trans h.s, k.n.trans h.n⟩

set_option maxRecDepth 100000 in
set_option maxHeartbeats 2000000 in
theorem chunk1_in (n : Nat) (hn : 1 ≤ n) (l Bs Bn B0 b off m cap : Nat) (hm1 : 1 ≤ m) (hm : m ≤ 1000000) (hcap : 4 * m ≤ cap) (_hcap2 : cap ≤ maxLen) (J Jx : List Nat → World → Prop)
    (hY : ∀ pre x W, J pre W → pre.length < m → YieldAt Fence.wide (n - 1) Try.prog l #[.slice (some ⟨b, off + 4 * (x % m), none⟩) 4 4] W fun e W' =>
      (e = .returned (.bool true) ∧ J (pre ++ [x]) W' ∧ ChKeep B0 Bs Bn W W') ∨ (e = .returned (.bool false) ∧ Jx (pre ++ [x]) W'))
    (hJd : ∀ pre (A : World) q, J pre A → J pre (A.drewN q))
    (W : World) (hBs : W.cell? ⟨Bs, 0, none⟩ = some (.slice (some ⟨b, off, none⟩) (4 * m) cap)) (hBn : W.cell? ⟨Bn, 0, none⟩ = some (.int .i64 4)) (h0 : J [] W) :
    CallsIn Fence.wide n Try.prog 83 #[.func (.yield l) #[] #[], .pointer (some ⟨Bs, 0, none⟩), .pointer (some ⟨Bn, 0, none⟩)] W fun e W' => (∃ v, e = .returned v) ∧
      ((∃ ys, ys = List.range m ∧ J ys W') ∨ (∃ pre, True ∧ Jx pre W')) := by
  unfold maxLen at _hcap2
  refine callsIn_of_wp Try.func83 rfl trivial ?_ rfl
  simp only [Try.ntmps83, List.size_toArray, List.length_cons, List.length_nil, Nat.reduceAdd, Nat.reduceSub, Array.replicate_succ, Array.replicate_zero, List.push_toArray, List.append_toArray, List.nil_append, List.cons_append]
  gi_wp2
  gi_loopw [4] (fun i wr => ∃ k : Nat, k ≤ m ∧ i = .int .i64 (4 * k : Nat) ∧ J (List.range k) wr ∧ ChKeep B0 Bs Bn W wr)
    (fun i _ => 4 * m - (intOf i).toNat)
  case atStart => exact ⟨0, Nat.zero_le _, rfl, h0, ChKeep.refl _ _ _ _⟩
  case round =>
    obtain ⟨k, hk, rfl, hJs, hkp⟩ := hrel
    have hcs : wr.cell? ⟨Bs, 0, none⟩ = some (.slice (some ⟨b, off, none⟩) (4 * m) cap) := (World.cell?_of_block (w := W) (a := ⟨Bs, 0, none⟩) hkp.s).trans hBs
    have hcn : wr.cell? ⟨Bn, 0, none⟩ = some (.int .i64 4) := (World.cell?_of_block (w := W) (a := ⟨Bn, 0, none⟩) hkp.n).trans hBn
    by_cases hlt : k < m
    · have hlti : ((4 * k : Nat) : Int) < (4 * m : Nat) := by omega
      have hd : decide (((4 * k : Nat) : Int) < ((4 * m : Nat) : Int)) = true := decide_eq_true hlti
      gi_wp2_with fail
      gi_quiet (fail)
      have hJs2 := hJd _ _ nq hJs
      have hkp2 : ChKeep B0 Bs Bn W (wr.drewN nq) := ⟨hkp.low.drewN _, hkp.s, hkp.n⟩
      generalize wr.drewN nq = ws at *
      have hcs2 : ws.cell? ⟨Bs, 0, none⟩ = some (.slice (some ⟨b, off, none⟩) (4 * m) cap) := (World.cell?_of_block (w := W) (a := ⟨Bs, 0, none⟩) hkp2.s).trans hBs
      have hcn2 : ws.cell? ⟨Bn, 0, none⟩ = some (.int .i64 4) := (World.cell?_of_block (w := W) (a := ⟨Bn, 0, none⟩) hkp2.n).trans hBn
      obtain ⟨fn, tmps, assign, body, hy, hR⟩ := hY (List.range k) k ws hJs2 (by simp; exact hlt)
      rw [Nat.mod_eq_of_lt hlt] at hy
      clear hcs hcn hkp hJs
      gi_wp2
      refine hR.mono ?_
      rintro e W3 (⟨rfl, hJ3, hk3⟩ | ⟨rfl, hJx3⟩)
      · have hkp3 := hkp2.trans hk3
        have hcn3 : W3.cell? ⟨Bn, 0, none⟩ = some (.int .i64 4) := (World.cell?_of_block (w := W) (a := ⟨Bn, 0, none⟩) hkp3.n).trans hBn
        clear hcs2 hcn2 hkp2 hR hy
        gi_wp2
        go_roundw
        case rel => exact ⟨k + 1, by omega, by first | rfl | (congr 1; done) | (congr 1; omega), by rw [List.range_succ]; exact hJ3, hkp3⟩
        case measure => first | omega | (simp [intOf]; done) | (simp [intOf]; omega)
      · gi_wp2
        refine bodyPost_ret (results_none rfl _ _ _) rfl ?_
        exact ⟨⟨_, rfl⟩, .inr ⟨_, trivial, hJx3⟩⟩
    · obtain rfl : k = m := by omega
      have hd : decide (((4 * k : Nat) : Int) < ((4 * k : Nat) : Int)) = false := decide_eq_false (by omega)
      gi_wp2
      go_end0
      exact ⟨⟨_, rfl⟩, .inl ⟨_, rfl, hJs⟩⟩
set_option maxRecDepth 100000 in
set_option maxHeartbeats 1000000 in
theorem chunk1_nil_in (n : Nat) (l Bs Bn : Nat) (p : Option Addr) (cap : Nat) (J : List Nat → World → Prop) (W : World) (hBs : W.cell? ⟨Bs, 0, none⟩ = some (.slice p 0 cap)) (h0 : J [] W) :
    CallsIn Fence.wide n Try.prog 83 #[.func (.yield l) #[] #[], .pointer (some ⟨Bs, 0, none⟩), .pointer (some ⟨Bn, 0, none⟩)] W fun e W' => (∃ v, e = .returned v) ∧ J [] W' := by
  refine callsIn_of_wp Try.func83 rfl trivial ?_ rfl
  simp only [Try.ntmps83, List.size_toArray, List.length_cons, List.length_nil, Nat.reduceAdd, Nat.reduceSub, Array.replicate_succ, Array.replicate_zero, List.push_toArray, List.append_toArray, List.nil_append, List.cons_append]
  gi_wp2
  gi_loopw [4] (fun i wr => i = .int .i64 0 ∧ wr = W) (fun _ _ => 0)
  case atStart => exact ⟨rfl, rfl⟩
  case round =>
    obtain ⟨rfl, rfl⟩ := hrel
    gi_wp2
    go_end0
    exact ⟨⟨_, rfl⟩, h0⟩
theorem abides_drewN {B0 : Nat} {J : List Nat → World → Prop} (h : AbidesFrom B0 J) (pre : List Nat) (A : World) (q : Nat) (hj : J pre A) : J pre (A.drewN q) :=
  h pre A (A.drewN q) none hj (grown_drewN A q none) (fun r e => by cases e)
/-- The iterator over 4 * m bytes: the m pieces, in order. -/
theorem chunk_stops (n : Nat) (hn : 1 ≤ n) (Bs Bn B0 : Nat) (p : Option Addr) (m cap : Nat) (hm : m ≤ 1000000) (hcap : 4 * m ≤ cap) (hcap2 : cap ≤ maxLen) (b off : Nat) (hp : m ≠ 0 → p = some ⟨b, off, none⟩) (w : World)
    (hBsl : Bs < w.heap.size) (hBnl : Bn < w.heap.size) (hBs : w.cell? ⟨Bs, 0, none⟩ = some (.slice p (4 * m) cap)) (hBn : w.cell? ⟨Bn, 0, none⟩ = some (.int .i64 4)) :
    SeqStopsK Fence.wide n Try.prog 83 #[.pointer (some ⟨Bs, 0, none⟩), .pointer (some ⟨Bn, 0, none⟩)] (fun x : Nat => #[Value.slice (some ⟨b, off + 4 * (x % m), none⟩) 4 4]) (ChKeep B0 Bs Bn) (fun ys => ys = List.range m) (fun _ => True) m w := fun l J Jx W hW hJ _ hY h0 => by
  have hc' := (hW.cell (p := ⟨Bs, 0, none⟩) hBsl).trans hBs
  have hn' := (hW.cell (p := ⟨Bn, 0, none⟩) hBnl).trans hBn
  by_cases h : m = 0
  · subst h
    exact (chunk1_nil_in n l Bs Bn p cap J W hc' h0).mono fun e W' ⟨he, hj⟩ => ⟨he, .inl ⟨_, rfl, hj⟩⟩
  · rw [hp h] at hc'
    exact chunk1_in n hn l Bs Bn B0 b off m cap (by omega) hm hcap hcap2 J Jx hY (abides_drewN hJ) W hc' hn' h0
set_option maxRecDepth 100000 in
theorem chunk_in (n : Nat) (p : Option Addr) (len cap : Nat) (w : World) :
    CallsIn Fence.wide n Try.prog 64 #[.slice p len cap, .int .i64 4] w fun e w' => e = .returned (.func (.func 83) #[] #[.pointer (some ⟨w.heap.size, 0, none⟩), .pointer (some ⟨w.heap.size + 1, 0, none⟩)]) ∧ w' = (w.alloc (.cells #[.slice p len cap] 40)).alloc (.cells #[.int .i64 4] 3) := by
  refine callsIn_of_wp Try.func64 rfl trivial ?_ rfl
  simp only [Try.ntmps64, List.size_toArray, List.length_cons, List.length_nil, Nat.reduceAdd, Nat.reduceSub, Array.replicate_succ, Array.replicate_zero, List.push_toArray, List.append_toArray, List.nil_append, List.cons_append]
  gi_wp2
  go_ret
  exact ⟨rfl, rfl⟩
end Go.Proofs.Ythglbipcfhdoaaa
/- package sketch: sums. -/
namespace Go.Proofs.Ythglbipcfhdoaaa
open Go.RowKit Go.Shelf
attribute [local go_sem] Oper.semAt_some

theorem ownsRow_base {W : World} {base base' : Nat} {e : TypeId} {size : Nat} {v : Value} {k : Nat} {xs : List Value} (h : W.ownsRow base e size v k xs) (hb : base' ≤ base) : W.ownsRow base' e size v k xs := by
  refine ⟨h.1, ?_⟩
  rcases h.2 with hn | ⟨g, cap, cur, hv, hbg, rest⟩
  · exact .inl hn
  · exact .inr ⟨g, cap, cur, hv, Nat.le_trans hb hbg, rest⟩
def SumsEnd (xs : List Goss.F) (w : World) (e : Ending) (w' : World) : Prop :=
  ∃ v, e = .returned (.tuple #[v, .bool true]) ∧ Own w' w.heap.size v xs ∧ Below w.heap.size w w'
set_option maxRecDepth 100000 in
theorem sums_odd (v : Value) (bs : List (BitVec 8)) (w : World) (h : SlB w v bs) (hl : bs.length ≤ 4000000) (h4 : bs.length % 4 ≠ 0) :
    Calls Try.prog 42 #[v] w (Ret (.tuple #[.slice none 0 0, .bool false]) w) := by
  obtain ⟨p, c, rfl⟩ := h.shape
  generalize bs.length = n at *
  have ht : ((n : Int) % 4 != 0) = true := by rw [bne_iff_ne]; omega
  go_enter Try.func42, Try.ntmps42
  go_wp2
  go_ret2
  exact ⟨rfl, rfl⟩

set_option maxRecDepth 100000 in
set_option maxHeartbeats 2000000 in
theorem sums_any (v : Value) (bs : List (BitVec 8)) (w : World) (h : SlB w v bs) (hl : bs.length ≤ 4000000) (h4 : bs.length % 4 = 0) :
    Calls Try.prog 42 #[v] w (SumsEnd (Goss.sumsP bs) w) := by
  refine (callsIn_wide (n := 9)).1 ?_
  obtain ⟨m, hm⟩ : ∃ m, bs.length = 4 * m := ⟨bs.length / 4, by omega⟩
  have hlen := h.len'
  obtain ⟨p, n, c, rfl, h2, h3, hcap, h5⟩ := h
  obtain ⟨b, off, hp, hblt, hcells⟩ : ∃ b off, (m ≠ 0 → p = some ⟨b, off, none⟩) ∧ (m ≠ 0 → b < w.heap.size) ∧ (m ≠ 0 → ∀ i x, bs[i]? = some x → w.cell? ⟨b, off + i, none⟩ = some (encB x)) := by
    rcases h5 with ⟨rfl, h0, rfl⟩ | ⟨b, o, rfl, hlt, hc⟩
    · exact ⟨0, 0, fun h => by omega, fun h => by omega, fun h => by omega⟩
    · exact ⟨b, o, fun _ => rfl, fun _ => hlt, fun _ => hc⟩
  clear h5
  rw [hm] at h2
  subst h2
  have hm6 : m ≤ 1000000 := by omega
  have ht : ((4 * (m : Int)) % 4 != 0) = false := by rw [bne_eq_false_iff_eq]; omega
  refine callsIn_of_wp_marks Try.func42 rfl trivial ?_ rfl
  simp only [Try.ntmps42, List.size_toArray, List.length_cons, List.length_nil, Nat.reduceAdd, Nat.reduceSub, Array.replicate_succ, Array.replicate_zero, List.push_toArray, List.append_toArray, List.nil_append, List.cons_append]
  gi_wp2_with (refine ⟨trivial, ?_⟩; refine (chunk_in _ _ _ _ _).mono ?_; rintro e w' ⟨rfl, rfl⟩)
  have hX1 : (w.alloc (.cells #[.slice none 0 0] 22)).heap.size = w.heap.size + 1 := by simp
  have bO := Boxed.new w 22 (.slice none 0 0)
  have bS := Boxed.new (w.alloc (.cells #[.slice none 0 0] 22)) 40 (.slice p (4 * m) c)
  have bN := Boxed.new ((w.alloc (.cells #[.slice none 0 0] 22)).alloc (.cells #[.slice p (4 * m) c] 40)) 3 (.int .i64 4)
  have hX2 : ((w.alloc (.cells #[.slice none 0 0] 22)).alloc (.cells #[.slice p (4 * m) c] 40)).heap.size = w.heap.size + 1 + 1 := by simp
  rw [hX1] at bS
  rw [hX2] at bN
  have bO2 := (bO.alloc (.cells #[.slice p (4 * m) c] 40)).alloc (.cells #[.int .i64 4] 3)
  have bS2 := bS.alloc (.cells #[.int .i64 4] 3)
  have hB0 : Below w.heap.size w (((w.alloc (.cells #[.slice none 0 0] 22)).alloc (.cells #[.slice p (4 * m) c] 40)).alloc (.cells #[.int .i64 4] 3)) := (((Below.refl _ w).alloc (Nat.le_refl _) _).alloc (by simp) _).alloc (by simp; omega) _
  obtain ⟨W0, hW0⟩ : ∃ W0, (((w.alloc (.cells #[.slice none 0 0] 22)).alloc (.cells #[.slice p (4 * m) c] 40)).alloc (.cells #[.int .i64 4] 3)) = W0 := ⟨_, rfl⟩
  have hsz : W0.heap.size = w.heap.size + 3 := by rw [← hW0]; simp
  rw [hW0] at bO2 bS2 bN hB0 ⊢
  clear bO bS hX1 hX2 hW0
  generalize hB : w.heap.size = B at *
  refine wpIn_rangeFunc_ownG rfl (by decide) (gf := 83) (lb := #[.pointer (some ⟨B + 1, 0, none⟩), .pointer (some ⟨B + 1 + 1, 0, none⟩)]) rfl trivial (enters_of Try.func83 (by kernel_rfl) rfl)
    (chunk_stops _ (by decide) (B + 1) (B + 1 + 1) B p m c hm6 h3 hcap b off hp W0 (by omega) (by omega) bS2.cell bN.cell) (fun h k => ChKeep.trans h k)
    (fun W l o o' hl hlo hoc how => ⟨belowK_b (by omega) W l o o' hl hlo hoc how, World.putObj_heap_other (by omega), World.putObj_heap_other (by omega)⟩)
    (Below.refl _ _) (fun _ => rfl)
    (fun pre W => (∃ v, Boxed W B 22 v ∧ W.ownsRow (B + 3) 55 1 v pre.length ((pre.map fun x => Goss.wordAt bs (x % m)).map enc) ∧ True) ∧ Below B W0 W)
    (fun _ _ _ => False)
    (OwnFrom.and (Own.from (holdsRow_own (B + 3) B 22 55 1 (fun pre : List Nat => pre.length) (fun pre => (pre.map fun x => Goss.wordAt bs (x % m)).map enc) (fun _ _ => True)) _) (ownFrom_below (by omega) (by omega)))
    (fun _ _ _ _ _ hs _ _ => hs)
    ⟨⟨_, bO2, World.ownsRow_nil _ _ _ _, trivial⟩, Below.refl _ _⟩
    (fun x => { tmps := #[.slice p (4 * m) c, undef, .slice none 0 0, .bool false, .pointer (some ⟨B, 0, none⟩), .slice (some ⟨b, off + 4 * (x % m), none⟩) 4 4, undef, undef, undef, .slice p (4 * m) c, .int .i64 (4 * (m : Int)), .int .i64 0, .bool false, .slice p (4 * m) c, .func (.func 83) #[] #[.pointer (some ⟨B + 1, 0, none⟩), .pointer (some ⟨B + 1 + 1, 0, none⟩)], .slice (some ⟨b, off + 4 * (x % m), none⟩) 4 4, undef, undef, undef, undef, undef, undef, undef, undef, undef, undef, undef, undef, undef, undef, undef, undef, undef, undef, undef, undef], defers := [] }) ?assign ?body ?done ?stop
  case assign =>
    intro l x W K hK
    gi_wp2
    exact hK
  case body =>
    rintro l pre x W ⟨⟨vo, hvo, hro, _⟩, hB2⟩ hlt
    have hBW := hB0.trans hB2
    have hm1 : 0 < m := by omega
    have hxm : x % m < m := Nat.mod_lt _ hm1
    obtain ⟨k, hk⟩ : ∃ k, x % m = k := ⟨_, rfl⟩
    rw [hk] at hxm ⊢
    have hcW : ∀ i, i < 4 → W.cell? ⟨b, off + 4 * k + i, none⟩ = some (.int .u8 ((((bs.drop (4 * k))[i]?).getD 0#8).toNat : Int)) := by
      intro i hi
      have hi2 : 4 * k + i < bs.length := by omega
      have e1 := hcells (by omega) (4 * k + i) (bs[4 * k + i]'hi2) (List.getElem?_eq_getElem hi2)
      rw [← Nat.add_assoc] at e1
      have hbB := hblt (by omega)
      rw [hBW.cell (p := ⟨b, off + 4 * k + i, none⟩) hbB, e1, List.getElem?_drop, List.getElem?_eq_getElem hi2]
      rfl
    have HcW := Lib.hid hcW; clear hcW
    gi_wp2_with fail
    gi_loopw [6, 18] (fun vx vi wr => ∃ i : Nat, i ≤ 4 ∧ vi = .int .i64 i ∧ vx = .int .u32 (Goss.wordTo (bs.drop (4 * k)) i).toNat ∧ W = wr) (fun _ vi _ => 4 - (intOf vi).toNat)
    case atStart => exact ⟨0, by omega, rfl, rfl, rfl⟩
    case round =>
      obtain ⟨i, hi, rfl, rfl, rfl⟩ := hrel
      by_cases hi4 : i < 4
      · have hcell := HcW.out i hi4
        have hd4 : decide ((i : Int) < 4) = true := by simp; omega
        obtain ⟨cb, hcb⟩ : ∃ cb, ((bs.drop (4 * k))[i]?).getD 0#8 = cb := ⟨_, rfl⟩
        rw [hcb] at hcell
        have hcb8 : (cb.toNat : Int) < 256 := by have := cb.isLt; omega
        have hor : bits BinOp.or IntKind.u32 ((Goss.wordTo (bs.drop (4 * k)) i).toNat : Int) ((cb.toNat : Int) * 2 ^ (8 * i) % 4294967296) = ((Goss.wordTo (bs.drop (4 * k)) (i + 1)).toNat : Int) := by
          have e1 : (cb.toNat : Int) = ((cb.setWidth 32 : Goss.F).toNat : Int) := by rw [BitVec.toNat_setWidth]; have := cb.isLt; omega
          rw [e1, u32_shl, u32_or, Goss.wordTo, hcb]
        have Hcb := Lib.hid hcb; clear hcb
        gi_wp2
        exact ⟨⟨i + 1, by omega, rfl, rfl, by first | rfl | trivial⟩, by simp only [intOf]; omega⟩
      · obtain rfl : i = 4 := by omega
        have hd4 : decide ((4 : Int) < 4) = false := by decide
        have hwe : Goss.wordTo (bs.drop (4 * k)) 4 = Goss.wordAt bs k := rfl
        rw [hwe]
        generalize hy : Goss.wordAt bs k = y
        have hc0 := hvo.cell
        have hzW := hB2.size
        obtain ⟨i0, hi0, hz0, hz1, hz2⟩ := info_parts infoU
        have hro2 := ownsRow_base hro (show B ≤ B + 3 by omega)
        gi_wp2_with (gi_at_builtin; refine wpListIn_append_own _ rfl _ _ 22 rfl (B + 3) 55 i0 (.int .u32 0) 1 4 Try.underlying22 hi0 hz0 hz1 hz2 rfl (by decide) _ _ _ rfl (World.ownsRow.alloc hro _) ⟨W.heap.size, 0, none⟩ 1 1 [enc y] rfl rfl (cell_one_new _ _ _) (by simp [Value.oneCell']) (by unfold maxLen; omega) (by omega) (by simp; omega) ?_; intro v' w1 hown' hgrow _; obtain ⟨g', cap', rfl⟩ := ownsRow_succ hown'; have hv1 := (Boxed.alloc hvo _).kept hgrow (hvo.not_row (by decide) hro); have hc1 := hv1.cell; have hf1 := hv1.frozen)
        obtain ⟨_, hv2, _, hk2, hb2⟩ := Boxed.appended hvo (by decide) hro2 (by omega) (Nat.le_refl _) (ownsRow_base hown' (by omega)) hgrow
        have hr2 := hown'.kept (grownBy_setCell' w1 B (.slice (some ⟨g', 0, none⟩) (pre.length + 1) cap')) (.inr (hv1.not_row (by decide) hown').symm)
        have hsame : ∀ q, B < q → q < B + 3 → (w1.setCell ⟨B, 0, none⟩ (.slice (some ⟨g', 0, none⟩) (pre.length + 1) cap')).heap[q]? = W.heap[q]? := by
          intro q h1 h2
          rw [Below.heap_setCell w1 _ _ q (by show q ≠ B; omega)]
          rw [hgrow.block q (by simp; omega) (fun e => by have := (World.ownsRow.lt hro q e.symm).1; omega)]
          exact Below.heap_alloc W _ q (by omega)
        refine ⟨hk2.from _, ⟨hb2, hsame _ (by omega) (by omega), hsame _ (by omega) (by omega)⟩, ⟨⟨_, hv2, ?_, trivial⟩, hB2.trans hb2⟩⟩
        simp only [List.map_append, List.length_append, List.map_cons, List.map_nil, List.length_cons, List.length_nil]
        rw [hk, hy]
        exact hr2
  case done =>
    rintro D ys W hD rfl ⟨⟨vo, hvo, hro, _⟩, hB2⟩ hK
    have hBW := hB0.trans hB2
    have hc0 := hvo.cell
    gi_wp2
    refine ⟨by simp, .inl ⟨_, _, rfl, run_takeDeferred hK, ?_⟩⟩
    have hb3 : Below B w (W.putObj D (.deferred none)) := hBW.trans (belowK_b (w := w) (n₀ := B) (by omega) W D _ _ (by omega) hK rfl rfl)
    refine ⟨_, results_tmp2 rfl _ _ _, vo, rfl, ?_, by rw [hB]; exact hb3⟩
    have hro3 := ownsRow_putObj hro (.deferred none) hK rfl
    rw [hB]
    have e1 : (List.range m).map (fun x => Goss.wordAt bs (x % m)) = Goss.sumsP bs := by
      unfold Goss.sumsP
      rw [hm, Nat.mul_div_cancel_left _ (by omega)]
      apply List.map_congr_left
      intro x hx
      rw [Nat.mod_eq_of_lt (List.mem_range.1 hx)]
    rw [e1] at hro3
    have e2 : (Goss.sumsP bs).length = (List.range m).length := by rw [← e1]; simp
    unfold Own
    rw [e2]
    exact ownsRow_base hro3 (by omega)
  case stop =>
    rintro D c pre W _ _ h _
    exact h.elim
end Go.Proofs.Ythglbipcfhdoaaa
