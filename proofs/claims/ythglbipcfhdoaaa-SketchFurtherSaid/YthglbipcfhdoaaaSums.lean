/- package sketch: sums. -/
import Derived.Test.YthglbipcfhdoaaaChunk
import Derived.Maps.AppendAt
namespace Go.Proofs.Ythglbipcfhdoaaa
open Go.RowKit Go.Shelf
attribute [local go_sem] Oper.semAt_some

theorem ownsRow_base {W : World} {base base' : Nat} {e : TypeId} {size : Nat} {v : Value} {k : Nat} {xs : List Value} (h : W.ownsRow base e size v k xs) (hb : base' ≤ base) : W.ownsRow base' e size v k xs := by
  refine ⟨h.1, ?_⟩
  rcases h.2 with hn | ⟨g, cap, cur, hv, hbg, rest⟩
  · exact .inl hn
  · exact .inr ⟨g, cap, cur, hv, Nat.le_trans hb hbg, rest⟩
def SumsEnd (xs : List Goss.F) (w : World) (e : Ending) (w' : World) : Prop :=
  ∃ v, e = .returned (.tuple #[v, .bool true]) ∧ Own w' w.heap.size v xs ∧ Below w.heap.size w w'
set_option maxRecDepth 100000 in
theorem sums_odd (v : Value) (bs : List (BitVec 8)) (w : World) (h : SlB w v bs) (hl : bs.length ≤ 4000000) (h4 : bs.length % 4 ≠ 0) :
    Calls Try.prog 42 #[v] w (Ret (.tuple #[.slice none 0 0, .bool false]) w) := by
  obtain ⟨p, c, rfl⟩ := h.shape
  generalize bs.length = n at *
  have ht : ((n : Int) % 4 != 0) = true := by rw [bne_iff_ne]; omega
  go_enter Try.func42, Try.ntmps42
  go_wp2
  go_ret2
  exact ⟨rfl, rfl⟩

set_option maxRecDepth 100000 in
set_option maxHeartbeats 2000000 in
theorem sums_any (v : Value) (bs : List (BitVec 8)) (w : World) (h : SlB w v bs) (hl : bs.length ≤ 4000000) (h4 : bs.length % 4 = 0) :
    Calls Try.prog 42 #[v] w (SumsEnd (Goss.sumsP bs) w) := by
  refine (callsIn_wide (n := 9)).1 ?_
  obtain ⟨m, hm⟩ : ∃ m, bs.length = 4 * m := ⟨bs.length / 4, by omega⟩
  have hlen := h.len'
  obtain ⟨p, n, c, rfl, h2, h3, hcap, h5⟩ := h
  obtain ⟨b, off, hp, hblt, hcells⟩ : ∃ b off, (m ≠ 0 → p = some ⟨b, off, none⟩) ∧ (m ≠ 0 → b < w.heap.size) ∧ (m ≠ 0 → ∀ i x, bs[i]? = some x → w.cell? ⟨b, off + i, none⟩ = some (encB x)) := by
    rcases h5 with ⟨rfl, h0, rfl⟩ | ⟨b, o, rfl, hlt, hc⟩
    · exact ⟨0, 0, fun h => by omega, fun h => by omega, fun h => by omega⟩
    · exact ⟨b, o, fun _ => rfl, fun _ => hlt, fun _ => hc⟩
  clear h5
  rw [hm] at h2
  subst h2
  have hm6 : m ≤ 1000000 := by omega
  have ht : ((4 * (m : Int)) % 4 != 0) = false := by rw [bne_eq_false_iff_eq]; omega
  refine callsIn_of_wp_marks Try.func42 rfl trivial ?_ rfl
  simp only [Try.ntmps42, List.size_toArray, List.length_cons, List.length_nil, Nat.reduceAdd, Nat.reduceSub, Array.replicate_succ, Array.replicate_zero, List.push_toArray, List.append_toArray, List.nil_append, List.cons_append]
  gi_wp2_with (refine ⟨trivial, ?_⟩; refine (chunk_in _ _ _ _ _).mono ?_; rintro e w' ⟨rfl, rfl⟩)
  have hX1 : (w.alloc (.cells #[.slice none 0 0] 22)).heap.size = w.heap.size + 1 := by simp
  have bO := Boxed.new w 22 (.slice none 0 0)
  have bS := Boxed.new (w.alloc (.cells #[.slice none 0 0] 22)) 40 (.slice p (4 * m) c)
  have bN := Boxed.new ((w.alloc (.cells #[.slice none 0 0] 22)).alloc (.cells #[.slice p (4 * m) c] 40)) 3 (.int .i64 4)
  have hX2 : ((w.alloc (.cells #[.slice none 0 0] 22)).alloc (.cells #[.slice p (4 * m) c] 40)).heap.size = w.heap.size + 1 + 1 := by simp
  rw [hX1] at bS
  rw [hX2] at bN
  have bO2 := (bO.alloc (.cells #[.slice p (4 * m) c] 40)).alloc (.cells #[.int .i64 4] 3)
  have bS2 := bS.alloc (.cells #[.int .i64 4] 3)
  have hB0 : Below w.heap.size w (((w.alloc (.cells #[.slice none 0 0] 22)).alloc (.cells #[.slice p (4 * m) c] 40)).alloc (.cells #[.int .i64 4] 3)) := (((Below.refl _ w).alloc (Nat.le_refl _) _).alloc (by simp) _).alloc (by simp; omega) _
  obtain ⟨W0, hW0⟩ : ∃ W0, (((w.alloc (.cells #[.slice none 0 0] 22)).alloc (.cells #[.slice p (4 * m) c] 40)).alloc (.cells #[.int .i64 4] 3)) = W0 := ⟨_, rfl⟩
  have hsz : W0.heap.size = w.heap.size + 3 := by rw [← hW0]; simp
  rw [hW0] at bO2 bS2 bN hB0 ⊢
  clear bO bS hX1 hX2 hW0
  generalize hB : w.heap.size = B at *
  refine wpIn_rangeFunc_ownG rfl (by decide) (gf := 83) (lb := #[.pointer (some ⟨B + 1, 0, none⟩), .pointer (some ⟨B + 1 + 1, 0, none⟩)]) rfl trivial (enters_of Try.func83 (by kernel_rfl) rfl)
    (chunk_stops _ (by decide) (B + 1) (B + 1 + 1) B p m c hm6 h3 hcap b off hp W0 (by omega) (by omega) bS2.cell bN.cell) (fun h k => ChKeep.trans h k)
    (fun W l o o' hl hlo hoc how => ⟨belowK_b (by omega) W l o o' hl hlo hoc how, World.putObj_heap_other (by omega), World.putObj_heap_other (by omega)⟩)
    (Below.refl _ _) (fun _ => rfl)
    (fun pre W => (∃ v, Boxed W B 22 v ∧ W.ownsRow (B + 3) 55 1 v pre.length ((pre.map fun x => Goss.wordAt bs (x % m)).map enc) ∧ True) ∧ Below B W0 W)
    (fun _ _ _ => False)
    (OwnFrom.and (Own.from (holdsRow_own (B + 3) B 22 55 1 (fun pre : List Nat => pre.length) (fun pre => (pre.map fun x => Goss.wordAt bs (x % m)).map enc) (fun _ _ => True)) _) (ownFrom_below (by omega) (by omega)))
    (fun _ _ _ _ _ hs _ _ => hs)
    ⟨⟨_, bO2, World.ownsRow_nil _ _ _ _, trivial⟩, Below.refl _ _⟩
    (fun x => { tmps := #[.slice p (4 * m) c, undef, .slice none 0 0, .bool false, .pointer (some ⟨B, 0, none⟩), .slice (some ⟨b, off + 4 * (x % m), none⟩) 4 4, undef, undef, undef, .slice p (4 * m) c, .int .i64 (4 * (m : Int)), .int .i64 0, .bool false, .slice p (4 * m) c, .func (.func 83) #[] #[.pointer (some ⟨B + 1, 0, none⟩), .pointer (some ⟨B + 1 + 1, 0, none⟩)], .slice (some ⟨b, off + 4 * (x % m), none⟩) 4 4, undef, undef, undef, undef, undef, undef, undef, undef, undef, undef, undef, undef, undef, undef, undef, undef, undef, undef, undef, undef], defers := [] }) ?assign ?body ?done ?stop
  case assign =>
    intro l x W K hK
    gi_wp2
    exact hK
  case body =>
    rintro l pre x W ⟨⟨vo, hvo, hro, _⟩, hB2⟩ hlt
    have hBW := hB0.trans hB2
    have hm1 : 0 < m := by omega
    have hxm : x % m < m := Nat.mod_lt _ hm1
    obtain ⟨k, hk⟩ : ∃ k, x % m = k := ⟨_, rfl⟩
    rw [hk] at hxm ⊢
    have hcW : ∀ i, i < 4 → W.cell? ⟨b, off + 4 * k + i, none⟩ = some (.int .u8 ((((bs.drop (4 * k))[i]?).getD 0#8).toNat : Int)) := by
      intro i hi
      have hi2 : 4 * k + i < bs.length := by omega
      have e1 := hcells (by omega) (4 * k + i) (bs[4 * k + i]'hi2) (List.getElem?_eq_getElem hi2)
      rw [← Nat.add_assoc] at e1
      have hbB := hblt (by omega)
      rw [hBW.cell (p := ⟨b, off + 4 * k + i, none⟩) hbB, e1, List.getElem?_drop, List.getElem?_eq_getElem hi2]
      rfl
    have HcW := Lib.hid hcW; clear hcW
    gi_wp2_with fail
    gi_loopw [6, 18] (fun vx vi wr => ∃ i : Nat, i ≤ 4 ∧ vi = .int .i64 i ∧ vx = .int .u32 (Goss.wordTo (bs.drop (4 * k)) i).toNat ∧ W = wr) (fun _ vi _ => 4 - (intOf vi).toNat)
    case atStart => exact ⟨0, by omega, rfl, rfl, rfl⟩
    case round =>
      obtain ⟨i, hi, rfl, rfl, rfl⟩ := hrel
      by_cases hi4 : i < 4
      · have hcell := HcW.out i hi4
        have hd4 : decide ((i : Int) < 4) = true := by simp; omega
        obtain ⟨cb, hcb⟩ : ∃ cb, ((bs.drop (4 * k))[i]?).getD 0#8 = cb := ⟨_, rfl⟩
        rw [hcb] at hcell
        have hcb8 : (cb.toNat : Int) < 256 := by have := cb.isLt; omega
        have hor : bits BinOp.or IntKind.u32 ((Goss.wordTo (bs.drop (4 * k)) i).toNat : Int) ((cb.toNat : Int) * 2 ^ (8 * i) % 4294967296) = ((Goss.wordTo (bs.drop (4 * k)) (i + 1)).toNat : Int) := by
          have e1 : (cb.toNat : Int) = ((cb.setWidth 32 : Goss.F).toNat : Int) := by rw [BitVec.toNat_setWidth]; have := cb.isLt; omega
          rw [e1, u32_shl, u32_or, Goss.wordTo, hcb]
        have Hcb := Lib.hid hcb; clear hcb
        gi_wp2
        exact ⟨⟨i + 1, by omega, rfl, rfl, by first | rfl | trivial⟩, by simp only [intOf]; omega⟩
      · obtain rfl : i = 4 := by omega
        have hd4 : decide ((4 : Int) < 4) = false := by decide
        have hwe : Goss.wordTo (bs.drop (4 * k)) 4 = Goss.wordAt bs k := rfl
        rw [hwe]
        generalize hy : Goss.wordAt bs k = y
        have hc0 := hvo.cell
        have hzW := hB2.size
        obtain ⟨i0, hi0, hz0, hz1, hz2⟩ := info_parts infoU
        have hro2 := ownsRow_base hro (show B ≤ B + 3 by omega)
        gi_wp2_with (gi_at_builtin; refine wpListIn_append_own _ rfl _ _ 22 rfl (B + 3) 55 i0 (.int .u32 0) 1 4 Try.underlying22 hi0 hz0 hz1 hz2 rfl (by decide) _ _ _ rfl (World.ownsRow.alloc hro _) ⟨W.heap.size, 0, none⟩ 1 1 [enc y] rfl rfl (cell_one_new _ _ _) (by simp [Value.oneCell']) (by unfold maxLen; omega) (by omega) (by simp; omega) ?_; intro v' w1 hown' hgrow _; obtain ⟨g', cap', rfl⟩ := ownsRow_succ hown'; have hv1 := (Boxed.alloc hvo _).kept hgrow (hvo.not_row (by decide) hro); have hc1 := hv1.cell; have hf1 := hv1.frozen)
        obtain ⟨_, hv2, _, hk2, hb2⟩ := Boxed.appended hvo (by decide) hro2 (by omega) (Nat.le_refl _) (ownsRow_base hown' (by omega)) hgrow
        have hr2 := hown'.kept (grownBy_setCell' w1 B (.slice (some ⟨g', 0, none⟩) (pre.length + 1) cap')) (.inr (hv1.not_row (by decide) hown').symm)
        have hsame : ∀ q, B < q → q < B + 3 → (w1.setCell ⟨B, 0, none⟩ (.slice (some ⟨g', 0, none⟩) (pre.length + 1) cap')).heap[q]? = W.heap[q]? := by
          intro q h1 h2
          rw [Below.heap_setCell w1 _ _ q (by show q ≠ B; omega)]
          rw [hgrow.block q (by simp; omega) (fun e => by have := (World.ownsRow.lt hro q e.symm).1; omega)]
          exact Below.heap_alloc W _ q (by omega)
        refine ⟨hk2.from _, ⟨hb2, hsame _ (by omega) (by omega), hsame _ (by omega) (by omega)⟩, ⟨⟨_, hv2, ?_, trivial⟩, hB2.trans hb2⟩⟩
        simp only [List.map_append, List.length_append, List.map_cons, List.map_nil, List.length_cons, List.length_nil]
        rw [hk, hy]
        exact hr2
  case done =>
    rintro D ys W hD rfl ⟨⟨vo, hvo, hro, _⟩, hB2⟩ hK
    have hBW := hB0.trans hB2
    have hc0 := hvo.cell
    gi_wp2
    refine ⟨by simp, .inl ⟨_, _, rfl, run_takeDeferred hK, ?_⟩⟩
    have hb3 : Below B w (W.putObj D (.deferred none)) := hBW.trans (belowK_b (w := w) (n₀ := B) (by omega) W D _ _ (by omega) hK rfl rfl)
    refine ⟨_, results_tmp2 rfl _ _ _, vo, rfl, ?_, by rw [hB]; exact hb3⟩
    have hro3 := ownsRow_putObj hro (.deferred none) hK rfl
    rw [hB]
    have e1 : (List.range m).map (fun x => Goss.wordAt bs (x % m)) = Goss.sumsP bs := by
      unfold Goss.sumsP
      rw [hm, Nat.mul_div_cancel_left _ (by omega)]
      apply List.map_congr_left
      intro x hx
      rw [Nat.mod_eq_of_lt (List.mem_range.1 hx)]
    rw [e1] at hro3
    have e2 : (Goss.sumsP bs).length = (List.range m).length := by rw [← e1]; simp
    unfold Own
    rw [e2]
    exact ownsRow_base hro3 (by omega)
  case stop =>
    rintro D c pre W _ _ h _
    exact h.elim
end Go.Proofs.Ythglbipcfhdoaaa
