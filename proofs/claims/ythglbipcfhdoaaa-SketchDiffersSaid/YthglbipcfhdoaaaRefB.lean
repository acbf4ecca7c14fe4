/- gossamerref05: Bytes, Sums. -/
import Derived.Test.YthglbipcfhdoaaaStr
import Derived.StillTailTactics
import Derived.Deep.RegionHeld3
import Derived.Deep.AppendLies
import Derived.Test.YthglbipcfhdoaaaChSums
namespace Go.Proofs.Ythglbipcfhdoaaa
open Go.RowKit

/-- 'append(s, x..)' onto a row of bytes of the call's own. -/
theorem app_bytes {w : World} {ops : Array Oper} {rest : List Oper} {o : Oper} {a : Act} {Q : Exit → Act → World → Prop} (hgd : o.guard = none) (s x : Operand)
    (ho : o.op = .call { callee := .builtin .append, args := #[s, x], argTypes := #[40, 40] })
    (B : Nat) (v : Value) (xs : List (BitVec 8)) (hs : a.eval s = v) (hown : OwnB w B v xs)
    (bb n c : Nat) (ys : List (BitVec 8)) (hx : a.eval x = .slice (some ⟨bb, 0, none⟩) n c) (hn : ys.length = n) (hys : ∀ j y, ys[j]? = some y → w.cell? ⟨bb, j, none⟩ = some (encB y))
    (hlen : xs.length + ys.length ≤ 35184372088832) (hbase : B ≤ w.heap.size)
    (h : ∀ v' w', OwnB w' B v' (xs ++ ys) → w.grownBy w' v.ownBlock → wpList Try.prog ops Q rest (a.put o.dst v') w') :
    wpList Try.prog ops Q (o :: rest) a w := by
  obtain ⟨i0, hi, hz0, hz1, hz2⟩ := info_parts infoB
  subst hn
  refine wpList_append_own2 w hgd s x 40 ho B 5 i0 (.int .u8 0) 1 1 Try.underlying40 hi hz0 hz1 hz2 rfl (by decide) v xs.length (xs.map encB) hs hown ⟨bb, 0, none⟩ ys.length c (ys.map encB) hx (by simp) ?_ ?_ (by unfold maxLen; omega) (by omega) hbase ?_
  · intro j u hj
    rw [List.getElem?_map] at hj
    cases hy : ys[j]? with
    | none => rw [hy] at hj; cases hj
    | some y =>
      rw [hy] at hj
      cases hj
      rw [addr_add, Nat.zero_add]
      exact hys j y hy
  · intro u hu
    obtain ⟨x, _, rfl⟩ := List.mem_map.1 hu
    rfl
  · intro v' w' h1 h2 _
    refine h v' w' ?_ h2
    unfold OwnB
    rw [List.length_append, List.map_append]
    exact h1

set_option maxRecDepth 100000 in
set_option maxHeartbeats 2000000 in
theorem refbytes_any (v : Value) (xs : List Goss.F) (w : World) (h : Sl w v xs) (hlen : xs.length ≤ 1000000) :
    Calls Try.prog 20 #[v] w (NewB (Goss.bytesP xs) w) := by
  obtain ⟨p, c, rfl⟩ := h.shape
  generalize hB : w.heap.size = B at *
  have HB := Lib.hid hB; clear hB
  generalize hm : xs.length = m at *
  have Hm := Lib.hid hm; clear hm
  obtain ⟨R, hR⟩ : ∃ R, Goss.bytesP xs = R := ⟨_, rfl⟩
  have HR := Lib.hid hR; clear hR
  go_enter Try.func20, Try.ntmps20
  go_wp2_with fail
  go_loopw [3, 4] (fun vo vi wr => ∃ (j : Nat) (out : List (BitVec 8)), j ≤ m ∧ vi = .int .i64 j ∧ OwnB wr B vo out ∧ Hid (out = Goss.bytesP (xs.take j)) ∧ out.length = 4 * j ∧ Below B w wr) (fun _ vi _ => m - (intOf vi).toNat)
  case atStart => exact ⟨0, [], by omega, rfl, OwnB.nil _ _, (by simp [Goss.bytesP] : ([] : List (BitVec 8)) = _), rfl, Below.refl _ _⟩
  case round =>
    obtain ⟨j, out, hj, rfl, how, hx, hlo, hbw⟩ := hrel
    by_cases hlt : j < m
    · obtain ⟨b1, o1, x, rfl, hx0, hxc⟩ := (h.below (by rw [HB.out]; exact hbw)).read (k := j) hlt
      have hbl : b1 < B := by rw [← HB.out]; exact h.blk
      have hlti : (j : Int) < m := by omega
      have hj0 : (0 : Int) ≤ j := by omega
      have hx32 : (x.toNat : Int) < 4294967296 := by have := x.isLt; omega
      have Hx0 := Lib.hid hx0; clear hx0
      have hx0' : (0 : Int) ≤ (x.toNat : Int) := by omega
      have b0 : IntKind.u8.wrap ((x.toNat : Int).tmod 256) = ((x.setWidth 8).toNat : Int) := by
        rw [Int.tmod_eq_emod_of_nonneg hx0', IntKind.wrap_u8, BitVec.toNat_setWidth]; omega
      have b1' : IntKind.u8.wrap ((IntKind.u32.wrap ((x.toNat : Int) / 256)).tmod 256) = (((x >>> 8).setWidth 8).toNat : Int) := by
        rw [IntWalk.u32_in _ (by omega), Int.tmod_eq_emod_of_nonneg (by omega), IntKind.wrap_u8, BitVec.toNat_setWidth, BitVec.toNat_ushiftRight, Nat.shiftRight_eq_div_pow]; omega
      have b2 : IntKind.u8.wrap ((IntKind.u32.wrap ((x.toNat : Int) / 65536)).tmod 256) = (((x >>> 16).setWidth 8).toNat : Int) := by
        rw [IntWalk.u32_in _ (by omega), Int.tmod_eq_emod_of_nonneg (by omega), IntKind.wrap_u8, BitVec.toNat_setWidth, BitVec.toNat_ushiftRight, Nat.shiftRight_eq_div_pow]; omega
      have b3 : IntKind.u8.wrap (IntKind.u32.wrap ((x.toNat : Int) / 16777216)) = (((x >>> 24).setWidth 8).toNat : Int) := by
        rw [IntWalk.u32_in _ (by omega), IntKind.wrap_u8, BitVec.toNat_setWidth, BitVec.toNat_ushiftRight, Nat.shiftRight_eq_div_pow]; omega
      have hx1 : Hid (out ++ Goss.bytesF x = Goss.bytesP (xs.take (j + 1))) := by
        show _ = _
        obtain ⟨hl, hxe⟩ := List.getElem?_eq_some_iff.1 Hx0.out
        rw [List.take_succ_eq_append_getElem hl, hx.out, hxe]
        simp [Goss.bytesP]
      have hF : Goss.bytesF x = [x.setWidth 8, (x >>> 8).setWidth 8, (x >>> 16).setWidth 8, (x >>> 24).setWidth 8] := rfl
      rw [hF] at hx1
      generalize x.setWidth 8 = y0 at *
      generalize (x >>> 8).setWidth 8 = y1 at *
      generalize (x >>> 16).setWidth 8 = y2 at *
      generalize (x >>> 24).setWidth 8 = y3 at *
      clear hF
      obtain ⟨po, co, rfl⟩ := how.shape
      rw [hlo] at how ⊢
      have hzB : B ≤ wr.heap.size := by rw [← HB.out]; exact hbw.size
      have hag : (Value.slice po (4 * j) co).ownBlock ≠ some b1 := by
        intro e
        have h1 := (World.ownsRow.lt how b1 e).1
        have h2 := hbl
        omega
      have hb1w : b1 < wr.heap.size := by have := hbl; omega
      obtain ⟨i0, hi0, hz0, hz1, hz2⟩ := info_parts infoB
      have how' := how
      unfold OwnB at how'
      rw [hlo] at how'
      go_wp2_with fail
      go_region_held3 (fun w' => w'.cell? ⟨b1, o1 + j, none⟩ = some (.int .u32 x.toNat))
        (first
          | go_keep
          | (rw [hgrow.cell_far _ (by simp; omega) (Ne.symm hag)]; assumption))
        ((refine step_append_lies _ (by rfl) _ _ _ (by rfl) B 5 i0 _ 1 1 Try.underlying40 hi0 hz0 hz1 hz2 rfl (by omega) (.slice po (4 * j) co) (4 * j) (out.map encB) (by rfl) ((how'.alloc _).drew)
              ⟨wr.heap.size, 0, none⟩ 4 4 [encB y0, encB y1, encB y2, encB y3] (by rfl) (by rfl) (World.news_of_block (cs := #[encB y0, encB y1, encB y2, encB y3]) (t := 5) (fr := (0, 0)) (heap_alloc_new wr _)) (by simp [Value.oneCell'])
              (by omega) (by unfold maxLen; omega) (by omega) (by simp; omega) (wr.heap.size + 1) (by simp) ?_; intro gg cap w1 hown1 hgrow hat hlt))
      have hbA := (hbw.alloc (o := .cells #[.int .u8 y0.toNat, .int .u8 y1.toNat, .int .u8 y2.toNat, .int .u8 y3.toNat] 5) hzB).drew
      have hb4 : Below B w w1 := hbA.grown hgrow (by simp; omega) (fun k hk => (World.ownsRow.lt how k hk).1)
      have ho4 : OwnB w1 B (.slice (some ⟨gg, 0, none⟩) (4 * j + 4) cap) (out ++ [y0, y1, y2, y3]) := by
        unfold OwnB
        have : (out ++ [y0, y1, y2, y3]).length = 4 * j + 4 := by simp [hlo]
        rw [this, List.map_append]
        exact hown1
      clear b0 b1' b2 b3
      go_wp2
      go_roundw
      case rel =>
        exact ⟨j + 1, _, by omega, by first | rfl | go_num, ho4, hx1, by simp [hlo]; omega, hb4⟩
      case measure => first | omega | (simp [intOf]; done) | (simp [intOf]; omega)
    · obtain rfl : j = m := by omega
      go_wp2
      go_ret
      have e1 := hx.out
      rw [← Hm.out, List.take_length, HR.out] at e1
      refine ⟨_, rfl, ?_, by rw [HB.out]; exact hbw⟩
      rw [HB.out, HR.out, ← e1]
      exact how
end Go.Proofs.Ythglbipcfhdoaaa
/- gossamerref05: Sums. -/
namespace Go.Proofs.Ythglbipcfhdoaaa
open Go.RowKit

theorem wordTo_lt (c : List (BitVec 8)) (i : Nat) (hi : i ≤ 4) : (Goss.wordTo c i).toNat < 2 ^ (8 * i) ∧ ∀ j, i = j + 1 → (Goss.wordTo c i).toNat = (Goss.wordTo c j).toNat + 2 ^ (8 * j) * ((c[j]?).getD 0#8).toNat := by
  induction i with
  | zero => exact ⟨by show (0#32 : Goss.F).toNat < 2 ^ 0; decide, fun j h => by omega⟩
  | succ i ih =>
    obtain ⟨h1, _⟩ := ih (by omega)
    generalize hy : (c[i]?).getD 0#8 = y
    have hy8 : y.toNat < 256 := y.isLt
    have e : (Goss.wordTo c (i + 1)).toNat = (Goss.wordTo c i).toNat + 2 ^ (8 * i) * y.toNat := by
      rw [Goss.wordTo, hy, BitVec.toNat_or, BitVec.toNat_shiftLeft, BitVec.toNat_setWidth, Nat.mod_eq_of_lt (show y.toNat < 2 ^ 32 by omega), Nat.shiftLeft_eq]
      have h2 : y.toNat * 2 ^ (8 * i) < 2 ^ 32 := by
        have : 2 ^ (8 * i) ≤ 2 ^ 24 := Nat.pow_le_pow_right (by omega) (by omega)
        calc y.toNat * 2 ^ (8 * i) ≤ y.toNat * 2 ^ 24 := Nat.mul_le_mul_left _ this
          _ < 2 ^ 32 := by omega
      rw [Nat.mod_eq_of_lt h2, Nat.or_comm, ← Nat.shiftLeft_eq, ← Nat.shiftLeft_add_eq_or_of_lt h1, Nat.shiftLeft_eq, Nat.add_comm, Nat.mul_comm]
    refine ⟨?_, fun j hj => ?_⟩
    · rw [e, show 8 * (i + 1) = 8 * i + 8 from by omega, Nat.pow_add]
      have : 2 ^ (8 * i) * y.toNat ≤ 2 ^ (8 * i) * 255 := Nat.mul_le_mul_left _ (by omega)
      omega
    · obtain rfl : j = i := by omega
      rw [hy]
      exact e
theorem wordTo_four (c : List (BitVec 8)) : (Goss.wordTo c 4).toNat = ((c[0]?).getD 0#8).toNat + 256 * ((c[1]?).getD 0#8).toNat + 65536 * ((c[2]?).getD 0#8).toNat + 16777216 * ((c[3]?).getD 0#8).toNat := by
  have h1 := (wordTo_lt c 1 (by omega)).2 0 rfl
  have h2 := (wordTo_lt c 2 (by omega)).2 1 rfl
  have h3 := (wordTo_lt c 3 (by omega)).2 2 rfl
  have h4 := (wordTo_lt c 4 (by omega)).2 3 rfl
  have h0 : (Goss.wordTo c 0).toNat = 0 := rfl
  rw [h4, h3, h2, h1, h0]
  simp only [Nat.mul_zero, Nat.pow_zero, Nat.one_mul, Nat.zero_add, Nat.reduceMul, Nat.reducePow]

set_option maxRecDepth 100000 in
set_option maxHeartbeats 2000000 in
theorem refsums_odd (v : Value) (bs : List (BitVec 8)) (w : World) (h : SlB w v bs) (hl : bs.length ≤ 4000000) (h4 : bs.length % 4 ≠ 0) :
    Calls Try.prog 22 #[v] w (Ret (.tuple #[.slice none 0 0, .bool false]) w) := by
  obtain ⟨p, c, rfl⟩ := h.shape
  generalize bs.length = n at *
  have ht : ((n : Int) % 4 != 0) = true := by rw [bne_iff_ne]; omega
  go_enter Try.func22, Try.ntmps22
  go_wp2
  go_ret2
  exact ⟨rfl, rfl⟩

set_option maxRecDepth 100000 in
set_option maxHeartbeats 4000000 in
theorem refsums_any (v : Value) (bs : List (BitVec 8)) (w : World) (h : SlB w v bs) (hl : bs.length ≤ 4000000) (h4 : bs.length % 4 = 0) :
    Calls Try.prog 22 #[v] w (SumsEnd (Goss.sumsP bs) w) := by
  obtain ⟨p, c, rfl⟩ := h.shape
  generalize hB : w.heap.size = B at *
  have HB := Lib.hid hB; clear hB
  obtain ⟨n, hn⟩ : ∃ n, bs.length = n := ⟨_, rfl⟩
  rw [hn] at h hl h4 ⊢
  have Hn := Lib.hid hn; clear hn
  have ht : ((n : Int) % 4 != 0) = false := by rw [bne_eq_false_iff_eq]; omega
  go_enter Try.func22, Try.ntmps22
  go_wp2_with fail
  go_loopw [4, 5] (fun vo vi wr => ∃ (k q : Nat) (out : List Goss.F), q ≤ n ∧ q = 4 * k ∧ vi = .int .i64 q ∧ Own wr B vo out ∧ Hid (out = (List.range k).map (Goss.wordAt bs)) ∧ out.length = k ∧ Below B w wr) (fun _ vi _ => n - (intOf vi).toNat)
  case atStart => exact ⟨0, 0, [], by omega, rfl, rfl, Own.nil _ _, (rfl : ([] : List Goss.F) = _), rfl, Below.refl _ _⟩
  case round =>
    obtain ⟨k, q, out, hq, hqk, rfl, how, hx, hlo, hbw⟩ := hrel
    have hw3 : IntKind.i64.wrap ((q : Int) + 3) = (q : Int) + 3 := IntWalk.i64_in _ (by omega)
    by_cases hlt : q + 3 < n
    · have hsl := h.below (by rw [HB.out]; exact hbw)
      obtain ⟨b1, o1, y0, rfl, hy0, hc0⟩ := hsl.read (k := q) (by omega)
      obtain ⟨b1', o1', y1, e1, hy1, hc1⟩ := hsl.read (k := q + 1) (by omega)
      cases e1
      obtain ⟨b1', o1', y2, e1, hy2, hc2⟩ := hsl.read (k := q + 2) (by omega)
      cases e1
      obtain ⟨b1', o1', y3, e1, hy3, hc3⟩ := hsl.read (k := q + 3) (by omega)
      cases e1
      have hbl : b1 < B := by
        rw [← HB.out]
        obtain ⟨p', n', c', h1', h2', h3', h4', h5'⟩ := h
        cases h1'
        rcases h5' with ⟨h5', _⟩ | ⟨_, _, h5', hlt', _⟩
        · cases h5'
        · cases h5'; exact hlt'
      have hd : decide ((q : Int) + 3 < (n : Int)) = true := decide_eq_true (by omega)
      have hyw : (Goss.wordAt bs k).toNat = y0.toNat + 256 * y1.toNat + 65536 * y2.toNat + 16777216 * y3.toNat := by
        unfold Goss.wordAt
        rw [wordTo_four]
        simp only [List.getElem?_drop, ← hqk, Nat.add_zero, hy0, hy1, hy2, hy3, Option.getD_some]
      have z0 := y0.isLt
      have z1 := y1.isLt
      have z2 := y2.isLt
      have z3 := y3.isLt
      have hx1 : Hid (out ++ [Goss.wordAt bs k] = (List.range (k + 1)).map (Goss.wordAt bs)) := by
        show _ = _
        rw [List.range_succ, List.map_append, hx.out]
        rfl
      generalize Goss.wordAt bs k = y at *
      have f0 : IntKind.u32.wrap (y0.toNat : Int) = y0.toNat := IntWalk.u32_in _ (by omega)
      have f1 : IntKind.u32.wrap (y1.toNat : Int) = y1.toNat := IntWalk.u32_in _ (by omega)
      have f2 : IntKind.u32.wrap (y2.toNat : Int) = y2.toNat := IntWalk.u32_in _ (by omega)
      have f3 : IntKind.u32.wrap (y3.toNat : Int) = y3.toNat := IntWalk.u32_in _ (by omega)
      have g1 : IntKind.u32.wrap (256 * (y1.toNat : Int)) = 256 * (y1.toNat : Int) := IntWalk.u32_in _ (by omega)
      have g2 : IntKind.u32.wrap (65536 * (y2.toNat : Int)) = 65536 * (y2.toNat : Int) := IntWalk.u32_in _ (by omega)
      have g3 : IntKind.u32.wrap (16777216 * (y3.toNat : Int)) = 16777216 * (y3.toNat : Int) := IntWalk.u32_in _ (by omega)
      have s1 : IntKind.u32.wrap ((y0.toNat : Int) + 256 * (y1.toNat : Int)) = (y0.toNat : Int) + 256 * (y1.toNat : Int) := IntWalk.u32_in _ (by omega)
      have s2 : IntKind.u32.wrap ((y0.toNat : Int) + 256 * (y1.toNat : Int) + 65536 * (y2.toNat : Int)) = (y0.toNat : Int) + 256 * (y1.toNat : Int) + 65536 * (y2.toNat : Int) := IntWalk.u32_in _ (by omega)
      have s3 : IntKind.u32.wrap ((y0.toNat : Int) + 256 * (y1.toNat : Int) + 65536 * (y2.toNat : Int) + 16777216 * (y3.toNat : Int)) = (y.toNat : Int) := by rw [IntWalk.u32_in _ (by omega)]; omega
      have i1 : IntKind.i64.wrap ((q : Int) + 1) = (q : Int) + 1 := IntWalk.i64_in _ (by omega)
      have i2 : IntKind.i64.wrap ((q : Int) + 2) = (q : Int) + 2 := IntWalk.i64_in _ (by omega)
      have j0 : (0 : Int) ≤ (q : Int) := by omega
      have k0 : (q : Int) < (n : Int) := by omega
      have j1 : (0 : Int) ≤ (q : Int) + 1 := by omega
      have k1 : (q : Int) + 1 < (n : Int) := by omega
      have l1 : ((q : Int) + 1).toNat = q + 1 := by omega
      have j2 : (0 : Int) ≤ (q : Int) + 2 := by omega
      have k2 : (q : Int) + 2 < (n : Int) := by omega
      have l2 : ((q : Int) + 2).toNat = q + 2 := by omega
      have j3 : (0 : Int) ≤ (q : Int) + 3 := by omega
      have k3 : (q : Int) + 3 < (n : Int) := by omega
      have l3 : ((q : Int) + 3).toNat = q + 3 := by omega
      obtain ⟨po, co, rfl⟩ := how.sl.shape
      rw [hlo] at how ⊢
      have hzB : B ≤ wr.heap.size := by rw [← HB.out]; exact hbw.size
      have hag : (Value.slice po k co).ownBlock ≠ some b1 := by
        intro e
        have h1 := (World.ownsRow.lt how b1 e).1
        have h2 := hbl
        omega
      have hb1w : b1 < wr.heap.size := by have := hbl; omega
      obtain ⟨i0, hi0, hz0, hz1, hz2⟩ := info_parts infoU
      have how' := how
      unfold Own at how'
      rw [hlo] at how'
      have hb63 : k + 1 ≤ maxLen := by unfold maxLen; omega
      have hb47 : (k + 1) * 4 ≤ 140737488355328 := by omega
      have Hqk := Lib.hid hqk; clear hqk hyw hsl h hy0 hy1 hy2 hy3
      go_wp2_with fail
      go_region_held3 (fun w' => w'.cell? ⟨b1, o1 + q, none⟩ = some (.int .u8 y0.toNat) ∧ w'.cell? ⟨b1, o1 + (q + 1), none⟩ = some (.int .u8 y1.toNat) ∧ w'.cell? ⟨b1, o1 + (q + 2), none⟩ = some (.int .u8 y2.toNat) ∧ w'.cell? ⟨b1, o1 + (q + 3), none⟩ = some (.int .u8 y3.toNat))
        (first
          | go_keep
          | (go_split_ands
             refine ⟨?_, ?_, ?_, ?_⟩
             · (rw [hgrow.cell_far _ (by simp; omega) (Ne.symm hag)]; assumption)
             · (rw [hgrow.cell_far _ (by simp; omega) (Ne.symm hag)]; assumption)
             · (rw [hgrow.cell_far _ (by simp; omega) (Ne.symm hag)]; assumption)
             · (rw [hgrow.cell_far _ (by simp; omega) (Ne.symm hag)]; assumption)))
        ((refine step_append_lies _ (by rfl) _ _ _ (by rfl) B 55 i0 _ 1 4 Try.underlying22 hi0 hz0 hz1 hz2 rfl (by omega) (.slice po k co) k (out.map enc) (by rfl) ((how'.alloc _).drew)
              ⟨wr.heap.size, 0, none⟩ 1 1 [enc y] (by rfl) (by rfl) (World.news_of_block (cs := #[enc y]) (t := 55) (fr := (0, 0)) (heap_alloc_new wr _)) (by simp [Value.oneCell'])
              (by omega) hb63 hb47 (by simp; omega) (wr.heap.size + 1) (by simp) ?_; intro gg cap w1 hown1 hgrow hat hlt))
      have hbA := (hbw.alloc (o := .cells #[.int .u32 y.toNat] 55) hzB).drew
      have hb4 : Below B w w1 := hbA.grown hgrow (by simp; omega) (fun k hk => (World.ownsRow.lt how k hk).1)
      have ho4 : Own w1 B (.slice (some ⟨gg, 0, none⟩) (k + 1) cap) (out ++ [y]) := by
        unfold Own
        have : (out ++ [y]).length = k + 1 := by simp [hlo]
        rw [this, List.map_append]
        exact hown1
      clear f0 f1 f2 f3 g1 g2 g3 s1 s2 s3 i1 i2
      have hq4 : q + 4 ≤ n := by have := Hqk.out; omega
      go_wp2
      go_roundw
      case rel =>
        exact ⟨k + 1, q + 4, _, by omega, by have := Hqk.out; omega, by first | rfl | go_num, ho4, hx1, by simp [hlo], hb4⟩
      case measure => first | omega | (simp [intOf]; done) | (simp [intOf]; omega)
    · have hd : decide ((q : Int) + 3 < (n : Int)) = false := decide_eq_false (by omega)
      obtain rfl : q = n := by omega
      go_wp2
      go_ret2
      refine ⟨_, rfl, ?_, by rw [HB.out]; exact hbw⟩
      have e1 := hx.out
      have e2 : Goss.sumsP bs = (List.range k).map (Goss.wordAt bs) := by rw [Goss.sumsP, Hn.out, hqk, Nat.mul_div_cancel_left _ (by omega)]
      rw [HB.out, e2, ← e1]
      exact how
end Go.Proofs.Ythglbipcfhdoaaa
