/- gossamerref05: Bytes, Sums. -/
import Derived.Test.YthglbipcfhdoaaaStr
import Derived.StillTailTactics
import Derived.Deep.RegionHeld3
import Derived.Deep.AppendLies
namespace Go.Proofs.Ythglbipcfhdoaaa
open Go.RowKit

/-- 'append(s, x..)' onto a row of bytes of the call's own. -/
theorem app_bytes {w : World} {ops : Array Oper} {rest : List Oper} {o : Oper} {a : Act} {Q : Exit → Act → World → Prop} (hgd : o.guard = none) (s x : Operand)
    (ho : o.op = .call { callee := .builtin .append, args := #[s, x], argTypes := #[40, 40] })
    (B : Nat) (v : Value) (xs : List (BitVec 8)) (hs : a.eval s = v) (hown : OwnB w B v xs)
    (bb n c : Nat) (ys : List (BitVec 8)) (hx : a.eval x = .slice (some ⟨bb, 0, none⟩) n c) (hn : ys.length = n) (hys : ∀ j y, ys[j]? = some y → w.cell? ⟨bb, j, none⟩ = some (encB y))
    (hlen : xs.length + ys.length ≤ 35184372088832) (hbase : B ≤ w.heap.size)
    (h : ∀ v' w', OwnB w' B v' (xs ++ ys) → w.grownBy w' v.ownBlock → wpList Try.prog ops Q rest (a.put o.dst v') w') :
    wpList Try.prog ops Q (o :: rest) a w := by
  obtain ⟨i0, hi, hz0, hz1, hz2⟩ := info_parts infoB
  subst hn
  refine wpList_append_own2 w hgd s x 40 ho B 5 i0 (.int .u8 0) 1 1 Try.underlying40 hi hz0 hz1 hz2 rfl (by decide) v xs.length (xs.map encB) hs hown ⟨bb, 0, none⟩ ys.length c (ys.map encB) hx (by simp) ?_ ?_ (by unfold maxLen; omega) (by omega) hbase ?_
  · intro j u hj
    rw [List.getElem?_map] at hj
    cases hy : ys[j]? with
    | none => rw [hy] at hj; cases hj
    | some y =>
      rw [hy] at hj
      cases hj
      rw [addr_add, Nat.zero_add]
      exact hys j y hy
  · intro u hu
    obtain ⟨x, _, rfl⟩ := List.mem_map.1 hu
    rfl
  · intro v' w' h1 h2 _
    refine h v' w' ?_ h2
    unfold OwnB
    rw [List.length_append, List.map_append]
    exact h1

set_option maxRecDepth 100000 in
set_option maxHeartbeats 2000000 in
theorem refbytes_any (v : Value) (xs : List Goss.F) (w : World) (h : Sl w v xs) (hlen : xs.length ≤ 1000000) :
    Calls Try.prog 20 #[v] w (NewB (Goss.bytesP xs) w) := by
  obtain ⟨p, c, rfl⟩ := h.shape
  generalize hB : w.heap.size = B at *
  have HB := Lib.hid hB; clear hB
  generalize hm : xs.length = m at *
  have Hm := Lib.hid hm; clear hm
  obtain ⟨R, hR⟩ : ∃ R, Goss.bytesP xs = R := ⟨_, rfl⟩
  have HR := Lib.hid hR; clear hR
  go_enter Try.func20, Try.ntmps20
  go_wp2_with fail
  go_loopw [3, 4] (fun vo vi wr => ∃ (j : Nat) (out : List (BitVec 8)), j ≤ m ∧ vi = .int .i64 j ∧ OwnB wr B vo out ∧ Hid (out = Goss.bytesP (xs.take j)) ∧ out.length = 4 * j ∧ Below B w wr) (fun _ vi _ => m - (intOf vi).toNat)
  case atStart => exact ⟨0, [], by omega, rfl, OwnB.nil _ _, (by simp [Goss.bytesP] : ([] : List (BitVec 8)) = _), rfl, Below.refl _ _⟩
  case round =>
    obtain ⟨j, out, hj, rfl, how, hx, hlo, hbw⟩ := hrel
    by_cases hlt : j < m
    · obtain ⟨b1, o1, x, rfl, hx0, hxc⟩ := (h.below (by rw [HB.out]; exact hbw)).read (k := j) hlt
      have hbl : b1 < B := by rw [← HB.out]; exact h.blk
      have hlti : (j : Int) < m := by omega
      have hj0 : (0 : Int) ≤ j := by omega
      have hx32 : (x.toNat : Int) < 4294967296 := by have := x.isLt; omega
      have Hx0 := Lib.hid hx0; clear hx0
      have hx0' : (0 : Int) ≤ (x.toNat : Int) := by omega
      have b0 : IntKind.u8.wrap ((x.toNat : Int).tmod 256) = ((x.setWidth 8).toNat : Int) := by
        rw [Int.tmod_eq_emod_of_nonneg hx0', IntKind.wrap_u8, BitVec.toNat_setWidth]; omega
      have b1' : IntKind.u8.wrap ((IntKind.u32.wrap ((x.toNat : Int) / 256)).tmod 256) = (((x >>> 8).setWidth 8).toNat : Int) := by
        rw [IntWalk.u32_in _ (by omega), Int.tmod_eq_emod_of_nonneg (by omega), IntKind.wrap_u8, BitVec.toNat_setWidth, BitVec.toNat_ushiftRight, Nat.shiftRight_eq_div_pow]; omega
      have b2 : IntKind.u8.wrap ((IntKind.u32.wrap ((x.toNat : Int) / 65536)).tmod 256) = (((x >>> 16).setWidth 8).toNat : Int) := by
        rw [IntWalk.u32_in _ (by omega), Int.tmod_eq_emod_of_nonneg (by omega), IntKind.wrap_u8, BitVec.toNat_setWidth, BitVec.toNat_ushiftRight, Nat.shiftRight_eq_div_pow]; omega
      have b3 : IntKind.u8.wrap (IntKind.u32.wrap ((x.toNat : Int) / 16777216)) = (((x >>> 24).setWidth 8).toNat : Int) := by
        rw [IntWalk.u32_in _ (by omega), IntKind.wrap_u8, BitVec.toNat_setWidth, BitVec.toNat_ushiftRight, Nat.shiftRight_eq_div_pow]; omega
      have hx1 : Hid (out ++ Goss.bytesF x = Goss.bytesP (xs.take (j + 1))) := by
        show _ = _
        obtain ⟨hl, hxe⟩ := List.getElem?_eq_some_iff.1 Hx0.out
        rw [List.take_succ_eq_append_getElem hl, hx.out, hxe]
        simp [Goss.bytesP]
      have hF : Goss.bytesF x = [x.setWidth 8, (x >>> 8).setWidth 8, (x >>> 16).setWidth 8, (x >>> 24).setWidth 8] := rfl
      rw [hF] at hx1
      generalize x.setWidth 8 = y0 at *
      generalize (x >>> 8).setWidth 8 = y1 at *
      generalize (x >>> 16).setWidth 8 = y2 at *
      generalize (x >>> 24).setWidth 8 = y3 at *
      clear hF
      obtain ⟨po, co, rfl⟩ := how.shape
      rw [hlo] at how ⊢
      have hzB : B ≤ wr.heap.size := by rw [← HB.out]; exact hbw.size
      have hag : (Value.slice po (4 * j) co).ownBlock ≠ some b1 := by
        intro e
        have h1 := (World.ownsRow.lt how b1 e).1
        have h2 := hbl
        omega
      have hb1w : b1 < wr.heap.size := by have := hbl; omega
      obtain ⟨i0, hi0, hz0, hz1, hz2⟩ := info_parts infoB
      have how' := how
      unfold OwnB at how'
      rw [hlo] at how'
      go_wp2_with fail
      go_region_held3 (fun w' => w'.cell? ⟨b1, o1 + j, none⟩ = some (.int .u32 x.toNat))
        (first
          | go_keep
          | (rw [hgrow.cell_far _ (by simp; omega) (Ne.symm hag)]; assumption))
        ((refine step_append_lies _ (by rfl) _ _ _ (by rfl) B 5 i0 _ 1 1 Try.underlying40 hi0 hz0 hz1 hz2 rfl (by omega) (.slice po (4 * j) co) (4 * j) (out.map encB) (by rfl) ((how'.alloc _).drew)
              ⟨wr.heap.size, 0, none⟩ 4 4 [encB y0, encB y1, encB y2, encB y3] (by rfl) (by rfl) (World.news_of_block (cs := #[encB y0, encB y1, encB y2, encB y3]) (t := 5) (fr := (0, 0)) (heap_alloc_new wr _)) (by simp [Value.oneCell'])
              (by omega) (by unfold maxLen; omega) (by omega) (by simp; omega) (wr.heap.size + 1) (by simp) ?_; intro gg cap w1 hown1 hgrow hat hlt))
      have hbA := (hbw.alloc (o := .cells #[.int .u8 y0.toNat, .int .u8 y1.toNat, .int .u8 y2.toNat, .int .u8 y3.toNat] 5) hzB).drew
      have hb4 : Below B w w1 := hbA.grown hgrow (by simp; omega) (fun k hk => (World.ownsRow.lt how k hk).1)
      have ho4 : OwnB w1 B (.slice (some ⟨gg, 0, none⟩) (4 * j + 4) cap) (out ++ [y0, y1, y2, y3]) := by
        unfold OwnB
        have : (out ++ [y0, y1, y2, y3]).length = 4 * j + 4 := by simp [hlo]
        rw [this, List.map_append]
        exact hown1
      clear b0 b1' b2 b3
      go_wp2
      go_roundw
      case rel =>
        exact ⟨j + 1, _, by omega, by first | rfl | go_num, ho4, hx1, by simp [hlo]; omega, hb4⟩
      case measure => first | omega | (simp [intOf]; done) | (simp [intOf]; omega)
    · obtain rfl : j = m := by omega
      go_wp2
      go_ret
      have e1 := hx.out
      rw [← Hm.out, List.take_length, HR.out] at e1
      refine ⟨_, rfl, ?_, by rw [HB.out]; exact hbw⟩
      rw [HB.out, HR.out, ← e1]
      exact how
end Go.Proofs.Ythglbipcfhdoaaa
