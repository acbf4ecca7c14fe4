/- package sketch: Put, New, Capacity. -/
import Derived.Test.YthglbipcfhdoaaaSk2
namespace Go.Proofs.Ythglbipcfhdoaaa
open Go.RowKit

def SkPutEnd (B b g c : Nat) (s : List Goss.F) (w : World) (e : Ending) (w' : World) : Prop :=
  e = .returned .nilIface ∧ Sk w' B b g c s ∧ w.grownBy w' (some g)
theorem putS_ne (s : List Goss.F) (id : Goss.F) : (Goss.putS s id).length = s.length := Goss.putS_length s id

set_option maxRecDepth 100000 in
set_option maxHeartbeats 1000000 in
theorem put_nil (v : Value) (w : World) : Calls Try.prog 28 #[.pointer none, v] w (Ret (errv 1) w) := by
  go_enter Try.func28, Try.ntmps28
  go_wp2
  go_ret
  exact ⟨rfl, rfl⟩
set_option maxRecDepth 100000 in
set_option maxHeartbeats 1000000 in
theorem put_zero (b : Nat) (v : Value) (ids : List Goss.F) (w : World) (hi : Sl w v ids) (h0 : 0#32 ∈ ids) : Calls Try.prog 28 #[.pointer (some ⟨b, 0, none⟩), v] w (Ret (errv 1) w) := by
  have hc := contains_any v ids 0#32 w hi
  rw [decide_eq_true h0] at hc
  go_enter Try.func28, Try.ntmps28
  go_wp2_with fail
  refine hc.mono ?_
  rintro e w1 ⟨rfl, rfl⟩
  go_wp2
  go_ret
  exact ⟨rfl, rfl⟩
set_option maxRecDepth 100000 in
set_option maxHeartbeats 1000000 in
theorem put_ok (B b g c : Nat) (s : List Goss.F) (v : Value) (ids : List Goss.F) (w : World) (h : Sk w B b g c s) (hi : Sl w v ids) (hg : ∀ k, v.ownBlock = some k → k ≠ g) (h0 : 0#32 ∉ ids) :
    Calls Try.prog 28 #[.pointer (some ⟨b, 0, none⟩), v] w (SkPutEnd B b g c (ids.foldl Goss.putS s) w) := by
  obtain ⟨p1, c1, rfl⟩ := hi.shape
  have hc := contains_any _ ids 0#32 w hi
  rw [decide_eq_false h0] at hc
  clear h0
  have hl63 := hi.len'
  unfold maxLen at hl63
  obtain ⟨R, hR⟩ : ∃ R, ids.foldl Goss.putS s = R := ⟨_, rfl⟩
  rw [hR]
  have HR := Lib.hid hR; clear hR
  generalize hm : ids.length = m at *
  have Hm := Lib.hid hm; clear hm
  generalize hn : s.length = n at *
  have Hn := Lib.hid hn; clear hn
  have Hg := Lib.hid hg; clear hg
  go_enter Try.func28, Try.ntmps28
  go_wp2_with fail
  refine hc.mono ?_
  rintro e w1 ⟨rfl, rfl⟩
  go_wp2_with fail
  go_loopw [16] (fun vi wr => ∃ (j : Nat) (cur : List Goss.F), j ≤ m ∧ vi = .int .i64 j ∧ Hid (cur = (ids.take j).foldl Goss.putS s) ∧ Hid (cur.length = n) ∧ Sk wr B b g c cur ∧ w.grownBy wr (some g)) (fun vi _ => m - (intOf vi).toNat)
  case atStart => exact ⟨0, s, by omega, rfl, (by simp : s = _), Hn, h, grown_refl _ _⟩
  case round =>
    obtain ⟨j, cur, hj, rfl, hx, hlen, hsk, hgr⟩ := hrel
    have hir : Sl wr (.slice p1 m c1) ids := hi.grown hgr fun b' o' n' c' e he => by
      cases e
      exact Hg.out b' rfl (Option.some.inj he)
    by_cases hlt : j < m
    · obtain ⟨b1, o1, x, rfl, hx0, hxc⟩ := hir.read (k := j) hlt
      have hlti : (j : Int) < m := by omega
      have hptr := hsk.ptr
      have hown := hsk.own
      rw [hlen.out] at hptr hown
      have hput := putS_any B g n c cur x wr hown
      have hx1 : Hid (Goss.putS cur x = (ids.take (j + 1)).foldl Goss.putS s) := by
        show _ = _
        obtain ⟨hl, hxe⟩ := List.getElem?_eq_some_iff.1 hx0
        rw [List.take_succ_eq_append_getElem hl, List.foldl_append, ← hx.out, hxe]
        rfl
      clear hx0
      go_wp2_with fail
      refine hput.mono ?_
      rintro e w3 ⟨rfl, ho3, hg3⟩
      have hb3 : b ≠ g := hsk.ne
      go_wp2
      go_roundw
      case rel =>
        have hl1 : (Goss.putS cur x).length = n := by rw [Goss.putS_length]; exact hlen.out
        refine ⟨j + 1, _, by omega, by first | rfl | go_num, hx1, hl1, ⟨?_, hsk.low, Nat.lt_of_lt_of_le hsk.lt hg3.size, by rw [hl1]; exact ho3, hsk.ne⟩, hgr.trans' hg3⟩
        rw [hl1, World.cell?_of_block (w := wr) (a := ⟨b, 0, none⟩) (hg3.block b hsk.lt (fun e => hb3 (Option.some.inj e)))]
        exact hptr
      case measure => first | omega | (simp [intOf]; done) | (simp [intOf]; omega)
    · obtain rfl : j = m := by omega
      go_wp2
      go_ret
      have e1 := hx.out
      rw [← Hm.out, List.take_length, HR.out] at e1
      rw [← e1]
      exact ⟨rfl, hsk, hgr⟩
end Go.Proofs.Ythglbipcfhdoaaa
