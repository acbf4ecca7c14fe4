/- package poly: Scale, Monic, Divide. -/
import Derived.Test.YthglbipcfhdoaaaPoly2
namespace Go.Proofs.Ythglbipcfhdoaaa
open Go.RowKit

/-- A value that is a row of the call's own, reads as xs, nothing else turned: what a function hands back that cuts its own row. -/
theorem scale_round (k : Goss.F) (xs : List Goss.F) (j : Nat) (x : Goss.F) (hx : xs[j]? = some x) :
    ((xs.take j).map (Goss.tabMul k) ++ xs.drop j).set j (Goss.tabMul k x) = (xs.take (j + 1)).map (Goss.tabMul k) ++ xs.drop (j + 1) := by
  obtain ⟨hlt, rfl⟩ := List.getElem?_eq_some_iff.1 hx
  rw [List.drop_eq_getElem_cons hlt, List.take_succ_eq_append_getElem hlt, List.map_append, List.append_assoc]
  have hl : ((xs.take j).map (Goss.tabMul k)).length = j := by simp; omega
  rw [List.set_append_right _ _ (by omega), hl, Nat.sub_self]
  rfl
theorem scale_at (k : Goss.F) (xs : List Goss.F) (j : Nat) (hj : j < xs.length) : ((xs.take j).map (Goss.tabMul k) ++ xs.drop j)[j]? = xs[j]? := by
  have hl : ((xs.take j).map (Goss.tabMul k)).length = j := by simp; omega
  rw [List.getElem?_append_right (by omega), hl, List.getElem?_drop]
  simp

set_option maxRecDepth 100000 in
set_option maxHeartbeats 1000000 in
theorem scale_any (v : Value) (xs : List Goss.F) (k : Goss.F) (w : World) (h : Sl w v xs) (hlen : xs.length ≤ 35184372088832) :
    Calls Try.prog 136 #[v, .int .u32 k.toNat] w (New (Goss.scaleP xs k) w) := by
  have hcl := clone_any v xs w h hlen
  go_enter Try.func136, Try.ntmps136
  go_wp2_with fail
  refine hcl.mono ?_
  rintro e w1 ⟨v1, rfl, ho1, hb1⟩
  have hs := ho1.shape
  generalize hB : w.heap.size = B at *
  have HB := Lib.hid hB; clear hB
  go_wp2_with fail
  refine (by_any k w1).mono ?_
  rintro e w2 ⟨rfl, ht, hb2⟩
  have hz2 : w1.heap.size ≤ w2.heap.size := hb2.size
  generalize hT : w1.heap.size = T at *
  have HT := Lib.hid hT; clear hT
  have ho2 : Own w2 B v1 xs := ho1.below (by rw [HT.out]; exact hb2)
  have hb : Below B w w2 := hb1.trans (hb2.mono (by rw [← HT.out, ← HB.out]; exact hb1.size))
  clear ho1 hb2 hb1 hcl
  rcases hs with ⟨rfl, rfl⟩ | ⟨g, c, rfl, hg1, hg2, hg3, hg4⟩
  · go_wp2_with fail
    go_loopw [14] (fun i wr => i = .int .i64 0 ∧ wr = w2) (fun _ _ => 0)
    case atStart => exact ⟨rfl, rfl⟩
    case round =>
      obtain ⟨rfl, rfl⟩ := hrel
      go_wp2_with fail
      refine (cut_any none 0 0 [] _ (Sl.nil _)).mono ?_
      rintro e w3 ⟨rfl, hb3⟩
      go_wp2
      go_ret
      exact ⟨_, rfl, Own.nil _ _, by rw [HB.out]; exact hb.trans (hb3.mono (by rw [← HB.out]; exact hb.size))⟩
  · generalize hm : xs.length = m at *
    have Hm := Lib.hid hm; clear hm
    have hm63 : m ≤ 9223372036854775807 := by omega
    go_wp2_with fail
    go_loopw [14] (fun i wr => ∃ (j : Nat) (cur : List Goss.F), j ≤ m ∧ i = .int .i64 j ∧ Hid (cur = (xs.take j).map (Goss.tabMul k) ++ xs.drop j) ∧ Own wr B (.slice (some ⟨g, 0, none⟩) m c) cur ∧ TabAt k T 1024 wr ∧ Below B w wr) (fun i _ => m - (intOf i).toNat)
    case atStart => exact ⟨0, xs, Nat.zero_le _, rfl, by show _ = _; simp, ho2, ht, hb⟩
    case round =>
      obtain ⟨j, cur, hj, rfl, hx, how, htw, hbw⟩ := hrel
      by_cases hlt : j < m
      · obtain ⟨x, hx0, hxc, _⟩ := how.read (k := j) (by omega)
        have Hx0 := Lib.hid hx0; clear hx0
        have hlti : (j : Int) < m := by omega
        have hlw := how.lt
        go_wp2_with fail
        refine (tmul_any k x T wr htw).mono ?_
        rintro e w3 ⟨rfl, hb3⟩
        have how3 := how.below hb3
        have htw3 := htw.below hb3
        have hbw3 := hbw.trans (hb3.mono (by omega))
        clear how htw hbw hb3 hxc hlw
        obtain ⟨x', hx0', hxc', hxf'⟩ := how3.read (k := j) (by omega)
        have Hx0' := Lib.hid hx0'; clear hx0'
        go_wp2
        go_roundw
        case rel =>
          refine ⟨j + 1, cur.set j (Goss.tabMul k x), by omega, by first | rfl | go_num, ?_, how3.stored _ _, ?_, hbw3.setCell (by omega) _⟩
          · show _ = _
            have hjx : xs[j]? = some x := by rw [← Hx0.out, hx.out, scale_at k xs j (by rw [Hm.out]; exact hlt)]
            rw [hx.out, scale_round k xs j x hjx]
          · obtain ⟨tc, h1, h2, h3⟩ := htw3
            exact ⟨tc, by rw [Below.heap_setCell w3 _ _ T (by show T ≠ g; omega)]; exact h1, h2, h3⟩
        case measure => first | omega | (simp [intOf]; done) | (simp [intOf]; omega)
      · obtain rfl : j = m := by omega
        have hcut := cut_any _ _ _ _ _ how.sl
        have hle := tlen_le cur cur.length
        go_wp2_with fail
        refine hcut.mono ?_
        rintro e w3 ⟨rfl, hb3⟩
        have hlw := how.lt
        have hlen' := how.sl.len.1
        go_wp2
        go_ret
        refine ⟨_, rfl, ?_, by rw [HB.out]; exact hbw.trans (hb3.mono (by rw [← HB.out]; exact hbw.size))⟩
        have := (how.below hb3).cut _ (by rw [hlen']; exact hle)
        rw [HB.out]
        unfold Goss.scaleP Goss.trim
        have e : cur = xs.map (Goss.tabMul k) := by rw [hx.out, ← Hm.out, List.take_length, List.drop_length, List.append_nil]
        rw [← e]
        exact this
end Go.Proofs.Ythglbipcfhdoaaa
