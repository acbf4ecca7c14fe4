/- The sort of a range: the heap sort. -/
import Derived.Test.YthglbipcfhdoaaaSortC
namespace Go.Proofs.Ythglbipcfhdoaaa
open Go.RowKit

set_option maxRecDepth 100000 in
set_option maxHeartbeats 4000000 in
theorem heapsort_any (B g n c a b : Nat) (xs : List Goss.F) (w : World) (h : Own w B (.slice (some ⟨g, 0, none⟩) n c) xs) (hab : a + 1 ≤ b) (hbn : b ≤ n) (h12 : n ≤ 35184372088832) :
    Calls Try.prog 123 #[.slice (some ⟨g, 0, none⟩) n c, .int .i64 a, .int .i64 b] w (SrtEnd g n c B a b xs w) := by
  have hlen := h.sl.len.1
  have Hlen := Lib.hid hlen; clear hlen
  obtain ⟨M, hM⟩ : ∃ M, b = a + M + 1 := ⟨b - a - 1, by omega⟩
  obtain ⟨N, hN⟩ : ∃ N, N = M + 1 := ⟨_, rfl⟩
  obtain ⟨Q, hQ⟩ : ∃ Q, Q = M / 2 := ⟨_, rfl⟩
  have e1 : (b : Int) - (a : Int) = (N : Int) := by omega
  have e2 : (N : Int) - 1 = (M : Int) := by omega
  have e3 : (M : Int) / 2 = (Q : Int) := by omega
  have hMb : a + M + 1 ≤ b := by omega
  have hbM : b ≤ a + M + 1 := by omega
  have hNM : N ≤ M + 1 := by omega
  have hMN : M + 1 ≤ N := by omega
  have hQM : 2 * Q ≤ M := by omega
  have hstart : Goss.Hp xs a (Q + 1) N := fun k cc h1 h2 h3 => by omega
  have Hstart := Lib.hid hstart; clear hstart
  clear hM hN hQ
  go_enter Try.func123, Try.ntmps123
  go_wp2_with fail
  go_loopw [9] (fun vi wr => ∃ (k : Nat) (v : Int) (cur : List Goss.F), k ≤ Q + 1 ∧ vi = .int .i64 v ∧ Hid (v = (k : Int) - 1) ∧ Hid (Goss.Mv a b cur xs) ∧ Hid (Goss.Hp cur a k N) ∧ Own wr B (.slice (some ⟨g, 0, none⟩) n c) cur ∧ w.grownBy wr (some g)) (fun vi _ => (intOf vi + 1).toNat)
  case atStart => exact ⟨Q + 1, _, xs, Nat.le_refl _, rfl, (by show _ = _; omega), Goss.Mv.refl xs, Hstart.out, h, grown_refl _ _⟩
  case round =>
    clear h
    obtain ⟨k, v, cur, hkQ, rfl, hv, hmv, hx, how, hgr⟩ := hrel
    have hv := hv.out
    rcases Nat.eq_zero_or_pos k with rfl | hpos
    · have hpop : Goss.Pop cur a b N := ⟨hx.out, fun p q h1 h2 h3 => by omega, fun p q h1 h2 h3 h4 => by omega⟩
      have Hpop := Lib.hid hpop; clear hpop hx
      obtain rfl : v = -1 := by omega
      clear e3 hkQ hv
      have hNn : a + N ≤ n := by omega
      go_wp2_with fail
      go_loopw [10] (fun vi ws => ∃ (k : Nat) (v : Int) (now : List Goss.F), k ≤ N ∧ vi = .int .i64 v ∧ Hid (v = (k : Int) - 1) ∧ Hid (Goss.Mv a b now xs) ∧ Hid (Goss.Pop now a b k) ∧ Own ws B (.slice (some ⟨g, 0, none⟩) n c) now ∧ w.grownBy ws (some g)) (fun vi _ => (intOf vi + 1).toNat)
      case atStart => exact ⟨N, _, cur, Nat.le_refl _, rfl, (by show _ = _; omega), hmv, Hpop, how, hgr⟩
      case round =>
        clear how hgr hmv Hpop cur
        obtain ⟨k, v, now, hkN, rfl, hv, hmv, hx, how, hgr⟩ := hrel
        have hv := hv.out
        rcases Nat.eq_zero_or_pos k with rfl | hpos
        · obtain rfl : v = -1 := by omega
          clear hv
          go_wp2
          go_end0
          exact ⟨rfl, now, ⟨hmv.out, hx.out.done⟩, how, hgr⟩
        · obtain ⟨j, rfl⟩ : ∃ j, k = j + 1 := ⟨k - 1, by omega⟩
          obtain rfl : v = (j : Int) := by omega
          clear hv
          have hln := how.sl.len.1
          have hsw3 := hx.out.swap (by omega) (by omega)
          obtain ⟨x, hx0, hxc, hxf⟩ := how.read (k := a) (by omega)
          obtain ⟨f, hf⟩ : ∃ f, f = a + j := ⟨_, rfl⟩
          obtain ⟨y, hy0, hyc, hyf⟩ := how.read (k := f) (by omega)
          have hsw := Goss.swp_eq hx0 hy0
          have hmv1 : Hid (Goss.Mv a b ((now.set a y).set f x) xs) := by
            show Goss.Mv _ _ _ _
            rw [hsw]
            exact .swap hmv.out _ _ ⟨by omega, by omega⟩ ⟨by omega, by omega⟩
          rw [← hf, ← hsw] at hsw3
          have Hsw3 := Lib.hid hsw3; clear hsw3
          have e4 : IntKind.i64.wrap ((a : Int) + (j : Int)) = (f : Int) := by rw [IntWalk.i64_in _ (by omega)]; omega
          have b1 : (a : Int) < (n : Int) := by omega
          have b2 : (f : Int) < (n : Int) := by omega
          have how3 := (how.stored a y).stored f x
          have hgr3 := (hgr.trans' (grown_store wr g a (.int .u32 y.toNat))).trans' (grown_store _ g f (.int .u32 x.toNat))
          have hjn : a + j ≤ n := by omega
          have hj1 : Hid (f = a + j) := hf
          clear hx hmv hsw hf hln hx0 hy0
          by_cases hj0 : j = 0
          · subst hj0
            obtain rfl : a = f := by have := hj1.out; omega
            have hxy : x = y := by
              rw [hxc] at hyc
              have := Option.some.inj hyc
              simp only [Value.int.injEq, true_and] at this
              exact BitVec.eq_of_toNat_eq (by omega)
            subst hxy
            clear hyc hyf e4 b2
            go_wp2_with fail
            go_region
            have hdr : Own ((wr.setCell ⟨g, a, none⟩ (.int .u32 x.toNat)).setCell ⟨g, a, none⟩ (.int .u32 x.toNat)).drew B (.slice (some ⟨g, 0, none⟩) n c) ((now.set a x).set a x) := how3
            have hgd := hgr3.trans' (grown_drew _ (some g))
            have hs0 := siftdown_any B g n c 0 0 a _ ((wr.setCell ⟨g, a, none⟩ (.int .u32 x.toNat)).setCell ⟨g, a, none⟩ (.int .u32 x.toNat)).drew hdr (Nat.zero_le _) (by omega) h12 Hsw3.out.1
            rw [show ((0 : Nat) : Int) = 0 from rfl] at hs0
            generalize ((wr.setCell ⟨g, a, none⟩ (.int .u32 x.toNat)).setCell ⟨g, a, none⟩ (.int .u32 x.toNat)).drew = wd at *
            have Hs0 := Lib.hid hs0; clear hs0
            clear how how3 hgr hgr3 hxc hxf
            go_wp2_with fail
            refine Hs0.out.mono ?_
            rintro e w2 ⟨rfl, zs, hz1, hz2, hz3, hz4⟩
            have hz5 := Lib.hid ((hz1.mono (Nat.le_refl _) (show a + 0 ≤ b by omega)).trans hmv1.out)
            have hz6 := Lib.hid (Goss.Pop.next (b := b) hz1 hz2 Hsw3.out.2.1 Hsw3.out.2.2)
            clear hz1 hz2
            go_wp2
            go_roundw
            case rel => exact ⟨0, _, zs, by omega, rfl, (by show _ = _; omega), hz5, hz6, hz3, hgd.trans' hz4⟩
            case measure => first | omega | (simp [intOf]; done) | (simp [intOf]; omega)
          · have hne : a ≠ f := by have := hj1.out; omega
            go_wp2_with fail
            go_region
            have hdr : Own ((wr.setCell ⟨g, a, none⟩ (.int .u32 y.toNat)).setCell ⟨g, f, none⟩ (.int .u32 x.toNat)).drew B (.slice (some ⟨g, 0, none⟩) n c) ((now.set a y).set f x) := how3
            have hgd := hgr3.trans' (grown_drew _ (some g))
            have hs0 := siftdown_any B g n c 0 j a _ ((wr.setCell ⟨g, a, none⟩ (.int .u32 y.toNat)).setCell ⟨g, f, none⟩ (.int .u32 x.toNat)).drew hdr (Nat.zero_le _) (by omega) h12 Hsw3.out.1
            rw [show ((0 : Nat) : Int) = 0 from rfl] at hs0
            generalize ((wr.setCell ⟨g, a, none⟩ (.int .u32 y.toNat)).setCell ⟨g, f, none⟩ (.int .u32 x.toNat)).drew = wd at *
            have Hs0 := Lib.hid hs0; clear hs0
            clear how how3 hgr hgr3 hxc hxf hyc hyf
            go_wp2_with fail
            refine Hs0.out.mono ?_
            rintro e w2 ⟨rfl, zs, hz1, hz2, hz3, hz4⟩
            have hz5 := Lib.hid ((hz1.mono (Nat.le_refl _) (show a + j ≤ b by omega)).trans hmv1.out)
            have hfj := hj1.out
            have hz6 := Lib.hid (Goss.Pop.next (b := b) hz1 hz2 (by rw [← hfj]; exact Hsw3.out.2.1) (by rw [← hfj]; exact Hsw3.out.2.2))
            clear hz1 hz2 hfj
            go_wp2
            go_roundw
            case rel => exact ⟨j, _, zs, by omega, rfl, (by show _ = _; omega), hz5, hz6, hz3, hgd.trans' hz4⟩
            case measure => first | omega | (simp [intOf]; done) | (simp [intOf]; omega)
    · obtain ⟨j, rfl⟩ : ∃ j, k = j + 1 := ⟨k - 1, by omega⟩
      obtain rfl : v = (j : Int) := by omega
      clear hv
      have hs := siftdown_any B g n c j N a cur wr how (by omega) (by omega) h12 hx.out
      have Hs := Lib.hid hs; clear hs hx
      go_wp2_with fail
      refine Hs.out.mono ?_
      rintro e w2 ⟨rfl, zs, hz1, hz2, hz3, hz4⟩
      have hz5 := Lib.hid ((hz1.mono (Nat.le_refl _) (show a + N ≤ b by omega)).trans hmv.out)
      have Hz2 := Lib.hid hz2
      clear hz1 hz2
      go_wp2
      go_roundw
      case rel => exact ⟨j, _, zs, by omega, rfl, (by show _ = _; omega), hz5, Hz2, hz3, hgr.trans' hz4⟩
      case measure => first | omega | (simp [intOf]; done) | (simp [intOf]; omega)
end Go.Proofs.Ythglbipcfhdoaaa
