/- The sort of a range: choosing a pivot, turning a range, is it sorted already? -/
import Derived.Test.YthglbipcfhdoaaaSortD
import Derived.Test.YthglbipcfhdoaaaSk1
import Derived.OneCell
namespace Go.Proofs.Ythglbipcfhdoaaa
open Go.RowKit

/-- The count of exchanges, in a block of its own. -/
abbrev CntAt (w : World) (sb k : Nat) : Prop := w.heap[sb]? = some (.cells #[.int .i64 (k : Int)] 3 (0, 0))
def Ord2End (g n c B sb lo hi k : Nat) (P : Nat → Nat → Prop) (cur : List Goss.F) (w : World) (e : Ending) (w' : World) : Prop :=
  ∃ x y k' : Nat, e = .returned (.tuple #[.int .i64 x, .int .i64 y]) ∧ P x y ∧ (lo ≤ x ∧ x < hi) ∧ (lo ≤ y ∧ y < hi) ∧ k' ≤ k + 1 ∧ CntAt w' sb k' ∧ Own w' B (.slice (some ⟨g, 0, none⟩) n c) cur ∧ w.grownBy w' (some sb)
set_option maxRecDepth 100000 in
set_option maxHeartbeats 2000000 in
theorem order2_any (B g n c lo hi p q k sb : Nat) (cur : List Goss.F) (w : World) (h : Own w B (.slice (some ⟨g, 0, none⟩) n c) cur) (hhi : hi ≤ n) (hp : lo ≤ p ∧ p < hi) (hq : lo ≤ q ∧ q < hi) (hs : CntAt w sb k) (hne : sb ≠ g) (hk : k ≤ 1000) :
    Calls Try.prog 143 #[.slice (some ⟨g, 0, none⟩) n c, .int .i64 p, .int .i64 q, .pointer (some ⟨sb, 0, none⟩)] w (Ord2End g n c B sb lo hi k (fun _ _ => True) cur w) := by
  obtain ⟨x, hx0, hxc, hxf⟩ := h.read (k := q) (by omega)
  obtain ⟨y, hy0, hyc, hyf⟩ := h.read (k := p) (by omega)
  clear hx0 hy0
  have b1 : (p : Int) < (n : Int) := by omega
  have b2 : (q : Int) < (n : Int) := by omega
  by_cases hlt : x.toNat < y.toNat
  · have hdl : decide (x.toNat < y.toNat) = true := decide_eq_true hlt
    go_enter Try.func143, Try.ntmps143
    go_wp2
    go_quiet ((go_at_call 128; refine Calls.quiet_of_same (quiet_less _ _ _)))
    have h1 : Own (w.drewN nq) B (.slice (some ⟨g, 0, none⟩) n c) cur := h.below ((Below.refl _ _).drewN nq)
    have hs1 : CntAt (w.drewN nq) sb k := hs
    have hg1 : w.grownBy (w.drewN nq) (some sb) := grown_drewN _ _ _
    generalize w.drewN nq = w1 at *
    clear hxc hyc hxf hyf
    have hsc := cell_of_one hs1
    have hsf := free_of_one hs1
    have hs2 := one_setCell (u := .int .i64 ((k : Int) + 1)) hs1
    have h2 : Own (w1.setCell ⟨sb, 0, none⟩ (.int .i64 ((k : Int) + 1))) B (.slice (some ⟨g, 0, none⟩) n c) cur := ownsRow_setCell_other h1 (by simp [Value.ownBlock]; omega) _
    have hg2 := hg1.trans' (grown_store w1 sb 0 (.int .i64 ((k : Int) + 1)))
    have Hs2 := Lib.hid hs2; clear hs2 hs1
    go_wp2
    go_ret2
    exact ⟨q, p, k + 1, rfl, trivial, hq, hp, Nat.le_refl _, Hs2.out, h2, hg2⟩
  · have hdl : decide (x.toNat < y.toNat) = false := decide_eq_false hlt
    go_enter Try.func143, Try.ntmps143
    go_wp2
    go_quiet ((go_at_call 128; refine Calls.quiet_of_same (quiet_less _ _ _)))
    go_wp2
    go_ret2
    exact ⟨p, q, k, rfl, trivial, hp, hq, by omega, hs, h.below ((Below.refl _ _).drewN nq), grown_drewN _ _ _⟩
def MedEnd (g n c B sb lo hi k : Nat) (cur : List Goss.F) (w : World) (e : Ending) (w' : World) : Prop :=
  ∃ x k' : Nat, e = .returned (.int .i64 x) ∧ (lo ≤ x ∧ x < hi) ∧ k' ≤ k + 3 ∧ CntAt w' sb k' ∧ Own w' B (.slice (some ⟨g, 0, none⟩) n c) cur ∧ w.grownBy w' (some sb)
set_option maxRecDepth 100000 in
set_option maxHeartbeats 2000000 in
theorem median_any (B g n c lo hi p q r k sb : Nat) (cur : List Goss.F) (w : World) (h : Own w B (.slice (some ⟨g, 0, none⟩) n c) cur) (hhi : hi ≤ n) (hp : lo ≤ p ∧ p < hi) (hq : lo ≤ q ∧ q < hi) (hr : lo ≤ r ∧ r < hi) (hs : CntAt w sb k) (hne : sb ≠ g) (hk : k ≤ 100) :
    Calls Try.prog 141 #[.slice (some ⟨g, 0, none⟩) n c, .int .i64 p, .int .i64 q, .int .i64 r, .pointer (some ⟨sb, 0, none⟩)] w (MedEnd g n c B sb lo hi k cur w) := by
  go_enter Try.func141, Try.ntmps141
  go_wp2_with fail
  refine (order2_any B g n c lo hi p q k sb cur w h hhi hp hq hs hne (by omega)).mono ?_
  rintro e w1 ⟨x1, y1, k1, rfl, _, hx1, hy1, hk1, hs1, h1, hg1⟩
  go_wp2_with fail
  refine (order2_any B g n c lo hi y1 r k1 sb cur w1 h1 hhi hy1 hr hs1 hne (by omega)).mono ?_
  rintro e w2 ⟨x2, y2, k2, rfl, _, hx2, hy2, hk2, hs2, h2, hg2⟩
  go_wp2_with fail
  refine (order2_any B g n c lo hi x1 x2 k2 sb cur w2 h2 hhi hx1 hx2 hs2 hne (by omega)).mono ?_
  rintro e w3 ⟨x3, y3, k3, rfl, _, hx3, hy3, hk3, hs3, h3, hg3⟩
  go_wp2
  go_ret
  exact ⟨y3, k3, rfl, hy3, by omega, hs3, h3, (hg1.trans' hg2).trans' hg3⟩
def ChoEnd (a b : Nat) (w : World) (e : Ending) (w' : World) : Prop :=
  ∃ (x : Nat) (t : Int), e = .returned (.tuple #[.int .i64 x, .int .i64 t]) ∧ (a ≤ x ∧ x < b) ∧ (t = 0 ∨ t = 1 ∨ t = 2) ∧ Below w.heap.size w w'
set_option maxRecDepth 100000 in
set_option maxHeartbeats 2000000 in
theorem choose_any (B g n c a b : Nat) (cur : List Goss.F) (w : World) (h : Own w B (.slice (some ⟨g, 0, none⟩) n c) cur) (hbn : b ≤ n) (hab : a + 8 ≤ b) (hab2 : b < a + 50) (h12 : n ≤ 35184372088832) :
    Calls Try.prog 125 #[.slice (some ⟨g, 0, none⟩) n c, .int .i64 a, .int .i64 b] w (ChoEnd a b w) := by
  obtain ⟨l, hl⟩ : ∃ l, l = b - a := ⟨_, rfl⟩
  obtain ⟨q, hq⟩ : ∃ q, q = l / 4 := ⟨_, rfl⟩
  have e1 : (b : Int) - (a : Int) = (l : Int) := by omega
  have e2 : (l : Int) / 4 = (q : Int) := by omega
  obtain ⟨i, hi⟩ : ∃ i, i = a + q := ⟨_, rfl⟩
  obtain ⟨j, hj⟩ : ∃ j, j = a + q * 2 := ⟨_, rfl⟩
  obtain ⟨k, hk⟩ : ∃ k, k = a + q * 3 := ⟨_, rfl⟩
  have e3 : (a : Int) + (q : Int) = (i : Int) := by omega
  have e4 : (a : Int) + (q : Int) * 2 = (j : Int) := by omega
  have e5 : (a : Int) + (q : Int) * 3 = (k : Int) := by omega
  have hi2 : a ≤ i ∧ i < b := by omega
  have hj2 : a ≤ j ∧ j < b := by omega
  have hk2 : a ≤ k ∧ k < b := by omega
  have hl8 : 8 ≤ l := by omega
  have hl50 : l < 50 := by omega
  have hd1 : decide ((8 : Int) ≤ (l : Int)) = true := decide_eq_true (by omega)
  have hd2 : decide ((50 : Int) ≤ (l : Int)) = false := decide_eq_false (by omega)
  have hgl := h.lt.2
  have hgne : w.heap.size ≠ g := by omega
  clear hl hq hi hj hk
  have hA : Own (w.alloc (.cells #[.int .i64 0] 3)) B (.slice (some ⟨g, 0, none⟩) n c) cur := h.below ((Below.refl _ _).alloc (Nat.le_refl _) _)
  have hbA := (Below.refl w.heap.size w).alloc (o := .cells #[.int .i64 0] 3) (Nat.le_refl _)
  have hmd := median_any B g n c a b i j k 0 w.heap.size cur _ hA hbn hi2 hj2 hk2 (heap_alloc_new w _) hgne (by omega)
  have hX : Hid (w.heap.size ≤ w.heap.size) := Nat.le_refl _
  go_enter Try.func125, Try.ntmps125
  go_wp2_with fail
  refine hmd.mono ?_
  rintro e w1 ⟨x, k1, rfl, hx, hk1, hs1, h1, hg1⟩
  have hb1 := hbA.grown hg1 (by simp) (fun k hk => by cases hk; exact Nat.le_refl _)
  have hsc := cell_of_one hs1
  clear hs1 hmd hg1 hA h h1
  by_cases h0 : k1 = 0
  · subst h0
    go_wp2
    go_ret2
    exact ⟨x, 1, rfl, hx, by omega, hb1⟩
  · have ht0 : ((k1 : Int) == 0) = false := by rw [beq_eq_false_iff_ne]; omega
    have ht12 : ((k1 : Int) == 12) = false := by rw [beq_eq_false_iff_ne]; omega
    go_wp2
    go_ret2
    exact ⟨x, 0, rfl, hx, by omega, hb1⟩
set_option maxRecDepth 100000 in
set_option maxHeartbeats 2000000 in
theorem revrange_any (B g n c a b : Nat) (xs : List Goss.F) (w : World) (h : Own w B (.slice (some ⟨g, 0, none⟩) n c) xs) (hab : a + 1 ≤ b) (hbn : b ≤ n) (h12 : n ≤ 35184372088832) :
    Calls Try.prog 126 #[.slice (some ⟨g, 0, none⟩) n c, .int .i64 a, .int .i64 b] w (MvEnd (fun _ => True) g n c B a b xs w) := by
  obtain ⟨j0, hj0⟩ : ∃ j, b = j + 1 := ⟨b - 1, by omega⟩
  have e0 : (b : Int) - 1 = (j0 : Int) := by omega
  have hj0b : j0 < b := by omega
  have haj0 : a ≤ j0 := by omega
  clear hj0
  go_enter Try.func126, Try.ntmps126
  go_wp2_with fail
  go_loopw [6, 7] (fun vi vj wr => ∃ (i j : Nat) (cur : List Goss.F), a ≤ i ∧ j < b ∧ i ≤ j + 1 ∧ vi = .int .i64 i ∧ vj = .int .i64 j ∧ Hid (Goss.Mv a b cur xs) ∧ Own wr B (.slice (some ⟨g, 0, none⟩) n c) cur ∧ w.grownBy wr (some g)) (fun _ vj _ => (intOf vj).toNat)
  case atStart => exact ⟨a, j0, xs, Nat.le_refl _, hj0b, by omega, rfl, rfl, Goss.Mv.refl xs, h, grown_refl _ _⟩
  case round =>
    obtain ⟨i, j, cur, hai, hjb, hij, rfl, rfl, hmv, how, hgr⟩ := hrel
    by_cases hlt : i < j
    · have hd : decide ((i : Int) < (j : Int)) = true := decide_eq_true (by omega)
      obtain ⟨j', hjj⟩ : ∃ j', j = j' + 1 := ⟨j - 1, by omega⟩
      have e1 : (j : Int) - 1 = (j' : Int) := by omega
      have hd' : decide (i < j) = true := decide_eq_true (by omega)
      obtain ⟨x, hx0, hxc, hxf⟩ := how.read (k := i) (by omega)
      obtain ⟨y, hy0, hyc, hyf⟩ := how.read (k := j) (by omega)
      have hsw := Goss.swp_eq hx0 hy0
      have hmv1 : Hid (Goss.Mv a b ((cur.set i y).set j x) xs) := by
        show Goss.Mv _ _ _ _
        rw [hsw]
        exact .swap hmv.out _ _ ⟨by omega, by omega⟩ ⟨by omega, by omega⟩
      have how3 := (how.stored i y).stored j x
      have hgr3 := (hgr.trans' (grown_store wr g i (.int .u32 y.toNat))).trans' (grown_store _ g j (.int .u32 x.toNat))
      have hne : i ≠ j := by omega
      have b1 : (i : Int) < (n : Int) := by omega
      have b2 : (j : Int) < (n : Int) := by omega
      have Hjj := Lib.hid hjj
      clear hsw hx0 hy0 hjj hmv
      go_wp2
      go_region
      go_wp2
      go_roundw
      case rel => exact ⟨i + 1, j', _, by omega, by have := Hjj.out; omega, by have := Hjj.out; omega, by first | rfl | go_num, rfl, hmv1, how3, hgr3.trans' (grown_drew _ _)⟩
      case measure => simp only [intOf]; have := Hjj.out; omega
    · have hd : decide ((i : Int) < (j : Int)) = false := decide_eq_false (by omega)
      have hd' : decide (i < j) = false := decide_eq_false hlt
      go_wp2
      go_end0
      exact ⟨rfl, cur, hmv.out, trivial, how, hgr⟩
def ParEnd (a b : Nat) (cur : List Goss.F) (w : World) (e : Ending) (w' : World) : Prop :=
  ∃ t : Bool, e = .returned (.bool t) ∧ (t = true → Goss.SrtIn a b cur) ∧ ∃ q, w' = w.drewN q
set_option maxRecDepth 100000 in
set_option maxHeartbeats 2000000 in
theorem partial_any (B g n c a b : Nat) (cur : List Goss.F) (w : World) (h : Own w B (.slice (some ⟨g, 0, none⟩) n c) cur) (hbn : b ≤ n) (hab : a + 1 ≤ b) (hab2 : b < a + 50) (h12 : n ≤ 35184372088832) :
    Calls Try.prog 127 #[.slice (some ⟨g, 0, none⟩) n c, .int .i64 a, .int .i64 b] w (ParEnd a b cur w) := by
  obtain ⟨l, hl⟩ : ∃ l, l = b - a := ⟨_, rfl⟩
  have e1 : (b : Int) - (a : Int) = (l : Int) := by omega
  have hd2 : decide ((l : Int) < 50) = true := decide_eq_true (by omega)
  clear hl
  go_enter Try.func127, Try.ntmps127
  go_wp2_with fail
  go_loopw [7, 8] (fun vi vj wr => vi = .int .i64 ((a : Int) + 1) ∧ vj = .int .i64 0 ∧ wr = w) (fun _ _ _ => 0)
  case atStart => exact ⟨rfl, rfl, rfl⟩
  case round =>
    obtain ⟨rfl, rfl, rfl⟩ := hrel
    obtain ⟨wo, rfl⟩ : ∃ wo : World, wo = wr := ⟨_, rfl⟩
    go_wp2_with fail
    go_loopw [7] (fun vi ws => ∃ (i q : Nat), a + 1 ≤ i ∧ i ≤ b ∧ vi = .int .i64 i ∧ Hid (Goss.SrtIn a i cur) ∧ ws = wo.drewN q) (fun vi _ => b - (intOf vi).toNat)
    case atStart => exact ⟨a + 1, 0, Nat.le_refl _, hab, by go_num, Goss.SrtIn.one a cur, rfl⟩
    case round =>
      obtain ⟨i, q, hi1, hib, rfl, hx, hwq⟩ := hrel
      have how : Own wr B (.slice (some ⟨g, 0, none⟩) n c) cur := by rw [hwq]; exact h.below ((Below.refl _ _).drewN q)
      have Hwq := Lib.hid hwq; clear hwq
      by_cases hlt : i < b
      · obtain ⟨x, hx0, hxc, hxf⟩ := how.read (k := i) (by omega)
        obtain ⟨y, hy0, hyc, hyf⟩ := how.read (k := i - 1) (by omega)
        have hd : decide ((i : Int) < (b : Int)) = true := decide_eq_true (by omega)
        have hd' : decide (i < b) = true := decide_eq_true hlt
        have hjn : (i : Int) < (n : Int) := by omega
        have hj1 : (0 : Int) ≤ (i : Int) - 1 := by omega
        have hj2 : (i : Int) - 1 < (n : Int) := by omega
        have hj3 : ((i : Int) - 1).toNat = i - 1 := by omega
        have hj4 : IntKind.i64.wrap ((i : Int) - 1) = (i : Int) - 1 := IntWalk.i64_in _ (by omega)
        have Hx0 := Lib.hid hx0; have Hy0 := Lib.hid hy0; clear hx0 hy0
        by_cases hlt2 : x.toNat < y.toNat
        · have hdl : decide (x.toNat < y.toNat) = true := decide_eq_true hlt2
          have hib' : ((i : Int) == (b : Int)) = false := by rw [beq_eq_false_iff_ne]; omega
          clear hx h
          go_wp2
          go_quiet ((go_at_call 128; refine Calls.quiet_of_same (quiet_less _ _ _)))
          go_wp2
          go_ret
          exact ⟨false, rfl, (fun e => by cases e), q + nq, by rw [Hwq.out, drewN_drewN]⟩
        · have hdl : decide (x.toNat < y.toNat) = false := decide_eq_false hlt2
          have hx1 : Hid (Goss.SrtIn a (i + 1) cur) := by
            show Goss.SrtIn _ _ _
            intro u v hu huv hv
            by_cases e : v = i
            · subst e
              have h1 := at_of Hx0.out
              have h2 := at_of Hy0.out
              by_cases e2 : u = v - 1
              · rw [h1, e2, h2]; omega
              · have := hx.out u (v - 1) hu (by omega) (by omega)
                omega
            · exact hx.out u v hu huv (by omega)
          clear hx h
          go_wp2
          go_quiet ((go_at_call 128; refine Calls.quiet_of_same (quiet_less _ _ _)))
          go_wp2
          go_roundw
          case rel => exact ⟨i + 1, q + nq, by omega, by omega, by first | rfl | go_num, hx1, by rw [Hwq.out, drewN_drewN]⟩
          case measure => first | omega | (simp [intOf]; done) | (simp [intOf]; omega)
      · obtain rfl : i = b := by omega
        have hd : decide ((i : Int) < (i : Int)) = false := by simp
        have hd' : decide (i < i) = false := by simp
        clear h how
        go_wp2
        go_quiet (fail)
        go_wp2
        go_ret
        exact ⟨true, rfl, fun _ => hx.out, q + nq, by rw [Hwq.out, drewN_drewN]⟩
end Go.Proofs.Ythglbipcfhdoaaa
