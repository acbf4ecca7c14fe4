/- slices.Grow, Concat of two; package sketch: Join. -/
import Derived.Test.YthglbipcfhdoaaaSk7
namespace Go.Proofs.Ythglbipcfhdoaaa
open Go.RowKit

set_option maxRecDepth 100000 in
set_option maxHeartbeats 2000000 in
theorem grow_any (n : Nat) (w : World) (hn : n ≤ 1000) :
    Calls Try.prog 70 #[.slice none 0 0, .int .i64 n] w (New [] w) := by
  generalize hB : w.heap.size = B at *
  have HB := Lib.hid hB; clear hB
  have hBw : B ≤ w.heap.size := by rw [HB.out]; exact Nat.le_refl _
  have hd0 : decide ((n : Int) < 0) = false := decide_eq_false (by omega)
  go_enter Try.func70, Try.ntmps70
  by_cases h0 : n = 0
  · subst h0
    go_wp2
    go_ret
    exact ⟨_, rfl, Own.nil _ _, by rw [HB.out]; exact Below.refl _ _⟩
  · have hd1 : decide ((0 : Int) < (n : Int)) = true := decide_eq_true (by omega)
    go_wp2_with (at_builtin; go_must (refine app_zeros rfl _ _ rfl B _ [] rfl (Own.nil _ _) _ n rfl (by simp) (by simp; omega) hBw ?_))
    intro v1 w1 ho1 hg1
    have hb1 : Below B w w1 := (Below.refl _ _).grown hg1 hBw (fun k hk => by cases hk)
    have hlen : (List.replicate n 0#32 : List Goss.F).length = n := by simp
    rcases ho1.shape with ⟨_, e0⟩ | ⟨g, c, rfl, hgB, hg2, hg3, hg4⟩
    · rw [e0] at hlen; simp at hlen; omega
    · rw [hlen] at ho1 hg3 ⊢
      have hcut := ho1.cut 0 (by omega)
      rw [List.take_zero] at hcut
      clear ho1 hlen
      go_wp2
      go_ret
      exact ⟨_, rfl, by rw [HB.out]; exact hcut, by rw [HB.out]; exact hb1⟩
set_option maxRecDepth 100000 in
set_option maxHeartbeats 2000000 in
theorem concat_any (b : Nat) (v1 v2 : Value) (xs ys : List Goss.F) (w : World) (hb : b < w.heap.size) (h1 : Sl w v1 xs) (h2 : Sl w v2 ys) (c1 : w.cell? ⟨b, 0, none⟩ = some v1) (c2 : w.cell? ⟨b, 1, none⟩ = some v2) (hx : xs.length ≤ 400) (hy : ys.length ≤ 400) :
    Calls Try.prog 52 #[.slice (some ⟨b, 0, none⟩) 2 2] w (New (xs ++ ys) w) := by
  generalize hB : w.heap.size = B at *
  have HB := Lib.hid hB; clear hB
  have hBw : B ≤ w.heap.size := by rw [HB.out]; exact Nat.le_refl _
  obtain ⟨p1, k1, rfl⟩ := h1.shape
  obtain ⟨p2, k2, rfl⟩ := h2.shape
  obtain ⟨m1, hm1⟩ : ∃ m, xs.length = m := ⟨_, rfl⟩
  obtain ⟨m2, hm2⟩ : ∃ m, ys.length = m := ⟨_, rfl⟩
  rw [hm1] at c1 h1 hx
  rw [hm2] at c2 h2 hy
  have Hm1 := Lib.hid hm1; clear hm1
  have Hm2 := Lib.hid hm2; clear hm2
  go_enter Try.func52, Try.ntmps52
  go_wp2_with fail
  go_loopw [3, 11] (fun vs vi wr => ∃ (j s : Nat), vi = .int .i64 j ∧ vs = .int .i64 s ∧ w = wr ∧ ((j = 0 ∧ s = 0) ∨ (j = 1 ∧ m1 = s) ∨ (j = 2 ∧ s = m1 + m2))) (fun _ vi _ => 2 - (intOf vi).toNat)
  case atStart => exact ⟨0, 0, rfl, rfl, rfl, .inl ⟨rfl, rfl⟩⟩
  case round =>
    obtain ⟨j, s, rfl, rfl, rfl, hr⟩ := hrel
    rcases hr with ⟨rfl, rfl⟩ | ⟨rfl, rfl⟩ | ⟨rfl, rfl⟩
    · have hd : decide ((m1 : Int) < 0) = false := decide_eq_false (by omega)
      go_wp2
      refine ⟨⟨1, m1, rfl, ?_, by first | rfl | trivial, .inr (.inl ⟨rfl, rfl⟩)⟩, by simp [intOf]⟩
      simp
    · have hd : decide ((m1 : Int) + (m2 : Int) < 0) = false := decide_eq_false (by omega)
      go_wp2
      refine ⟨⟨2, m1 + m2, rfl, ?_, by first | rfl | trivial, .inr (.inr ⟨rfl, rfl⟩)⟩, by simp [intOf]⟩
      simp
    · have hgr := grow_any (m1 + m2) w (by omega)
      generalize m1 + m2 = M at hgr ⊢
      go_wp2_with fail
      refine hgr.mono ?_
      rintro e w3 ⟨v3, rfl, ho3, hb3⟩
      rw [HB.out] at ho3 hb3
      have hz3 := hb3.size
      obtain ⟨p3, k3, rfl⟩ := ho3.sl.shape
      go_wp2_with fail
      go_loopw [6, 27] (fun vo vi wq => ∃ (j : Nat) (out : List Goss.F), vi = .int .i64 j ∧ Own wq B vo out ∧ Below B w wq ∧ ((j = 0 ∧ out = []) ∨ (j = 1 ∧ xs = out) ∨ (j = 2 ∧ out = xs ++ ys))) (fun _ vi _ => 2 - (intOf vi).toNat)
      case atStart => exact ⟨0, [], rfl, ho3, hb3, .inl ⟨rfl, rfl⟩⟩
      case round =>
        clear ho3 hb3 hz3 hgr
        obtain ⟨j, out, rfl, how, hbw, hr⟩ := hrel
        have hB0 : Below w.heap.size w wr := by rw [HB.out]; exact hbw
        have c1' := (hB0.cell (p := ⟨b, 0, none⟩) (by rw [HB.out]; exact hb)).trans c1
        have c2' := (hB0.cell (p := ⟨b, 1, none⟩) (by rw [HB.out]; exact hb)).trans c2
        have h1' := h1.below hB0
        have h2' := h2.below hB0
        have hz := hbw.size
        clear hB0
        rcases hr with ⟨rfl, rfl⟩ | ⟨rfl, rfl⟩ | ⟨rfl, rfl⟩
        · have hsum : ([] : List Goss.F).length + xs.length ≤ 35184372088832 := by rw [Hm1.out]; simp; omega
          go_wp2_with (at_builtin; go_must (refine app_own rfl _ _ rfl B _ [] rfl how _ xs rfl h1' hsum (by omega) ?_))
          intro v4 w4 ho4 hg4 _
          obtain ⟨p4, k4, rfl⟩ := ho4.sl.shape
          go_wp2
          refine ⟨⟨1, xs, rfl, ho4, grown_below hbw how (by omega) hg4, .inr (.inl ⟨rfl, rfl⟩)⟩, by simp [intOf]⟩
        · have hsum : xs.length + ys.length ≤ 35184372088832 := by rw [Hm1.out, Hm2.out]; omega
          go_wp2_with (at_builtin; go_must (refine app_own rfl _ _ rfl B _ xs rfl how _ ys rfl h2' hsum (by omega) ?_))
          intro v4 w4 ho4 hg4 _
          obtain ⟨p4, k4, rfl⟩ := ho4.sl.shape
          go_wp2
          refine ⟨⟨2, xs ++ ys, rfl, ho4, grown_below hbw how (by omega) hg4, .inr (.inr ⟨rfl, rfl⟩)⟩, by simp [intOf]⟩
        · go_wp2
          go_ret
          exact ⟨_, rfl, by rw [HB.out]; exact how, by rw [HB.out]; exact hbw⟩
end Go.Proofs.Ythglbipcfhdoaaa
