/- package sketch: Read, Further; slices.Grow, Concat; Join. -/
import Derived.Test.YthglbipcfhdoaaaChSums
import Derived.Test.YthglbipcfhdoaaaRootsA
namespace Go.Proofs.Ythglbipcfhdoaaa
open Go.RowKit

def ReadOk (s : List Goss.F) (w : World) (e : Ending) (w' : World) : Prop :=
  ∃ b g c, e = .returned (.tuple #[.pointer (some ⟨b, 0, none⟩), .nilIface]) ∧ Sk w' w.heap.size b g c s ∧ Below w.heap.size w w'
theorem sumsP_length (bs : List (BitVec 8)) : (Goss.sumsP bs).length = bs.length / 4 := by simp [Goss.sumsP]
set_option maxRecDepth 100000 in
set_option maxHeartbeats 2000000 in
theorem read_ok (v : Value) (bs : List (BitVec 8)) (w : World) (h : SlB w v bs) (h4 : bs.length % 4 = 0) (h1 : 1 ≤ bs.length / 4) (h40 : bs.length / 4 ≤ 40) :
    Calls Try.prog 19 #[v] w (ReadOk (Goss.sumsP bs) w) := by
  have hs := sums_any v bs w h (by omega) h4
  have hsl := sumsP_length bs
  generalize Goss.sumsP bs = R at *
  rw [← hsl] at h1 h40
  clear hsl h4
  generalize hB : w.heap.size = B at *
  have HB := Lib.hid hB; clear hB
  go_enter Try.func19, Try.ntmps19
  go_wp2_with fail
  refine hs.mono ?_
  rintro e w1 ⟨v1, rfl, ho1, hb1⟩
  rw [HB.out] at ho1
  have hz := hb1.size
  rcases ho1.shape with ⟨_, e0⟩ | ⟨g, c, rfl, hgB, hg2, hg3, hg4⟩
  · rw [e0] at h1; simp at h1
  · have hsk := Sk.fresh ho1 (by have := HB.out; omega)
    have hba := hb1.alloc (o := .cells #[.slice (some ⟨g, 0, none⟩) R.length c] 73) hz
    generalize R.length = n at *
    have hd1 : decide ((n : Int) < 1) = false := decide_eq_false (by omega)
    have hd2 : decide ((40 : Int) < (n : Int)) = false := decide_eq_false (by omega)
    go_wp2
    go_ret2
    exact ⟨_, _, _, rfl, by rw [HB.out]; exact hsk, hba⟩
set_option maxRecDepth 100000 in
set_option maxHeartbeats 2000000 in
theorem read_bad (v : Value) (bs : List (BitVec 8)) (w : World) (h : SlB w v bs) (hl : bs.length ≤ 4000000) (hn : ¬ (bs.length % 4 = 0 ∧ 1 ≤ bs.length / 4 ∧ bs.length / 4 ≤ 40)) :
    Calls Try.prog 19 #[v] w (Gives (.tuple #[.pointer none, errv 2]) w) := by
  by_cases h4 : bs.length % 4 = 0
  · have hs := sums_any v bs w h hl h4
    have hsl := sumsP_length bs
    generalize Goss.sumsP bs = R at *
    have hn2 : ¬ (1 ≤ R.length ∧ R.length ≤ 40) := by omega
    clear hsl h4 hn hl
    go_enter Try.func19, Try.ntmps19
    go_wp2_with fail
    refine hs.mono ?_
    rintro e w1 ⟨v1, rfl, ho1, hb1⟩
    obtain ⟨p, c, rfl⟩ := ho1.sl.shape
    clear ho1 hs
    generalize R.length = n at *
    by_cases hz : n < 1
    · have hd1 : decide ((n : Int) < 1) = true := decide_eq_true (by omega)
      go_wp2
      go_ret2
      exact ⟨rfl, hb1⟩
    · have hd1 : decide ((n : Int) < 1) = false := decide_eq_false (by omega)
      have hd2 : decide ((40 : Int) < (n : Int)) = true := decide_eq_true (by omega)
      go_wp2
      go_ret2
      exact ⟨rfl, hb1⟩
  · have hs := sums_odd v bs w h hl h4
    go_enter Try.func19, Try.ntmps19
    go_wp2_with fail
    refine hs.mono ?_
    rintro e w1 ⟨rfl, rfl⟩
    go_wp2
    go_ret2
    exact ⟨rfl, Below.refl _ _⟩

def FurOk (xs : List (BitVec 8)) (w : World) (e : Ending) (w' : World) : Prop := ∃ v, e = .returned (.tuple #[v, .nilIface]) ∧ OwnB w' w.heap.size v xs ∧ Below w.heap.size w w'
/-- The rest of what reads as a list. -/
theorem Sl.rest {w : World} {b o n c : Nat} {xs : List Goss.F} (h : Sl w (.slice (some ⟨b, o, none⟩) n c) xs) (k : Nat) (hk : k ≤ n) : Sl w (.slice (some ⟨b, o + k, none⟩) (n - k) (c - k)) (xs.drop k) := by
  obtain ⟨p', n', c', h1, h2, h3, h4, h5⟩ := h
  simp only [Value.slice.injEq] at h1
  obtain ⟨rfl, rfl, rfl⟩ := h1
  refine ⟨_, _, _, rfl, by rw [List.length_drop]; omega, by omega, by omega, ?_⟩
  rcases h5 with ⟨h5, _⟩ | ⟨b', o', h5, hlt, hc⟩
  · cases h5
  · cases h5
    exact .inr ⟨_, _, rfl, hlt, fun i x hi => by rw [List.getElem?_drop] at hi; rw [Nat.add_assoc]; exact hc _ x hi⟩
set_option maxRecDepth 100000 in
set_option maxHeartbeats 2000000 in
theorem further_ok (B b g c : Nat) (s : List Goss.F) (k : Nat) (w : World) (h : Sk w B b g c s) (hl : s.length ≤ 40) (hk : k ≤ s.length) :
    Calls Try.prog 25 #[.pointer (some ⟨b, 0, none⟩), .int .i64 k] w (FurOk (Goss.bytesP (s.drop k)) w) := by
  have hp := h.ptr
  have hcl := h.own.sl.len
  obtain ⟨_, hnc, hcm⟩ := hcl
  unfold maxLen at hcm
  by_cases hkc : c = k
  · have hsl0 := h.own.sl.cut 0 (Nat.zero_le _)
    have hnil : s.drop k = [] := List.drop_eq_nil_of_le (by omega)
    have hsl : Sl w (.slice (some ⟨g, 0, none⟩) 0 0) (s.drop k) := by
      rw [hnil]
      exact ⟨_, _, _, rfl, rfl, Nat.le_refl _, Nat.zero_le _, .inr ⟨g, 0, rfl, h.own.lt.2, fun i x hi => by simp at hi⟩⟩
    have hby := bytes_any _ _ w hsl (by rw [hnil]; simp)
    generalize Goss.bytesP (s.drop k) = R at *
    generalize s.length = n at *
    obtain rfl : n = k := by omega
    obtain rfl : c = n := by omega
    clear h hsl hsl0 hnil
    go_enter Try.func25, Try.ntmps25
    go_wp2_with fail
    refine hby.mono ?_
    rintro e w1 ⟨v, rfl, ho, hb1⟩
    go_wp2
    go_ret2
    exact ⟨_, rfl, ho, hb1⟩
  · have hsl := h.own.sl.rest k hk
    have hby := bytes_any _ _ w hsl (by rw [List.length_drop]; omega)
    rw [Nat.zero_add] at hby
    generalize Goss.bytesP (s.drop k) = R at *
    generalize s.length = n at *
    clear h hsl
    have hd0 : decide ((k : Int) < 0) = false := decide_eq_false (by omega)
    have hd1 : decide ((n : Int) < (k : Int)) = false := decide_eq_false (by omega)
    go_enter Try.func25, Try.ntmps25
    go_wp2_with fail
    refine hby.mono ?_
    rintro e w1 ⟨v, rfl, ho, hb1⟩
    go_wp2
    go_ret2
    exact ⟨_, rfl, ho, hb1⟩
set_option maxRecDepth 100000 in
set_option maxHeartbeats 2000000 in
theorem further_bad (B b g c : Nat) (s : List Goss.F) (k : Int) (w : World) (h : Sk w B b g c s) (hk : ¬ (0 ≤ k ∧ k ≤ s.length)) :
    Calls Try.prog 25 #[.pointer (some ⟨b, 0, none⟩), .int .i64 k] w (Ret (.tuple #[.slice none 0 0, errv 1]) w) := by
  have hp := h.ptr
  generalize s.length = n at *
  clear h
  go_enter Try.func25, Try.ntmps25
  by_cases h0 : k < 0
  · have hd0 : decide ((k : Int) < 0) = true := decide_eq_true h0
    go_wp2
    go_ret2
    exact ⟨rfl, rfl⟩
  · have hd0 : decide ((k : Int) < 0) = false := decide_eq_false h0
    have hd1 : decide ((n : Int) < (k : Int)) = true := decide_eq_true (by omega)
    go_wp2
    go_ret2
    exact ⟨rfl, rfl⟩
set_option maxRecDepth 100000 in
set_option maxHeartbeats 2000000 in
theorem further_nil (k : Int) (w : World) :
    Calls Try.prog 25 #[.pointer none, .int .i64 k] w (Ret (.tuple #[.slice none 0 0, errv 1]) w) := by
  go_enter Try.func25, Try.ntmps25
  go_wp2
  go_ret2
  exact ⟨rfl, rfl⟩
set_option maxRecDepth 100000 in
set_option maxHeartbeats 2000000 in
theorem join_nil (v : Value) (w : World) :
    Calls Try.prog 26 #[.pointer none, v] w (Ret (.tuple #[.pointer none, errv 1]) w) := by
  go_enter Try.func26, Try.ntmps26
  go_wp2
  go_ret2
  exact ⟨rfl, rfl⟩
end Go.Proofs.Ythglbipcfhdoaaa
/- slices.Grow, Concat of two; package sketch: Join. -/
namespace Go.Proofs.Ythglbipcfhdoaaa
open Go.RowKit

set_option maxRecDepth 100000 in
set_option maxHeartbeats 2000000 in
theorem grow_any (n : Nat) (w : World) (hn : n ≤ 1000) :
    Calls Try.prog 70 #[.slice none 0 0, .int .i64 n] w (New [] w) := by
  generalize hB : w.heap.size = B at *
  have HB := Lib.hid hB; clear hB
  have hBw : B ≤ w.heap.size := by rw [HB.out]; exact Nat.le_refl _
  have hd0 : decide ((n : Int) < 0) = false := decide_eq_false (by omega)
  go_enter Try.func70, Try.ntmps70
  by_cases h0 : n = 0
  · subst h0
    go_wp2
    go_ret
    exact ⟨_, rfl, Own.nil _ _, by rw [HB.out]; exact Below.refl _ _⟩
  · have hd1 : decide ((0 : Int) < (n : Int)) = true := decide_eq_true (by omega)
    go_wp2_with (at_builtin; go_must (refine app_zeros rfl _ _ rfl B _ [] rfl (Own.nil _ _) _ n rfl (by simp) (by simp; omega) hBw ?_))
    intro v1 w1 ho1 hg1
    have hb1 : Below B w w1 := (Below.refl _ _).grown hg1 hBw (fun k hk => by cases hk)
    have hlen : (List.replicate n 0#32 : List Goss.F).length = n := by simp
    rcases ho1.shape with ⟨_, e0⟩ | ⟨g, c, rfl, hgB, hg2, hg3, hg4⟩
    · rw [e0] at hlen; simp at hlen; omega
    · rw [hlen] at ho1 hg3 ⊢
      have hcut := ho1.cut 0 (by omega)
      rw [List.take_zero] at hcut
      clear ho1 hlen
      go_wp2
      go_ret
      exact ⟨_, rfl, by rw [HB.out]; exact hcut, by rw [HB.out]; exact hb1⟩
set_option maxRecDepth 100000 in
set_option maxHeartbeats 2000000 in
theorem concat_any (b : Nat) (v1 v2 : Value) (xs ys : List Goss.F) (w : World) (hb : b < w.heap.size) (h1 : Sl w v1 xs) (h2 : Sl w v2 ys) (c1 : w.cell? ⟨b, 0, none⟩ = some v1) (c2 : w.cell? ⟨b, 1, none⟩ = some v2) (hx : xs.length ≤ 400) (hy : ys.length ≤ 400) :
    Calls Try.prog 52 #[.slice (some ⟨b, 0, none⟩) 2 2] w (New (xs ++ ys) w) := by
  generalize hB : w.heap.size = B at *
  have HB := Lib.hid hB; clear hB
  have hBw : B ≤ w.heap.size := by rw [HB.out]; exact Nat.le_refl _
  obtain ⟨p1, k1, rfl⟩ := h1.shape
  obtain ⟨p2, k2, rfl⟩ := h2.shape
  obtain ⟨m1, hm1⟩ : ∃ m, xs.length = m := ⟨_, rfl⟩
  obtain ⟨m2, hm2⟩ : ∃ m, ys.length = m := ⟨_, rfl⟩
  rw [hm1] at c1 h1 hx
  rw [hm2] at c2 h2 hy
  have Hm1 := Lib.hid hm1; clear hm1
  have Hm2 := Lib.hid hm2; clear hm2
  go_enter Try.func52, Try.ntmps52
  go_wp2_with fail
  go_loopw [3, 11] (fun vs vi wr => ∃ (j s : Nat), vi = .int .i64 j ∧ vs = .int .i64 s ∧ w = wr ∧ ((j = 0 ∧ s = 0) ∨ (j = 1 ∧ m1 = s) ∨ (j = 2 ∧ s = m1 + m2))) (fun _ vi _ => 2 - (intOf vi).toNat)
  case atStart => exact ⟨0, 0, rfl, rfl, rfl, .inl ⟨rfl, rfl⟩⟩
  case round =>
    obtain ⟨j, s, rfl, rfl, rfl, hr⟩ := hrel
    rcases hr with ⟨rfl, rfl⟩ | ⟨rfl, rfl⟩ | ⟨rfl, rfl⟩
    · have hd : decide ((m1 : Int) < 0) = false := decide_eq_false (by omega)
      go_wp2
      refine ⟨⟨1, m1, rfl, ?_, by first | rfl | trivial, .inr (.inl ⟨rfl, rfl⟩)⟩, by simp [intOf]⟩
      simp
    · have hd : decide ((m1 : Int) + (m2 : Int) < 0) = false := decide_eq_false (by omega)
      go_wp2
      refine ⟨⟨2, m1 + m2, rfl, ?_, by first | rfl | trivial, .inr (.inr ⟨rfl, rfl⟩)⟩, by simp [intOf]⟩
      simp
    · have hgr := grow_any (m1 + m2) w (by omega)
      generalize m1 + m2 = M at hgr ⊢
      go_wp2_with fail
      refine hgr.mono ?_
      rintro e w3 ⟨v3, rfl, ho3, hb3⟩
      rw [HB.out] at ho3 hb3
      have hz3 := hb3.size
      obtain ⟨p3, k3, rfl⟩ := ho3.sl.shape
      go_wp2_with fail
      go_loopw [6, 27] (fun vo vi wq => ∃ (j : Nat) (out : List Goss.F), vi = .int .i64 j ∧ Own wq B vo out ∧ Below B w wq ∧ ((j = 0 ∧ out = []) ∨ (j = 1 ∧ xs = out) ∨ (j = 2 ∧ out = xs ++ ys))) (fun _ vi _ => 2 - (intOf vi).toNat)
      case atStart => exact ⟨0, [], rfl, ho3, hb3, .inl ⟨rfl, rfl⟩⟩
      case round =>
        clear ho3 hb3 hz3 hgr
        obtain ⟨j, out, rfl, how, hbw, hr⟩ := hrel
        have hB0 : Below w.heap.size w wr := by rw [HB.out]; exact hbw
        have c1' := (hB0.cell (p := ⟨b, 0, none⟩) (by rw [HB.out]; exact hb)).trans c1
        have c2' := (hB0.cell (p := ⟨b, 1, none⟩) (by rw [HB.out]; exact hb)).trans c2
        have h1' := h1.below hB0
        have h2' := h2.below hB0
        have hz := hbw.size
        clear hB0
        rcases hr with ⟨rfl, rfl⟩ | ⟨rfl, rfl⟩ | ⟨rfl, rfl⟩
        · have hsum : ([] : List Goss.F).length + xs.length ≤ 35184372088832 := by rw [Hm1.out]; simp; omega
          go_wp2_with (at_builtin; go_must (refine app_own rfl _ _ rfl B _ [] rfl how _ xs rfl h1' hsum (by omega) ?_))
          intro v4 w4 ho4 hg4 _
          obtain ⟨p4, k4, rfl⟩ := ho4.sl.shape
          go_wp2
          refine ⟨⟨1, xs, rfl, ho4, grown_below hbw how (by omega) hg4, .inr (.inl ⟨rfl, rfl⟩)⟩, by simp [intOf]⟩
        · have hsum : xs.length + ys.length ≤ 35184372088832 := by rw [Hm1.out, Hm2.out]; omega
          go_wp2_with (at_builtin; go_must (refine app_own rfl _ _ rfl B _ xs rfl how _ ys rfl h2' hsum (by omega) ?_))
          intro v4 w4 ho4 hg4 _
          obtain ⟨p4, k4, rfl⟩ := ho4.sl.shape
          go_wp2
          refine ⟨⟨2, xs ++ ys, rfl, ho4, grown_below hbw how (by omega) hg4, .inr (.inr ⟨rfl, rfl⟩)⟩, by simp [intOf]⟩
        · go_wp2
          go_ret
          exact ⟨_, rfl, by rw [HB.out]; exact how, by rw [HB.out]; exact hbw⟩
end Go.Proofs.Ythglbipcfhdoaaa
/- package sketch: Join, With, Empty, Copy. -/
namespace Go.Proofs.Ythglbipcfhdoaaa
open Go.RowKit

set_option maxRecDepth 100000 in
set_option maxHeartbeats 2000000 in
theorem join_odd (b : Nat) (v : Value) (bs : List (BitVec 8)) (w : World) (hv : SlB w v bs) (hl : bs.length ≤ 4000000) (h4 : bs.length % 4 ≠ 0) :
    Calls Try.prog 26 #[.pointer (some ⟨b, 0, none⟩), v] w (Ret (.tuple #[.pointer none, errv 2]) w) := by
  have hs := sums_odd v bs w hv hl h4
  go_enter Try.func26, Try.ntmps26
  go_wp2_with fail
  refine hs.mono ?_
  rintro e w1 ⟨rfl, rfl⟩
  go_wp2
  go_ret2
  exact ⟨rfl, rfl⟩
set_option maxRecDepth 100000 in
set_option maxHeartbeats 2000000 in
theorem join_long (B b g c : Nat) (s : List Goss.F) (v : Value) (bs : List (BitVec 8)) (w : World) (h : Sk w B b g c s) (hv : SlB w v bs) (hl : bs.length ≤ 4000000) (hsl : s.length ≤ 40) (h4 : bs.length % 4 = 0) (hlong : 40 < s.length + bs.length / 4) :
    Calls Try.prog 26 #[.pointer (some ⟨b, 0, none⟩), v] w (Gives (.tuple #[.pointer none, errv 1]) w) := by
  have hs := sums_any v bs w hv hl h4
  rw [← sumsP_length] at hlong
  have hl2 := sumsP_length bs
  have hl3 : (Goss.sumsP bs).length ≤ 1000000 := by omega
  generalize Goss.sumsP bs = R at *
  clear hl2 h4 hl hv
  go_enter Try.func26, Try.ntmps26
  go_wp2_with fail
  refine hs.mono ?_
  rintro e w1 ⟨v1, rfl, ho1, hb1⟩
  obtain ⟨p1, c1, rfl⟩ := ho1.sl.shape
  have hp := (h.below hb1).ptr
  clear ho1 hs h
  generalize R.length = n at *
  generalize s.length = m at *
  have hd : decide ((40 : Int) < (m : Int) + (n : Int)) = true := decide_eq_true (by omega)
  go_wp2
  go_ret2
  exact ⟨rfl, hb1⟩
set_option maxRecDepth 100000 in
set_option maxHeartbeats 2000000 in
theorem join_ok (B0 b g c : Nat) (s : List Goss.F) (v : Value) (bs : List (BitVec 8)) (w : World) (h : Sk w B0 b g c s) (hv : SlB w v bs) (hl : bs.length ≤ 4000000) (h1 : 1 ≤ s.length) (h4 : bs.length % 4 = 0) (hshort : s.length + bs.length / 4 ≤ 40) :
    Calls Try.prog 26 #[.pointer (some ⟨b, 0, none⟩), v] w (ReadOk (s ++ Goss.sumsP bs) w) := by
  have hs := sums_any v bs w hv hl h4
  rw [← sumsP_length] at hshort
  generalize Goss.sumsP bs = R at *
  clear h4 hl hv
  generalize hB : w.heap.size = B at *
  have HB := Lib.hid hB; clear hB
  go_enter Try.func26, Try.ntmps26
  go_wp2_with fail
  refine hs.mono ?_
  rintro e w1 ⟨v1, rfl, ho1, hb1⟩
  obtain ⟨p1, c1, rfl⟩ := ho1.sl.shape
  have hsk1 := h.below hb1
  have hp := hsk1.ptr
  have hsl1 := hsk1.own.sl
  have hr1 := ho1.sl
  clear ho1 hs h hsk1
  obtain ⟨n, hn⟩ : ∃ n, R.length = n := ⟨_, rfl⟩
  obtain ⟨m, hm⟩ : ∃ m, s.length = m := ⟨_, rfl⟩
  have hlen : (s ++ R).length = m + n := by rw [List.length_append, hn, hm]
  rw [hn] at hr1 hshort ⊢
  rw [hm] at hsl1 hp h1 hshort
  have Hm := Lib.hid hm; have Hn := Lib.hid hn; clear hm hn
  have hd : decide ((40 : Int) < (m : Int) + (n : Int)) = false := decide_eq_false (by omega)
  have hbA : Below w1.heap.size w1 (w1.alloc (.cells #[.slice (some ⟨g, 0, none⟩) m c, .slice p1 n c1] 22)) := (Below.refl _ w1).alloc (Nat.le_refl _) _
  have hpc := pair_cells w1 (.slice (some ⟨g, 0, none⟩) m c) (.slice p1 n c1) 22
  have hcc := concat_any w1.heap.size _ _ s R _ (by simp) (hsl1.below hbA) (hr1.below hbA) hpc.1 hpc.2 (by rw [Hm.out]; omega) (by rw [Hn.out]; omega)
  generalize s ++ R = Q at *
  have hbw2 := hb1.trans (hbA.mono hb1.size)
  clear hbA hpc hsl1 hr1
  go_wp2_with fail
  refine hcc.mono ?_
  rintro e w3 ⟨v3, rfl, ho3, hb3⟩
  have hbw3 := hbw2.trans (hb3.mono hbw2.size)
  have ho3' := ho3.mono hbw2.size
  clear ho3
  rw [HB.out] at ho3'
  have hz := hbw3.size
  rcases ho3'.shape with ⟨_, e0⟩ | ⟨g3, c3, rfl, hgB, hg2, hg3, hg4⟩
  · rw [e0] at hlen; simp at hlen; omega
  · have hsk := Sk.fresh ho3' (by have := HB.out; omega)
    have hba := hbw3.alloc (o := .cells #[.slice (some ⟨g3, 0, none⟩) Q.length c3] 73) hz
    generalize hQl : Q.length = ql at *
    have HQl := Lib.hid hQl; clear hQl hlen
    go_wp2
    go_ret2
    exact ⟨_, _, _, rfl, by rw [HB.out]; exact hsk, hba⟩
end Go.Proofs.Ythglbipcfhdoaaa
