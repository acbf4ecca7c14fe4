/- package sketch: Join, With, Empty, Copy. -/
import Derived.Test.YthglbipcfhdoaaaSk8
import Derived.Test.YthglbipcfhdoaaaRoots2
namespace Go.Proofs.Ythglbipcfhdoaaa
open Go.RowKit

set_option maxRecDepth 100000 in
set_option maxHeartbeats 2000000 in
theorem join_odd (b : Nat) (v : Value) (bs : List (BitVec 8)) (w : World) (hv : SlB w v bs) (hl : bs.length ≤ 4000000) (h4 : bs.length % 4 ≠ 0) :
    Calls Try.prog 26 #[.pointer (some ⟨b, 0, none⟩), v] w (Ret (.tuple #[.pointer none, errv 2]) w) := by
  have hs := sums_odd v bs w hv hl h4
  go_enter Try.func26, Try.ntmps26
  go_wp2_with fail
  refine hs.mono ?_
  rintro e w1 ⟨rfl, rfl⟩
  go_wp2
  go_ret2
  exact ⟨rfl, rfl⟩
set_option maxRecDepth 100000 in
set_option maxHeartbeats 2000000 in
theorem join_long (B b g c : Nat) (s : List Goss.F) (v : Value) (bs : List (BitVec 8)) (w : World) (h : Sk w B b g c s) (hv : SlB w v bs) (hl : bs.length ≤ 4000000) (hsl : s.length ≤ 40) (h4 : bs.length % 4 = 0) (hlong : 40 < s.length + bs.length / 4) :
    Calls Try.prog 26 #[.pointer (some ⟨b, 0, none⟩), v] w (Gives (.tuple #[.pointer none, errv 1]) w) := by
  have hs := sums_any v bs w hv hl h4
  rw [← sumsP_length] at hlong
  have hl2 := sumsP_length bs
  have hl3 : (Goss.sumsP bs).length ≤ 1000000 := by omega
  generalize Goss.sumsP bs = R at *
  clear hl2 h4 hl hv
  go_enter Try.func26, Try.ntmps26
  go_wp2_with fail
  refine hs.mono ?_
  rintro e w1 ⟨v1, rfl, ho1, hb1⟩
  obtain ⟨p1, c1, rfl⟩ := ho1.sl.shape
  have hp := (h.below hb1).ptr
  clear ho1 hs h
  generalize R.length = n at *
  generalize s.length = m at *
  have hd : decide ((40 : Int) < (m : Int) + (n : Int)) = true := decide_eq_true (by omega)
  go_wp2
  go_ret2
  exact ⟨rfl, hb1⟩
set_option maxRecDepth 100000 in
set_option maxHeartbeats 2000000 in
theorem join_ok (B0 b g c : Nat) (s : List Goss.F) (v : Value) (bs : List (BitVec 8)) (w : World) (h : Sk w B0 b g c s) (hv : SlB w v bs) (hl : bs.length ≤ 4000000) (h1 : 1 ≤ s.length) (h4 : bs.length % 4 = 0) (hshort : s.length + bs.length / 4 ≤ 40) :
    Calls Try.prog 26 #[.pointer (some ⟨b, 0, none⟩), v] w (ReadOk (s ++ Goss.sumsP bs) w) := by
  have hs := sums_any v bs w hv hl h4
  rw [← sumsP_length] at hshort
  generalize Goss.sumsP bs = R at *
  clear h4 hl hv
  generalize hB : w.heap.size = B at *
  have HB := Lib.hid hB; clear hB
  go_enter Try.func26, Try.ntmps26
  go_wp2_with fail
  refine hs.mono ?_
  rintro e w1 ⟨v1, rfl, ho1, hb1⟩
  obtain ⟨p1, c1, rfl⟩ := ho1.sl.shape
  have hsk1 := h.below hb1
  have hp := hsk1.ptr
  have hsl1 := hsk1.own.sl
  have hr1 := ho1.sl
  clear ho1 hs h hsk1
  obtain ⟨n, hn⟩ : ∃ n, R.length = n := ⟨_, rfl⟩
  obtain ⟨m, hm⟩ : ∃ m, s.length = m := ⟨_, rfl⟩
  have hlen : (s ++ R).length = m + n := by rw [List.length_append, hn, hm]
  rw [hn] at hr1 hshort ⊢
  rw [hm] at hsl1 hp h1 hshort
  have Hm := Lib.hid hm; have Hn := Lib.hid hn; clear hm hn
  have hd : decide ((40 : Int) < (m : Int) + (n : Int)) = false := decide_eq_false (by omega)
  have hbA : Below w1.heap.size w1 (w1.alloc (.cells #[.slice (some ⟨g, 0, none⟩) m c, .slice p1 n c1] 22)) := (Below.refl _ w1).alloc (Nat.le_refl _) _
  have hpc := pair_cells w1 (.slice (some ⟨g, 0, none⟩) m c) (.slice p1 n c1) 22
  have hcc := concat_any w1.heap.size _ _ s R _ (by simp) (hsl1.below hbA) (hr1.below hbA) hpc.1 hpc.2 (by rw [Hm.out]; omega) (by rw [Hn.out]; omega)
  generalize s ++ R = Q at *
  have hbw2 := hb1.trans (hbA.mono hb1.size)
  clear hbA hpc hsl1 hr1
  go_wp2_with fail
  refine hcc.mono ?_
  rintro e w3 ⟨v3, rfl, ho3, hb3⟩
  have hbw3 := hbw2.trans (hb3.mono hbw2.size)
  have ho3' := ho3.mono hbw2.size
  clear ho3
  rw [HB.out] at ho3'
  have hz := hbw3.size
  rcases ho3'.shape with ⟨_, e0⟩ | ⟨g3, c3, rfl, hgB, hg2, hg3, hg4⟩
  · rw [e0] at hlen; simp at hlen; omega
  · have hsk := Sk.fresh ho3' (by have := HB.out; omega)
    have hba := hbw3.alloc (o := .cells #[.slice (some ⟨g3, 0, none⟩) Q.length c3] 73) hz
    generalize hQl : Q.length = ql at *
    have HQl := Lib.hid hQl; clear hQl hlen
    go_wp2
    go_ret2
    exact ⟨_, _, _, rfl, by rw [HB.out]; exact hsk, hba⟩
end Go.Proofs.Ythglbipcfhdoaaa
