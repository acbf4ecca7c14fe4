/- package sketch: New, Capacity, powers. -/
import Derived.Test.YthglbipcfhdoaaaSk3
namespace Go.Proofs.Ythglbipcfhdoaaa
open Go.RowKit

def NewEnd (s : List Goss.F) (w : World) (e : Ending) (w' : World) : Prop :=
  ∃ b g c, e = .returned (.tuple #[.pointer (some ⟨b, 0, none⟩), .nilIface]) ∧ Sk w' w.heap.size b g c s ∧ Below w.heap.size w w'
set_option maxRecDepth 100000 in
set_option maxHeartbeats 1000000 in
theorem new_range (cap : Int) (v : Value) (w : World) (h : ¬ (1 ≤ cap ∧ cap ≤ 40)) :
    Calls Try.prog 11 #[.int .i64 cap, v] w (Ret (.tuple #[.pointer none, errv 1]) w) := by
  go_enter Try.func11, Try.ntmps11
  by_cases h1 : cap < 1
  · have hd : decide (cap < 1) = true := decide_eq_true h1
    go_wp2
    go_ret2
    exact ⟨rfl, rfl⟩
  · have hd : decide (cap < 1) = false := decide_eq_false h1
    have hd2 : decide ((40 : Int) < cap) = true := decide_eq_true (by omega)
    go_wp2
    go_ret2
    exact ⟨rfl, rfl⟩
theorem Sk.fresh {w : World} {B g c : Nat} {s : List Goss.F} (h : Own w B (.slice (some ⟨g, 0, none⟩) s.length c) s) (hB : B ≤ w.heap.size) :
    Sk (w.alloc (.cells #[.slice (some ⟨g, 0, none⟩) s.length c] 73)) B w.heap.size g c s := by
  refine ⟨?_, hB, by simp, h.below ((Below.refl _ _).alloc (Nat.le_refl _) _), ?_⟩
  · rw [cell_of_row (w.alloc _) w.heap.size 0 _ _ (0, 0) (heap_alloc_new w _)]; rfl
  · have := h.lt.2; omega
set_option maxRecDepth 100000 in
set_option maxHeartbeats 1000000 in
theorem new_zero (cap : Int) (v : Value) (ids : List Goss.F) (w : World) (h : 1 ≤ cap ∧ cap ≤ 40) (hi : Sl w v ids) (h0 : 0#32 ∈ ids) :
    Calls Try.prog 11 #[.int .i64 cap, v] w (Gives (.tuple #[.pointer none, errv 1]) w) := by
  obtain ⟨n, rfl⟩ : ∃ n : Nat, cap = (n : Int) := ⟨cap.toNat, by omega⟩
  have hd : decide ((n : Int) < 1) = false := decide_eq_false (by omega)
  have hd2 : decide ((40 : Int) < (n : Int)) = false := decide_eq_false (by omega)
  have hl63 := hi.len'
  generalize hB : w.heap.size = B at *
  have HB := Lib.hid hB; clear hB
  have hBw : B ≤ w.heap.size := by rw [HB.out]; exact Nat.le_refl _
  go_enter Try.func11, Try.ntmps11
  go_wp2_with (at_make; refine mk_own rfl _ _ rfl B .i64 .i64 _ _ n rfl rfl rfl rfl (by omega) hBw ?_)
  intro w1 ho1 hg1
  have hb1 : Below w.heap.size w w1 := (Below.refl _ _).grown hg1 (Nat.le_refl _) (fun k hk => by cases hk)
  have hi1 := hi.below hb1
  have hsk : Sk (w1.alloc (.cells #[.slice (some ⟨w.heap.size, 0, none⟩) n n] 73)) B w1.heap.size w.heap.size n (List.replicate n 0#32) := by
    have := Sk.fresh (s := List.replicate n 0#32) (by rw [List.length_replicate]; exact ho1) (by rw [← HB.out]; exact hb1.size)
    rw [List.length_replicate] at this
    exact this
  have hi2 := hi1.below ((Below.refl _ w1).alloc (o := .cells #[.slice (some ⟨w.heap.size, 0, none⟩) n n] 73) (Nat.le_refl _))
  have hbA : Below B w (w1.alloc (.cells #[.slice (some ⟨w.heap.size, 0, none⟩) n n] 73)) := (hb1.mono hBw).alloc (by have := hb1.size; omega) _
  go_wp2_with fail
  refine (put_zero w1.heap.size v ids _ hi2 h0).mono ?_
  rintro e w3 ⟨rfl, rfl⟩
  go_wp2
  go_ret2
  exact ⟨rfl, hbA.mono (by rw [HB.out]; exact Nat.le_refl _)⟩
set_option maxRecDepth 100000 in
set_option maxHeartbeats 1000000 in
theorem new_ok (n : Nat) (v : Value) (ids : List Goss.F) (w : World) (h1 : 1 ≤ n) (h40 : n ≤ 40) (hi : Sl w v ids) (h0 : 0#32 ∉ ids) :
    Calls Try.prog 11 #[.int .i64 n, v] w (NewEnd (Goss.newS n ids) w) := by
  have hd : decide ((n : Int) < 1) = false := decide_eq_false (by omega)
  have hd2 : decide ((40 : Int) < (n : Int)) = false := decide_eq_false (by omega)
  have hl63 := hi.len'
  have hvb := hi.blkLt
  generalize hB : w.heap.size = B at *
  have HB := Lib.hid hB; clear hB
  have hBw : B ≤ w.heap.size := by rw [HB.out]; exact Nat.le_refl _
  go_enter Try.func11, Try.ntmps11
  go_wp2_with (at_make; refine mk_own rfl _ _ rfl B .i64 .i64 _ _ n rfl rfl rfl rfl (by omega) hBw ?_)
  intro w1 ho1 hg1
  have hb1 : Below w.heap.size w w1 := (Below.refl _ _).grown hg1 (Nat.le_refl _) (fun k hk => by cases hk)
  have hi1 := hi.below hb1
  have hsk : Sk (w1.alloc (.cells #[.slice (some ⟨w.heap.size, 0, none⟩) n n] 73)) B w1.heap.size w.heap.size n (List.replicate n 0#32) := by
    have := Sk.fresh (s := List.replicate n 0#32) (by rw [List.length_replicate]; exact ho1) (by rw [← HB.out]; exact hb1.size)
    rw [List.length_replicate] at this
    exact this
  have hi2 := hi1.below ((Below.refl _ w1).alloc (o := .cells #[.slice (some ⟨w.heap.size, 0, none⟩) n n] 73) (Nat.le_refl _))
  have hbA : Below B w (w1.alloc (.cells #[.slice (some ⟨w.heap.size, 0, none⟩) n n] 73)) := (hb1.mono hBw).alloc (by have := hb1.size; omega) _
  have hput := put_ok B w1.heap.size w.heap.size n _ v ids _ hsk hi2 (fun k hk => by have := hvb k hk; have := HB.out; omega) h0
  have hzA := hbA.size
  change Calls _ _ _ _ (SkPutEnd B w1.heap.size w.heap.size n (Goss.newS n ids) _) at hput
  generalize Goss.newS n ids = R at *
  have Hput := Lib.hid hput; clear hput
  go_wp2_with fail
  refine Hput.out.mono ?_
  rintro e w3 ⟨rfl, hs3, hg3⟩
  have hb3 := hbA.grown hg3 (Nat.le_trans hBw hzA) (fun k hk => by cases hk; exact hBw)
  go_wp2
  go_ret2
  exact ⟨_, _, _, rfl, by rw [HB.out]; exact hs3, by rw [HB.out]; exact hb3⟩

set_option maxRecDepth 100000 in
theorem capacity_any (B b g c : Nat) (s : List Goss.F) (w : World) (h : Sk w B b g c s) :
    Calls Try.prog 13 #[.pointer (some ⟨b, 0, none⟩)] w (Ret (.int .i64 (s.length : Int)) w) := by
  have hp := h.ptr
  go_enter Try.func13, Try.ntmps13
  go_wp2
  go_ret
  exact ⟨rfl, rfl⟩
set_option maxRecDepth 100000 in
theorem capacity_nil (w : World) :
    Calls Try.prog 13 #[.pointer none] w (Ret (.int .i64 0) w) := by
  go_enter Try.func13, Try.ntmps13
  go_wp2
  go_ret
  exact ⟨rfl, rfl⟩

/-- The powers under way. -/
def PowTo (s cur : List Goss.F) (N j : Nat) : Prop := cur = Goss.powersTo s j ++ List.replicate (N - j) 0#32
theorem PowTo.start (s : List Goss.F) (N : Nat) : PowTo s (List.replicate N 0#32) N 0 := by simp [PowTo, Goss.powersTo]
theorem PowTo.step {s cur : List Goss.F} {N j : Nat} (h : PowTo s cur N j) (hj : j < N) (x : Goss.F)
    (hx : x = if j % 2 = 0 then (s[j / 2]?).getD 0#32 else Goss.sq (((Goss.powersTo s j)[j / 2]?).getD 0#32)) : PowTo s (cur.set j x) N (j + 1) := by
  unfold PowTo at h ⊢
  subst h
  have hl := Goss.powersTo_length s j
  rw [List.set_append_right _ _ (by omega), hl, Nat.sub_self, show N - j = (N - (j + 1)) + 1 from by omega, List.replicate_succ, List.set_cons_zero, Goss.powersTo, ← hx]
  simp
theorem PowTo.at {s cur : List Goss.F} {N j k : Nat} (h : PowTo s cur N j) (hk : k < j) : cur[k]? = (Goss.powersTo s j)[k]? := by
  unfold PowTo at h
  subst h
  have hl := Goss.powersTo_length s j
  rw [List.getElem?_append_left (by omega)]

set_option maxRecDepth 100000 in
set_option maxHeartbeats 2000000 in
theorem powers_any (B0 b g0 c0 : Nat) (s : List Goss.F) (w : World) (h : Sk w B0 b g0 c0 s) (hl : s.length ≤ 1000) :
    Calls Try.prog 36 #[.pointer (some ⟨b, 0, none⟩)] w (New (Goss.powersP s) w) := by
  have hb0 := h.lt
  have hg0 := h.own.lt.2
  generalize hB : w.heap.size = B at *
  have HB := Lib.hid hB; clear hB
  have hBw : B ≤ w.heap.size := by rw [HB.out]; exact Nat.le_refl _
  obtain ⟨m, hm⟩ : ∃ m, s.length = m := ⟨_, rfl⟩
  rw [hm] at hl
  have hptr := h.ptr
  rw [hm] at hptr
  obtain ⟨N, hN⟩ : ∃ N, 2 * m = N := ⟨_, rfl⟩
  have HR : Hid (Goss.powersTo s N = Goss.powersP s) := by show _ = _; rw [Goss.powersP, hm, hN]
  generalize Goss.powersP s = R at *
  have Hm := Lib.hid hm; clear hm
  have eN : IntKind.i64.wrap (2 * (m : Int)) = (N : Int) := by rw [IntWalk.i64_in _ (by omega)]; omega
  go_enter Try.func36, Try.ntmps36
  go_wp2_with (at_make; refine mk_own rfl _ _ rfl B .i64 .i64 _ _ N rfl rfl (by omega) (by omega) (by omega) hBw ?_)
  intro w1 ho1 hg1
  have hb1 : Below B w w1 := (Below.refl _ _).grown hg1 hBw (fun k hk => by cases hk)
  have hX : w.heap.size = B := HB.out
  rw [hX] at ho1
  rw [hX]
  clear hg1
  go_wp2_with fail
  go_loopw [14] (fun vi wr => ∃ (j : Nat) (cur : List Goss.F), j ≤ N ∧ vi = .int .i64 j ∧ Hid (PowTo s cur N j) ∧ Own wr B (.slice (some ⟨B, 0, none⟩) N N) cur ∧ Below B w wr) (fun vi _ => N - (intOf vi).toNat)
  case atStart => exact ⟨0, _, by omega, rfl, PowTo.start s N, ho1, hb1⟩
  case round =>
    clear ho1 hb1
    obtain ⟨j, cur, hj, rfl, hx, how, hbw⟩ := hrel
    have hskr : Sk wr B0 b g0 c0 s := h.below (by rw [HB.out]; exact hbw)
    have hptr' := hskr.ptr
    rw [Hm.out] at hptr'
    by_cases hlt : j < N
    · have hlti : (j : Int) < N := by omega
      have hj20 : (0 : Int) ≤ (j : Int) / 2 := by omega
      have hj2m : (j : Int) / 2 < (m : Int) := by omega
      have hj2n : (j : Int) / 2 < (N : Int) := by omega
      have hj2 : ((j : Int) / 2).toNat = j / 2 := by omega
      obtain ⟨z, hz0, hzc, hzf⟩ := how.read (k := j) (by omega)
      clear hz0
      by_cases hev : j % 2 = 0
      · have he : ((j : Int).tmod 2 == 0) = true := by rw [Int.tmod_eq_emod_of_nonneg (by omega), beq_iff_eq]; omega
        have hskr' := hskr.own
        rw [Hm.out] at hskr'
        obtain ⟨x, hx0, hxc, hxf⟩ := hskr'.read (k := j / 2) (by omega)
        have hx1 := hx.out.step hlt x (by rw [if_pos hev, hx0]; rfl)
        have Hx1 := Lib.hid hx1; clear hx1 hx0
        have how2 := how.stored j x
        have hbw2 := hbw.setCell (p := ⟨B, j, none⟩) (Nat.le_refl _) (.int .u32 x.toNat)
        clear h hskr
        go_wp2
        go_roundw
        case rel => exact ⟨j + 1, _, by omega, by first | rfl | go_num, Hx1, how2, hbw2⟩
        case measure => first | omega | (simp [intOf]; done) | (simp [intOf]; omega)
      · have he : ((j : Int).tmod 2 == 0) = false := by rw [Int.tmod_eq_emod_of_nonneg (by omega), beq_eq_false_iff_ne]; omega
        obtain ⟨x, hx0, hxc, hxf⟩ := how.read (k := j / 2) (by omega)
        have hx1 := hx.out.step hlt (Goss.sq x) (by rw [if_neg hev, ← hx.out.at (by omega), hx0]; rfl)
        have hsq := square_any x wr
        generalize Goss.sq x = y at *
        have Hx1 := Lib.hid hx1; clear hx1 hx0
        have how2 := how.stored j y
        have hbw2 := hbw.setCell (p := ⟨B, j, none⟩) (Nat.le_refl _) (.int .u32 y.toNat)
        clear h hskr
        go_wp2_with fail
        refine hsq.mono ?_
        rintro e w3 ⟨rfl, rfl⟩
        go_wp2
        go_roundw
        case rel => exact ⟨j + 1, _, by omega, by first | rfl | go_num, Hx1, how2, hbw2⟩
        case measure => first | omega | (simp [intOf]; done) | (simp [intOf]; omega)
    · obtain rfl : j = N := by omega
      go_wp2
      go_ret
      have e1 := hx.out
      unfold PowTo at e1
      rw [Nat.sub_self, List.replicate_zero, List.append_nil, HR.out] at e1
      refine ⟨_, rfl, ?_, by rw [HB.out]; exact hbw⟩
      rw [HB.out, ← e1]
      exact how
end Go.Proofs.Ythglbipcfhdoaaa
