/- slices.Sort at up to twelve elements: the insertion sort. -/
import Derived.Test.YthglbipcfhdoaaaPolyA
import Derived.Test.YthglbipcfhdoaaaSortM
import Derived.BigQuiet
import Derived.Deep.QuietTactic
namespace Go.Proofs.Ythglbipcfhdoaaa
open Go.RowKit

set_option maxRecDepth 100000 in
theorem isNaN_any (x : Goss.F) (w : World) : Calls Try.prog 142 #[.int .u32 x.toNat] w (Ret (.bool false) w) := by
  go_enter Try.func142, Try.ntmps142
  go_wp2
  go_ret
  exact ⟨by simp, rfl⟩
set_option maxRecDepth 100000 in
theorem less_any (x y : Goss.F) (w : World) : Calls Try.prog 128 #[.int .u32 x.toNat, .int .u32 y.toNat] w (Ret (.bool (decide (x.toNat < y.toNat))) w) := by
  go_enter Try.func128, Try.ntmps128
  go_wp2_with (go_at_call 142; refine (isNaN_any _ _).mono ?_; rintro e w' ⟨rfl, rfl⟩)
  go_ret
  exact ⟨by simp, rfl⟩

theorem grown_drewN (w : World) (n : Nat) (row : Option Nat) : w.grownBy (w.drewN n) row := ⟨rfl, rfl, rfl, Nat.le_refl _, fun _ _ _ => rfl⟩
def SortEnd (g n c B : Nat) (zs : List Goss.F) (w : World) (e : Ending) (w' : World) : Prop :=
  e = .returned (.tuple #[]) ∧ Own w' B (.slice (some ⟨g, 0, none⟩) n c) zs ∧ w.grownBy w' (some g)

set_option maxRecDepth 100000 in
set_option maxHeartbeats 2000000 in
theorem insertion_any (B g n c : Nat) (xs : List Goss.F) (w : World) (h : Own w B (.slice (some ⟨g, 0, none⟩) n c) xs) (h12 : n ≤ 35184372088832) :
    Calls Try.prog 122 #[.slice (some ⟨g, 0, none⟩) n c, .int .i64 0, .int .i64 n] w (SortEnd g n c B (Goss.sortF xs) w) := by
  have hnl := h.sl.len.1
  obtain ⟨R, hR⟩ : ∃ R, Goss.sortF xs = R := ⟨_, rfl⟩
  rw [hR]
  have HR := Lib.hid hR; clear hR
  have Hnl := Lib.hid hnl; clear hnl
  go_enter Try.func122, Try.ntmps122
  go_wp2_with fail
  go_loopw [6] (fun vi wr => ∃ (i : Nat) (cur : List Goss.F), 1 ≤ i ∧ i ≤ n + 1 ∧ vi = .int .i64 i ∧ Hid (Goss.InsTo xs cur i) ∧ Own wr B (.slice (some ⟨g, 0, none⟩) n c) cur ∧ w.grownBy wr (some g)) (fun vi _ => n - (intOf vi).toNat)
  case atStart => exact ⟨1, xs, by omega, by omega, rfl, Goss.InsTo.start xs, h, grown_refl _ _⟩
  case round =>
    obtain ⟨i, cur, hi1, hin, rfl, hx, how, hgr⟩ := hrel
    by_cases hlt : i < n
    · have hdec : decide ((i : Int) < (n : Int)) = true := decide_eq_true (by omega)
      go_wp2_with fail
      go_loopw [7] (fun vj ws => ∃ (j : Nat) (now : List Goss.F), j ≤ i ∧ vj = .int .i64 j ∧ Hid (Goss.SinkTo xs now i j) ∧ Own ws B (.slice (some ⟨g, 0, none⟩) n c) now ∧ w.grownBy ws (some g)) (fun vj _ => (intOf vj).toNat)
      case atStart => exact ⟨i, cur, Nat.le_refl _, rfl, hx.out.sink, how, hgr⟩
      case round =>
        clear how hgr hx
        obtain ⟨j, now, hji, rfl, hx, how, hgr⟩ := hrel
        by_cases hj0 : j = 0
        · subst hj0
          have hd0 : decide ((0 : Int) < ((0 : Nat) : Int)) = false := by decide
          have hx1 : Hid (Goss.InsTo xs now (i + 1)) := hx.out.done0
          clear hx
          go_wp2
          go_quiet (fail)
          go_wp2
          go_roundw
          case rel => exact ⟨i + 1, now, by omega, by omega, rfl, hx1, how, hgr.trans' ⟨rfl, rfl, rfl, Nat.le_refl _, fun _ _ _ => rfl⟩⟩
          case measure => first | omega | (simp [intOf]; done) | (simp [intOf]; omega)
        · obtain ⟨x, hx0, hxc, hxf⟩ := how.read (k := j) (by omega)
          obtain ⟨y, hy0, hyc, hyf⟩ := how.read (k := j - 1) (by omega)
          have hd0 : decide (0 < j) = true := decide_eq_true (by omega)
          have hjn : (j : Int) < (n : Int) := by omega
          have hj1 : (0 : Int) ≤ (j : Int) - 1 := by omega
          have hj2 : (j : Int) - 1 < (n : Int) := by omega
          have hj3 : ((j : Int) - 1).toNat = j - 1 := by omega
          have hj4 : IntKind.i64.wrap ((j : Int) - 1) = (j : Int) - 1 := IntWalk.i64_in _ (by omega)
          have Hx0 := Lib.hid hx0; have Hy0 := Lib.hid hy0; clear hx0 hy0
          by_cases hlt2 : x.toNat < y.toNat
          · have hdl : decide (x.toNat < y.toNat) = true := decide_eq_true hlt2
            have hx1 : Hid (Goss.SinkTo xs ((now.set j y).set (j - 1) x) i (j - 1)) := by
              obtain ⟨k, rfl⟩ : ∃ k, j = k + 1 := ⟨j - 1, by omega⟩
              exact hx.out.step Hx0.out Hy0.out hlt2
            clear hx
            go_wp2
            go_quiet ((go_at_call 128; refine Calls.quiet_of_same ((less_any _ _ _).mono fun _ _ h => ⟨h.1, h.2.symm⟩)))
            go_wp2
            have how2 : Own (wr.drewN nq) B (.slice (some ⟨g, 0, none⟩) n c) now := how.below ((Below.refl _ _).drewN nq)
            have hgr2 : w.grownBy (wr.drewN nq) (some g) := hgr.trans' (grown_drewN _ _ _)
            generalize wr.drewN nq = ws at *
            clear how hgr hxc hyc hxf hyf
            obtain ⟨x', hx0', hxc, hxf⟩ := how2.read (k := j) (by omega)
            obtain ⟨y', hy0', hyc, hyf⟩ := how2.read (k := j - 1) (by omega)
            have ex : x' = x := by have := Hx0.out; rw [hx0'] at this; exact Option.some.inj this
            have ey : y' = y := by have := Hy0.out; rw [hy0'] at this; exact Option.some.inj this
            subst ex; subst ey
            clear hx0' hy0'
            have how3 := (how2.stored j y').stored (j - 1) x'
            have hgr3 := (hgr2.trans' (grown_store ws g j (.int .u32 y'.toNat))).trans' (grown_store _ g (j - 1) (.int .u32 x'.toNat))
            have hne : j ≠ j - 1 := by omega
            go_region
            go_wp2
            go_roundw
            case rel => exact ⟨j - 1, _, by omega, by congr 1; omega, hx1, how3, hgr3.trans' (grown_drew _ _)⟩
            case measure => simp only [intOf]; omega
          · have hdl : decide (x.toNat < y.toNat) = false := decide_eq_false hlt2
            have hx1 : Hid (Goss.InsTo xs now (i + 1)) := by
              obtain ⟨k, rfl⟩ : ∃ k, j = k + 1 := ⟨j - 1, by omega⟩
              exact hx.out.done Hx0.out Hy0.out hlt2
            clear hx
            go_wp2
            go_quiet ((go_at_call 128; refine Calls.quiet_of_same ((less_any _ _ _).mono fun _ _ h => ⟨h.1, h.2.symm⟩)))
            go_wp2
            go_roundw
            case rel => exact ⟨i + 1, now, by omega, by omega, rfl, hx1, how, hgr.trans' ⟨rfl, rfl, rfl, Nat.le_refl _, fun _ _ _ => rfl⟩⟩
            case measure => first | omega | (simp [intOf]; done) | (simp [intOf]; omega)
    · have hdec : decide ((i : Int) < (n : Int)) = false := decide_eq_false (by omega)
      go_wp2
      go_end0
      rw [← HR.out, ← hx.out.done (by have := Hnl.out; omega)]
      exact ⟨rfl, how, hgr⟩
end Go.Proofs.Ythglbipcfhdoaaa
/- slices.Sort at up to twelve elements: bits.Len, pdqsortOrdered. -/
namespace Go.Proofs.Ythglbipcfhdoaaa
open Go.RowKit

def SomeInt (w : World) (e : Ending) (w' : World) : Prop := (∃ k : Int, e = .returned (.int .i64 k)) ∧ w = w'
set_option maxRecDepth 100000 in
set_option maxHeartbeats 4000000 in
theorem len64_small (n : Nat) (w : World) (h : n < 13) : Calls Try.prog 132 #[.int .u64 n] w (SomeInt w) := by
  go_enter Try.func132, Try.ntmps132
  match n, h with
  | 0, _ | 1, _ | 2, _ | 3, _ | 4, _ | 5, _ | 6, _ | 7, _ | 8, _ | 9, _ | 10, _ | 11, _ | 12, _ =>
    go_wp2
    go_ret
    exact ⟨⟨_, rfl⟩, rfl⟩
set_option maxRecDepth 100000 in
theorem len_small (n : Nat) (w : World) (h : n < 13) : Calls Try.prog 115 #[.int .u64 n] w (SomeInt w) := by
  go_enter Try.func115, Try.ntmps115
  go_wp2_with fail
  refine (len64_small n _ h).mono ?_
  rintro e w' ⟨⟨k, rfl⟩, rfl⟩
  go_wp2
  go_ret
  exact ⟨⟨_, rfl⟩, rfl⟩
set_option maxRecDepth 100000 in
set_option maxHeartbeats 2000000 in
theorem pdq_small (B g n c : Nat) (xs : List Goss.F) (k : Int) (w : World) (h : Own w B (.slice (some ⟨g, 0, none⟩) n c) xs) (h12 : n ≤ 12) :
    Calls Try.prog 114 #[.slice (some ⟨g, 0, none⟩) n c, .int .i64 0, .int .i64 n, .int .i64 k] w (SortEnd g n c B (Goss.sortF xs) w) := by
  have hins := insertion_any B g n c xs w h (by omega)
  have hdec : decide ((n : Int) ≤ 12) = true := decide_eq_true (by omega)
  go_enter Try.func114, Try.ntmps114
  go_wp2_with fail
  go_loopw [1, 2, 3] (fun v1 v2 v3 wr => v1 = .int .i64 0 ∧ v2 = .int .i64 n ∧ v3 = .int .i64 k ∧ wr = w) (fun _ _ _ _ => 0)
  case atStart => exact ⟨rfl, rfl, rfl, rfl⟩
  case round =>
    obtain ⟨rfl, rfl, rfl, rfl⟩ := hrel
    go_wp2_with fail
    refine hins.mono ?_
    rintro e w' ⟨rfl, ho, hg⟩
    go_wp2
    go_end0
    exact ⟨rfl, ho, hg⟩
set_option maxRecDepth 100000 in
theorem sort_small (B g n c : Nat) (xs : List Goss.F) (w : World) (h : Own w B (.slice (some ⟨g, 0, none⟩) n c) xs) (h12 : n ≤ 12) :
    Calls Try.prog 96 #[.slice (some ⟨g, 0, none⟩) n c] w (SortEnd g n c B (Goss.sortF xs) w) := by
  go_enter Try.func96, Try.ntmps96
  go_wp2_with fail
  refine (len_small n _ (by omega)).mono ?_
  rintro e w' ⟨⟨k, rfl⟩, rfl⟩
  go_wp2_with fail
  refine (pdq_small B g n c xs k w h h12).mono ?_
  rintro e w' ⟨rfl, ho, hg⟩
  go_wp2
  go_end0
  exact ⟨rfl, ho, hg⟩
set_option maxRecDepth 100000 in
set_option maxHeartbeats 2000000 in
theorem insertion_none (w : World) : Calls Try.prog 122 #[.slice none 0 0, .int .i64 0, .int .i64 0] w (Ret (.tuple #[]) w) := by
  go_enter Try.func122, Try.ntmps122
  go_wp2_with fail
  go_loopw [6] (fun vi wr => vi = .int .i64 1 ∧ wr = w) (fun _ _ => 0)
  case atStart => exact ⟨rfl, rfl⟩
  case round =>
    obtain ⟨rfl, rfl⟩ := hrel
    go_wp2
    go_end0
    exact ⟨rfl, rfl⟩
set_option maxRecDepth 100000 in
set_option maxHeartbeats 2000000 in
theorem pdq_none (k : Int) (w : World) : Calls Try.prog 114 #[.slice none 0 0, .int .i64 0, .int .i64 0, .int .i64 k] w (Ret (.tuple #[]) w) := by
  go_enter Try.func114, Try.ntmps114
  go_wp2_with fail
  go_loopw [1, 2, 3] (fun v1 v2 v3 wr => v1 = .int .i64 0 ∧ v2 = .int .i64 0 ∧ v3 = .int .i64 k ∧ wr = w) (fun _ _ _ _ => 0)
  case atStart => exact ⟨rfl, rfl, rfl, rfl⟩
  case round =>
    obtain ⟨rfl, rfl, rfl, rfl⟩ := hrel
    go_wp2_with fail
    refine (insertion_none _).mono ?_
    rintro e w' ⟨rfl, rfl⟩
    go_wp2
    go_end0
    exact ⟨rfl, rfl⟩
set_option maxRecDepth 100000 in
theorem sort_none (w : World) : Calls Try.prog 96 #[.slice none 0 0] w (Ret (.tuple #[]) w) := by
  have hlen := len_small 0 w (by omega)
  go_enter Try.func96, Try.ntmps96
  go_wp2_with fail
  refine hlen.mono ?_
  rintro e w' ⟨⟨k, rfl⟩, rfl⟩
  go_wp2_with fail
  refine (pdq_none k w).mono ?_
  rintro e w' ⟨rfl, rfl⟩
  go_wp2
  go_end0
  exact ⟨rfl, rfl⟩
end Go.Proofs.Ythglbipcfhdoaaa
