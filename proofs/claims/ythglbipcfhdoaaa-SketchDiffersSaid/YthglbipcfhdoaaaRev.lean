/- slices.Reverse in place; slices.Equal, Index, Contains at elements. -/
import Derived.Test.YthglbipcfhdoaaaPolyA
namespace Go.Proofs.Ythglbipcfhdoaaa
open Go.RowKit

/-- The first i and the last i have changed places. -/
def RevTo (xs cur : List Goss.F) (i : Nat) : Prop :=
  cur.length = xs.length ∧ ∀ k, k < xs.length → cur[k]? = if k < i ∨ xs.length ≤ k + i then xs[xs.length - 1 - k]? else xs[k]?
theorem RevTo.start (xs : List Goss.F) : RevTo xs xs 0 := by
  refine ⟨rfl, fun k hk => ?_⟩
  rw [if_neg (by omega)]
theorem RevTo.step {xs cur : List Goss.F} {i : Nat} {x y : Goss.F} (h : RevTo xs cur i) (hi : 2 * i + 1 < xs.length) (hx : cur[i]? = some x) (hy : cur[xs.length - 1 - i]? = some y) :
    RevTo xs ((cur.set i y).set (xs.length - 1 - i) x) (i + 1) := by
  obtain ⟨hl, h2⟩ := h
  refine ⟨by simp [hl], fun k hk => ?_⟩
  rw [h2 i (by omega), if_neg (by omega)] at hx
  rw [h2 _ (by omega), if_neg (by omega)] at hy
  rw [List.getElem?_set, List.getElem?_set]
  by_cases e1 : xs.length - 1 - i = k
  · have : xs.length - 1 - k = i := by omega
    rw [if_pos e1, if_pos (by simp; omega), if_pos (by omega), this, hx]
  · rw [if_neg e1]
    by_cases e2 : i = k
    · subst e2
      rw [if_pos rfl, if_pos (by omega), if_pos (by omega), hy]
    · rw [if_neg e2, h2 k hk]
      by_cases e3 : k < i ∨ xs.length ≤ k + i
      · rw [if_pos e3, if_pos (by omega)]
      · rw [if_neg e3, if_neg (by omega)]
theorem RevTo.done {xs cur : List Goss.F} {i : Nat} (h : RevTo xs cur i) (hi : xs.length ≤ 2 * i + 1) : cur = xs.reverse := by
  obtain ⟨hl, h2⟩ := h
  apply List.ext_getElem?
  intro k
  by_cases hk : k < xs.length
  · rw [h2 k hk, List.getElem?_reverse hk]
    split
    · rfl
    · congr 1; omega
  · rw [List.getElem?_eq_none (by omega), List.getElem?_eq_none (by simp; omega)]

def RevEnd (g n c B : Nat) (zs : List Goss.F) (w : World) (e : Ending) (w' : World) : Prop :=
  e = .returned (.tuple #[]) ∧ Own w' B (.slice (some ⟨g, 0, none⟩) n c) zs ∧ w.grownBy w' (some g)

set_option maxRecDepth 100000 in
set_option maxHeartbeats 2000000 in
theorem reverse_any (B g n c : Nat) (xs : List Goss.F) (w : World) (h : Own w B (.slice (some ⟨g, 0, none⟩) n c) xs) (hn1 : 1 ≤ n) (hbig : n ≤ 35184372088832) :
    Calls Try.prog 37 #[.slice (some ⟨g, 0, none⟩) n c] w (RevEnd g n c B xs.reverse w) := by
  have hnl := h.sl.len.1
  obtain ⟨R, hR⟩ : ∃ R, xs.reverse = R := ⟨_, rfl⟩
  rw [hR]
  have HR := Lib.hid hR; clear hR
  have Hnl := Lib.hid hnl; clear hnl
  go_enter Try.func37, Try.ntmps37
  go_wp2_with fail
  go_loopw [2, 3] (fun vi vj wr => ∃ (i : Nat) (cur : List Goss.F), 2 * i ≤ n + 1 ∧ i ≤ n ∧ vi = .int .i64 i ∧ vj = .int .i64 ((n : Int) - 1 - i) ∧ Hid (RevTo xs cur i) ∧ Own wr B (.slice (some ⟨g, 0, none⟩) n c) cur ∧ w.grownBy wr (some g)) (fun vi _ _ => n - (intOf vi).toNat)
  case atStart => exact ⟨0, xs, by omega, by omega, rfl, by first | rfl | (congr 1; omega), RevTo.start xs, h, grown_refl _ _⟩
  case round =>
    obtain ⟨i, cur, hi2, hin, rfl, rfl, hx, how, hgr⟩ := hrel
    by_cases hlt : 2 * i + 1 < n
    · obtain ⟨x, hx0, hxc, hxf⟩ := how.read (k := i) (by omega)
      obtain ⟨y, hy0, hyc, hyf⟩ := how.read (k := n - 1 - i) (by omega)
      have hlti : (i : Int) < (n : Int) - 1 - i := by omega
      have hin' : (i : Int) < n := by omega
      have hj0 : (0 : Int) ≤ (n : Int) - 1 - i := by omega
      have hj1 : (n : Int) - 1 - i < n := by omega
      have hj2 : ((n : Int) - 1 - (i : Int)).toNat = n - 1 - i := by omega
      have hdec : decide ((i : Int) < (n : Int) - 1 - i) = true := decide_eq_true hlti
      have hne : i ≠ n - 1 - i := by omega
      have Hx0 := Lib.hid hx0; have Hy0 := Lib.hid hy0; clear hx0 hy0
      go_wp2_with fail
      go_region
      go_wp2
      go_roundw
      case rel =>
        refine ⟨i + 1, (cur.set i y).set (n - 1 - i) x, by omega, by omega, rfl, ?_, ?_, ?_, ?_⟩
        · congr 1; omega
        · show RevTo _ _ _
          have hn := Hnl.out
          have := Hy0.out
          rw [hn] at this
          have := hx.out.step (by omega) Hx0.out this
          rw [← hn] at this
          exact this
        · exact (how.stored i y).stored (n - 1 - i) x
        · exact (((hgr.trans' (grown_store _ _ _ _)).trans' (grown_store _ _ _ _)).trans' (grown_drew _ _))
      case measure => first | omega | (simp [intOf]; done) | (simp [intOf]; omega)
    · have hdec : decide ((i : Int) < (n : Int) - 1 - i) = false := decide_eq_false (by omega)
      go_wp2
      go_end0
      have h1 := RevTo.done hx.out (by have := Hnl.out; omega)
      rw [← HR.out, ← h1]
      exact ⟨rfl, how, hgr⟩
end Go.Proofs.Ythglbipcfhdoaaa
