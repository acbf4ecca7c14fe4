/- The walk of SketchPuts: helpers; what isn't looked at. -/
import Derived.Test.YthglbipcfhdoaaaSk11
import Derived.Test.YthglbipcfhdoaaaPutM
namespace Go.Proofs.Ythglbipcfhdoaaa
open Go.RowKit

theorem empty_zeros (k : Nat) : (!decide (∃ x ∈ List.replicate k 0#32, x ≠ 0#32)) = true := by
  rw [empty_eq, List.length_replicate]
  exact decide_eq_true rfl
/-- What reads as a list stays so while other blocks are written. -/
theorem Sl.grownB {w w' : World} {v : Value} {xs : List Goss.F} (h : Sl w v xs) {row : Option Nat} (hg : w.grownBy w' row) (hne : ∀ k, v.ownBlock = some k → some k ≠ row) : Sl w' v xs :=
  h.grown hg fun b o n c e => by subst e; exact hne b rfl
theorem Sk.grown {w w' : World} {B b g c : Nat} {s : List Goss.F} (h : Sk w B b g c s) {r : Nat} (hg : w.grownBy w' (some r)) (hb : b ≠ r) (hr : g ≠ r) : Sk w' B b g c s := by
  have hlt := h.lt
  refine ⟨?_, h.low, Nat.lt_of_lt_of_le h.lt hg.size, World.ownsRow.kept h.own hg ?_, h.ne⟩
  · rw [World.cell?_of_block (w := w) (a := ⟨b, 0, none⟩) (hg.block b hlt (by simp [hb]))]
    exact h.ptr
  · refine .inr fun e => ?_
    simp [Value.ownBlock] at e
    exact hr e
set_option maxRecDepth 100000 in
set_option maxHeartbeats 4000000 in
theorem puts_big (k : Int) (v : Value) (xs : List Goss.F) (vb : Value) (bs : List Goss.F) (w : World) (h : Sl w v xs) (hb : Sl w vb bs) (hn : ¬ (xs.length ≤ 20 ∧ bs.length ≤ 20 ∧ 1 ≤ k ∧ k ≤ 40 ∧ 0#32 ∉ xs)) :
    Calls Try.prog 7 #[.int .i64 k, v, vb] w (Gives (.bool true) w) := by
  obtain ⟨p, c, rfl⟩ := h.shape
  obtain ⟨pb, cb, rfl⟩ := hb.shape
  clear hb
  have hal := alive_any w
  generalize bs.length = m at *
  by_cases h1 : 20 < xs.length
  · generalize xs.length = n at *
    have hd1 : decide ((20 : Int) < (n : Int)) = true := decide_eq_true (by omega)
    go_enter Try.func7, Try.ntmps7
    go_wp2_with fail
    refine hal.mono ?_
    rintro e w1 ⟨rfl, hb1⟩
    go_wp2
    go_ret
    exact ⟨rfl, hb1⟩
  by_cases h2 : 20 < m
  · generalize xs.length = n at *
    have hd1 : decide ((20 : Int) < (n : Int)) = false := decide_eq_false (by omega)
    have hd2 : decide ((20 : Int) < (m : Int)) = true := decide_eq_true (by omega)
    go_enter Try.func7, Try.ntmps7
    go_wp2_with fail
    refine hal.mono ?_
    rintro e w1 ⟨rfl, hb1⟩
    go_wp2
    go_ret
    exact ⟨rfl, hb1⟩
  by_cases h3 : k < 1
  · generalize xs.length = n at *
    have hd1 : decide ((20 : Int) < (n : Int)) = false := decide_eq_false (by omega)
    have hd2 : decide ((20 : Int) < (m : Int)) = false := decide_eq_false (by omega)
    have hd3 : decide (k < 1) = true := decide_eq_true h3
    go_enter Try.func7, Try.ntmps7
    go_wp2_with fail
    refine hal.mono ?_
    rintro e w1 ⟨rfl, hb1⟩
    go_wp2
    go_ret
    exact ⟨rfl, hb1⟩
  by_cases h4 : 40 < k
  · generalize xs.length = n at *
    have hd1 : decide ((20 : Int) < (n : Int)) = false := decide_eq_false (by omega)
    have hd2 : decide ((20 : Int) < (m : Int)) = false := decide_eq_false (by omega)
    have hd3 : decide (k < 1) = false := decide_eq_false h3
    have hd4 : decide (40 < k) = true := decide_eq_true h4
    go_enter Try.func7, Try.ntmps7
    go_wp2_with fail
    refine hal.mono ?_
    rintro e w1 ⟨rfl, hb1⟩
    go_wp2
    go_ret
    exact ⟨rfl, hb1⟩
  have hz : 0#32 ∈ xs := by
    apply Classical.byContradiction
    intro hz
    exact hn ⟨by omega, by omega, by omega, by omega, hz⟩
  have hd1 : decide ((20 : Int) < (xs.length : Int)) = false := decide_eq_false (by omega)
  have hd2 : decide ((20 : Int) < (m : Int)) = false := decide_eq_false (by omega)
  have hd3 : decide (k < 1) = false := decide_eq_false h3
  have hd4 : decide (40 < k) = false := decide_eq_false h4
  have hnn := fun W (hW : Below w.heap.size w W) => none_any _ xs W (h.below hW)
  rw [decide_eq_true hz] at hnn
  generalize xs.length = n at *
  clear hz h1 h2 h3 h4 hn h
  go_enter Try.func7, Try.ntmps7
  go_wp2_with fail
  refine hal.mono ?_
  rintro e w1 ⟨rfl, hb1⟩
  have hn1 := hnn w1 hb1
  clear hnn
  go_wp2_with fail
  refine hn1.mono ?_
  rintro e w2 ⟨rfl, rfl⟩
  go_wp2
  go_ret
  exact ⟨rfl, hb1⟩
end Go.Proofs.Ythglbipcfhdoaaa
