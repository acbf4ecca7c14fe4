/- The walk of SketchSums: helpers; what is too large. -/
import Derived.Deep.RegionHeldLaw
import Derived.Deep.DrawnRows
import Derived.Test.YthglbipcfhdoaaaAlive
import Derived.Test.YthglbipcfhdoaaaSk10
import Derived.Test.YthglbipcfhdoaaaRefA
import Derived.Test.YthglbipcfhdoaaaFurM
namespace Go.Proofs.Ythglbipcfhdoaaa
open Go.RowKit

theorem mk_run (n : Nat) (hn : n ≤ 35184372088832) (w : World) :
    (Instr.makeSlice 22 (.int .i64 (n : Int)) (.int .i64 (n : Int))).run Try.prog w = .ok (.slice (some ⟨w.heap.size, 0, none⟩) n n) (w.alloc (.cells ((List.replicate n 0#32).map enc).toArray 55)) := by
  obtain ⟨i0, hi, hz0, hz1, hz2⟩ := info_parts infoU
  have hr := run_make (P := Try.prog) w 22 55 i0 (.int .u32 0) Try.underlying22 hi hz0 .i64 .i64 n n (by omega) (Int.le_refl _) (by rw [hz2]; omega) (by omega)
  simp only [Int.toNat_natCast] at hr
  have e : madeCells (Value.int .u32 0).cells n = ((List.replicate n 0#32).map enc).toArray := by
    apply Array.toList_inj.1
    rw [List.map_replicate]
    exact toList_madeCells_one _ n
  rw [hr, hz1, Nat.mul_one, e]
theorem mk_made (n : Nat) (hn : n ≤ 35184372088832) (w : World) : Sl (w.alloc (.cells ((List.replicate n 0#32).map enc).toArray 55)) (.slice (some ⟨w.heap.size, 0, none⟩) n n) (List.replicate n 0#32) := by
  have := (Own.made w w.heap.size (List.replicate n 0#32) (Nat.le_refl _) (by unfold maxLen; rw [List.length_replicate]; omega)).sl
  rw [List.length_replicate] at this
  exact this
theorem empty_eq (s : List Goss.F) : (!decide (∃ x ∈ s, x ≠ 0#32)) = decide (s = List.replicate s.length 0#32) := by
  rw [Bool.eq_iff_iff, decide_eq_true_iff]
  simp only [Bool.not_eq_true', decide_eq_false_iff_not]
  rw [List.eq_replicate_iff]
  constructor
  · intro h
    refine ⟨rfl, fun b hb => ?_⟩
    apply Classical.byContradiction
    intro hne
    exact h ⟨b, hb, hne⟩
  · rintro ⟨_, h⟩ ⟨x, hx, hne⟩
    exact hne (h x hx)
set_option maxRecDepth 100000 in
set_option maxHeartbeats 2000000 in
theorem sums_big (k : Int) (v : Value) (xs : List Goss.F) (vb : Value) (bs : List (BitVec 8)) (w : World) (h : Sl w v xs) (hb : SlB w vb bs) (hn : ¬ (xs.length ≤ 20 ∧ bs.length ≤ 400)) :
    Calls Try.prog 5 #[.int .i64 k, v, vb] w (Gives (.bool true) w) := by
  obtain ⟨p, c, rfl⟩ := h.shape
  obtain ⟨pb, cb, rfl⟩ := hb.shape
  clear h hb
  generalize xs.length = n at *
  generalize bs.length = m at *
  have hal := alive_any w
  by_cases h1 : 20 < n
  · have hd1 : decide ((20 : Int) < (n : Int)) = true := decide_eq_true (by omega)
    go_enter Try.func5, Try.ntmps5
    go_wp2_with fail
    refine hal.mono ?_
    rintro e w1 ⟨rfl, hb1⟩
    go_wp2
    go_ret
    exact ⟨rfl, hb1⟩
  · have hd1 : decide ((20 : Int) < (n : Int)) = false := decide_eq_false (by omega)
    have hd2 : decide ((400 : Int) < (m : Int)) = true := decide_eq_true (by omega)
    go_enter Try.func5, Try.ntmps5
    go_wp2_with fail
    refine hal.mono ?_
    rintro e w1 ⟨rfl, hb1⟩
    go_wp2
    go_ret
    exact ⟨rfl, hb1⟩
end Go.Proofs.Ythglbipcfhdoaaa
