/- The walk of SketchFurther: what is too large. -/
import Derived.Deep.RegionHeldLaw
import Derived.Deep.DrawnRows
import Derived.Test.YthglbipcfhdoaaaAlive
import Derived.Test.YthglbipcfhdoaaaSk9
import Derived.Test.YthglbipcfhdoaaaFurM
namespace Go.Proofs.Ythglbipcfhdoaaa
open Go.RowKit

set_option maxRecDepth 100000 in
set_option maxHeartbeats 2000000 in
theorem fur_big (v : Value) (xs : List Goss.F) (k : Int) (vb : Value) (bs : List (BitVec 8)) (w : World) (h : Sl w v xs) (hb : SlB w vb bs) (hn : ¬ (1 ≤ xs.length ∧ xs.length ≤ 40 ∧ bs.length ≤ 300)) :
    Calls Try.prog 6 #[v, .int .i64 k, vb] w (Gives (.bool true) w) := by
  obtain ⟨p, c, rfl⟩ := h.shape
  obtain ⟨pb, cb, rfl⟩ := hb.shape
  clear h hb
  generalize xs.length = n at *
  generalize bs.length = m at *
  have hal := alive_any w
  go_enter Try.func6, Try.ntmps6
  go_wp2_with fail
  refine hal.mono ?_
  rintro e w1 ⟨rfl, hb1⟩
  by_cases h1 : n < 1
  · have hd1 : decide ((n : Int) < 1) = true := decide_eq_true (by omega)
    go_wp2
    go_ret
    exact ⟨rfl, hb1⟩
  · have hd1 : decide ((n : Int) < 1) = false := decide_eq_false (by omega)
    by_cases h2 : 40 < n
    · have hd2 : decide ((40 : Int) < (n : Int)) = true := decide_eq_true (by omega)
      go_wp2
      go_ret
      exact ⟨rfl, hb1⟩
    · have hd2 : decide ((40 : Int) < (n : Int)) = false := decide_eq_false (by omega)
      have hd3 : decide ((300 : Int) < (m : Int)) = true := decide_eq_true (by omega)
      go_wp2
      go_ret
      exact ⟨rfl, hb1⟩

end Go.Proofs.Ythglbipcfhdoaaa
