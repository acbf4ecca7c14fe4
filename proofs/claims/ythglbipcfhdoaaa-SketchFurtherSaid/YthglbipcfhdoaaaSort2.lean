/- slices.Sort at up to twelve elements: bits.Len, pdqsortOrdered. -/
import Derived.Test.YthglbipcfhdoaaaSort
namespace Go.Proofs.Ythglbipcfhdoaaa
open Go.RowKit

def SomeInt (w : World) (e : Ending) (w' : World) : Prop := (∃ k : Int, e = .returned (.int .i64 k)) ∧ w = w'
set_option maxRecDepth 100000 in
set_option maxHeartbeats 4000000 in
theorem len64_small (n : Nat) (w : World) (h : n < 13) : Calls Try.prog 132 #[.int .u64 n] w (SomeInt w) := by
  go_enter Try.func132, Try.ntmps132
  match n, h with
  | 0, _ | 1, _ | 2, _ | 3, _ | 4, _ | 5, _ | 6, _ | 7, _ | 8, _ | 9, _ | 10, _ | 11, _ | 12, _ =>
    go_wp2
    go_ret
    exact ⟨⟨_, rfl⟩, rfl⟩
set_option maxRecDepth 100000 in
theorem len_small (n : Nat) (w : World) (h : n < 13) : Calls Try.prog 115 #[.int .u64 n] w (SomeInt w) := by
  go_enter Try.func115, Try.ntmps115
  go_wp2_with fail
  refine (len64_small n _ h).mono ?_
  rintro e w' ⟨⟨k, rfl⟩, rfl⟩
  go_wp2
  go_ret
  exact ⟨⟨_, rfl⟩, rfl⟩
set_option maxRecDepth 100000 in
set_option maxHeartbeats 2000000 in
theorem pdq_small (B g n c : Nat) (xs : List Goss.F) (k : Int) (w : World) (h : Own w B (.slice (some ⟨g, 0, none⟩) n c) xs) (h12 : n ≤ 12) :
    Calls Try.prog 114 #[.slice (some ⟨g, 0, none⟩) n c, .int .i64 0, .int .i64 n, .int .i64 k] w (SortEnd g n c B (Goss.sortF xs) w) := by
  have hins := insertion_any B g n c xs w h (by omega)
  have hdec : decide ((n : Int) ≤ 12) = true := decide_eq_true (by omega)
  go_enter Try.func114, Try.ntmps114
  go_wp2_with fail
  go_loopw [1, 2, 3] (fun v1 v2 v3 wr => v1 = .int .i64 0 ∧ v2 = .int .i64 n ∧ v3 = .int .i64 k ∧ wr = w) (fun _ _ _ _ => 0)
  case atStart => exact ⟨rfl, rfl, rfl, rfl⟩
  case round =>
    obtain ⟨rfl, rfl, rfl, rfl⟩ := hrel
    go_wp2_with fail
    refine hins.mono ?_
    rintro e w' ⟨rfl, ho, hg⟩
    go_wp2
    go_end0
    exact ⟨rfl, ho, hg⟩
set_option maxRecDepth 100000 in
theorem sort_small (B g n c : Nat) (xs : List Goss.F) (w : World) (h : Own w B (.slice (some ⟨g, 0, none⟩) n c) xs) (h12 : n ≤ 12) :
    Calls Try.prog 96 #[.slice (some ⟨g, 0, none⟩) n c] w (SortEnd g n c B (Goss.sortF xs) w) := by
  go_enter Try.func96, Try.ntmps96
  go_wp2_with fail
  refine (len_small n _ (by omega)).mono ?_
  rintro e w' ⟨⟨k, rfl⟩, rfl⟩
  go_wp2_with fail
  refine (pdq_small B g n c xs k w h h12).mono ?_
  rintro e w' ⟨rfl, ho, hg⟩
  go_wp2
  go_end0
  exact ⟨rfl, ho, hg⟩
set_option maxRecDepth 100000 in
set_option maxHeartbeats 2000000 in
theorem insertion_none (w : World) : Calls Try.prog 122 #[.slice none 0 0, .int .i64 0, .int .i64 0] w (Ret (.tuple #[]) w) := by
  go_enter Try.func122, Try.ntmps122
  go_wp2_with fail
  go_loopw [6] (fun vi wr => vi = .int .i64 1 ∧ wr = w) (fun _ _ => 0)
  case atStart => exact ⟨rfl, rfl⟩
  case round =>
    obtain ⟨rfl, rfl⟩ := hrel
    go_wp2
    go_end0
    exact ⟨rfl, rfl⟩
set_option maxRecDepth 100000 in
set_option maxHeartbeats 2000000 in
theorem pdq_none (k : Int) (w : World) : Calls Try.prog 114 #[.slice none 0 0, .int .i64 0, .int .i64 0, .int .i64 k] w (Ret (.tuple #[]) w) := by
  go_enter Try.func114, Try.ntmps114
  go_wp2_with fail
  go_loopw [1, 2, 3] (fun v1 v2 v3 wr => v1 = .int .i64 0 ∧ v2 = .int .i64 0 ∧ v3 = .int .i64 k ∧ wr = w) (fun _ _ _ _ => 0)
  case atStart => exact ⟨rfl, rfl, rfl, rfl⟩
  case round =>
    obtain ⟨rfl, rfl, rfl, rfl⟩ := hrel
    go_wp2_with fail
    refine (insertion_none _).mono ?_
    rintro e w' ⟨rfl, rfl⟩
    go_wp2
    go_end0
    exact ⟨rfl, rfl⟩
set_option maxRecDepth 100000 in
theorem sort_none (w : World) : Calls Try.prog 96 #[.slice none 0 0] w (Ret (.tuple #[]) w) := by
  have hlen := len_small 0 w (by omega)
  go_enter Try.func96, Try.ntmps96
  go_wp2_with fail
  refine hlen.mono ?_
  rintro e w' ⟨⟨k, rfl⟩, rfl⟩
  go_wp2_with fail
  refine (pdq_none k w).mono ?_
  rintro e w' ⟨rfl, rfl⟩
  go_wp2
  go_end0
  exact ⟨rfl, rfl⟩
end Go.Proofs.Ythglbipcfhdoaaa
