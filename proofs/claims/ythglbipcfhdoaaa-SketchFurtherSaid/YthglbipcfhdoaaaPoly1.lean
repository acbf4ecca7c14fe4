/- Package poly, first part: Degree, cut, Trim; slices.Clone. -/
import Derived.Test.YthglbipcfhdoaaaBy
namespace Go.Proofs.Ythglbipcfhdoaaa
open Go.RowKit

theorem tlen_le (a : List Goss.F) (n : Nat) : Goss.tlen a n ≤ n := by
  induction n with
  | zero => exact Nat.le_refl _
  | succ n ih => unfold Goss.tlen; split <;> omega

theorem tlen_succ (a : List Goss.F) (n : Nat) : Goss.tlen a (n + 1) = if a[n]? = some 0#32 then Goss.tlen a n else n + 1 := rfl

theorem zero_test (x : Goss.F) : (((x.toNat : Int)) == 0) = decide (x = 0#32) := by
  by_cases h : x = 0#32
  · subst h; rfl
  · rw [decide_eq_false h]
    have : x.toNat ≠ 0 := fun e => h (BitVec.eq_of_toNat_eq (by simpa using e))
    rw [beq_eq_false_iff_ne]; omega

set_option maxRecDepth 100000 in
set_option maxHeartbeats 400000 in
theorem degree_any (v : Value) (xs : List Goss.F) (w : World) (h : Sl w v xs) :
    Calls Try.prog 63 #[v] w (Gives (.int .i64 ((Goss.tlen xs xs.length : Int) - 1)) w) := by
  obtain ⟨p, c, rfl⟩ := h.shape
  have hl := h.len
  have hm : xs.length ≤ 9223372036854775807 := by unfold maxLen at hl; omega
  generalize hn : xs.length = n at *
  have Hn := Lib.hid hn; clear hn hl
  go_enter Try.func63, Try.ntmps63
  go_wp2
  go_loopw [3] (fun i wr => ∃ k : Nat, k ≤ n ∧ i = .int .i64 ((k : Int) - 1) ∧ Hid (Goss.tlen xs k = Goss.tlen xs n) ∧ Below w.heap.size w wr) (fun i _ => (intOf i + 1).toNat)
  case atStart => exact ⟨n, Nat.le_refl _, rfl, rfl, Below.refl _ _⟩
  case round =>
    obtain ⟨k, hk, rfl, hx, hb⟩ := hrel
    rcases Nat.eq_zero_or_pos k with rfl | hpos
    · have hge : decide ((0 : Int) ≤ ((0 : Nat) : Int) - 1) = false := by decide
      go_wp2
      go_ret
      exact ⟨ret_int (by rw [← hx.out]; rfl), hb⟩
    · obtain ⟨k, rfl⟩ : ∃ j, k = j + 1 := ⟨k - 1, by omega⟩
      obtain ⟨b, o, x, rfl, hx0, hc⟩ := (h.below hb).read (k := k) (by omega)
      have hz := zero_test x
      have hge : decide ((0 : Int) ≤ ((k + 1 : Nat) : Int) - 1) = true := decide_eq_true (by omega)
      have hlt : ((k : Int)) < n := by omega
      cases hd : decide (x = 0#32)
      all_goals
        rw [hd] at hz
        have Hd := Lib.hid hd; clear hd
        have Hx0 := Lib.hid hx0; clear hx0
        go_wp2
      · go_ret
        refine ⟨ret_int ?_, hb⟩
        rw [← hx.out]
        have : x ≠ 0#32 := of_decide_eq_false Hd.out
        rw [tlen_succ, Hx0.out, if_neg (by simpa using this)]
      · go_roundw
        case rel =>
          refine ⟨k, by omega, by first | rfl | go_num, ?_, hb⟩
          have h1 := hx.out
          rw [tlen_succ, Hx0.out, if_pos (by rw [of_decide_eq_true Hd.out])] at h1
          exact h1
        case measure => first | omega | (simp [intOf]; done) | (simp [intOf]; omega)

set_option maxHeartbeats 400000 in
theorem cut_any (p : Option Addr) (n c : Nat) (xs : List Goss.F) (w : World) (h : Sl w (.slice p n c) xs) :
    Calls Try.prog 121 #[.slice p n c] w (Gives (.slice p (Goss.tlen xs xs.length) c) w) := by
  have hl := h.len
  have ht := tlen_le xs xs.length
  have hm : c ≤ 9223372036854775807 := by unfold maxLen at hl; omega
  have hD := degree_any _ xs w h
  generalize htn : Goss.tlen xs xs.length = t at *
  have Ht := Lib.hid htn; clear htn
  have htc : t ≤ c := by omega
  clear hl ht
  go_enter Try.func121, Try.ntmps121
  go_wp2_with fail
  refine hD.mono ?_
  rintro e w1 ⟨rfl, hb⟩
  go_wp2
  go_ret
  exact ⟨rfl, hb⟩
end Go.Proofs.Ythglbipcfhdoaaa
