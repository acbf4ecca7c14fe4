/- Package gf: what each function answers. -/
import Derived.Test.YthglbipcfhdoaaaProg
import Derived.Test.YthglbipcfhdoaaaBits
import Derived.StillTailTactics
import Derived.Deep.QuietTactic
import Derived.BigQuiet
import Derived.Deep.DeepCutAuto
namespace Go.Proofs.Ythglbipcfhdoaaa
open Go.RowKit

set_option maxHeartbeats 400000 in
theorem shift_any (a : Goss.F) (w : World) :
    Calls Try.prog 100 #[.int .u32 a.toNat] w (Ret (.int .u32 (Goss.shift a).toNat) w) := by
  have h := top_test a
  have hs : Goss.shift a = if a.getLsbD 31 then (a <<< 1) ^^^ 0x8d#32 else a <<< 1 := rfl
  have Hs := Lib.hid hs; clear hs
  cases hb : a.getLsbD 31
  all_goals
    rw [hb] at h
    have Hb := Lib.hid hb; clear hb
    go_enter Try.func100, Try.ntmps100
    go_wp2
    go_ret
    refine ⟨ret_int ?_, rfl⟩
    rw [Hs.out, Hb.out]
    first | exact u32_shl1 a | (rw [if_pos rfl, ← low_eq, ← u32_shl1])

set_option maxHeartbeats 400000 in
theorem mul_any (a b : Goss.F) (w : World) :
    Calls Try.prog 79 #[.int .u32 a.toNat, .int .u32 b.toNat] w (Ret (.int .u32 (Goss.mul a b).toNat) w) := by
  go_enter Try.func79, Try.ntmps79
  go_wp2
  go_loop [5, 6] (fun o i => ∃ (k : Nat) (x : Goss.F), k ≤ 32 ∧ i = .int .i64 ((k : Int) - 1) ∧ o = .int .u32 x.toNat ∧ Hid (Goss.mulLoop a b k x = Goss.mul a b)) (fun _ i => (intOf i + 1).toNat)
  case atStart => exact ⟨32, 0#32, by omega, rfl, rfl, rfl⟩
  case round =>
    obtain ⟨k, x, hk, rfl, rfl, hx⟩ := hrel
    rcases Nat.eq_zero_or_pos k with rfl | hpos
    · go_wp2
      go_ret
      exact ⟨ret_u hx.out, rfl⟩
    · obtain ⟨k, rfl⟩ : ∃ j, k = j + 1 := ⟨k - 1, by omega⟩
      have ht := bit_test b k
      have hxo := u32_xor (Goss.shift x) a
      cases hb : b.getLsbD k
      all_goals
        rw [hb] at ht
        have Hb := Lib.hid hb; clear hb
        go_wp2_with (go_at_call 100; refine (shift_any _ _).mono ?_; rintro e w' ⟨rfl, rfl⟩)
        go_round
        case rel => exact ⟨k, _, by omega, by first | rfl | go_num, rfl, by have h1 := hx.out; rw [Goss.mulLoop, Hb.out] at h1; exact h1⟩
        case measure => first | omega | (simp [intOf]; done) | (simp [intOf]; omega)

set_option maxHeartbeats 400000 in
theorem square_any (a : Goss.F) (w : World) :
    Calls Try.prog 61 #[.int .u32 a.toNat] w (Ret (.int .u32 (Goss.sq a).toNat) w) := by
  go_enter Try.func61, Try.ntmps61
  go_wp2_with (go_at_call 79; refine (mul_any _ _ _).mono ?_; rintro e w' ⟨rfl, rfl⟩)
  go_ret
  exact ⟨rfl, rfl⟩

theorem u64_and1 (n : Nat) (h : n < 18446744073709551616) : bits .and .u64 (n : Int) 1 = ((n % 2 : Nat) : Int) := by
  show IntKind.u64.wrap ((BitVec.ofInt 64 (n : Int) &&& BitVec.ofInt 64 1).toNat : Int) = _
  rw [BitVec.ofInt_natCast, BitVec.toNat_and, BitVec.toNat_ofNat, Nat.mod_eq_of_lt (by omega)]
  have : (BitVec.ofInt 64 1).toNat = 1 := by decide
  rw [this, Nat.and_one_is_mod, IntKind.wrap_u64]
  omega

theorem powLoop_zero (k : Nat) (a out : Goss.F) : Goss.powLoop k a 0 out = out := by cases k <;> rfl

set_option maxHeartbeats 400000 in
theorem power_any (a : Goss.F) (n : Nat) (w : World) (hn : n < 18446744073709551616) :
    Calls Try.prog 133 #[.int .u32 a.toNat, .int .u64 n] w (Ret (.int .u32 (Goss.pow a n).toNat) w) := by
  have Hn := Lib.hid hn; clear hn
  go_enter Try.func133, Try.ntmps133
  go_wp2
  go_loop [0, 1, 5] (fun va vn vo => ∃ (k m : Nat) (x o : Goss.F), Hid (m < 2 ^ k) ∧ Hid (k ≤ 64) ∧ va = .int .u32 x.toNat ∧ vn = .int .u64 (m : Int) ∧ vo = .int .u32 o.toNat ∧ Hid (Goss.powLoop k x m o = Goss.pow a n)) (fun _ vn _ => (intOf vn).toNat)
  case atStart => exact ⟨64, n, a, 1#32, Hn, by show 64 ≤ 64; omega, rfl, rfl, rfl, rfl⟩
  case round =>
    obtain ⟨k, m, x, o, hm, hk, rfl, rfl, rfl, hx⟩ := hrel
    rcases Nat.eq_zero_or_pos m with rfl | hpos
    · go_wp2
      go_ret
      exact ⟨ret_u (by rw [← hx.out, powLoop_zero]), rfl⟩
    · have hm' : m < 18446744073709551616 := Nat.lt_of_lt_of_le hm.out (Nat.pow_le_pow_right (by omega) hk.out)
      have ha := u64_and1 m hm'
      obtain ⟨k, rfl⟩ : ∃ j, k = j + 1 := ⟨k - 1, by rcases Nat.eq_zero_or_pos k with h0 | h0; (have := hm.out; rw [h0] at this; omega); omega⟩
      have hgt : decide ((0 : Int) < (m : Int)) = true := by simp; omega
      have hnew : Hid (m / 2 < 2 ^ k) := by show m / 2 < 2 ^ k; have := hm.out; rw [Nat.pow_succ] at this; omega
      have hk' : Hid (k ≤ 64) := by show k ≤ 64; have := hk.out; omega
      have Hm := Lib.hid hm'; clear hm'
      rcases Nat.mod_two_eq_zero_or_one m with h2 | h2
      all_goals
        have ht : (((m % 2 : Nat) : Int) == 1) = decide (m % 2 = 1) := by rw [h2]; rfl
        have H2 := Lib.hid h2
        rw [show decide (m % 2 = 1) = _ from by rw [h2]] at ht
        simp only [h2] at ha
        clear h2 ht
        go_wp2_with (first | (go_at_call 61; refine (square_any _ _).mono ?_; rintro e w' ⟨rfl, rfl⟩) | (go_at_call 79; refine (mul_any _ _ _).mono ?_; rintro e w' ⟨rfl, rfl⟩))
        go_round
        case rel => exact ⟨k, m / 2, _, _, hnew, hk', rfl, by first | rfl | go_num, rfl, by have h1 := hx.out; rw [Goss.powLoop, if_neg (by omega), H2.out] at h1; exact h1⟩
        case measure => first | omega | (simp [intOf]; done) | (simp [intOf]; omega)

set_option maxHeartbeats 400000 in
theorem inverse_any (a : Goss.F) (w : World) :
    Calls Try.prog 116 #[.int .u32 a.toNat] w (Ret (.int .u32 (Goss.inv a).toNat) w) := by
  go_enter Try.func116, Try.ntmps116
  go_wp2_with (go_at_call 133; refine (power_any _ 4294967294 _ (by omega)).mono ?_; rintro e w' ⟨rfl, rfl⟩)
  go_ret
  exact ⟨rfl, rfl⟩
end Go.Proofs.Ythglbipcfhdoaaa
