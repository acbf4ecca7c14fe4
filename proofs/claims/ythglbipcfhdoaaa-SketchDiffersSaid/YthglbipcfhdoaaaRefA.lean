/- gossamerref01: rest, Mul, Power. -/
import Derived.Test.YthglbipcfhdoaaaRefM
import Derived.Test.YthglbipcfhdoaaaGf
import Derived.Test.YthglbipcfhdoaaaApp2
import Derived.Test.YthglbipcfhdoaaaSk1
namespace Go.Proofs.Ythglbipcfhdoaaa
open Go.RowKit

theorem u64_xor (a b : BitVec 64) : bits .xor .u64 (a.toNat : Int) (b.toNat : Int) = ((a ^^^ b).toNat : Int) := by
  show IntKind.u64.wrap ((BitVec.ofInt 64 (a.toNat : Int) ^^^ BitVec.ofInt 64 (b.toNat : Int)).toNat : Int) = _
  rw [BitVec.ofInt_natCast, BitVec.ofInt_natCast, BitVec.ofNat_toNat, BitVec.ofNat_toNat]
  simp only [BitVec.setWidth_eq]
  rw [IntKind.wrap_u64]
  omega
theorem u64_shl (a : BitVec 64) (n : Nat) : ((a.toNat : Int) * (2 : Int) ^ n) % (18446744073709551616 : Int) = ((a <<< n).toNat : Int) := by
  rw [BitVec.toNat_shiftLeft, Nat.shiftLeft_eq, Int.natCast_emod, Int.natCast_mul, Int.natCast_pow]; rfl
theorem bit_mod {n : Nat} (a : BitVec n) (i : Nat) : (((a.toNat : Int) / (2 : Int) ^ i) % 2 == 1) = a.getLsbD i := by
  have h1 : ((a.toNat : Int) / (2 : Int) ^ i) % 2 = ((a.toNat / 2 ^ i % 2 : Nat) : Int) := by
    rw [Int.natCast_emod, Int.natCast_ediv, Int.natCast_pow]; rfl
  rw [h1, BitVec.getLsbD, Nat.testBit_eq_decide_div_mod_eq]
  by_cases h : a.toNat / 2 ^ i % 2 = 1
  · rw [h]; rfl
  · have : a.toNat / 2 ^ i % 2 = 0 := by omega
    rw [this]; rfl
theorem bit_tmod {n : Nat} (a : BitVec n) (i : Nat) : (Int.tmod ((a.toNat : Int) / (2 : Int) ^ i) 2 == 1) = a.getLsbD i := by
  rw [Int.tmod_eq_emod_of_nonneg (Int.ediv_nonneg (by omega) (Int.le_of_lt (Int.pow_pos (by omega)))), bit_mod]
theorem u64_shlw (a : BitVec 64) (n : Nat) : IntKind.u64.wrap ((a.toNat : Int) * (2 : Int) ^ n) = ((a <<< n).toNat : Int) := by
  rw [IntKind.wrap_u64, u64_shl]
theorem low32 (x : BitVec 64) : (x.toNat : Int) % (4294967296 : Int) = ((x.setWidth 32).toNat : Int) := by
  rw [BitVec.toNat_setWidth, Int.natCast_emod]; rfl
theorem wide64 (x : Goss.F) : (x.toNat : Int) = ((x.setWidth 64).toNat : Int) := by
  rw [BitVec.toNat_setWidth]; have := x.isLt; congr 1; omega
set_option maxRecDepth 100000 in
set_option maxHeartbeats 2000000 in
theorem rest_any64 (a : BitVec 64) (w : World) : Calls Try.prog 65 #[.int .u64 a.toNat] w (Ret (.int .u32 (Goss.rest64 a).toNat) w) := by
  go_enter Try.func65, Try.ntmps65
  go_wp2
  go_loop [0, 3] (fun va vi => ∃ (n : Nat) (x : BitVec 64), 32 ≤ n ∧ n ≤ 64 ∧ vi = .int .i64 ((n : Int) - 1) ∧ va = .int .u64 x.toNat ∧ Hid (Goss.restTo (n - 32) x = Goss.restTo 32 a)) (fun _ vi => (intOf vi - 30).toNat)
  case atStart => exact ⟨64, a, by omega, by omega, rfl, rfl, rfl⟩
  case round =>
    obtain ⟨n, x, h1, h2, rfl, rfl, hx⟩ := hrel
    by_cases hn : n = 32
    · subst hn
      have h32 := low32 x
      go_wp2
      go_ret
      refine ⟨ret_int ?_, rfl⟩
      have h3 : x = Goss.restTo 32 a := hx.out
      rw [Goss.rest64, ← h3]
      first | done | exact h32
    · obtain ⟨m, rfl⟩ : ∃ m, n = m + 1 := ⟨n - 1, by omega⟩
      obtain ⟨r, hr⟩ : ∃ r, m = r + 32 := ⟨m - 32, by omega⟩
      have hmr : ((m : Int) - 32) = (r : Int) := by omega
      have Hr := Lib.hid hr
      have hm32 : 32 ≤ m := by omega
      have hm63 : m ≤ 63 := by omega
      have hr31 : r ≤ 31 := by omega
      clear hr hn h1 h2
      have ht := bit_tmod x m
      have hs := u64_shlw 4294967437#64 r
      rw [show ((4294967437#64 : BitVec 64).toNat : Int) = 4294967437 from rfl] at hs
      obtain ⟨y, hy⟩ : ∃ y : BitVec 64, 4294967437#64 <<< r = y := ⟨_, rfl⟩
      rw [hy] at hs
      have Hy := Lib.hid hy; clear hy
      have hxo := u64_xor x y
      obtain ⟨z, hz⟩ : ∃ z : BitVec 64, x ^^^ y = z := ⟨_, rfl⟩
      rw [hz] at hxo
      have Hz := Lib.hid hz; clear hz
      have hge : decide ((32 : Int) ≤ (m : Int)) = true := decide_eq_true (by omega)
      cases hb : x.getLsbD m
      all_goals
        rw [hb] at ht
        have Hb := Lib.hid hb; clear hb
        go_wp2
        go_round
        case rel =>
          refine ⟨m, _, hm32, by omega, by first | rfl | go_num, rfl, ?_⟩
          have h3 := hx.out
          rw [show m + 1 - 32 = r + 1 from by have := Hr.out; omega, Goss.restTo] at h3
          rw [show 32 + r = m from by have := Hr.out; omega, Hb.out] at h3
          try rw [Hy.out] at h3
          show _ = _
          rw [show m - 32 = r from by have := Hr.out; omega]
          first | exact h3 | (rw [← Hz.out]; exact h3)
        case measure => first | omega | (simp [intOf]; done) | (simp [intOf]; omega)

theorem bit_tmod32 (a : Goss.F) (i : Nat) : (Int.tmod ((a.toNat : Int) / (2 : Int) ^ i) 2 == 1) = a.getLsbD i := bit_tmod a i
theorem u64_shl32 (a : Goss.F) (n : Nat) : IntKind.u64.wrap ((a.toNat : Int) * (2 : Int) ^ n) = ((a.setWidth 64 <<< n).toNat : Int) := by
  rw [wide64 a, u64_shlw]
set_option maxRecDepth 100000 in
set_option maxHeartbeats 2000000 in
theorem refmul_any (a b : Goss.F) (w : World) : Calls Try.prog 44 #[.int .u32 a.toNat, .int .u32 b.toNat] w (Ret (.int .u32 (Goss.mul a b).toNat) w) := by
  have hrs := fun (x : BitVec 64) (w : World) => rest_any64 x w
  have Hfin := Lib.hid (Goss.refMul_eq a b)
  go_enter Try.func44, Try.ntmps44
  go_wp2
  go_loop [5, 6] (fun vp vi => ∃ (k : Nat) (p : BitVec 64), k ≤ 32 ∧ vi = .int .i64 (k : Int) ∧ vp = .int .u64 p.toNat ∧ Hid (p = Goss.mul64To a b k)) (fun _ vi => 32 - (intOf vi).toNat)
  case atStart => exact ⟨0, 0#64, by omega, rfl, rfl, rfl⟩
  case round =>
    obtain ⟨k, p, hk, rfl, rfl, hx⟩ := hrel
    by_cases hlt : k < 32
    · have hd : decide ((k : Int) < 32) = true := decide_eq_true (by omega)
      have ht := bit_tmod32 b k
      have hs := u64_shl32 a k
      obtain ⟨y, hy⟩ : ∃ y : BitVec 64, a.setWidth 64 <<< k = y := ⟨_, rfl⟩
      rw [hy] at hs
      have Hy := Lib.hid hy; clear hy
      have hxo := u64_xor p y
      obtain ⟨z, hz⟩ : ∃ z : BitVec 64, p ^^^ y = z := ⟨_, rfl⟩
      rw [hz] at hxo
      have Hz := Lib.hid hz; clear hz
      cases hb : b.getLsbD k
      all_goals
        rw [hb] at ht
        have Hb := Lib.hid hb; clear hb
        go_wp2
        go_round
        case rel =>
          refine ⟨k + 1, _, by omega, by first | rfl | go_num, rfl, ?_⟩
          show _ = _
          rw [Goss.mul64To, Hb.out]
          first | (rw [← Hz.out, hx.out, ← Hy.out]; rfl) | exact hx.out
        case measure => first | omega | (simp [intOf]; done) | (simp [intOf]; omega)
    · obtain rfl : k = 32 := by omega
      have hd : decide (((32 : Nat) : Int) < 32) = false := decide_eq_false (by omega)
      have hr := hrs p w
      clear hrs
      go_wp2_with (go_at_call 65; refine hr.mono ?_; rintro e w' ⟨rfl, rfl⟩)
      go_ret
      refine ⟨ret_u ?_, rfl⟩
      rw [hx.out]
      exact Hfin.out
end Go.Proofs.Ythglbipcfhdoaaa
/- gossamerref01: Power; gossamerref05: Of. -/
namespace Go.Proofs.Ythglbipcfhdoaaa
open Go.RowKit

set_option maxRecDepth 100000 in
set_option maxHeartbeats 2000000 in
theorem refpower_any (a : Goss.F) (N : Nat) : ∀ n, n < N → n < 18446744073709551616 → ∀ w, Calls Try.prog 51 #[.int .u32 a.toNat, .int .u64 n] w (Ret (.int .u32 (Goss.pw a n).toNat) w) := by
  induction N with
  | zero => intro n h; omega
  | succ N ih =>
    intro n hn hbig w
    have Hbig := Lib.hid hbig; clear hbig
    by_cases h0 : n = 0
    · subst h0
      clear ih
      go_enter Try.func51, Try.ntmps51
      go_wp2
      go_ret
      exact ⟨rfl, rfl⟩
    · have hne : ((n : Int) == 0) = false := by rw [beq_eq_false_iff_ne]; omega
      have hi := ih (n / 2) (by omega) (by have := Hbig.out; omega) w
      have hh := Goss.pw_half a n
      have Hh := Lib.hid hh; clear hh ih hn
      have hq : Int.tdiv (n : Int) 2 = ((n / 2 : Nat) : Int) := rfl
      have hw : IntKind.u64.wrap ((n / 2 : Nat) : Int) = ((n / 2 : Nat) : Int) := by rw [IntKind.wrap_u64]; have := Hbig.out; omega
      have ht : ((n : Int) % 2 == 1) = decide (n % 2 = 1) := by
        have : (n : Int) % 2 = ((n % 2 : Nat) : Int) := rfl
        rw [this]
        rcases Nat.mod_two_eq_zero_or_one n with h2 | h2 <;> rw [h2] <;> rfl
      generalize hm : n / 2 = m at *
      clear hm
      have hm1 := refmul_any (Goss.pw a m) (Goss.pw a m) w
      have hm2 := refmul_any (Goss.mul (Goss.pw a m) (Goss.pw a m)) a w
      obtain ⟨R, hR⟩ : ∃ R, Goss.pw a n = R := ⟨_, rfl⟩
      rw [hR] at Hh ⊢
      clear hR
      generalize Goss.mul (Goss.mul (Goss.pw a m) (Goss.pw a m)) a = q3 at *
      generalize Goss.mul (Goss.pw a m) (Goss.pw a m) = q2 at *
      generalize Goss.pw a m = q1 at *
      by_cases h2 : n % 2 = 1
      · have h3 : R = q3 := by have := Hh.out; rw [if_pos h2] at this; exact this
        rw [decide_eq_true h2] at ht
        subst h3
        clear h2 Hh
        go_enter Try.func51, Try.ntmps51
        go_wp2_with fail
        refine hi.mono ?_
        rintro e w' ⟨rfl, rfl⟩
        go_wp2_with fail
        refine hm1.mono ?_
        rintro e w' ⟨rfl, rfl⟩
        go_wp2_with fail
        refine hm2.mono ?_
        rintro e w' ⟨rfl, rfl⟩
        go_wp2
        go_ret
        exact ⟨rfl, rfl⟩
      · have h3 : R = q2 := by have := Hh.out; rw [if_neg h2] at this; exact this
        rw [decide_eq_false h2] at ht
        subst h3
        clear h2 Hh
        go_enter Try.func51, Try.ntmps51
        go_wp2_with fail
        refine hi.mono ?_
        rintro e w' ⟨rfl, rfl⟩
        go_wp2_with fail
        refine hm1.mono ?_
        rintro e w' ⟨rfl, rfl⟩
        go_wp2
        go_ret
        exact ⟨rfl, rfl⟩

/-- The sums under way. -/
def SumTo (ids : List Goss.F) (k j : Nat) (x : Goss.F) : Prop := x = (ids.take j).foldl (fun x id => x ^^^ Goss.pw id (2 * k + 1)) 0#32
theorem SumTo.step {ids : List Goss.F} {k j : Nat} {x y : Goss.F} (h : SumTo ids k j x) (hy : ids[j]? = some y) : SumTo ids k (j + 1) (x ^^^ Goss.pw y (2 * k + 1)) := by
  unfold SumTo at h ⊢
  obtain ⟨hj, rfl⟩ := List.getElem?_eq_some_iff.1 hy
  rw [List.take_succ_eq_append_getElem hj, List.foldl_append, ← h]
  rfl
set_option maxRecDepth 100000 in
set_option maxHeartbeats 2000000 in
theorem of_any (cap : Nat) (v : Value) (ids : List Goss.F) (w : World) (h : Sl w v ids) (hcap : cap ≤ 1000) (hlen : ids.length ≤ 1000000) :
    Calls Try.prog 24 #[.int .i64 cap, v] w (New (Goss.newS cap ids) w) := by
  obtain ⟨p, c, rfl⟩ := h.shape
  obtain ⟨R, hR⟩ : ∃ R, Goss.newS cap ids = R := ⟨_, rfl⟩
  rw [hR]
  rw [Goss.newS_eq] at hR
  have HR := Lib.hid hR; clear hR
  generalize hB : w.heap.size = B at *
  have HB := Lib.hid hB; clear hB
  generalize hm : ids.length = m at *
  have Hm := Lib.hid hm; clear hm
  go_enter Try.func24, Try.ntmps24
  go_wp2_with fail
  go_loopw [5, 6, 7, 8] (fun vo vk _ _ wr => ∃ (k : Nat) (out : List Goss.F), k ≤ cap ∧ vk = .int .i64 (k : Int) ∧ Own wr B vo out ∧ Hid (out = (List.range k).map (Goss.sumAt ids)) ∧ out.length = k ∧ Below B w wr) (fun _ vk _ _ _ => cap - (intOf vk).toNat)
  case atStart => exact ⟨0, [], by omega, rfl, Own.nil _ _, rfl, rfl, by rw [← HB.out]; exact Below.refl _ _⟩
  case round =>
    obtain ⟨k, out, hk, rfl, how, hx, hlo, hbw⟩ := hrel
    by_cases hlt : k < cap
    · have hd : decide ((k : Int) < (cap : Int)) = true := decide_eq_true (by omega)
      have hb0 : Below w.heap.size w wr := by rw [HB.out]; exact hbw
      have hs := h.below hb0
      have hzB : B ≤ wr.heap.size := by rw [← HB.out]; exact hbw.size
      clear hb0
      go_wp2_with fail
      go_loop [7, 8] (fun vx vj => ∃ (j : Nat) (x : Goss.F), j ≤ m ∧ vj = .int .i64 (j : Int) ∧ vx = .int .u32 x.toNat ∧ Hid (SumTo ids k j x)) (fun _ vj => m - (intOf vj).toNat)
      case atStart => exact ⟨0, 0#32, by omega, rfl, rfl, rfl⟩
      case round =>
        obtain ⟨j, x, hj, rfl, rfl, hsx⟩ := hrel
        by_cases hjlt : j < m
        · obtain ⟨b1, o1, y, rfl, hy0, hyc⟩ := hs.read (k := j) hjlt
          have hlti : (j : Int) < m := by omega
          have hd2 : decide ((j : Int) < (m : Int)) = true := decide_eq_true hlti
          have hd2' : decide (j < m) = true := decide_eq_true hjlt
          have hs1 : Hid (SumTo ids k (j + 1) (x ^^^ Goss.pw y (2 * k + 1))) := hsx.out.step hy0
          clear hy0
          have hpw := refpower_any y (2 * k + 2) (2 * k + 1) (by omega) (by omega) wr
          have hkk : (((2 * k + 1 : Nat)) : Int) = 2 * (k : Int) + 1 := by omega
          rw [hkk] at hpw
          clear hkk
          generalize Goss.pw y (2 * k + 1) = z at *
          have hxo := u32_xor x z
          generalize x ^^^ z = t at *
          go_wp2_with fail
          refine hpw.mono ?_
          rintro e w' ⟨rfl, rfl⟩
          go_wp2
          go_round
          case rel => exact ⟨j + 1, t, by omega, by first | rfl | go_num, rfl, hs1⟩
          case measure => first | omega | (simp [intOf]; done) | (simp [intOf]; omega)
        · obtain rfl : j = m := by omega
          have hd2 : decide ((j : Int) < (j : Int)) = false := decide_eq_false (by omega)
          have hx1 : Hid (out ++ [x] = (List.range (k + 1)).map (Goss.sumAt ids)) := by
            show _ = _
            have := hsx.out
            unfold SumTo at this
            rw [← Hm.out, List.take_length] at this
            rw [List.range_succ, List.map_append, ← hx.out, this]
            rfl
          have hsum : out.length + [x].length ≤ 35184372088832 := by simp; omega
          go_wp2_with (at_builtin; go_must (refine app_own rfl _ _ rfl B _ out rfl (how.below ((Below.refl _ _).alloc (Nat.le_refl _) _)) _ [x] rfl (Sl.one _ x) hsum (by simp; omega) ?_))
          intro v4 w4 ho4 hg4 _
          have hbA := hbw.alloc (o := .cells #[.int .u32 x.toNat] 55) hzB
          have hb4 := grown_below hbA (how.below ((Below.refl _ _).alloc (Nat.le_refl _) _)) (by simp; omega) hg4
          go_wp2
          go_roundw
          case rel => exact ⟨k + 1, out ++ [x], by omega, by first | rfl | go_num, ho4, hx1, by simp [hlo], hb4⟩
          case measure => first | omega | (simp [intOf]; done) | (simp [intOf]; omega)
    · obtain rfl : k = cap := by omega
      have hd : decide ((k : Int) < (k : Int)) = false := decide_eq_false (by omega)
      go_wp2
      go_ret
      have e1 := hx.out
      rw [HR.out] at e1
      refine ⟨_, rfl, ?_, by rw [HB.out]; exact hbw⟩
      rw [HB.out, ← e1]
      exact how
end Go.Proofs.Ythglbipcfhdoaaa
