/- The walk of SketchFurther: a place below nought. -/
import Derived.Test.YthglbipcfhdoaaaFur1
namespace Go.Proofs.Ythglbipcfhdoaaa
open Go.RowKit
attribute [local go_sem ↓] Go.wp_at_zero Go.wp_at_succ

set_option maxRecDepth 100000 in
set_option maxHeartbeats 4000000 in
theorem fur_neg (v : Value) (xs : List Goss.F) (k : Int) (vb : Value) (bs : List (BitVec 8)) (w : World) (h : Sl w v xs) (hb : SlB w vb bs) (h1 : 1 ≤ xs.length) (h40 : xs.length ≤ 40) (h300 : bs.length ≤ 300) (hk : k < 0) :
    Calls Try.prog 6 #[v, .int .i64 k, vb] w (Gives (.bool true) w) := by
  obtain ⟨p, c, rfl⟩ := h.shape
  obtain ⟨pb, cb, rfl⟩ := hb.shape
  obtain ⟨n, hn⟩ : ∃ n, xs.length = n := ⟨_, rfl⟩
  obtain ⟨m, hm⟩ : ∃ m, bs.length = m := ⟨_, rfl⟩
  rw [hn] at h h1 h40 ⊢
  rw [hm] at hb h300 ⊢
  have Hn := Lib.hid hn; have Hm := Lib.hid hm; clear hn hm
  have hal := alive_any w
  have hd1 : decide ((n : Int) < 1) = false := decide_eq_false (by omega)
  have hd2 : decide ((40 : Int) < (n : Int)) = false := decide_eq_false (by omega)
  have hd3 : decide ((300 : Int) < (m : Int)) = false := decide_eq_false (by omega)
  go_enter Try.func6, Try.ntmps6
  go_wp2_with fail
  refine hal.mono ?_
  rintro e w1 ⟨rfl, hb1⟩
  have h_1 := h.below hb1
  go_wp2_with fail
  refine (refbytes_any _ xs w1 h_1 (by rw [Hn.out]; omega)).mono ?_
  rintro e w2 ⟨v2, rfl, ho2, hb2⟩
  have hbw2 := hb1.trans (hb2.mono hb1.size)
  have hl2 := Goss.bytesP_length xs
  rw [Hn.out] at hl2
  have hrd := read_ok v2 _ w2 ho2.slB (by omega) (by omega) (by omega)
  rw [Goss.sumsP_bytesP] at hrd
  have Hrd := Lib.hid hrd; clear hrd hl2
  clear hal hb1 hb2 h_1
  go_wp2_with fail
  refine Hrd.out.mono ?_
  rintro e w3 ⟨b, g, c3, rfl, hsk, hb3⟩
  have hbw3 := hbw2.trans (hb3.mono hbw2.size)
  clear Hrd ho2 hb3
  clear hd1 hd2 hd3
  have hfb := further_bad _ b g c3 xs k w3 hsk (by omega)
  go_wp2_with fail
  refine hfb.mono ?_
  rintro e w4 ⟨rfl, rfl⟩
  clear hfb
  have hd5 : decide (k < 0) = true := decide_eq_true hk
  go_wp2_with fail
  refine (is_err 1 1 (by decide) _).mono ?_
  rintro e w4 ⟨rfl, rfl⟩
  go_upto_region 21 with (fail)
  clear hk hd5
  have hskX := hsk
  have hbwX := hbw3
  clear hsk hbw3
  have hmX := hb.below hbwX
  have HX := Lib.hid hbwX.size
  by_cases h4 : m % 4 = 0
  · have hrs := fun w' (hv : SlB w' (.slice pb m cb) bs) => refsums_any _ bs w' hv (by rw [Hm.out]; omega) (by rw [Hm.out]; exact h4)
    have hsl := sumsP_length bs
    rw [Hm.out] at hsl
    by_cases hlong : 40 < n + m / 4
    · have hj := join_long _ b g c3 xs _ bs w3 hskX hmX (by rw [Hm.out]; omega) (by rw [Hn.out]; exact h40) (by rw [Hm.out]; exact h4) (by rw [Hn.out, Hm.out]; exact hlong)
      have hd5 : decide ((40 : Int) < ((Goss.sumsP bs).length : Int) + (n : Int)) = true := decide_eq_true (by omega)
      generalize Goss.sumsP bs = R at *
      have Hrs := Lib.hid hrs; clear hrs
      have Hsl := Lib.hid hsl; clear hsl
      go_wp2_with fail
      refine hj.mono ?_
      rintro e w5 ⟨rfl, hb5⟩
      have hm5 := hmX.below hb5
      have hbw5 := hbwX.trans (hb5.mono hbwX.size)
      clear hj
      go_wp2_with fail
      refine (Hrs.out w5 hm5).mono ?_
      rintro e w6 ⟨v6, rfl, ho6, hb6⟩
      have hbw6 := hbw5.trans (hb6.mono hbw5.size)
      obtain ⟨p6, c6, rfl⟩ := ho6.sl.shape
      have hr63 : R.length ≤ 1000 := by rw [Hsl.out]; omega
      clear hm5 ho6
      go_wp2_with fail
      refine (is_err 1 1 (by decide) _).mono ?_
      rintro e w7 ⟨rfl, rfl⟩
      go_wp2
      go_ret
      exact ⟨rfl, hbw6⟩
    · have hd5 : decide ((40 : Int) < ((Goss.sumsP bs).length : Int) + (n : Int)) = false := decide_eq_false (by omega)
      have hj := join_ok _ b g c3 xs _ bs w3 hskX hmX (by rw [Hm.out]; omega) (by rw [Hn.out]; exact h1) (by rw [Hm.out]; exact h4) (by rw [Hn.out, Hm.out]; omega)
      have hbq : Goss.bytesP (xs ++ Goss.sumsP bs) = Goss.bytesP xs ++ bs := by
        rw [Goss.bytesP_append, Goss.bytesP_sumsP (m / 4) bs (by rw [Hm.out]; omega)]
      have hql : (xs ++ Goss.sumsP bs).length ≤ 1000 := by rw [List.length_append, Hn.out]; omega
      generalize xs ++ Goss.sumsP bs = Q at *
      generalize Goss.sumsP bs = R at *
      have Hrs := Lib.hid hrs; clear hrs
      have Hsl := Lib.hid hsl; clear hsl
      have Hbq := Lib.hid hbq; clear hbq
      go_wp2_with fail
      refine hj.mono ?_
      rintro e w5 ⟨bj, gj, cj, rfl, hskj, hb5⟩
      have hm5 := hmX.below hb5
      have hsk5 := hskX.below hb5
      have hbw5 := hbwX.trans (hb5.mono hbwX.size)
      clear hj hb5 hskX hmX
      go_wp2_with fail
      refine (Hrs.out w5 hm5).mono ?_
      rintro e w6 ⟨v6, rfl, ho6, hb6⟩
      have hbw6 := hbw5.trans (hb6.mono hbw5.size)
      obtain ⟨p6, c6, rfl⟩ := ho6.sl.shape
      have hm6 := hm5.below hb6
      have hsk6 := hsk5.below hb6
      have hskj6 := hskj.below hb6
      clear hm5 hsk5 hskj hb6 ho6 Hrs
      have hr63 : R.length ≤ 1000 := by rw [Hsl.out]; omega
      go_wp2_with fail
      have hz6 : ∀ w', Below w6.heap.size w6 w' → (convert 40 9 (.slice pb m cb)).run Try.prog w' = .ok (.string (strB bs)) w' := fun w' hq => (hm6.below hq).str
      have Hz6 := Lib.hid hz6; clear hz6
      have hconv0 := Hz6.out w6.drew (Below.refl _ _).drew
      have hsz1 : (strB (Goss.bytesP xs)).size = 4 * n := by unfold strB; rw [strOfNums_size, List.length_map, Goss.bytesP_length, Hn.out]
      have hsz2 : (strB bs).size = m := by unfold strB; rw [strOfNums_size, List.length_map, Hm.out]
      have hszi1 : ((strB (Goss.bytesP xs)).size : Int) ≤ 8388608 := by omega
      have hszi2 : ((strB bs).size : Int) ≤ 8388608 := by omega
      have hszs : (strB (Goss.bytesP xs)).size + (strB bs).size ≤ 9223372036854775807 := by omega
      clear hsz1 hsz2
      go_region_held_law (fun w' => (convert 40 9 (.slice pb m cb)).run Try.prog w' = .ok (.string (strB bs)) w') (first | assumption | exact Hz6.out _ (Below.refl _ _).drew)
        (first
          | (go_at_call_of 18 (Value.pointer (some ⟨bj, 0, none⟩)); go_must (refine (skbytes_any _ bj gj cj Q _ (hskj6.below (Below.refl _ _).drew) (by omega)).mono ?_); rintro e w7 ⟨v7, rfl, ho7, hb7⟩; rw [Hbq.out] at ho7; have hstr7 := ho7.slB.str; rw [strB_append] at hstr7; have hconv7 := Hz6.out w7 ((Below.refl _ _).drew.trans hb7))
          | (go_at_call_of 18 (Value.pointer (some ⟨b, 0, none⟩)); go_must (refine (skbytes_any _ b g c3 xs _ ((hsk6.below (Below.refl _ _).drew).below hb7) (by rw [Hn.out]; omega)).mono ?_); rintro e w8 ⟨v8, rfl, ho8, hb8⟩; have hstr8 := ho8.slB.str; have hbw8 := (hbw6.drew.trans (hb7.mono hbw6.size)).trans (hb8.mono (Nat.le_trans hbw6.size hb7.size)); have hstr78 := (ho7.slB.below hb8).str; rw [strB_append] at hstr78; have hconv8 := Hz6.out w8 ((Below.refl _ _).drew.trans (hb7.trans (hb8.mono hb7.size))))
          | (go_at_call_of 13 (Value.pointer (some ⟨b, 0, none⟩)); go_must (refine (capacity_any _ b g c3 xs _ (((hsk6.below (Below.refl _ _).drew).below hb7).below hb8)).mono ?_); rintro e w9 ⟨rfl, rfl⟩))
      all_goals (go_wp2; go_ret; refine ⟨?_, hbw8⟩; rw [Hn.out]; simp)
  · have hj := join_odd b _ bs w3 hmX (by rw [Hm.out]; omega) (by rw [Hm.out]; exact h4)
    have hrs := refsums_odd _ bs w3 hmX (by rw [Hm.out]; omega) (by rw [Hm.out]; exact h4)
    go_wp2_with fail
    refine hj.mono ?_
    rintro e w5 ⟨rfl, rfl⟩
    clear hj
    go_wp2_with fail
    refine hrs.mono ?_
    rintro e w6 ⟨rfl, rfl⟩
    go_wp2_with fail
    refine (is_err 2 2 (by decide) _).mono ?_
    rintro e w7 ⟨rfl, rfl⟩
    go_wp2
    go_ret
    exact ⟨rfl, hbwX⟩
end Go.Proofs.Ythglbipcfhdoaaa
