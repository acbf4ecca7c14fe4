/- The sort of a range: bits.Len, the xorshift, breaking patterns. -/
import Derived.Test.YthglbipcfhdoaaaSortF
import Derived.Test.YthglbipcfhdoaaaRefA
import Derived.Deep.CutBlock
namespace Go.Proofs.Ythglbipcfhdoaaa
open Go.RowKit

def LenEnd (n : Nat) (w : World) (e : Ending) (w' : World) : Prop := (∃ k : Nat, e = .returned (.int .i64 (k : Int)) ∧ n < 2 ^ k ∧ (2 ^ k ≤ 2 * n ∨ n = 0) ∧ k ≤ 6) ∧ w = w'
set_option maxRecDepth 100000 in
set_option maxHeartbeats 16000000 in
theorem len64_fifty (n : Nat) (w : World) (h : n < 50) : Calls Try.prog 132 #[.int .u64 n] w (LenEnd n w) := by
  go_enter Try.func132, Try.ntmps132
  match n, h with
  | 0, _ =>
    go_wp2
    go_ret
    exact ⟨⟨0, ret_int (by decide +kernel), by decide, by decide, by decide⟩, rfl⟩
  | 1, _ =>
    go_wp2
    go_ret
    exact ⟨⟨1, ret_int (by decide +kernel), by decide, by decide, by decide⟩, rfl⟩
  | 2, _ | 3, _ =>
    go_wp2
    go_ret
    exact ⟨⟨2, ret_int (by decide +kernel), by decide, by decide, by decide⟩, rfl⟩
  | 4, _ | 5, _ | 6, _ | 7, _ =>
    go_wp2
    go_ret
    exact ⟨⟨3, ret_int (by decide +kernel), by decide, by decide, by decide⟩, rfl⟩
  | 8, _ | 9, _ | 10, _ | 11, _ | 12, _ | 13, _ | 14, _ | 15, _ =>
    go_wp2
    go_ret
    exact ⟨⟨4, ret_int (by decide +kernel), by decide, by decide, by decide⟩, rfl⟩
  | 16, _ | 17, _ | 18, _ | 19, _ | 20, _ | 21, _ | 22, _ | 23, _ | 24, _ | 25, _ | 26, _ | 27, _ | 28, _ | 29, _ | 30, _ | 31, _ =>
    go_wp2
    go_ret
    exact ⟨⟨5, ret_int (by decide +kernel), by decide, by decide, by decide⟩, rfl⟩
  | 32, _ | 33, _ | 34, _ | 35, _ | 36, _ | 37, _ | 38, _ | 39, _ | 40, _ | 41, _ | 42, _ | 43, _ | 44, _ | 45, _ | 46, _ | 47, _ | 48, _ | 49, _ =>
    go_wp2
    go_ret
    exact ⟨⟨6, ret_int (by decide +kernel), by decide, by decide, by decide⟩, rfl⟩
  | n + 50, h => exact absurd h (by omega)
set_option maxRecDepth 100000 in
theorem len_fifty (n : Nat) (w : World) (h : n < 50) : Calls Try.prog 115 #[.int .u64 n] w (LenEnd n w) := by
  go_enter Try.func115, Try.ntmps115
  go_wp2_with fail
  refine (len64_fifty n _ h).mono ?_
  rintro e w' ⟨⟨k, rfl, h1, h2, h3⟩, rfl⟩
  go_wp2
  go_ret
  exact ⟨⟨k, rfl, h1, h2, h3⟩, rfl⟩
def PowEnd (n : Nat) (w : World) (e : Ending) (w' : World) : Prop := (∃ m : Nat, e = .returned (.int .u64 (m : Int)) ∧ n < m ∧ (m ≤ 2 * n ∨ n = 0)) ∧ w = w'
set_option maxRecDepth 100000 in
set_option maxHeartbeats 2000000 in
theorem nextpow_any (n : Nat) (w : World) (h : n < 50) : Calls Try.prog 138 #[.int .i64 n] w (PowEnd n w) := by
  go_enter Try.func138, Try.ntmps138
  go_wp2_with fail
  refine (len_fifty n _ h).mono ?_
  rintro e w' ⟨⟨k, rfl, h1, h2, h3⟩, rfl⟩
  have hpk : IntKind.u64.wrap ((2 : Int) ^ k) = ((2 ^ k : Nat) : Int) := by
    have : (2 : Int) ^ k = ((2 ^ k : Nat) : Int) := by rw [Int.natCast_pow]; rfl
    have h64 : 2 ^ k ≤ 2 ^ 6 := Nat.pow_le_pow_right (by omega) h3
    rw [this, IntKind.wrap_u64]
    omega
  obtain ⟨m, hm⟩ : ∃ m, 2 ^ k = m := ⟨_, rfl⟩
  rw [hm] at h1 h2 hpk
  clear hm
  go_wp2
  go_ret
  exact ⟨⟨m, rfl, h1, h2⟩, rfl⟩
theorem u64_shr (a : BitVec 64) (n : Nat) : (a.toNat : Int) / (2 : Int) ^ n = ((a >>> n).toNat : Int) := by
  rw [BitVec.toNat_ushiftRight, Nat.shiftRight_eq_div_pow, Int.natCast_ediv, Int.natCast_pow]; rfl
abbrev RndAt (w : World) (rb : Nat) (x : BitVec 64) : Prop := w.heap[rb]? = some (.cells #[.int .u64 (x.toNat : Int)] 170 (0, 0))
def RndEnd (rb : Nat) (w : World) (e : Ending) (w' : World) : Prop := ∃ y : BitVec 64, e = .returned (.int .u64 (y.toNat : Int)) ∧ RndAt w' rb y ∧ w.grownBy w' (some rb)
set_option maxRecDepth 100000 in
set_option maxHeartbeats 4000000 in
theorem next_any (rb : Nat) (x : BitVec 64) (w : World) (h : RndAt w rb x) : Calls Try.prog 139 #[.pointer (some ⟨rb, 0, none⟩)] w (RndEnd rb w) := by
  have s1 := u64_shlw x 13
  obtain ⟨y1, hy1⟩ : ∃ y, x <<< 13 = y := ⟨_, rfl⟩
  rw [hy1] at s1
  have t1 := u64_xor x y1
  obtain ⟨x1, hx1⟩ : ∃ y, x ^^^ y1 = y := ⟨_, rfl⟩
  rw [hx1] at t1
  have s2 := u64_shr x1 7
  obtain ⟨y2, hy2⟩ : ∃ y, x1 >>> 7 = y := ⟨_, rfl⟩
  rw [hy2] at s2
  have t2 := u64_xor x1 y2
  obtain ⟨x2, hx2⟩ : ∃ y, x1 ^^^ y2 = y := ⟨_, rfl⟩
  rw [hx2] at t2
  have s3 := u64_shlw x2 17
  obtain ⟨y3, hy3⟩ : ∃ y, x2 <<< 17 = y := ⟨_, rfl⟩
  rw [hy3] at s3
  have t3 := u64_xor x2 y3
  obtain ⟨x3, hx3⟩ : ∃ y, x2 ^^^ y3 = y := ⟨_, rfl⟩
  rw [hx3] at t3
  clear hy1 hx1 hy2 hx2 hy3 hx3
  have hc := cell_of_one h
  have hf := free_of_one h
  have n13 : ((x.toNat : Int) * (2 : Int) ^ 13) = (x.toNat : Int) * 8192 := by rw [show (2 : Int) ^ 13 = 8192 from by decide]
  have n7 : ((x1.toNat : Int) / (2 : Int) ^ 7) = (x1.toNat : Int) / 128 := by rw [show (2 : Int) ^ 7 = 128 from by decide]
  have n17 : ((x2.toNat : Int) * (2 : Int) ^ 17) = (x2.toNat : Int) * 131072 := by rw [show (2 : Int) ^ 17 = 131072 from by decide]
  rw [n13] at s1
  rw [n7] at s2
  rw [n17] at s3
  clear n13 n7 n17
  go_enter Try.func139, Try.ntmps139
  go_wp2_with fail
  go_region
  have h1 : RndAt ((w.setCell ⟨rb, 0, none⟩ (.int .u64 (x1.toNat : Int))).drew) rb x1 := one_setCell h
  have g1 : w.grownBy ((w.setCell ⟨rb, 0, none⟩ (.int .u64 (x1.toNat : Int))).drew) (some rb) := (grown_store w rb 0 _).trans' (grown_drew _ _)
  generalize (w.setCell ⟨rb, 0, none⟩ (.int .u64 (x1.toNat : Int))).drew = wa at *
  clear hc hf
  have hc := cell_of_one h1
  have hf := free_of_one h1
  go_wp2_with fail
  go_region
  have h2 : RndAt ((wa.setCell ⟨rb, 0, none⟩ (.int .u64 (x2.toNat : Int))).drew) rb x2 := one_setCell h1
  have g2 : w.grownBy ((wa.setCell ⟨rb, 0, none⟩ (.int .u64 (x2.toNat : Int))).drew) (some rb) := g1.trans' ((grown_store _ rb 0 _).trans' (grown_drew _ _))
  generalize (wa.setCell ⟨rb, 0, none⟩ (.int .u64 (x2.toNat : Int))).drew = wb at *
  clear hc hf
  have hc := cell_of_one h2
  have hf := free_of_one h2
  go_wp2_with fail
  go_region
  have h3 : RndAt ((wb.setCell ⟨rb, 0, none⟩ (.int .u64 (x3.toNat : Int))).drew) rb x3 := one_setCell h2
  have g3 : w.grownBy ((wb.setCell ⟨rb, 0, none⟩ (.int .u64 (x3.toNat : Int))).drew) (some rb) := g2.trans' ((grown_store _ rb 0 _).trans' (grown_drew _ _))
  generalize (wb.setCell ⟨rb, 0, none⟩ (.int .u64 (x3.toNat : Int))).drew = wd at *
  clear hc hf
  have hc := cell_of_one h3
  have hf := free_of_one h3
  go_wp2
  go_ret
  exact ⟨x3, rfl, h3, g3⟩
theorem u64_and_le (x : BitVec 64) (m : Nat) (hm : m < 18446744073709551616) : ∃ t : Nat, bits .and .u64 (x.toNat : Int) (m : Int) = (t : Int) ∧ t ≤ m := by
  refine ⟨(x &&& BitVec.ofNat 64 m).toNat, ?_, ?_⟩
  · show IntKind.u64.wrap ((BitVec.ofInt 64 (x.toNat : Int) &&& BitVec.ofInt 64 (m : Int)).toNat : Int) = _
    rw [BitVec.ofInt_natCast, BitVec.ofInt_natCast, BitVec.ofNat_toNat]
    simp only [BitVec.setWidth_eq]
    rw [IntKind.wrap_u64]
    omega
  · rw [BitVec.toNat_and, BitVec.toNat_ofNat, Nat.mod_eq_of_lt hm]
    exact Nat.and_le_right
set_option maxRecDepth 100000 in
set_option maxHeartbeats 4000000 in
theorem breakpat_any (B g n c a b : Nat) (xs : List Goss.F) (w : World) (h : Own w B (.slice (some ⟨g, 0, none⟩) n c) xs) (hab : a + 8 ≤ b) (hab2 : b < a + 50) (hbn : b ≤ n) (h12 : n ≤ 35184372088832) :
    Calls Try.prog 124 #[.slice (some ⟨g, 0, none⟩) n c, .int .i64 a, .int .i64 b] w (MvEnd (fun _ => True) g n c B a b xs w) := by
  obtain ⟨l, hl⟩ : ∃ l, l = b - a := ⟨_, rfl⟩
  obtain ⟨q, hq⟩ : ∃ q, q = l / 4 := ⟨_, rfl⟩
  obtain ⟨T, hT⟩ : ∃ T, T = a + q * 2 := ⟨_, rfl⟩
  obtain ⟨s, hs⟩ : ∃ s, T = s + 1 := ⟨T - 1, by omega⟩
  obtain ⟨T1, hT1⟩ : ∃ T1, T1 = T + 1 := ⟨_, rfl⟩
  have e1 : (b : Int) - (a : Int) = (l : Int) := by omega
  have e2 : (l : Int) / 4 = (q : Int) := by omega
  have e3 : (a : Int) + (q : Int) * 2 = (T : Int) := by omega
  have e4 : (T : Int) - 1 = (s : Int) := by omega
  have e5 : (T : Int) + 1 = (T1 : Int) := by omega
  have hl8 : 8 ≤ l := by omega
  have hl50 : l < 50 := by omega
  have hal : a + l = b := by omega
  have has : a ≤ s := by omega
  have hsT : s + 2 = T1 := by omega
  have hsb : T1 < b := by omega
  have hd8 : decide ((8 : Int) ≤ (l : Int)) = true := decide_eq_true (by omega)
  have hgl := h.lt.2
  have hBg := h.lt.1
  obtain ⟨X0, hX0⟩ : ∃ X : BitVec 64, X.toNat = l := ⟨BitVec.ofNat 64 l, by rw [BitVec.toNat_ofNat]; omega⟩
  have hX0i : (l : Int) = (X0.toNat : Int) := by omega
  have hrnd : RndAt (w.alloc (.cells #[.int .u64 (l : Int)] 170)) w.heap.size X0 := by
    rw [hX0i]; exact heap_alloc_new w _
  have hA : Own (w.alloc (.cells #[.int .u64 (l : Int)] 170)) B (.slice (some ⟨g, 0, none⟩) n c) xs := h.below ((Below.refl _ _).alloc (Nat.le_refl _) _)
  have hgA : w.grownBy (w.alloc (.cells #[.int .u64 (l : Int)] 170)) (some g) := World.grownBy_alloc w _ _
  obtain ⟨rb, hrb⟩ : ∃ rb, w.heap.size = rb := ⟨_, rfl⟩
  have Hrb := Lib.hid hrb
  have hrbg : rb ≠ g := by omega
  rw [hrb] at hrnd
  clear hl hq hT hs hT1 hX0 hrb hX0i h
  go_enter Try.func124, Try.ntmps124
  go_wp2_with fail
  refine (nextpow_any l _ hl50).mono ?_
  rintro e w1 ⟨⟨m, rfl, hm1, hm2⟩, rfl⟩
  obtain ⟨m', hm'⟩ : ∃ m', m = m' + 1 := ⟨m - 1, by omega⟩
  have e6 : (m : Int) - 1 = (m' : Int) := by omega
  have hml : m' + 1 ≤ 2 * l := by omega
  rw [Hrb.out]
  generalize w.alloc (.cells #[.int .u64 (l : Int)] 170) = wA at *
  clear hm1 hm2 hm'
  go_wp2_with fail
  go_loopw [9] (fun vi wr => ∃ (i : Nat) (X : BitVec 64) (cur : List Goss.F), s ≤ i ∧ i ≤ T1 + 1 ∧ vi = .int .i64 i ∧ RndAt wr rb X ∧ Hid (Goss.Mv a b cur xs) ∧ Own wr B (.slice (some ⟨g, 0, none⟩) n c) cur ∧ w.grownBy wr (some g)) (fun vi _ => T1 + 1 - (intOf vi).toNat)
  case atStart => exact ⟨s, X0, xs, Nat.le_refl _, by omega, rfl, hrnd, Goss.Mv.refl xs, hA, hgA⟩
  case round =>
    clear hrnd hA hgA
    obtain ⟨i, X, cur, hsi, hiT, rfl, hrx, hmv, how, hgr⟩ := hrel
    by_cases hle : i ≤ T1
    · have hd : decide ((i : Int) ≤ (T1 : Int)) = true := decide_eq_true (by omega)
      have hd' : decide (i ≤ T1) = true := decide_eq_true hle
      have hnx := next_any rb X wr hrx
      clear hrx
      go_wp2_with fail
      refine hnx.mono ?_
      rintro e w2 ⟨Y, rfl, hry, hgy⟩
      have how2 : Own w2 B (.slice (some ⟨g, 0, none⟩) n c) cur := World.ownsRow.kept how hgy (.inr (by simp [Value.ownBlock]; omega))
      have hgr2 : w.grownBy w2 (some g) := by
        refine ⟨hgy.os.trans hgr.os, hgy.tape.trans hgr.tape, hgy.output.trans hgr.output, Nat.le_trans hgr.size hgy.size, fun k hk hne => ?_⟩
        have hkr : k ≠ rb := by have := Hrb.out; omega
        exact (hgy.block k (Nat.lt_of_lt_of_le hk hgr.size) (by simp; exact hkr)).trans (hgr.block k hk hne)
      obtain ⟨tt, ht1, ht2⟩ := u64_and_le Y m' (by omega)
      clear how hgr hnx hgy
      have hry' := Lib.hid hry
      clear hry
      obtain ⟨o, ho⟩ : ∃ o, o = if l ≤ tt then tt - l else tt := ⟨_, rfl⟩
      have hol : o < l := by rw [ho]; split <;> omega
      go_upto_if 43 with (fail)
      go_cut [10] (fun s wx => s = .int .i64 (o : Int) ∧ wx = w2)
      case first =>
        by_cases hlt : l ≤ tt
        · rw [if_pos hlt] at ho
          have hd2 : decide ((l : Int) ≤ (tt : Int)) = true := decide_eq_true (by omega)
          have hd2' : decide (l ≤ tt) = true := decide_eq_true hlt
          have e7 : (tt : Int) - (l : Int) = (o : Int) := by omega
          clear ho
          go_wp2_with fail
          go_meet
          exact ⟨rfl, rfl⟩
        · rw [if_neg hlt] at ho
          have hd2 : decide ((l : Int) ≤ (tt : Int)) = false := decide_eq_false (by omega)
          have hd2' : decide (l ≤ tt) = false := decide_eq_false hlt
          subst ho
          go_wp2_with fail
          go_meet
          exact ⟨rfl, rfl⟩
      case rest =>
        obtain ⟨rfl, hcw⟩ := hcut
        obtain ⟨f, hf⟩ : ∃ f, f = a + o := ⟨_, rfl⟩
        have e8 : IntKind.i64.wrap ((a : Int) + (o : Int)) = (f : Int) := by rw [IntWalk.i64_in _ (by omega)]; omega
        have hfa : a ≤ f := by omega
        have hfb : f < b := by omega
        have hmv1 : Hid (Goss.Mv a b (Goss.swp cur i f) xs) := .swap hmv.out _ _ ⟨by omega, by omega⟩ ⟨hfa, hfb⟩
        have how : Own wc B (.slice (some ⟨g, 0, none⟩) n c) cur := by rw [hcw]; exact how2
        have hgr : w.grownBy wc (some g) := by rw [hcw]; exact hgr2
        have hryc : RndAt wc rb Y := by rw [hcw]; exact hry'.out
        have Hryc := Lib.hid hryc
        clear hcw how2 hgr2 ho hf hryc hry' ht1 ht2 hmv
        obtain ⟨wv, rfl⟩ : ∃ wx : World, wx = wc := ⟨_, rfl⟩
        obtain ⟨x, hx0, hxc, hxf⟩ := how.read (k := i) (by omega)
        obtain ⟨y, hy0, hyc, hyf⟩ := how.read (k := f) (by omega)
        have hsw := Goss.swp_eq hx0 hy0
        have Hsw := Lib.hid hsw
        clear hsw hx0 hy0
        have b1 : (i : Int) < (n : Int) := by omega
        have b2 : (f : Int) < (n : Int) := by omega
        go_wp2_with fail
        have how3 := (how.stored i y).stored f x
        have hgr3 := (hgr.trans' (grown_store _ g i (.int .u32 y.toNat))).trans' (grown_store _ g f (.int .u32 x.toNat))
        rw [Hsw.out] at how3
        have hr3 : RndAt ((wv.setCell ⟨g, i, none⟩ (.int .u32 y.toNat)).setCell ⟨g, f, none⟩ (.int .u32 x.toNat)) rb Y := by
          unfold RndAt
          rw [Below.heap_setCell _ _ _ _ (by show rb ≠ g; omega), Below.heap_setCell _ _ _ _ (by show rb ≠ g; omega)]
          exact Hryc.out
        by_cases hE : i = f
        · have hxy : x = y := by
            rw [← hE, hxc] at hyc
            have := Option.some.inj hyc
            simp only [Value.int.injEq, true_and] at this
            exact BitVec.eq_of_toNat_eq (by omega)
          subst hxy
          subst hE
          clear hyc hyf b2
          go_region
          go_wp2
          go_roundw
          case rel => exact ⟨i + 1, Y, _, by omega, by omega, by first | rfl | go_num, hr3, hmv1, how3, hgr3.trans' (grown_drew _ _)⟩
          case measure => simp only [intOf]; omega
        · have hne := hE
          go_region
          go_wp2
          go_roundw
          case rel => exact ⟨i + 1, Y, _, by omega, by omega, by first | rfl | go_num, hr3, hmv1, how3, hgr3.trans' (grown_drew _ _)⟩
          case measure => simp only [intOf]; omega
    · have hd : decide ((i : Int) ≤ (T1 : Int)) = false := decide_eq_false (by omega)
      have hd' : decide (i ≤ T1) = false := decide_eq_false hle
      go_wp2
      go_end0
      exact ⟨rfl, cur, hmv.out, trivial, how, hgr⟩
end Go.Proofs.Ythglbipcfhdoaaa
