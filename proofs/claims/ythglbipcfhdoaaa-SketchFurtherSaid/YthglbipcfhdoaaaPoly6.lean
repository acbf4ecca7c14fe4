/- package poly: Add of two, Squared. -/
import Derived.Test.YthglbipcfhdoaaaPoly5
namespace Go.Proofs.Ythglbipcfhdoaaa
open Go.RowKit

def accs (xs ys : List Goss.F) : Nat → List Goss.F
  | 0 => []
  | 1 => xs
  | _ => Goss.xorL xs ys

set_option maxRecDepth 100000 in
set_option maxHeartbeats 2000000 in
theorem add_any (L o : Nat) (va vb : Value) (xs ys : List Goss.F) (w : World) (hL : L < w.heap.size) (hc0 : w.cell? ⟨L, o, none⟩ = some va) (hc1 : w.cell? ⟨L, o + 1, none⟩ = some vb)
    (ha : Sl w va xs) (hb : Sl w vb ys) (hla : xs.length ≤ 17592186044416) (hlb : ys.length ≤ 17592186044416) :
    Calls Try.prog 105 #[.slice (some ⟨L, o, none⟩) 2 2] w (New (Goss.addP xs ys) w) := by
  generalize hB : w.heap.size = B at *
  have HB := Lib.hid hB; clear hB
  have Hc0 := Lib.hid hc0; clear hc0
  have Hc1 := Lib.hid hc1; clear hc1
  go_enter Try.func105, Try.ntmps105
  go_wp2_with fail
  go_loopw [3, 10] (fun vo i wr => ∃ k : Nat, k ≤ 2 ∧ i = .int .i64 k ∧ Own wr B vo (accs xs ys k) ∧ Below B w wr) (fun _ i _ => 2 - (intOf i).toNat)
  case atStart => exact ⟨0, by omega, rfl, Own.nil _ _, Below.refl _ _⟩
  case round =>
    obtain ⟨k, hk, rfl, hown, hbw⟩ := hrel
    by_cases hlt : k < 2
    · -- which of the two
      obtain ⟨vk, zs, hvk, hsk, hlk, hacc⟩ : ∃ vk zs, w.cell? ⟨L, o + k, none⟩ = some vk ∧ Sl w vk zs ∧ zs.length ≤ 17592186044416 ∧ accs xs ys (k + 1) = Goss.xorL (accs xs ys k) zs := by
        rcases (show k = 0 ∨ k = 1 from by omega) with rfl | rfl
        · exact ⟨va, xs, Hc0.out, ha, hla, (Goss.xorL_nil xs).symm⟩
        · exact ⟨vb, ys, Hc1.out, hb, hlb, rfl⟩
      have hcell : wr.cell? ⟨L, o + k, none⟩ = some vk := (hbw.cell (p := ⟨L, o + k, none⟩) hL).trans hvk
      have hskw := hsk.below (by rw [HB.out]; exact hbw)
      have hll : (accs xs ys k).length ≤ 17592186044416 := by
        rcases (show k = 0 ∨ k = 1 from by omega) with rfl | rfl
        · exact Nat.zero_le _
        · exact hla
      generalize accs xs ys k = out at *
      obtain ⟨nxt, hnxt⟩ : ∃ n, accs xs ys (k + 1) = n := ⟨_, rfl⟩
      rw [hnxt] at hacc
      have Hnx := Lib.hid hnxt; clear hnxt
      have Hacc := Lib.hid hacc; clear hacc
      have hkz : (k : Int) < 2 := by omega
      have hd2 : decide ((k : Int) < 2) = true := decide_eq_true (by omega)
      have hzB : B ≤ wr.heap.size := by rw [← HB.out]; exact hbw.size
      obtain ⟨pk, ck, hvk'⟩ := hskw.shape
      subst hvk'
      obtain ⟨po, co', rfl⟩ := hown.sl.shape
      clear hvk
      generalize hlz : zs.length = m at *
      generalize hlo : out.length = n at *
      have Hlz := Lib.hid hlz; clear hlz
      have Hlo := Lib.hid hlo; clear hlo
      by_cases hcmp : n < m
      all_goals
        have hcmp' : (n : Int) < m ∨ (m : Int) ≤ n := by omega
        go_wp2_with (at_builtin; refine app_zeros rfl _ _ rfl B _ out rfl hown _ (m - n) rfl (by omega) (by have := Hlo.out; omega) hzB ?_)
        intro v1 w1 ho1 hg1
        have hb1 := grown_below hbw hown hzB hg1
        have hsk1 : Sl w1 (.slice pk m ck) zs := hsk.below (by rw [HB.out]; exact hb1)
        clear hcell hskw hown hbw hzB hg1 hcmp'
        have hl1 : (out ++ List.replicate (m - n) 0#32).length = max n m := by have := Hlo.out; simp; omega
        obtain ⟨Z, hZ⟩ : ∃ Z, Goss.putP (out ++ List.replicate (m - n) 0#32) zs 1#32 0 = Z := ⟨_, rfl⟩
        have hZ' : Z = nxt := by rw [← hZ, Hacc.out, ← Hlz.out, ← Hlo.out]; exact Goss.putP_one out zs
        have HZ := Lib.hid hZ; clear hZ
        have HZ' := Lib.hid hZ'; clear hZ'
        rcases ho1.shape with ⟨rfl, h0⟩ | ⟨g, c, rfl, hg1, hg2, _, _⟩
        · -- nothing there, nothing to be put
          have hm0 : m = 0 := by rw [h0] at hl1; simp at hl1; omega
          subst hm0
          have hz0 : zs = [] := List.eq_nil_of_length_eq_zero Hlz.out
          have hout : Hid (out = []) := (List.append_eq_nil_iff.1 h0).1
          clear hl1 h0
          go_wp2_with fail
          obtain ⟨wo, rfl⟩ : ∃ wo : World, wo = w1 := ⟨_, rfl⟩
          go_loopw [24] (fun i wq => i = .int .i64 0 ∧ wq = wo) (fun _ _ => 0)
          case atStart => exact ⟨rfl, rfl⟩
          case round =>
            obtain ⟨rfl, rfl⟩ := hrel
            go_wp2
            go_roundw
            case rel =>
              refine ⟨k + 1, by omega, by first | rfl | go_num, ?_, hb1⟩
              have : nxt = [] := by
                have h1 := Hacc.out
                rw [hz0, Goss.xorL_nil_right] at h1
                rw [h1]
                exact hout.out
              rw [Hnx.out, this]
              exact Own.nil _ _
            case measure => first | omega | (simp [intOf]; done) | (simp [intOf]; omega)
        · have hN : (out ++ List.replicate (m - n) 0#32).length = max n m := hl1
          generalize hcur : out ++ List.replicate (m - n) 0#32 = cur0 at *
          clear hcur
          obtain ⟨N, hNm⟩ : ∃ N, max n m = N := ⟨_, rfl⟩
          rw [hNm] at hN
          have hmN : m ≤ N := by omega
          rw [hN] at ho1 ⊢
          have HN := Lib.hid hN; clear hN hl1 hNm
          have hgB : B ≤ g := hg1
          go_wp2_with fail
          obtain ⟨wo, rfl⟩ : ∃ wo : World, wo = w1 := ⟨_, rfl⟩
          go_loopw [24] (fun i wq => ∃ (j : Nat) (cur : List Goss.F), j ≤ m ∧ i = .int .i64 j ∧ Hid (Goss.putP cur (zs.drop j) 1#32 j = Z) ∧ Own wq B (.slice (some ⟨g, 0, none⟩) N c) cur ∧ Below B w wq) (fun i _ => m - (intOf i).toNat)
          case atStart => exact ⟨0, cur0, Nat.zero_le _, rfl, HZ.out, ho1, hb1⟩
          case round =>
            clear ho1 hb1 hsk1
            obtain ⟨j, cur, hj, rfl, hx, how, hbq⟩ := hrel
            by_cases hltj : j < m
            · have hs := hsk.below (by rw [HB.out]; exact hbq)
              obtain ⟨b, ob, x, rfl, hx0, hc⟩ := hs.read (k := j) (by omega)
              obtain ⟨y, hy0, hyc, hyf⟩ := how.read (k := j) (by omega)
              have hlti : (j : Int) < m := by omega
              have hltN : (j : Int) < N := by omega
              obtain ⟨z, hzz⟩ : ∃ z, z = y ^^^ x := ⟨_, rfl⟩
              have e3 : bits .xor .u32 (y.toNat : Int) (x.toNat : Int) = (z.toNat : Int) := by rw [hzz]; exact u32_xor _ _
              have Hx0 := Lib.hid hx0; clear hx0
              have Hy0 := Lib.hid hy0; clear hy0
              have Hzz := Lib.hid hzz; clear hzz
              clear hs
              go_wp2
              go_roundw
              case rel =>
                refine ⟨j + 1, cur.set j z, by omega, by first | rfl | go_num, ?_, how.stored _ _, hbq.setCell (by show B ≤ g; exact hgB) _⟩
                have h1 := hx.out
                have hd : zs.drop j = x :: zs.drop (j + 1) := by
                  have hjl : j < zs.length := by rw [Hlz.out]; exact hltj
                  rw [List.drop_eq_getElem_cons hjl]
                  congr 1
                  have := Hx0.out
                  rw [List.getElem?_eq_getElem hjl] at this
                  exact Option.some.inj this
                rw [hd, Goss.putP, Goss.addAt, Hy0.out, Goss.mul_one] at h1
                show Goss.putP _ _ _ _ = _
                rw [Hzz.out]; exact h1
              case measure => first | omega | (simp [intOf]; done) | (simp [intOf]; omega)
            · obtain rfl : j = m := by omega
              go_wp2
              go_roundw
              case rel =>
                refine ⟨k + 1, by omega, by first | rfl | go_num, ?_, hbq⟩
                have h1 := hx.out
                rw [List.drop_eq_nil_of_le (by rw [Hlz.out]; exact Nat.le_refl _)] at h1
                have h2 : cur = Z := h1
                rw [Hnx.out, ← HZ'.out, ← h2]
                have hl := how.sl.len.1
                exact how
              case measure => first | omega | (simp [intOf]; done) | (simp [intOf]; omega)
    · obtain rfl : k = 2 := by omega
      have hd2 : decide (((2 : Nat) : Int) < 2) = false := by decide
      obtain ⟨po, co', rfl⟩ := hown.sl.shape
      have hle := tlen_le (accs xs ys 2) (accs xs ys 2).length
      have hacc : accs xs ys 2 = Goss.xorL xs ys := rfl
      rw [hacc] at hown hle ⊢
      have hR : Goss.addP xs ys = (Goss.xorL xs ys).take (Goss.tlen (Goss.xorL xs ys) (Goss.xorL xs ys).length) := rfl
      clear hacc
      generalize Goss.xorL xs ys = zs at *
      have HR := Lib.hid hR; clear hR
      go_wp2_with fail
      refine (cut_any _ _ _ _ _ hown.sl).mono ?_
      rintro e w3 ⟨rfl, hb3⟩
      go_wp2
      go_ret
      refine ⟨_, rfl, ?_, ?_⟩
      · rw [HB.out, HR.out]; exact (hown.below hb3).cut _ hle
      · rw [HB.out]; exact hbw.trans (hb3.mono (by rw [← HB.out]; exact hbw.size))
end Go.Proofs.Ythglbipcfhdoaaa
