/- package poly: Monic, Common, Squared. -/
import Derived.Test.YthglbipcfhdoaaaPoly4
import Derived.Test.YthglbipcfhdoaaaPolyM
import Derived.WideLaws
namespace Go.Proofs.Ythglbipcfhdoaaa
open Go.RowKit

set_option maxRecDepth 100000 in
set_option maxHeartbeats 1000000 in
theorem monic_any (v : Value) (xs : List Goss.F) (w : World) (h : Sl w v xs) (hlen : xs.length ≤ 35184372088832) :
    Calls Try.prog 119 #[v] w (New (Goss.monicP xs) w) := by
  obtain ⟨p, c, rfl⟩ := h.shape
  have hcut := cut_any p _ c xs w h
  have hs := h.cut _ (tlen_le xs xs.length)
  have hl := trim_length xs
  have hle := tlen_le xs xs.length
  change Sl w (.slice p (Goss.tlen xs xs.length) c) (Goss.trim xs) at hs
  unfold Goss.monicP
  generalize hts : Goss.trim xs = ts at *
  generalize Goss.tlen xs xs.length = m at *
  clear hts
  have Hl := Lib.hid hl; clear hl
  generalize hR : (if ts = [] then ([] : List Goss.F) else Goss.scaleP ts (Goss.inv ((ts[ts.length - 1]?).getD 0#32))) = R
  have HR := Lib.hid hR; clear hR
  go_enter Try.func119, Try.ntmps119
  rcases Nat.eq_zero_or_pos m with rfl | hpos
  · go_wp2_with fail
    refine hcut.mono ?_
    rintro e w1 ⟨rfl, hb⟩
    go_wp2
    go_ret
    rw [← HR.out, if_pos (List.eq_nil_of_length_eq_zero Hl.out)]
    exact ⟨_, rfl, Own.nil _ _, hb⟩
  · have hm0 : (((m : Nat) : Int) == 0) = false := by rw [beq_eq_false_iff_ne]; omega
    have hm10 : (0 : Int) ≤ (m : Int) - 1 := by omega
    have hm1n : ((m : Int) - 1).toNat = m - 1 := by omega
    go_wp2_with fail
    refine hcut.mono ?_
    rintro e w1 ⟨rfl, hb⟩
    have hs1 := hs.below hb
    obtain ⟨b, o, x, rfl, hx, hc⟩ := hs1.read (k := m - 1) (by omega)
    have Hx := Lib.hid hx; clear hx
    have hz := hb.size
    go_wp2_with fail
    refine (inverse_any x w1).mono ?_
    rintro e w1 ⟨rfl, rfl⟩
    go_wp2_with fail
    refine (scale_any _ ts (Goss.inv x) w1 hs1 (by have := Hl.out; omega)).mono ?_
    rintro e w2 ⟨v2, rfl, ho, hb2⟩
    go_wp2
    go_ret
    rw [← HR.out, if_neg (fun e => by have h1 := Hl.out; rw [e] at h1; simp at h1; omega), Hl.out, Hx.out]
    exact ⟨_, rfl, ho.mono hz, hb.trans (hb2.mono hz)⟩

theorem divLoop_length (b : List Goss.F) (iv : Goss.F) (n : Nat) : ∀ r q : List Goss.F, (Goss.divLoop b iv n r q).1.length = q.length ∧ (Goss.divLoop b iv n r q).2.length = r.length := by
  induction n with
  | zero => intro r q; exact ⟨rfl, rfl⟩
  | succ n ih =>
    intro r q
    rw [Goss.divLoop]
    have := ih (Goss.putP r b (Goss.mul ((r[n + b.length - 1]?).getD 0#32) iv) n) (q.set n (Goss.mul ((r[n + b.length - 1]?).getD 0#32) iv))
    rw [List.length_set, putP_length] at this
    exact this
theorem trim_le (a : List Goss.F) : (Goss.trim a).length ≤ a.length := by rw [trim_length]; exact tlen_le _ _
theorem divT_le (a b : List Goss.F) : (Goss.divT a b).2.length ≤ a.length ∧ (Goss.divT a b).1.length ≤ a.length + 1 := by
  unfold Goss.divT
  dsimp only
  have h := divLoop_length b (Goss.inv ((b[b.length - 1]?).getD 0#32)) ((Goss.trim a).length + 1 - b.length) (Goss.trim a) (List.replicate ((Goss.trim a).length + 1 - b.length) 0#32)
  have h1 := trim_le (Goss.divLoop b (Goss.inv ((b[b.length - 1]?).getD 0#32)) ((Goss.trim a).length + 1 - b.length) (Goss.trim a) (List.replicate ((Goss.trim a).length + 1 - b.length) 0#32)).2
  have h2 := trim_le (Goss.divLoop b (Goss.inv ((b[b.length - 1]?).getD 0#32)) ((Goss.trim a).length + 1 - b.length) (Goss.trim a) (List.replicate ((Goss.trim a).length + 1 - b.length) 0#32)).1
  have h3 := trim_le a
  rw [h.2] at h1
  rw [h.1, List.length_replicate] at h2
  omega

def sliceLen : Value → Nat | .slice _ n _ => n | _ => 0
theorem euclid_nil (k : Nat) (a : List Goss.F) : Goss.euclid k a [] = a := by cases k <;> rfl
theorem divT_lt (a b : List Goss.F) (hb : b ≠ []) (ht : Goss.trim b = b) : (Goss.divT a b).2.length < b.length ∧ Goss.trim (Goss.divT a b).2 = (Goss.divT a b).2 := by
  have hl : Goss.co b (b.length - 1) ≠ 0#32 := by
    have := Goss.trim_last b (by rw [ht]; exact hb)
    rw [ht] at this
    exact this
  have := Goss.divT_spec a b hb hl
  exact ⟨this.1, this.2.2.2.2⟩

set_option maxRecDepth 100000 in
set_option maxHeartbeats 1000000 in
theorem common_any (va vb : Value) (us bs : List Goss.F) (w : World) (ha : Sl w va us) (hb : Sl w vb bs) (hla : us.length ≤ 35184372088000) (hlb : bs.length ≤ 35184372088000) :
    Calls Try.prog 104 #[va, vb] w (New (Goss.commonP us bs) w) := by
  obtain ⟨pa, ca, rfl⟩ := ha.shape
  obtain ⟨pb, cb, rfl⟩ := hb.shape
  have hcut1 := cut_any pa _ ca us w ha
  have hcut2 : ∀ w', Sl w' (.slice pb bs.length cb) bs → _ := fun w' h => cut_any pb _ cb bs w' h
  have hta := trim_le us
  have htb := trim_le bs
  have htt1 := trim_trim us
  have htt2 := trim_trim bs
  have hs1 := ha.cut _ (tlen_le us us.length)
  have hs2 := hb.cut _ (tlen_le bs bs.length)
  change Sl w (.slice pa (Goss.tlen us us.length) ca) (Goss.trim us) at hs1
  change Sl w (.slice pb (Goss.tlen bs bs.length) cb) (Goss.trim bs) at hs2
  generalize hR : Goss.commonP us bs = R
  have HR := Lib.hid hR; clear hR
  go_enter Try.func104, Try.ntmps104
  go_wp2_with fail
  refine hcut1.mono ?_
  rintro e w1 ⟨rfl, hb1⟩
  have hb' := hb.below hb1
  go_wp2_with fail
  refine (hcut2 w1 hb').mono ?_
  rintro e w2 ⟨rfl, hb2⟩
  have hB2 := hb1.trans (hb2.mono hb1.size)
  have hx1 := hs1.below hB2
  have hx2 := hs2.below hB2
  clear hb' hcut1 hcut2 hb1 hb2
  unfold Goss.commonP at HR
  generalize Goss.trim us = ts at *
  generalize Goss.trim bs = us' at *
  generalize hB : w.heap.size = B at *
  have HB := Lib.hid hB; clear hB
  have Htt1 := Lib.hid htt1; clear htt1
  have Htt2 := Lib.hid htt2; clear htt2
  go_wp2_with fail
  go_loopw [0, 1] (fun v1 v2 wr => ∃ (k : Nat) (a b : List Goss.F), Sl wr v1 a ∧ Sl wr v2 b ∧ Hid (b.length < k) ∧ Hid (Goss.trim b = b) ∧ a.length ≤ 35184372088000 ∧ b.length ≤ 35184372088000 ∧ Hid (Goss.monicP (Goss.euclid k a b) = R) ∧ Below B w wr ∧ k ≤ us'.length + 1) (fun _ v _ => sliceLen v)
  case atStart => exact ⟨us'.length + 1, ts, us', hx1, hx2, Nat.lt_succ_self _, Htt2, by omega, by omega, HR, hB2, Nat.le_refl _⟩
  case round =>
    obtain ⟨k, a, b, h1, h2, hk, htb', hla', hlb', hx, hbw, _⟩ := hrel
    obtain ⟨p1, c1, rfl⟩ := h1.shape
    obtain ⟨p2, c2, rfl⟩ := h2.shape
    have htt : Goss.trim b = b := htb'.out
    by_cases hb0 : b = []
    · subst hb0
      clear htt
      have hx' : Goss.monicP a = R := by rw [← hx.out, euclid_nil]
      have Hx' := Lib.hid hx'; clear hx'
      go_wp2_with fail
      refine (monic_any _ a wr h1 (by omega)).mono ?_
      rintro e w3 ⟨v3, rfl, ho3, hb3⟩
      go_wp2
      go_ret
      rw [Hx'.out] at ho3
      refine ⟨_, rfl, ?_, ?_⟩
      · rw [HB.out]; exact ho3.mono (by rw [← HB.out]; exact hbw.size)
      · rw [HB.out]; exact hbw.trans (hb3.mono (by rw [← HB.out]; exact hbw.size))
    · have hlt := divT_lt a b hb0 htt
      have hle := (divT_le a b).1
      have hdiv := divide_any (.slice p1 a.length c1) (.slice p2 b.length c2) a b wr h1 h2 hla' hlb' (by rw [htt]; exact hb0)
      rw [htt] at hdiv
      have hpos : 0 < b.length := by
        rcases Nat.eq_zero_or_pos b.length with h | h
        · exact absurd (List.eq_nil_of_length_eq_zero h) hb0
        · exact h
      obtain ⟨k, rfl⟩ : ∃ j, k = j + 1 := ⟨k - 1, by have := hk.out; omega⟩
      have hx' : Goss.monicP (Goss.euclid k b (Goss.divT a b).2) = R := by
        rw [← hx.out, Goss.euclid, if_neg hb0]
      have Hx' := Lib.hid hx'; clear hx'
      have Hlt2 := Lib.hid hlt.2
      have hlt1 := hlt.1
      have hkk := hk.out
      have Hlt1 : Hid ((Goss.divT a b).2.length < k) := by show _ < _; omega
      clear hlt htt hb0 hx htb' hk hkk
      generalize Goss.divT a b = D at *
      have hdec : decide ((0 : Int) < (b.length : Int)) = true := decide_eq_true (by omega)
      go_wp2_with fail
      refine hdiv.mono ?_
      rintro e w3 ⟨vq, vr, rfl, hq3, hr3, hb3⟩
      have h2' := h2.below hb3
      have hs3 := hr3.sl
      have hbw3 := hbw.trans (hb3.mono (by rw [← HB.out]; exact hbw.size))
      obtain ⟨p3, c3, hv⟩ := hs3.shape
      subst hv
      clear hq3 hr3 hb3 hdiv
      go_wp2
      go_roundw
      case rel => exact ⟨k, b, D.2, h2', hs3, Hlt1, Hlt2, hlb', by omega, Hx', hbw3, by omega⟩
      case measure => show sliceLen (Value.slice _ _ _) < sliceLen (Value.slice _ _ _); exact hlt1
end Go.Proofs.Ythglbipcfhdoaaa
/- package poly: Add of two, Squared. -/
namespace Go.Proofs.Ythglbipcfhdoaaa
open Go.RowKit

def accs (xs ys : List Goss.F) : Nat → List Goss.F
  | 0 => []
  | 1 => xs
  | _ => Goss.xorL xs ys

set_option maxRecDepth 100000 in
set_option maxHeartbeats 2000000 in
theorem add_any (L o : Nat) (va vb : Value) (xs ys : List Goss.F) (w : World) (hL : L < w.heap.size) (hc0 : w.cell? ⟨L, o, none⟩ = some va) (hc1 : w.cell? ⟨L, o + 1, none⟩ = some vb)
    (ha : Sl w va xs) (hb : Sl w vb ys) (hla : xs.length ≤ 17592186044416) (hlb : ys.length ≤ 17592186044416) :
    Calls Try.prog 105 #[.slice (some ⟨L, o, none⟩) 2 2] w (New (Goss.addP xs ys) w) := by
  generalize hB : w.heap.size = B at *
  have HB := Lib.hid hB; clear hB
  have Hc0 := Lib.hid hc0; clear hc0
  have Hc1 := Lib.hid hc1; clear hc1
  go_enter Try.func105, Try.ntmps105
  go_wp2_with fail
  go_loopw [3, 10] (fun vo i wr => ∃ k : Nat, k ≤ 2 ∧ i = .int .i64 k ∧ Own wr B vo (accs xs ys k) ∧ Below B w wr) (fun _ i _ => 2 - (intOf i).toNat)
  case atStart => exact ⟨0, by omega, rfl, Own.nil _ _, Below.refl _ _⟩
  case round =>
    obtain ⟨k, hk, rfl, hown, hbw⟩ := hrel
    by_cases hlt : k < 2
    · -- which of the two
      obtain ⟨vk, zs, hvk, hsk, hlk, hacc⟩ : ∃ vk zs, w.cell? ⟨L, o + k, none⟩ = some vk ∧ Sl w vk zs ∧ zs.length ≤ 17592186044416 ∧ accs xs ys (k + 1) = Goss.xorL (accs xs ys k) zs := by
        rcases (show k = 0 ∨ k = 1 from by omega) with rfl | rfl
        · exact ⟨va, xs, Hc0.out, ha, hla, (Goss.xorL_nil xs).symm⟩
        · exact ⟨vb, ys, Hc1.out, hb, hlb, rfl⟩
      have hcell : wr.cell? ⟨L, o + k, none⟩ = some vk := (hbw.cell (p := ⟨L, o + k, none⟩) hL).trans hvk
      have hskw := hsk.below (by rw [HB.out]; exact hbw)
      have hll : (accs xs ys k).length ≤ 17592186044416 := by
        rcases (show k = 0 ∨ k = 1 from by omega) with rfl | rfl
        · exact Nat.zero_le _
        · exact hla
      generalize accs xs ys k = out at *
      obtain ⟨nxt, hnxt⟩ : ∃ n, accs xs ys (k + 1) = n := ⟨_, rfl⟩
      rw [hnxt] at hacc
      have Hnx := Lib.hid hnxt; clear hnxt
      have Hacc := Lib.hid hacc; clear hacc
      have hkz : (k : Int) < 2 := by omega
      have hd2 : decide ((k : Int) < 2) = true := decide_eq_true (by omega)
      have hzB : B ≤ wr.heap.size := by rw [← HB.out]; exact hbw.size
      obtain ⟨pk, ck, hvk'⟩ := hskw.shape
      subst hvk'
      obtain ⟨po, co', rfl⟩ := hown.sl.shape
      clear hvk
      generalize hlz : zs.length = m at *
      generalize hlo : out.length = n at *
      have Hlz := Lib.hid hlz; clear hlz
      have Hlo := Lib.hid hlo; clear hlo
      by_cases hcmp : n < m
      all_goals
        have hcmp' : (n : Int) < m ∨ (m : Int) ≤ n := by omega
        go_wp2_with (at_builtin; refine app_zeros rfl _ _ rfl B _ out rfl hown _ (m - n) rfl (by omega) (by have := Hlo.out; omega) hzB ?_)
        intro v1 w1 ho1 hg1
        have hb1 := grown_below hbw hown hzB hg1
        have hsk1 : Sl w1 (.slice pk m ck) zs := hsk.below (by rw [HB.out]; exact hb1)
        clear hcell hskw hown hbw hzB hg1 hcmp'
        have hl1 : (out ++ List.replicate (m - n) 0#32).length = max n m := by have := Hlo.out; simp; omega
        obtain ⟨Z, hZ⟩ : ∃ Z, Goss.putP (out ++ List.replicate (m - n) 0#32) zs 1#32 0 = Z := ⟨_, rfl⟩
        have hZ' : Z = nxt := by rw [← hZ, Hacc.out, ← Hlz.out, ← Hlo.out]; exact Goss.putP_one out zs
        have HZ := Lib.hid hZ; clear hZ
        have HZ' := Lib.hid hZ'; clear hZ'
        rcases ho1.shape with ⟨rfl, h0⟩ | ⟨g, c, rfl, hg1, hg2, _, _⟩
        · -- nothing there, nothing to be put
          have hm0 : m = 0 := by rw [h0] at hl1; simp at hl1; omega
          subst hm0
          have hz0 : zs = [] := List.eq_nil_of_length_eq_zero Hlz.out
          have hout : Hid (out = []) := (List.append_eq_nil_iff.1 h0).1
          clear hl1 h0
          go_wp2_with fail
          obtain ⟨wo, rfl⟩ : ∃ wo : World, wo = w1 := ⟨_, rfl⟩
          go_loopw [24] (fun i wq => i = .int .i64 0 ∧ wq = wo) (fun _ _ => 0)
          case atStart => exact ⟨rfl, rfl⟩
          case round =>
            obtain ⟨rfl, rfl⟩ := hrel
            go_wp2
            go_roundw
            case rel =>
              refine ⟨k + 1, by omega, by first | rfl | go_num, ?_, hb1⟩
              have : nxt = [] := by
                have h1 := Hacc.out
                rw [hz0, Goss.xorL_nil_right] at h1
                rw [h1]
                exact hout.out
              rw [Hnx.out, this]
              exact Own.nil _ _
            case measure => first | omega | (simp [intOf]; done) | (simp [intOf]; omega)
        · have hN : (out ++ List.replicate (m - n) 0#32).length = max n m := hl1
          generalize hcur : out ++ List.replicate (m - n) 0#32 = cur0 at *
          clear hcur
          obtain ⟨N, hNm⟩ : ∃ N, max n m = N := ⟨_, rfl⟩
          rw [hNm] at hN
          have hmN : m ≤ N := by omega
          rw [hN] at ho1 ⊢
          have HN := Lib.hid hN; clear hN hl1 hNm
          have hgB : B ≤ g := hg1
          go_wp2_with fail
          obtain ⟨wo, rfl⟩ : ∃ wo : World, wo = w1 := ⟨_, rfl⟩
          go_loopw [24] (fun i wq => ∃ (j : Nat) (cur : List Goss.F), j ≤ m ∧ i = .int .i64 j ∧ Hid (Goss.putP cur (zs.drop j) 1#32 j = Z) ∧ Own wq B (.slice (some ⟨g, 0, none⟩) N c) cur ∧ Below B w wq) (fun i _ => m - (intOf i).toNat)
          case atStart => exact ⟨0, cur0, Nat.zero_le _, rfl, HZ.out, ho1, hb1⟩
          case round =>
            clear ho1 hb1 hsk1
            obtain ⟨j, cur, hj, rfl, hx, how, hbq⟩ := hrel
            by_cases hltj : j < m
            · have hs := hsk.below (by rw [HB.out]; exact hbq)
              obtain ⟨b, ob, x, rfl, hx0, hc⟩ := hs.read (k := j) (by omega)
              obtain ⟨y, hy0, hyc, hyf⟩ := how.read (k := j) (by omega)
              have hlti : (j : Int) < m := by omega
              have hltN : (j : Int) < N := by omega
              obtain ⟨z, hzz⟩ : ∃ z, z = y ^^^ x := ⟨_, rfl⟩
              have e3 : bits .xor .u32 (y.toNat : Int) (x.toNat : Int) = (z.toNat : Int) := by rw [hzz]; exact u32_xor _ _
              have Hx0 := Lib.hid hx0; clear hx0
              have Hy0 := Lib.hid hy0; clear hy0
              have Hzz := Lib.hid hzz; clear hzz
              clear hs
              go_wp2
              go_roundw
              case rel =>
                refine ⟨j + 1, cur.set j z, by omega, by first | rfl | go_num, ?_, how.stored _ _, hbq.setCell (by show B ≤ g; exact hgB) _⟩
                have h1 := hx.out
                have hd : zs.drop j = x :: zs.drop (j + 1) := by
                  have hjl : j < zs.length := by rw [Hlz.out]; exact hltj
                  rw [List.drop_eq_getElem_cons hjl]
                  congr 1
                  have := Hx0.out
                  rw [List.getElem?_eq_getElem hjl] at this
                  exact Option.some.inj this
                rw [hd, Goss.putP, Goss.addAt, Hy0.out, Goss.mul_one] at h1
                show Goss.putP _ _ _ _ = _
                rw [Hzz.out]; exact h1
              case measure => first | omega | (simp [intOf]; done) | (simp [intOf]; omega)
            · obtain rfl : j = m := by omega
              go_wp2
              go_roundw
              case rel =>
                refine ⟨k + 1, by omega, by first | rfl | go_num, ?_, hbq⟩
                have h1 := hx.out
                rw [List.drop_eq_nil_of_le (by rw [Hlz.out]; exact Nat.le_refl _)] at h1
                have h2 : cur = Z := h1
                rw [Hnx.out, ← HZ'.out, ← h2]
                have hl := how.sl.len.1
                exact how
              case measure => first | omega | (simp [intOf]; done) | (simp [intOf]; omega)
    · obtain rfl : k = 2 := by omega
      have hd2 : decide (((2 : Nat) : Int) < 2) = false := by decide
      obtain ⟨po, co', rfl⟩ := hown.sl.shape
      have hle := tlen_le (accs xs ys 2) (accs xs ys 2).length
      have hacc : accs xs ys 2 = Goss.xorL xs ys := rfl
      rw [hacc] at hown hle ⊢
      have hR : Goss.addP xs ys = (Goss.xorL xs ys).take (Goss.tlen (Goss.xorL xs ys) (Goss.xorL xs ys).length) := rfl
      clear hacc
      generalize Goss.xorL xs ys = zs at *
      have HR := Lib.hid hR; clear hR
      go_wp2_with fail
      refine (cut_any _ _ _ _ _ hown.sl).mono ?_
      rintro e w3 ⟨rfl, hb3⟩
      go_wp2
      go_ret
      refine ⟨_, rfl, ?_, ?_⟩
      · rw [HB.out, HR.out]; exact (hown.below hb3).cut _ hle
      · rw [HB.out]; exact hbw.trans (hb3.mono (by rw [← HB.out]; exact hbw.size))
end Go.Proofs.Ythglbipcfhdoaaa
/- package poly: Squared. -/
namespace Go.Proofs.Ythglbipcfhdoaaa
open Go.RowKit

def SqEnd (r : List Goss.F) (w : World) (e : Ending) (w' : World) : Prop :=
  ∃ vr, e = .returned (.tuple #[vr, .nilIface]) ∧ Own w' w.heap.size vr r ∧ Below w.heap.size w w'

/-- The first j squares are in. -/
def SqTo (xs cur : List Goss.F) (j : Nat) : Prop := ∀ i, Goss.co cur i = if i % 2 = 0 ∧ i / 2 < j then Goss.sq (Goss.co xs (i / 2)) else 0#32

theorem SqTo.step {xs cur : List Goss.F} {j : Nat} (h : SqTo xs cur j) (hl : 2 * j < cur.length) : SqTo xs (cur.set (2 * j) (Goss.sq (Goss.co xs j))) (j + 1) := by
  intro i
  rw [Goss.co_set _ _ _ _ hl]
  by_cases e : 2 * j = i
  · subst e
    rw [if_pos rfl, if_pos (by omega)]
    congr 2
    omega
  · rw [if_neg e, h i]
    by_cases h2 : i % 2 = 0 ∧ i / 2 < j
    · rw [if_pos h2, if_pos (by omega)]
    · rw [if_neg h2, if_neg (by omega)]
theorem SqTo.done {xs cur : List Goss.F} (h : SqTo xs cur xs.length) (hl : cur.length = 2 * xs.length - 1) : cur = Goss.spread xs := by
  apply Goss.ext_co
  · rw [hl, Goss.spread_len]
  · intro i
    rw [h i, Goss.co_spread]
    have h0 : Goss.sq 0#32 = 0#32 := Goss.zero_mul _
    by_cases h1 : i % 2 = 0
    · by_cases h2 : i / 2 < xs.length
      · rw [if_pos ⟨h1, h2⟩, if_pos h1]
      · rw [if_neg (by omega), if_pos h1]
        have : Goss.co xs (i / 2) = 0#32 := by
          unfold Goss.co
          rw [List.getElem?_eq_none (by omega)]; rfl
        rw [this, h0]
    · rw [if_neg (by omega), if_neg h1]
theorem SqTo.start (xs : List Goss.F) (n : Nat) : SqTo xs (List.replicate n 0#32) 0 := by
  intro i
  rw [if_neg (by omega)]
  unfold Goss.co
  rw [List.getElem?_replicate]
  split <;> rfl

set_option maxRecDepth 100000 in
set_option maxHeartbeats 2000000 in
theorem squared_any (va vb : Value) (xs bs : List Goss.F) (w : World) (ha : Sl w va xs) (hb : Sl w vb bs) (hla : xs.length ≤ 8796093022208) (hlb : bs.length ≤ 35184372088000) (hnz : Goss.trim bs ≠ []) :
    Calls Try.prog 120 #[va, vb] w (SqEnd (Goss.squaredP xs bs) w) := by
  obtain ⟨pa, ca, rfl⟩ := ha.shape
  obtain ⟨pb, cb, rfl⟩ := hb.shape
  generalize hB : w.heap.size = B at *
  have HB := Lib.hid hB; clear hB
  generalize hm : xs.length = m at *
  have Hm := Lib.hid hm; clear hm
  have hm2 : m ≤ 8796093022208 := hla
  clear hla
  rcases Nat.eq_zero_or_pos m with rfl | hpos
  · have hx0 : xs = [] := List.eq_nil_of_length_eq_zero Hm.out
    subst hx0
    go_enter Try.func120, Try.ntmps120
    go_wp2_with (at_make; refine mk_own rfl _ _ rfl B .i64 .i64 _ _ 0 rfl rfl (by rfl) (by rfl) (by omega) (by rw [HB.out]; exact Nat.le_refl _) ?_)
    intro w1 hq hgr
    have hb1 : Below B w w1 := ⟨hgr.os, hgr.tape, hgr.output, hgr.size, fun k hk => hgr.block k (by rw [HB.out]; exact hk) (by simp)⟩
    go_wp2_with fail
    go_loopw [20] (fun i wr => i = .int .i64 0 ∧ wr = w1) (fun _ _ => 0)
    case atStart => exact ⟨rfl, rfl⟩
    case round =>
      obtain ⟨rfl, rfl⟩ := hrel
      go_wp2_with fail
      refine (divide_any _ _ [] bs wr hq.sl (hb.below (by rw [HB.out]; exact hb1)) (by simp) hlb hnz).mono ?_
      rintro e w3 ⟨vq, vr, rfl, _, hr3, hb3⟩
      go_wp2
      go_ret2
      refine ⟨_, rfl, ?_, ?_⟩
      · rw [HB.out]; exact hr3.mono (by rw [← HB.out]; exact hb1.size)
      · rw [HB.out]; exact hb1.trans (hb3.mono (by rw [← HB.out]; exact hb1.size))
  · go_enter Try.func120, Try.ntmps120
    go_wp2_with (at_make; refine mk_own rfl _ _ rfl B .i64 .i64 _ _ (2 * m - 1) rfl rfl (by omega) (by omega) (by omega) (by rw [HB.out]; exact Nat.le_refl _) ?_)
    intro w1 hq hgr
    have hb1 : Below B w w1 := ⟨hgr.os, hgr.tape, hgr.output, hgr.size, fun k hk => hgr.block k (by rw [HB.out]; exact hk) (by simp)⟩
    rw [HB.out] at hq
    rw [HB.out]
    have hlq := hq.lt
    obtain ⟨N, hN⟩ : ∃ N, 2 * m - 1 = N := ⟨_, rfl⟩
    rw [hN] at hq ⊢
    have HN := Lib.hid hN; clear hN
    have hN2 : 2 * m = N + 1 := by have := HN.out; omega
    have HN2 := Lib.hid hN2; clear hN2
    clear hgr
    go_wp2_with fail
    go_loopw [20] (fun i wr => ∃ (j : Nat) (cur : List Goss.F), j ≤ m ∧ i = .int .i64 j ∧ Hid (SqTo xs cur j) ∧ Own wr B (.slice (some ⟨B, 0, none⟩) N N) cur ∧ Below B w wr) (fun i _ => m - (intOf i).toNat)
    case atStart => exact ⟨0, _, Nat.zero_le _, rfl, SqTo.start _ _, hq, hb1⟩
    case round =>
      clear hq hb1 hlq
      obtain ⟨j, cur, hj, rfl, hx, how, hbw⟩ := hrel
      by_cases hlt : j < m
      · have hs := ha.below (by rw [HB.out]; exact hbw)
        obtain ⟨b, o, x, rfl, hx0, hc⟩ := hs.read (k := j) (by omega)
        have h2 := HN2.out
        obtain ⟨y, hy0, hyc, hyf⟩ := how.read (k := 2 * j) (by omega)
        have hlti : (j : Int) < m := by omega
        have hi2 : 2 * (j : Int) < N := by omega
        have hi3 : (0 : Int) ≤ 2 * (j : Int) := by omega
        have hi4 : (2 * (j : Int)).toNat = 2 * j := by omega
        have Hx0 := Lib.hid hx0; clear hx0 hy0 h2 hs
        go_wp2_with (go_at_call 61; refine (square_any _ _).mono ?_; rintro e w' ⟨rfl, rfl⟩)
        go_roundw
        case rel =>
          refine ⟨j + 1, cur.set (2 * j) (Goss.sq x), by omega, by first | rfl | go_num, ?_, how.stored _ _, hbw.setCell (by show B ≤ B; omega) _⟩
          have hl := how.sl.len.1
          have h3 := SqTo.step hx.out (by have := HN2.out; omega)
          have h4 : Goss.co xs j = x := by unfold Goss.co; rw [Hx0.out]; rfl
          rw [h4] at h3
          exact h3
        case measure => first | omega | (simp [intOf]; done) | (simp [intOf]; omega)
      · obtain rfl : j = m := by omega
        have hcur : cur = Goss.spread xs := by
          apply SqTo.done
          · rw [Hm.out]; exact hx.out
          · have := how.sl.len.1; rw [Hm.out, HN.out, this]
        subst hcur
        have hls := Goss.spread_len xs
        have hdl : (Goss.spread xs).length ≤ 35184372088000 := by rw [hls, Hm.out]; omega
        have hsp := how.sl
        have hsb := hb.below (by rw [HB.out]; exact hbw)
        clear hls
        have hR : Goss.squaredP xs bs = (Goss.divT (Goss.spread xs) (Goss.trim bs)).2 := rfl
        generalize Goss.spread xs = zs at *
        have HR := Lib.hid hR; clear hR
        go_wp2_with fail
        refine (divide_any _ _ zs bs wr hsp hsb hdl hlb hnz).mono ?_
        rintro e w3 ⟨vq, vr, rfl, _, hr3, hb3⟩
        go_wp2
        go_ret2
        refine ⟨_, rfl, ?_, ?_⟩
        · rw [HR.out, HB.out]; exact hr3.mono (by rw [← HB.out]; exact hbw.size)
        · rw [HB.out]; exact hbw.trans (hb3.mono (by rw [← HB.out]; exact hbw.size))
end Go.Proofs.Ythglbipcfhdoaaa
