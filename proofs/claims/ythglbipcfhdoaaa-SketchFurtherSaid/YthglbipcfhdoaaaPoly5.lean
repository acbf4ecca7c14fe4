/- package poly: Monic, Common, Squared. -/
import Derived.Test.YthglbipcfhdoaaaPoly4
import Derived.Test.YthglbipcfhdoaaaPolyM
import Derived.WideLaws
namespace Go.Proofs.Ythglbipcfhdoaaa
open Go.RowKit

set_option maxRecDepth 100000 in
set_option maxHeartbeats 1000000 in
theorem monic_any (v : Value) (xs : List Goss.F) (w : World) (h : Sl w v xs) (hlen : xs.length ≤ 35184372088832) :
    Calls Try.prog 119 #[v] w (New (Goss.monicP xs) w) := by
  obtain ⟨p, c, rfl⟩ := h.shape
  have hcut := cut_any p _ c xs w h
  have hs := h.cut _ (tlen_le xs xs.length)
  have hl := trim_length xs
  have hle := tlen_le xs xs.length
  change Sl w (.slice p (Goss.tlen xs xs.length) c) (Goss.trim xs) at hs
  unfold Goss.monicP
  generalize hts : Goss.trim xs = ts at *
  generalize Goss.tlen xs xs.length = m at *
  clear hts
  have Hl := Lib.hid hl; clear hl
  generalize hR : (if ts = [] then ([] : List Goss.F) else Goss.scaleP ts (Goss.inv ((ts[ts.length - 1]?).getD 0#32))) = R
  have HR := Lib.hid hR; clear hR
  go_enter Try.func119, Try.ntmps119
  rcases Nat.eq_zero_or_pos m with rfl | hpos
  · go_wp2_with fail
    refine hcut.mono ?_
    rintro e w1 ⟨rfl, hb⟩
    go_wp2
    go_ret
    rw [← HR.out, if_pos (List.eq_nil_of_length_eq_zero Hl.out)]
    exact ⟨_, rfl, Own.nil _ _, hb⟩
  · have hm0 : (((m : Nat) : Int) == 0) = false := by rw [beq_eq_false_iff_ne]; omega
    have hm10 : (0 : Int) ≤ (m : Int) - 1 := by omega
    have hm1n : ((m : Int) - 1).toNat = m - 1 := by omega
    go_wp2_with fail
    refine hcut.mono ?_
    rintro e w1 ⟨rfl, hb⟩
    have hs1 := hs.below hb
    obtain ⟨b, o, x, rfl, hx, hc⟩ := hs1.read (k := m - 1) (by omega)
    have Hx := Lib.hid hx; clear hx
    have hz := hb.size
    go_wp2_with fail
    refine (inverse_any x w1).mono ?_
    rintro e w1 ⟨rfl, rfl⟩
    go_wp2_with fail
    refine (scale_any _ ts (Goss.inv x) w1 hs1 (by have := Hl.out; omega)).mono ?_
    rintro e w2 ⟨v2, rfl, ho, hb2⟩
    go_wp2
    go_ret
    rw [← HR.out, if_neg (fun e => by have h1 := Hl.out; rw [e] at h1; simp at h1; omega), Hl.out, Hx.out]
    exact ⟨_, rfl, ho.mono hz, hb.trans (hb2.mono hz)⟩

theorem divLoop_length (b : List Goss.F) (iv : Goss.F) (n : Nat) : ∀ r q : List Goss.F, (Goss.divLoop b iv n r q).1.length = q.length ∧ (Goss.divLoop b iv n r q).2.length = r.length := by
  induction n with
  | zero => intro r q; exact ⟨rfl, rfl⟩
  | succ n ih =>
    intro r q
    rw [Goss.divLoop]
    have := ih (Goss.putP r b (Goss.mul ((r[n + b.length - 1]?).getD 0#32) iv) n) (q.set n (Goss.mul ((r[n + b.length - 1]?).getD 0#32) iv))
    rw [List.length_set, putP_length] at this
    exact this
theorem trim_le (a : List Goss.F) : (Goss.trim a).length ≤ a.length := by rw [trim_length]; exact tlen_le _ _
theorem divT_le (a b : List Goss.F) : (Goss.divT a b).2.length ≤ a.length ∧ (Goss.divT a b).1.length ≤ a.length + 1 := by
  unfold Goss.divT
  dsimp only
  have h := divLoop_length b (Goss.inv ((b[b.length - 1]?).getD 0#32)) ((Goss.trim a).length + 1 - b.length) (Goss.trim a) (List.replicate ((Goss.trim a).length + 1 - b.length) 0#32)
  have h1 := trim_le (Goss.divLoop b (Goss.inv ((b[b.length - 1]?).getD 0#32)) ((Goss.trim a).length + 1 - b.length) (Goss.trim a) (List.replicate ((Goss.trim a).length + 1 - b.length) 0#32)).2
  have h2 := trim_le (Goss.divLoop b (Goss.inv ((b[b.length - 1]?).getD 0#32)) ((Goss.trim a).length + 1 - b.length) (Goss.trim a) (List.replicate ((Goss.trim a).length + 1 - b.length) 0#32)).1
  have h3 := trim_le a
  rw [h.2] at h1
  rw [h.1, List.length_replicate] at h2
  omega

def sliceLen : Value → Nat | .slice _ n _ => n | _ => 0
theorem euclid_nil (k : Nat) (a : List Goss.F) : Goss.euclid k a [] = a := by cases k <;> rfl
theorem divT_lt (a b : List Goss.F) (hb : b ≠ []) (ht : Goss.trim b = b) : (Goss.divT a b).2.length < b.length ∧ Goss.trim (Goss.divT a b).2 = (Goss.divT a b).2 := by
  have hl : Goss.co b (b.length - 1) ≠ 0#32 := by
    have := Goss.trim_last b (by rw [ht]; exact hb)
    rw [ht] at this
    exact this
  have := Goss.divT_spec a b hb hl
  exact ⟨this.1, this.2.2.2.2⟩

set_option maxRecDepth 100000 in
set_option maxHeartbeats 1000000 in
theorem common_any (va vb : Value) (us bs : List Goss.F) (w : World) (ha : Sl w va us) (hb : Sl w vb bs) (hla : us.length ≤ 35184372088000) (hlb : bs.length ≤ 35184372088000) :
    Calls Try.prog 104 #[va, vb] w (New (Goss.commonP us bs) w) := by
  obtain ⟨pa, ca, rfl⟩ := ha.shape
  obtain ⟨pb, cb, rfl⟩ := hb.shape
  have hcut1 := cut_any pa _ ca us w ha
  have hcut2 : ∀ w', Sl w' (.slice pb bs.length cb) bs → _ := fun w' h => cut_any pb _ cb bs w' h
  have hta := trim_le us
  have htb := trim_le bs
  have htt1 := trim_trim us
  have htt2 := trim_trim bs
  have hs1 := ha.cut _ (tlen_le us us.length)
  have hs2 := hb.cut _ (tlen_le bs bs.length)
  change Sl w (.slice pa (Goss.tlen us us.length) ca) (Goss.trim us) at hs1
  change Sl w (.slice pb (Goss.tlen bs bs.length) cb) (Goss.trim bs) at hs2
  generalize hR : Goss.commonP us bs = R
  have HR := Lib.hid hR; clear hR
  go_enter Try.func104, Try.ntmps104
  go_wp2_with fail
  refine hcut1.mono ?_
  rintro e w1 ⟨rfl, hb1⟩
  have hb' := hb.below hb1
  go_wp2_with fail
  refine (hcut2 w1 hb').mono ?_
  rintro e w2 ⟨rfl, hb2⟩
  have hB2 := hb1.trans (hb2.mono hb1.size)
  have hx1 := hs1.below hB2
  have hx2 := hs2.below hB2
  clear hb' hcut1 hcut2 hb1 hb2
  unfold Goss.commonP at HR
  generalize Goss.trim us = ts at *
  generalize Goss.trim bs = us' at *
  generalize hB : w.heap.size = B at *
  have HB := Lib.hid hB; clear hB
  have Htt1 := Lib.hid htt1; clear htt1
  have Htt2 := Lib.hid htt2; clear htt2
  go_wp2_with fail
  go_loopw [0, 1] (fun v1 v2 wr => ∃ (k : Nat) (a b : List Goss.F), Sl wr v1 a ∧ Sl wr v2 b ∧ Hid (b.length < k) ∧ Hid (Goss.trim b = b) ∧ a.length ≤ 35184372088000 ∧ b.length ≤ 35184372088000 ∧ Hid (Goss.monicP (Goss.euclid k a b) = R) ∧ Below B w wr ∧ k ≤ us'.length + 1) (fun _ v _ => sliceLen v)
  case atStart => exact ⟨us'.length + 1, ts, us', hx1, hx2, Nat.lt_succ_self _, Htt2, by omega, by omega, HR, hB2, Nat.le_refl _⟩
  case round =>
    obtain ⟨k, a, b, h1, h2, hk, htb', hla', hlb', hx, hbw, _⟩ := hrel
    obtain ⟨p1, c1, rfl⟩ := h1.shape
    obtain ⟨p2, c2, rfl⟩ := h2.shape
    have htt : Goss.trim b = b := htb'.out
    by_cases hb0 : b = []
    · subst hb0
      clear htt
      have hx' : Goss.monicP a = R := by rw [← hx.out, euclid_nil]
      have Hx' := Lib.hid hx'; clear hx'
      go_wp2_with fail
      refine (monic_any _ a wr h1 (by omega)).mono ?_
      rintro e w3 ⟨v3, rfl, ho3, hb3⟩
      go_wp2
      go_ret
      rw [Hx'.out] at ho3
      refine ⟨_, rfl, ?_, ?_⟩
      · rw [HB.out]; exact ho3.mono (by rw [← HB.out]; exact hbw.size)
      · rw [HB.out]; exact hbw.trans (hb3.mono (by rw [← HB.out]; exact hbw.size))
    · have hlt := divT_lt a b hb0 htt
      have hle := (divT_le a b).1
      have hdiv := divide_any (.slice p1 a.length c1) (.slice p2 b.length c2) a b wr h1 h2 hla' hlb' (by rw [htt]; exact hb0)
      rw [htt] at hdiv
      have hpos : 0 < b.length := by
        rcases Nat.eq_zero_or_pos b.length with h | h
        · exact absurd (List.eq_nil_of_length_eq_zero h) hb0
        · exact h
      obtain ⟨k, rfl⟩ : ∃ j, k = j + 1 := ⟨k - 1, by have := hk.out; omega⟩
      have hx' : Goss.monicP (Goss.euclid k b (Goss.divT a b).2) = R := by
        rw [← hx.out, Goss.euclid, if_neg hb0]
      have Hx' := Lib.hid hx'; clear hx'
      have Hlt2 := Lib.hid hlt.2
      have hlt1 := hlt.1
      have hkk := hk.out
      have Hlt1 : Hid ((Goss.divT a b).2.length < k) := by show _ < _; omega
      clear hlt htt hb0 hx htb' hk hkk
      generalize Goss.divT a b = D at *
      have hdec : decide ((0 : Int) < (b.length : Int)) = true := decide_eq_true (by omega)
      go_wp2_with fail
      refine hdiv.mono ?_
      rintro e w3 ⟨vq, vr, rfl, hq3, hr3, hb3⟩
      have h2' := h2.below hb3
      have hs3 := hr3.sl
      have hbw3 := hbw.trans (hb3.mono (by rw [← HB.out]; exact hbw.size))
      obtain ⟨p3, c3, hv⟩ := hs3.shape
      subst hv
      clear hq3 hr3 hb3 hdiv
      go_wp2
      go_roundw
      case rel => exact ⟨k, b, D.2, h2', hs3, Hlt1, Hlt2, hlb', by omega, Hx', hbw3, by omega⟩
      case measure => show sliceLen (Value.slice _ _ _) < sliceLen (Value.slice _ _ _); exact hlt1
end Go.Proofs.Ythglbipcfhdoaaa
