/- package poly: Divide. -/
import Derived.Test.YthglbipcfhdoaaaPolyA
namespace Go.Proofs.Ythglbipcfhdoaaa
open Go.RowKit

def DivEnd (q r : List Goss.F) (w : World) (e : Ending) (w' : World) : Prop :=
  ∃ vq vr, e = .returned (.tuple #[vq, vr, .nilIface]) ∧ Own w' w.heap.size vq q ∧ Own w' w.heap.size vr r ∧ Below w.heap.size w w'

theorem tlen_take (a : List Goss.F) (n k : Nat) (h : k ≤ n) : Goss.tlen (a.take n) k = Goss.tlen a k := by
  induction k with
  | zero => rfl
  | succ k ih =>
    have hk : k < n := by omega
    rw [tlen_succ, tlen_succ, ih (by omega), List.getElem?_take]
    simp only [hk, if_true]
theorem trim_length (a : List Goss.F) : (Goss.trim a).length = Goss.tlen a a.length := by
  unfold Goss.trim
  rw [List.length_take]
  have := tlen_le a a.length
  omega
theorem tlen_idem (a : List Goss.F) (n : Nat) : Goss.tlen a (Goss.tlen a n) = Goss.tlen a n := by
  induction n with
  | zero => rfl
  | succ n ih =>
    rw [tlen_succ]
    split
    · exact ih
    · rename_i h
      rw [tlen_succ, if_neg h]
theorem trim_trim (a : List Goss.F) : Goss.trim (Goss.trim a) = Goss.trim a := by
  have h := trim_length a
  have : Goss.tlen (Goss.trim a) (Goss.tlen a a.length) = Goss.tlen a a.length := by
    unfold Goss.trim
    rw [tlen_take _ _ _ (Nat.le_refl _), tlen_idem]
  show (Goss.trim a).take (Goss.tlen (Goss.trim a) (Goss.trim a).length) = _
  rw [h, this, ← h, List.take_length]

set_option maxRecDepth 100000 in
set_option maxHeartbeats 1000000 in
theorem divide_any (va vb : Value) (us bs : List Goss.F) (w : World) (ha : Sl w va us) (hb : Sl w vb bs) (hla : us.length ≤ 35184372088000) (hlb : bs.length ≤ 35184372088000) (hnz : Goss.trim bs ≠ []) :
    Calls Try.prog 118 #[va, vb] w (DivEnd (Goss.divT us (Goss.trim bs)).1 (Goss.divT us (Goss.trim bs)).2 w) := by
  obtain ⟨pb, cb, rfl⟩ := hb.shape
  have hcut := cut_any pb _ cb bs w hb
  have hsb := hb.cut _ (tlen_le bs bs.length)
  have hm1 : 1 ≤ (Goss.trim bs).length := by
    rcases Nat.eq_zero_or_pos (Goss.trim bs).length with h | h
    · exact absurd (List.eq_nil_of_length_eq_zero h) hnz
    · exact h
  have hmle : (Goss.trim bs).length ≤ bs.length := by rw [trim_length]; exact tlen_le _ _
  rw [trim_length] at hm1 hmle
  have hsb' : Sl w (.slice pb (Goss.tlen bs bs.length) cb) (Goss.trim bs) := hsb
  have hmlen := trim_length bs
  have hra := trim_length us
  have hrle := tlen_le us us.length
  generalize hbs' : Goss.trim bs = bs' at *
  have hr0 := trim_any va us
  generalize hrs : Goss.trim us = rs at *
  generalize hmm : Goss.tlen bs bs.length = m at *
  generalize hnr : rs.length = nr at *
  have Hd := Lib.hid (rfl : Goss.divT us bs' = Goss.divT us bs')
  generalize hD : Goss.divT us bs' = D at *
  clear Hd
  have HD := Lib.hid hD; clear hD
  have Hrs := Lib.hid hrs; clear hrs
  have Hnr := Lib.hid hnr; clear hnr
  have Hml := Lib.hid hmlen; clear hmlen
  have hm63 : m ≤ 35184372088000 := by omega
  have hr63 : nr ≤ 35184372088000 := by omega
  clear hra hrle hbs' hmm hsb hnz hmle
  have hm0 : (((m : Nat) : Int) == 0) = false := by rw [beq_eq_false_iff_ne]; omega
  go_enter Try.func118, Try.ntmps118
  go_wp2_with fail
  refine hcut.mono ?_
  rintro e w1 ⟨rfl, hb1⟩
  have ha1 := ha.below hb1
  have hs1 := hsb'.below hb1
  go_wp2_with fail
  refine (hr0 w1 ha1 (by omega)).mono ?_
  rintro e w2 ⟨vr, rfl, hor, hb2⟩
  have hs2 := hs1.below hb2
  have hz1 := hb1.size
  have hor' := hor.mono hz1
  have hB2 := hb1.trans (hb2.mono hz1)
  have hz2 := hB2.size
  clear hor ha1 hs1 hb1 hb2 hz1 hcut hr0
  have hshape := hor'.shape
  rw [Hnr.out] at hshape
  have hmax : max (0 : Int) ((nr : Int) - m + 1) = ((nr + 1 - m : Nat) : Int) := by omega
  obtain ⟨pv, cv, hv⟩ : ∃ pv cv, vr = .slice pv nr cv := by
    rcases hshape with ⟨rfl, rfl⟩ | ⟨g, c, rfl, _⟩
    · exact ⟨none, 0, by rw [← Hnr.out]; rfl⟩
    · exact ⟨_, _, rfl⟩
  subst hv
  obtain ⟨b0, o0, x0, rfl, hx0, hxc⟩ := hs2.read (k := m - 1) (by omega)
  have hiv : Goss.inv ((bs'[bs'.length - 1]?).getD 0#32) = Goss.inv x0 := by rw [Hml.out, hx0]; rfl
  have hxc' : ∀ W : World, Below w2.heap.size w2 W → W.cell? ⟨b0, o0 + (m - 1), none⟩ = some (.int .u32 x0.toNat) := by
    intro W hW
    obtain ⟨b1, o1, x1, h1, h2, h3⟩ := (hs2.below hW).read (k := m - 1) (by omega)
    simp only [Option.some.injEq, Addr.mk.injEq, and_true] at h1
    obtain ⟨rfl, rfl⟩ := h1
    rw [hx0] at h2
    cases h2
    exact h3
  have Hiv := Lib.hid hiv; clear hiv hx0
  have Hxc := Lib.hid hxc'; clear hxc hxc'
  have hm10 : (0 : Int) ≤ (m : Int) - 1 := by omega
  have hm1n : ((m : Int) - 1).toNat = m - 1 := by omega
  generalize hB : w.heap.size = B at *
  have HB := Lib.hid hB; clear hB
  clear hmax
  by_cases hge : m ≤ nr
  · obtain ⟨N, hN⟩ : ∃ N : Nat, N = nr + 1 - m := ⟨_, rfl⟩
    have hge' : (m : Int) ≤ nr := by omega
    have HN := Lib.hid hN; clear hN
    have hN1 : 1 ≤ N := by have := HN.out; omega
    go_wp2_with (at_make; refine mk_own rfl _ _ rfl B .i64 .i64 _ _ N rfl rfl ?_ ?_ ?_ hz2 ?_)
    · have := HN.out; omega
    · have := HN.out; omega
    · have := HN.out; omega
    · intro w3 hq hgr
      have hb3 : Below w2.heap.size w2 w3 := ⟨hgr.os, hgr.tape, hgr.output, hgr.size, fun k hk => hgr.block k hk (by simp)⟩
      have hc3 := Hxc.out w3 hb3
      have hb0 := hsb'.blk
      rw [HB.out] at hb0
      rcases hshape with ⟨h, h0⟩ | ⟨g, c, h, hgB, hg2, _, _⟩
      · exfalso
        have h1 := Hnr.out
        rw [h0] at h1
        simp at h1
        omega
      simp only [Value.slice.injEq] at h
      obtain ⟨rfl, _, rfl⟩ := h
      have hor3 := hor'.below hb3
      have hB3 := hB2.trans (hb3.mono hz2)
      obtain ⟨Q, hQ⟩ : ∃ Q, Q = w2.heap.size := ⟨_, rfl⟩
      have hQg : g < Q := by omega
      rw [← hQ] at hq ⊢
      have hz3 := hB3.size
      clear hb3 hgr hB2 hor' hs2 hQ hg2 hz2
      go_wp2_with fail
      refine (inverse_any x0 w3).mono ?_
      rintro e w3 ⟨rfl, rfl⟩
      generalize hiv : Goss.inv x0 = iv
      have Hiv2 := Lib.hid hiv; clear hiv
      obtain ⟨X, hX⟩ : ∃ X, Goss.divLoop bs' iv N rs (List.replicate N 0#32) = X := ⟨_, rfl⟩
      have HX := Lib.hid hX; clear hX
      go_wp2_with fail
      go_loopw [11] (fun i wr => ∃ (k : Nat) (rc qc : List Goss.F), k ≤ N ∧ i = .int .i64 ((k : Int) - 1) ∧ Hid (Goss.divLoop bs' iv k rc qc = X) ∧ Own wr B (.slice (some ⟨g, 0, none⟩) nr cv) rc ∧ Own wr B (.slice (some ⟨Q, 0, none⟩) N N) qc ∧ Below B w wr) (fun i _ => (intOf i + 1).toNat)
      case atStart => exact ⟨N, rs, _, Nat.le_refl _, by first | rfl | (congr 1; have := HN.out; omega), HX.out, hor3, hq, hB3⟩
      case round =>
        clear hor3 hq hB3 hc3
        obtain ⟨k, rc, qc, hk, rfl, hx, hor, hq, hbw⟩ := hrel
        rcases Nat.eq_zero_or_pos k with rfl | hpos
        · have hge0 : decide ((0 : Int) ≤ ((0 : Nat) : Int) - 1) = false := by decide
          have hcq := cut_any _ _ _ _ _ hq.sl
          have hlq := Lib.hid hq.sl.len.1
          have hlr := Lib.hid hor.sl.len.1
          have hle1 := tlen_le qc qc.length
          have hle2 := tlen_le rc rc.length
          go_wp2_with fail
          refine hcq.mono ?_
          rintro e w5 ⟨rfl, hb5⟩
          have hor5 := hor.below hb5
          have hq5 := hq.below hb5
          go_wp2_with fail
          refine (cut_any _ _ _ _ _ hor5.sl).mono ?_
          rintro e w6 ⟨rfl, hb6⟩
          go_wp2
          go_ret3
          have hX := hx.out
          rw [Goss.divLoop] at hX
          have hDD : D = (Goss.trim qc, Goss.trim rc) := by
            rw [← HD.out]
            unfold Goss.divT
            dsimp only
            rw [Hrs.out, Hiv.out, Hiv2.out, Hnr.out, Hml.out]
            have e1 := HX.out
            rw [HN.out] at e1
            rw [e1, ← hX]
          refine ⟨_, _, rfl, ?_, ?_, ?_⟩
          · rw [hDD, HB.out]
            have := (hq5.below hb6).cut _ (by rw [hlq.out]; exact hle1)
            exact this
          · rw [hDD, HB.out]
            have := (hor5.below hb6).cut _ (by rw [hlr.out]; exact hle2)
            exact this
          · rw [HB.out]
            have h5 := hbw.trans (hb5.mono (by rw [← HB.out]; exact hbw.size))
            exact h5.trans (hb6.mono (by rw [← HB.out]; exact h5.size))
        · obtain ⟨k, rfl⟩ : ∃ j, k = j + 1 := ⟨k - 1, by omega⟩
          have hNN := HN.out
          have hge0 : decide ((0 : Int) ≤ ((k + 1 : Nat) : Int) - 1) = true := decide_eq_true (by omega)
          obtain ⟨y, hy0, hyc, _⟩ := hor.read (k := k + m - 1) (by omega)
          obtain ⟨z, hz0, hzc, hzf⟩ := hq.read (k := k) (by omega)
          have hk1 : (k : Int) < N := by omega
          have hi0 : (0 : Int) ≤ (k : Int) + m - 1 := by omega
          have hi1 : (k : Int) + m - 1 < nr := by omega
          have hi2 : ((k : Int) + m - 1).toNat = k + m - 1 := by omega
          obtain ⟨cc, hcc⟩ : ∃ cc, Goss.mul y iv = cc := ⟨_, rfl⟩
          have Hy0 := Lib.hid hy0; clear hy0
          have Hcc := Lib.hid hcc; clear hcc
          clear hz0 hNN
          go_wp2_with fail
          refine (mul_any y iv wr).mono ?_
          rintro e wr ⟨rfl, rfl⟩
          rw [Hcc.out]
          have hq4 := hq.stored k cc
          have hor4 : Own (wr.setCell ⟨Q, k, none⟩ (.int .u32 cc.toNat)) B (.slice (some ⟨g, 0, none⟩) nr cv) rc := World.ownsRow.kept hor (grown_store wr Q k _) (.inr (by simp [Value.ownBlock]; omega))
          have hbw4 : Below B w (wr.setCell ⟨Q, k, none⟩ (.int .u32 cc.toNat)) := hbw.setCell (by show B ≤ Q; omega) _
          go_wp2_with fail
          refine (put_any B g nr cv rc (.slice (some ⟨b0, o0, none⟩) m cb) bs' cc k _ hor4 (hsb'.below (by rw [HB.out]; exact hbw4)) ?_ ?_ (by omega)).mono ?_
          · intro b o n c h
            simp only [Value.slice.injEq, Option.some.injEq, Addr.mk.injEq, and_true] at h
            obtain ⟨⟨rfl, rfl⟩, _⟩ := h
            omega
          · have := Hml.out; omega
          rintro e w5 ⟨rfl, hor5, hgr5⟩
          have hq5 : Own w5 B (.slice (some ⟨Q, 0, none⟩) N N) (qc.set k cc) := World.ownsRow.kept hq4 hgr5 (.inr (by simp [Value.ownBlock]; omega))
          have hbw5 : Below B w w5 := hbw4.grown hgr5 (by rw [← HB.out]; exact hbw4.size) (fun j hj => by cases hj; exact hgB)
          clear hq4 hor4 hbw4 hgr5 hor hq hbw hyc hzc hzf
          go_wp2
          go_roundw
          case rel =>
            refine ⟨k, _, _, by omega, by first | rfl | go_num, ?_, hor5, hq5, hbw5⟩
            have h1 := hx.out
            rw [Goss.divLoop, Hml.out, Hy0.out] at h1
            simp only [Option.getD_some, Hcc.out] at h1
            exact h1
          case measure => first | omega | (simp [intOf]; done) | (simp [intOf]; omega)
  · have hge' : (nr : Int) < m := by omega
    go_wp2_with (at_make; refine mk_own rfl _ _ rfl B .i64 .i64 _ _ 0 rfl rfl ?_ ?_ ?_ hz2 ?_)
    · rfl
    · rfl
    · omega
    · intro w3 hq hgr
      have hb3 : Below w2.heap.size w2 w3 := ⟨hgr.os, hgr.tape, hgr.output, hgr.size, fun k hk => hgr.block k hk (by simp)⟩
      have hc3 := Hxc.out w3 hb3
      have hor3 := hor'.below hb3
      have hB3 := hB2.trans (hb3.mono hz2)
      have hz3 := hB3.size
      clear hb3 hgr hB2 hor' hs2 hz2 hshape
      go_wp2_with fail
      refine (inverse_any x0 w3).mono ?_
      rintro e w3 ⟨rfl, rfl⟩
      have hge0 : decide ((0 : Int) ≤ (nr : Int) - m) = false := decide_eq_false (by omega)
      go_wp2_with fail
      go_loopw [11] (fun i wr => i = .int .i64 ((nr : Int) - m) ∧ wr = w3) (fun _ _ => 0)
      case atStart => exact ⟨rfl, rfl⟩
      case round =>
        obtain ⟨rfl, rfl⟩ := hrel
        have hle2 := tlen_le rs rs.length
        have hlr := Lib.hid hor3.sl.len.1
        go_wp2_with fail
        refine (cut_any _ _ _ _ _ hq.sl).mono ?_
        rintro e w5 ⟨rfl, hb5⟩
        have hor5 := hor3.below hb5
        have hq5 := hq.below hb5
        go_wp2_with fail
        refine (cut_any _ _ _ _ _ hor5.sl).mono ?_
        rintro e w6 ⟨rfl, hb6⟩
        go_wp2
        go_ret3
        have hDD : D = (Goss.trim [], Goss.trim rs) := by
          rw [← HD.out]
          unfold Goss.divT
          dsimp only
          rw [Hrs.out, Hnr.out, Hml.out, show nr + 1 - m = 0 from by omega]
          rfl
        refine ⟨_, _, rfl, ?_, ?_, ?_⟩
        · rw [hDD, HB.out]
          exact (hq5.below hb6).cut 0 (Nat.le_refl _)
        · rw [hDD, HB.out]
          exact (hor5.below hb6).cut _ (by rw [hlr.out]; exact hle2)
        · rw [HB.out]
          have h5 := hB3.trans (hb5.mono (by rw [← HB.out]; exact hB3.size))
          exact h5.trans (hb6.mono (by rw [← HB.out]; exact h5.size))
end Go.Proofs.Ythglbipcfhdoaaa
