/- slices.Sort at up to 49 elements: pdqsortOrdered. -/
import Derived.Test.YthglbipcfhdoaaaSortG
import Derived.Test.YthglbipcfhdoaaaMasA
namespace Go.Proofs.Ythglbipcfhdoaaa
open Go.RowKit

def PreLe (l : List Goss.F) (a b : Nat) : Prop := a = 0 ∨ ∀ k, a ≤ k → k < b → Goss.at' l (a - 1) ≤ Goss.at' l k
theorem PreLe.moved {l m : List Goss.F} {a b : Nat} (h : PreLe l a b) (hm : Goss.Mv a b m l) : PreLe m a b := by
  rcases h with h | h
  · exact .inl h
  · by_cases ha : a = 0
    · exact .inl ha
    · right
      rw [hm.out (a - 1) (by omega)]
      exact hm.all (fun v => Goss.at' l (a - 1) ≤ v) h
set_option maxRecDepth 100000 in
set_option maxHeartbeats 16000000 in
theorem pdq_any (B g n c : Nat) (hn : n < 50) (S : Nat) : ∀ (a b lim : Nat) (xs : List Goss.F) (w : World), b - a < S → a ≤ b → b ≤ n → lim ≤ 1000 → Own w B (.slice (some ⟨g, 0, none⟩) n c) xs → PreLe xs a b →
    Calls Try.prog 114 #[.slice (some ⟨g, 0, none⟩) n c, .int .i64 a, .int .i64 b, .int .i64 lim] w (SrtEnd g n c B a b xs w) := by
  induction S with
  | zero => intro a b lim xs w h; omega
  | succ S ih =>
    intro A Z lim0 xs w hS hAZ hZn hlim0 h hpre
    have ih := Lib.hid ih
    have hpre := Lib.hid hpre
    go_enter Try.func114, Try.ntmps114
    go_wp2_with fail
    go_loopw [1, 2, 3, 8, 9] (fun v1 v2 v3 v8 v9 wr => ∃ (a b lim : Nat) (t8 t9 : Bool) (cur : List Goss.F), lim ≤ 1000 ∧ v1 = .int .i64 a ∧ v2 = .int .i64 b ∧ v3 = .int .i64 lim ∧ v8 = .bool t8 ∧ v9 = .bool t9 ∧ Hid (Goss.Rest A Z a b cur xs) ∧ Hid (PreLe cur a b) ∧ Own wr B (.slice (some ⟨g, 0, none⟩) n c) cur ∧ w.grownBy wr (some g)) (fun v1 v2 _ _ _ _ => (intOf v2 - intOf v1).toNat)
    case atStart => exact ⟨A, Z, lim0, true, true, xs, hlim0, rfl, rfl, rfl, rfl, rfl, Goss.Rest.start A Z hAZ xs, hpre, h, grown_refl _ _⟩
    case round =>
      obtain ⟨a, b, lim, t8, t9, cur, hlim, rfl, rfl, rfl, rfl, rfl, hrest, hpl, how, hgr⟩ := hrel
      clear h hpre
      obtain ⟨r1, r2, r3⟩ := hrest.out.ab
      obtain ⟨l, hl⟩ : ∃ l, l = b - a := ⟨_, rfl⟩
      have e1 : (b : Int) - (a : Int) = (l : Int) := by omega
      have hbl : b = a + l := by omega
      have Hbl := Lib.hid hbl
      have hlS : l < S + 1 := by omega
      clear hl hbl
      by_cases h12 : l ≤ 12
      · have hd1 : decide ((l : Int) ≤ 12) = true := decide_eq_true (by omega)
        have hins := insertion_rng B g n c a b cur wr how r2 (by omega) (by omega)
        go_wp2_with fail
        refine hins.mono ?_
        rintro e w2 ⟨rfl, zs, hz1, hz2, hz3⟩
        have hfin := (hrest.out.moved hz1.mv).done hz1.srt
        have Hfin := Lib.hid hfin
        clear hz1 hfin hins
        go_wp2
        go_end0
        exact ⟨rfl, zs, Hfin.out, hz2, hgr.trans' hz3⟩
      have hd1 : decide ((l : Int) ≤ 12) = false := decide_eq_false (by omega)
      by_cases hl0 : lim = 0
      · subst hl0
        have hhs := heapsort_any B g n c a b cur wr how (by have := Hbl.out; omega) (by omega) (by omega)
        go_wp2_with fail
        refine hhs.mono ?_
        rintro e w2 ⟨rfl, zs, hz1, hz2, hz3⟩
        have hfin := (hrest.out.moved hz1.mv).done hz1.srt
        have Hfin := Lib.hid hfin
        clear hz1 hfin hhs
        go_wp2
        go_end0
        exact ⟨rfl, zs, Hfin.out, hz2, hgr.trans' hz3⟩
      have hd2 : ((lim : Int) == 0) = false := by rw [beq_eq_false_iff_ne]; omega
      go_upto_if 35 with (fail)
      go_cut [3] (fun s wx => ∃ (lim' : Nat) (cu : List Goss.F), lim' ≤ 1000 ∧ s = .int .i64 lim' ∧ Hid (Goss.Mv a b cu cur) ∧ Own wx B (.slice (some ⟨g, 0, none⟩) n c) cu ∧ w.grownBy wx (some g))
      case first =>
        cases t8
        · have hbp := breakpat_any B g n c a b cur wr how (by have := Hbl.out; omega) (by have := Hbl.out; omega) (by omega) (by omega)
          obtain ⟨lim', hlm⟩ : ∃ lim', lim = lim' + 1 := ⟨lim - 1, by omega⟩
          have e2 : (lim : Int) - 1 = (lim' : Int) := by omega
          clear hlm
          go_wp2_with fail
          refine hbp.mono ?_
          rintro e w2 ⟨rfl, zs, hz1, _, hz2, hz3⟩
          have Hz1 := Lib.hid hz1
          clear hbp hz1
          go_wp2_with fail
          go_meet
          exact ⟨lim', zs, by omega, rfl, Hz1, hz2, hgr.trans' hz3⟩
        · go_wp2_with fail
          go_meet
          exact ⟨lim, cur, hlim, rfl, Goss.Mv.refl _, how, hgr⟩
      case rest =>
        obtain ⟨lim1, cu, hlim1, rfl, hmv1, how1, hgr1⟩ := hcut
        have hrest1 := Lib.hid (hrest.out.moved hmv1.out)
        have hpl1 := Lib.hid (hpl.out.moved hmv1.out)
        clear hrest hpl how hgr hmv1 hd2 hl0 hlim
        clear cur
        obtain ⟨wa, rfl⟩ : ∃ wx : World, wx = wc := ⟨_, rfl⟩
        have hch := choose_any B g n c a b cu wa how1 (by omega) (by have := Hbl.out; omega) (by have := Hbl.out; omega) (by omega)
        go_wp2_with fail
        refine hch.mono ?_
        rintro e wb ⟨x, t, rfl, ⟨hx1, hx2⟩, ht, hbb⟩
        have how2 := how1.below hbb
        have hgr2 := hgr1.trans' (grown_of_below hbb (some g))
        clear hch how1 hgr1 hbb
        go_upto_if 50 with (fail)
        go_cut [11, 12] (fun s11 s12 wx => ∃ (p : Nat) (u : Int) (cv : List Goss.F), s11 = .int .i64 p ∧ s12 = .int .i64 u ∧ (a ≤ p ∧ p < b) ∧ (u = 0 ∨ u = 1) ∧ Hid (Goss.Mv a b cv cu) ∧ Own wx B (.slice (some ⟨g, 0, none⟩) n c) cv ∧ w.grownBy wx (some g))
        case first =>
          rcases ht with rfl | rfl | rfl
          · go_wp2_with fail
            go_meet
            exact ⟨x, 0, cu, rfl, rfl, ⟨hx1, hx2⟩, .inl rfl, Goss.Mv.refl _, how2, hgr2⟩
          · go_wp2_with fail
            go_meet
            exact ⟨x, 1, cu, rfl, rfl, ⟨hx1, hx2⟩, .inr rfl, Goss.Mv.refl _, how2, hgr2⟩
          · have hrv := revrange_any B g n c a b cu wb how2 (by have := Hbl.out; omega) (by omega) (by omega)
            obtain ⟨b1, hb1⟩ : ∃ b1, b = b1 + 1 := ⟨b - 1, by omega⟩
            obtain ⟨xa, hxa⟩ : ∃ xa, x = xa + a := ⟨x - a, by omega⟩
            obtain ⟨p, hp⟩ : ∃ p, b1 = p + xa := ⟨b1 - xa, by omega⟩
            have e3 : (b : Int) - 1 = (b1 : Int) := by omega
            have e4 : (x : Int) - (a : Int) = (xa : Int) := by omega
            have e5 : (b1 : Int) - (xa : Int) = (p : Int) := by omega
            have hpa : a ≤ p := by omega
            have hpb : p < b := by omega
            clear hb1 hxa hp
            go_wp2_with fail
            refine hrv.mono ?_
            rintro e w2 ⟨rfl, zs, hz1, _, hz2, hz3⟩
            have Hz1 := Lib.hid hz1
            clear hrv hz1
            go_wp2_with fail
            go_meet
            exact ⟨p, 1, zs, rfl, rfl, ⟨hpa, hpb⟩, .inr rfl, Hz1, hz2, hgr2.trans' hz3⟩
        case rest =>
          obtain ⟨p, u, cv, rfl, rfl, ⟨hp1, hp2⟩, hu, hmv2, how3, hgr3⟩ := hcut
          have hrest2 := Lib.hid (hrest1.out.moved hmv2.out)
          have hpl2 := Lib.hid (hpl1.out.moved hmv2.out)
          clear hrest1 hpl1 how2 hgr2 hmv2 hx1 hx2 ht cu
          obtain ⟨wb', rfl⟩ : ∃ wx : World, wx = wc := ⟨_, rfl⟩
          obtain ⟨V, hV⟩ : ∃ V : Bool, (t8 && (t9 && (u == 1))) = V := ⟨_, rfl⟩
          have HV := Lib.hid hV
          clear hV
          go_upto_region 15 with (fail)
          go_cut [68] (fun s wx => s = .bool V ∧ wx = wb')
          case first =>
            rcases t8 with _ | _
            · obtain rfl : false = V := HV.out
              go_wp2_with fail
              go_meet
              exact ⟨rfl, rfl⟩
            · rcases t9 with _ | _
              · obtain rfl : false = V := HV.out
                go_wp2_with fail
                go_meet
                exact ⟨rfl, rfl⟩
              · rcases hu with rfl | rfl
                · obtain rfl : false = V := HV.out
                  go_wp2_with fail
                  go_meet
                  exact ⟨rfl, rfl⟩
                · obtain rfl : true = V := HV.out
                  go_wp2_with fail
                  go_meet
                  exact ⟨rfl, rfl⟩
          case rest =>
          obtain ⟨rfl, hcw⟩ := hcut
          have how3' : Own wc B (.slice (some ⟨g, 0, none⟩) n c) cv := by rw [hcw]; exact how3
          have hgr3' : w.grownBy wc (some g) := by rw [hcw]; exact hgr3
          clear hcw how3 hgr3 HV
          have how3 := how3'
          have hgr3 := hgr3'
          clear how3' hgr3'
          obtain ⟨wb2, rfl⟩ : ∃ wx : World, wx = wc := ⟨_, rfl⟩
          go_upto_if 68 with (fail)
          go_cut [68] (fun _ wx => ∃ q, wx = wb2.drewN q)
          case first =>
            have hpar := partial_any B g n c a b cv wb2 how3 (by omega) (by have := Hbl.out; omega) (by have := Hbl.out; omega) (by omega)
            have Hpar := Lib.hid hpar
            clear hpar
            rcases V with _ | _
            · go_wp2_with fail
              go_meet
              exact ⟨0, rfl⟩
            · go_wp2_with fail
              refine Hpar.out.mono ?_
              rintro e w2 ⟨t, rfl, ht1, q, rfl⟩
              cases t
              · clear ht1
                go_wp2_with fail
                go_meet
                exact ⟨q, rfl⟩
              · have hfin := Lib.hid (hrest2.out.done (ht1 rfl))
                clear ht1
                go_wp2
                go_end0
                exact ⟨rfl, cv, hfin.out, how3.below ((Below.refl _ _).drewN q), hgr3.trans' (grown_drewN _ _ _)⟩
          case rest =>
            obtain ⟨q1, hq1⟩ := hcut
            have how4 : Own wc B (.slice (some ⟨g, 0, none⟩) n c) cv := by rw [hq1]; exact how3.below ((Below.refl _ _).drewN q1)
            have hgr4 : w.grownBy wc (some g) := by rw [hq1]; exact hgr3.trans' (grown_drewN _ _ _)
            clear hq1 how3 hgr3
            obtain ⟨wd, rfl⟩ : ∃ wx : World, wx = wc := ⟨_, rfl⟩
            obtain ⟨R, hR⟩ : ∃ R : Bool, decide (0 < a ∧ ¬ Goss.at' cv (a - 1) < Goss.at' cv p) = R := ⟨_, rfl⟩
            have HR := Lib.hid hR
            clear hR
            go_upto_region 17 with (fail)
            go_cut [87] (fun s wx => s = .bool R ∧ ∃ q, wx = wd.drewN q)
            case first =>
              by_cases ha0 : a = 0
              · subst ha0
                obtain rfl : false = R := by rw [← HR.out, eq_comm]; exact decide_eq_false fun e => by omega
                have hd5 : decide ((0 : Int) < ((0 : Nat) : Int)) = false := by decide
                go_quiet (fail)
                go_wp2_with fail
                go_meet
                exact ⟨rfl, nq, rfl⟩
              · have hd5 : decide (0 < a) = true := decide_eq_true (by omega)
                obtain ⟨x, hx0, hxc, hxf⟩ := how4.read (k := a - 1) (by omega)
                obtain ⟨y, hy0, hyc, hyf⟩ := how4.read (k := p) (by omega)
                have Hex := Lib.hid (at_of hx0)
                have Hey := Lib.hid (at_of hy0)
                clear hx0 hy0
                have k1 : (0 : Int) ≤ (a : Int) - 1 := by omega
                have k2 : (a : Int) - 1 < (n : Int) := by omega
                have k3 : ((a : Int) - 1).toNat = a - 1 := by omega
                have k4 : IntKind.i64.wrap ((a : Int) - 1) = (a : Int) - 1 := IntWalk.i64_in _ (by omega)
                have k5 : (p : Int) < (n : Int) := by omega
                by_cases hlt : x.toNat < y.toNat
                · have hdl : decide (x.toNat < y.toNat) = true := decide_eq_true hlt
                  obtain rfl : false = R := by rw [← HR.out, eq_comm]; have h1 := Hex.out; have h2 := Hey.out; exact decide_eq_false fun e => by omega
                  go_quiet ((go_at_call 128; refine Calls.quiet_of_same (quiet_less _ _ _)))
                  go_wp2_with fail
                  go_meet
                  exact ⟨rfl, nq, rfl⟩
                · have hdl : decide (x.toNat < y.toNat) = false := decide_eq_false hlt
                  obtain rfl : true = R := by rw [← HR.out, eq_comm]; have h1 := Hex.out; have h2 := Hey.out; exact decide_eq_true ⟨by omega, by omega⟩
                  go_quiet ((go_at_call 128; refine Calls.quiet_of_same (quiet_less _ _ _)))
                  go_wp2_with fail
                  go_meet
                  exact ⟨rfl, nq, rfl⟩
            case rest =>
              obtain ⟨rfl, q2, hq2⟩ := hcut
              have how5 : Own wc B (.slice (some ⟨g, 0, none⟩) n c) cv := by rw [hq2]; exact how4.below ((Below.refl _ _).drewN q2)
              have hgr5 : w.grownBy wc (some g) := by rw [hq2]; exact hgr4.trans' (grown_drewN _ _ _)
              clear hq2 how4 hgr4
              obtain ⟨we, rfl⟩ : ∃ wx : World, wx = wc := ⟨_, rfl⟩
              rcases R with _ | _
              · clear HR
                have hpt := part_any B g n c a b p cv we how5 (by have := Hbl.out; omega) (by omega) ⟨hp1, hp2⟩ (by omega)
                go_wp2_with fail
                refine hpt.mono ?_
                rintro e w2 ⟨m, t, zs, rfl, hz1, hz2, hz3, hz4⟩
                have hgr6 := hgr5.trans' hz4
                have hrest3 := Lib.hid (hrest2.out.moved hz1)
                have hpl3 := Lib.hid (hpl2.out.moved hz1)
                have Hz2 := Lib.hid hz2
                obtain ⟨hm1, hm2⟩ := hz2.pos
                clear hpt hz1 hz2 hz4 how5 hgr5 hrest2 hpl2
                obtain ⟨la, hla⟩ : ∃ la, m = la + a := ⟨m - a, by omega⟩
                obtain ⟨ra, hra⟩ : ∃ ra, b = ra + m := ⟨b - m, by omega⟩
                have e6 : (m : Int) - (a : Int) = (la : Int) := by omega
                have e7 : (b : Int) - (m : Int) = (ra : Int) := by omega
                obtain ⟨l8, hl8⟩ : ∃ l8, l8 = l / 8 := ⟨_, rfl⟩
                have e8 : (l : Int) / 8 = (l8 : Int) := by omega
                obtain ⟨m1, hmm⟩ : ∃ m1, m1 = m + 1 := ⟨_, rfl⟩
                have e9 : (m : Int) + 1 = (m1 : Int) := by omega
                clear hl8
                have hbS : b - a < S + 1 := by have := Hbl.out; omega
                by_cases hlr : la < ra
                · have hd6 : decide ((la : Int) < (ra : Int)) = true := decide_eq_true (by omega)
                  have hd6' : decide (la < ra) = true := decide_eq_true hlr
                  have hrec := ih.out a m lim1 zs w2 (by omega) hm1 (by omega) hlim1 hz3 (by
                    rcases hpl3.out with h0 | h0
                    · exact .inl h0
                    · exact .inr fun k k1 k2 => h0 k k1 (by omega))
                  have Hmm := Lib.hid hmm
                  have hmab : m1 ≤ b := by omega
                  have ham1 : a < m1 := by omega
                  clear hla hra hmm
                  go_wp2_with fail
                  refine hrec.mono ?_
                  rintro e w3 ⟨rfl, ss, hs1, hs2, hs3⟩
                  have hrest4 : Hid (Goss.Rest A Z m1 b ss xs) := by rw [Hmm.out]; exact hrest3.out.left Hz2.out hs1
                  have hpl4 : Hid (PreLe ss m1 b) := by
                    refine .inr fun k k1 k2 => ?_
                    have h1 : Goss.at' ss m = Goss.at' zs m := hs1.mv.out m (by omega)
                    have h2 : Goss.at' ss k = Goss.at' zs k := hs1.mv.out k (by have := Hmm.out; omega)
                    rw [show m1 - 1 = m from by have := Hmm.out; omega, h1, h2]
                    exact Hz2.out.hi k (by have := Hmm.out; omega) k2
                  have hgr7 := hgr6.trans' hs3
                  clear hrec hs1 hs3 hgr6 hrest3 hpl3 Hz2
                  go_wp2
                  go_roundw
                  case rel => exact ⟨m1, b, lim1, _, t, ss, hlim1, rfl, rfl, rfl, rfl, rfl, hrest4, hpl4, hs2, hgr7⟩
                  case measure => simp only [intOf]; omega
                · have hd6 : decide ((la : Int) < (ra : Int)) = false := decide_eq_false (by omega)
                  have hd6' : decide (la < ra) = false := decide_eq_false hlr
                  have hrec := ih.out m1 b lim1 zs w2 (by omega) (by omega) (by omega) hlim1 hz3 (by
                    refine .inr fun k k1 k2 => ?_
                    rw [show m1 - 1 = m from by omega]
                    exact Hz2.out.hi k (by omega) k2)
                  have Hmm := Lib.hid hmm
                  have hmlt : m < b := hm2
                  clear hla hra hmm
                  go_wp2_with fail
                  refine hrec.mono ?_
                  rintro e w3 ⟨rfl, ss, hs1, hs2, hs3⟩
                  rw [Hmm.out] at hs1
                  have hrest4 : Hid (Goss.Rest A Z a m ss xs) := hrest3.out.right Hz2.out hs1
                  have hpl4 : Hid (PreLe ss a m) := by
                    rcases hpl3.out with h0 | h0
                    · exact .inl h0
                    · by_cases ha0 : a = 0
                      · exact .inl ha0
                      · refine .inr fun k k1 k2 => ?_
                        have h1 : Goss.at' ss (a - 1) = Goss.at' zs (a - 1) := hs1.mv.out _ (by omega)
                        have h2 : Goss.at' ss k = Goss.at' zs k := hs1.mv.out k (by omega)
                        rw [h1, h2]
                        exact h0 k k1 (by omega)
                  have hgr7 := hgr6.trans' hs3
                  clear hrec hs1 hs3 hgr6 hrest3 hpl3 Hz2
                  go_wp2
                  go_roundw
                  case rel => exact ⟨a, m, lim1, _, t, ss, hlim1, rfl, rfl, rfl, rfl, rfl, hrest4, hpl4, hs2, hgr7⟩
                  case measure => simp only [intOf]; omega
              · have hR := of_decide_eq_true HR.out
                obtain ⟨ha0, hge⟩ := hR
                have hpq := parteq_any B g n c a b p cv we how5 (by have := Hbl.out; omega) (by omega) ⟨hp1, hp2⟩ (by omega)
                have hlow : ∀ k, a ≤ k → k < b → Goss.at' cv p ≤ Goss.at' cv k := by
                  intro k k1 k2
                  rcases hpl2.out with h0 | h0
                  · omega
                  · have := h0 k k1 k2; omega
                have hupp : Goss.at' cv (a - 1) ≤ Goss.at' cv p := by
                  rcases hpl2.out with h0 | h0
                  · omega
                  · exact h0 p hp1 hp2
                have Hlow := Lib.hid hlow
                clear hlow HR hge hupp
                go_wp2_with fail
                refine hpq.mono ?_
                rintro e w2 ⟨m, zs, rfl, ⟨hm1, hm2⟩, hz1, ⟨hz5, hz6⟩, hz3, hz4⟩
                have hgr6 := hgr5.trans' hz4
                have hrest3 := hrest2.out.moved hz1
                have hlow2 := hz1.all (fun v => Goss.at' cv p ≤ v) Hlow.out
                have hrest4 : Hid (Goss.Rest A Z m b zs xs) := hrest3.equal ⟨by omega, hm2⟩ (v := Goss.at' cv p) (fun k k1 k2 => Nat.le_antisymm (hz5 k k1 k2) (hlow2 k k1 (by omega))) (fun k k1 k2 => Nat.le_of_lt (hz6 k k1 k2))
                have hpl4 : Hid (PreLe zs m b) := by
                  refine .inr fun k k1 k2 => ?_
                  have h1 := hz5 (m - 1) (by omega) (by omega)
                  have h2 := hz6 k k1 k2
                  omega
                clear hpq hz1 hz5 hz6 hz4 how5 hgr5 hrest2 hpl2 hrest3 hlow2 Hlow
                go_wp2
                go_roundw
                case rel => exact ⟨m, b, lim1, t8, t9, zs, hlim1, rfl, rfl, rfl, rfl, rfl, hrest4, hpl4, hz3, hgr6⟩
                case measure => simp only [intOf]; omega

set_option maxRecDepth 100000 in
set_option maxHeartbeats 2000000 in
theorem sort_fifty (B g n c : Nat) (xs : List Goss.F) (w : World) (h : Own w B (.slice (some ⟨g, 0, none⟩) n c) xs) (h50 : n ≤ 49) :
    Calls Try.prog 96 #[.slice (some ⟨g, 0, none⟩) n c] w (SortEnd g n c B (Goss.sortF xs) w) := by
  have hl := h.sl.len.1
  have Hl := Lib.hid hl
  clear hl
  go_enter Try.func96, Try.ntmps96
  go_wp2_with fail
  refine (len_fifty n _ (by omega)).mono ?_
  rintro e w' ⟨⟨k, rfl, _, _, hk⟩, rfl⟩
  have hp := pdq_any B g n c (by omega) (n + 1) 0 n k xs w (by omega) (Nat.zero_le _) (Nat.le_refl _) (by omega) h (.inl rfl)
  rw [show ((0 : Nat) : Int) = 0 from rfl] at hp
  go_wp2_with fail
  refine hp.mono ?_
  rintro e w' ⟨rfl, zs, hz, ho, hg⟩
  have hzs : zs = Goss.sortF xs := by rw [Hl.out] at hz; exact hz.whole
  have Hzs := Lib.hid hzs
  clear hz hzs hp
  go_wp2
  go_end0
  exact ⟨rfl, by rw [← Hzs.out]; exact ho, hg⟩
end Go.Proofs.Ythglbipcfhdoaaa
