/- The sort of a range: partitions. -/
import Derived.Test.YthglbipcfhdoaaaSortE
namespace Go.Proofs.Ythglbipcfhdoaaa
open Go.RowKit

def PeqEnd (g n c B a b v : Nat) (xs : List Goss.F) (w : World) (e : Ending) (w' : World) : Prop :=
  ∃ (m : Nat) (zs : List Goss.F), e = .returned (.int .i64 m) ∧ (a < m ∧ m ≤ b) ∧ Goss.Mv a b zs xs ∧ ((∀ p, a ≤ p → p < m → Goss.at' zs p ≤ v) ∧ ∀ q, m ≤ q → q < b → v < Goss.at' zs q) ∧ Own w' B (.slice (some ⟨g, 0, none⟩) n c) zs ∧ w.grownBy w' (some g)
set_option maxRecDepth 100000 in
set_option maxHeartbeats 8000000 in
theorem parteq_any (B g n c a b pv : Nat) (xs : List Goss.F) (w : World) (h : Own w B (.slice (some ⟨g, 0, none⟩) n c) xs) (hab : a + 2 ≤ b) (hbn : b ≤ n) (hpv : a ≤ pv ∧ pv < b) (h12 : n ≤ 35184372088832) :
    Calls Try.prog 129 #[.slice (some ⟨g, 0, none⟩) n c, .int .i64 a, .int .i64 b, .int .i64 pv] w (PeqEnd g n c B a b (Goss.at' xs pv) xs w) := by
  have hlen := h.sl.len.1
  obtain ⟨j0, hj0⟩ : ∃ j, b = j + 1 := ⟨b - 1, by omega⟩
  have e0 : (b : Int) - 1 = (j0 : Int) := by omega
  have hmv0 : Hid (Goss.Mv a b (Goss.swp xs a pv) xs) := .swap (.refl xs) _ _ ⟨by omega, by omega⟩ ⟨by omega, by omega⟩
  have hpin0 := Goss.PIn.start (Lo := fun x => ¬ Goss.at' xs pv < x) (a := a) (b := b) (j := j0) (l := Goss.swp xs a pv) (by rw [Goss.swp_len]; omega) (by omega) hj0.symm
  have hva : Goss.at' (Goss.swp xs a pv) a = Goss.at' xs pv := by
    rw [Goss.at_swp _ _ _ _ (by omega) (by omega)]
    split
    · rename_i e; rw [← e]
    · rw [if_pos rfl]
  rw [hva] at hpin0
  obtain ⟨v, hv⟩ : ∃ v, Goss.at' xs pv = v := ⟨_, rfl⟩
  rw [hv] at hpin0 ⊢
  have Hpin0 := Lib.hid hpin0
  have hj0b : j0 < b := by omega
  have haj0 : a < j0 := by omega
  clear hpin0 hva hv hlen hj0
  have how := h
  have hgr := grown_refl w (some g)
  clear h
  go_enter Try.func129, Try.ntmps129
  obtain ⟨pa, pb⟩ := hpv
  obtain ⟨x, hx0, hxc, hxf⟩ := how.read (k := a) (by omega)
  obtain ⟨y, hy0, hyc, hyf⟩ := how.read (k := pv) (by omega)
  have hsw := Goss.swp_eq hx0 hy0
  have Hsw := Lib.hid hsw
  clear hsw hx0 hy0
  have b1 : (a : Int) < (n : Int) := by omega
  have b2 : (pv : Int) < (n : Int) := by omega
  go_upto_region 1 with (fail)
  go_cut [23] (fun _ wx => Own wx B (.slice (some ⟨g, 0, none⟩) n c) (Goss.swp xs a pv) ∧ w.grownBy wx (some g))
  case first =>
    have how3 := (how.stored a y).stored pv x
    have hgr3 := (hgr.trans' (grown_store _ g a (.int .u32 y.toNat))).trans' (grown_store _ g pv (.int .u32 x.toNat))
    rw [Hsw.out] at how3
    clear Hsw
    by_cases hE : a = pv
    · have hxy : x = y := by
        rw [← hE, hxc] at hyc
        have := Option.some.inj hyc
        simp only [Value.int.injEq, true_and] at this
        exact BitVec.eq_of_toNat_eq (by omega)
      subst hxy
      subst hE
      clear hyc hyf b2
      go_region
      go_wp2_with fail
      go_meet
      exact ⟨how3, hgr3.trans' (grown_drew _ _)⟩
    · go_region
      go_wp2_with fail
      go_meet
      exact ⟨how3, hgr3.trans' (grown_drew _ _)⟩
  case rest =>
    obtain ⟨how2, hgr2⟩ := hcut
    obtain ⟨w1, rfl⟩ : ∃ w1 : World, w1 = wc := ⟨_, rfl⟩
    clear how hgr hxc hxf hyc hyf Hsw b1 b2
    have how := how2
    have hgr := hgr2
    clear how2 hgr2
    go_wp2_with fail
    go_loopw [9, 10] (fun vi vj ws => ∃ (i j : Nat) (cur : List Goss.F), vi = .int .i64 i ∧ vj = .int .i64 j ∧ Hid (Goss.PIn (fun x => ¬ v < x) a b i j v cur) ∧ Hid (Goss.Mv a b cur xs) ∧ Own ws B (.slice (some ⟨g, 0, none⟩) n c) cur ∧ w.grownBy ws (some g)) (fun vi vj _ => (intOf vj + 1 - intOf vi).toNat)
    case atStart => exact ⟨a + 1, j0, _, by go_num, rfl, Hpin0, hmv0, how, hgr⟩
    case round =>
      clear how hgr Hpin0 hmv0 e0 hj0b haj0
      obtain ⟨i, j, cur, rfl, rfl, hpin, hmv, how, hgr⟩ := hrel
      obtain ⟨wo, rfl⟩ : ∃ wx : World, wx = wr := ⟨_, rfl⟩
      go_wp2_with fail
      go_loopw [9] (fun vi ws => ∃ (k q : Nat), vi = .int .i64 k ∧ Hid (Goss.PIn (fun x => ¬ v < x) a b k j v cur) ∧ (i ≤ k) ∧ ws = wo.drewN q) (fun vi _ => j + 1 - (intOf vi).toNat)
      case atStart => exact ⟨i, 0, rfl, hpin, Nat.le_refl _, rfl⟩
      case round =>
        obtain ⟨ii, q, rfl, hp, hside, hwq⟩ := hrel
        have how_ : Own wr B (.slice (some ⟨g, 0, none⟩) n c) cur := by rw [hwq]; exact how.below ((Below.refl _ _).drewN q)
        have hgr_ : w.grownBy wr (some g) := by rw [hwq]; exact hgr.trans' (grown_drewN _ _ _)
        have Hwq := Lib.hid hwq
        clear hwq how hgr hpin
        obtain ⟨p1, p2, p3⟩ := hp.out.ij
        obtain ⟨R, hR⟩ : ∃ R : Bool, decide (ii ≤ j ∧ ¬ v < Goss.at' cur ii) = R := ⟨_, rfl⟩
        have HR := Lib.hid hR; clear hR
        go_upto_region 3 with (fail)
        go_cut [43] (fun s wx => s = .bool R ∧ ∃ q', wx = wr.drewN q')
        case first =>
          by_cases hle : ii ≤ j
          · have hd : decide ((ii : Int) ≤ (j : Int)) = true := decide_eq_true (by omega)
            have hd' : decide (ii ≤ j) = true := decide_eq_true hle
            obtain ⟨x, hx0, hxc, hxf⟩ := how_.read (k := ii) (by omega)
            obtain ⟨y, hy0, hyc, hyf⟩ := how_.read (k := a) (by omega)
            have Hex := Lib.hid (at_of hx0)
            have Hey := Lib.hid (at_of hy0)
            have Hpv := Lib.hid hp.out.piv
            clear hx0 hy0
            have b1 : (ii : Int) < (n : Int) := by omega
            have b2 : (a : Int) < (n : Int) := by omega
            by_cases hlt : y.toNat < x.toNat
            · have hdl : decide (y.toNat < x.toNat) = true := decide_eq_true hlt
              obtain rfl : false = R := by rw [← HR.out, eq_comm]; have h1 := Hex.out; have h2 := Hey.out; have h3 := Hpv.out; first | exact decide_eq_true ⟨hle, by omega⟩ | exact decide_eq_false (fun e => by omega)
              go_quiet ((go_at_call 128; refine Calls.quiet_of_same (quiet_less _ _ _)))
              go_wp2_with fail
              go_meet
              exact ⟨rfl, nq, rfl⟩
            · have hdl : decide (y.toNat < x.toNat) = false := decide_eq_false hlt
              obtain rfl : true = R := by rw [← HR.out, eq_comm]; have h1 := Hex.out; have h2 := Hey.out; have h3 := Hpv.out; first | exact decide_eq_true ⟨hle, by omega⟩ | exact decide_eq_false (fun e => by omega)
              go_quiet ((go_at_call 128; refine Calls.quiet_of_same (quiet_less _ _ _)))
              go_wp2_with fail
              go_meet
              exact ⟨rfl, nq, rfl⟩
          · have hd : decide ((ii : Int) ≤ (j : Int)) = false := decide_eq_false (by omega)
            have hd' : decide (ii ≤ j) = false := decide_eq_false hle
            obtain rfl : false = R := by rw [← HR.out, eq_comm]; exact decide_eq_false fun e => hle e.1
            go_quiet (fail)
            go_wp2_with fail
            go_meet
            exact ⟨rfl, nq, rfl⟩
        case rest =>
          obtain ⟨rfl, q', hq'⟩ := hcut
          have Hq' := Lib.hid hq'
          clear hq'
          rcases R with _ | _
          · have hstopii := Lib.hid (of_decide_eq_false HR.out)
            have how : Own wc B (.slice (some ⟨g, 0, none⟩) n c) cur := by rw [Hq'.out]; exact how_.below ((Below.refl _ _).drewN q')
            have hgr : w.grownBy wc (some g) := by rw [Hq'.out]; exact hgr_.trans' (grown_drewN _ _ _)
            have hpin := hp
            have hiis := hside
            clear how_ hgr_ Hq' Hwq HR hp hside
            obtain ⟨wii, rfl⟩ : ∃ wx : World, wx = wc := ⟨_, rfl⟩
            obtain ⟨hj0, hj0e⟩ : ∃ z : Nat, z = 0 := ⟨_, rfl⟩
            clear hj0e hj0
            go_wp2_with fail
            go_loopw [10] (fun vi ws => ∃ (k q : Nat), vi = .int .i64 k ∧ Hid (Goss.PIn (fun x => ¬ v < x) a b ii k v cur) ∧ (k ≤ j) ∧ ws = wii.drewN q) (fun vi _ => (intOf vi).toNat)
            case atStart => exact ⟨j, 0, rfl, hpin, Nat.le_refl _, rfl⟩
            case round =>
              obtain ⟨jj, q, rfl, hp, hside, hwq⟩ := hrel
              have how_ : Own wr B (.slice (some ⟨g, 0, none⟩) n c) cur := by rw [hwq]; exact how.below ((Below.refl _ _).drewN q)
              have hgr_ : w.grownBy wr (some g) := by rw [hwq]; exact hgr.trans' (grown_drewN _ _ _)
              have Hwq := Lib.hid hwq
              clear hwq how hgr hpin
              obtain ⟨p1, p2, p3⟩ := hp.out.ij
              obtain ⟨R, hR⟩ : ∃ R : Bool, decide (ii ≤ jj ∧ v < Goss.at' cur jj) = R := ⟨_, rfl⟩
              have HR := Lib.hid hR; clear hR
              go_upto_region 5 with (fail)
              go_cut [59] (fun s wx => s = .bool R ∧ ∃ q', wx = wr.drewN q')
              case first =>
                by_cases hle : ii ≤ jj
                · have hd : decide ((ii : Int) ≤ (jj : Int)) = true := decide_eq_true (by omega)
                  have hd' : decide (ii ≤ jj) = true := decide_eq_true hle
                  obtain ⟨x, hx0, hxc, hxf⟩ := how_.read (k := jj) (by omega)
                  obtain ⟨y, hy0, hyc, hyf⟩ := how_.read (k := a) (by omega)
                  have Hex := Lib.hid (at_of hx0)
                  have Hey := Lib.hid (at_of hy0)
                  have Hpv := Lib.hid hp.out.piv
                  clear hx0 hy0
                  have b1 : (jj : Int) < (n : Int) := by omega
                  have b2 : (a : Int) < (n : Int) := by omega
                  by_cases hlt : y.toNat < x.toNat
                  · have hdl : decide (y.toNat < x.toNat) = true := decide_eq_true hlt
                    obtain rfl : true = R := by rw [← HR.out, eq_comm]; have h1 := Hex.out; have h2 := Hey.out; have h3 := Hpv.out; first | exact decide_eq_true ⟨hle, by omega⟩ | exact decide_eq_false (fun e => by omega)
                    go_quiet ((go_at_call 128; refine Calls.quiet_of_same (quiet_less _ _ _)))
                    go_wp2_with fail
                    go_meet
                    exact ⟨rfl, nq, rfl⟩
                  · have hdl : decide (y.toNat < x.toNat) = false := decide_eq_false hlt
                    obtain rfl : false = R := by rw [← HR.out, eq_comm]; have h1 := Hex.out; have h2 := Hey.out; have h3 := Hpv.out; first | exact decide_eq_true ⟨hle, by omega⟩ | exact decide_eq_false (fun e => by omega)
                    go_quiet ((go_at_call 128; refine Calls.quiet_of_same (quiet_less _ _ _)))
                    go_wp2_with fail
                    go_meet
                    exact ⟨rfl, nq, rfl⟩
                · have hd : decide ((ii : Int) ≤ (jj : Int)) = false := decide_eq_false (by omega)
                  have hd' : decide (ii ≤ jj) = false := decide_eq_false hle
                  obtain rfl : false = R := by rw [← HR.out, eq_comm]; exact decide_eq_false fun e => hle e.1
                  go_quiet (fail)
                  go_wp2_with fail
                  go_meet
                  exact ⟨rfl, nq, rfl⟩
              case rest =>
                obtain ⟨rfl, q', hq'⟩ := hcut
                have Hq' := Lib.hid hq'
                clear hq'
                rcases R with _ | _
                · have hstopjj := Lib.hid (of_decide_eq_false HR.out)
                  have how : Own wc B (.slice (some ⟨g, 0, none⟩) n c) cur := by rw [Hq'.out]; exact how_.below ((Below.refl _ _).drewN q')
                  have hgr : w.grownBy wc (some g) := by rw [Hq'.out]; exact hgr_.trans' (grown_drewN _ _ _)
                  have hpin := hp
                  have hjjs := hside
                  clear how_ hgr_ Hq' Hwq HR hp hside
                  obtain ⟨wjj, rfl⟩ : ∃ wx : World, wx = wc := ⟨_, rfl⟩
                  by_cases hfin : jj < ii
                  · have hd7 : decide ((jj : Int) < (ii : Int)) = true := decide_eq_true (by omega)
                    have hd7' : decide (jj < ii) = true := decide_eq_true hfin
                    have Hlo := hpin.out.lo
                    have Hhi := hpin.out.hi
                    have HLo := Lib.hid Hlo; have HHi := Lib.hid Hhi; have Hpv := Lib.hid hpin.out.piv
                    clear Hlo Hhi hpin hstopii hstopjj
                    go_wp2
                    go_ret
                    exact ⟨ii, cur, rfl, ⟨by omega, by omega⟩, hmv.out, ⟨fun p h1 h2 => by
                      by_cases e : p = a
                      · rw [e]; exact Nat.le_of_eq Hpv.out
                      · have := HLo.out p (by omega) h2; omega, fun q h1 h2 => by have := HHi.out q (by omega) h2; omega⟩, how, hgr⟩
                  · have hd7 : decide ((jj : Int) < (ii : Int)) = false := decide_eq_false (by omega)
                    have hd7' : decide (jj < ii) = false := decide_eq_false hfin
                    obtain ⟨j', hj'⟩ : ∃ j', jj = j' + 1 := ⟨jj - 1, by omega⟩
                    have ej : (jj : Int) - 1 = (j' : Int) := by omega
                    have hps := hpin.out
                    have hst1 : ¬ ¬ v < Goss.at' cur ii := fun e => hstopii.out ⟨by omega, e⟩
                    have hst2 : ¬ v < Goss.at' cur jj := fun e => hstopjj.out ⟨by omega, e⟩
                    rw [hj'] at hps hst2
                    have hsw2 := hps.swap (by omega) hst1 hst2
                    rw [← hj'] at hsw2
                    have hsw3 := Lib.hid hsw2.2
                    have hmv1 : Hid (Goss.Mv a b (Goss.swp cur ii jj) xs) := .swap hmv.out _ _ ⟨by omega, by omega⟩ ⟨by omega, by omega⟩
                    have hi1 : ii ≤ j' := hsw2.1
                    have hj4 : j' < jj := by omega
                    clear hps hst1 hst2 hsw2 hstopii hstopjj hpin hmv hj'
                    obtain ⟨x, hx0, hxc, hxf⟩ := how.read (k := ii) (by omega)
                    obtain ⟨y, hy0, hyc, hyf⟩ := how.read (k := jj) (by omega)
                    have hsw := Goss.swp_eq hx0 hy0
                    have Hsw := Lib.hid hsw
                    clear hsw hx0 hy0
                    have b1 : (ii : Int) < (n : Int) := by omega
                    have b2 : (jj : Int) < (n : Int) := by omega
                    go_upto_region 8 with (fail)
                    go_cut [77] (fun _ wx => Own wx B (.slice (some ⟨g, 0, none⟩) n c) (Goss.swp cur ii jj) ∧ w.grownBy wx (some g))
                    case first =>
                      have how3 := (how.stored ii y).stored jj x
                      have hgr3 := (hgr.trans' (grown_store _ g ii (.int .u32 y.toNat))).trans' (grown_store _ g jj (.int .u32 x.toNat))
                      rw [Hsw.out] at how3
                      clear Hsw
                      by_cases hE : ii = jj
                      · omega
                      · go_region
                        go_wp2_with fail
                        go_meet
                        exact ⟨how3, hgr3.trans' (grown_drew _ _)⟩
                    case rest =>
                      obtain ⟨how2, hgr2⟩ := hcut
                      obtain ⟨w9, rfl⟩ : ∃ w9 : World, w9 = wc := ⟨_, rfl⟩
                      clear how hgr hxc hxf hyc hyf Hsw b1 b2
                      have how := how2
                      have hgr := hgr2
                      clear how2 hgr2
                      go_wp2
                      go_roundw
                      case rel => exact ⟨ii + 1, j', _, by first | rfl | go_num, rfl, hsw3, hmv1, how, hgr⟩
                      case measure => simp only [intOf]; omega
                · have hgo := of_decide_eq_true HR.out
                  obtain ⟨j', hj'⟩ : ∃ j', jj = j' + 1 := ⟨jj - 1, by omega⟩
                  have ej : (jj : Int) - 1 = (j' : Int) := by omega
                  have hp1 := hp.out
                  rw [hj'] at hp1
                  have hp2 := Lib.hid (hp1.down (by omega) (by have := hgo.2; rw [hj'] at this; omega))
                  have hj2 : j' < jj := by omega
                  have hj3 : j' ≤ j := by omega
                  clear hp HR hp1 hj' hgo
                  go_wp2
                  go_roundw
                  case rel => exact ⟨j', q + q', rfl, hp2, hj3, by rw [Hq'.out, Hwq.out, drewN_drewN]⟩
                  case measure => simp only [intOf]; omega
          · have hgo := of_decide_eq_true HR.out
            have hp1 := Lib.hid (hp.out.up hgo.1 hgo.2)
            clear hp HR
            go_wp2
            go_roundw
            case rel => exact ⟨ii + 1, q + q', by first | rfl | go_num, hp1, by omega, by rw [Hq'.out, Hwq.out, drewN_drewN]⟩
            case measure => simp only [intOf]; omega

def PrtEnd (g n c B a b : Nat) (xs : List Goss.F) (w : World) (e : Ending) (w' : World) : Prop :=
  ∃ (m : Nat) (t : Bool) (zs : List Goss.F), e = .returned (.tuple #[.int .i64 m, .bool t]) ∧ Goss.Mv a b zs xs ∧ Goss.Prt a b m zs ∧ Own w' B (.slice (some ⟨g, 0, none⟩) n c) zs ∧ w.grownBy w' (some g)
set_option maxRecDepth 100000 in
set_option maxHeartbeats 8000000 in
theorem part_any (B g n c a b pv : Nat) (xs : List Goss.F) (w : World) (h : Own w B (.slice (some ⟨g, 0, none⟩) n c) xs) (hab : a + 2 ≤ b) (hbn : b ≤ n) (hpv : a ≤ pv ∧ pv < b) (h12 : n ≤ 35184372088832) :
    Calls Try.prog 130 #[.slice (some ⟨g, 0, none⟩) n c, .int .i64 a, .int .i64 b, .int .i64 pv] w (PrtEnd g n c B a b xs w) := by
  have hlen := h.sl.len.1
  obtain ⟨j0, hj0⟩ : ∃ j, b = j + 1 := ⟨b - 1, by omega⟩
  have e0 : (b : Int) - 1 = (j0 : Int) := by omega
  obtain ⟨i0, hi0⟩ : ∃ i, i = a + 1 := ⟨_, rfl⟩
  have e00 : (a : Int) + 1 = (i0 : Int) := by omega
  have hmv0 : Hid (Goss.Mv a b (Goss.swp xs a pv) xs) := .swap (.refl xs) _ _ ⟨by omega, by omega⟩ ⟨by omega, by omega⟩
  have hpin0 := Goss.PIn.start (Lo := fun x => x < Goss.at' (Goss.swp xs a pv) a) (a := a) (b := b) (j := j0) (l := Goss.swp xs a pv) (by rw [Goss.swp_len]; omega) (by omega) hj0.symm
  rw [← hi0] at hpin0
  obtain ⟨v, hv⟩ : ∃ v, Goss.at' (Goss.swp xs a pv) a = v := ⟨_, rfl⟩
  rw [hv] at hpin0
  have Hpin0 := Lib.hid hpin0
  have hj0b : j0 < b := by omega
  have haj0 : a < j0 := by omega
  clear hpin0 hv hlen hj0 hi0
  have how := h
  have hgr := grown_refl w (some g)
  clear h
  go_enter Try.func130, Try.ntmps130
  obtain ⟨pa, pb⟩ := hpv
  obtain ⟨x, hx0, hxc, hxf⟩ := how.read (k := a) (by omega)
  obtain ⟨y, hy0, hyc, hyf⟩ := how.read (k := pv) (by omega)
  have hsw := Goss.swp_eq hx0 hy0
  have Hsw := Lib.hid hsw
  clear hsw hx0 hy0
  have b1 : (a : Int) < (n : Int) := by omega
  have b2 : (pv : Int) < (n : Int) := by omega
  go_upto_region 1 with (fail)
  go_cut [24] (fun _ wx => Own wx B (.slice (some ⟨g, 0, none⟩) n c) (Goss.swp xs a pv) ∧ w.grownBy wx (some g))
  case first =>
    have how3 := (how.stored a y).stored pv x
    have hgr3 := (hgr.trans' (grown_store _ g a (.int .u32 y.toNat))).trans' (grown_store _ g pv (.int .u32 x.toNat))
    rw [Hsw.out] at how3
    clear Hsw
    by_cases hE : a = pv
    · have hxy : x = y := by
        rw [← hE, hxc] at hyc
        have := Option.some.inj hyc
        simp only [Value.int.injEq, true_and] at this
        exact BitVec.eq_of_toNat_eq (by omega)
      subst hxy
      subst hE
      clear hyc hyf b2
      go_region
      go_wp2_with fail
      go_meet
      exact ⟨how3, hgr3.trans' (grown_drew _ _)⟩
    · go_region
      go_wp2_with fail
      go_meet
      exact ⟨how3, hgr3.trans' (grown_drew _ _)⟩
  case rest =>
    obtain ⟨how2, hgr2⟩ := hcut
    obtain ⟨w1, rfl⟩ : ∃ w1 : World, w1 = wc := ⟨_, rfl⟩
    clear how hgr hxc hxf hyc hyf Hsw b1 b2
    have how := how2
    have hgr := hgr2
    clear how2 hgr2
    obtain ⟨cur, hcur⟩ : ∃ cur, Goss.swp xs a pv = cur := ⟨_, rfl⟩
    rw [hcur] at how hmv0 Hpin0
    clear hcur
    have hpin := Hpin0
    have hmv := hmv0
    clear Hpin0 hmv0
    go_wp2_with fail
    go_loopw [10] (fun vi ws => ∃ (k q : Nat), vi = .int .i64 k ∧ Hid (Goss.PIn (fun x => x < v) a b k j0 v cur) ∧ (i0 ≤ k) ∧ ws = w1.drewN q) (fun vi _ => j0 + 1 - (intOf vi).toNat)
    case atStart => exact ⟨i0, 0, rfl, hpin, Nat.le_refl _, rfl⟩
    case round =>
      obtain ⟨ii, q, rfl, hp, hside, hwq⟩ := hrel
      have how_ : Own wr B (.slice (some ⟨g, 0, none⟩) n c) cur := by rw [hwq]; exact how.below ((Below.refl _ _).drewN q)
      have hgr_ : w.grownBy wr (some g) := by rw [hwq]; exact hgr.trans' (grown_drewN _ _ _)
      have Hwq := Lib.hid hwq
      clear hwq how hgr hpin
      obtain ⟨p1, p2, p3⟩ := hp.out.ij
      obtain ⟨R, hR⟩ : ∃ R : Bool, decide (ii ≤ j0 ∧ Goss.at' cur ii < v) = R := ⟨_, rfl⟩
      have HR := Lib.hid hR; clear hR
      go_upto_region 3 with (fail)
      go_cut [43] (fun s wx => s = .bool R ∧ ∃ q', wx = wr.drewN q')
      case first =>
        by_cases hle : ii ≤ j0
        · have hd : decide ((ii : Int) ≤ (j0 : Int)) = true := decide_eq_true (by omega)
          have hd' : decide (ii ≤ j0) = true := decide_eq_true hle
          obtain ⟨x, hx0, hxc, hxf⟩ := how_.read (k := ii) (by omega)
          obtain ⟨y, hy0, hyc, hyf⟩ := how_.read (k := a) (by omega)
          have Hex := Lib.hid (at_of hx0)
          have Hey := Lib.hid (at_of hy0)
          have Hpv := Lib.hid hp.out.piv
          clear hx0 hy0
          have b1 : (ii : Int) < (n : Int) := by omega
          have b2 : (a : Int) < (n : Int) := by omega
          by_cases hlt : x.toNat < y.toNat
          · have hdl : decide (x.toNat < y.toNat) = true := decide_eq_true hlt
            obtain rfl : true = R := by rw [← HR.out, eq_comm]; have h1 := Hex.out; have h2 := Hey.out; have h3 := Hpv.out; first | exact decide_eq_true ⟨hle, by omega⟩ | exact decide_eq_false (fun e => by omega)
            go_quiet ((go_at_call 128; refine Calls.quiet_of_same (quiet_less _ _ _)))
            go_wp2_with fail
            go_meet
            exact ⟨rfl, nq, rfl⟩
          · have hdl : decide (x.toNat < y.toNat) = false := decide_eq_false hlt
            obtain rfl : false = R := by rw [← HR.out, eq_comm]; have h1 := Hex.out; have h2 := Hey.out; have h3 := Hpv.out; first | exact decide_eq_true ⟨hle, by omega⟩ | exact decide_eq_false (fun e => by omega)
            go_quiet ((go_at_call 128; refine Calls.quiet_of_same (quiet_less _ _ _)))
            go_wp2_with fail
            go_meet
            exact ⟨rfl, nq, rfl⟩
        · have hd : decide ((ii : Int) ≤ (j0 : Int)) = false := decide_eq_false (by omega)
          have hd' : decide (ii ≤ j0) = false := decide_eq_false hle
          obtain rfl : false = R := by rw [← HR.out, eq_comm]; exact decide_eq_false fun e => hle e.1
          go_quiet (fail)
          go_wp2_with fail
          go_meet
          exact ⟨rfl, nq, rfl⟩
      case rest =>
        obtain ⟨rfl, q', hq'⟩ := hcut
        have Hq' := Lib.hid hq'
        clear hq'
        rcases R with _ | _
        · have hstopii := Lib.hid (of_decide_eq_false HR.out)
          have how : Own wc B (.slice (some ⟨g, 0, none⟩) n c) cur := by rw [Hq'.out]; exact how_.below ((Below.refl _ _).drewN q')
          have hgr : w.grownBy wc (some g) := by rw [Hq'.out]; exact hgr_.trans' (grown_drewN _ _ _)
          have hpin := hp
          have hiis := hside
          clear how_ hgr_ Hq' Hwq HR hp hside
          obtain ⟨wii, rfl⟩ : ∃ wx : World, wx = wc := ⟨_, rfl⟩
          go_wp2_with fail
          go_loopw [11] (fun vi ws => ∃ (k q : Nat), vi = .int .i64 k ∧ Hid (Goss.PIn (fun x => x < v) a b ii k v cur) ∧ (k ≤ j0) ∧ ws = wii.drewN q) (fun vi _ => (intOf vi).toNat)
          case atStart => exact ⟨j0, 0, rfl, hpin, Nat.le_refl _, rfl⟩
          case round =>
            obtain ⟨jj, q, rfl, hp, hside, hwq⟩ := hrel
            have how_ : Own wr B (.slice (some ⟨g, 0, none⟩) n c) cur := by rw [hwq]; exact how.below ((Below.refl _ _).drewN q)
            have hgr_ : w.grownBy wr (some g) := by rw [hwq]; exact hgr.trans' (grown_drewN _ _ _)
            have Hwq := Lib.hid hwq
            clear hwq how hgr hpin
            obtain ⟨p1, p2, p3⟩ := hp.out.ij
            obtain ⟨R, hR⟩ : ∃ R : Bool, decide (ii ≤ jj ∧ ¬ Goss.at' cur jj < v) = R := ⟨_, rfl⟩
            have HR := Lib.hid hR; clear hR
            go_upto_region 5 with (fail)
            go_cut [60] (fun s wx => s = .bool R ∧ ∃ q', wx = wr.drewN q')
            case first =>
              by_cases hle : ii ≤ jj
              · have hd : decide ((ii : Int) ≤ (jj : Int)) = true := decide_eq_true (by omega)
                have hd' : decide (ii ≤ jj) = true := decide_eq_true hle
                obtain ⟨x, hx0, hxc, hxf⟩ := how_.read (k := jj) (by omega)
                obtain ⟨y, hy0, hyc, hyf⟩ := how_.read (k := a) (by omega)
                have Hex := Lib.hid (at_of hx0)
                have Hey := Lib.hid (at_of hy0)
                have Hpv := Lib.hid hp.out.piv
                clear hx0 hy0
                have b1 : (jj : Int) < (n : Int) := by omega
                have b2 : (a : Int) < (n : Int) := by omega
                by_cases hlt : x.toNat < y.toNat
                · have hdl : decide (x.toNat < y.toNat) = true := decide_eq_true hlt
                  obtain rfl : false = R := by rw [← HR.out, eq_comm]; have h1 := Hex.out; have h2 := Hey.out; have h3 := Hpv.out; first | exact decide_eq_true ⟨hle, by omega⟩ | exact decide_eq_false (fun e => by omega)
                  go_quiet ((go_at_call 128; refine Calls.quiet_of_same (quiet_less _ _ _)))
                  go_wp2_with fail
                  go_meet
                  exact ⟨rfl, nq, rfl⟩
                · have hdl : decide (x.toNat < y.toNat) = false := decide_eq_false hlt
                  obtain rfl : true = R := by rw [← HR.out, eq_comm]; have h1 := Hex.out; have h2 := Hey.out; have h3 := Hpv.out; first | exact decide_eq_true ⟨hle, by omega⟩ | exact decide_eq_false (fun e => by omega)
                  go_quiet ((go_at_call 128; refine Calls.quiet_of_same (quiet_less _ _ _)))
                  go_wp2_with fail
                  go_meet
                  exact ⟨rfl, nq, rfl⟩
              · have hd : decide ((ii : Int) ≤ (jj : Int)) = false := decide_eq_false (by omega)
                have hd' : decide (ii ≤ jj) = false := decide_eq_false hle
                obtain rfl : false = R := by rw [← HR.out, eq_comm]; exact decide_eq_false fun e => hle e.1
                go_quiet (fail)
                go_wp2_with fail
                go_meet
                exact ⟨rfl, nq, rfl⟩
            case rest =>
              obtain ⟨rfl, q', hq'⟩ := hcut
              have Hq' := Lib.hid hq'
              clear hq'
              rcases R with _ | _
              · have hstopjj := Lib.hid (of_decide_eq_false HR.out)
                have how : Own wc B (.slice (some ⟨g, 0, none⟩) n c) cur := by rw [Hq'.out]; exact how_.below ((Below.refl _ _).drewN q')
                have hgr : w.grownBy wc (some g) := by rw [Hq'.out]; exact hgr_.trans' (grown_drewN _ _ _)
                have hpin := hp
                have hjjs := hside
                clear how_ hgr_ Hq' Hwq HR hp hside
                obtain ⟨wjj, rfl⟩ : ∃ wx : World, wx = wc := ⟨_, rfl⟩
                by_cases hfin : jj < ii
                · have hd7 : decide ((jj : Int) < (ii : Int)) = true := decide_eq_true (by omega)
                  have hd7' : decide (jj < ii) = true := decide_eq_true hfin
                  have hmv2 : Hid (Goss.Mv a b (Goss.swp cur jj a) xs) := .swap hmv.out _ _ ⟨by omega, by omega⟩ ⟨by omega, by omega⟩
                  have hpr := Lib.hid (hpin.out.fin hfin)
                  clear hpin hstopii hstopjj hmv
                  obtain ⟨x, hx0, hxc, hxf⟩ := how.read (k := jj) (by omega)
                  obtain ⟨y, hy0, hyc, hyf⟩ := how.read (k := a) (by omega)
                  have hsw := Goss.swp_eq hx0 hy0
                  have Hsw := Lib.hid hsw
                  clear hsw hx0 hy0
                  have b1 : (jj : Int) < (n : Int) := by omega
                  have b2 : (a : Int) < (n : Int) := by omega
                  go_upto_region 8 with (fail)
                  go_cut [78] (fun _ wx => Own wx B (.slice (some ⟨g, 0, none⟩) n c) (Goss.swp cur jj a) ∧ w.grownBy wx (some g))
                  case first =>
                    have how3 := (how.stored jj y).stored a x
                    have hgr3 := (hgr.trans' (grown_store _ g jj (.int .u32 y.toNat))).trans' (grown_store _ g a (.int .u32 x.toNat))
                    rw [Hsw.out] at how3
                    clear Hsw
                    by_cases hE : jj = a
                    · have hxy : x = y := by
                        rw [← hE, hxc] at hyc
                        have := Option.some.inj hyc
                        simp only [Value.int.injEq, true_and] at this
                        exact BitVec.eq_of_toNat_eq (by omega)
                      subst hxy
                      subst hE
                      clear hyc hyf b2
                      go_region
                      go_wp2_with fail
                      go_meet
                      exact ⟨how3, hgr3.trans' (grown_drew _ _)⟩
                    · go_region
                      go_wp2_with fail
                      go_meet
                      exact ⟨how3, hgr3.trans' (grown_drew _ _)⟩
                  case rest =>
                    obtain ⟨how2, hgr2⟩ := hcut
                    obtain ⟨w9, rfl⟩ : ∃ w9 : World, w9 = wc := ⟨_, rfl⟩
                    clear how hgr hxc hxf hyc hyf Hsw b1 b2
                    have how := how2
                    have hgr := hgr2
                    clear how2 hgr2
                    go_wp2
                    go_ret2
                    exact ⟨jj, true, _, rfl, hmv2.out, hpr.out, how, hgr⟩
                · have hd7 : decide ((jj : Int) < (ii : Int)) = false := decide_eq_false (by omega)
                  have hd7' : decide (jj < ii) = false := decide_eq_false hfin
                  obtain ⟨j', hj'⟩ : ∃ j', jj = j' + 1 := ⟨jj - 1, by omega⟩
                  have ej : (jj : Int) - 1 = (j' : Int) := by omega
                  have hps := hpin.out
                  have hst1 : ¬ Goss.at' cur ii < v := fun e => hstopii.out ⟨by omega, e⟩
                  have hst2 : Goss.at' cur jj < v := Classical.byContradiction fun e => hstopjj.out ⟨by omega, e⟩
                  rw [hj'] at hps hst2
                  have hsw2 := hps.swap (by omega) hst1 hst2
                  rw [← hj'] at hsw2
                  have hsw3 := Lib.hid hsw2.2
                  have hmv1 : Hid (Goss.Mv a b (Goss.swp cur ii jj) xs) := .swap hmv.out _ _ ⟨by omega, by omega⟩ ⟨by omega, by omega⟩
                  have hi1 : ii ≤ j' := hsw2.1
                  have hj4 : j' < jj := by omega
                  clear hps hst1 hst2 hsw2 hstopii hstopjj hpin hmv hj'
                  obtain ⟨x, hx0, hxc, hxf⟩ := how.read (k := ii) (by omega)
                  obtain ⟨y, hy0, hyc, hyf⟩ := how.read (k := jj) (by omega)
                  have hsw := Goss.swp_eq hx0 hy0
                  have Hsw := Lib.hid hsw
                  clear hsw hx0 hy0
                  have b1 : (ii : Int) < (n : Int) := by omega
                  have b2 : (jj : Int) < (n : Int) := by omega
                  go_upto_region 10 with (fail)
                  go_cut [93] (fun _ wx => Own wx B (.slice (some ⟨g, 0, none⟩) n c) (Goss.swp cur ii jj) ∧ w.grownBy wx (some g))
                  case first =>
                    have how3 := (how.stored ii y).stored jj x
                    have hgr3 := (hgr.trans' (grown_store _ g ii (.int .u32 y.toNat))).trans' (grown_store _ g jj (.int .u32 x.toNat))
                    rw [Hsw.out] at how3
                    clear Hsw
                    by_cases hE : ii = jj
                    · omega
                    · go_region
                      go_wp2_with fail
                      go_meet
                      exact ⟨how3, hgr3.trans' (grown_drew _ _)⟩
                  case rest =>
                    obtain ⟨how2, hgr2⟩ := hcut
                    obtain ⟨w8, rfl⟩ : ∃ w8 : World, w8 = wc := ⟨_, rfl⟩
                    clear how hgr hxc hxf hyc hyf Hsw b1 b2
                    have how := how2
                    have hgr := hgr2
                    clear how2 hgr2
                    go_wp2_with fail
                    go_loopw [10, 11] (fun vi vj ws => ∃ (i j : Nat) (cur : List Goss.F), vi = .int .i64 i ∧ vj = .int .i64 j ∧ Hid (Goss.PIn (fun x => x < v) a b i j v cur) ∧ Hid (Goss.Mv a b cur xs) ∧ Own ws B (.slice (some ⟨g, 0, none⟩) n c) cur ∧ w.grownBy ws (some g)) (fun vi vj _ => (intOf vj + 1 - intOf vi).toNat)
                    case atStart => exact ⟨ii + 1, j', _, by first | rfl | go_num, rfl, hsw3, hmv1, how, hgr⟩
                    case round =>
                      clear how hgr hsw3 hmv1 hi1 hj4 ej hfin p1 p2 p3 hjjs hiis hd7 hd7'
                      obtain ⟨i, j, cur, rfl, rfl, hpin, hmv, how, hgr⟩ := hrel
                      obtain ⟨wo, rfl⟩ : ∃ wx : World, wx = wr := ⟨_, rfl⟩
                      go_wp2_with fail
                      go_loopw [10] (fun vi ws => ∃ (k q : Nat), vi = .int .i64 k ∧ Hid (Goss.PIn (fun x => x < v) a b k j v cur) ∧ (i ≤ k) ∧ ws = wo.drewN q) (fun vi _ => j + 1 - (intOf vi).toNat)
                      case atStart => exact ⟨i, 0, rfl, hpin, Nat.le_refl _, rfl⟩
                      case round =>
                        obtain ⟨ii, q, rfl, hp, hside, hwq⟩ := hrel
                        have how_ : Own wr B (.slice (some ⟨g, 0, none⟩) n c) cur := by rw [hwq]; exact how.below ((Below.refl _ _).drewN q)
                        have hgr_ : w.grownBy wr (some g) := by rw [hwq]; exact hgr.trans' (grown_drewN _ _ _)
                        have Hwq := Lib.hid hwq
                        clear hwq how hgr hpin
                        obtain ⟨p1, p2, p3⟩ := hp.out.ij
                        obtain ⟨R, hR⟩ : ∃ R : Bool, decide (ii ≤ j ∧ Goss.at' cur ii < v) = R := ⟨_, rfl⟩
                        have HR := Lib.hid hR; clear hR
                        go_upto_region 13 with (fail)
                        go_cut [112] (fun s wx => s = .bool R ∧ ∃ q', wx = wr.drewN q')
                        case first =>
                          by_cases hle : ii ≤ j
                          · have hd : decide ((ii : Int) ≤ (j : Int)) = true := decide_eq_true (by omega)
                            have hd' : decide (ii ≤ j) = true := decide_eq_true hle
                            obtain ⟨x, hx0, hxc, hxf⟩ := how_.read (k := ii) (by omega)
                            obtain ⟨y, hy0, hyc, hyf⟩ := how_.read (k := a) (by omega)
                            have Hex := Lib.hid (at_of hx0)
                            have Hey := Lib.hid (at_of hy0)
                            have Hpv := Lib.hid hp.out.piv
                            clear hx0 hy0
                            have b1 : (ii : Int) < (n : Int) := by omega
                            have b2 : (a : Int) < (n : Int) := by omega
                            by_cases hlt : x.toNat < y.toNat
                            · have hdl : decide (x.toNat < y.toNat) = true := decide_eq_true hlt
                              obtain rfl : true = R := by rw [← HR.out, eq_comm]; have h1 := Hex.out; have h2 := Hey.out; have h3 := Hpv.out; first | exact decide_eq_true ⟨hle, by omega⟩ | exact decide_eq_false (fun e => by omega)
                              go_quiet ((go_at_call 128; refine Calls.quiet_of_same (quiet_less _ _ _)))
                              go_wp2_with fail
                              go_meet
                              exact ⟨rfl, nq, rfl⟩
                            · have hdl : decide (x.toNat < y.toNat) = false := decide_eq_false hlt
                              obtain rfl : false = R := by rw [← HR.out, eq_comm]; have h1 := Hex.out; have h2 := Hey.out; have h3 := Hpv.out; first | exact decide_eq_true ⟨hle, by omega⟩ | exact decide_eq_false (fun e => by omega)
                              go_quiet ((go_at_call 128; refine Calls.quiet_of_same (quiet_less _ _ _)))
                              go_wp2_with fail
                              go_meet
                              exact ⟨rfl, nq, rfl⟩
                          · have hd : decide ((ii : Int) ≤ (j : Int)) = false := decide_eq_false (by omega)
                            have hd' : decide (ii ≤ j) = false := decide_eq_false hle
                            obtain rfl : false = R := by rw [← HR.out, eq_comm]; exact decide_eq_false fun e => hle e.1
                            go_quiet (fail)
                            go_wp2_with fail
                            go_meet
                            exact ⟨rfl, nq, rfl⟩
                        case rest =>
                          obtain ⟨rfl, q', hq'⟩ := hcut
                          have Hq' := Lib.hid hq'
                          clear hq'
                          rcases R with _ | _
                          · have hstopii := Lib.hid (of_decide_eq_false HR.out)
                            have how : Own wc B (.slice (some ⟨g, 0, none⟩) n c) cur := by rw [Hq'.out]; exact how_.below ((Below.refl _ _).drewN q')
                            have hgr : w.grownBy wc (some g) := by rw [Hq'.out]; exact hgr_.trans' (grown_drewN _ _ _)
                            have hpin := hp
                            have hiis := hside
                            clear how_ hgr_ Hq' Hwq HR hp hside
                            obtain ⟨wii, rfl⟩ : ∃ wx : World, wx = wc := ⟨_, rfl⟩
                            go_wp2_with fail
                            go_loopw [11] (fun vi ws => ∃ (k q : Nat), vi = .int .i64 k ∧ Hid (Goss.PIn (fun x => x < v) a b ii k v cur) ∧ (k ≤ j) ∧ ws = wii.drewN q) (fun vi _ => (intOf vi).toNat)
                            case atStart => exact ⟨j, 0, rfl, hpin, Nat.le_refl _, rfl⟩
                            case round =>
                              obtain ⟨jj, q, rfl, hp, hside, hwq⟩ := hrel
                              have how_ : Own wr B (.slice (some ⟨g, 0, none⟩) n c) cur := by rw [hwq]; exact how.below ((Below.refl _ _).drewN q)
                              have hgr_ : w.grownBy wr (some g) := by rw [hwq]; exact hgr.trans' (grown_drewN _ _ _)
                              have Hwq := Lib.hid hwq
                              clear hwq how hgr hpin
                              obtain ⟨p1, p2, p3⟩ := hp.out.ij
                              obtain ⟨R, hR⟩ : ∃ R : Bool, decide (ii ≤ jj ∧ ¬ Goss.at' cur jj < v) = R := ⟨_, rfl⟩
                              have HR := Lib.hid hR; clear hR
                              go_upto_region 15 with (fail)
                              go_cut [129] (fun s wx => s = .bool R ∧ ∃ q', wx = wr.drewN q')
                              case first =>
                                by_cases hle : ii ≤ jj
                                · have hd : decide ((ii : Int) ≤ (jj : Int)) = true := decide_eq_true (by omega)
                                  have hd' : decide (ii ≤ jj) = true := decide_eq_true hle
                                  obtain ⟨x, hx0, hxc, hxf⟩ := how_.read (k := jj) (by omega)
                                  obtain ⟨y, hy0, hyc, hyf⟩ := how_.read (k := a) (by omega)
                                  have Hex := Lib.hid (at_of hx0)
                                  have Hey := Lib.hid (at_of hy0)
                                  have Hpv := Lib.hid hp.out.piv
                                  clear hx0 hy0
                                  have b1 : (jj : Int) < (n : Int) := by omega
                                  have b2 : (a : Int) < (n : Int) := by omega
                                  by_cases hlt : x.toNat < y.toNat
                                  · have hdl : decide (x.toNat < y.toNat) = true := decide_eq_true hlt
                                    obtain rfl : false = R := by rw [← HR.out, eq_comm]; have h1 := Hex.out; have h2 := Hey.out; have h3 := Hpv.out; first | exact decide_eq_true ⟨hle, by omega⟩ | exact decide_eq_false (fun e => by omega)
                                    go_quiet ((go_at_call 128; refine Calls.quiet_of_same (quiet_less _ _ _)))
                                    go_wp2_with fail
                                    go_meet
                                    exact ⟨rfl, nq, rfl⟩
                                  · have hdl : decide (x.toNat < y.toNat) = false := decide_eq_false hlt
                                    obtain rfl : true = R := by rw [← HR.out, eq_comm]; have h1 := Hex.out; have h2 := Hey.out; have h3 := Hpv.out; first | exact decide_eq_true ⟨hle, by omega⟩ | exact decide_eq_false (fun e => by omega)
                                    go_quiet ((go_at_call 128; refine Calls.quiet_of_same (quiet_less _ _ _)))
                                    go_wp2_with fail
                                    go_meet
                                    exact ⟨rfl, nq, rfl⟩
                                · have hd : decide ((ii : Int) ≤ (jj : Int)) = false := decide_eq_false (by omega)
                                  have hd' : decide (ii ≤ jj) = false := decide_eq_false hle
                                  obtain rfl : false = R := by rw [← HR.out, eq_comm]; exact decide_eq_false fun e => hle e.1
                                  go_quiet (fail)
                                  go_wp2_with fail
                                  go_meet
                                  exact ⟨rfl, nq, rfl⟩
                              case rest =>
                                obtain ⟨rfl, q', hq'⟩ := hcut
                                have Hq' := Lib.hid hq'
                                clear hq'
                                rcases R with _ | _
                                · have hstopjj := Lib.hid (of_decide_eq_false HR.out)
                                  have how : Own wc B (.slice (some ⟨g, 0, none⟩) n c) cur := by rw [Hq'.out]; exact how_.below ((Below.refl _ _).drewN q')
                                  have hgr : w.grownBy wc (some g) := by rw [Hq'.out]; exact hgr_.trans' (grown_drewN _ _ _)
                                  have hpin := hp
                                  have hjjs := hside
                                  clear how_ hgr_ Hq' Hwq HR hp hside
                                  obtain ⟨wjj, rfl⟩ : ∃ wx : World, wx = wc := ⟨_, rfl⟩
                                  by_cases hfin : jj < ii
                                  · have hd7 : decide ((jj : Int) < (ii : Int)) = true := decide_eq_true (by omega)
                                    have hd7' : decide (jj < ii) = true := decide_eq_true hfin
                                    have hmv2 : Hid (Goss.Mv a b (Goss.swp cur jj a) xs) := .swap hmv.out _ _ ⟨by omega, by omega⟩ ⟨by omega, by omega⟩
                                    have hpr := Lib.hid (hpin.out.fin hfin)
                                    clear hpin hstopii hstopjj hmv
                                    obtain ⟨x, hx0, hxc, hxf⟩ := how.read (k := jj) (by omega)
                                    obtain ⟨y, hy0, hyc, hyf⟩ := how.read (k := a) (by omega)
                                    have hsw := Goss.swp_eq hx0 hy0
                                    have Hsw := Lib.hid hsw
                                    clear hsw hx0 hy0
                                    have b1 : (jj : Int) < (n : Int) := by omega
                                    have b2 : (a : Int) < (n : Int) := by omega
                                    go_upto_region 21 with (fail)
                                    go_cut [165] (fun _ wx => Own wx B (.slice (some ⟨g, 0, none⟩) n c) (Goss.swp cur jj a) ∧ w.grownBy wx (some g))
                                    case first =>
                                      have how3 := (how.stored jj y).stored a x
                                      have hgr3 := (hgr.trans' (grown_store _ g jj (.int .u32 y.toNat))).trans' (grown_store _ g a (.int .u32 x.toNat))
                                      rw [Hsw.out] at how3
                                      clear Hsw
                                      by_cases hE : jj = a
                                      · have hxy : x = y := by
                                          rw [← hE, hxc] at hyc
                                          have := Option.some.inj hyc
                                          simp only [Value.int.injEq, true_and] at this
                                          exact BitVec.eq_of_toNat_eq (by omega)
                                        subst hxy
                                        subst hE
                                        clear hyc hyf b2
                                        go_region
                                        go_wp2_with fail
                                        go_meet
                                        exact ⟨how3, hgr3.trans' (grown_drew _ _)⟩
                                      · go_region
                                        go_wp2_with fail
                                        go_meet
                                        exact ⟨how3, hgr3.trans' (grown_drew _ _)⟩
                                    case rest =>
                                      obtain ⟨how2, hgr2⟩ := hcut
                                      obtain ⟨w9, rfl⟩ : ∃ w9 : World, w9 = wc := ⟨_, rfl⟩
                                      clear how hgr hxc hxf hyc hyf Hsw b1 b2
                                      have how := how2
                                      have hgr := hgr2
                                      clear how2 hgr2
                                      go_wp2
                                      go_ret2
                                      exact ⟨jj, false, _, rfl, hmv2.out, hpr.out, how, hgr⟩
                                  · have hd7 : decide ((jj : Int) < (ii : Int)) = false := decide_eq_false (by omega)
                                    have hd7' : decide (jj < ii) = false := decide_eq_false hfin
                                    obtain ⟨j', hj'⟩ : ∃ j', jj = j' + 1 := ⟨jj - 1, by omega⟩
                                    have ej : (jj : Int) - 1 = (j' : Int) := by omega
                                    have hps := hpin.out
                                    have hst1 : ¬ Goss.at' cur ii < v := fun e => hstopii.out ⟨by omega, e⟩
                                    have hst2 : Goss.at' cur jj < v := Classical.byContradiction fun e => hstopjj.out ⟨by omega, e⟩
                                    rw [hj'] at hps hst2
                                    have hsw2 := hps.swap (by omega) hst1 hst2
                                    rw [← hj'] at hsw2
                                    have hsw3 := Lib.hid hsw2.2
                                    have hmv1 : Hid (Goss.Mv a b (Goss.swp cur ii jj) xs) := .swap hmv.out _ _ ⟨by omega, by omega⟩ ⟨by omega, by omega⟩
                                    have hi1 : ii ≤ j' := hsw2.1
                                    have hj4 : j' < jj := by omega
                                    clear hps hst1 hst2 hsw2 hstopii hstopjj hpin hmv hj'
                                    obtain ⟨x, hx0, hxc, hxf⟩ := how.read (k := ii) (by omega)
                                    obtain ⟨y, hy0, hyc, hyf⟩ := how.read (k := jj) (by omega)
                                    have hsw := Goss.swp_eq hx0 hy0
                                    have Hsw := Lib.hid hsw
                                    clear hsw hx0 hy0
                                    have b1 : (ii : Int) < (n : Int) := by omega
                                    have b2 : (jj : Int) < (n : Int) := by omega
                                    go_upto_region 18 with (fail)
                                    go_cut [147] (fun _ wx => Own wx B (.slice (some ⟨g, 0, none⟩) n c) (Goss.swp cur ii jj) ∧ w.grownBy wx (some g))
                                    case first =>
                                      have how3 := (how.stored ii y).stored jj x
                                      have hgr3 := (hgr.trans' (grown_store _ g ii (.int .u32 y.toNat))).trans' (grown_store _ g jj (.int .u32 x.toNat))
                                      rw [Hsw.out] at how3
                                      clear Hsw
                                      by_cases hE : ii = jj
                                      · omega
                                      · go_region
                                        go_wp2_with fail
                                        go_meet
                                        exact ⟨how3, hgr3.trans' (grown_drew _ _)⟩
                                    case rest =>
                                      obtain ⟨how2, hgr2⟩ := hcut
                                      obtain ⟨w8, rfl⟩ : ∃ w8 : World, w8 = wc := ⟨_, rfl⟩
                                      clear how hgr hxc hxf hyc hyf Hsw b1 b2
                                      have how := how2
                                      have hgr := hgr2
                                      clear how2 hgr2
                                      go_wp2
                                      go_roundw
                                      case rel => exact ⟨ii + 1, j', _, by first | rfl | go_num, rfl, hsw3, hmv1, how, hgr⟩
                                      case measure => simp only [intOf]; omega
                                · have hgo := of_decide_eq_true HR.out
                                  obtain ⟨j', hj'⟩ : ∃ j', jj = j' + 1 := ⟨jj - 1, by omega⟩
                                  have ej : (jj : Int) - 1 = (j' : Int) := by omega
                                  have hp1 := hp.out
                                  rw [hj'] at hp1
                                  have hp2 := Lib.hid (hp1.down (by omega) (by have := hgo.2; rw [hj'] at this; omega))
                                  have hj2 : j' < jj := by omega
                                  have hj3 : j' ≤ j := by omega
                                  clear hp HR hp1 hj' hgo
                                  go_wp2
                                  go_roundw
                                  case rel => exact ⟨j', q + q', rfl, hp2, hj3, by rw [Hq'.out, Hwq.out, drewN_drewN]⟩
                                  case measure => simp only [intOf]; omega
                          · have hgo := of_decide_eq_true HR.out
                            have hp1 := Lib.hid (hp.out.up hgo.1 hgo.2)
                            clear hp HR
                            go_wp2
                            go_roundw
                            case rel => exact ⟨ii + 1, q + q', by first | rfl | go_num, hp1, by omega, by rw [Hq'.out, Hwq.out, drewN_drewN]⟩
                            case measure => simp only [intOf]; omega
              · have hgo := of_decide_eq_true HR.out
                obtain ⟨j', hj'⟩ : ∃ j', jj = j' + 1 := ⟨jj - 1, by omega⟩
                have ej : (jj : Int) - 1 = (j' : Int) := by omega
                have hp1 := hp.out
                rw [hj'] at hp1
                have hp2 := Lib.hid (hp1.down (by omega) (by have := hgo.2; rw [hj'] at this; omega))
                have hj2 : j' < jj := by omega
                have hj3 : j' ≤ j0 := by omega
                clear hp HR hp1 hj' hgo
                go_wp2
                go_roundw
                case rel => exact ⟨j', q + q', rfl, hp2, hj3, by rw [Hq'.out, Hwq.out, drewN_drewN]⟩
                case measure => simp only [intOf]; omega
        · have hgo := of_decide_eq_true HR.out
          have hp1 := Lib.hid (hp.out.up hgo.1 hgo.2)
          clear hp HR
          go_wp2
          go_roundw
          case rel => exact ⟨ii + 1, q + q', by first | rfl | go_num, hp1, by omega, by rw [Hq'.out, Hwq.out, drewN_drewN]⟩
          case measure => simp only [intOf]; omega
end Go.Proofs.Ythglbipcfhdoaaa
