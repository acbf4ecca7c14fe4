/- The sort of a range: sifting down. -/
import Derived.Test.YthglbipcfhdoaaaSortB
namespace Go.Proofs.Ythglbipcfhdoaaa
open Go.RowKit

set_option maxRecDepth 100000 in
set_option maxHeartbeats 4000000 in
theorem siftdown_any (B g n c lo hi f : Nat) (xs : List Goss.F) (w : World) (h : Own w B (.slice (some ⟨g, 0, none⟩) n c) xs) (hlo : lo ≤ hi) (hfn : f + hi ≤ n) (h12 : n ≤ 35184372088832) (hp : Goss.Hp xs f (lo + 1) hi) :
    Calls Try.prog 137 #[.slice (some ⟨g, 0, none⟩) n c, .int .i64 lo, .int .i64 hi, .int .i64 f] w (MvEnd (fun zs => Goss.Hp zs f lo hi) g n c B f (f + hi) xs w) := by
  have Hp := Lib.hid hp; clear hp
  go_enter Try.func137, Try.ntmps137
  go_wp2_with fail
  go_loopw [8] (fun vr wr => ∃ (r : Nat) (cur : List Goss.F), r ≤ hi ∧ vr = .int .i64 r ∧ Hid (Goss.Mv f (f + hi) cur xs) ∧ Hid (Goss.Sft cur f lo hi r) ∧ Own wr B (.slice (some ⟨g, 0, none⟩) n c) cur ∧ w.grownBy wr (some g)) (fun vr _ => hi - (intOf vr).toNat)
  case atStart => exact ⟨lo, xs, hlo, rfl, Goss.Mv.refl xs, Goss.Sft.start Hp.out, h, grown_refl _ _⟩
  case round =>
    obtain ⟨r, cur, hrh, rfl, hmv, hx, how, hgr⟩ := hrel
    have hlen := how.sl.len.1
    have Hlen := Lib.hid hlen; clear hlen
    obtain ⟨l, hl⟩ : ∃ l, l = 2 * r + 1 := ⟨_, rfl⟩
    have e1 : 2 * (r : Int) + 1 = (l : Int) := by omega
    have hrl : r < l := by omega
    by_cases hend : hi ≤ l
    · have hd : decide ((hi : Int) ≤ (l : Int)) = true := decide_eq_true (by omega)
      have hfin : Goss.Hp cur f lo hi := hx.out.done (fun c h1 h2 => by omega)
      have Hfin := Lib.hid hfin; clear hfin hx hl
      go_wp2
      go_end0
      exact ⟨rfl, cur, hmv.out, Hfin.out, how, hgr⟩
    · have hd : decide ((hi : Int) ≤ (l : Int)) = false := decide_eq_false (by omega)
      have Hl := Lib.hid hl; clear hl
      obtain ⟨fr, hfr⟩ : ∃ fr, fr = f + r := ⟨_, rfl⟩
      obtain ⟨fl, hfl⟩ : ∃ fl, fl = f + l := ⟨_, rfl⟩
      obtain ⟨l1, hl1⟩ : ∃ l1, l1 = l + 1 := ⟨_, rfl⟩
      obtain ⟨f1, hf1⟩ : ∃ f1, f1 = fl + 1 := ⟨_, rfl⟩
      have e2 : IntKind.i64.wrap ((f : Int) + (l : Int)) = (fl : Int) := by rw [IntWalk.i64_in _ (by omega)]; omega
      have e3 : IntKind.i64.wrap ((f : Int) + (r : Int)) = (fr : Int) := by rw [IntWalk.i64_in _ (by omega)]; omega
      have e4 : IntKind.i64.wrap ((l : Int) + 1) = (l1 : Int) := by rw [IntWalk.i64_in _ (by omega)]; omega
      have e5 : IntKind.i64.wrap ((fl : Int) + 1) = (f1 : Int) := by rw [IntWalk.i64_in _ (by omega)]; omega
      have e6 : (l : Int) + 1 = (l1 : Int) := by omega
      have b1 : (fr : Int) < (n : Int) := by omega
      have b2 : (fl : Int) < (n : Int) := by omega
      obtain ⟨y, hy0, hyc, hyf⟩ := how.read (k := fr) (by omega)
      obtain ⟨x1, hx10, hx1c, hx1f⟩ := how.read (k := fl) (by omega)
      have Hy0 := Lib.hid hy0; have Hx10 := Lib.hid hx10; clear hy0 hx10
      have Hfr := Lib.hid hfr; have Hfl := Lib.hid hfl; have Hl1 := Lib.hid hl1; have Hf1 := Lib.hid hf1
      by_cases hr1 : l1 < hi
      · have hd1 : decide ((l1 : Int) < (hi : Int)) = true := decide_eq_true (by omega)
        have hd1' : decide (l1 < hi) = true := decide_eq_true hr1
        have b3 : (f1 : Int) < (n : Int) := by omega
        have e7 : IntKind.i64.wrap ((f : Int) + (l1 : Int)) = (f1 : Int) := by rw [IntWalk.i64_in _ (by omega)]; omega
        obtain ⟨x2, hx20, hx2c, hx2f⟩ := how.read (k := f1) (by omega)
        have Hx20 := Lib.hid hx20; clear hx20
        by_cases hlt : x1.toNat < x2.toNat
        · have hdl : decide (x1.toNat < x2.toNat) = true := decide_eq_true hlt
          have hmax : ∀ cc, (cc = 2 * r + 1 ∨ cc = 2 * r + 2) → cc < hi → Goss.at' cur (f + cc) ≤ x2.toNat := by
            intro cc h1 _
            rcases h1 with h1 | h1
            · rw [show f + cc = fl from by rw [h1]; omega, at_of Hx10.out]; omega
            · rw [show f + cc = f1 from by rw [h1]; omega, at_of Hx20.out]; exact Nat.le_refl _
          have Hmax := Lib.hid hmax; clear hmax
          clear hfr hfl hl1 hf1
          by_cases hyz : y.toNat < x2.toNat
          · have hd3 : decide (y.toNat < x2.toNat) = true := decide_eq_true hyz
            have hsw := Goss.swp_eq Hy0.out Hx20.out
            have hx1' : Hid (Goss.Sft ((cur.set fr x2).set f1 y) f lo hi l1) := by
              show Goss.Sft _ _ _ _ _
              rw [hsw, Hfr.out, show f1 = f + l1 from by have := Hfl.out; have := Hl1.out; have := Hf1.out; omega]
              refine hx.out.step (by have := Hl.out; have := Hl1.out; omega) (by omega) (by have := Hlen.out; omega) ?_ ?_
              · intro cc h1 h2
                rw [show f + l1 = f1 from by have := Hfl.out; have := Hl1.out; have := Hf1.out; omega, at_of Hx20.out]
                exact Hmax.out cc h1 h2
              · rw [show f + l1 = f1 from by have := Hfl.out; have := Hl1.out; have := Hf1.out; omega, at_of Hx20.out, show f + r = fr from Hfr.out.symm, at_of Hy0.out]
                exact hyz
            have hmv1 : Hid (Goss.Mv f (f + hi) ((cur.set fr x2).set f1 y) xs) := by
              show Goss.Mv _ _ _ _
              rw [hsw]
              exact .swap hmv.out _ _ ⟨by have := Hfr.out; omega, by have := Hfr.out; omega⟩ ⟨by have := Hfl.out; have := Hf1.out; omega, by have := Hfl.out; have := Hl1.out; have := Hf1.out; omega⟩
            clear hx hmv hsw Hmax
            go_wp2
            go_quiet ((go_at_call 128; refine Calls.quiet_of_same (quiet_less _ _ _)))
            go_wp2
            have how1 : Own (wr.drewN nq) B (.slice (some ⟨g, 0, none⟩) n c) cur := how.below ((Below.refl _ _).drewN nq)
            have hgr1 : w.grownBy (wr.drewN nq) (some g) := hgr.trans' (grown_drewN _ _ _)
            generalize wr.drewN nq = wt at *
            clear how hgr hyc hyf hx1c hx1f hx2c hx2f
            obtain ⟨y', hy0', hyc, hyf⟩ := how1.read (k := fr) (by omega)
            obtain ⟨z', hz0', hzc, hzf⟩ := how1.read (k := f1) (by omega)
            obtain rfl : y = y' := by have := Hy0.out; rw [hy0'] at this; exact (Option.some.inj this).symm
            obtain rfl : x2 = z' := by have := Hx20.out; rw [hz0'] at this; exact (Option.some.inj this).symm
            clear hy0' hz0'
            go_quiet ((go_at_call 128; refine Calls.quiet_of_same (quiet_less _ _ _)))
            go_wp2
            have how2 : Own (wt.drewN nq) B (.slice (some ⟨g, 0, none⟩) n c) cur := how1.below ((Below.refl _ _).drewN nq)
            have hgr2 : w.grownBy (wt.drewN nq) (some g) := hgr1.trans' (grown_drewN _ _ _)
            generalize wt.drewN nq = ws at *
            clear how1 hgr1 hyc hyf hzc hzf
            obtain ⟨y', hy0', hyc, hyf⟩ := how2.read (k := fr) (by omega)
            obtain ⟨z', hz0', hzc, hzf⟩ := how2.read (k := f1) (by omega)
            have ey : y' = y := by have := Hy0.out; rw [hy0'] at this; exact Option.some.inj this
            have ez : z' = x2 := by have := Hx20.out; rw [hz0'] at this; exact Option.some.inj this
            subst ey; subst ez
            clear hy0' hz0'
            have how3 := (how2.stored fr z').stored f1 y'
            have hgr3 := (hgr2.trans' (grown_store ws g fr (.int .u32 z'.toNat))).trans' (grown_store _ g f1 (.int .u32 y'.toNat))
            have hne : fr ≠ f1 := by have := Hfr.out; have := Hfl.out; have := Hf1.out; omega
            go_region
            go_wp2
            go_roundw
            case rel => exact ⟨l1, _, by omega, by first | rfl | go_num, hmv1, hx1', how3, hgr3.trans' (grown_drew _ _)⟩
            case measure => simp only [intOf]; have := Hl1.out; omega
          · have hd3 : decide (y.toNat < x2.toNat) = false := decide_eq_false hyz
            have hfin : Goss.Hp cur f lo hi := hx.out.done (fun cc h1 h2 => by
              have h3 := Hmax.out cc h1 h2
              rw [show f + r = fr from Hfr.out.symm, at_of Hy0.out]
              omega)
            have Hfin := Lib.hid hfin; clear hfin hx Hmax
            go_wp2
            go_quiet ((go_at_call 128; refine Calls.quiet_of_same (quiet_less _ _ _)))
            go_wp2
            have how1 : Own (wr.drewN nq) B (.slice (some ⟨g, 0, none⟩) n c) cur := how.below ((Below.refl _ _).drewN nq)
            have hgr1 : w.grownBy (wr.drewN nq) (some g) := hgr.trans' (grown_drewN _ _ _)
            generalize wr.drewN nq = wt at *
            clear how hgr hyc hyf hx1c hx1f hx2c hx2f
            obtain ⟨y', hy0', hyc, hyf⟩ := how1.read (k := fr) (by omega)
            obtain ⟨z', hz0', hzc, hzf⟩ := how1.read (k := f1) (by omega)
            obtain rfl : y = y' := by have := Hy0.out; rw [hy0'] at this; exact (Option.some.inj this).symm
            obtain rfl : x2 = z' := by have := Hx20.out; rw [hz0'] at this; exact (Option.some.inj this).symm
            clear hy0' hz0'
            go_quiet ((go_at_call 128; refine Calls.quiet_of_same (quiet_less _ _ _)))
            go_wp2
            go_end0
            exact ⟨rfl, cur, hmv.out, Hfin.out, how1.below ((Below.refl _ _).drewN nq), hgr1.trans' (grown_drewN _ _ _)⟩
        · have hdl : decide (x1.toNat < x2.toNat) = false := decide_eq_false hlt
          have hmax : ∀ cc, (cc = 2 * r + 1 ∨ cc = 2 * r + 2) → cc < hi → Goss.at' cur (f + cc) ≤ x1.toNat := by
            intro cc h1 _
            rcases h1 with h1 | h1
            · rw [show f + cc = fl from by rw [h1]; omega, at_of Hx10.out]; exact Nat.le_refl _
            · rw [show f + cc = f1 from by rw [h1]; omega, at_of Hx20.out]; omega
          have Hmax := Lib.hid hmax; clear hmax
          clear hfr hfl hl1 hf1
          by_cases hyz : y.toNat < x1.toNat
          · have hd3 : decide (y.toNat < x1.toNat) = true := decide_eq_true hyz
            have hsw := Goss.swp_eq Hy0.out Hx10.out
            have hx1' : Hid (Goss.Sft ((cur.set fr x1).set fl y) f lo hi l) := by
              show Goss.Sft _ _ _ _ _
              rw [hsw, Hfr.out, show fl = f + l from by have := Hfl.out; have := Hl1.out; have := Hf1.out; omega]
              refine hx.out.step (by have := Hl.out; have := Hl1.out; omega) (by omega) (by have := Hlen.out; omega) ?_ ?_
              · intro cc h1 h2
                rw [show f + l = fl from by have := Hfl.out; have := Hl1.out; have := Hf1.out; omega, at_of Hx10.out]
                exact Hmax.out cc h1 h2
              · rw [show f + l = fl from by have := Hfl.out; have := Hl1.out; have := Hf1.out; omega, at_of Hx10.out, show f + r = fr from Hfr.out.symm, at_of Hy0.out]
                exact hyz
            have hmv1 : Hid (Goss.Mv f (f + hi) ((cur.set fr x1).set fl y) xs) := by
              show Goss.Mv _ _ _ _
              rw [hsw]
              exact .swap hmv.out _ _ ⟨by have := Hfr.out; omega, by have := Hfr.out; omega⟩ ⟨by have := Hfl.out; have := Hf1.out; omega, by have := Hfl.out; have := Hl1.out; have := Hf1.out; omega⟩
            clear hx hmv hsw Hmax
            go_wp2
            go_quiet ((go_at_call 128; refine Calls.quiet_of_same (quiet_less _ _ _)))
            go_wp2
            have how1 : Own (wr.drewN nq) B (.slice (some ⟨g, 0, none⟩) n c) cur := how.below ((Below.refl _ _).drewN nq)
            have hgr1 : w.grownBy (wr.drewN nq) (some g) := hgr.trans' (grown_drewN _ _ _)
            generalize wr.drewN nq = wt at *
            clear how hgr hyc hyf hx1c hx1f hx2c hx2f
            obtain ⟨y', hy0', hyc, hyf⟩ := how1.read (k := fr) (by omega)
            obtain ⟨z', hz0', hzc, hzf⟩ := how1.read (k := fl) (by omega)
            obtain rfl : y = y' := by have := Hy0.out; rw [hy0'] at this; exact (Option.some.inj this).symm
            obtain rfl : x1 = z' := by have := Hx10.out; rw [hz0'] at this; exact (Option.some.inj this).symm
            clear hy0' hz0'
            go_quiet ((go_at_call 128; refine Calls.quiet_of_same (quiet_less _ _ _)))
            go_wp2
            have how2 : Own (wt.drewN nq) B (.slice (some ⟨g, 0, none⟩) n c) cur := how1.below ((Below.refl _ _).drewN nq)
            have hgr2 : w.grownBy (wt.drewN nq) (some g) := hgr1.trans' (grown_drewN _ _ _)
            generalize wt.drewN nq = ws at *
            clear how1 hgr1 hyc hyf hzc hzf
            obtain ⟨y', hy0', hyc, hyf⟩ := how2.read (k := fr) (by omega)
            obtain ⟨z', hz0', hzc, hzf⟩ := how2.read (k := fl) (by omega)
            have ey : y' = y := by have := Hy0.out; rw [hy0'] at this; exact Option.some.inj this
            have ez : z' = x1 := by have := Hx10.out; rw [hz0'] at this; exact Option.some.inj this
            subst ey; subst ez
            clear hy0' hz0'
            have how3 := (how2.stored fr z').stored fl y'
            have hgr3 := (hgr2.trans' (grown_store ws g fr (.int .u32 z'.toNat))).trans' (grown_store _ g fl (.int .u32 y'.toNat))
            have hne : fr ≠ fl := by have := Hfr.out; have := Hfl.out; have := Hf1.out; omega
            go_region
            go_wp2
            go_roundw
            case rel => exact ⟨l, _, by omega, by first | rfl | go_num, hmv1, hx1', how3, hgr3.trans' (grown_drew _ _)⟩
            case measure => simp only [intOf]; have := Hl1.out; omega
          · have hd3 : decide (y.toNat < x1.toNat) = false := decide_eq_false hyz
            have hfin : Goss.Hp cur f lo hi := hx.out.done (fun cc h1 h2 => by
              have h3 := Hmax.out cc h1 h2
              rw [show f + r = fr from Hfr.out.symm, at_of Hy0.out]
              omega)
            have Hfin := Lib.hid hfin; clear hfin hx Hmax
            go_wp2
            go_quiet ((go_at_call 128; refine Calls.quiet_of_same (quiet_less _ _ _)))
            go_wp2
            have how1 : Own (wr.drewN nq) B (.slice (some ⟨g, 0, none⟩) n c) cur := how.below ((Below.refl _ _).drewN nq)
            have hgr1 : w.grownBy (wr.drewN nq) (some g) := hgr.trans' (grown_drewN _ _ _)
            generalize wr.drewN nq = wt at *
            clear how hgr hyc hyf hx1c hx1f hx2c hx2f
            obtain ⟨y', hy0', hyc, hyf⟩ := how1.read (k := fr) (by omega)
            obtain ⟨z', hz0', hzc, hzf⟩ := how1.read (k := fl) (by omega)
            obtain rfl : y = y' := by have := Hy0.out; rw [hy0'] at this; exact (Option.some.inj this).symm
            obtain rfl : x1 = z' := by have := Hx10.out; rw [hz0'] at this; exact (Option.some.inj this).symm
            clear hy0' hz0'
            go_quiet ((go_at_call 128; refine Calls.quiet_of_same (quiet_less _ _ _)))
            go_wp2
            go_end0
            exact ⟨rfl, cur, hmv.out, Hfin.out, how1.below ((Below.refl _ _).drewN nq), hgr1.trans' (grown_drewN _ _ _)⟩
      · have hd1 : decide ((l1 : Int) < (hi : Int)) = false := decide_eq_false (by omega)
        have hd1' : decide (l1 < hi) = false := decide_eq_false hr1
        have hmax : ∀ cc, (cc = 2 * r + 1 ∨ cc = 2 * r + 2) → cc < hi → Goss.at' cur (f + cc) ≤ x1.toNat := by
          intro cc h1 h2
          rcases h1 with h1 | h1
          · rw [show f + cc = fl from by rw [h1]; omega, at_of Hx10.out]; exact Nat.le_refl _
          · omega
        have Hmax := Lib.hid hmax; clear hmax
        clear hfr hfl hl1 hf1
        by_cases hyz : y.toNat < x1.toNat
        · have hd3 : decide (y.toNat < x1.toNat) = true := decide_eq_true hyz
          have hsw := Goss.swp_eq Hy0.out Hx10.out
          have hx1' : Hid (Goss.Sft ((cur.set fr x1).set fl y) f lo hi l) := by
            show Goss.Sft _ _ _ _ _
            rw [hsw, Hfr.out, show fl = f + l from by have := Hfl.out; have := Hl1.out; have := Hf1.out; omega]
            refine hx.out.step (by have := Hl.out; have := Hl1.out; omega) (by omega) (by have := Hlen.out; omega) ?_ ?_
            · intro cc h1 h2
              rw [show f + l = fl from by have := Hfl.out; have := Hl1.out; have := Hf1.out; omega, at_of Hx10.out]
              exact Hmax.out cc h1 h2
            · rw [show f + l = fl from by have := Hfl.out; have := Hl1.out; have := Hf1.out; omega, at_of Hx10.out, show f + r = fr from Hfr.out.symm, at_of Hy0.out]
              exact hyz
          have hmv1 : Hid (Goss.Mv f (f + hi) ((cur.set fr x1).set fl y) xs) := by
            show Goss.Mv _ _ _ _
            rw [hsw]
            exact .swap hmv.out _ _ ⟨by have := Hfr.out; omega, by have := Hfr.out; omega⟩ ⟨by have := Hfl.out; have := Hf1.out; omega, by have := Hfl.out; have := Hl1.out; have := Hf1.out; omega⟩
          clear hx hmv hsw Hmax
          go_wp2
          go_quiet (fail)
          go_wp2
          have how1 : Own (wr.drewN nq) B (.slice (some ⟨g, 0, none⟩) n c) cur := how.below ((Below.refl _ _).drewN nq)
          have hgr1 : w.grownBy (wr.drewN nq) (some g) := hgr.trans' (grown_drewN _ _ _)
          generalize wr.drewN nq = wt at *
          clear how hgr hyc hyf hx1c hx1f 
          obtain ⟨y', hy0', hyc, hyf⟩ := how1.read (k := fr) (by omega)
          obtain ⟨z', hz0', hzc, hzf⟩ := how1.read (k := fl) (by omega)
          obtain rfl : y = y' := by have := Hy0.out; rw [hy0'] at this; exact (Option.some.inj this).symm
          obtain rfl : x1 = z' := by have := Hx10.out; rw [hz0'] at this; exact (Option.some.inj this).symm
          clear hy0' hz0'
          go_quiet ((go_at_call 128; refine Calls.quiet_of_same (quiet_less _ _ _)))
          go_wp2
          have how2 : Own (wt.drewN nq) B (.slice (some ⟨g, 0, none⟩) n c) cur := how1.below ((Below.refl _ _).drewN nq)
          have hgr2 : w.grownBy (wt.drewN nq) (some g) := hgr1.trans' (grown_drewN _ _ _)
          generalize wt.drewN nq = ws at *
          clear how1 hgr1 hyc hyf hzc hzf
          obtain ⟨y', hy0', hyc, hyf⟩ := how2.read (k := fr) (by omega)
          obtain ⟨z', hz0', hzc, hzf⟩ := how2.read (k := fl) (by omega)
          have ey : y' = y := by have := Hy0.out; rw [hy0'] at this; exact Option.some.inj this
          have ez : z' = x1 := by have := Hx10.out; rw [hz0'] at this; exact Option.some.inj this
          subst ey; subst ez
          clear hy0' hz0'
          have how3 := (how2.stored fr z').stored fl y'
          have hgr3 := (hgr2.trans' (grown_store ws g fr (.int .u32 z'.toNat))).trans' (grown_store _ g fl (.int .u32 y'.toNat))
          have hne : fr ≠ fl := by have := Hfr.out; have := Hfl.out; have := Hf1.out; omega
          go_region
          go_wp2
          go_roundw
          case rel => exact ⟨l, _, by omega, by first | rfl | go_num, hmv1, hx1', how3, hgr3.trans' (grown_drew _ _)⟩
          case measure => simp only [intOf]; have := Hl1.out; omega
        · have hd3 : decide (y.toNat < x1.toNat) = false := decide_eq_false hyz
          have hfin : Goss.Hp cur f lo hi := hx.out.done (fun cc h1 h2 => by
            have h3 := Hmax.out cc h1 h2
            rw [show f + r = fr from Hfr.out.symm, at_of Hy0.out]
            omega)
          have Hfin := Lib.hid hfin; clear hfin hx Hmax
          go_wp2
          go_quiet (fail)
          go_wp2
          have how1 : Own (wr.drewN nq) B (.slice (some ⟨g, 0, none⟩) n c) cur := how.below ((Below.refl _ _).drewN nq)
          have hgr1 : w.grownBy (wr.drewN nq) (some g) := hgr.trans' (grown_drewN _ _ _)
          generalize wr.drewN nq = wt at *
          clear how hgr hyc hyf hx1c hx1f 
          obtain ⟨y', hy0', hyc, hyf⟩ := how1.read (k := fr) (by omega)
          obtain ⟨z', hz0', hzc, hzf⟩ := how1.read (k := fl) (by omega)
          obtain rfl : y = y' := by have := Hy0.out; rw [hy0'] at this; exact (Option.some.inj this).symm
          obtain rfl : x1 = z' := by have := Hx10.out; rw [hz0'] at this; exact (Option.some.inj this).symm
          clear hy0' hz0'
          go_quiet ((go_at_call 128; refine Calls.quiet_of_same (quiet_less _ _ _)))
          go_wp2
          go_end0
          exact ⟨rfl, cur, hmv.out, Hfin.out, how1.below ((Below.refl _ _).drewN nq), hgr1.trans' (grown_drewN _ _ _)⟩
end Go.Proofs.Ythglbipcfhdoaaa
