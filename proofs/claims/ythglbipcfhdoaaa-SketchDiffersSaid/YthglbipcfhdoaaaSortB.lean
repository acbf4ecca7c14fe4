/- The whole sort of a range: insertion, sifting down, heap. -/
import Derived.Test.YthglbipcfhdoaaaSortA
import Derived.Test.YthglbipcfhdoaaaSortX
namespace Go.Proofs.Ythglbipcfhdoaaa
open Go.RowKit

def SrtEnd (g n c B a b : Nat) (xs : List Goss.F) (w : World) (e : Ending) (w' : World) : Prop :=
  e = .returned (.tuple #[]) ∧ ∃ zs, Goss.Sorts a b zs xs ∧ Own w' B (.slice (some ⟨g, 0, none⟩) n c) zs ∧ w.grownBy w' (some g)
def MvEnd (P : List Goss.F → Prop) (g n c B a b : Nat) (xs : List Goss.F) (w : World) (e : Ending) (w' : World) : Prop :=
  e = .returned (.tuple #[]) ∧ ∃ zs, Goss.Mv a b zs xs ∧ P zs ∧ Own w' B (.slice (some ⟨g, 0, none⟩) n c) zs ∧ w.grownBy w' (some g)
theorem quiet_less (x y : Goss.F) (w : World) : Calls Try.prog 128 #[.int .u32 x.toNat, .int .u32 y.toNat] w (fun e w' => e = .returned (.bool (decide (x.toNat < y.toNat))) ∧ w' = w) :=
  (less_any x y w).mono fun _ _ h => ⟨h.1, h.2.symm⟩
theorem at_of {l : List Goss.F} {k : Nat} {x : Goss.F} (h : l[k]? = some x) : Goss.at' l k = x.toNat := by unfold Goss.at'; rw [h]; rfl

set_option maxRecDepth 100000 in
set_option maxHeartbeats 2000000 in
theorem insertion_rng (B g n c a b : Nat) (xs : List Goss.F) (w : World) (h : Own w B (.slice (some ⟨g, 0, none⟩) n c) xs) (hab : a ≤ b) (hbn : b ≤ n) (h12 : n ≤ 35184372088832) :
    Calls Try.prog 122 #[.slice (some ⟨g, 0, none⟩) n c, .int .i64 a, .int .i64 b] w (SrtEnd g n c B a b xs w) := by
  go_enter Try.func122, Try.ntmps122
  go_wp2_with fail
  go_loopw [6] (fun vi wr => ∃ (i : Nat) (cur : List Goss.F), a + 1 ≤ i ∧ i ≤ b + 1 ∧ vi = .int .i64 i ∧ Hid (Goss.Mv a b cur xs) ∧ Hid (Goss.SrtIn a i cur) ∧ Own wr B (.slice (some ⟨g, 0, none⟩) n c) cur ∧ w.grownBy wr (some g)) (fun vi _ => b - (intOf vi).toNat)
  case atStart => exact ⟨a + 1, xs, by omega, by omega, by go_num, Goss.Mv.refl xs, Goss.SrtIn.one a xs, h, grown_refl _ _⟩
  case round =>
    obtain ⟨i, cur, hi1, hin, rfl, hmv, hx, how, hgr⟩ := hrel
    by_cases hlt : i < b
    · have hdec : decide ((i : Int) < (b : Int)) = true := decide_eq_true (by omega)
      have hdec' : decide (i < b) = true := decide_eq_true hlt
      go_wp2_with fail
      go_loopw [7] (fun vj ws => ∃ (j : Nat) (now : List Goss.F), a ≤ j ∧ j ≤ i ∧ vj = .int .i64 j ∧ Hid (Goss.Mv a b now xs) ∧ Hid (Goss.SnkIn a i j now) ∧ Own ws B (.slice (some ⟨g, 0, none⟩) n c) now ∧ w.grownBy ws (some g)) (fun vj _ => (intOf vj).toNat)
      case atStart => exact ⟨i, cur, by omega, Nat.le_refl _, rfl, hmv, hx.out.snk (by omega), how, hgr⟩
      case round =>
        clear how hgr hx hmv
        obtain ⟨j, now, haj, hji, rfl, hmv, hx, how, hgr⟩ := hrel
        by_cases hj0 : j = a
        · subst hj0
          have hd0 : decide ((j : Int) < (j : Int)) = false := by simp
          have hx1 : Hid (Goss.SrtIn j (i + 1) now) := hx.out.done0
          clear hx
          go_wp2
          go_quiet (fail)
          go_wp2
          go_roundw
          case rel => exact ⟨i + 1, now, by omega, by omega, by first | rfl | go_num, hmv, hx1, how, hgr.trans' ⟨rfl, rfl, rfl, Nat.le_refl _, fun _ _ _ => rfl⟩⟩
          case measure => first | omega | (simp [intOf]; done) | (simp [intOf]; omega)
        · obtain ⟨x, hx0, hxc, hxf⟩ := how.read (k := j) (by omega)
          obtain ⟨y, hy0, hyc, hyf⟩ := how.read (k := j - 1) (by omega)
          have hd0 : decide ((a : Int) < (j : Int)) = true := decide_eq_true (by omega)
          have hd0' : decide (a < j) = true := decide_eq_true (by omega)
          have hjn : (j : Int) < (n : Int) := by omega
          have hj1 : (0 : Int) ≤ (j : Int) - 1 := by omega
          have hj2 : (j : Int) - 1 < (n : Int) := by omega
          have hj3 : ((j : Int) - 1).toNat = j - 1 := by omega
          have hj4 : IntKind.i64.wrap ((j : Int) - 1) = (j : Int) - 1 := IntWalk.i64_in _ (by omega)
          have Hx0 := Lib.hid hx0; have Hy0 := Lib.hid hy0; clear hx0 hy0
          by_cases hlt2 : x.toNat < y.toNat
          · have hdl : decide (x.toNat < y.toNat) = true := decide_eq_true hlt2
            have hsw := Goss.swp_eq Hx0.out Hy0.out
            have hx1 : Hid (Goss.SnkIn a i (j - 1) ((now.set j y).set (j - 1) x)) := by
              show Goss.SnkIn _ _ _ _
              rw [hsw]
              obtain ⟨k, rfl⟩ : ∃ k, j = k + 1 := ⟨j - 1, by omega⟩
              exact hx.out.step (by omega) Hx0.out Hy0.out hlt2
            have hmv1 : Hid (Goss.Mv a b ((now.set j y).set (j - 1) x) xs) := by
              show Goss.Mv _ _ _ _
              rw [hsw]
              exact .swap hmv.out _ _ ⟨by omega, by omega⟩ ⟨by omega, by omega⟩
            clear hx hmv hsw
            go_wp2
            go_quiet ((go_at_call 128; refine Calls.quiet_of_same (quiet_less _ _ _)))
            go_wp2
            have how2 : Own (wr.drewN nq) B (.slice (some ⟨g, 0, none⟩) n c) now := how.below ((Below.refl _ _).drewN nq)
            have hgr2 : w.grownBy (wr.drewN nq) (some g) := hgr.trans' (grown_drewN _ _ _)
            generalize wr.drewN nq = ws at *
            clear how hgr hxc hyc hxf hyf
            obtain ⟨x', hx0', hxc, hxf⟩ := how2.read (k := j) (by omega)
            obtain ⟨y', hy0', hyc, hyf⟩ := how2.read (k := j - 1) (by omega)
            have ex : x' = x := by have := Hx0.out; rw [hx0'] at this; exact Option.some.inj this
            have ey : y' = y := by have := Hy0.out; rw [hy0'] at this; exact Option.some.inj this
            subst ex; subst ey
            clear hx0' hy0'
            have how3 := (how2.stored j y').stored (j - 1) x'
            have hgr3 := (hgr2.trans' (grown_store ws g j (.int .u32 y'.toNat))).trans' (grown_store _ g (j - 1) (.int .u32 x'.toNat))
            have hne : j ≠ j - 1 := by omega
            go_region
            go_wp2
            go_roundw
            case rel => exact ⟨j - 1, _, by omega, by omega, by congr 1; omega, hmv1, hx1, how3, hgr3.trans' (grown_drew _ _)⟩
            case measure => simp only [intOf]; omega
          · have hdl : decide (x.toNat < y.toNat) = false := decide_eq_false hlt2
            have hx1 : Hid (Goss.SrtIn a (i + 1) now) := by
              show Goss.SrtIn _ _ _
              obtain ⟨k, rfl⟩ : ∃ k, j = k + 1 := ⟨j - 1, by omega⟩
              exact hx.out.done (by omega) Hx0.out Hy0.out hlt2
            clear hx
            go_wp2
            go_quiet ((go_at_call 128; refine Calls.quiet_of_same (quiet_less _ _ _)))
            go_wp2
            go_roundw
            case rel => exact ⟨i + 1, now, by omega, by omega, by first | rfl | go_num, hmv, hx1, how, hgr.trans' ⟨rfl, rfl, rfl, Nat.le_refl _, fun _ _ _ => rfl⟩⟩
            case measure => first | omega | (simp [intOf]; done) | (simp [intOf]; omega)
    · have hdec : decide ((i : Int) < (b : Int)) = false := decide_eq_false (by omega)
      have hdec' : decide (i < b) = false := decide_eq_false hlt
      go_wp2
      go_end0
      exact ⟨rfl, cur, ⟨hmv.out, fun p q h1 h2 h3 => hx.out p q h1 h2 (by omega)⟩, how, hgr⟩
end Go.Proofs.Ythglbipcfhdoaaa
