/- package poly: Squared. -/
import Derived.Test.YthglbipcfhdoaaaPoly6
namespace Go.Proofs.Ythglbipcfhdoaaa
open Go.RowKit

def SqEnd (r : List Goss.F) (w : World) (e : Ending) (w' : World) : Prop :=
  ∃ vr, e = .returned (.tuple #[vr, .nilIface]) ∧ Own w' w.heap.size vr r ∧ Below w.heap.size w w'

/-- The first j squares are in. -/
def SqTo (xs cur : List Goss.F) (j : Nat) : Prop := ∀ i, Goss.co cur i = if i % 2 = 0 ∧ i / 2 < j then Goss.sq (Goss.co xs (i / 2)) else 0#32

theorem SqTo.step {xs cur : List Goss.F} {j : Nat} (h : SqTo xs cur j) (hl : 2 * j < cur.length) : SqTo xs (cur.set (2 * j) (Goss.sq (Goss.co xs j))) (j + 1) := by
  intro i
  rw [Goss.co_set _ _ _ _ hl]
  by_cases e : 2 * j = i
  · subst e
    rw [if_pos rfl, if_pos (by omega)]
    congr 2
    omega
  · rw [if_neg e, h i]
    by_cases h2 : i % 2 = 0 ∧ i / 2 < j
    · rw [if_pos h2, if_pos (by omega)]
    · rw [if_neg h2, if_neg (by omega)]
theorem SqTo.done {xs cur : List Goss.F} (h : SqTo xs cur xs.length) (hl : cur.length = 2 * xs.length - 1) : cur = Goss.spread xs := by
  apply Goss.ext_co
  · rw [hl, Goss.spread_len]
  · intro i
    rw [h i, Goss.co_spread]
    have h0 : Goss.sq 0#32 = 0#32 := Goss.zero_mul _
    by_cases h1 : i % 2 = 0
    · by_cases h2 : i / 2 < xs.length
      · rw [if_pos ⟨h1, h2⟩, if_pos h1]
      · rw [if_neg (by omega), if_pos h1]
        have : Goss.co xs (i / 2) = 0#32 := by
          unfold Goss.co
          rw [List.getElem?_eq_none (by omega)]; rfl
        rw [this, h0]
    · rw [if_neg (by omega), if_neg h1]
theorem SqTo.start (xs : List Goss.F) (n : Nat) : SqTo xs (List.replicate n 0#32) 0 := by
  intro i
  rw [if_neg (by omega)]
  unfold Goss.co
  rw [List.getElem?_replicate]
  split <;> rfl

set_option maxRecDepth 100000 in
set_option maxHeartbeats 2000000 in
theorem squared_any (va vb : Value) (xs bs : List Goss.F) (w : World) (ha : Sl w va xs) (hb : Sl w vb bs) (hla : xs.length ≤ 8796093022208) (hlb : bs.length ≤ 35184372088000) (hnz : Goss.trim bs ≠ []) :
    Calls Try.prog 120 #[va, vb] w (SqEnd (Goss.squaredP xs bs) w) := by
  obtain ⟨pa, ca, rfl⟩ := ha.shape
  obtain ⟨pb, cb, rfl⟩ := hb.shape
  generalize hB : w.heap.size = B at *
  have HB := Lib.hid hB; clear hB
  generalize hm : xs.length = m at *
  have Hm := Lib.hid hm; clear hm
  have hm2 : m ≤ 8796093022208 := hla
  clear hla
  rcases Nat.eq_zero_or_pos m with rfl | hpos
  · have hx0 : xs = [] := List.eq_nil_of_length_eq_zero Hm.out
    subst hx0
    go_enter Try.func120, Try.ntmps120
    go_wp2_with (at_make; refine mk_own rfl _ _ rfl B .i64 .i64 _ _ 0 rfl rfl (by rfl) (by rfl) (by omega) (by rw [HB.out]; exact Nat.le_refl _) ?_)
    intro w1 hq hgr
    have hb1 : Below B w w1 := ⟨hgr.os, hgr.tape, hgr.output, hgr.size, fun k hk => hgr.block k (by rw [HB.out]; exact hk) (by simp)⟩
    go_wp2_with fail
    go_loopw [20] (fun i wr => i = .int .i64 0 ∧ wr = w1) (fun _ _ => 0)
    case atStart => exact ⟨rfl, rfl⟩
    case round =>
      obtain ⟨rfl, rfl⟩ := hrel
      go_wp2_with fail
      refine (divide_any _ _ [] bs wr hq.sl (hb.below (by rw [HB.out]; exact hb1)) (by simp) hlb hnz).mono ?_
      rintro e w3 ⟨vq, vr, rfl, _, hr3, hb3⟩
      go_wp2
      go_ret2
      refine ⟨_, rfl, ?_, ?_⟩
      · rw [HB.out]; exact hr3.mono (by rw [← HB.out]; exact hb1.size)
      · rw [HB.out]; exact hb1.trans (hb3.mono (by rw [← HB.out]; exact hb1.size))
  · go_enter Try.func120, Try.ntmps120
    go_wp2_with (at_make; refine mk_own rfl _ _ rfl B .i64 .i64 _ _ (2 * m - 1) rfl rfl (by omega) (by omega) (by omega) (by rw [HB.out]; exact Nat.le_refl _) ?_)
    intro w1 hq hgr
    have hb1 : Below B w w1 := ⟨hgr.os, hgr.tape, hgr.output, hgr.size, fun k hk => hgr.block k (by rw [HB.out]; exact hk) (by simp)⟩
    rw [HB.out] at hq
    rw [HB.out]
    have hlq := hq.lt
    obtain ⟨N, hN⟩ : ∃ N, 2 * m - 1 = N := ⟨_, rfl⟩
    rw [hN] at hq ⊢
    have HN := Lib.hid hN; clear hN
    have hN2 : 2 * m = N + 1 := by have := HN.out; omega
    have HN2 := Lib.hid hN2; clear hN2
    clear hgr
    go_wp2_with fail
    go_loopw [20] (fun i wr => ∃ (j : Nat) (cur : List Goss.F), j ≤ m ∧ i = .int .i64 j ∧ Hid (SqTo xs cur j) ∧ Own wr B (.slice (some ⟨B, 0, none⟩) N N) cur ∧ Below B w wr) (fun i _ => m - (intOf i).toNat)
    case atStart => exact ⟨0, _, Nat.zero_le _, rfl, SqTo.start _ _, hq, hb1⟩
    case round =>
      clear hq hb1 hlq
      obtain ⟨j, cur, hj, rfl, hx, how, hbw⟩ := hrel
      by_cases hlt : j < m
      · have hs := ha.below (by rw [HB.out]; exact hbw)
        obtain ⟨b, o, x, rfl, hx0, hc⟩ := hs.read (k := j) (by omega)
        have h2 := HN2.out
        obtain ⟨y, hy0, hyc, hyf⟩ := how.read (k := 2 * j) (by omega)
        have hlti : (j : Int) < m := by omega
        have hi2 : 2 * (j : Int) < N := by omega
        have hi3 : (0 : Int) ≤ 2 * (j : Int) := by omega
        have hi4 : (2 * (j : Int)).toNat = 2 * j := by omega
        have Hx0 := Lib.hid hx0; clear hx0 hy0 h2 hs
        go_wp2_with (go_at_call 61; refine (square_any _ _).mono ?_; rintro e w' ⟨rfl, rfl⟩)
        go_roundw
        case rel =>
          refine ⟨j + 1, cur.set (2 * j) (Goss.sq x), by omega, by first | rfl | go_num, ?_, how.stored _ _, hbw.setCell (by show B ≤ B; omega) _⟩
          have hl := how.sl.len.1
          have h3 := SqTo.step hx.out (by have := HN2.out; omega)
          have h4 : Goss.co xs j = x := by unfold Goss.co; rw [Hx0.out]; rfl
          rw [h4] at h3
          exact h3
        case measure => first | omega | (simp [intOf]; done) | (simp [intOf]; omega)
      · obtain rfl : j = m := by omega
        have hcur : cur = Goss.spread xs := by
          apply SqTo.done
          · rw [Hm.out]; exact hx.out
          · have := how.sl.len.1; rw [Hm.out, HN.out, this]
        subst hcur
        have hls := Goss.spread_len xs
        have hdl : (Goss.spread xs).length ≤ 35184372088000 := by rw [hls, Hm.out]; omega
        have hsp := how.sl
        have hsb := hb.below (by rw [HB.out]; exact hbw)
        clear hls
        have hR : Goss.squaredP xs bs = (Goss.divT (Goss.spread xs) (Goss.trim bs)).2 := rfl
        generalize Goss.spread xs = zs at *
        have HR := Lib.hid hR; clear hR
        go_wp2_with fail
        refine (divide_any _ _ zs bs wr hsp hsb hdl hlb hnz).mono ?_
        rintro e w3 ⟨vq, vr, rfl, _, hr3, hb3⟩
        go_wp2
        go_ret2
        refine ⟨_, rfl, ?_, ?_⟩
        · rw [HR.out, HB.out]; exact hr3.mono (by rw [← HB.out]; exact hbw.size)
        · rw [HB.out]; exact hbw.trans (hb3.mono (by rw [← HB.out]; exact hbw.size))
end Go.Proofs.Ythglbipcfhdoaaa
