/- package roots: check, rest, squared, traces, linear. -/
import Derived.Test.YthglbipcfhdoaaaPoly7
import Derived.LaidEql
namespace Go.Proofs.Ythglbipcfhdoaaa
open Go.RowKit

/-- api.Errno as an error. -/
abbrev errv (n : Int) : Value := .iface 39 (.int .i64 n)

set_option maxRecDepth 100000 in
set_option maxHeartbeats 400000 in
theorem check_ok (v : Value) (xs : List Goss.F) (w : World) (h : Sl w v xs) (h1 : 1 ≤ Goss.dlen xs) (h2 : Goss.dlen xs ≤ 61) :
    Calls Try.prog 80 #[v] w (Gives .nilIface w) := by
  have hd := degree_any v xs w h
  change Calls _ _ _ _ (Gives (.int .i64 ((Goss.dlen xs : Int) - 1)) w) at hd
  generalize Goss.dlen xs = n at *
  have ha : (0 : Int) ≤ (n : Int) - 1 := by omega
  have hb : (n : Int) - 1 ≤ 60 := by omega
  have hc : decide ((n : Int) - 1 < 0) = false := decide_eq_false (by omega)
  have hd1 : decide ((60 : Int) < (n : Int) - 1) = false := decide_eq_false (by omega)
  go_enter Try.func80, Try.ntmps80
  go_wp2_with fail
  refine hd.mono ?_
  rintro e w1 ⟨rfl, hb1⟩
  go_wp2
  go_ret
  exact ⟨rfl, hb1⟩
set_option maxRecDepth 100000 in
set_option maxHeartbeats 400000 in
theorem check_bad (v : Value) (xs : List Goss.F) (w : World) (h : Sl w v xs) (h1 : ¬ (1 ≤ Goss.dlen xs ∧ Goss.dlen xs ≤ 61)) :
    Calls Try.prog 80 #[v] w (Gives (errv 1) w) := by
  have hd := degree_any v xs w h
  change Calls _ _ _ _ (Gives (.int .i64 ((Goss.dlen xs : Int) - 1)) w) at hd
  generalize Goss.dlen xs = n at *
  by_cases hn : n = 0
  · subst hn
    have hc : decide ((0 : Int) - 1 < 0) = true := by decide
    go_enter Try.func80, Try.ntmps80
    go_wp2_with fail
    refine hd.mono ?_
    rintro e w1 ⟨rfl, hb1⟩
    go_wp2
    go_ret
    exact ⟨rfl, hb1⟩
  · have ha : (0 : Int) ≤ (n : Int) - 1 := by omega
    have hb : (60 : Int) < (n : Int) - 1 := by omega
    have hc : decide ((n : Int) - 1 < 0) = false := decide_eq_false (by omega)
    have hd1 : decide ((60 : Int) < (n : Int) - 1) = true := decide_eq_true (by omega)
    go_enter Try.func80, Try.ntmps80
    go_wp2_with fail
    refine hd.mono ?_
    rintro e w1 ⟨rfl, hb1⟩
    go_wp2
    go_ret
    exact ⟨rfl, hb1⟩

set_option maxRecDepth 100000 in
set_option maxHeartbeats 400000 in
theorem rest_any (va vb : Value) (us ps : List Goss.F) (w : World) (ha : Sl w va us) (hb : Sl w vb ps) (hla : us.length ≤ 35184372088000) (hlb : ps.length ≤ 35184372088000) (hnz : Goss.trim ps ≠ []) :
    Calls Try.prog 102 #[va, vb] w (New (Goss.restP us ps) w) := by
  have hdiv := divide_any va vb us ps w ha hb hla hlb hnz
  change Calls _ _ _ _ (DivEnd _ (Goss.restP us ps) w) at hdiv
  generalize Goss.restP us ps = R at *
  clear hnz
  go_enter Try.func102, Try.ntmps102
  go_wp2_with fail
  refine hdiv.mono ?_
  rintro e w1 ⟨vq, vr, rfl, _, hr, hb1⟩
  go_wp2
  go_ret
  exact ⟨_, rfl, hr, hb1⟩
set_option maxRecDepth 100000 in
set_option maxHeartbeats 400000 in
theorem rsquared_any (va vb : Value) (us ps : List Goss.F) (w : World) (ha : Sl w va us) (hb : Sl w vb ps) (hla : us.length ≤ 8796093022208) (hlb : ps.length ≤ 35184372088000) (hnz : Goss.trim ps ≠ []) :
    Calls Try.prog 103 #[va, vb] w (New (Goss.squaredP us ps) w) := by
  have hdiv := squared_any va vb us ps w ha hb hla hlb hnz
  generalize Goss.squaredP us ps = R at *
  clear hnz
  go_enter Try.func103, Try.ntmps103
  go_wp2_with fail
  refine hdiv.mono ?_
  rintro e w1 ⟨vr, rfl, hr, hb1⟩
  go_wp2
  go_ret
  exact ⟨_, rfl, hr, hb1⟩

theorem spread_le (a : List Goss.F) : (Goss.spread a).length ≤ 2 * a.length := by rw [Goss.spread_len]; omega
theorem squaredP_lt (a p : List Goss.F) (hnz : Goss.trim p ≠ []) : (Goss.squaredP a p).length < p.length := by
  have hl := Goss.trim_last p hnz
  have := (Goss.divT_spec (Goss.spread a) (Goss.trim p) hnz hl).1
  have h2 := trim_le p
  unfold Goss.squaredP
  omega
theorem restP_lt (a p : List Goss.F) (hnz : Goss.trim p ≠ []) : (Goss.restP a p).length < p.length := by
  have hl := Goss.trim_last p hnz
  have := (Goss.divT_spec a (Goss.trim p) hnz hl).1
  have h2 := trim_le p
  unfold Goss.restP
  omega
theorem addP_len (a b : List Goss.F) : (Goss.addP a b).length ≤ max a.length b.length := by
  unfold Goss.addP
  have := trim_le (Goss.xorL a b)
  rw [Goss.xorL_len] at this
  exact this

set_option maxRecDepth 100000 in
set_option maxHeartbeats 1000000 in
theorem traces_any (vp : Value) (ps : List Goss.F) (by' : Goss.F) (w : World) (hp : Sl w vp ps) (hlp : ps.length ≤ 1000000) (hnz : Goss.trim ps ≠ []) :
    Calls Try.prog 117 #[vp, .int .u32 by'.toNat] w (New (Goss.tracesP ps by') w) := by
  generalize hB : w.heap.size = B at *
  have HB := Lib.hid hB; clear hB
  have Hnz := Lib.hid hnz; clear hnz
  obtain ⟨R, hR⟩ : ∃ R, Goss.tracesP ps by' = R := ⟨_, rfl⟩
  rw [hR]
  have HR := Lib.hid hR; clear hR
  go_enter Try.func117, Try.ntmps117
  have hw1 : Below B w (w.alloc (.cells #[.int .u32 (((0#32 : Goss.F).toNat : Nat) : Int), .int .u32 (by'.toNat : Int)] 55)) := (Below.refl B w).alloc (by rw [HB.out]; exact Nat.le_refl _) _
  have hs1 := Sl.two w 0#32 by'
  have hp1 := hp.below (by rw [HB.out]; exact hw1)
  go_wp2_with fail
  refine (rest_any _ vp [0#32, by'] ps _ hs1 hp1 (by simp) (by omega) Hnz.out).mono ?_
  rintro e w2 ⟨v2, rfl, ho2, hb2⟩
  have hB2 := hw1.trans (hb2.mono (by rw [← HB.out]; exact hw1.size))
  have hs2 := ho2.sl
  have hl2 := restP_lt [0#32, by'] ps Hnz.out
  have HR2 : Hid (Goss.tracesLoop ps 32 [] (Goss.restP [0#32, by'] ps) = R) := HR.out
  generalize Goss.restP [0#32, by'] ps = a0 at *
  clear hs1 hp1 hw1 ho2 hb2
  go_wp2_with fail
  go_loopw [5, 6, 11] (fun vo va i wr => ∃ (k : Nat) (o a : List Goss.F), k ≤ 32 ∧ i = .int .i64 k ∧ Hid (Goss.tracesLoop ps (32 - k) o a = R) ∧ Own wr B vo o ∧ Sl wr va a ∧ o.length ≤ 1000000 ∧ a.length ≤ 1000000 ∧ Below B w wr) (fun _ _ i _ => 32 - (intOf i).toNat)
  case atStart => exact ⟨0, [], a0, by omega, rfl, HR2, Own.nil _ _, hs2, by simp, by omega, hB2⟩
  case round =>
    clear hs2 hB2 HR2 hl2
    obtain ⟨k, o, a, hk, rfl, hx, hown, hs, hlo, hla, hbw⟩ := hrel
    have hzB : B ≤ wr.heap.size := by rw [← HB.out]; exact hbw.size
    by_cases hlt : k < 32
    · have hk32 : (k : Int) < 32 := by omega
      have hd : decide ((k : Int) < 32) = true := decide_eq_true hk32
      obtain ⟨po, co, rfl⟩ := hown.sl.shape
      obtain ⟨pa, ca, rfl⟩ := hs.shape
      have hbA : Below wr.heap.size wr (wr.alloc (.cells #[.slice po o.length co, .slice pa a.length ca] 22)) := (Below.refl _ wr).alloc (Nat.le_refl _) _
      have hoA := hown.below hbA
      have hsA := hs.below hbA
      have hbwA := hbw.trans (hbA.mono hzB)
      have hadd := add_any wr.heap.size 0 _ _ o a (wr.alloc (.cells #[.slice po o.length co, .slice pa a.length ca] 22)) (by simp) (by rw [cell_of_row _ _ _ _ _ (0, 0) (heap_alloc_new wr _)]; rfl) (by rw [cell_of_row _ _ _ _ _ (0, 0) (heap_alloc_new wr _)]; rfl) hoA.sl hsA (by omega) (by omega)
      go_wp2_with fail
      refine hadd.mono ?_
      rintro e w3 ⟨v3, rfl, ho3, hb3⟩
      have hs3 := hsA.below hb3
      have hbw3 := hbwA.trans (hb3.mono (by rw [← HB.out]; exact hbwA.size))
      have hp3 := hp.below (by rw [HB.out]; exact hbw3)
      have ho3' := ho3.mono (B' := B) (by rw [← HB.out]; exact hbwA.size)
      have hl3 := addP_len o a
      clear hadd hbA hoA hsA hbwA hb3 ho3 hown hs
      go_wp2_with fail
      refine (rsquared_any _ vp a ps w3 hs3 hp3 (by omega) (by omega) Hnz.out).mono ?_
      rintro e w4 ⟨v4, rfl, ho4, hb4⟩
      have ho5 := ho3'.below hb4
      have hbw4 := hbw3.trans (hb4.mono (by rw [← HB.out]; exact hbw3.size))
      have hl4 := squaredP_lt a ps Hnz.out
      go_wp2
      go_roundw
      case rel =>
        refine ⟨k + 1, _, _, by omega, by first | rfl | go_num, ?_, ho5, ho4.sl, by omega, by omega, hbw4⟩
        have h1 := hx.out
        rw [show 32 - k = (32 - (k + 1)) + 1 from by omega, Goss.tracesLoop] at h1
        exact h1
      case measure => first | omega | (simp [intOf]; done) | (simp [intOf]; omega)
    · obtain rfl : k = 32 := by omega
      have hd : decide (((32 : Nat) : Int) < 32) = false := by decide
      go_wp2
      go_ret
      have h1 : o = R := hx.out
      rw [← h1]
      refine ⟨_, rfl, by rw [HB.out]; exact hown, by rw [HB.out]; exact hbw⟩
end Go.Proofs.Ythglbipcfhdoaaa
