/- package roots: check, rest, squared, traces, linear. -/
import Derived.Test.YthglbipcfhdoaaaPolyB
import Derived.LaidEql
import Derived.Test.YthglbipcfhdoaaaTab
import Derived.Deep.RegionWith
import Derived.Deep.RegionHeld3
import Derived.Deep.DeepMust
namespace Go.Proofs.Ythglbipcfhdoaaa
open Go.RowKit

/-- api.Errno as an error. -/
abbrev errv (n : Int) : Value := .iface 39 (.int .i64 n)

set_option maxRecDepth 100000 in
set_option maxHeartbeats 400000 in
theorem check_ok (v : Value) (xs : List Goss.F) (w : World) (h : Sl w v xs) (h1 : 1 ≤ Goss.dlen xs) (h2 : Goss.dlen xs ≤ 61) :
    Calls Try.prog 80 #[v] w (Gives .nilIface w) := by
  have hd := degree_any v xs w h
  change Calls _ _ _ _ (Gives (.int .i64 ((Goss.dlen xs : Int) - 1)) w) at hd
  generalize Goss.dlen xs = n at *
  have ha : (0 : Int) ≤ (n : Int) - 1 := by omega
  have hb : (n : Int) - 1 ≤ 60 := by omega
  have hc : decide ((n : Int) - 1 < 0) = false := decide_eq_false (by omega)
  have hd1 : decide ((60 : Int) < (n : Int) - 1) = false := decide_eq_false (by omega)
  go_enter Try.func80, Try.ntmps80
  go_wp2_with fail
  refine hd.mono ?_
  rintro e w1 ⟨rfl, hb1⟩
  go_wp2
  go_ret
  exact ⟨rfl, hb1⟩
set_option maxRecDepth 100000 in
set_option maxHeartbeats 400000 in
theorem check_bad (v : Value) (xs : List Goss.F) (w : World) (h : Sl w v xs) (h1 : ¬ (1 ≤ Goss.dlen xs ∧ Goss.dlen xs ≤ 61)) :
    Calls Try.prog 80 #[v] w (Gives (errv 1) w) := by
  have hd := degree_any v xs w h
  change Calls _ _ _ _ (Gives (.int .i64 ((Goss.dlen xs : Int) - 1)) w) at hd
  generalize Goss.dlen xs = n at *
  by_cases hn : n = 0
  · subst hn
    have hc : decide ((0 : Int) - 1 < 0) = true := by decide
    go_enter Try.func80, Try.ntmps80
    go_wp2_with fail
    refine hd.mono ?_
    rintro e w1 ⟨rfl, hb1⟩
    go_wp2
    go_ret
    exact ⟨rfl, hb1⟩
  · have ha : (0 : Int) ≤ (n : Int) - 1 := by omega
    have hb : (60 : Int) < (n : Int) - 1 := by omega
    have hc : decide ((n : Int) - 1 < 0) = false := decide_eq_false (by omega)
    have hd1 : decide ((60 : Int) < (n : Int) - 1) = true := decide_eq_true (by omega)
    go_enter Try.func80, Try.ntmps80
    go_wp2_with fail
    refine hd.mono ?_
    rintro e w1 ⟨rfl, hb1⟩
    go_wp2
    go_ret
    exact ⟨rfl, hb1⟩

set_option maxRecDepth 100000 in
set_option maxHeartbeats 400000 in
theorem rest_any (va vb : Value) (us ps : List Goss.F) (w : World) (ha : Sl w va us) (hb : Sl w vb ps) (hla : us.length ≤ 35184372088000) (hlb : ps.length ≤ 35184372088000) (hnz : Goss.trim ps ≠ []) :
    Calls Try.prog 102 #[va, vb] w (New (Goss.restP us ps) w) := by
  have hdiv := divide_any va vb us ps w ha hb hla hlb hnz
  change Calls _ _ _ _ (DivEnd _ (Goss.restP us ps) w) at hdiv
  generalize Goss.restP us ps = R at *
  clear hnz
  go_enter Try.func102, Try.ntmps102
  go_wp2_with fail
  refine hdiv.mono ?_
  rintro e w1 ⟨vq, vr, rfl, _, hr, hb1⟩
  go_wp2
  go_ret
  exact ⟨_, rfl, hr, hb1⟩
set_option maxRecDepth 100000 in
set_option maxHeartbeats 400000 in
theorem rsquared_any (va vb : Value) (us ps : List Goss.F) (w : World) (ha : Sl w va us) (hb : Sl w vb ps) (hla : us.length ≤ 8796093022208) (hlb : ps.length ≤ 35184372088000) (hnz : Goss.trim ps ≠ []) :
    Calls Try.prog 103 #[va, vb] w (New (Goss.squaredP us ps) w) := by
  have hdiv := squared_any va vb us ps w ha hb hla hlb hnz
  generalize Goss.squaredP us ps = R at *
  clear hnz
  go_enter Try.func103, Try.ntmps103
  go_wp2_with fail
  refine hdiv.mono ?_
  rintro e w1 ⟨vr, rfl, hr, hb1⟩
  go_wp2
  go_ret
  exact ⟨_, rfl, hr, hb1⟩

theorem spread_le (a : List Goss.F) : (Goss.spread a).length ≤ 2 * a.length := by rw [Goss.spread_len]; omega
theorem squaredP_lt (a p : List Goss.F) (hnz : Goss.trim p ≠ []) : (Goss.squaredP a p).length < p.length := by
  have hl := Goss.trim_last p hnz
  have := (Goss.divT_spec (Goss.spread a) (Goss.trim p) hnz hl).1
  have h2 := trim_le p
  unfold Goss.squaredP
  omega
theorem restP_lt (a p : List Goss.F) (hnz : Goss.trim p ≠ []) : (Goss.restP a p).length < p.length := by
  have hl := Goss.trim_last p hnz
  have := (Goss.divT_spec a (Goss.trim p) hnz hl).1
  have h2 := trim_le p
  unfold Goss.restP
  omega
theorem addP_len (a b : List Goss.F) : (Goss.addP a b).length ≤ max a.length b.length := by
  unfold Goss.addP
  have := trim_le (Goss.xorL a b)
  rw [Goss.xorL_len] at this
  exact this

set_option maxRecDepth 100000 in
set_option maxHeartbeats 1000000 in
theorem traces_any (vp : Value) (ps : List Goss.F) (by' : Goss.F) (w : World) (hp : Sl w vp ps) (hlp : ps.length ≤ 1000000) (hnz : Goss.trim ps ≠ []) :
    Calls Try.prog 117 #[vp, .int .u32 by'.toNat] w (New (Goss.tracesP ps by') w) := by
  generalize hB : w.heap.size = B at *
  have HB := Lib.hid hB; clear hB
  have Hnz := Lib.hid hnz; clear hnz
  obtain ⟨R, hR⟩ : ∃ R, Goss.tracesP ps by' = R := ⟨_, rfl⟩
  rw [hR]
  have HR := Lib.hid hR; clear hR
  go_enter Try.func117, Try.ntmps117
  have hw1 : Below B w (w.alloc (.cells #[.int .u32 (((0#32 : Goss.F).toNat : Nat) : Int), .int .u32 (by'.toNat : Int)] 55)) := (Below.refl B w).alloc (by rw [HB.out]; exact Nat.le_refl _) _
  have hs1 := Sl.two w 0#32 by'
  have hp1 := hp.below (by rw [HB.out]; exact hw1)
  go_wp2_with fail
  refine (rest_any _ vp [0#32, by'] ps _ hs1 hp1 (by simp) (by omega) Hnz.out).mono ?_
  rintro e w2 ⟨v2, rfl, ho2, hb2⟩
  have hB2 := hw1.trans (hb2.mono (by rw [← HB.out]; exact hw1.size))
  have hs2 := ho2.sl
  have hl2 := restP_lt [0#32, by'] ps Hnz.out
  have HR2 : Hid (Goss.tracesLoop ps 32 [] (Goss.restP [0#32, by'] ps) = R) := HR.out
  generalize Goss.restP [0#32, by'] ps = a0 at *
  clear hs1 hp1 hw1 ho2 hb2
  go_wp2_with fail
  go_loopw [5, 6, 11] (fun vo va i wr => ∃ (k : Nat) (o a : List Goss.F), k ≤ 32 ∧ i = .int .i64 k ∧ Hid (Goss.tracesLoop ps (32 - k) o a = R) ∧ Own wr B vo o ∧ Sl wr va a ∧ o.length ≤ 1000000 ∧ a.length ≤ 1000000 ∧ Below B w wr) (fun _ _ i _ => 32 - (intOf i).toNat)
  case atStart => exact ⟨0, [], a0, by omega, rfl, HR2, Own.nil _ _, hs2, by simp, by omega, hB2⟩
  case round =>
    clear hs2 hB2 HR2 hl2
    obtain ⟨k, o, a, hk, rfl, hx, hown, hs, hlo, hla, hbw⟩ := hrel
    have hzB : B ≤ wr.heap.size := by rw [← HB.out]; exact hbw.size
    by_cases hlt : k < 32
    · have hk32 : (k : Int) < 32 := by omega
      have hd : decide ((k : Int) < 32) = true := decide_eq_true hk32
      obtain ⟨po, co, rfl⟩ := hown.sl.shape
      obtain ⟨pa, ca, rfl⟩ := hs.shape
      have hbA : Below wr.heap.size wr (wr.alloc (.cells #[.slice po o.length co, .slice pa a.length ca] 22)) := (Below.refl _ wr).alloc (Nat.le_refl _) _
      have hoA := hown.below hbA
      have hsA := hs.below hbA
      have hbwA := hbw.trans (hbA.mono hzB)
      have hadd := add_any wr.heap.size 0 _ _ o a (wr.alloc (.cells #[.slice po o.length co, .slice pa a.length ca] 22)) (by simp) (by rw [cell_of_row _ _ _ _ _ (0, 0) (heap_alloc_new wr _)]; rfl) (by rw [cell_of_row _ _ _ _ _ (0, 0) (heap_alloc_new wr _)]; rfl) hoA.sl hsA (by omega) (by omega)
      go_wp2_with fail
      refine hadd.mono ?_
      rintro e w3 ⟨v3, rfl, ho3, hb3⟩
      have hs3 := hsA.below hb3
      have hbw3 := hbwA.trans (hb3.mono (by rw [← HB.out]; exact hbwA.size))
      have hp3 := hp.below (by rw [HB.out]; exact hbw3)
      have ho3' := ho3.mono (B' := B) (by rw [← HB.out]; exact hbwA.size)
      have hl3 := addP_len o a
      clear hadd hbA hoA hsA hbwA hb3 ho3 hown hs
      go_wp2_with fail
      refine (rsquared_any _ vp a ps w3 hs3 hp3 (by omega) (by omega) Hnz.out).mono ?_
      rintro e w4 ⟨v4, rfl, ho4, hb4⟩
      have ho5 := ho3'.below hb4
      have hbw4 := hbw3.trans (hb4.mono (by rw [← HB.out]; exact hbw3.size))
      have hl4 := squaredP_lt a ps Hnz.out
      go_wp2
      go_roundw
      case rel =>
        refine ⟨k + 1, _, _, by omega, by first | rfl | go_num, ?_, ho5, ho4.sl, by omega, by omega, hbw4⟩
        have h1 := hx.out
        rw [show 32 - k = (32 - (k + 1)) + 1 from by omega, Goss.tracesLoop] at h1
        exact h1
      case measure => first | omega | (simp [intOf]; done) | (simp [intOf]; omega)
    · obtain rfl : k = 32 := by omega
      have hd : decide (((32 : Nat) : Int) < 32) = false := by decide
      go_wp2
      go_ret
      have h1 : o = R := hx.out
      rw [← h1]
      refine ⟨_, rfl, by rw [HB.out]; exact hown, by rw [HB.out]; exact hbw⟩
end Go.Proofs.Ythglbipcfhdoaaa
/- package roots: linear, parted. -/
namespace Go.Proofs.Ythglbipcfhdoaaa
open Go.RowKit

theorem pair_cells (w : World) (a b : Value) (t : TypeId) : (w.alloc (.cells #[a, b] t)).cell? ⟨w.heap.size, 0, none⟩ = some a ∧ (w.alloc (.cells #[a, b] t)).cell? ⟨w.heap.size, 0 + 1, none⟩ = some b := by
  constructor <;> rw [cell_of_row _ _ _ _ _ (0, 0) (heap_alloc_new w _)] <;> rfl

set_option maxRecDepth 100000 in
set_option maxHeartbeats 1000000 in
theorem linear_any (vp : Value) (ps : List Goss.F) (w : World) (hp : Sl w vp ps) (hlp : ps.length ≤ 1000000) (hnz : Goss.trim ps ≠ []) :
    Calls Try.prog 82 #[vp] w (New (Goss.linearP ps) w) := by
  generalize hB : w.heap.size = B at *
  have HB := Lib.hid hB; clear hB
  have Hnz := Lib.hid hnz; clear hnz
  obtain ⟨R, hR⟩ : ∃ R, Goss.linearP ps = R := ⟨_, rfl⟩
  rw [hR]
  have HR := Lib.hid hR; clear hR
  go_enter Try.func82, Try.ntmps82
  have hw1 : Below B w (w.alloc (.cells #[.int .u32 (((0#32 : Goss.F).toNat : Nat) : Int), .int .u32 (((1#32 : Goss.F).toNat : Nat) : Int)] 55)) := (Below.refl B w).alloc (by rw [HB.out]; exact Nat.le_refl _) _
  have hs1 := Sl.two w 0#32 1#32
  have hp1 := hp.below (by rw [HB.out]; exact hw1)
  go_wp2_with fail
  refine (rest_any _ vp [0#32, 1#32] ps _ hs1 hp1 (by simp) (by omega) Hnz.out).mono ?_
  rintro e w2 ⟨v2, rfl, ho2, hb2⟩
  have hB2 := hw1.trans (hb2.mono (by rw [← HB.out]; exact hw1.size))
  have hs2 := ho2.sl
  have hl2 := restP_lt [0#32, 1#32] ps Hnz.out
  have HR2 : Hid (Goss.commonP ps (Goss.addP (Goss.linLoop ps 32 (Goss.restP [0#32, 1#32] ps)) (Goss.restP [0#32, 1#32] ps)) = R) := HR.out
  generalize Goss.restP [0#32, 1#32] ps = a0 at *
  obtain ⟨A1, hA1⟩ : ∃ x, Goss.linLoop ps 32 a0 = x := ⟨_, rfl⟩
  have HA1 := Lib.hid hA1; clear hA1
  clear hs1 hp1 hw1 ho2 hb2
  go_wp2_with fail
  go_loopw [4, 9] (fun va i wr => ∃ (k : Nat) (a : List Goss.F), k ≤ 32 ∧ i = .int .i64 k ∧ Hid (Goss.linLoop ps (32 - k) a = A1) ∧ Sl wr va a ∧ a.length ≤ 1000000 ∧ Below B w wr ∧ Sl wr v2 a0) (fun _ i _ => 32 - (intOf i).toNat)
  case atStart => exact ⟨0, a0, by omega, rfl, HA1, hs2, by omega, hB2, hs2⟩
  case round =>
    clear hs2 hB2
    obtain ⟨k, a, hk, rfl, hx, hs, hla, hbw, hs0⟩ := hrel
    have hp3 := hp.below (by rw [HB.out]; exact hbw)
    by_cases hlt : k < 32
    · have hk32 : (k : Int) < 32 := by omega
      have hd : decide ((k : Int) < 32) = true := decide_eq_true hk32
      go_wp2_with fail
      refine (rsquared_any _ vp a ps wr hs hp3 (by omega) (by omega) Hnz.out).mono ?_
      rintro e w4 ⟨v4, rfl, ho4, hb4⟩
      have hbw4 := hbw.trans (hb4.mono (by rw [← HB.out]; exact hbw.size))
      have hl4 := squaredP_lt a ps Hnz.out
      have hs04 := hs0.below hb4
      go_wp2
      go_roundw
      case rel =>
        refine ⟨k + 1, _, by omega, by first | rfl | go_num, ?_, ho4.sl, by omega, hbw4, hs04⟩
        have h1 := hx.out
        rw [show 32 - k = (32 - (k + 1)) + 1 from by omega, Goss.linLoop] at h1
        exact h1
      case measure => first | omega | (simp [intOf]; done) | (simp [intOf]; omega)
    · obtain rfl : k = 32 := by omega
      have hd : decide (((32 : Nat) : Int) < 32) = false := by decide
      have ha1 : a = A1 := hx.out
      have HR3 : Hid (Goss.commonP ps (Goss.addP a a0) = R) := by
        have h1 := HR2.out
        rw [HA1.out, ← ha1] at h1
        exact h1
      obtain ⟨pa, ca, rfl⟩ := hs.shape
      obtain ⟨p0, c0, rfl⟩ := hs0.shape
      clear ha1 hx HR2
      have hbA : Below wr.heap.size wr (wr.alloc (.cells #[.slice pa a.length ca, .slice p0 a0.length c0] 22)) := (Below.refl _ wr).alloc (Nat.le_refl _) _
      have hbwA := hbw.trans (hbA.mono (by rw [← HB.out]; exact hbw.size))
      have hpc := pair_cells wr (.slice pa a.length ca) (.slice p0 a0.length c0) 22
      have hadd := add_any wr.heap.size 0 _ _ a a0 (wr.alloc (.cells #[.slice pa a.length ca, .slice p0 a0.length c0] 22)) (by simp) hpc.1 hpc.2 (hs.below hbA) (hs0.below hbA) (by omega) (by omega)
      clear hpc
      have hladd := addP_len a a0
      go_wp2_with fail
      refine hadd.mono ?_
      rintro e w3 ⟨v3, rfl, ho3, hb3⟩
      have hbw3 := hbwA.trans (hb3.mono (by rw [← HB.out]; exact hbwA.size))
      have hp4 := hp.below (by rw [HB.out]; exact hbw3)
      clear hadd
      go_wp2_with fail
      refine (common_any vp _ ps (Goss.addP a a0) w3 hp4 ho3.sl (by omega) (by omega)).mono ?_
      rintro e w4 ⟨v4, rfl, ho4, hb4⟩
      go_wp2
      go_ret
      rw [HR3.out] at ho4
      have hz3 : B ≤ w3.heap.size := by rw [← HB.out]; exact hbw3.size
      exact ⟨_, rfl, by rw [HB.out]; exact ho4.mono hz3, by rw [HB.out]; exact hbw3.trans (hb4.mono hz3)⟩

theorem tracesLoop_len (p : List Goss.F) (hnz : Goss.trim p ≠ []) (n : Nat) : ∀ out a : List Goss.F, out.length ≤ p.length → a.length ≤ p.length → (Goss.tracesLoop p n out a).length ≤ p.length := by
  induction n with
  | zero => intro out a h _; exact h
  | succ n ih =>
    intro out a h1 h2
    rw [Goss.tracesLoop]
    have h3 := addP_len out a
    have h4 := squaredP_lt a p hnz
    exact ih _ _ (by omega) (by omega)
theorem tracesP_len (p : List Goss.F) (b : Goss.F) (hnz : Goss.trim p ≠ []) : (Goss.tracesP p b).length ≤ p.length := by
  have := restP_lt [0#32, b] p hnz
  exact tracesLoop_len p hnz 32 _ _ (Nat.zero_le _) (by omega)
/-- A part, as a value. -/
abbrev partV (v : Value) (bit : Nat) : Value := .agg #[v, .int .i64 bit]
/-- What parted hands back: a new row of two parts. -/
def PartEnd (p1 p2 : List Goss.F) (bit : Nat) (w : World) (e : Ending) (w' : World) : Prop :=
  ∃ g v1 v2, e = .returned (.slice (some ⟨g, 0, none⟩) 2 2) ∧ w.heap.size ≤ g ∧ w'.heap[g]? = some (.cells #[v1, .int .i64 (bit : Int), v2, .int .i64 (bit : Int)] 141 (0, 0)) ∧ Own w' w.heap.size v1 p1 ∧ Own w' w.heap.size v2 p2 ∧ Below w.heap.size w w'

theorem one_shl (bit : Nat) : IntKind.u32.wrap (2 ^ bit) = ((1#32 <<< bit : Goss.F).toNat : Int) := by
  have := u32_shl 1#32 bit
  rw [IntKind.wrap_u32, ← this]
  have h1 : (((1#32 : Goss.F).toNat : Nat) : Int) = 1 := rfl
  rw [h1, Int.one_mul]

set_option maxRecDepth 100000 in
set_option maxHeartbeats 2000000 in
theorem parted_any (vp : Value) (ps : List Goss.F) (bit : Nat) (w : World) (hp : Sl w vp ps) (hlp : ps.length ≤ 1000000) (hnz : Goss.trim ps ≠ []) (hbit : bit < 32) :
    Calls Try.prog 101 #[partV vp bit] w (PartEnd (Goss.partOne ps bit) (Goss.partTwo ps bit) (bit + 1) w) := by
  generalize hB : w.heap.size = B at *
  have HB := Lib.hid hB; clear hB
  have Hnz := Lib.hid hnz; clear hnz
  have hsh := one_shl bit
  have hb0 : (0 : Int) ≤ (bit : Int) := by omega
  generalize hy : (1#32 <<< bit : Goss.F) = y at *
  have Hy := Lib.hid hy; clear hy
  obtain ⟨T1, hT1⟩ : ∃ x, Goss.tracesP ps y = x := ⟨_, rfl⟩
  have hTl : T1.length ≤ 1000000 := by
    have := tracesP_len ps y Hnz.out
    rw [hT1] at this
    omega
  have HT1 := Lib.hid hT1; clear hT1
  have hbw : Below B w (w.alloc (.cells #[vp, .int .i64 (bit : Int)] 141)).drew := ((Below.refl B w).alloc (by rw [HB.out]; exact Nat.le_refl _) _).drew
  have hpc := pair_cells w vp (.int .i64 (bit : Int)) 141
  have hp1 := hp.below (by rw [HB.out]; exact hbw)
  have hX : (w.alloc (.cells #[vp, .int .i64 (bit : Int)] 141)).drew.heap.size = w.heap.size + 1 := by simp
  have HX := Lib.hid hX; clear hX
  go_enter Try.func101, Try.ntmps101
  go_wp2_with fail
  go_region_held3 (fun w' => w'.cell? ⟨w.heap.size, 0, none⟩ = some vp ∧ w'.cell? ⟨w.heap.size, 1, none⟩ = some (.int .i64 (bit : Int))) (go_keep)
    (first
     | (go_at_call 117; go_must (refine (traces_any vp ps y _ hp1 hlp Hnz.out).mono ?_); rintro e w2 ⟨v2, rfl, ho2, hb2⟩; have hk0 : w2.cell? ⟨w.heap.size, 0, none⟩ = some vp := (hb2.cell (p := ⟨w.heap.size, 0, none⟩) (by rw [HX.out]; exact Nat.lt_succ_self _)).trans hpc.1; have hk1 : w2.cell? ⟨w.heap.size, 1, none⟩ = some (.int .i64 (bit : Int)) := (hb2.cell (p := ⟨w.heap.size, 1, none⟩) (by rw [HX.out]; exact Nat.lt_succ_self _)).trans hpc.2; have hp2 := hp1.below hb2; have hB2 := hbw.trans (hb2.mono (by rw [← HB.out]; exact hbw.size)); rw [HT1.out] at ho2)
     | (go_at_call 104; go_must (refine (common_any vp _ ps T1 _ hp2 ho2.sl (by omega) (by omega)).mono ?_); rintro e w3 ⟨v3, rfl, ho3, hb3⟩; have hz2 : w.heap.size < w2.heap.size := Nat.lt_of_lt_of_le (by rw [HX.out]; exact Nat.lt_succ_self _) hb2.size; have hk20 : w3.cell? ⟨w.heap.size, 0, none⟩ = some vp := (hb3.cell (p := ⟨w.heap.size, 0, none⟩) hz2).trans hk0; have hk21 : w3.cell? ⟨w.heap.size, 1, none⟩ = some (.int .i64 (bit : Int)) := (hb3.cell (p := ⟨w.heap.size, 1, none⟩) hz2).trans hk1; have hp3 := hp2.below hb3; have hB3 := hB2.trans (hb3.mono (by rw [← HB.out]; exact hB2.size)); have hz3 := Nat.lt_of_lt_of_le hz2 hb3.size))
  have hone : Goss.commonP ps T1 = Goss.partOne ps bit := by unfold Goss.partOne; rw [Hy.out, HT1.out]
  rw [hone] at ho3
  have hnz1 : Goss.trim (Goss.partOne ps bit) ≠ [] := Goss.commonP_nonzero _ _ Hnz.out
  have hl1 : (Goss.partOne ps bit).length ≤ 2000000 := by
    have := Goss.commonP_len ps (Goss.tracesP ps (1#32 <<< bit))
    have h2 := tracesP_len ps (1#32 <<< bit) Hnz.out
    show (Goss.commonP ps _).length ≤ _
    omega
  have hs3 := ho3.mono (B' := B) (by rw [← HB.out]; exact hB2.size)
  clear hone hk0 hk1 hp1 hp2 ho2 hb2 hb3 hB2 hpc hbw ho3
  obtain ⟨q1, hq1⟩ : ∃ x, Goss.partOne ps bit = x := ⟨_, rfl⟩
  rw [hq1] at hs3 hnz1 hl1
  have Hq1 := Lib.hid hq1; clear hq1
  go_wp2_with fail
  refine (divide_any vp _ ps q1 _ hp3 hs3.sl (by omega) (by omega) hnz1).mono ?_
  rintro e w4 ⟨vq, vr, rfl, hq4, _, hb4⟩
  have hk0 : w4.cell? ⟨w.heap.size, 0, none⟩ = some vp := (hb4.cell (p := ⟨w.heap.size, 0, none⟩) hz3).trans hk20
  have hk1 : w4.cell? ⟨w.heap.size, 1, none⟩ = some (.int .i64 (bit : Int)) := (hb4.cell (p := ⟨w.heap.size, 1, none⟩) hz3).trans hk21
  have hs4 := hs3.below hb4
  have hB4 := hB3.trans (hb4.mono (by rw [← HB.out]; exact hB3.size))
  have hz4 := Nat.lt_of_lt_of_le hz3 hb4.size
  have hlq := (divT_le ps (Goss.trim q1)).2
  clear hk20 hk21 hb4 hs3 hp3
  generalize hD : (Goss.divT ps (Goss.trim q1)).1 = D at *
  have HD := Lib.hid hD; clear hD
  have hsq := hq4.sl
  clear hq4
  obtain ⟨p1, c1, rfl⟩ := hs4.sl.shape
  obtain ⟨pq, cq, rfl⟩ := hsq.shape
  have hsum : IntKind.i64.wrap ((bit : Int) + 1) = (bit : Int) + 1 := IntWalk.i64_in _ (by omega)
  go_wp2_with fail
  go_region_held3 (fun w' => w'.cell? ⟨w.heap.size, 0, none⟩ = some vp ∧ w'.cell? ⟨w.heap.size, 1, none⟩ = some (.int .i64 (bit : Int))) (go_keep)
    (first
     | (go_at_call 119; go_must (refine (monic_any _ D _ (hsq.below (Below.refl _ _).drew) (by omega)).mono ?_); rintro e w5 ⟨v5, rfl, ho5, hb5⟩; have hk50 : w5.cell? ⟨w.heap.size, 0, none⟩ = some vp := (hb5.cell (p := ⟨w.heap.size, 0, none⟩) hz4).trans hk0; have hk51 : w5.cell? ⟨w.heap.size, 1, none⟩ = some (.int .i64 (bit : Int)) := (hb5.cell (p := ⟨w.heap.size, 1, none⟩) hz4).trans hk1; have hs5 := (hs4.below (Below.refl _ _).drew).below hb5; have hB5 := hB4.drew.trans (hb5.mono (by rw [← HB.out]; exact hB4.size)); have hsv5 := ho5.mono (B' := B) (by rw [← HB.out]; exact hB4.size); obtain ⟨p5, c5, rfl⟩ := hsv5.sl.shape))
  go_wp2
  go_ret
  have hM : Goss.monicP D = Goss.partTwo ps bit := by
    unfold Goss.partTwo
    rw [Hq1.out, HD.out]
  have hz5 : B ≤ w5.heap.size := by rw [← HB.out]; exact hB5.size
  refine ⟨w5.heap.size, _, _, rfl, by rw [HB.out]; exact hz5, heap_alloc_new w5 _, ?_, ?_, ?_⟩
  · rw [Hq1.out, HB.out]; exact hs5.below ((Below.refl _ _).alloc (Nat.le_refl _) _)
  · rw [← hM, HB.out]; exact hsv5.below ((Below.refl _ _).alloc (Nat.le_refl _) _)
  · rw [HB.out]; exact hB5.alloc hz5 _
end Go.Proofs.Ythglbipcfhdoaaa
