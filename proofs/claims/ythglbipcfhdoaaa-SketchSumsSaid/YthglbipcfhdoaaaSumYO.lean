/- The walk of SketchSums: bytes O. -/
import Derived.Test.YthglbipcfhdoaaaSumK
namespace Go.Proofs.Ythglbipcfhdoaaa
open Go.RowKit
attribute [local go_sem ↓] Go.wp_at_zero Go.wp_at_succ

set_option maxRecDepth 100000 in
set_option maxHeartbeats 4000000 in
theorem sums_RO (k : Int) (v : Value) (xs : List Goss.F) (vb : Value) (bs : List (BitVec 8)) (w : World) (h : Sl w v xs) (hb : SlB w vb bs) (h20 : xs.length ≤ 20) (h400 : bs.length ≤ 400) (hk : ¬ (1 ≤ k ∧ k ≤ 40)) (ho : bs.length % 4 ≠ 0) :
    Calls Try.prog 5 #[.int .i64 k, v, vb] w (Gives (.bool true) w) := by
  obtain ⟨p, c, rfl⟩ := h.shape
  obtain ⟨pb, cb, rfl⟩ := hb.shape
  obtain ⟨n, hn⟩ : ∃ n, xs.length = n := ⟨_, rfl⟩
  obtain ⟨m, hm⟩ : ∃ m, bs.length = m := ⟨_, rfl⟩
  rw [hn] at h h20 ⊢
  rw [hm] at hb h400 ⊢
  have Hn := Lib.hid hn; have Hm := Lib.hid hm; clear hn hm
  have hal := alive_any w
  have hd1 : decide ((20 : Int) < (n : Int)) = false := decide_eq_false (by omega)
  have hd2 : decide ((400 : Int) < (m : Int)) = false := decide_eq_false (by omega)
  have Hk := Lib.hid hk; clear hk
  rw [Hm.out] at ho
  have hy : ¬ (m % 4 = 0 ∧ 1 ≤ m / 4 ∧ m / 4 ≤ 40) := by omega
  have Hy := Lib.hid hy; clear hy
  have Ho := Lib.hid ho; clear ho
  go_enter Try.func5, Try.ntmps5
  go_wp2_with fail
  refine hal.mono ?_
  rintro e w1 ⟨rfl, hb1⟩
  have h_1 := h.below hb1
  have hlen2 : ([] : List Goss.F).length + xs.length ≤ 35184372088832 := by rw [Hn.out]; simp; omega
  have Hlen2 := Lib.hid hlen2; clear hlen2
  go_wp2_with (at_builtin; go_must (refine app_own rfl _ _ rfl w1.heap.size _ [] rfl (Own.empty w1 _ (Nat.le_refl _)) _ xs rfl (h_1.below ((Below.refl _ _).alloc (Nat.le_refl _) _)) Hlen2.out (by simp) ?_))
  intro v2 w2 ho2 hg2 _
  try rw [List.nil_append] at ho2
  have hb2 : Below w1.heap.size w1 w2 := grown_below ((Below.refl _ _).alloc (Nat.le_refl _) _) (Own.empty w1 w1.heap.size (Nat.le_refl _)) (by simp) hg2
  have hbw2 := hb1.trans (hb2.mono hb1.size)
  have hx2 := ho2.sl
  obtain ⟨p2, c2, hv2⟩ := hx2.shape
  rw [Hn.out] at hv2
  subst hv2
  clear hd1 hd2 hal hb1 hb2 hg2 h_1 ho2 Hlen2
  have hnew := new_range k (.slice p2 n c2) w2 Hk.out
  go_wp2_with fail
  refine hnew.mono ?_
  rintro e w3 ⟨rfl, rfl⟩
  clear hnew
  have hbw3 := hbw2
  have hx3 := hx2
  clear hbw2 hx2
  have hrd := read_bad (.slice pb m cb) bs w2 (hb.below hbw3) (by rw [Hm.out]; omega) (by rw [Hm.out]; exact Hy.out)
  go_wp2_with fail
  refine hrd.mono ?_
  rintro e w4 ⟨rfl, hb4⟩
  clear hrd
  have hbw4 := hbw3.trans (hb4.mono hbw3.size)
  have hx4 := hx3.below hb4
  clear hb4 hbw3 hx3
  have hwd := words_any (.slice p2 n c2) (.slice p n c) xs xs w4 hx4 (h.below hbw4)
  rw [decide_eq_true rfl] at hwd
  go_wp2_with fail
  refine hwd.mono ?_
  rintro e w5 ⟨rfl, q5, rfl⟩
  clear hwd hx4
  have hbw5 := hbw4.drewN q5
  have hs5 := hb.below hbw5
  have hrs := refsums_odd (.slice pb m cb) bs _ hs5 (by rw [Hm.out]; omega) (by rw [Hm.out]; exact Ho.out)
  go_wp2_with fail
  refine hrs.mono ?_
  rintro e w6 ⟨rfl, rfl⟩
  clear hrs
  go_wp2_with fail
  refine (is_err 2 2 (by decide) _).mono ?_
  rintro e w7 ⟨rfl, rfl⟩
  have hbw9 := hbw5
  clear hs5 hbw5
  have hlt : k < 1 ∨ 40 < k := by have := Hk.out; omega
  clear Hk
  rcases hlt with hlt | hlt
  · have hdk : decide (k < 1) = true := decide_eq_true hlt
    go_wp2_with fail
    refine (is_err 1 1 (by decide) _).mono ?_
    rintro e wz ⟨rfl, rfl⟩
    go_wp2
    go_ret
    exact ⟨rfl, hbw9⟩
  · have hdk : decide (k < 1) = false := decide_eq_false (by omega)
    have hdk2 : decide (40 < k) = true := decide_eq_true hlt
    go_wp2_with fail
    refine (is_err 1 1 (by decide) _).mono ?_
    rintro e wz ⟨rfl, rfl⟩
    go_wp2
    go_ret
    exact ⟨rfl, hbw9⟩

set_option maxRecDepth 100000 in
set_option maxHeartbeats 4000000 in
theorem sums_ZO (k : Int) (v : Value) (xs : List Goss.F) (vb : Value) (bs : List (BitVec 8)) (w : World) (h : Sl w v xs) (hb : SlB w vb bs) (h20 : xs.length ≤ 20) (h400 : bs.length ≤ 400) (hk : 1 ≤ k ∧ k ≤ 40) (hz : 0#32 ∈ xs) (ho : bs.length % 4 ≠ 0) :
    Calls Try.prog 5 #[.int .i64 k, v, vb] w (Gives (.bool true) w) := by
  obtain ⟨p, c, rfl⟩ := h.shape
  obtain ⟨pb, cb, rfl⟩ := hb.shape
  obtain ⟨n, hn⟩ : ∃ n, xs.length = n := ⟨_, rfl⟩
  obtain ⟨m, hm⟩ : ∃ m, bs.length = m := ⟨_, rfl⟩
  rw [hn] at h h20 ⊢
  rw [hm] at hb h400 ⊢
  have Hn := Lib.hid hn; have Hm := Lib.hid hm; clear hn hm
  have hal := alive_any w
  have hd1 : decide ((20 : Int) < (n : Int)) = false := decide_eq_false (by omega)
  have hd2 : decide ((400 : Int) < (m : Int)) = false := decide_eq_false (by omega)
  have Hk := Lib.hid hk; clear hk
  have Hz := Lib.hid hz; clear hz
  rw [Hm.out] at ho
  have hy : ¬ (m % 4 = 0 ∧ 1 ≤ m / 4 ∧ m / 4 ≤ 40) := by omega
  have Hy := Lib.hid hy; clear hy
  have Ho := Lib.hid ho; clear ho
  go_enter Try.func5, Try.ntmps5
  go_wp2_with fail
  refine hal.mono ?_
  rintro e w1 ⟨rfl, hb1⟩
  have h_1 := h.below hb1
  have hlen2 : ([] : List Goss.F).length + xs.length ≤ 35184372088832 := by rw [Hn.out]; simp; omega
  have Hlen2 := Lib.hid hlen2; clear hlen2
  go_wp2_with (at_builtin; go_must (refine app_own rfl _ _ rfl w1.heap.size _ [] rfl (Own.empty w1 _ (Nat.le_refl _)) _ xs rfl (h_1.below ((Below.refl _ _).alloc (Nat.le_refl _) _)) Hlen2.out (by simp) ?_))
  intro v2 w2 ho2 hg2 _
  try rw [List.nil_append] at ho2
  have hb2 : Below w1.heap.size w1 w2 := grown_below ((Below.refl _ _).alloc (Nat.le_refl _) _) (Own.empty w1 w1.heap.size (Nat.le_refl _)) (by simp) hg2
  have hbw2 := hb1.trans (hb2.mono hb1.size)
  have hx2 := ho2.sl
  obtain ⟨p2, c2, hv2⟩ := hx2.shape
  rw [Hn.out] at hv2
  subst hv2
  clear hd1 hd2 hal hb1 hb2 hg2 h_1 ho2 Hlen2
  have hnew := new_zero k (.slice p2 n c2) xs w2 Hk.out hx2 Hz.out
  go_wp2_with fail
  refine hnew.mono ?_
  rintro e w3 ⟨rfl, hb3⟩
  clear hnew
  have hbw3 := hbw2.trans (hb3.mono hbw2.size)
  have hx3 := hx2.below hb3
  clear hb3 hbw2 hx2
  have hrd := read_bad (.slice pb m cb) bs w3 (hb.below hbw3) (by rw [Hm.out]; omega) (by rw [Hm.out]; exact Hy.out)
  go_wp2_with fail
  refine hrd.mono ?_
  rintro e w4 ⟨rfl, hb4⟩
  clear hrd
  have hbw4 := hbw3.trans (hb4.mono hbw3.size)
  have hx4 := hx3.below hb4
  clear hb4 hbw3 hx3
  have hwd := words_any (.slice p2 n c2) (.slice p n c) xs xs w4 hx4 (h.below hbw4)
  rw [decide_eq_true rfl] at hwd
  go_wp2_with fail
  refine hwd.mono ?_
  rintro e w5 ⟨rfl, q5, rfl⟩
  clear hwd hx4
  have hbw5 := hbw4.drewN q5
  have hs5 := hb.below hbw5
  have hrs := refsums_odd (.slice pb m cb) bs _ hs5 (by rw [Hm.out]; omega) (by rw [Hm.out]; exact Ho.out)
  go_wp2_with fail
  refine hrs.mono ?_
  rintro e w6 ⟨rfl, rfl⟩
  clear hrs
  go_wp2_with fail
  refine (is_err 2 2 (by decide) _).mono ?_
  rintro e w7 ⟨rfl, rfl⟩
  have hbw9 := hbw5
  clear hs5 hbw5
  have hdk : decide (k < 1) = false := decide_eq_false (by have := Hk.out; omega)
  have hdk2 : decide (40 < k) = false := decide_eq_false (by have := Hk.out; omega)
  have hnn := none_any (.slice p n c) xs _ (h.below hbw9)
  rw [decide_eq_true Hz.out] at hnn
  go_wp2_with fail
  refine hnn.mono ?_
  rintro e wy ⟨rfl, rfl⟩
  clear hnn
  go_wp2_with fail
  refine (is_err 1 1 (by decide) _).mono ?_
  rintro e wz ⟨rfl, rfl⟩
  go_wp2
  go_ret
  exact ⟨rfl, hbw9⟩

set_option maxRecDepth 100000 in
set_option maxHeartbeats 4000000 in
theorem sums_KO (k : Int) (v : Value) (xs : List Goss.F) (vb : Value) (bs : List (BitVec 8)) (w : World) (h : Sl w v xs) (hb : SlB w vb bs) (h20 : xs.length ≤ 20) (h400 : bs.length ≤ 400) (hk : 1 ≤ k ∧ k ≤ 40) (hz : 0#32 ∉ xs) (ho : bs.length % 4 ≠ 0) :
    Calls Try.prog 5 #[.int .i64 k, v, vb] w (Gives (.bool true) w) := by
  obtain ⟨p, c, rfl⟩ := h.shape
  obtain ⟨pb, cb, rfl⟩ := hb.shape
  obtain ⟨n, hn⟩ : ∃ n, xs.length = n := ⟨_, rfl⟩
  obtain ⟨m, hm⟩ : ∃ m, bs.length = m := ⟨_, rfl⟩
  rw [hn] at h h20 ⊢
  rw [hm] at hb h400 ⊢
  have Hn := Lib.hid hn; have Hm := Lib.hid hm; clear hn hm
  have hal := alive_any w
  have hd1 : decide ((20 : Int) < (n : Int)) = false := decide_eq_false (by omega)
  have hd2 : decide ((400 : Int) < (m : Int)) = false := decide_eq_false (by omega)
  obtain ⟨K, rfl⟩ : ∃ K : Nat, k = (K : Int) := ⟨k.toNat, by omega⟩
  have hk1 : 1 ≤ K := by omega
  have hk40 : K ≤ 40 := by omega
  clear hk
  have Hz := Lib.hid hz; clear hz
  rw [Hm.out] at ho
  have hy : ¬ (m % 4 = 0 ∧ 1 ≤ m / 4 ∧ m / 4 ≤ 40) := by omega
  have Hy := Lib.hid hy; clear hy
  have Ho := Lib.hid ho; clear ho
  go_enter Try.func5, Try.ntmps5
  go_wp2_with fail
  refine hal.mono ?_
  rintro e w1 ⟨rfl, hb1⟩
  have h_1 := h.below hb1
  have hlen2 : ([] : List Goss.F).length + xs.length ≤ 35184372088832 := by rw [Hn.out]; simp; omega
  have Hlen2 := Lib.hid hlen2; clear hlen2
  go_wp2_with (at_builtin; go_must (refine app_own rfl _ _ rfl w1.heap.size _ [] rfl (Own.empty w1 _ (Nat.le_refl _)) _ xs rfl (h_1.below ((Below.refl _ _).alloc (Nat.le_refl _) _)) Hlen2.out (by simp) ?_))
  intro v2 w2 ho2 hg2 _
  try rw [List.nil_append] at ho2
  have hb2 : Below w1.heap.size w1 w2 := grown_below ((Below.refl _ _).alloc (Nat.le_refl _) _) (Own.empty w1 w1.heap.size (Nat.le_refl _)) (by simp) hg2
  have hbw2 := hb1.trans (hb2.mono hb1.size)
  have hx2 := ho2.sl
  obtain ⟨p2, c2, hv2⟩ := hx2.shape
  rw [Hn.out] at hv2
  subst hv2
  clear hd1 hd2 hal hb1 hb2 hg2 h_1 ho2 Hlen2
  have hnew := new_ok K (.slice p2 n c2) xs w2 hk1 hk40 hx2 Hz.out
  have hwl := Goss.newS_length K xs
  obtain ⟨S, hS⟩ : ∃ S, Goss.newS K xs = S := ⟨_, rfl⟩
  rw [hS] at hnew hwl
  have HS := Lib.hid hS; clear hS
  have HSl := Lib.hid hwl; clear hwl
  go_wp2_with fail
  refine hnew.mono ?_
  rintro e w3 ⟨b, g, c3, rfl, hsk, hb3⟩
  clear hnew
  have hbw3 := hbw2.trans (hb3.mono hbw2.size)
  have hx3 := hx2.below hb3
  clear hb3 hbw2 hx2
  have hrd := read_bad (.slice pb m cb) bs w3 (hb.below hbw3) (by rw [Hm.out]; omega) (by rw [Hm.out]; exact Hy.out)
  go_wp2_with fail
  refine hrd.mono ?_
  rintro e w4 ⟨rfl, hb4⟩
  clear hrd
  have hbw4 := hbw3.trans (hb4.mono hbw3.size)
  have hx4 := hx3.below hb4
  have hsk4 := hsk.below hb4
  clear hsk
  clear hb4 hbw3 hx3
  have hwd := words_any (.slice p2 n c2) (.slice p n c) xs xs w4 hx4 (h.below hbw4)
  rw [decide_eq_true rfl] at hwd
  go_wp2_with fail
  refine hwd.mono ?_
  rintro e w5 ⟨rfl, q5, rfl⟩
  clear hwd hx4
  have hbw5 := hbw4.drewN q5
  have hs5 := hb.below hbw5
  have hsk5 := hsk4.below ((Below.refl _ _).drewN q5)
  clear hsk4
  have hrs := refsums_odd (.slice pb m cb) bs _ hs5 (by rw [Hm.out]; omega) (by rw [Hm.out]; exact Ho.out)
  go_wp2_with fail
  refine hrs.mono ?_
  rintro e w6 ⟨rfl, rfl⟩
  clear hrs
  go_wp2_with fail
  refine (is_err 2 2 (by decide) _).mono ?_
  rintro e w7 ⟨rfl, rfl⟩
  have hbw9 := hbw5
  have hsk9 := hsk5
  clear hsk5
  clear hs5 hbw5
  have hdk : decide ((K : Int) < 1) = false := decide_eq_false (by omega)
  have hdk2 : decide ((40 : Int) < (K : Int)) = false := decide_eq_false (by omega)
  have hnn := none_any (.slice p n c) xs _ (h.below hbw9)
  rw [decide_eq_false Hz.out] at hnn
  go_wp2_with fail
  refine hnn.mono ?_
  rintro e wy ⟨rfl, rfl⟩
  clear hnn
  have hof := of_any K (.slice p n c) xs _ (h.below hbw9) (by omega) (by rw [Hn.out]; omega)
  rw [HS.out] at hof
  go_wp2_with fail
  refine hof.mono ?_
  rintro e wa ⟨va, rfl, hoa, hba⟩
  clear hof
  have hxa := hoa.sl
  obtain ⟨pa, ca, hva⟩ := hxa.shape
  rw [HSl.out] at hva
  subst hva
  have hska := hsk9.below hba
  have hbwa := hbw9.trans (hba.mono hbw9.size)
  clear hoa hba hsk9 hbw9 hdk hdk2
  have hmk2 := mk_run K (by omega)
  have hmade2 := mk_made K (by omega)
  obtain ⟨Z2, hZ2⟩ : ∃ Z2, ((List.replicate K 0#32).map enc).toArray = Z2 := ⟨_, rfl⟩
  rw [hZ2] at hmk2 hmade2
  have Hmade2 := Lib.hid hmade2; clear hmade2 hZ2
  have hcapF := fun (B : Nat) (w : World) (h : Sk w B b g c3 S) => capacity_any B b g c3 S w h
  have hempF := fun (B : Nat) (w : World) (h : Sk w B b g c3 S) => empty_any B b g c3 S w h
  have hwdF := fun (w : World) (v1 v2 : Value) (h1 : Sl w v1 S) (h2 : Sl w v2 (List.replicate K 0#32)) => words_any v1 v2 S (List.replicate K 0#32) w h1 h2
  rw [HSl.out] at hcapF
  rw [empty_eq, HSl.out] at hempF
  obtain ⟨β2, hβ2⟩ : ∃ β, decide (S = List.replicate K 0#32) = β := ⟨_, rfl⟩
  rw [hβ2] at hempF hwdF
  clear hβ2
  have HcapF := Lib.hid hcapF; clear hcapF
  have HempF := Lib.hid hempF; clear hempF
  have HwdF := Lib.hid hwdF; clear hwdF
  have hkk : ((K : Int) == (K : Int)) = true := by simp
  go_wp2_with fail
  go_region_held_law (fun _ => True) (trivial)
    (first
      | (go_at_call_of 13 (Value.pointer (some ⟨b, 0, none⟩)); go_must (refine (HcapF.out _ _ (hska.below (Below.refl _ _).drew)).mono ?_); rintro e wb ⟨rfl, rfl⟩)
      | (go_at_call_of 18 (Value.pointer (some ⟨b, 0, none⟩)); go_must (refine (skbytes_any _ b g c3 S _ (hska.below (Below.refl _ _).drew) (by rw [HSl.out]; omega)).mono ?_); rintro e wc ⟨vc, rfl, hoc, hbc⟩; have hstrc := hoc.slB.str; have hskc := (hska.below (Below.refl _ _).drew).below hbc; have hxc := (hxa.below (Below.refl _ _).drew).below hbc)
      | (go_at_call 20; go_must (refine (refbytes_any _ S _ hxc (by rw [HSl.out]; omega)).mono ?_); rintro e wd ⟨vd, rfl, hod, hbd⟩; have hstrd := hod.slB.str; have hstrcd := (hoc.slB.below hbd).str; have hskd := hskc.below hbd; have hxd := hxc.below hbd; have hBd := ((Below.refl wa.heap.size wa).drew.trans hbc).trans (hbd.mono hbc.size))
      | (go_at_call_of 23 (Value.pointer (some ⟨b, 0, none⟩)); go_must (first | refine (HempF.out _ _ hskd).mono ?_ | refine (HempF.out _ _ (hskd.below ((Below.refl _ _).alloc (Nat.le_refl _) _))).mono ?_); rintro e we ⟨rfl, rfl⟩)
      | (go_at_call 16; go_must (refine (HwdF.out _ _ _ (hxd.below ((Below.refl _ _).alloc (Nat.le_refl _) _)) (Hmade2.out wd)).mono ?_); rintro e wf ⟨rfl, qf, rfl⟩; have hBf := ((hBd.alloc (o := .cells Z2 55) hBd.size).drewN qf); have hbwf := hbwa.trans (hBf.mono hbwa.size)))
  all_goals
    go_wp2
    go_ret
    refine ⟨?_, hbwf⟩
    simp
end Go.Proofs.Ythglbipcfhdoaaa
