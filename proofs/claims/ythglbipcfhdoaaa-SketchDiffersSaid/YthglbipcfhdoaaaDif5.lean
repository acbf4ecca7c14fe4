/- The walk of SketchDiffers: two sketches. -/
import Derived.Test.YthglbipcfhdoaaaDif3
namespace Go.Proofs.Ythglbipcfhdoaaa
open Go.RowKit
attribute [local go_sem ↓] Go.wp_at_zero Go.wp_at_succ

set_option maxRecDepth 100000 in
set_option maxHeartbeats 8000000 in
theorem dif_ok (va vb vo : Value) (sa sb so : List Goss.F) (CA : Nat) (CB : Nat) (w : World) (ha : Sl w va sa) (hb : Sl w vb sb) (ho : Sl w vo so) (la : sa.length ≤ 24) (lb : sb.length ≤ 24) (lo : so.length ≤ 24) (za : 0#32 ∉ sa) (zb : 0#32 ∉ sb) (zo : 0#32 ∉ so) (k1CA : 1 ≤ CA) (k4CA : CA ≤ 40) (k1CB : 1 ≤ CB) (k4CB : CB ≤ 40) :
    Calls Try.prog 3 #[.agg #[va, vb, vo, .int .i64 (CA : Int), .int .i64 (CB : Int)]] w (Gives (.bool true) w) := by
  obtain ⟨pa, ka, rfl⟩ := ha.shape
  obtain ⟨pb, kb, rfl⟩ := hb.shape
  obtain ⟨po, ko, rfl⟩ := ho.shape
  have hal := fun W => alive_any W
  have hbx : BoxAt (w.alloc (.cells #[.slice pa sa.length ka, .slice pb sb.length kb, .slice po so.length ko, .int .i64 (CA : Int), .int .i64 (CB : Int)] 24)) w.heap.size _ _ _ (CA : Int) (CB : Int) := heap_alloc_new w _
  have hbA := (Below.refl w.heap.size w).alloc (o := .cells #[.slice pa sa.length ka, .slice pb sb.length kb, .slice po so.length ko, .int .i64 (CA : Int), .int .i64 (CB : Int)] 24) (Nat.le_refl _)
  obtain ⟨xb, hxb⟩ : ∃ xb, w.heap.size = xb := ⟨_, rfl⟩
  rw [hxb] at hbx
  have Hxb := Lib.hid hxb
  clear hxb
  obtain ⟨na, hna⟩ : ∃ n, sa.length = n := ⟨_, rfl⟩
  obtain ⟨nb, hnb⟩ : ∃ n, sb.length = n := ⟨_, rfl⟩
  obtain ⟨no, hno⟩ : ∃ n, so.length = n := ⟨_, rfl⟩
  rw [hna] at ha hbx hbA la ⊢
  rw [hnb] at hb hbx hbA lb ⊢
  rw [hno] at ho hbx hbA lo ⊢
  have hnA := none_any (.slice pa na ka) sa
  have hnB := none_any (.slice pb nb kb) sb
  have hnO := none_any (.slice po no ko) so
  rw [decide_eq_false za] at hnA
  rw [decide_eq_false zb] at hnB
  rw [decide_eq_false zo] at hnO
  have HnA := Lib.hid hnA; have HnB := Lib.hid hnB; have HnO := Lib.hid hnO
  have Hna := Lib.hid hna; have Hnb := Lib.hid hnb; have Hno := Lib.hid hno
  have zoa : 0#32 ∉ so ++ sa := by rw [List.mem_append, not_or]; exact ⟨zo, za⟩
  have zob : 0#32 ∉ so ++ sb := by rw [List.mem_append, not_or]; exact ⟨zo, zb⟩
  have zab : 0#32 ∉ sa ++ sb := by rw [List.mem_append, not_or]; exact ⟨za, zb⟩
  have Zoa := Lib.hid zoa; have Zob := Lib.hid zob; have Zab := Lib.hid zab
  have hd0 : decide ((24 : Int) < (na : Int)) = false := decide_eq_false (by omega)
  have hd1 : decide ((24 : Int) < (nb : Int)) = false := decide_eq_false (by omega)
  have hd2 : decide ((24 : Int) < (no : Int)) = false := decide_eq_false (by omega)
  have hl0 : ([] : List Goss.F).length + so.length ≤ 35184372088832 := by rw [hno]; simp; omega
  have hl1 : so.length + sa.length ≤ 35184372088832 := by omega
  have hl2 : so.length + sb.length ≤ 35184372088832 := by omega
  have hl3 : ([] : List Goss.F).length + sa.length ≤ 35184372088832 := by rw [hna]; simp; omega
  have hl4 : sa.length + sb.length ≤ 35184372088832 := by omega
  have Hl0 := Lib.hid hl0; have Hl1 := Lib.hid hl1; have Hl2 := Lib.hid hl2; have Hl3 := Lib.hid hl3; have Hl4 := Lib.hid hl4
  clear hna hnb hno hnA hnB hnO za zb zo zoa zob zab hl0 hl1 hl2 hl3 hl4
  go_enter Try.func3, Try.ntmps3
  go_wp2_with fail
  try rw [Hxb.out]
  refine (hal _).mono ?_
  rintro e w1 ⟨rfl, hb1⟩
  have hbw1 := hbA.trans (hb1.mono hbA.size)
  have hbx1 := hbx.below hb1
  have hc1 := box_cells hbx1
  obtain ⟨c0, c1, c2, c3, c4⟩ := hc1
  have ha1 := ha.below hbw1
  have hb1' := hb.below hbw1
  have ho1 := ho.below hbw1
  clear hal hb1 hbA hbx ha hb ho
  generalize w.alloc (.cells #[.slice pa na ka, .slice pb nb kb, .slice po no ko, .int .i64 (CA : Int), .int .i64 (CB : Int)] 24) = wA at *
  go_wp2_with fail
  refine (HnA.out _ ha1).mono ?_
  rintro e w2 ⟨rfl, rfl⟩
  go_wp2_with fail
  refine (HnB.out _ hb1').mono ?_
  rintro e w2 ⟨rfl, rfl⟩
  go_wp2_with fail
  refine (HnO.out _ ho1).mono ?_
  rintro e w2 ⟨rfl, rfl⟩
  clear HnA HnB HnO
  have hE : Own (w1.alloc (.cells #[] 55)).drew w1.heap.size (.slice (some ⟨w1.heap.size, 0, none⟩) 0 0) [] := Own.empty w1 w1.heap.size (Nat.le_refl _)
  have hbE : Below w1.heap.size w1 (w1.alloc (.cells #[] 55)).drew := ((Below.refl _ _).alloc (Nat.le_refl _) _).drew
  have HE := Lib.hid hE; have HbE := Lib.hid hbE
  clear hE hbE c0 c1 c2 c3 c4
  have hbX := hbx1.below (Below.refl _ _).drew
  obtain ⟨c0, c1, c2, c3, c4⟩ := box_cells hbX
  go_wp2_with fail
  go_region_held_law (fun w' => w'.cell? ⟨xb, 0, none⟩ = some (.slice pa na ka) ∧ w'.cell? ⟨xb, 1, none⟩ = some (.slice pb nb kb) ∧ w'.cell? ⟨xb, 2, none⟩ = some (.slice po no ko) ∧ w'.cell? ⟨xb, 3, none⟩ = some (.int .i64 (CA : Int)) ∧ w'.cell? ⟨xb, 4, none⟩ = some (.int .i64 (CB : Int)))
    (first
      | (refine ⟨?_, ?_, ?_, ?_, ?_⟩ <;> assumption)
      | exact box_cells (hbx1.below HbE.out)
      | exact box_cells (hbx1.below hbp)
      | exact box_cells (hbx1.below hbq)
      | exact box_cells (hbx1.below hbz))
    (first
      | (refine step_app (by rfl) _ _ (by rfl) w1.heap.size _ [] (by rfl) HE.out _ so (by rfl) (ho1.below HbE.out) Hl0.out HbE.out.size ?_; intro vp wp hop hgp hnp; try rw [List.nil_append] at hop; have hbp := grown_below HbE.out HE.out HbE.out.size hgp)
      | (refine step_app (by rfl) _ _ (by rfl) w1.heap.size _ so (by rfl) hop _ sa (by rfl) (ha1.below hbp) Hl1.out hbp.size ?_; intro vq wq hoq hgq hnq; have hbq := grown_below hbp hop hbp.size hgq)
      | (go_at_call 11; go_must (refine (new_ok CA _ (so ++ sa) _ k1CA k4CA hoq.sl Zoa.out).mono ?_); rintro e wz ⟨bz, gz, cz, rfl, hskz, hbz0⟩; have hbz := hbq.trans (hbz0.mono hbq.size)))
  obtain ⟨wA2, rfl⟩ : ∃ wx : World, wx = wz := ⟨_, rfl⟩
  have hbw2 := hbw1.trans (hbz.mono hbw1.size)
  have hbx2 := hbx1.below hbz
  have ha2 := ha1.below hbz
  have hb2' := hb1'.below hbz
  have ho2 := ho1.below hbz
  obtain ⟨b1, rfl⟩ : ∃ q, q = bz := ⟨_, rfl⟩
  obtain ⟨g1, rfl⟩ : ∃ q, q = gz := ⟨_, rfl⟩
  obtain ⟨k1, rfl⟩ : ∃ q, q = cz := ⟨_, rfl⟩
  have hs1 := hskz
  clear hop hgp hnp hoq hgq hnq hbp hbq hbX HE HbE c0 c1 c2 c3 c4
  clear hbz hbz0 hskz hbx1 hbw1 ha1 hb1' ho1
  obtain ⟨c0, c1, c2, c3, c4⟩ := box_cells hbx2
  have hE : Own (wA2.alloc (.cells #[] 55)).drew wA2.heap.size (.slice (some ⟨wA2.heap.size, 0, none⟩) 0 0) [] := Own.empty wA2 wA2.heap.size (Nat.le_refl _)
  have hbE : Below wA2.heap.size wA2 (wA2.alloc (.cells #[] 55)).drew := ((Below.refl _ _).alloc (Nat.le_refl _) _).drew
  have HE := Lib.hid hE; have HbE := Lib.hid hbE
  clear hE hbE c0 c1 c2 c3 c4
  have hbX := hbx2.below (Below.refl _ _).drew
  obtain ⟨c0, c1, c2, c3, c4⟩ := box_cells hbX
  go_wp2_with fail
  go_region_held_law (fun w' => w'.cell? ⟨xb, 0, none⟩ = some (.slice pa na ka) ∧ w'.cell? ⟨xb, 1, none⟩ = some (.slice pb nb kb) ∧ w'.cell? ⟨xb, 2, none⟩ = some (.slice po no ko) ∧ w'.cell? ⟨xb, 3, none⟩ = some (.int .i64 (CA : Int)) ∧ w'.cell? ⟨xb, 4, none⟩ = some (.int .i64 (CB : Int)))
    (first
      | (refine ⟨?_, ?_, ?_, ?_, ?_⟩ <;> assumption)
      | exact box_cells (hbx2.below HbE.out)
      | exact box_cells (hbx2.below hbp)
      | exact box_cells (hbx2.below hbq)
      | exact box_cells (hbx2.below hbz))
    (first
      | (refine step_app (by rfl) _ _ (by rfl) wA2.heap.size _ [] (by rfl) HE.out _ so (by rfl) (ho2.below HbE.out) Hl0.out HbE.out.size ?_; intro vp wp hop hgp hnp; try rw [List.nil_append] at hop; have hbp := grown_below HbE.out HE.out HbE.out.size hgp)
      | (refine step_app (by rfl) _ _ (by rfl) wA2.heap.size _ so (by rfl) hop _ sb (by rfl) (hb2'.below hbp) Hl2.out hbp.size ?_; intro vq wq hoq hgq hnq; have hbq := grown_below hbp hop hbp.size hgq)
      | (go_at_call 11; go_must (refine (new_ok CB _ (so ++ sb) _ k1CB k4CB hoq.sl Zob.out).mono ?_); rintro e wz ⟨bz, gz, cz, rfl, hskz, hbz0⟩; have hbz := hbq.trans (hbz0.mono hbq.size)))
  obtain ⟨wA3, rfl⟩ : ∃ wx : World, wx = wz := ⟨_, rfl⟩
  have hbw3 := hbw2.trans (hbz.mono hbw2.size)
  have hbx3 := hbx2.below hbz
  have ha3 := ha2.below hbz
  have hb3' := hb2'.below hbz
  have ho3 := ho2.below hbz
  have hs1' := hs1.below hbz
  obtain ⟨b2, rfl⟩ : ∃ q, q = bz := ⟨_, rfl⟩
  obtain ⟨g2, rfl⟩ : ∃ q, q = gz := ⟨_, rfl⟩
  obtain ⟨k2, rfl⟩ : ∃ q, q = cz := ⟨_, rfl⟩
  have hs2 := hskz
  clear hop hgp hnp hoq hgq hnq hbp hbq hbX HE HbE c0 c1 c2 c3 c4
  clear hbz hbz0 hskz hs1 hbx2 hbw2 ha2 hb2' ho2
  have hwl1 := Goss.newS_length CA (so ++ sa)
  have hwl2 := Goss.newS_length CB (so ++ sb)
  have hzip := Goss.newS_zip CA CB so sa sb
  have hrise := Goss.sortedP_rising (sa ++ sb)
  have hmemD := Goss.sortedP_mem (sa ++ sb)
  obtain ⟨C, hC⟩ : ∃ C, min CA CB = C := ⟨_, rfl⟩
  have hwl3 := Goss.newS_length C (Goss.sortedP (sa ++ sb))
  rw [hC] at hzip
  have hk1 : 1 ≤ C := by omega
  have hk40 : C ≤ 40 := by omega
  have hif : (if CB < CA then (CB : Int) else (CA : Int)) = (C : Int) := by split <;> omega
  have hcomp : (Goss.sortedP (sa ++ sb)).length ≤ C → Goss.decodeP (Goss.newS C (Goss.sortedP (sa ++ sb))) = some (Goss.sortedP (sa ++ sb)) := fun hl => by
    rw [Goss.decode_complete _ C (Goss.rising_nodup hrise) (fun e => Zab.out (hmemD _ e)) hl hk40, Goss.rising_sorted hrise]
  have hsrt := fun (v : Value) (W : World) (hv : Sl W v (sa ++ sb)) => sorted_any v (sa ++ sb) W hv (by rw [List.length_append, Hna.out, Hnb.out]; omega)
  obtain ⟨D, hD⟩ : ∃ D, Goss.sortedP (sa ++ sb) = D := ⟨_, rfl⟩
  rw [hD] at hzip hcomp hsrt hwl3
  have hwth := with_any _ b1 g1 k1 _ b2 g2 k2 _ _ wA3 hs1' hs2 (by rw [hwl1]; omega) (by rw [hwl2]; omega)
  rw [hzip] at hwth
  obtain ⟨T, hT⟩ : ∃ T, Goss.newS C D = T := ⟨_, rfl⟩
  rw [hT] at hwth hcomp hwl3
  have Hwth := Lib.hid hwth; have Hcomp := Lib.hid hcomp; have Hsrt := Lib.hid hsrt; have HT := Lib.hid hT; have HTl := Lib.hid hwl3; have HC := Lib.hid hC
  clear hwth hcomp hsrt hT hwl3 hwl1 hwl2 hzip hrise hmemD hD hC Hl0 Hl1 Hl2 Zoa Zob
  go_wp2_with fail
  refine Hwth.out.mono ?_
  rintro e w5 ⟨b5, g5, k5, rfl, hs5, hbz⟩
  obtain ⟨wA4, rfl⟩ : ∃ wx : World, wx = w5 := ⟨_, rfl⟩
  have hbw4 := hbw3.trans (hbz.mono hbw3.size)
  have hbx4 := hbx3.below hbz
  have ha4 := ha3.below hbz
  have hb4' := hb3'.below hbz
  have ho4 := ho3.below hbz
  clear hbz hs1' hs2 hbx3 hbw3 ha3 hb3' ho3 Hwth
  have hcapT := fun (B : Nat) (w : World) (h : Sk w B b5 g5 k5 T) => capacity_any B b5 g5 k5 T w h
  rw [HTl.out] at hcapT
  have HcapT := Lib.hid hcapT
  clear hcapT
  have hCC : ((C : Int) != (C : Int)) = false := by simp
  have hbX := hbx4.below (Below.refl _ _).drew
  obtain ⟨c0, c1, c2, c3, c4⟩ := box_cells hbX
  go_upto_region 10 with (fail)
  go_region_held_law (fun w' => w'.cell? ⟨xb, 0, none⟩ = some (.slice pa na ka) ∧ w'.cell? ⟨xb, 1, none⟩ = some (.slice pb nb kb) ∧ w'.cell? ⟨xb, 2, none⟩ = some (.slice po no ko) ∧ w'.cell? ⟨xb, 3, none⟩ = some (.int .i64 (CA : Int)) ∧ w'.cell? ⟨xb, 4, none⟩ = some (.int .i64 (CB : Int)))
    (first
      | (refine ⟨?_, ?_, ?_, ?_, ?_⟩ <;> assumption)
      | exact box_cells (hbx4.below (Below.refl _ _).drew))
    (first
      | (go_at_call_of 13 (Value.pointer (some ⟨b5, 0, none⟩)); go_must (refine (HcapT.out _ _ (hs5.below (Below.refl _ _).drew)).mono ?_); rintro e wy ⟨rfl, rfl⟩))
  all_goals
    have hbz := (Below.refl wA4.heap.size wA4).drew
    generalize wA4.drew = wz at *
    obtain ⟨wA5, rfl⟩ : ∃ wx : World, wx = wz := ⟨_, rfl⟩
    have hbw5 := hbw4.trans (hbz.mono hbw4.size)
    have hbx5 := hbx4.below hbz
    have ha5 := ha4.below hbz
    have hb5' := hb4'.below hbz
    have ho5 := ho4.below hbz
    have hs6 := hs5.below hbz
    clear hbz hs5 hbx4 hbw4 ha4 hb4' ho4 hbX hCC hif c0 c1 c2 c3 c4
    obtain ⟨c0, c1, c2, c3, c4⟩ := box_cells hbx5
    have hE : Own (wA5.alloc (.cells #[] 55)).drew wA5.heap.size (.slice (some ⟨wA5.heap.size, 0, none⟩) 0 0) [] := Own.empty wA5 wA5.heap.size (Nat.le_refl _)
    have hbE : Below wA5.heap.size wA5 (wA5.alloc (.cells #[] 55)).drew := ((Below.refl _ _).alloc (Nat.le_refl _) _).drew
    have HE := Lib.hid hE; have HbE := Lib.hid hbE
    clear hE hbE c0 c1 c2 c3 c4
    have hbX := hbx5.below (Below.refl _ _).drew
    obtain ⟨c0, c1, c2, c3, c4⟩ := box_cells hbX
    go_wp2_with fail
    go_region_held_law (fun w' => w'.cell? ⟨xb, 0, none⟩ = some (.slice pa na ka) ∧ w'.cell? ⟨xb, 1, none⟩ = some (.slice pb nb kb) ∧ w'.cell? ⟨xb, 2, none⟩ = some (.slice po no ko) ∧ w'.cell? ⟨xb, 3, none⟩ = some (.int .i64 (CA : Int)) ∧ w'.cell? ⟨xb, 4, none⟩ = some (.int .i64 (CB : Int)))
      (first
        | (refine ⟨?_, ?_, ?_, ?_, ?_⟩ <;> assumption)
        | exact box_cells (hbx5.below HbE.out)
        | exact box_cells (hbx5.below hbp)
        | exact box_cells (hbx5.below hbq)
        | exact box_cells (hbx5.below hbz))
      (first
        | (refine step_app (by rfl) _ _ (by rfl) wA5.heap.size _ [] (by rfl) HE.out _ sa (by rfl) (ha5.below HbE.out) Hl3.out HbE.out.size ?_; intro vp wp hop hgp hnp; try rw [List.nil_append] at hop; have hbp := grown_below HbE.out HE.out HbE.out.size hgp)
        | (refine step_app (by rfl) _ _ (by rfl) wA5.heap.size _ sa (by rfl) hop _ sb (by rfl) (hb5'.below hbp) Hl4.out hbp.size ?_; intro vq wq hoq hgq hnq; have hbq := grown_below hbp hop hbp.size hgq)
        | (go_at_call 14; go_must (refine (Hsrt.out _ _ hoq.sl).mono ?_); rintro e wz ⟨vz, rfl, hoz, hbz0⟩; have hbz := hbq.trans (hbz0.mono hbq.size)))
    obtain ⟨w6, rfl⟩ : ∃ wx : World, wx = wz := ⟨_, rfl⟩
    have hbw6 := hbw5.trans (hbz.mono hbw5.size)
    have hs7 := hs6.below hbz
    have hD6 := hoz.sl
    clear hop hgp hnp hoq hgq hnq hbp hbq hbX HE HbE c0 c1 c2 c3 c4
    clear hbz hbz0 hs6 hbx5 hbw5 ha5 hb5' ho5 hoz Hl3 Hl4 Hsrt
    obtain ⟨pz, cz, hvz⟩ := hD6.shape
    obtain ⟨nd, hnd⟩ : ∃ n, D.length = n := ⟨_, rfl⟩
    rw [hnd] at hvz
    subst hvz
    have hdec := decode_any _ b5 g5 k5 T w6 hs7 (by rw [HTl.out]; exact hk1) (by rw [HTl.out]; exact hk40)
    rw [hnd] at Hcomp
    have Hnd := Lib.hid hnd
    clear hnd
    by_cases hle : nd ≤ C
    · have hd7 : decide ((nd : Int) ≤ (C : Int)) = true := decide_eq_true (by omega)
      have hd7' : decide (nd ≤ C) = true := decide_eq_true hle
      rw [Hcomp.out hle] at hdec
      have Hdec := Lib.hid hdec
      clear hdec
      go_wp2_with fail
      refine Hdec.out.mono ?_
      rintro e w8 ⟨v8, rfl, ho8, hb8⟩
      have hbw8 := hbw6.trans (hb8.mono hbw6.size)
      have hs8 := hs7.below hb8
      have hD8 := hD6.below hb8
      have hx8 := ho8.sl
      obtain ⟨p8, k8, hv8⟩ := hx8.shape
      rw [Hnd.out] at hv8
      subst hv8
      clear Hdec hb8 hs7 hD6 hbw6 ho8
      go_wp2_with fail
      refine (HcapT.out _ _ hs8).mono ?_
      rintro e w9 ⟨rfl, rfl⟩
      have hwd := words_any (.slice p8 nd k8) (.slice pz nd cz) D D w8 hx8 hD8
      rw [decide_eq_true rfl] at hwd
      go_wp2_with fail
      refine hwd.mono ?_
      rintro e w9 ⟨rfl, q9, rfl⟩
      go_wp2
      go_ret
      exact ⟨rfl, hbw8.drewN q9⟩
    · have hd7 : decide ((nd : Int) ≤ (C : Int)) = false := decide_eq_false (by omega)
      have hd7' : decide (nd ≤ C) = false := decide_eq_false hle
      obtain ⟨o, hq⟩ : ∃ o, Goss.decodeP T = o := ⟨_, rfl⟩
      rw [hq] at hdec
      have Hdec := Lib.hid hdec
      clear hdec
      cases o with
      | none =>
        clear hq
        go_wp2_with fail
        refine Hdec.out.mono ?_
        rintro e w8 ⟨rfl, hb8⟩
        have hbw8 := hbw6.trans (hb8.mono hbw6.size)
        have hs8 := hs7.below hb8
        clear Hdec hb8 hs7 hD6 hbw6
        go_wp2_with fail
        refine (HcapT.out _ _ hs8).mono ?_
        rintro e w9 ⟨rfl, rfl⟩
        go_wp2_with fail
        refine (is_err 13 13 (by decide) _).mono ?_
        rintro e w9 ⟨rfl, rfl⟩
        go_wp2
        go_ret
        exact ⟨rfl, hbw8⟩
      | some ids =>
        obtain ⟨h0, hil, hin⟩ := Goss.decode_sound T ids hq
        rw [HTl.out] at hil hin
        have H0 := Lib.hid h0; have Hin := Lib.hid hin
        clear hq h0 hin
        go_wp2_with fail
        refine Hdec.out.mono ?_
        rintro e w8 ⟨v8, rfl, ho8, hb8⟩
        have hbw8 := hbw6.trans (hb8.mono hbw6.size)
        have hs8 := hs7.below hb8
        have hx8 := ho8.sl
        obtain ⟨p8, k8, hv8⟩ := hx8.shape
        obtain ⟨ni, hni⟩ : ∃ n, ids.length = n := ⟨_, rfl⟩
        rw [hni] at hv8 hil
        subst hv8
        clear Hdec hb8 hs7 hD6 hbw6 ho8 hni
        go_wp2_with fail
        refine (HcapT.out _ _ hs8).mono ?_
        rintro e w9 ⟨rfl, rfl⟩
        go_wp2_with fail
        refine (HcapT.out _ _ hs8).mono ?_
        rintro e w9 ⟨rfl, rfl⟩
        have hnw := new_ok C (.slice p8 ni k8) ids w8 hk1 hk40 hx8 H0.out
        rw [Hin.out] at hnw
        have Hnw := Lib.hid hnw
        clear hnw
        go_wp2_with fail
        refine Hnw.out.mono ?_
        rintro e w10 ⟨b10, g10, k10, rfl, hs10, hb10⟩
        have hbw10 := hbw8.trans (hb10.mono hbw8.size)
        have hs11 := hs8.below hb10
        clear Hnw hb10 hs8 hx8 hbw8
        have hd8 : decide ((ni : Int) ≤ (C : Int)) = true := decide_eq_true (by omega)
        have hd8' : decide (ni ≤ C) = true := decide_eq_true hil
        have HTb : Hid (T.length ≤ 1000000) := by show _ ≤ _; rw [HTl.out]; omega
        go_wp2_with fail
        go_region_held_law (fun _ => True) (trivial)
          (first
            | (go_at_call_of 13 (Value.pointer (some ⟨b5, 0, none⟩)); go_must (refine (HcapT.out _ _ (hs11.below (Below.refl _ _).drew)).mono ?_); rintro e wy ⟨rfl, rfl⟩)
            | (go_at_call_of 18 (Value.pointer (some ⟨b10, 0, none⟩)); go_must (refine (skbytes_any _ b10 g10 k10 T _ (hs10.below (Below.refl _ _).drew) HTb.out).mono ?_); rintro e wa ⟨va, rfl, hoa, hba⟩; have hstra := hoa.slB.str; have hsa := (hs11.below (Below.refl _ _).drew).below hba)
            | (go_at_call_of 18 (Value.pointer (some ⟨b5, 0, none⟩)); go_must (refine (skbytes_any _ b5 g5 k5 T _ hsa HTb.out).mono ?_); rintro e wb ⟨vb', rfl, hob, hbb⟩; have hstrb := hob.slB.str; have hstrab := (hoa.slB.below hbb).str; have hbwb := (hbw10.drew.trans (hba.mono hbw10.size)).trans (hbb.mono (Nat.le_trans hbw10.size hba.size))))
        all_goals
          go_wp2
          go_ret
          exact ⟨by simp, hbwb⟩
end Go.Proofs.Ythglbipcfhdoaaa
