/- The walk of SketchDiffers: helpers; what isn't looked at. -/
import Derived.Test.YthglbipcfhdoaaaDif2
namespace Go.Proofs.Ythglbipcfhdoaaa
open Go.RowKit
attribute [local go_sem ↓] Go.wp_at_zero Go.wp_at_succ

abbrev BoxAt (w : World) (xb : Nat) (va vb vo : Value) (ca cb : Int) : Prop := w.heap[xb]? = some (.cells #[va, vb, vo, .int .i64 ca, .int .i64 cb] 24 (0, 0))
theorem BoxAt.lt {w : World} {xb : Nat} {va vb vo : Value} {ca cb : Int} (h : BoxAt w xb va vb vo ca cb) : xb < w.heap.size := lt_of_block h
theorem BoxAt.below {w w' : World} {xb : Nat} {va vb vo : Value} {ca cb : Int} (h : BoxAt w xb va vb vo ca cb) (hb : Below w.heap.size w w') : BoxAt w' xb va vb vo ca cb := by
  unfold BoxAt
  rw [hb.block xb h.lt]
  exact h
theorem box_cells {w : World} {xb : Nat} {va vb vo : Value} {ca cb : Int} (h : BoxAt w xb va vb vo ca cb) :
    w.cell? ⟨xb, 0, none⟩ = some va ∧ w.cell? ⟨xb, 1, none⟩ = some vb ∧ w.cell? ⟨xb, 2, none⟩ = some vo ∧ w.cell? ⟨xb, 3, none⟩ = some (.int .i64 ca) ∧ w.cell? ⟨xb, 4, none⟩ = some (.int .i64 cb) := by
  refine ⟨?_, ?_, ?_, ?_, ?_⟩ <;> simp [World.cell?, h]

set_option maxRecDepth 100000 in
set_option maxHeartbeats 4000000 in
theorem dif_big (va vb vo : Value) (sa sb so : List Goss.F) (ca cb : Int) (w : World) (ha : Sl w va sa) (hb : Sl w vb sb) (ho : Sl w vo so) (hn : ¬ (sa.length ≤ 24 ∧ sb.length ≤ 24 ∧ so.length ≤ 24 ∧ 0#32 ∉ sa ∧ 0#32 ∉ sb ∧ 0#32 ∉ so)) :
    Calls Try.prog 3 #[.agg #[va, vb, vo, .int .i64 ca, .int .i64 cb]] w (Gives (.bool true) w) := by
  obtain ⟨pa, ka, rfl⟩ := ha.shape
  obtain ⟨pb, kb, rfl⟩ := hb.shape
  obtain ⟨po, ko, rfl⟩ := ho.shape
  have hal := fun W => alive_any W
  have hbx : BoxAt (w.alloc (.cells #[.slice pa sa.length ka, .slice pb sb.length kb, .slice po so.length ko, .int .i64 ca, .int .i64 cb] 24)) w.heap.size _ _ _ ca cb := heap_alloc_new w _
  have hbA := (Below.refl w.heap.size w).alloc (o := .cells #[.slice pa sa.length ka, .slice pb sb.length kb, .slice po so.length ko, .int .i64 ca, .int .i64 cb] 24) (Nat.le_refl _)
  obtain ⟨xb, hxb⟩ : ∃ xb, w.heap.size = xb := ⟨_, rfl⟩
  rw [hxb] at hbx
  have Hxb := Lib.hid hxb
  clear hxb
  obtain ⟨na, hna⟩ : ∃ n, sa.length = n := ⟨_, rfl⟩
  obtain ⟨nb, hnb⟩ : ∃ n, sb.length = n := ⟨_, rfl⟩
  obtain ⟨no, hno⟩ : ∃ n, so.length = n := ⟨_, rfl⟩
  rw [hna] at ha hbx hbA hn ⊢
  rw [hnb] at hb hbx hbA hn ⊢
  rw [hno] at ho hbx hbA hn ⊢
  have hnA := none_any (.slice pa na ka) sa
  have hnB := none_any (.slice pb nb kb) sb
  have hnO := none_any (.slice po no ko) so
  have HnA := Lib.hid hnA; have HnB := Lib.hid hnB; have HnO := Lib.hid hnO
  clear hna hnb hno hnA hnB hnO
  go_enter Try.func3, Try.ntmps3
  go_wp2_with fail
  try rw [Hxb.out]
  refine (hal _).mono ?_
  rintro e w1 ⟨rfl, hb1⟩
  have hbw1 := hbA.trans (hb1.mono hbA.size)
  have hbx1 := hbx.below hb1
  obtain ⟨c0, c1, c2, c3, c4⟩ := box_cells hbx1
  have ha1 := ha.below hbw1
  have hb1' := hb.below hbw1
  have ho1 := ho.below hbw1
  clear hal hb1 hbA hbx hbx1 ha hb ho
  generalize w.alloc (.cells #[.slice pa na ka, .slice pb nb kb, .slice po no ko, .int .i64 ca, .int .i64 cb] 24) = wA at *
  by_cases h0 : 24 < na
  · have hd0 : decide ((24 : Int) < (na : Int)) = true := decide_eq_true (by omega)
    go_wp2
    go_ret
    exact ⟨rfl, hbw1⟩
  have hd0 : decide ((24 : Int) < (na : Int)) = false := decide_eq_false (by omega)
  by_cases h1 : 24 < nb
  · have hd1 : decide ((24 : Int) < (nb : Int)) = true := decide_eq_true (by omega)
    go_wp2
    go_ret
    exact ⟨rfl, hbw1⟩
  have hd1 : decide ((24 : Int) < (nb : Int)) = false := decide_eq_false (by omega)
  by_cases h2 : 24 < no
  · have hd2 : decide ((24 : Int) < (no : Int)) = true := decide_eq_true (by omega)
    go_wp2
    go_ret
    exact ⟨rfl, hbw1⟩
  have hd2 : decide ((24 : Int) < (no : Int)) = false := decide_eq_false (by omega)
  by_cases z0 : 0#32 ∈ sa
  · have hz0 := HnA.out _ ha1
    rw [decide_eq_true z0] at hz0
    clear z0 hn
    go_wp2_with fail
    refine hz0.mono ?_
    rintro e w9 ⟨rfl, rfl⟩
    go_wp2
    go_ret
    exact ⟨rfl, hbw1⟩
  have hz0 := HnA.out _ ha1
  rw [decide_eq_false z0] at hz0
  by_cases z1 : 0#32 ∈ sb
  · have hz1 := HnB.out _ hb1'
    rw [decide_eq_true z1] at hz1
    clear z1 hn
    go_wp2_with fail
    refine hz0.mono ?_
    rintro e w2 ⟨rfl, rfl⟩
    clear hz0
    go_wp2_with fail
    refine hz1.mono ?_
    rintro e w9 ⟨rfl, rfl⟩
    go_wp2
    go_ret
    exact ⟨rfl, hbw1⟩
  have hz1 := HnB.out _ hb1'
  rw [decide_eq_false z1] at hz1
  by_cases z2 : 0#32 ∈ so
  · have hz2 := HnO.out _ ho1
    rw [decide_eq_true z2] at hz2
    clear z2 hn
    go_wp2_with fail
    refine hz0.mono ?_
    rintro e w2 ⟨rfl, rfl⟩
    clear hz0
    go_wp2_with fail
    refine hz1.mono ?_
    rintro e w3 ⟨rfl, rfl⟩
    clear hz1
    go_wp2_with fail
    refine hz2.mono ?_
    rintro e w9 ⟨rfl, rfl⟩
    go_wp2
    go_ret
    exact ⟨rfl, hbw1⟩
  have hz2 := HnO.out _ ho1
  rw [decide_eq_false z2] at hz2
  exact absurd ⟨by omega, by omega, by omega, z0, z1, z2⟩ hn

set_option maxRecDepth 100000 in
set_option maxHeartbeats 8000000 in
theorem dif_badbad (va vb vo : Value) (sa sb so : List Goss.F) (ca : Int) (cb : Int) (w : World) (ha : Sl w va sa) (hb : Sl w vb sb) (ho : Sl w vo so) (la : sa.length ≤ 24) (lb : sb.length ≤ 24) (lo : so.length ≤ 24) (za : 0#32 ∉ sa) (zb : 0#32 ∉ sb) (zo : 0#32 ∉ so) (hca : ¬ (1 ≤ ca ∧ ca ≤ 40)) (hcb : ¬ (1 ≤ cb ∧ cb ≤ 40)) :
    Calls Try.prog 3 #[.agg #[va, vb, vo, .int .i64 ca, .int .i64 cb]] w (Gives (.bool true) w) := by
  obtain ⟨pa, ka, rfl⟩ := ha.shape
  obtain ⟨pb, kb, rfl⟩ := hb.shape
  obtain ⟨po, ko, rfl⟩ := ho.shape
  have hal := fun W => alive_any W
  have hbx : BoxAt (w.alloc (.cells #[.slice pa sa.length ka, .slice pb sb.length kb, .slice po so.length ko, .int .i64 ca, .int .i64 cb] 24)) w.heap.size _ _ _ ca cb := heap_alloc_new w _
  have hbA := (Below.refl w.heap.size w).alloc (o := .cells #[.slice pa sa.length ka, .slice pb sb.length kb, .slice po so.length ko, .int .i64 ca, .int .i64 cb] 24) (Nat.le_refl _)
  obtain ⟨xb, hxb⟩ : ∃ xb, w.heap.size = xb := ⟨_, rfl⟩
  rw [hxb] at hbx
  have Hxb := Lib.hid hxb
  clear hxb
  obtain ⟨na, hna⟩ : ∃ n, sa.length = n := ⟨_, rfl⟩
  obtain ⟨nb, hnb⟩ : ∃ n, sb.length = n := ⟨_, rfl⟩
  obtain ⟨no, hno⟩ : ∃ n, so.length = n := ⟨_, rfl⟩
  rw [hna] at ha hbx hbA la ⊢
  rw [hnb] at hb hbx hbA lb ⊢
  rw [hno] at ho hbx hbA lo ⊢
  have hnA := none_any (.slice pa na ka) sa
  have hnB := none_any (.slice pb nb kb) sb
  have hnO := none_any (.slice po no ko) so
  rw [decide_eq_false za] at hnA
  rw [decide_eq_false zb] at hnB
  rw [decide_eq_false zo] at hnO
  have HnA := Lib.hid hnA; have HnB := Lib.hid hnB; have HnO := Lib.hid hnO
  have Hna := Lib.hid hna; have Hnb := Lib.hid hnb; have Hno := Lib.hid hno
  have zoa : 0#32 ∉ so ++ sa := by rw [List.mem_append, not_or]; exact ⟨zo, za⟩
  have zob : 0#32 ∉ so ++ sb := by rw [List.mem_append, not_or]; exact ⟨zo, zb⟩
  have zab : 0#32 ∉ sa ++ sb := by rw [List.mem_append, not_or]; exact ⟨za, zb⟩
  have Zoa := Lib.hid zoa; have Zob := Lib.hid zob; have Zab := Lib.hid zab
  have hd0 : decide ((24 : Int) < (na : Int)) = false := decide_eq_false (by omega)
  have hd1 : decide ((24 : Int) < (nb : Int)) = false := decide_eq_false (by omega)
  have hd2 : decide ((24 : Int) < (no : Int)) = false := decide_eq_false (by omega)
  have hl0 : ([] : List Goss.F).length + so.length ≤ 35184372088832 := by rw [hno]; simp; omega
  have hl1 : so.length + sa.length ≤ 35184372088832 := by omega
  have hl2 : so.length + sb.length ≤ 35184372088832 := by omega
  have hl3 : ([] : List Goss.F).length + sa.length ≤ 35184372088832 := by rw [hna]; simp; omega
  have hl4 : sa.length + sb.length ≤ 35184372088832 := by omega
  have Hl0 := Lib.hid hl0; have Hl1 := Lib.hid hl1; have Hl2 := Lib.hid hl2; have Hl3 := Lib.hid hl3; have Hl4 := Lib.hid hl4
  clear hna hnb hno hnA hnB hnO za zb zo zoa zob zab hl0 hl1 hl2 hl3 hl4
  have HCca := Lib.hid hca
  have HCcb := Lib.hid hcb
  go_enter Try.func3, Try.ntmps3
  go_wp2_with fail
  try rw [Hxb.out]
  refine (hal _).mono ?_
  rintro e w1 ⟨rfl, hb1⟩
  have hbw1 := hbA.trans (hb1.mono hbA.size)
  have hbx1 := hbx.below hb1
  have hc1 := box_cells hbx1
  obtain ⟨c0, c1, c2, c3, c4⟩ := hc1
  have ha1 := ha.below hbw1
  have hb1' := hb.below hbw1
  have ho1 := ho.below hbw1
  clear hal hb1 hbA hbx ha hb ho
  generalize w.alloc (.cells #[.slice pa na ka, .slice pb nb kb, .slice po no ko, .int .i64 ca, .int .i64 cb] 24) = wA at *
  go_wp2_with fail
  refine (HnA.out _ ha1).mono ?_
  rintro e w2 ⟨rfl, rfl⟩
  go_wp2_with fail
  refine (HnB.out _ hb1').mono ?_
  rintro e w2 ⟨rfl, rfl⟩
  go_wp2_with fail
  refine (HnO.out _ ho1).mono ?_
  rintro e w2 ⟨rfl, rfl⟩
  clear HnA HnB HnO
  have hE : Own (w1.alloc (.cells #[] 55)).drew w1.heap.size (.slice (some ⟨w1.heap.size, 0, none⟩) 0 0) [] := Own.empty w1 w1.heap.size (Nat.le_refl _)
  have hbE : Below w1.heap.size w1 (w1.alloc (.cells #[] 55)).drew := ((Below.refl _ _).alloc (Nat.le_refl _) _).drew
  have HE := Lib.hid hE; have HbE := Lib.hid hbE
  clear hE hbE c0 c1 c2 c3 c4
  have hbX := hbx1.below (Below.refl _ _).drew
  obtain ⟨c0, c1, c2, c3, c4⟩ := box_cells hbX
  go_wp2_with fail
  go_region_held_law (fun w' => w'.cell? ⟨xb, 0, none⟩ = some (.slice pa na ka) ∧ w'.cell? ⟨xb, 1, none⟩ = some (.slice pb nb kb) ∧ w'.cell? ⟨xb, 2, none⟩ = some (.slice po no ko) ∧ w'.cell? ⟨xb, 3, none⟩ = some (.int .i64 ca) ∧ w'.cell? ⟨xb, 4, none⟩ = some (.int .i64 cb))
    (first
      | (refine ⟨?_, ?_, ?_, ?_, ?_⟩ <;> assumption)
      | exact box_cells (hbx1.below HbE.out)
      | exact box_cells (hbx1.below hbp)
      | exact box_cells (hbx1.below hbq)
      | exact box_cells (hbx1.below hbz))
    (first
      | (refine step_app (by rfl) _ _ (by rfl) w1.heap.size _ [] (by rfl) HE.out _ so (by rfl) (ho1.below HbE.out) Hl0.out HbE.out.size ?_; intro vp wp hop hgp hnp; try rw [List.nil_append] at hop; have hbp := grown_below HbE.out HE.out HbE.out.size hgp)
      | (refine step_app (by rfl) _ _ (by rfl) w1.heap.size _ so (by rfl) hop _ sa (by rfl) (ha1.below hbp) Hl1.out hbp.size ?_; intro vq wq hoq hgq hnq; have hbq := grown_below hbp hop hbp.size hgq)
      | (go_at_call 11; go_must (refine (new_range ca _ _ HCca.out).mono ?_); rintro e wz ⟨rfl, rfl⟩; have hbz := hbq))
  clear hop hgp hnp hoq hgq hnq hbp hbX HE HbE c0 c1 c2 c3 c4
  obtain ⟨wA2, rfl⟩ : ∃ wx : World, wx = wq := ⟨_, rfl⟩
  have hbw2 := hbw1.trans (hbz.mono hbw1.size)
  have hbx2 := hbx1.below hbz
  have ha2 := ha1.below hbz
  have hb2' := hb1'.below hbz
  have ho2 := ho1.below hbz
  clear hbz hbq hbx1 hbw1 ha1 hb1' ho1
  have hc2 := box_cells hbx2
  obtain ⟨c0, c1, c2, c3, c4⟩ := hc2
  have hE : Own (wA2.alloc (.cells #[] 55)).drew wA2.heap.size (.slice (some ⟨wA2.heap.size, 0, none⟩) 0 0) [] := Own.empty wA2 wA2.heap.size (Nat.le_refl _)
  have hbE : Below wA2.heap.size wA2 (wA2.alloc (.cells #[] 55)).drew := ((Below.refl _ _).alloc (Nat.le_refl _) _).drew
  have HE := Lib.hid hE; have HbE := Lib.hid hbE
  clear hE hbE c0 c1 c2 c3 c4
  have hbX := hbx2.below (Below.refl _ _).drew
  obtain ⟨c0, c1, c2, c3, c4⟩ := box_cells hbX
  go_wp2_with fail
  go_region_held_law (fun w' => w'.cell? ⟨xb, 0, none⟩ = some (.slice pa na ka) ∧ w'.cell? ⟨xb, 1, none⟩ = some (.slice pb nb kb) ∧ w'.cell? ⟨xb, 2, none⟩ = some (.slice po no ko) ∧ w'.cell? ⟨xb, 3, none⟩ = some (.int .i64 ca) ∧ w'.cell? ⟨xb, 4, none⟩ = some (.int .i64 cb))
    (first
      | (refine ⟨?_, ?_, ?_, ?_, ?_⟩ <;> assumption)
      | exact box_cells (hbx2.below HbE.out)
      | exact box_cells (hbx2.below hbp)
      | exact box_cells (hbx2.below hbq)
      | exact box_cells (hbx2.below hbz))
    (first
      | (refine step_app (by rfl) _ _ (by rfl) wA2.heap.size _ [] (by rfl) HE.out _ so (by rfl) (ho2.below HbE.out) Hl0.out HbE.out.size ?_; intro vp wp hop hgp hnp; try rw [List.nil_append] at hop; have hbp := grown_below HbE.out HE.out HbE.out.size hgp)
      | (refine step_app (by rfl) _ _ (by rfl) wA2.heap.size _ so (by rfl) hop _ sb (by rfl) (hb2'.below hbp) Hl2.out hbp.size ?_; intro vq wq hoq hgq hnq; have hbq := grown_below hbp hop hbp.size hgq)
      | (go_at_call 11; go_must (refine (new_range cb _ _ HCcb.out).mono ?_); rintro e wz ⟨rfl, rfl⟩; have hbz := hbq))
  clear hop hgp hnp hoq hgq hnq hbp hbX HE HbE c0 c1 c2 c3 c4
  obtain ⟨wA3, rfl⟩ : ∃ wx : World, wx = wq := ⟨_, rfl⟩
  have hbw3 := hbw2.trans (hbz.mono hbw2.size)
  have hbx3 := hbx2.below hbz
  have ha3 := ha2.below hbz
  have hb3' := hb2'.below hbz
  have ho3 := ho2.below hbz
  obtain ⟨c0, c1, c2, c3, c4⟩ := box_cells hbx3
  rcases (show ca < 1 ∨ ¬ ca < 1 ∧ 40 < ca by have := HCca.out; omega) with hlt | ⟨hlt, hgt⟩
  · have d1 : decide (ca < 1) = true := decide_eq_true hlt
    go_wp2
    go_ret
    exact ⟨rfl, hbw3⟩
  · have d1 : decide (ca < 1) = false := decide_eq_false hlt
    have d2 : decide (40 < ca) = true := decide_eq_true hgt
    go_wp2
    go_ret
    exact ⟨rfl, hbw3⟩

set_option maxRecDepth 100000 in
set_option maxHeartbeats 8000000 in
theorem dif_badok (va vb vo : Value) (sa sb so : List Goss.F) (ca : Int) (CB : Nat) (w : World) (ha : Sl w va sa) (hb : Sl w vb sb) (ho : Sl w vo so) (la : sa.length ≤ 24) (lb : sb.length ≤ 24) (lo : so.length ≤ 24) (za : 0#32 ∉ sa) (zb : 0#32 ∉ sb) (zo : 0#32 ∉ so) (hca : ¬ (1 ≤ ca ∧ ca ≤ 40)) (k1CB : 1 ≤ CB) (k4CB : CB ≤ 40) :
    Calls Try.prog 3 #[.agg #[va, vb, vo, .int .i64 ca, .int .i64 (CB : Int)]] w (Gives (.bool true) w) := by
  obtain ⟨pa, ka, rfl⟩ := ha.shape
  obtain ⟨pb, kb, rfl⟩ := hb.shape
  obtain ⟨po, ko, rfl⟩ := ho.shape
  have hal := fun W => alive_any W
  have hbx : BoxAt (w.alloc (.cells #[.slice pa sa.length ka, .slice pb sb.length kb, .slice po so.length ko, .int .i64 ca, .int .i64 (CB : Int)] 24)) w.heap.size _ _ _ ca (CB : Int) := heap_alloc_new w _
  have hbA := (Below.refl w.heap.size w).alloc (o := .cells #[.slice pa sa.length ka, .slice pb sb.length kb, .slice po so.length ko, .int .i64 ca, .int .i64 (CB : Int)] 24) (Nat.le_refl _)
  obtain ⟨xb, hxb⟩ : ∃ xb, w.heap.size = xb := ⟨_, rfl⟩
  rw [hxb] at hbx
  have Hxb := Lib.hid hxb
  clear hxb
  obtain ⟨na, hna⟩ : ∃ n, sa.length = n := ⟨_, rfl⟩
  obtain ⟨nb, hnb⟩ : ∃ n, sb.length = n := ⟨_, rfl⟩
  obtain ⟨no, hno⟩ : ∃ n, so.length = n := ⟨_, rfl⟩
  rw [hna] at ha hbx hbA la ⊢
  rw [hnb] at hb hbx hbA lb ⊢
  rw [hno] at ho hbx hbA lo ⊢
  have hnA := none_any (.slice pa na ka) sa
  have hnB := none_any (.slice pb nb kb) sb
  have hnO := none_any (.slice po no ko) so
  rw [decide_eq_false za] at hnA
  rw [decide_eq_false zb] at hnB
  rw [decide_eq_false zo] at hnO
  have HnA := Lib.hid hnA; have HnB := Lib.hid hnB; have HnO := Lib.hid hnO
  have Hna := Lib.hid hna; have Hnb := Lib.hid hnb; have Hno := Lib.hid hno
  have zoa : 0#32 ∉ so ++ sa := by rw [List.mem_append, not_or]; exact ⟨zo, za⟩
  have zob : 0#32 ∉ so ++ sb := by rw [List.mem_append, not_or]; exact ⟨zo, zb⟩
  have zab : 0#32 ∉ sa ++ sb := by rw [List.mem_append, not_or]; exact ⟨za, zb⟩
  have Zoa := Lib.hid zoa; have Zob := Lib.hid zob; have Zab := Lib.hid zab
  have hd0 : decide ((24 : Int) < (na : Int)) = false := decide_eq_false (by omega)
  have hd1 : decide ((24 : Int) < (nb : Int)) = false := decide_eq_false (by omega)
  have hd2 : decide ((24 : Int) < (no : Int)) = false := decide_eq_false (by omega)
  have hl0 : ([] : List Goss.F).length + so.length ≤ 35184372088832 := by rw [hno]; simp; omega
  have hl1 : so.length + sa.length ≤ 35184372088832 := by omega
  have hl2 : so.length + sb.length ≤ 35184372088832 := by omega
  have hl3 : ([] : List Goss.F).length + sa.length ≤ 35184372088832 := by rw [hna]; simp; omega
  have hl4 : sa.length + sb.length ≤ 35184372088832 := by omega
  have Hl0 := Lib.hid hl0; have Hl1 := Lib.hid hl1; have Hl2 := Lib.hid hl2; have Hl3 := Lib.hid hl3; have Hl4 := Lib.hid hl4
  clear hna hnb hno hnA hnB hnO za zb zo zoa zob zab hl0 hl1 hl2 hl3 hl4
  have HCca := Lib.hid hca
  go_enter Try.func3, Try.ntmps3
  go_wp2_with fail
  try rw [Hxb.out]
  refine (hal _).mono ?_
  rintro e w1 ⟨rfl, hb1⟩
  have hbw1 := hbA.trans (hb1.mono hbA.size)
  have hbx1 := hbx.below hb1
  have hc1 := box_cells hbx1
  obtain ⟨c0, c1, c2, c3, c4⟩ := hc1
  have ha1 := ha.below hbw1
  have hb1' := hb.below hbw1
  have ho1 := ho.below hbw1
  clear hal hb1 hbA hbx ha hb ho
  generalize w.alloc (.cells #[.slice pa na ka, .slice pb nb kb, .slice po no ko, .int .i64 ca, .int .i64 (CB : Int)] 24) = wA at *
  go_wp2_with fail
  refine (HnA.out _ ha1).mono ?_
  rintro e w2 ⟨rfl, rfl⟩
  go_wp2_with fail
  refine (HnB.out _ hb1').mono ?_
  rintro e w2 ⟨rfl, rfl⟩
  go_wp2_with fail
  refine (HnO.out _ ho1).mono ?_
  rintro e w2 ⟨rfl, rfl⟩
  clear HnA HnB HnO
  have hE : Own (w1.alloc (.cells #[] 55)).drew w1.heap.size (.slice (some ⟨w1.heap.size, 0, none⟩) 0 0) [] := Own.empty w1 w1.heap.size (Nat.le_refl _)
  have hbE : Below w1.heap.size w1 (w1.alloc (.cells #[] 55)).drew := ((Below.refl _ _).alloc (Nat.le_refl _) _).drew
  have HE := Lib.hid hE; have HbE := Lib.hid hbE
  clear hE hbE c0 c1 c2 c3 c4
  have hbX := hbx1.below (Below.refl _ _).drew
  obtain ⟨c0, c1, c2, c3, c4⟩ := box_cells hbX
  go_wp2_with fail
  go_region_held_law (fun w' => w'.cell? ⟨xb, 0, none⟩ = some (.slice pa na ka) ∧ w'.cell? ⟨xb, 1, none⟩ = some (.slice pb nb kb) ∧ w'.cell? ⟨xb, 2, none⟩ = some (.slice po no ko) ∧ w'.cell? ⟨xb, 3, none⟩ = some (.int .i64 ca) ∧ w'.cell? ⟨xb, 4, none⟩ = some (.int .i64 (CB : Int)))
    (first
      | (refine ⟨?_, ?_, ?_, ?_, ?_⟩ <;> assumption)
      | exact box_cells (hbx1.below HbE.out)
      | exact box_cells (hbx1.below hbp)
      | exact box_cells (hbx1.below hbq)
      | exact box_cells (hbx1.below hbz))
    (first
      | (refine step_app (by rfl) _ _ (by rfl) w1.heap.size _ [] (by rfl) HE.out _ so (by rfl) (ho1.below HbE.out) Hl0.out HbE.out.size ?_; intro vp wp hop hgp hnp; try rw [List.nil_append] at hop; have hbp := grown_below HbE.out HE.out HbE.out.size hgp)
      | (refine step_app (by rfl) _ _ (by rfl) w1.heap.size _ so (by rfl) hop _ sa (by rfl) (ha1.below hbp) Hl1.out hbp.size ?_; intro vq wq hoq hgq hnq; have hbq := grown_below hbp hop hbp.size hgq)
      | (go_at_call 11; go_must (refine (new_range ca _ _ HCca.out).mono ?_); rintro e wz ⟨rfl, rfl⟩; have hbz := hbq))
  clear hop hgp hnp hoq hgq hnq hbp hbX HE HbE c0 c1 c2 c3 c4
  obtain ⟨wA2, rfl⟩ : ∃ wx : World, wx = wq := ⟨_, rfl⟩
  have hbw2 := hbw1.trans (hbz.mono hbw1.size)
  have hbx2 := hbx1.below hbz
  have ha2 := ha1.below hbz
  have hb2' := hb1'.below hbz
  have ho2 := ho1.below hbz
  clear hbz hbq hbx1 hbw1 ha1 hb1' ho1
  have hc2 := box_cells hbx2
  obtain ⟨c0, c1, c2, c3, c4⟩ := hc2
  have hE : Own (wA2.alloc (.cells #[] 55)).drew wA2.heap.size (.slice (some ⟨wA2.heap.size, 0, none⟩) 0 0) [] := Own.empty wA2 wA2.heap.size (Nat.le_refl _)
  have hbE : Below wA2.heap.size wA2 (wA2.alloc (.cells #[] 55)).drew := ((Below.refl _ _).alloc (Nat.le_refl _) _).drew
  have HE := Lib.hid hE; have HbE := Lib.hid hbE
  clear hE hbE c0 c1 c2 c3 c4
  have hbX := hbx2.below (Below.refl _ _).drew
  obtain ⟨c0, c1, c2, c3, c4⟩ := box_cells hbX
  go_wp2_with fail
  go_region_held_law (fun w' => w'.cell? ⟨xb, 0, none⟩ = some (.slice pa na ka) ∧ w'.cell? ⟨xb, 1, none⟩ = some (.slice pb nb kb) ∧ w'.cell? ⟨xb, 2, none⟩ = some (.slice po no ko) ∧ w'.cell? ⟨xb, 3, none⟩ = some (.int .i64 ca) ∧ w'.cell? ⟨xb, 4, none⟩ = some (.int .i64 (CB : Int)))
    (first
      | (refine ⟨?_, ?_, ?_, ?_, ?_⟩ <;> assumption)
      | exact box_cells (hbx2.below HbE.out)
      | exact box_cells (hbx2.below hbp)
      | exact box_cells (hbx2.below hbq)
      | exact box_cells (hbx2.below hbz))
    (first
      | (refine step_app (by rfl) _ _ (by rfl) wA2.heap.size _ [] (by rfl) HE.out _ so (by rfl) (ho2.below HbE.out) Hl0.out HbE.out.size ?_; intro vp wp hop hgp hnp; try rw [List.nil_append] at hop; have hbp := grown_below HbE.out HE.out HbE.out.size hgp)
      | (refine step_app (by rfl) _ _ (by rfl) wA2.heap.size _ so (by rfl) hop _ sb (by rfl) (hb2'.below hbp) Hl2.out hbp.size ?_; intro vq wq hoq hgq hnq; have hbq := grown_below hbp hop hbp.size hgq)
      | (go_at_call 11; go_must (refine (new_ok CB _ (so ++ sb) _ k1CB k4CB hoq.sl Zob.out).mono ?_); rintro e wz ⟨bz, gz, cz, rfl, hskz, hbz0⟩; have hbz := hbq.trans (hbz0.mono hbq.size)))
  clear hop hgp hnp hoq hgq hnq hbp hbX HE HbE c0 c1 c2 c3 c4
  obtain ⟨wA3, rfl⟩ : ∃ wx : World, wx = wz := ⟨_, rfl⟩
  have hbw3 := hbw2.trans (hbz.mono hbw2.size)
  have hbx3 := hbx2.below hbz
  have ha3 := ha2.below hbz
  have hb3' := hb2'.below hbz
  have ho3 := ho2.below hbz
  obtain ⟨c0, c1, c2, c3, c4⟩ := box_cells hbx3
  rcases (show ca < 1 ∨ ¬ ca < 1 ∧ 40 < ca by have := HCca.out; omega) with hlt | ⟨hlt, hgt⟩
  · have d1 : decide (ca < 1) = true := decide_eq_true hlt
    go_wp2
    go_ret
    exact ⟨rfl, hbw3⟩
  · have d1 : decide (ca < 1) = false := decide_eq_false hlt
    have d2 : decide (40 < ca) = true := decide_eq_true hgt
    go_wp2
    go_ret
    exact ⟨rfl, hbw3⟩

set_option maxRecDepth 100000 in
set_option maxHeartbeats 8000000 in
theorem dif_okbad (va vb vo : Value) (sa sb so : List Goss.F) (CA : Nat) (cb : Int) (w : World) (ha : Sl w va sa) (hb : Sl w vb sb) (ho : Sl w vo so) (la : sa.length ≤ 24) (lb : sb.length ≤ 24) (lo : so.length ≤ 24) (za : 0#32 ∉ sa) (zb : 0#32 ∉ sb) (zo : 0#32 ∉ so) (k1CA : 1 ≤ CA) (k4CA : CA ≤ 40) (hcb : ¬ (1 ≤ cb ∧ cb ≤ 40)) :
    Calls Try.prog 3 #[.agg #[va, vb, vo, .int .i64 (CA : Int), .int .i64 cb]] w (Gives (.bool true) w) := by
  obtain ⟨pa, ka, rfl⟩ := ha.shape
  obtain ⟨pb, kb, rfl⟩ := hb.shape
  obtain ⟨po, ko, rfl⟩ := ho.shape
  have hal := fun W => alive_any W
  have hbx : BoxAt (w.alloc (.cells #[.slice pa sa.length ka, .slice pb sb.length kb, .slice po so.length ko, .int .i64 (CA : Int), .int .i64 cb] 24)) w.heap.size _ _ _ (CA : Int) cb := heap_alloc_new w _
  have hbA := (Below.refl w.heap.size w).alloc (o := .cells #[.slice pa sa.length ka, .slice pb sb.length kb, .slice po so.length ko, .int .i64 (CA : Int), .int .i64 cb] 24) (Nat.le_refl _)
  obtain ⟨xb, hxb⟩ : ∃ xb, w.heap.size = xb := ⟨_, rfl⟩
  rw [hxb] at hbx
  have Hxb := Lib.hid hxb
  clear hxb
  obtain ⟨na, hna⟩ : ∃ n, sa.length = n := ⟨_, rfl⟩
  obtain ⟨nb, hnb⟩ : ∃ n, sb.length = n := ⟨_, rfl⟩
  obtain ⟨no, hno⟩ : ∃ n, so.length = n := ⟨_, rfl⟩
  rw [hna] at ha hbx hbA la ⊢
  rw [hnb] at hb hbx hbA lb ⊢
  rw [hno] at ho hbx hbA lo ⊢
  have hnA := none_any (.slice pa na ka) sa
  have hnB := none_any (.slice pb nb kb) sb
  have hnO := none_any (.slice po no ko) so
  rw [decide_eq_false za] at hnA
  rw [decide_eq_false zb] at hnB
  rw [decide_eq_false zo] at hnO
  have HnA := Lib.hid hnA; have HnB := Lib.hid hnB; have HnO := Lib.hid hnO
  have Hna := Lib.hid hna; have Hnb := Lib.hid hnb; have Hno := Lib.hid hno
  have zoa : 0#32 ∉ so ++ sa := by rw [List.mem_append, not_or]; exact ⟨zo, za⟩
  have zob : 0#32 ∉ so ++ sb := by rw [List.mem_append, not_or]; exact ⟨zo, zb⟩
  have zab : 0#32 ∉ sa ++ sb := by rw [List.mem_append, not_or]; exact ⟨za, zb⟩
  have Zoa := Lib.hid zoa; have Zob := Lib.hid zob; have Zab := Lib.hid zab
  have hd0 : decide ((24 : Int) < (na : Int)) = false := decide_eq_false (by omega)
  have hd1 : decide ((24 : Int) < (nb : Int)) = false := decide_eq_false (by omega)
  have hd2 : decide ((24 : Int) < (no : Int)) = false := decide_eq_false (by omega)
  have hl0 : ([] : List Goss.F).length + so.length ≤ 35184372088832 := by rw [hno]; simp; omega
  have hl1 : so.length + sa.length ≤ 35184372088832 := by omega
  have hl2 : so.length + sb.length ≤ 35184372088832 := by omega
  have hl3 : ([] : List Goss.F).length + sa.length ≤ 35184372088832 := by rw [hna]; simp; omega
  have hl4 : sa.length + sb.length ≤ 35184372088832 := by omega
  have Hl0 := Lib.hid hl0; have Hl1 := Lib.hid hl1; have Hl2 := Lib.hid hl2; have Hl3 := Lib.hid hl3; have Hl4 := Lib.hid hl4
  clear hna hnb hno hnA hnB hnO za zb zo zoa zob zab hl0 hl1 hl2 hl3 hl4
  have HCcb := Lib.hid hcb
  go_enter Try.func3, Try.ntmps3
  go_wp2_with fail
  try rw [Hxb.out]
  refine (hal _).mono ?_
  rintro e w1 ⟨rfl, hb1⟩
  have hbw1 := hbA.trans (hb1.mono hbA.size)
  have hbx1 := hbx.below hb1
  have hc1 := box_cells hbx1
  obtain ⟨c0, c1, c2, c3, c4⟩ := hc1
  have ha1 := ha.below hbw1
  have hb1' := hb.below hbw1
  have ho1 := ho.below hbw1
  clear hal hb1 hbA hbx ha hb ho
  generalize w.alloc (.cells #[.slice pa na ka, .slice pb nb kb, .slice po no ko, .int .i64 (CA : Int), .int .i64 cb] 24) = wA at *
  go_wp2_with fail
  refine (HnA.out _ ha1).mono ?_
  rintro e w2 ⟨rfl, rfl⟩
  go_wp2_with fail
  refine (HnB.out _ hb1').mono ?_
  rintro e w2 ⟨rfl, rfl⟩
  go_wp2_with fail
  refine (HnO.out _ ho1).mono ?_
  rintro e w2 ⟨rfl, rfl⟩
  clear HnA HnB HnO
  have hE : Own (w1.alloc (.cells #[] 55)).drew w1.heap.size (.slice (some ⟨w1.heap.size, 0, none⟩) 0 0) [] := Own.empty w1 w1.heap.size (Nat.le_refl _)
  have hbE : Below w1.heap.size w1 (w1.alloc (.cells #[] 55)).drew := ((Below.refl _ _).alloc (Nat.le_refl _) _).drew
  have HE := Lib.hid hE; have HbE := Lib.hid hbE
  clear hE hbE c0 c1 c2 c3 c4
  have hbX := hbx1.below (Below.refl _ _).drew
  obtain ⟨c0, c1, c2, c3, c4⟩ := box_cells hbX
  go_wp2_with fail
  go_region_held_law (fun w' => w'.cell? ⟨xb, 0, none⟩ = some (.slice pa na ka) ∧ w'.cell? ⟨xb, 1, none⟩ = some (.slice pb nb kb) ∧ w'.cell? ⟨xb, 2, none⟩ = some (.slice po no ko) ∧ w'.cell? ⟨xb, 3, none⟩ = some (.int .i64 (CA : Int)) ∧ w'.cell? ⟨xb, 4, none⟩ = some (.int .i64 cb))
    (first
      | (refine ⟨?_, ?_, ?_, ?_, ?_⟩ <;> assumption)
      | exact box_cells (hbx1.below HbE.out)
      | exact box_cells (hbx1.below hbp)
      | exact box_cells (hbx1.below hbq)
      | exact box_cells (hbx1.below hbz))
    (first
      | (refine step_app (by rfl) _ _ (by rfl) w1.heap.size _ [] (by rfl) HE.out _ so (by rfl) (ho1.below HbE.out) Hl0.out HbE.out.size ?_; intro vp wp hop hgp hnp; try rw [List.nil_append] at hop; have hbp := grown_below HbE.out HE.out HbE.out.size hgp)
      | (refine step_app (by rfl) _ _ (by rfl) w1.heap.size _ so (by rfl) hop _ sa (by rfl) (ha1.below hbp) Hl1.out hbp.size ?_; intro vq wq hoq hgq hnq; have hbq := grown_below hbp hop hbp.size hgq)
      | (go_at_call 11; go_must (refine (new_ok CA _ (so ++ sa) _ k1CA k4CA hoq.sl Zoa.out).mono ?_); rintro e wz ⟨bz, gz, cz, rfl, hskz, hbz0⟩; have hbz := hbq.trans (hbz0.mono hbq.size)))
  clear hop hgp hnp hoq hgq hnq hbp hbX HE HbE c0 c1 c2 c3 c4
  obtain ⟨wA2, rfl⟩ : ∃ wx : World, wx = wz := ⟨_, rfl⟩
  have hbw2 := hbw1.trans (hbz.mono hbw1.size)
  have hbx2 := hbx1.below hbz
  have ha2 := ha1.below hbz
  have hb2' := hb1'.below hbz
  have ho2 := ho1.below hbz
  clear hbz hbq hbx1 hbw1 ha1 hb1' ho1
  have hc2 := box_cells hbx2
  obtain ⟨c0, c1, c2, c3, c4⟩ := hc2
  have hE : Own (wA2.alloc (.cells #[] 55)).drew wA2.heap.size (.slice (some ⟨wA2.heap.size, 0, none⟩) 0 0) [] := Own.empty wA2 wA2.heap.size (Nat.le_refl _)
  have hbE : Below wA2.heap.size wA2 (wA2.alloc (.cells #[] 55)).drew := ((Below.refl _ _).alloc (Nat.le_refl _) _).drew
  have HE := Lib.hid hE; have HbE := Lib.hid hbE
  clear hE hbE c0 c1 c2 c3 c4
  have hbX := hbx2.below (Below.refl _ _).drew
  obtain ⟨c0, c1, c2, c3, c4⟩ := box_cells hbX
  go_wp2_with fail
  go_region_held_law (fun w' => w'.cell? ⟨xb, 0, none⟩ = some (.slice pa na ka) ∧ w'.cell? ⟨xb, 1, none⟩ = some (.slice pb nb kb) ∧ w'.cell? ⟨xb, 2, none⟩ = some (.slice po no ko) ∧ w'.cell? ⟨xb, 3, none⟩ = some (.int .i64 (CA : Int)) ∧ w'.cell? ⟨xb, 4, none⟩ = some (.int .i64 cb))
    (first
      | (refine ⟨?_, ?_, ?_, ?_, ?_⟩ <;> assumption)
      | exact box_cells (hbx2.below HbE.out)
      | exact box_cells (hbx2.below hbp)
      | exact box_cells (hbx2.below hbq)
      | exact box_cells (hbx2.below hbz))
    (first
      | (refine step_app (by rfl) _ _ (by rfl) wA2.heap.size _ [] (by rfl) HE.out _ so (by rfl) (ho2.below HbE.out) Hl0.out HbE.out.size ?_; intro vp wp hop hgp hnp; try rw [List.nil_append] at hop; have hbp := grown_below HbE.out HE.out HbE.out.size hgp)
      | (refine step_app (by rfl) _ _ (by rfl) wA2.heap.size _ so (by rfl) hop _ sb (by rfl) (hb2'.below hbp) Hl2.out hbp.size ?_; intro vq wq hoq hgq hnq; have hbq := grown_below hbp hop hbp.size hgq)
      | (go_at_call 11; go_must (refine (new_range cb _ _ HCcb.out).mono ?_); rintro e wz ⟨rfl, rfl⟩; have hbz := hbq))
  clear hop hgp hnp hoq hgq hnq hbp hbX HE HbE c0 c1 c2 c3 c4
  obtain ⟨wA3, rfl⟩ : ∃ wx : World, wx = wq := ⟨_, rfl⟩
  have hbw3 := hbw2.trans (hbz.mono hbw2.size)
  have hbx3 := hbx2.below hbz
  have ha3 := ha2.below hbz
  have hb3' := hb2'.below hbz
  have ho3 := ho2.below hbz
  obtain ⟨c0, c1, c2, c3, c4⟩ := box_cells hbx3
  have d1 : decide ((CA : Int) < 1) = false := decide_eq_false (by omega)
  have d2 : decide ((40 : Int) < (CA : Int)) = false := decide_eq_false (by omega)
  rcases (show cb < 1 ∨ ¬ cb < 1 ∧ 40 < cb by have := HCcb.out; omega) with hlt | ⟨hlt, hgt⟩
  · have d3 : decide (cb < 1) = true := decide_eq_true hlt
    go_wp2
    go_ret
    exact ⟨rfl, hbw3⟩
  · have d3 : decide (cb < 1) = false := decide_eq_false hlt
    have d4 : decide (40 < cb) = true := decide_eq_true hgt
    go_wp2
    go_ret
    exact ⟨rfl, hbw3⟩
end Go.Proofs.Ythglbipcfhdoaaa
