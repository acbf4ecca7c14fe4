/- The walk of SketchPuts: the ids put have a nought. -/
import Derived.Test.YthglbipcfhdoaaaPutH
namespace Go.Proofs.Ythglbipcfhdoaaa
open Go.RowKit
attribute [local go_sem ↓] Go.wp_at_zero Go.wp_at_succ

set_option maxRecDepth 100000 in
set_option maxHeartbeats 16000000 in
theorem puts_Z (K : Nat) (v : Value) (xs : List Goss.F) (vb : Value) (bs : List Goss.F) (w : World) (h : Sl w v xs) (hb : Sl w vb bs) (h20 : xs.length ≤ 20) (hb20 : bs.length ≤ 20) (hk1 : 1 ≤ K) (hk40 : K ≤ 40) (hza : 0#32 ∉ xs) (hzb : 0#32 ∈ bs) :
    Calls Try.prog 7 #[.int .i64 (K : Int), v, vb] w (Gives (.bool true) w) := by
  obtain ⟨p, c, rfl⟩ := h.shape
  obtain ⟨pb, cb, rfl⟩ := hb.shape
  obtain ⟨n, hn⟩ : ∃ n, xs.length = n := ⟨_, rfl⟩
  obtain ⟨m, hm⟩ : ∃ m, bs.length = m := ⟨_, rfl⟩
  rw [hn] at h h20 ⊢
  rw [hm] at hb hb20 ⊢
  have Hn := Lib.hid hn; have Hm := Lib.hid hm; clear hn hm
  have Hza := Lib.hid hza; have Hzb := Lib.hid hzb; clear hza hzb
  have hal := alive_any w
  have hd1 : decide ((20 : Int) < (n : Int)) = false := decide_eq_false (by omega)
  have hd2 : decide ((20 : Int) < (m : Int)) = false := decide_eq_false (by omega)
  have hd3 : decide ((K : Int) < 1) = false := decide_eq_false (by omega)
  have hd4 : decide ((40 : Int) < (K : Int)) = false := decide_eq_false (by omega)
  go_enter Try.func7, Try.ntmps7
  go_wp2_with fail
  refine hal.mono ?_
  rintro e w1 ⟨rfl, hb1⟩
  have h_1 := h.below hb1
  have hbb1 := hb.below hb1
  have hnn := none_any (.slice p n c) xs _ h_1
  rw [decide_eq_false Hza.out] at hnn
  clear hal
  go_wp2_with fail
  refine hnn.mono ?_
  rintro e w2 ⟨rfl, rfl⟩
  have hnew := new_ok K (.slice p n c) xs w1 hk1 hk40 h_1 Hza.out
  have hwl := Goss.newS_length K xs
  obtain ⟨S, hS⟩ : ∃ S, Goss.newS K xs = S := ⟨_, rfl⟩
  rw [hS] at hnew hwl
  have HS := Lib.hid hS; clear hS
  have HSl := Lib.hid hwl; clear hwl hnn
  go_wp2_with fail
  refine hnew.mono ?_
  rintro e w3 ⟨b, g, c3, rfl, hsk, hb3⟩
  have hbw3 := hb1.trans (hb3.mono hb1.size)
  clear hnew hd1 hd2 hd3 hd4 hb1 hb3 h_1 hbb1
  have hcp := copy_any _ b g c3 S w3 hsk (by rw [HSl.out]; exact hk1) (by rw [HSl.out]; omega)
  go_wp2_with fail
  refine hcp.mono ?_
  rintro e w4 ⟨b4, g4, c4, rfl, hsk4, hb4⟩
  have hbw4 := hbw3.trans (hb4.mono hbw3.size)
  have hsk3 := hsk.below hb4
  have hz34 := hb4.size
  have hz3 := hbw3.size
  have hg3 := hsk.own.lt
  have hg4 := hsk4.own.lt
  have hb3lt := hsk.lt
  have hb3low := hsk.low
  have hb4low := hsk4.low
  have hx4 := h.below hbw4
  have hxb4 := hb.below hbw4
  have hxblk := h.blkLt
  have hbblk := hb.blkLt
  clear hcp hsk hb4
  have hpz := put_zero b4 (.slice pb m cb) bs w4 hxb4 Hzb.out
  go_wp2_with fail
  refine hpz.mono ?_
  rintro e w5 ⟨rfl, rfl⟩
  clear hpz
  have hbw5 := hbw4
  have hskc5 := hsk4
  have hsks5 := hsk3
  have hx5 := hx4
  have hxb5 := hxb4
  have hg45 : w4.heap.size ≤ w4.heap.size := Nat.le_refl _
  clear hx4 hxb4 hsk4 hsk3
  have hlenA : ([] : List Goss.F).length + xs.length ≤ 35184372088832 := by rw [Hn.out]; simp; omega
  have hlenB : xs.length + bs.length ≤ 35184372088832 := by rw [Hn.out, Hm.out]; omega
  have HlenA := Lib.hid hlenA; have HlenB := Lib.hid hlenB; clear hlenA hlenB
  go_wp2_with (at_builtin; go_must (refine app_own rfl _ _ rfl w4.heap.size _ [] rfl (Own.empty w4 _ (Nat.le_refl _)) _ xs rfl (hx5.below ((Below.refl _ _).alloc (Nat.le_refl _) _)) HlenA.out (by simp) ?_))
  intro v6 w6 ho6 hg6 _
  try rw [List.nil_append] at ho6
  have hb6 : Below w4.heap.size w4 w6 := grown_below ((Below.refl _ _).alloc (Nat.le_refl _) _) (Own.empty w4 w4.heap.size (Nat.le_refl _)) (by simp) hg6
  have hxb6 := hxb5.below hb6
  clear hg6
  go_wp2_with (at_builtin; go_must (refine app_own rfl _ _ rfl w4.heap.size _ xs rfl ho6 _ bs rfl hxb6 HlenB.out hb6.size ?_))
  intro v7 w7 ho7 hg7 _
  have hb7 : Below w4.heap.size w4 w7 := grown_below hb6 ho6 hb6.size hg7
  have hbw7 := hbw5.trans (hb7.mono hbw5.size)
  have hskc7 := hskc5.below hb7
  have hsks7 := hsks5.below hb7
  have hx7 := hx5.below hb7
  have hxb7 := hxb5.below hb7
  have ho7low := ho7.shape
  have hnn2 := none_any (.slice pb m cb) bs _ hxb7
  clear hb6 hxb6 hg7 hbw5 hskc5 hsks5 hx5 hxb5 ho6
  rw [decide_eq_true Hzb.out] at hnn2
  go_wp2_with fail
  refine hnn2.mono ?_
  rintro e w8 ⟨rfl, rfl⟩
  clear hnn2
  go_wp2_with fail
  refine (is_err 1 1 (by decide) _).mono ?_
  rintro e w8 ⟨rfl, rfl⟩
  have hL7 := hx7
  have hLlen : Hid (xs.length ≤ 1000) := by show _ ≤ _; rw [Hn.out]; omega
  have hL0 : Hid (0#32 ∉ xs) := Hza
  have hLg : ∀ k, (Value.slice p n c).ownBlock = some k → k ≠ g4 := fun k hk => by have := hxblk k hk; omega
  have hLnew : Hid (Goss.newS K xs = S) := HS
  have hLS : Hid (S.length = K) := HSl
  obtain ⟨L, hLx⟩ : ∃ L, xs = L := ⟨_, rfl⟩
  obtain ⟨vL, hvL⟩ : ∃ vL, Value.slice p n c = vL := ⟨_, rfl⟩
  obtain ⟨T, hTS⟩ : ∃ T, S = T := ⟨_, rfl⟩
  have HTS := Lib.hid hTS
  have HLx := Lib.hid hLx
  rw [hTS] at hskc7 hLnew hLS
  rw [hLx] at hL7 hLlen hL0 hLnew
  clear hTS hLx hvL vL
  have HLg := Lib.hid hLg; clear hLg
  have hofS := fun W (hq : Sl W (.slice p n c) xs) => of_any K (.slice p n c) xs W hq (by omega) (by rw [Hn.out]; omega)
  rw [HS.out] at hofS
  have HofS := Lib.hid hofS; clear hofS
  have hofL := fun W (hq : Sl W (.slice p n c) L) => of_any K (.slice p n c) L W hq (by omega) (by have := hLlen.out; omega)
  rw [hLnew.out] at hofL
  have HofL := Lib.hid hofL; clear hofL
  have htw : Hid (L.foldl Goss.putS T = List.replicate K 0#32) := by show _ = _; rw [← hLnew.out]; exact Goss.put_twice K L
  have hSb : Hid (S.length ≤ 1000000) := by show _ ≤ _; rw [HSl.out]; omega
  have hTb : Hid (T.length ≤ 1000000) := by show _ ≤ _; rw [hLS.out]; omega
  have hngs : ∀ k, k = g4 → k ≠ g ∧ k ≠ b := fun k hk => by omega
  have Hngs := Lib.hid hngs; clear hngs
  have hz7 : w.heap.size ≤ g4 := by omega
  clear ho7low
  clear hxblk hbblk hz34 hz3 hg3 hg4 hb3lt hb3low hb4low hg45 hb7
  go_wp2_with fail
  go_cut [100] (fun s wx => s = .bool false ∧ Below w.heap.size w wx)
  case first =>
    go_region_held_law (fun _ => True) (trivial)
      (first
        | (go_at_call_of 18 (Value.pointer (some ⟨b, 0, none⟩)); go_must (refine (skbytes_any _ b g c3 S _ (hsks7.below (Below.refl _ _).drew) hSb.out).mono ?_); rintro e wa ⟨va, rfl, hoa, hba⟩; have hBa := (Below.refl w7.heap.size w7).drew.trans hba; have hstra := hoa.slB.str; have hxa := hx7.below hBa; have hLa := hL7.below hBa; have hca := hskc7.below hBa)
        | (go_at_call 24; (with_reducible refine (HofS.out _ hxa).mono ?_); rintro e wb ⟨vb', rfl, hob, hbb⟩; have hBb := hBa.trans (hbb.mono hBa.size); have hstrab := (hoa.slB.below hbb).str; have hLb := hLa.below hbb; have hcb := hca.below hbb)
        | (go_at_call 20; (with_reducible refine (refbytes_any _ S _ hob.sl hSb.out).mono ?_); rintro e wc ⟨vc, rfl, hoc, hbc⟩; have hBc := hBb.trans (hbc.mono hBb.size); have hstrac := ((hoa.slB.below hbb).below hbc).str; have hstrc := hoc.slB.str; have hLc := hLb.below hbc; have hcc := hcb.below hbc)
        | (go_at_call_of 18 (Value.pointer (some ⟨b4, 0, none⟩)); go_must (refine (skbytes_any _ b4 g4 c4 T _ hcc hTb.out).mono ?_); rintro e wd ⟨vd, rfl, hod, hbd⟩; have hBd := hBc.trans (hbd.mono hBc.size); have hstrd := hod.slB.str; have hLd := hLc.below hbd; have hcd := hcc.below hbd)
        | (go_at_call 24; (with_reducible refine (HofL.out _ hLd).mono ?_); rintro e we ⟨ve, rfl, hoe, hbe⟩; have hBe := hBd.trans (hbe.mono hBd.size); have hstrde := (hod.slB.below hbe).str; have hLe := hLd.below hbe; have hce := hcd.below hbe)
        | (go_at_call 20; (with_reducible refine (refbytes_any _ T _ hoe.sl hTb.out).mono ?_); rintro e wf ⟨vf, rfl, hof, hbf⟩; have hBf := hBe.trans (hbf.mono hBe.size); have hstrdf := ((hod.slB.below hbe).below hbf).str; have hstrf := hof.slB.str; have hLf := hLe.below hbf; have hcf := hce.below hbf)
        | (go_at_call 28; go_must (refine (put_ok _ b4 g4 c4 T _ L _ hcf hLf HLg.out hL0.out).mono ?_); rintro e wg ⟨rfl, hcg, hgg⟩; rw [htw.out] at hcg; have hBg : Below w.heap.size w wg := (hbw7.trans (hBf.mono hbw7.size)).grown hgg (Nat.le_trans hbw7.size hBf.size) (fun k hk => by cases hk; exact hz7); have heg := empty_any _ b4 g4 c4 _ wg hcg; rw [empty_zeros] at heg)
        | (go_at_call 23; go_must (refine heg.mono ?_); rintro e wh ⟨rfl, rfl⟩))
    all_goals (go_wp2_with fail; go_meet; exact ⟨rfl, hBg⟩)
  case rest =>
    obtain ⟨rfl, hbwX⟩ := hcut
    clear hsks7 hskc7 hx7 hxb7 hL7 HofS HofL HLg
    clear hbw7
    go_wp2_with (first
      | (go_at_call 15; (with_reducible refine (decode_nil _).mono ?_); rintro e wz ⟨rfl, rfl⟩)
      | (go_at_call 25; (with_reducible refine (further_nil _ _).mono ?_); rintro e wz ⟨rfl, rfl⟩)
      | (go_at_call 26; (with_reducible refine (join_nil _ _).mono ?_); rintro e wz ⟨rfl, rfl⟩)
      | (go_at_call_of 12 (Value.pointer none); (with_reducible refine (with_nil1 _ _).mono ?_); rintro e wz ⟨rfl, rfl⟩)
      | (go_at_call_of 12 (Value.pointer (some ⟨b, 0, none⟩)); (with_reducible refine (with_nil2 b _).mono ?_); rintro e wz ⟨rfl, rfl⟩)
      | (go_at_call 28; (with_reducible refine (put_nil _ _).mono ?_); rintro e wz ⟨rfl, rfl⟩)
      | (go_at_call 17; (with_reducible refine (is_err 1 1 (by decide) _).mono ?_); rintro e wz ⟨rfl, rfl⟩)
      | (go_at_call 17; (with_reducible refine (is_err 13 13 (by decide) _).mono ?_); rintro e wz ⟨rfl, rfl⟩)
      | (go_at_call 13; (with_reducible refine (capacity_nil _).mono ?_); rintro e wz ⟨rfl, rfl⟩)
      | (go_at_call 18; (with_reducible refine (skbytes_nil _).mono ?_); rintro e wz ⟨rfl, rfl⟩)
      | (go_at_call 23; (with_reducible refine (empty_nil _).mono ?_); rintro e wz ⟨rfl, rfl⟩)
      | (go_at_call 27; (with_reducible refine (copy_nil _).mono ?_); rintro e wz ⟨rfl, rfl⟩))
    go_ret
    exact ⟨rfl, hbwX.alloc hbwX.size _⟩
end Go.Proofs.Ythglbipcfhdoaaa
