/- package sketch: With. -/
import Derived.Test.YthglbipcfhdoaaaSumK
namespace Go.Proofs.Ythglbipcfhdoaaa
open Go.RowKit
attribute [local go_sem ↓] Go.wp_at_zero Go.wp_at_succ

set_option maxRecDepth 100000 in
theorem with_nil1 (v : Value) (w : World) :
    Calls Try.prog 12 #[.pointer none, v] w (Ret (.tuple #[.pointer none, errv 1]) w) := by
  go_enter Try.func12, Try.ntmps12
  go_wp2
  go_ret2
  exact ⟨rfl, rfl⟩
set_option maxRecDepth 100000 in
theorem with_nil2 (b : Nat) (w : World) :
    Calls Try.prog 12 #[.pointer (some ⟨b, 0, none⟩), .pointer none] w (Ret (.tuple #[.pointer none, errv 1]) w) := by
  go_enter Try.func12, Try.ntmps12
  go_wp2
  go_ret2
  exact ⟨rfl, rfl⟩
/-- Two sketches' sums, put together. -/
def WithTo (s t cur : List Goss.F) (N j : Nat) : Prop := cur = (List.zipWith (· ^^^ ·) s t).take j ++ List.replicate (N - j) 0#32
theorem WithTo.step {s t cur : List Goss.F} {N j : Nat} {x y : Goss.F} (h : WithTo s t cur N j) (hN : N = min s.length t.length) (hj : j < N) (hx : s[j]? = some x) (hy : t[j]? = some y) : WithTo s t (cur.set j (x ^^^ y)) N (j + 1) := by
  unfold WithTo at h ⊢
  subst h
  have hl : ((List.zipWith (· ^^^ ·) s t).take j).length = j := by rw [List.length_take, List.length_zipWith]; omega
  have hz : (List.zipWith (· ^^^ ·) s t)[j]? = some (x ^^^ y) := by rw [List.getElem?_zipWith, hx, hy]
  obtain ⟨hjl, hz⟩ := List.getElem?_eq_some_iff.1 hz
  rw [List.set_append_right _ _ (by omega), hl, Nat.sub_self, show N - j = (N - (j + 1)) + 1 from by omega, List.replicate_succ, List.set_cons_zero, List.take_succ_eq_append_getElem hjl, hz]
  simp
set_option maxRecDepth 100000 in
set_option maxHeartbeats 4000000 in
theorem with_any (B1 b g c B2 b2 g2 c2 : Nat) (s t : List Goss.F) (w : World) (h : Sk w B1 b g c s) (h2 : Sk w B2 b2 g2 c2 t) (hs : s.length ≤ 1000) (ht : t.length ≤ 1000) :
    Calls Try.prog 12 #[.pointer (some ⟨b, 0, none⟩), .pointer (some ⟨b2, 0, none⟩)] w (NewEnd (List.zipWith (· ^^^ ·) s t) w) := by
  have hp1 := h.ptr
  have hp2 := h2.ptr
  have hb0 := h.lt
  have hb02 := h2.lt
  have hg0 := h.own.lt.2
  have hg02 := h2.own.lt.2
  generalize hB : w.heap.size = B at *
  have HB := Lib.hid hB; clear hB
  have hBw : B ≤ w.heap.size := by rw [HB.out]; exact Nat.le_refl _
  obtain ⟨m, hm⟩ : ∃ m, s.length = m := ⟨_, rfl⟩
  obtain ⟨k, hk⟩ : ∃ k, t.length = k := ⟨_, rfl⟩
  obtain ⟨N, hN⟩ : ∃ N, min m k = N := ⟨_, rfl⟩
  have HRl : Hid ((List.zipWith (· ^^^ ·) s t).length = N) := by show _ = _; rw [List.length_zipWith, hm, hk, hN]
  obtain ⟨R, hR⟩ : ∃ R, List.zipWith (· ^^^ ·) s t = R := ⟨_, rfl⟩
  rw [hR] at HRl ⊢
  have HR := Lib.hid hR; clear hR
  rw [hm] at hp1 hs
  rw [hk] at hp2 ht
  have HN : Hid (N = min s.length t.length) := by show _ = _; rw [hm, hk, hN]
  have Hm := Lib.hid hm; have Hk := Lib.hid hk; clear hm hk
  have hmk := mk_run N (by omega)
  have hNm : N ≤ m := by omega
  have hNk : N ≤ k := by omega
  have hm0 : (if k < m then (k : Int) else (m : Int)) = (N : Int) := by split <;> omega
  have hown0 := Own.made w B (List.replicate N 0#32) hBw (by unfold maxLen; rw [List.length_replicate]; omega)
  rw [List.length_replicate, HB.out] at hown0
  obtain ⟨Z, hZ⟩ : ∃ Z, ((List.replicate N 0#32).map enc).toArray = Z := ⟨_, rfl⟩
  rw [hZ] at hmk hown0
  clear hZ
  have hbA := (Below.refl B w).alloc (o := .cells Z 55) hBw
  go_enter Try.func12, Try.ntmps12
  go_wp2_with fail
  go_region_held_law (fun w' => w'.cell? ⟨b, 0, none⟩ = some (.slice (some ⟨g, 0, none⟩) m c) ∧ w'.cell? ⟨b2, 0, none⟩ = some (.slice (some ⟨g2, 0, none⟩) k c2)) (go_keep) (fail)
  have ho1 : Own (w.alloc (.cells Z 55)).drew B (.slice (some ⟨B, 0, none⟩) N N) (List.replicate N 0#32) := hown0
  have hb1 : Below B w (w.alloc (.cells Z 55)).drew := ((Below.refl B w).alloc hBw _).drew
  have hX : w.heap.size = B := HB.out
  rw [hX]
  generalize (w.alloc (.cells Z 55)).drew = w1 at *
  clear hm0 hN hmk hown0 hbA hX
  go_wp2_with fail
  go_loopw [29] (fun vi wr => ∃ (j : Nat) (cur : List Goss.F), j ≤ N ∧ vi = .int .i64 j ∧ Hid (WithTo s t cur N j) ∧ Own wr B (.slice (some ⟨B, 0, none⟩) N N) cur ∧ Below B w wr) (fun vi _ => N - (intOf vi).toNat)
  case atStart => exact ⟨0, _, by omega, rfl, (by show WithTo _ _ _ _ _; unfold WithTo; simp), ho1, hb1⟩
  case round =>
    clear ho1 hb1
    obtain ⟨j, cur, hj, rfl, hx, how, hbw⟩ := hrel
    have hb0w : Below w.heap.size w wr := by rw [HB.out]; exact hbw
    have hk1 := h.below hb0w
    have hk2 := h2.below hb0w
    clear hb0w
    have hp1' := hk1.ptr
    have hp2' := hk2.ptr
    have hw1' := hk1.own
    have hw2' := hk2.own
    rw [Hm.out] at hp1' hw1'
    rw [Hk.out] at hp2' hw2'
    by_cases hlt : j < N
    · have hlti : (j : Int) < N := by omega
      have hltm : (j : Int) < m := by omega
      have hltk : (j : Int) < k := by omega
      obtain ⟨x, hx0, hxc, hxf⟩ := hw1'.read (k := j) (by omega)
      obtain ⟨y, hy0, hyc, hyf⟩ := hw2'.read (k := j) (by omega)
      have hx1 := hx.out.step HN.out hlt hx0 hy0
      have hxe : bits .xor .u32 (x.toNat : Int) (y.toNat : Int) = ((x ^^^ y).toNat : Int) := u32_xor _ _
      generalize x ^^^ y = z at *
      have Hx1 := Lib.hid hx1; clear hx1 hx0 hy0 hx
      clear hk1 hk2 hw1' hw2' h h2
      go_wp2_with fail
      go_still_tail 18, (by kernel_rfl)
      repeat still_step
      change wpList _ _ _ _ _ wr.drew
      have how2 : Own wr.drew B (.slice (some ⟨B, 0, none⟩) N N) cur := how
      have hbw2 : Below B w wr.drew := hbw.drew
      clear how hbw hxc hyc hxf hyf hp1' hp2'
      generalize wr.drew = w2 at *
      obtain ⟨y', hy0', hyc, hyf⟩ := how2.read (k := j) hlt
      have Hy0' := Lib.hid hy0'; clear hy0'
      have how3 := how2.stored j z
      have hbw3 := hbw2.setCell (p := ⟨B, j, none⟩) (Nat.le_refl _) (.int .u32 z.toNat)
      go_wp2
      go_roundw
      case rel => exact ⟨j + 1, _, by omega, by first | rfl | go_num, Hx1, how3, hbw3⟩
      case measure => first | omega | (simp [intOf]; done) | (simp [intOf]; omega)
    · obtain rfl : j = N := by omega
      have e1 : cur = R := by
        have := hx.out
        unfold WithTo at this
        rw [Nat.sub_self, List.replicate_zero, List.append_nil, HR.out, ← HRl.out, List.take_length] at this
        exact this
      have hz := hbw.size
      rw [HB.out] at hz
      have hsk := Sk.fresh (w := wr) (B := B) (g := B) (c := j) (s := cur) (by rw [e1, HRl.out]; rw [← e1]; exact how) (by omega)
      have hba := hbw.alloc (o := .cells #[.slice (some ⟨B, 0, none⟩) cur.length j] 73) (by omega)
      rw [e1, HRl.out] at hba
      rw [e1, HRl.out] at hsk
      have Hsk := Lib.hid hsk; clear hsk e1
      clear h h2 hk1 hk2 hw1' hw2' hp1' hp2' hp1 hp2
      go_wp2
      go_ret2
      exact ⟨_, _, _, rfl, by rw [HB.out]; exact Hsk.out, by rw [HB.out]; exact hba⟩
end Go.Proofs.Ythglbipcfhdoaaa
