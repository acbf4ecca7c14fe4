/- package massey: off, mended. -/
import Derived.Test.YthglbipcfhdoaaaPolyB
namespace Go.Proofs.Ythglbipcfhdoaaa
open Go.RowKit

set_option maxRecDepth 100000 in
set_option maxHeartbeats 1000000 in
theorem off_any (vc vs : Value) (cs ss : List Goss.F) (at' : Nat) (w : World) (hc : Sl w vc cs) (hs : Sl w vs ss) (hat : at' < ss.length) (hlc : cs.length ≤ 1000000) (hls : ss.length ≤ 1000000) :
    Calls Try.prog 98 #[vc, vs, .int .i64 at'] w (Ret (.int .u32 (Goss.offP cs ss at').toNat) w) := by
  obtain ⟨pc, cc, rfl⟩ := hc.shape
  obtain ⟨ps, cps, rfl⟩ := hs.shape
  have hccap := hc.len.2.1
  have hccm := hc.len.2.2
  have hcm : cc ≤ 9223372036854775807 := by unfold maxLen at hccm; omega
  clear hccm
  obtain ⟨Z, hZ⟩ : ∃ Z, Goss.offP cs ss at' = Z := ⟨_, rfl⟩
  rw [hZ]
  have hm0 : min (cs.length : Int) ((at' : Int) + 1) = ((min cs.length (at' + 1) : Nat) : Int) := by omega
  obtain ⟨m, hm⟩ : ∃ m, min cs.length (at' + 1) = m := ⟨_, rfl⟩
  have HZ : Hid (Goss.offTo cs ss at' m = Z) := by rw [← hm]; exact hZ
  have hm1 : m ≤ cs.length := by omega
  have hm2 : m ≤ at' + 1 := by omega
  have hmm : (cs.length : Int) ≤ (at' : Int) + 1 ∧ m = cs.length ∨ (at' : Int) + 1 < (cs.length : Int) ∧ m = at' + 1 := by omega
  clear hZ hm hm0
  have Hmm := Lib.hid hmm
  generalize hln : cs.length = n at *
  generalize hls' : ss.length = k at *
  have Hln := Lib.hid hln; have Hls := Lib.hid hls'; clear hln hls' hmm
  have key : ∀ (Q : Prop), ((n : Int) ≤ (at' : Int) + 1 → m = n → Q) → ((at' : Int) + 1 < (n : Int) → m = at' + 1 → Q) → Q := by
    intro Q h1 h2
    rcases Hmm.out with ⟨a, b⟩ | ⟨a, b⟩
    · exact h1 a b
    · exact h2 a b
  clear Hmm
  refine key _ ?_ ?_
  · skip
    intro hle hmn
    subst hmn
    clear key
    go_enter Try.func98, Try.ntmps98
    go_wp2_with fail
    go_loop [7, 18] (fun vo i => ∃ (j : Nat) (o : Goss.F), j ≤ m ∧ i = .int .i64 j ∧ vo = .int .u32 o.toNat ∧ Hid (o = Goss.offTo cs ss at' j)) (fun _ i => m - (intOf i).toNat)
    case atStart => exact ⟨0, 0#32, Nat.zero_le _, rfl, rfl, rfl⟩
    case round =>
      obtain ⟨j, o, hj, rfl, rfl, hx⟩ := hrel
      by_cases hlt : j < m
      · obtain ⟨b, ob, x, rfl, hx0, hxc⟩ := hc.read (k := j) (by omega)
        obtain ⟨b2, ob2, y, rfl, hy0, hyc⟩ := hs.read (k := at' - j) (by omega)
        have hlti : (j : Int) < m := by omega
        have hi0 : (0 : Int) ≤ (at' : Int) - j := by omega
        have hi1 : (at' : Int) - j < k := by omega
        have hi2 : ((at' : Int) - j).toNat = at' - j := by omega
        have hjn : (j : Int) < m := by omega
        obtain ⟨z, hz⟩ : ∃ z, z = o ^^^ Goss.mul x y := ⟨_, rfl⟩
        have e3 : bits .xor .u32 (o.toNat : Int) ((Goss.mul x y).toNat : Int) = (z.toNat : Int) := by rw [hz]; exact u32_xor _ _
        have Hx0 := Lib.hid hx0; have Hy0 := Lib.hid hy0; have Hz := Lib.hid hz
        clear hx0 hy0 hz
        go_wp2_with (go_at_call 79; refine (mul_any _ _ _).mono ?_; rintro e w' ⟨rfl, rfl⟩)
        go_round
        case rel =>
          refine ⟨j + 1, z, by omega, by first | rfl | go_num, rfl, ?_⟩
          show _ = _
          rw [Goss.offTo, Hx0.out, Hy0.out, Hz.out, hx.out]
          rfl
        case measure => first | omega | (simp [intOf]; done) | (simp [intOf]; omega)
      · obtain rfl : j = m := by omega
        go_wp2
        go_ret
        exact ⟨ret_u (by rw [hx.out]; exact HZ.out), rfl⟩
  · skip
    intro hle hmn
    subst hmn
    clear key
    go_enter Try.func98, Try.ntmps98
    go_wp2_with fail
    go_loop [7, 18] (fun vo i => ∃ (j : Nat) (o : Goss.F), j ≤ (at' + 1) ∧ i = .int .i64 j ∧ vo = .int .u32 o.toNat ∧ Hid (o = Goss.offTo cs ss at' j)) (fun _ i => (at' + 1) - (intOf i).toNat)
    case atStart => exact ⟨0, 0#32, Nat.zero_le _, rfl, rfl, rfl⟩
    case round =>
      obtain ⟨j, o, hj, rfl, rfl, hx⟩ := hrel
      by_cases hlt : j < (at' + 1)
      · obtain ⟨b, ob, x, rfl, hx0, hxc⟩ := hc.read (k := j) (by omega)
        obtain ⟨b2, ob2, y, rfl, hy0, hyc⟩ := hs.read (k := at' - j) (by omega)
        have hlti : (j : Int) < (at' : Int) + 1 := by omega
        have hi0 : (0 : Int) ≤ (at' : Int) - j := by omega
        have hi1 : (at' : Int) - j < k := by omega
        have hi2 : ((at' : Int) - j).toNat = at' - j := by omega
        have hjn : (j : Int) < n := by omega
        obtain ⟨z, hz⟩ : ∃ z, z = o ^^^ Goss.mul x y := ⟨_, rfl⟩
        have e3 : bits .xor .u32 (o.toNat : Int) ((Goss.mul x y).toNat : Int) = (z.toNat : Int) := by rw [hz]; exact u32_xor _ _
        have Hx0 := Lib.hid hx0; have Hy0 := Lib.hid hy0; have Hz := Lib.hid hz
        clear hx0 hy0 hz
        go_wp2_with (go_at_call 79; refine (mul_any _ _ _).mono ?_; rintro e w' ⟨rfl, rfl⟩)
        go_round
        case rel =>
          refine ⟨j + 1, z, by omega, by first | rfl | go_num, rfl, ?_⟩
          show _ = _
          rw [Goss.offTo, Hx0.out, Hy0.out, Hz.out, hx.out]
          rfl
        case measure => first | omega | (simp [intOf]; done) | (simp [intOf]; omega)
      · obtain rfl : j = at' + 1 := by omega
        go_wp2
        go_ret
        exact ⟨ret_u (by rw [hx.out]; exact HZ.out), rfl⟩
end Go.Proofs.Ythglbipcfhdoaaa
/- package massey: mended. -/
namespace Go.Proofs.Ythglbipcfhdoaaa
open Go.RowKit

/-- A recurrence under way, in memory. -/
structure StAt (w : World) (X : Nat) (vn vo : Value) (x : Goss.MSt) : Prop where
  block : w.heap[X]? = some (.cells #[vn, vo, .int .i64 (x.len : Int), .int .i64 (x.gap : Int), .int .u32 (x.was.toNat : Int)] 100 (0, 0))
  now : Sl w vn x.now
  old : Sl w vo x.old
  nowX : ∀ k, vn.ownBlock = some k → k ≠ X
  oldX : ∀ k, vo.ownBlock = some k → k ≠ X
theorem StAt.lt {w : World} {X : Nat} {vn vo : Value} {x : Goss.MSt} (h : StAt w X vn vo x) : X < w.heap.size := (Array.getElem?_eq_some_iff.1 h.block).1
theorem StAt.below {w w' : World} {X : Nat} {vn vo : Value} {x : Goss.MSt} (h : StAt w X vn vo x) (hb : Below w.heap.size w w') : StAt w' X vn vo x :=
  ⟨by rw [hb.block X h.lt]; exact h.block, h.now.below hb, h.old.below hb, h.nowX, h.oldX⟩
theorem StAt.cells {w : World} {X : Nat} {vn vo : Value} {x : Goss.MSt} (h : StAt w X vn vo x) :
    w.cell? ⟨X, 0, none⟩ = some vn ∧ w.cell? ⟨X, 1, none⟩ = some vo ∧ w.cell? ⟨X, 2, none⟩ = some (.int .i64 (x.len : Int)) ∧ w.cell? ⟨X, 3, none⟩ = some (.int .i64 (x.gap : Int)) ∧ w.cell? ⟨X, 4, none⟩ = some (.int .u32 (x.was.toNat : Int)) := by
  refine ⟨?_, ?_, ?_, ?_, ?_⟩ <;> rw [cell_of_row w X _ _ _ (0, 0) h.block] <;> rfl
theorem StAt.free {w : World} {X : Nat} {vn vo : Value} {x : Goss.MSt} (h : StAt w X vn vo x) (j : Nat) : w.frozen? ⟨X, j, none⟩ = false := frozen_of_row w X j _ _ h.block

set_option maxRecDepth 100000 in
set_option maxHeartbeats 2000000 in
theorem mended_any (X : Nat) (vn vo : Value) (x : Goss.MSt) (by' : Goss.F) (w : World) (h : StAt w X vn vo x) (hn : x.now.length ≤ 1000000) (ho : x.old.length ≤ 1000000) (hg : x.gap ≤ 1000000) :
    Calls Try.prog 99 #[.pointer (some ⟨X, 0, none⟩), .int .u32 by'.toNat] w (New (Goss.mendedP x.now x.old x.gap x.was by') w) := by
  obtain ⟨c0, c1, c2, c3, c4⟩ := h.cells
  have hnow := h.now
  have hold := h.old
  have hXlt := h.lt
  have hblk := h.block
  obtain ⟨now, old, len, gap, was⟩ := x
  simp only at hblk c0 c1 c2 c3 c4 hnow hold hn ho hg ⊢
  clear c2 hblk
  generalize hB : w.heap.size = B at *
  have HB := Lib.hid hB; clear hB
  obtain ⟨R, hR⟩ : ∃ R, Goss.mendedP now old gap was by' = R := ⟨_, rfl⟩
  rw [hR]
  obtain ⟨kk, hkk⟩ : ∃ kk, Goss.mul by' (Goss.inv was) = kk := ⟨_, rfl⟩
  have HR : Hid (Goss.putP (now ++ List.replicate (gap + old.length - now.length) 0#32) old kk gap = R) := by rw [← hkk]; exact hR
  have Hkk := Lib.hid hkk
  clear hR hkk
  obtain ⟨pn, cn, rfl⟩ := hnow.shape
  obtain ⟨po, co, rfl⟩ := hold.shape
  have hcl := fun w' (h' : Sl w' (.slice pn now.length cn) now) => clone_any _ now w' h' (by omega)
  have Hcl := Lib.hid hcl; clear hcl
  generalize hln : now.length = n at *
  generalize hlo : old.length = m at *
  have Hln := Lib.hid hln; have Hlo := Lib.hid hlo; clear hln hlo
  have Hcx1 := Lib.hid c1; have Hcx3 := Lib.hid c3
  go_enter Try.func99, Try.ntmps99
  go_wp2_with fail
  refine (inverse_any was w).mono ?_
  rintro e w ⟨rfl, rfl⟩
  go_wp2_with fail
  refine (mul_any by' (Goss.inv was) w).mono ?_
  rintro e w ⟨rfl, rfl⟩
  rw [Hkk.out]
  go_wp2_with fail
  refine (Hcl.out w hnow).mono ?_
  rintro e w1 ⟨v1, rfl, ho1, hb1⟩
  rw [HB.out] at ho1
  have hb1' : Below B w w1 := by rw [← HB.out]; exact hb1
  have k1 : w1.cell? ⟨X, 1, none⟩ = some (.slice po m co) := (hb1.cell (p := ⟨X, 1, none⟩) (by rw [HB.out]; exact hXlt)).trans c1
  have k3 : w1.cell? ⟨X, 3, none⟩ = some (.int .i64 (gap : Int)) := (hb1.cell (p := ⟨X, 3, none⟩) (by rw [HB.out]; exact hXlt)).trans c3
  have hz1 : B ≤ w1.heap.size := by rw [← HB.out]; exact hb1.size
  obtain ⟨p1, cc1, hv1⟩ : ∃ p c, v1 = .slice p n c := by
    obtain ⟨p, c, h'⟩ := ho1.sl.shape
    rw [Hln.out] at h'
    exact ⟨p, c, h'⟩
  subst hv1
  clear c0 c1 c3 c4 hb1
  have e1 : IntKind.i64.wrap ((gap : Int) + (m : Int)) = (gap : Int) + m := IntWalk.i64_in _ (by omega)
  have e2 : IntKind.i64.wrap ((gap : Int) + (m : Int) - (n : Int)) = (gap : Int) + m - n := IntWalk.i64_in _ (by omega)
  by_cases hcmp : (n : Int) < (gap : Int) + m
  · skip
    go_wp2_with fail
    go_still_tail 15, (by kernel_rfl)
    change wpList _ _ _ _ _ w1.drew
    have ho2 : Own w1.drew B (.slice p1 n cc1) now := ho1
    have hb2 : Below B w w1.drew := hb1'.drew
    have hz2 : B ≤ w1.drew.heap.size := hz1
    clear ho1 hb1' k1 k3 hz1
    generalize w1.drew = w2 at *
    clear w1
    go_wp2_with (at_builtin; go_must (refine app_zeros rfl _ _ rfl B _ now rfl ho2 _ (gap + m - n) rfl (by omega) (by have := Hln.out; omega) hz2 ?_))
    intro v3 w3 ho3 hg3
    have hbw3 := grown_below hb2 ho2 hz2 hg3
    have k1 : w3.cell? ⟨X, 1, none⟩ = some (.slice po m co) := (World.cell?_of_block (w := w) (a := ⟨X, 1, none⟩) (hbw3.block X hXlt)).trans Hcx1.out
    have hl1 : (now ++ List.replicate (gap + m - n) 0#32).length = max n (gap + m) := by have := Hln.out; simp; omega
    have HR2 : Hid (Goss.putP (now ++ List.replicate (gap + m - n) 0#32) old kk gap = R) := HR
    generalize now ++ List.replicate (gap + m - n) 0#32 = cur0 at *
    clear ho2 hb2 hz2 hg3
    rcases ho3.shape with ⟨rfl, h0⟩ | ⟨g, c, rfl, hg1, hg2, _, _⟩
    · have hm0 : m = 0 := by rw [h0] at hl1; simp at hl1; omega
      subst hm0
      have ho0 : old = [] := List.eq_nil_of_length_eq_zero Hlo.out
      have hRn : R = [] := by
        have := HR2.out
        rw [ho0, h0] at this
        exact this.symm
      have HRn := Lib.hid hRn
      clear hRn hl1 h0
      go_wp2_with fail
      go_loopw [41] (fun i wq => i = .int .i64 0 ∧ wq = w3) (fun _ _ => 0)
      case atStart => exact ⟨rfl, rfl⟩
      case round =>
        obtain ⟨rfl, rfl⟩ := hrel
        go_wp2
        go_ret
        rw [HRn.out]
        exact ⟨_, rfl, Own.nil _ _, by rw [HB.out]; exact hbw3⟩
    · obtain ⟨N, hN⟩ : ∃ N, max n (gap + m) = N := ⟨_, rfl⟩
      rw [hN] at hl1
      have hgmN : gap + m ≤ N := by omega
      have hN2 : N ≤ 3000000 := by omega
      rw [hl1] at ho3 ⊢
      have Hl1 := Lib.hid hl1; clear hl1 hN
      have hgX : X ≠ g := by omega
      have hgB : B ≤ g := hg1
      go_wp2_with fail
      go_loopw [41] (fun i wr => ∃ (j : Nat) (cur : List Goss.F), j ≤ m ∧ i = .int .i64 j ∧ Hid (Goss.putP cur (old.drop j) kk (gap + j) = R) ∧ Own wr B (.slice (some ⟨g, 0, none⟩) N c) cur ∧ Below B w wr) (fun i _ => m - (intOf i).toNat)
      case atStart => exact ⟨0, cur0, Nat.zero_le _, rfl, HR2.out, ho3, hbw3⟩
      case round =>
        clear ho3 hbw3 k1
        obtain ⟨j, cur, hj, rfl, hx, how, hbw⟩ := hrel
        by_cases hlt : j < m
        · have hs := hold.below (by rw [HB.out]; exact hbw)
          obtain ⟨b, o, x, rfl, hx0, hc⟩ := hs.read (k := j) (by omega)
          obtain ⟨y, hy0, hyc, hyf⟩ := how.read (k := gap + j) (by omega)
          have k3 : wr.cell? ⟨X, 3, none⟩ = some (.int .i64 (gap : Int)) := (World.cell?_of_block (w := w) (a := ⟨X, 3, none⟩) (hbw.block X hXlt)).trans Hcx3.out
          have hlti : (j : Int) < m := by omega
          have hup0 : (0 : Int) ≤ (gap : Int) + j := by omega
          have hupn : (gap : Int) + j < N := by omega
          have e1 : IntKind.i64.wrap ((gap : Int) + j) = (gap : Int) + j := IntWalk.i64_in _ (by omega)
          have e2 : ((gap : Int) + j).toNat = gap + j := by omega
          obtain ⟨z, hzz⟩ : ∃ z, z = y ^^^ Goss.mul x kk := ⟨_, rfl⟩
          have e3 : bits .xor .u32 (y.toNat : Int) ((Goss.mul x kk).toNat : Int) = (z.toNat : Int) := by rw [hzz]; exact u32_xor _ _
          have Hx0 := Lib.hid hx0; have Hy0 := Lib.hid hy0; have Hzz := Lib.hid hzz
          clear hx0 hy0 hzz
          go_wp2_with fail
          go_still_tail 14, (by kernel_rfl)
          still_call (Ret.still (mul_any x kk _))
          repeat still_step
          refine wpStill_nil ?_
          change wpList _ _ _ _ _ wr.drew
          have how2 : Own wr.drew B (.slice (some ⟨g, 0, none⟩) N c) cur := how
          have hbw2 := hbw.drew
          clear how hbw hs hc hyc hyf k3
          generalize wr.drew = w2 at *
          obtain ⟨y', hy0', hyc, hyf⟩ := how2.read (k := gap + j) (by omega)
          have Hy0' := Lib.hid hy0'; clear hy0'
          go_wp2
          go_roundw
          case rel =>
            refine ⟨j + 1, cur.set (gap + j) z, by omega, by first | rfl | go_num, ?_, how2.stored _ _, hbw2.setCell (by show B ≤ g; exact hgB) _⟩
            have h1 := hx.out
            have hd : old.drop j = x :: old.drop (j + 1) := by
              have hjl : j < old.length := by rw [Hlo.out]; exact hlt
              rw [List.drop_eq_getElem_cons hjl]
              congr 1
              have := Hx0.out
              rw [List.getElem?_eq_getElem hjl] at this
              exact Option.some.inj this
            rw [hd, Goss.putP, Goss.addAt, Hy0.out] at h1
            show Goss.putP _ _ _ _ = _
            rw [Hzz.out, ← Nat.add_assoc]; exact h1
          case measure => first | omega | (simp [intOf]; done) | (simp [intOf]; omega)
        · obtain rfl : j = m := by omega
          go_wp2
          go_ret
          have h1 := hx.out
          rw [List.drop_eq_nil_of_le (by rw [Hlo.out]; exact Nat.le_refl _)] at h1
          have h2 : cur = R := h1
          rw [← h2]
          exact ⟨_, rfl, by rw [HB.out]; exact how, by rw [HB.out]; exact hbw⟩
  · have hcmp' : (gap : Int) + m ≤ n := by omega
    go_wp2_with fail
    go_still_tail 15, (by kernel_rfl)
    change wpList _ _ _ _ _ w1.drew
    have ho2 : Own w1.drew B (.slice p1 n cc1) now := ho1
    have hb2 : Below B w w1.drew := hb1'.drew
    have hz2 : B ≤ w1.drew.heap.size := hz1
    clear ho1 hb1' k1 k3 hz1
    generalize w1.drew = w2 at *
    clear w1
    go_wp2_with (at_builtin; go_must (refine app_zeros rfl _ _ rfl B _ now rfl ho2 _ (gap + m - n) rfl (by omega) (by have := Hln.out; omega) hz2 ?_))
    intro v3 w3 ho3 hg3
    have hbw3 := grown_below hb2 ho2 hz2 hg3
    have k1 : w3.cell? ⟨X, 1, none⟩ = some (.slice po m co) := (World.cell?_of_block (w := w) (a := ⟨X, 1, none⟩) (hbw3.block X hXlt)).trans Hcx1.out
    have hl1 : (now ++ List.replicate (gap + m - n) 0#32).length = max n (gap + m) := by have := Hln.out; simp; omega
    have HR2 : Hid (Goss.putP (now ++ List.replicate (gap + m - n) 0#32) old kk gap = R) := HR
    generalize now ++ List.replicate (gap + m - n) 0#32 = cur0 at *
    clear ho2 hb2 hz2 hg3
    rcases ho3.shape with ⟨rfl, h0⟩ | ⟨g, c, rfl, hg1, hg2, _, _⟩
    · have hm0 : m = 0 := by rw [h0] at hl1; simp at hl1; omega
      subst hm0
      have ho0 : old = [] := List.eq_nil_of_length_eq_zero Hlo.out
      have hRn : R = [] := by
        have := HR2.out
        rw [ho0, h0] at this
        exact this.symm
      have HRn := Lib.hid hRn
      clear hRn hl1 h0
      go_wp2_with fail
      go_loopw [41] (fun i wq => i = .int .i64 0 ∧ wq = w3) (fun _ _ => 0)
      case atStart => exact ⟨rfl, rfl⟩
      case round =>
        obtain ⟨rfl, rfl⟩ := hrel
        go_wp2
        go_ret
        rw [HRn.out]
        exact ⟨_, rfl, Own.nil _ _, by rw [HB.out]; exact hbw3⟩
    · obtain ⟨N, hN⟩ : ∃ N, max n (gap + m) = N := ⟨_, rfl⟩
      rw [hN] at hl1
      have hgmN : gap + m ≤ N := by omega
      have hN2 : N ≤ 3000000 := by omega
      rw [hl1] at ho3 ⊢
      have Hl1 := Lib.hid hl1; clear hl1 hN
      have hgX : X ≠ g := by omega
      have hgB : B ≤ g := hg1
      go_wp2_with fail
      go_loopw [41] (fun i wr => ∃ (j : Nat) (cur : List Goss.F), j ≤ m ∧ i = .int .i64 j ∧ Hid (Goss.putP cur (old.drop j) kk (gap + j) = R) ∧ Own wr B (.slice (some ⟨g, 0, none⟩) N c) cur ∧ Below B w wr) (fun i _ => m - (intOf i).toNat)
      case atStart => exact ⟨0, cur0, Nat.zero_le _, rfl, HR2.out, ho3, hbw3⟩
      case round =>
        clear ho3 hbw3 k1
        obtain ⟨j, cur, hj, rfl, hx, how, hbw⟩ := hrel
        by_cases hlt : j < m
        · have hs := hold.below (by rw [HB.out]; exact hbw)
          obtain ⟨b, o, x, rfl, hx0, hc⟩ := hs.read (k := j) (by omega)
          obtain ⟨y, hy0, hyc, hyf⟩ := how.read (k := gap + j) (by omega)
          have k3 : wr.cell? ⟨X, 3, none⟩ = some (.int .i64 (gap : Int)) := (World.cell?_of_block (w := w) (a := ⟨X, 3, none⟩) (hbw.block X hXlt)).trans Hcx3.out
          have hlti : (j : Int) < m := by omega
          have hup0 : (0 : Int) ≤ (gap : Int) + j := by omega
          have hupn : (gap : Int) + j < N := by omega
          have e1 : IntKind.i64.wrap ((gap : Int) + j) = (gap : Int) + j := IntWalk.i64_in _ (by omega)
          have e2 : ((gap : Int) + j).toNat = gap + j := by omega
          obtain ⟨z, hzz⟩ : ∃ z, z = y ^^^ Goss.mul x kk := ⟨_, rfl⟩
          have e3 : bits .xor .u32 (y.toNat : Int) ((Goss.mul x kk).toNat : Int) = (z.toNat : Int) := by rw [hzz]; exact u32_xor _ _
          have Hx0 := Lib.hid hx0; have Hy0 := Lib.hid hy0; have Hzz := Lib.hid hzz
          clear hx0 hy0 hzz
          go_wp2_with fail
          go_still_tail 14, (by kernel_rfl)
          still_call (Ret.still (mul_any x kk _))
          repeat still_step
          refine wpStill_nil ?_
          change wpList _ _ _ _ _ wr.drew
          have how2 : Own wr.drew B (.slice (some ⟨g, 0, none⟩) N c) cur := how
          have hbw2 := hbw.drew
          clear how hbw hs hc hyc hyf k3
          generalize wr.drew = w2 at *
          obtain ⟨y', hy0', hyc, hyf⟩ := how2.read (k := gap + j) (by omega)
          have Hy0' := Lib.hid hy0'; clear hy0'
          go_wp2
          go_roundw
          case rel =>
            refine ⟨j + 1, cur.set (gap + j) z, by omega, by first | rfl | go_num, ?_, how2.stored _ _, hbw2.setCell (by show B ≤ g; exact hgB) _⟩
            have h1 := hx.out
            have hd : old.drop j = x :: old.drop (j + 1) := by
              have hjl : j < old.length := by rw [Hlo.out]; exact hlt
              rw [List.drop_eq_getElem_cons hjl]
              congr 1
              have := Hx0.out
              rw [List.getElem?_eq_getElem hjl] at this
              exact Option.some.inj this
            rw [hd, Goss.putP, Goss.addAt, Hy0.out] at h1
            show Goss.putP _ _ _ _ = _
            rw [Hzz.out, ← Nat.add_assoc]; exact h1
          case measure => first | omega | (simp [intOf]; done) | (simp [intOf]; omega)
        · obtain rfl : j = m := by omega
          go_wp2
          go_ret
          have h1 := hx.out
          rw [List.drop_eq_nil_of_le (by rw [Hlo.out]; exact Nat.le_refl _)] at h1
          have h2 : cur = R := h1
          rw [← h2]
          exact ⟨_, rfl, by rw [HB.out]; exact how, by rw [HB.out]; exact hbw⟩
end Go.Proofs.Ythglbipcfhdoaaa
/- package massey: take, run, Shortest. -/
namespace Go.Proofs.Ythglbipcfhdoaaa
open Go.RowKit

theorem Sl.storeX {w : World} {v : Value} {xs : List Goss.F} (h : Sl w v xs) {X j : Nat} (u : Value) (hX : ∀ k, v.ownBlock = some k → k ≠ X) : Sl (w.setCell ⟨X, j, none⟩ u) v xs :=
  h.store u fun b o n c e => by subst e; exact hX b rfl
theorem blk_set {w : World} {X : Nat} {cs : Array Value} {T : TypeId} (h : w.heap[X]? = some (.cells cs T (0, 0))) (j : Nat) (u : Value) : (w.setCell ⟨X, j, none⟩ u).heap[X]? = some (.cells (cs.setIfInBounds j u) T (0, 0)) :=
  heap_setCell_same w X j cs T u h
theorem eq_zero_test (x : Goss.F) : ((x.toNat : Int) == 0) = decide (x = 0#32) := zero_test x

/-- Behind take: the state; only its own block has turned of what was there. -/
def TakeEnd (X : Nat) (x : Goss.MSt) (w : World) (e : Ending) (w' : World) : Prop :=
  ∃ vn vo, e = .returned (.tuple #[]) ∧ StAt w' X vn vo x ∧ w.grownBy w' (some X)

theorem grown_of_below {w w' : World} (h : Below w.heap.size w w') (row : Option Nat) : w.grownBy w' row := ⟨h.os, h.tape, h.output, h.size, fun k hk _ => h.block k hk⟩

set_option maxRecDepth 100000 in
set_option maxHeartbeats 4000000 in
theorem take_any (X : Nat) (vn vo vs : Value) (x : Goss.MSt) (ss : List Goss.F) (at' : Nat) (w : World) (h : StAt w X vn vo x) (hs : Sl w vs ss) (hsX : ∀ k, vs.ownBlock = some k → k ≠ X) (hat : at' < ss.length) (hls : ss.length ≤ 1000000)
    (hn : x.now.length ≤ 999999) (ho : x.old.length ≤ 999999) (hg : x.gap ≤ 999999) (hl : x.len ≤ at') :
    Calls Try.prog 78 #[.pointer (some ⟨X, 0, none⟩), vs, .int .i64 at'] w (TakeEnd X (Goss.takeP x ss at') w) := by
  obtain ⟨c0, c1, c2, c3, c4⟩ := h.cells
  have f3 := h.free 3
  obtain ⟨now, old, len, gap, was⟩ := x
  have hblk := h.block
  have hnow := h.now; have hold := h.old; have hnX := h.nowX; have hoX := h.oldX
  simp only at c0 c1 c2 c3 c4 hblk hnow hold hn ho hg hl
  have hat2 : at' ≤ 1000000 := by omega
  obtain ⟨pn, cn, rfl⟩ := hnow.shape
  -- behind the first store
  have hst1 : StAt (w.setCell ⟨X, 3, none⟩ (.int .i64 ((gap + 1 : Nat) : Int))) X (.slice pn now.length cn) vo ⟨now, old, len, gap + 1, was⟩ :=
    ⟨blk_set hblk 3 _, hnow.storeX _ hnX, hold.storeX _ hoX, hnX, hoX⟩
  have hs1 := hs.storeX (j := 3) (.int .i64 ((gap + 1 : Nat) : Int)) hsX
  have hgr1 := grown_store w X 3 (.int .i64 ((gap + 1 : Nat) : Int))
  clear h hblk hnow hold
  have hoff := off_any _ vs now ss at' _ hst1.now hs1 hat (by omega) hls
  obtain ⟨d, hd⟩ : ∃ d, Goss.offP now ss at' = d := ⟨_, rfl⟩
  rw [hd] at hoff
  have Hd := Lib.hid hd; clear hd
  obtain ⟨Z, hZ⟩ : ∃ Z, Goss.takeP ⟨now, old, len, gap, was⟩ ss at' = Z := ⟨_, rfl⟩
  rw [hZ]
  have HZ := Lib.hid hZ; clear hZ
  have hz := zero_test d
  by_cases hd0 : d = 0#32
  · rw [decide_eq_true hd0] at hz
    have hZ2 : Z = ⟨now, old, len, gap + 1, was⟩ := by
      rw [← HZ.out]
      unfold Goss.takeP
      simp only
      rw [Hd.out, if_pos hd0]
    have HZ2 := Lib.hid hZ2
    have Hd0 := Lib.hid hd0
    clear hZ2 hd0
    go_enter Try.func78, Try.ntmps78
    go_wp2_with fail
    refine hoff.mono ?_
    rintro e w1 ⟨rfl, rfl⟩
    go_wp2
    go_end0
    rw [HZ2.out]
    exact ⟨_, vo, rfl, hst1, hgr1⟩
  · rw [decide_eq_false hd0] at hz
    have hmend := mended_any X _ vo _ d _ hst1 (by simp only; omega) (by simp only; omega) (by simp only; omega)
    simp only at hmend
    obtain ⟨nx, hnx⟩ : ∃ nx, Goss.mendedP now old (gap + 1) was d = nx := ⟨_, rfl⟩
    rw [hnx] at hmend
    have Hnx := Lib.hid hnx; clear hnx
    have Hd0 := Lib.hid hd0; clear hd0
    have hlen2 : IntKind.i64.wrap (2 * (len : Int)) = 2 * (len : Int) := IntWalk.i64_in _ (by omega)
    by_cases hle : 2 * len ≤ at'
    · have hZ2 : Z = ⟨nx, now, at' + 1 - len, 0, d⟩ := by
        rw [← HZ.out]
        unfold Goss.takeP
        simp only
        rw [Hd.out, Hnx.out, if_neg Hd0.out, if_pos hle]
      have HZ2 := Lib.hid hZ2; clear hZ2
      have hdec : decide (2 * (len : Int) ≤ (at' : Int)) = true := decide_eq_true (by omega)
      go_enter Try.func78, Try.ntmps78
      go_wp2_with fail
      refine hoff.mono ?_
      rintro e w1 ⟨rfl, rfl⟩
      go_wp2_with fail
      refine hmend.mono ?_
      rintro e w2 ⟨v2, rfl, ho2, hb2⟩
      have hst2 := hst1.below hb2
      have hgr2 := hgr1.trans' (grown_of_below hb2 (some X))
      have hv2X : ∀ k, v2.ownBlock = some k → k ≠ X := by
        intro k hk e
        subst e
        have h1 := (World.ownsRow.lt ho2 _ hk).1
        have h2 := hst1.lt
        omega
      have hs2 := ho2.sl
      obtain ⟨p2, c2', rfl⟩ := hs2.shape
      obtain ⟨d0, d1, d2, d3, d4⟩ := hst2.cells
      have g0 := hst2.free 0; have g1 := hst2.free 1; have g2 := hst2.free 2; have g3 := hst2.free 3; have g4 := hst2.free 4
      simp only at d0 d1 d2 d3 d4
      clear hb2 hst1 hs1 hgr1 hoff hmend ho2 c0 c1 c2 c3 c4 f3 hs
      go_wp2
      go_end0
      rw [HZ2.out]
      have hcast : (((at' + 1 - len : Nat) : Nat) : Int) = (at' : Int) + 1 - len := by omega
      refine ⟨_, _, rfl, ⟨?_, ?_, ?_, hv2X, hnX⟩, ?_⟩
      · have hb := blk_set (blk_set (blk_set (blk_set (blk_set hst2.block 1 (.slice pn now.length cn)) 4 (.int .u32 (d.toNat : Int))) 3 (.int .i64 0)) 2 (.int .i64 ((at' : Int) + 1 - len))) 0 (.slice p2 nx.length c2')
        simp only [hcast]
        exact hb
      · exact ((((hs2.storeX _ hv2X).storeX _ hv2X).storeX _ hv2X).storeX _ hv2X).storeX _ hv2X
      · exact ((((hst2.now.storeX _ hnX).storeX _ hnX).storeX _ hnX).storeX _ hnX).storeX _ hnX
      · exact ((((hgr2.trans' (grown_store _ X _ _)).trans' (grown_store _ X _ _)).trans' (grown_store _ X _ _)).trans' (grown_store _ X _ _)).trans' (grown_store _ X _ _)
    · have hZ2 : Z = ⟨nx, old, len, gap + 1, was⟩ := by
        rw [← HZ.out]
        unfold Goss.takeP
        simp only
        rw [Hd.out, Hnx.out, if_neg Hd0.out, if_neg hle]
      have HZ2 := Lib.hid hZ2; clear hZ2
      have hdec : decide (2 * (len : Int) ≤ (at' : Int)) = false := decide_eq_false (by omega)
      go_enter Try.func78, Try.ntmps78
      go_wp2_with fail
      refine hoff.mono ?_
      rintro e w1 ⟨rfl, rfl⟩
      go_wp2_with fail
      refine hmend.mono ?_
      rintro e w2 ⟨v2, rfl, ho2, hb2⟩
      have hst2 := hst1.below hb2
      have hgr2 := hgr1.trans' (grown_of_below hb2 (some X))
      have hv2X : ∀ k, v2.ownBlock = some k → k ≠ X := by
        intro k hk e
        subst e
        have h1 := (World.ownsRow.lt ho2 _ hk).1
        have h2 := hst1.lt
        omega
      have hs2 := ho2.sl
      obtain ⟨p2, c2', rfl⟩ := hs2.shape
      obtain ⟨d0, d1, d2, d3, d4⟩ := hst2.cells
      have g0 := hst2.free 0
      simp only at d0 d1 d2 d3 d4
      clear hb2 hst1 hs1 hgr1 hoff hmend ho2 c0 c1 c2 c3 c4 f3 hs
      go_wp2
      go_end0
      rw [HZ2.out]
      refine ⟨_, _, rfl, ⟨?_, hs2.storeX _ hv2X, hst2.old.storeX _ hoX, hv2X, hoX⟩, hgr2.trans' (grown_store _ X _ _)⟩
      exact blk_set hst2.block 0 (.slice p2 nx.length c2')
end Go.Proofs.Ythglbipcfhdoaaa
