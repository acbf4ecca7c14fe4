/- package massey: off, mended. -/
import Derived.Test.YthglbipcfhdoaaaPoly7
namespace Go.Proofs.Ythglbipcfhdoaaa
open Go.RowKit

set_option maxRecDepth 100000 in
set_option maxHeartbeats 1000000 in
theorem off_any (vc vs : Value) (cs ss : List Goss.F) (at' : Nat) (w : World) (hc : Sl w vc cs) (hs : Sl w vs ss) (hat : at' < ss.length) (hlc : cs.length ≤ 1000000) (hls : ss.length ≤ 1000000) :
    Calls Try.prog 98 #[vc, vs, .int .i64 at'] w (Ret (.int .u32 (Goss.offP cs ss at').toNat) w) := by
  obtain ⟨pc, cc, rfl⟩ := hc.shape
  obtain ⟨ps, cps, rfl⟩ := hs.shape
  have hccap := hc.len.2.1
  have hccm := hc.len.2.2
  have hcm : cc ≤ 9223372036854775807 := by unfold maxLen at hccm; omega
  clear hccm
  obtain ⟨Z, hZ⟩ : ∃ Z, Goss.offP cs ss at' = Z := ⟨_, rfl⟩
  rw [hZ]
  have hm0 : min (cs.length : Int) ((at' : Int) + 1) = ((min cs.length (at' + 1) : Nat) : Int) := by omega
  obtain ⟨m, hm⟩ : ∃ m, min cs.length (at' + 1) = m := ⟨_, rfl⟩
  have HZ : Hid (Goss.offTo cs ss at' m = Z) := by rw [← hm]; exact hZ
  have hm1 : m ≤ cs.length := by omega
  have hm2 : m ≤ at' + 1 := by omega
  have hmm : (cs.length : Int) ≤ (at' : Int) + 1 ∧ m = cs.length ∨ (at' : Int) + 1 < (cs.length : Int) ∧ m = at' + 1 := by omega
  clear hZ hm hm0
  have Hmm := Lib.hid hmm
  generalize hln : cs.length = n at *
  generalize hls' : ss.length = k at *
  have Hln := Lib.hid hln; have Hls := Lib.hid hls'; clear hln hls' hmm
  have key : ∀ (Q : Prop), ((n : Int) ≤ (at' : Int) + 1 → m = n → Q) → ((at' : Int) + 1 < (n : Int) → m = at' + 1 → Q) → Q := by
    intro Q h1 h2
    rcases Hmm.out with ⟨a, b⟩ | ⟨a, b⟩
    · exact h1 a b
    · exact h2 a b
  clear Hmm
  refine key _ ?_ ?_
  · skip
    intro hle hmn
    subst hmn
    clear key
    go_enter Try.func98, Try.ntmps98
    go_wp2_with fail
    go_loop [7, 18] (fun vo i => ∃ (j : Nat) (o : Goss.F), j ≤ m ∧ i = .int .i64 j ∧ vo = .int .u32 o.toNat ∧ Hid (o = Goss.offTo cs ss at' j)) (fun _ i => m - (intOf i).toNat)
    case atStart => exact ⟨0, 0#32, Nat.zero_le _, rfl, rfl, rfl⟩
    case round =>
      obtain ⟨j, o, hj, rfl, rfl, hx⟩ := hrel
      by_cases hlt : j < m
      · obtain ⟨b, ob, x, rfl, hx0, hxc⟩ := hc.read (k := j) (by omega)
        obtain ⟨b2, ob2, y, rfl, hy0, hyc⟩ := hs.read (k := at' - j) (by omega)
        have hlti : (j : Int) < m := by omega
        have hi0 : (0 : Int) ≤ (at' : Int) - j := by omega
        have hi1 : (at' : Int) - j < k := by omega
        have hi2 : ((at' : Int) - j).toNat = at' - j := by omega
        have hjn : (j : Int) < m := by omega
        obtain ⟨z, hz⟩ : ∃ z, z = o ^^^ Goss.mul x y := ⟨_, rfl⟩
        have e3 : bits .xor .u32 (o.toNat : Int) ((Goss.mul x y).toNat : Int) = (z.toNat : Int) := by rw [hz]; exact u32_xor _ _
        have Hx0 := Lib.hid hx0; have Hy0 := Lib.hid hy0; have Hz := Lib.hid hz
        clear hx0 hy0 hz
        go_wp2_with (go_at_call 79; refine (mul_any _ _ _).mono ?_; rintro e w' ⟨rfl, rfl⟩)
        go_round
        case rel =>
          refine ⟨j + 1, z, by omega, by first | rfl | go_num, rfl, ?_⟩
          show _ = _
          rw [Goss.offTo, Hx0.out, Hy0.out, Hz.out, hx.out]
          rfl
        case measure => first | omega | (simp [intOf]; done) | (simp [intOf]; omega)
      · obtain rfl : j = m := by omega
        go_wp2
        go_ret
        exact ⟨ret_u (by rw [hx.out]; exact HZ.out), rfl⟩
  · skip
    intro hle hmn
    subst hmn
    clear key
    go_enter Try.func98, Try.ntmps98
    go_wp2_with fail
    go_loop [7, 18] (fun vo i => ∃ (j : Nat) (o : Goss.F), j ≤ (at' + 1) ∧ i = .int .i64 j ∧ vo = .int .u32 o.toNat ∧ Hid (o = Goss.offTo cs ss at' j)) (fun _ i => (at' + 1) - (intOf i).toNat)
    case atStart => exact ⟨0, 0#32, Nat.zero_le _, rfl, rfl, rfl⟩
    case round =>
      obtain ⟨j, o, hj, rfl, rfl, hx⟩ := hrel
      by_cases hlt : j < (at' + 1)
      · obtain ⟨b, ob, x, rfl, hx0, hxc⟩ := hc.read (k := j) (by omega)
        obtain ⟨b2, ob2, y, rfl, hy0, hyc⟩ := hs.read (k := at' - j) (by omega)
        have hlti : (j : Int) < (at' : Int) + 1 := by omega
        have hi0 : (0 : Int) ≤ (at' : Int) - j := by omega
        have hi1 : (at' : Int) - j < k := by omega
        have hi2 : ((at' : Int) - j).toNat = at' - j := by omega
        have hjn : (j : Int) < n := by omega
        obtain ⟨z, hz⟩ : ∃ z, z = o ^^^ Goss.mul x y := ⟨_, rfl⟩
        have e3 : bits .xor .u32 (o.toNat : Int) ((Goss.mul x y).toNat : Int) = (z.toNat : Int) := by rw [hz]; exact u32_xor _ _
        have Hx0 := Lib.hid hx0; have Hy0 := Lib.hid hy0; have Hz := Lib.hid hz
        clear hx0 hy0 hz
        go_wp2_with (go_at_call 79; refine (mul_any _ _ _).mono ?_; rintro e w' ⟨rfl, rfl⟩)
        go_round
        case rel =>
          refine ⟨j + 1, z, by omega, by first | rfl | go_num, rfl, ?_⟩
          show _ = _
          rw [Goss.offTo, Hx0.out, Hy0.out, Hz.out, hx.out]
          rfl
        case measure => first | omega | (simp [intOf]; done) | (simp [intOf]; omega)
      · obtain rfl : j = at' + 1 := by omega
        go_wp2
        go_ret
        exact ⟨ret_u (by rw [hx.out]; exact HZ.out), rfl⟩
end Go.Proofs.Ythglbipcfhdoaaa
