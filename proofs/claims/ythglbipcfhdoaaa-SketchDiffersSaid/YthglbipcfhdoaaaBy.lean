/- Package gf: the table of an element (By), and its product. -/
import Derived.Test.YthglbipcfhdoaaaGf
import Derived.Test.YthglbipcfhdoaaaSl
namespace Go.Proofs.Ythglbipcfhdoaaa
open Go.RowKit

def TabAt (a : Goss.F) (B m : Nat) (w : World) : Prop :=
  ∃ cur, w.heap[B]? = some (.cells cur 131 (0, 0)) ∧ cur.size = 1024 ∧ ∀ j, j < m → cur[j]? = some (.int .u32 (Goss.byTab a (j / 256) (j % 256)).toNat)

theorem zero131 : Try.zeroCells131.size = 1024 := by kernel_rfl

theorem TabAt.step {a : Goss.F} {B k j : Nat} {w : World} (h : TabAt a B (k * 256 + j) w) (hk : k < 4) (hj : j < 256) :
    TabAt a B (k * 256 + (j + 1)) (w.setCell ⟨B, k * 256 + j, none⟩ (.int .u32 (Goss.byTab a k j).toNat)) := by
  obtain ⟨cur, h1, h2, h3⟩ := h
  refine ⟨cur.setIfInBounds (k * 256 + j) (.int .u32 (Goss.byTab a k j).toNat), heap_setCell_same w B _ cur _ _ h1, by simpa using h2, ?_⟩
  intro i hi
  rw [Array.getElem?_setIfInBounds]
  by_cases e : k * 256 + j = i
  · rw [if_pos e, if_pos (by omega), ← e, show (k * 256 + j) / 256 = k from by omega, show (k * 256 + j) % 256 = j from by omega]
  · rw [if_neg e]; exact h3 i (by omega)

theorem TabAt.old {a : Goss.F} {B m j : Nat} {w : World} (h : TabAt a B m w) (hj : j < 1024) : (∃ v, w.cell? ⟨B, j, none⟩ = some v) ∧ w.frozen? ⟨B, j, none⟩ = false := by
  obtain ⟨cur, h1, h2, _⟩ := h
  refine ⟨⟨cur[j]'(by omega), ?_⟩, frozen_of_row w B j cur _ h1⟩
  rw [cell_of_row w B j cur _ (0, 0) h1]
  exact Array.getElem?_eq_getElem (by omega)

theorem Ret.still {P : Program} {f : FuncId} {args : Array Value} {w : World} {v : Value} (h : Calls P f args w (Ret v w)) : Calls P f args w fun e w'' => e = .returned v ∧ w'' = w :=
  h.mono fun _ _ ⟨h1, h2⟩ => ⟨h1, h2.symm⟩
set_option maxRecDepth 100000 in
set_option maxHeartbeats 400000 in
theorem by_any (a : Goss.F) (w : World) :
    Calls Try.prog 72 #[.int .u32 a.toNat] w (fun e w' => e = .returned (.pointer (some ⟨w.heap.size, 0, none⟩)) ∧ TabAt a w.heap.size 1024 w' ∧ Below w.heap.size w w') := by
  go_enter Try.func72, Try.ntmps72
  go_wp2_with fail
  go_loopw [8] (fun i wr => ∃ k : Nat, k ≤ 4 ∧ i = .int .i64 k ∧ TabAt a w.heap.size (k * 256) wr ∧ Below w.heap.size w wr) (fun i _ => 4 - (intOf i).toNat)
  case atStart =>
    exact ⟨0, by omega, rfl, ⟨_, heap_alloc_new w _, zero131, fun j hj => absurd hj (by omega)⟩, (Below.refl _ _).alloc (Nat.le_refl _) _⟩
  case round =>
    obtain ⟨k, hk, rfl, ht, hb⟩ := hrel
    by_cases hlt : k < 4
    · have hd4 : decide ((k : Int) < 4) = true := by simp; omega
      go_wp2_with fail
      obtain ⟨wo, rfl⟩ : ∃ wo : World, wo = wr := ⟨_, rfl⟩
      go_loopw [11] (fun i wq => ∃ j : Nat, j ≤ 256 ∧ i = .int .i64 j ∧ TabAt a w.heap.size (k * 256 + j) wq ∧ Below w.heap.size w wq) (fun i _ => 256 - (intOf i).toNat)
      case atStart => exact ⟨0, by omega, rfl, ht, hb⟩
      case round =>
        obtain ⟨j, hj, rfl, ht, hb⟩ := hrel
        by_cases hlj : j < 256
        · obtain ⟨⟨v, hv⟩, hf⟩ := ht.old (j := k * 256 + j) (by omega)
          go_wp2_with fail
          obtain ⟨y, hy⟩ : ∃ y : Goss.F, y = BitVec.ofNat 32 j <<< (8 * k) := ⟨_, rfl⟩
          have e2 : IntKind.i64.wrap (8 * (k : Int)) = 8 * (k : Int) := IntWalk.i64_in _ (by omega)
          have e1 : IntKind.u32.wrap (j : Int) = (j : Int) := IntWalk.u32_in _ (by omega)
          have e4 : IntKind.u32.wrap ((j : Int) * 2 ^ (8 * (k : Int)).toNat) = (y.toNat : Int) := by
            rw [hy, IntKind.wrap_u32, show (8 * (k : Int)).toNat = 8 * k from by omega, ← u32_shl, BitVec.toNat_ofNat, Nat.mod_eq_of_lt (by omega)]
          have Hy := Lib.hid hy; clear hy
          have hk4 : (k : Int) < 4 := by omega
          have hk0 : (0 : Int) ≤ k := by omega
          have e5 : min (8 * (k : Int)).toNat IntKind.u32.bits = (8 * (k : Int)).toNat := by simp [IntKind.bits]; omega
          go_still_tail 14, (by kernel_rfl)
          refine wpStill_step (fun K hK => ?_)
          go_simp
          refine ⟨_, (by with_reducible exact Ret.still (mul_any a y _)), hK _ ?_⟩
          clear hK K
          repeat still_step
          refine wpStill_nil ?_
          change wpList _ _ _ _ _ wr.drew
          have ht2 : TabAt a w.heap.size (k * 256 + j) wr.drew := ht
          have hb2 := hb.drew
          clear ht hb hv hf
          generalize wr.drew = w2 at *
          obtain ⟨⟨v, hv⟩, hf⟩ := ht2.old (j := k * 256 + j) (by omega)
          go_wp2
          go_roundw
          case rel =>
            refine ⟨j + 1, by omega, by first | rfl | go_num, ?_, hb2.setCell (by simp) _⟩
            have := ht2.step hlt hlj
            rw [show Goss.byTab a k j = Goss.mul a y from by rw [Hy.out]; rfl] at this
            exact this
          case measure => first | omega | (simp [intOf]; done) | (simp [intOf]; omega)
        · go_wp2
          go_roundw
          case rel =>
            obtain rfl : j = 256 := by omega
            exact ⟨k + 1, by omega, by first | rfl | go_num, by rw [show (k + 1) * 256 = k * 256 + 256 from by omega]; exact ht, hb⟩
          case measure => first | omega | (simp [intOf]; done) | (simp [intOf]; omega)
    · go_wp2
      go_ret
      obtain rfl : k = 4 := by omega
      exact ⟨rfl, ht, hb⟩


theorem TabAt.reads {a : Goss.F} {B k c : Nat} {w : World} (h : TabAt a B 1024 w) (hk : k < 4) (hc : c < 256) : w.cell? ⟨B, k * 256 + c, none⟩ = some (.int .u32 (Goss.byTab a k c).toNat) := by
  obtain ⟨cur, h1, _, h3⟩ := h
  rw [cell_of_row w B _ cur _ (0, 0) h1, h3 _ (by omega), show (k * 256 + c) / 256 = k from by omega, show (k * 256 + c) % 256 = c from by omega]
theorem TabAt.below {a : Goss.F} {B m : Nat} {w w' : World} (h : TabAt a B m w) (hb : Below w.heap.size w w') : TabAt a B m w' := by
  obtain ⟨cur, h1, h2, h3⟩ := h
  exact ⟨cur, by rw [hb.block B (Array.getElem?_eq_some_iff.1 h1).1]; exact h1, h2, h3⟩

set_option maxRecDepth 100000 in
set_option maxHeartbeats 400000 in
theorem tmul_any (a b : Goss.F) (B : Nat) (w : World) (ht : TabAt a B 1024 w) :
    Calls Try.prog 73 #[.pointer (some ⟨B, 0, none⟩), .int .u32 b.toNat] w (Gives (.int .u32 (Goss.tabMul a b).toNat) w) := by
  go_enter Try.func73, Try.ntmps73
  go_wp2_with fail
  go_loopw [5, 9] (fun o i wr => ∃ k : Nat, k ≤ 4 ∧ i = .int .i64 k ∧ o = .int .u32 (Goss.tabPart a b k).toNat ∧ Below w.heap.size w wr) (fun _ i _ => 4 - (intOf i).toNat)
  case atStart => exact ⟨0, by omega, rfl, rfl, Below.refl _ _⟩
  case round =>
    obtain ⟨k, hk, rfl, rfl, hb⟩ := hrel
    by_cases hlt : k < 4
    · have hk4 : (k : Int) < 4 := by omega
      have hk0 : (0 : Int) ≤ k := by omega
      obtain ⟨c, hc⟩ : ∃ c : Nat, c = b.toNat / 2 ^ (8 * k) % 256 := ⟨_, rfl⟩
      have hc256 : (c : Int) < 256 := by omega
      have hc0 : (0 : Int) ≤ c := by omega
      have hcell := (ht.below hb).reads hlt (c := c) (by omega)
      have hd4 : decide ((k : Int) < 4) = true := by simp; omega
      have e2 : IntKind.i64.wrap (8 * (k : Int)) = 8 * (k : Int) := IntWalk.i64_in _ (by omega)
      obtain ⟨y, hy⟩ : ∃ y, y = Goss.tabPart a b k ^^^ Goss.byTab a k c := ⟨_, rfl⟩
      have hx : bits .xor .u32 ((Goss.tabPart a b k).toNat : Int) ((Goss.byTab a k c).toNat : Int) = (y.toNat : Int) := by rw [hy]; exact u32_xor _ _
      have hm : bits .and .u32 ((b.toNat : Int) / 2 ^ (8 * (k : Int)).toNat) 255 = (c : Int) := by rw [hc, show (8 * (k : Int)).toNat = 8 * k from by omega]; exact byte_at b (8 * k)
      have Hc := Lib.hid hc; clear hc
      have Hy := Lib.hid hy; clear hy
      go_wp2_with fail
      go_quiet (fail)
      go_wp2
      go_roundw
      case rel => exact ⟨k + 1, by omega, by first | rfl | go_num, by rw [Goss.tabPart, ← Hc.out, ← Hy.out], hb.drewN _⟩
      case measure => first | omega | (simp [intOf]; done) | (simp [intOf]; omega)
    · go_wp2_with fail
      go_ret
      obtain rfl : k = 4 := by omega
      exact ⟨rfl, hb⟩
end Go.Proofs.Ythglbipcfhdoaaa
