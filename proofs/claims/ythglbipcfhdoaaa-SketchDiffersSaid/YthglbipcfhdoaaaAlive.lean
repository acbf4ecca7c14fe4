/- gossamerlaw05: alive. -/
import Derived.Test.YthglbipcfhdoaaaSk6
import Derived.Test.YthglbipcfhdoaaaStr
import Derived.Test.YthglbipcfhdoaaaAliveM
namespace Go.Proofs.Ythglbipcfhdoaaa
open Go.RowKit

theorem nat_one : (BitVec.toNat (1#32) : Int) = 1 := rfl
set_option maxRecDepth 100000 in
set_option maxHeartbeats 2000000 in
theorem alive_any (w : World) : Calls Try.prog 9 #[] w (Gives (.bool true) w) := by
  have hbA : Below w.heap.size w (w.alloc (.cells #[.int .u32 1, .int .u32 2] 55)) := (Below.refl _ _).alloc (Nat.le_refl _) _
  have h12 : Sl (w.alloc (.cells #[.int .u32 1, .int .u32 2] 55)) (.slice (some ⟨w.heap.size, 0, none⟩) 2 2) [1#32, 2#32] := Sl.two w 1#32 2#32
  have hnew := new_ok 2 _ [1#32, 2#32] _ (by omega) (by omega) h12 (by decide)
  rw [Goss.new0] at hnew
  have hnil := fun w => run_convert_bytes_nil (P := Try.prog) w 40 5 Try.underlying40 Try.underlying5
  go_enter Try.func9, Try.ntmps9
  go_wp2_with fail
  refine hnew.mono ?_
  rintro e w1 ⟨b, g, c, rfl, hsk, hb1⟩
  have hbw1 := hbA.trans (hb1.mono hbA.size)
  have hdec := decode_any _ b g c [3#32, 9#32] w1 hsk (by decide) (by decide)
  rw [Goss.decode0] at hdec
  clear hbA hb1 h12 hnew
  go_wp2_with fail
  refine hdec.mono ?_
  rintro e w2 ⟨v2, rfl, ho2, hb2⟩
  have hbw2 := hbw1.trans (hb2.mono hbw1.size)
  have hsk2 := hsk.below hb2
  obtain ⟨p2, c2, rfl⟩ := ho2.sl.shape
  have hbA : Below w2.heap.size w2 (w2.alloc (.cells #[.int .u32 1, .int .u32 2] 55)) := (Below.refl _ _).alloc (Nat.le_refl _) _
  have hbw3 := hbw2.trans (hbA.mono hbw2.size)
  have h12 : Sl (w2.alloc (.cells #[.int .u32 1, .int .u32 2] 55)) (.slice (some ⟨w2.heap.size, 0, none⟩) 2 2) [1#32, 2#32] := Sl.two w2 1#32 2#32
  have hwd := words_any _ _ [1#32, 2#32] [1#32, 2#32] _ (ho2.sl.below hbA) h12
  rw [decide_eq_true rfl] at hwd
  have hsk3 := hsk2.below hbA
  clear hsk hsk2 hb2 hdec hbw1
  go_wp2_with fail
  refine hwd.mono ?_
  rintro e w4 ⟨rfl, q, rfl⟩
  have hsk4 := hsk3.below ((Below.refl _ _).drewN q)
  have hbw4 := hbw3.drewN q
  have hbt := skbytes_any _ b g c [3#32, 9#32] _ hsk4 (by decide)
  go_wp2_with fail
  refine hbt.mono ?_
  rintro e w5 ⟨v5, rfl, ho5, hb5⟩
  have hbw5 := hbw4.trans (hb5.mono hbw4.size)
  have hstr := ho5.slB.str
  have hcmp : ((strB (Goss.bytesP [3#32, 9#32])).toList == [3, 0, 0, 0, 9, 0, 0, 0]) = true := by
    rw [beq_iff_eq, ByteArray.toList_eq]
    decide
  go_wp2
  go_ret
  exact ⟨rfl, hbw5⟩
end Go.Proofs.Ythglbipcfhdoaaa
