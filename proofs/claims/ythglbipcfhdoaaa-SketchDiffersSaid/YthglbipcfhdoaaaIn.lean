/- How slices of words and of bytes that come in read as lists. -/
import Derived.Test.YthglbipcfhdoaaaStr
import Derived.WideShapes
namespace Go.Proofs.Ythglbipcfhdoaaa
open Go.RowKit

/-- A slice of numbers that came in: nil, or a row of cells in a block that lies. -/
def IsRow (k : IntKind) (w : World) (a : Option Addr) (len cap : Nat) (zs : List Int) : Prop :=
  (a = none ∧ len = 0 ∧ cap = 0 ∧ zs = []) ∨
  ∃ x, a = some x ∧ len ≤ cap ∧ cap ≤ maxLen ∧ zs.length = cap ∧ (∀ i, i < zs.length → w.cell? (x.add i) = some (.int k (zs.getD i 0))) ∧ (∀ n ∈ zs, (Lit.int k n).wf = true) ∧ x.spot = none ∧ x.block < w.heap.size
theorem slot_of_ok {P : Program} {w : World} {r : Reach} {base : Nat} {t e : TypeId} {x : Addr} {len cap : Nat} (ht : P.underlying t = some (.slice e)) (h : Value.okWide P w r base t (.slice (some x) len cap)) : x.spot = none ∧ x.block < w.heap.size := by
  simp only [Value.okWide, ht, Cell.okWide, Cell.ok] at h
  obtain ⟨_, _, _, h1, row, cells, h2, _⟩ := h
  refine ⟨h1, ?_⟩
  unfold World.shape? at h2
  split at h2
  · rename_i hb; exact (Array.getElem?_eq_some_iff.1 hb).1
  · cases h2
theorem IsRow.sl {w : World} {a : Option Addr} {len cap : Nat} {zs : List Int} (h : IsRow .u32 w a len cap zs) : ∃ xs, Sl w (.slice a len cap) xs := by
  rcases h with ⟨rfl, rfl, rfl, _⟩ | ⟨⟨b, o, s⟩, rfl, hl, hm, hz, hc, hw, hs, hb⟩
  · exact ⟨[], Sl.nil w⟩
  · cases hs
    refine ⟨(zs.take len).map fun z => BitVec.ofNat 32 z.toNat, _, _, _, rfl, by simp; omega, hl, hm, .inr ⟨b, o, rfl, hb, ?_⟩⟩
    intro i x hi
    rw [List.getElem?_map, List.getElem?_take] at hi
    split at hi
    · rename_i hlt
      have hiz : i < zs.length := by omega
      rw [List.getElem?_eq_getElem hiz] at hi
      simp only [Option.map_some, Option.some.injEq] at hi
      have h1 := hc i hiz
      rw [addr_add] at h1
      rw [h1, ← hi]
      have h2 := hw _ (List.getElem_mem hiz)
      have h3 : (zs.getD i 0) = zs[i] := by simp [List.getD, List.getElem?_eq_getElem hiz]
      rw [h3]
      simp [Lit.wf, IntKind.min, IntKind.max, IntKind.bits, IntKind.signed] at h2
      show some (Value.int .u32 _) = some (Value.int .u32 _)
      rw [BitVec.toNat_ofNat]
      congr 2
      omega
    · cases hi
theorem IsRow.slB {w : World} {a : Option Addr} {len cap : Nat} {zs : List Int} (h : IsRow .u8 w a len cap zs) : ∃ xs, SlB w (.slice a len cap) xs := by
  rcases h with ⟨rfl, rfl, rfl, _⟩ | ⟨⟨b, o, s⟩, rfl, hl, hm, hz, hc, hw, hs, hb⟩
  · exact ⟨[], none, 0, 0, rfl, rfl, Nat.le_refl _, Nat.zero_le _, .inl ⟨rfl, rfl, rfl⟩⟩
  · cases hs
    refine ⟨(zs.take len).map fun z => BitVec.ofNat 8 z.toNat, _, _, _, rfl, by simp; omega, hl, hm, .inr ⟨b, o, rfl, hb, ?_⟩⟩
    intro i x hi
    rw [List.getElem?_map, List.getElem?_take] at hi
    split at hi
    · rename_i hlt
      have hiz : i < zs.length := by omega
      rw [List.getElem?_eq_getElem hiz] at hi
      simp only [Option.map_some, Option.some.injEq] at hi
      have h1 := hc i hiz
      rw [addr_add] at h1
      rw [h1, ← hi]
      have h2 := hw _ (List.getElem_mem hiz)
      have h3 : (zs.getD i 0) = zs[i] := by simp [List.getD, List.getElem?_eq_getElem hiz]
      rw [h3]
      simp [Lit.wf, IntKind.min, IntKind.max, IntKind.bits, IntKind.signed] at h2
      show some (Value.int .u8 _) = some (Value.int .u8 _)
      rw [BitVec.toNat_ofNat]
      congr 2
      omega
    · cases hi
end Go.Proofs.Ythglbipcfhdoaaa
