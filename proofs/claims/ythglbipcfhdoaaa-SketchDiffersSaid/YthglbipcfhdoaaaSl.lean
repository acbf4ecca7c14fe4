/- Slices of field elements: how a value reads as a list, and rows of the call's own. -/
import Derived.Test.YthglbipcfhdoaaaProg
import Derived.Test.YthglbipcfhdoaaaBits
import Derived.Deep.Draws
namespace Go.Proofs.Ythglbipcfhdoaaa
open Go.RowKit

abbrev enc (x : Goss.F) : Value := .int .u32 (x.toNat : Int)

theorem _root_.Go.RowKit.Below.drewN {B : Nat} {w w' : World} (h : Below B w w') (n : Nat) : Below B w (w'.drewN n) := by
  induction n with
  | zero => exact h
  | succ n ih => exact ih.drew

/-- The answer, and nothing that was there has turned. -/
def Gives (v : Value) (w : World) (e : Ending) (w' : World) : Prop := e = .returned v ∧ Below w.heap.size w w'
theorem Gives.still {P : Program} {f : FuncId} {args : Array Value} {w : World} {v : Value} (h : Calls P f args w (Ret v w)) : Calls P f args w (Gives v w) :=
  h.mono fun _ _ ⟨h1, h2⟩ => ⟨h1, h2 ▸ Below.refl _ _⟩

/-- v reads in w as xs. -/
def Sl (w : World) (v : Value) (xs : List Goss.F) : Prop :=
  ∃ p n c, v = .slice p n c ∧ n = xs.length ∧ n ≤ c ∧ c ≤ maxLen ∧
    ((p = none ∧ n = 0 ∧ c = 0) ∨ ∃ b o, p = some ⟨b, o, none⟩ ∧ b < w.heap.size ∧ ∀ i x, xs[i]? = some x → w.cell? ⟨b, o + i, none⟩ = some (enc x))

/-- v is a row of the call's own (block B or later) that reads as xs. -/
def Own (w : World) (B : Nat) (v : Value) (xs : List Goss.F) : Prop := w.ownsRow B 55 1 v xs.length (xs.map enc)

theorem Sl.nil (w : World) : Sl w (.slice none 0 0) [] := ⟨none, 0, 0, rfl, rfl, Nat.le_refl _, Nat.zero_le _, .inl ⟨rfl, rfl, rfl⟩⟩
theorem Sl.below {w w' : World} {v : Value} {xs : List Goss.F} (h : Sl w v xs) (hb : Below w.heap.size w w') : Sl w' v xs := by
  obtain ⟨p, n, c, h1, h2, h3, h4, h5⟩ := h
  refine ⟨p, n, c, h1, h2, h3, h4, ?_⟩
  rcases h5 with h5 | ⟨b, o, rfl, hlt, hc⟩
  · exact .inl h5
  · exact .inr ⟨b, o, rfl, Nat.lt_of_lt_of_le hlt hb.size, fun i x hi => by rw [hb.cell (p := ⟨b, o + i, none⟩) hlt]; exact hc i x hi⟩
theorem Sl.read {w : World} {p : Option Addr} {n c : Nat} {xs : List Goss.F} (h : Sl w (.slice p n c) xs) {k : Nat} (hk : k < n) :
    ∃ b o x, p = some ⟨b, o, none⟩ ∧ xs[k]? = some x ∧ w.cell? ⟨b, o + k, none⟩ = some (.int .u32 x.toNat) := by
  obtain ⟨p', n', c', h1, h2, h3, h4, h5⟩ := h
  simp only [Value.slice.injEq] at h1
  obtain ⟨rfl, rfl, rfl⟩ := h1
  rcases h5 with ⟨_, h0, _⟩ | ⟨b, o, rfl, hlt, hc⟩
  · omega
  · exact ⟨b, o, xs[k]'(by omega), rfl, List.getElem?_eq_getElem (by omega), hc _ _ (List.getElem?_eq_getElem (by omega))⟩
theorem Sl.blk {w : World} {b o : Nat} {n c : Nat} {xs : List Goss.F} (h : Sl w (.slice (some ⟨b, o, none⟩) n c) xs) : b < w.heap.size := by
  obtain ⟨p', n', c', h1, h2, h3, h4, h5⟩ := h
  simp only [Value.slice.injEq] at h1
  obtain ⟨rfl, rfl, rfl⟩ := h1
  rcases h5 with ⟨h, _⟩ | ⟨b', o', h, hlt, _⟩
  · cases h
  · cases h; exact hlt
theorem Sl.len {w : World} {p : Option Addr} {n c : Nat} {xs : List Goss.F} (h : Sl w (.slice p n c) xs) : n = xs.length ∧ n ≤ c ∧ c ≤ maxLen := by
  obtain ⟨p', n', c', h1, h2, h3, h4, h5⟩ := h
  simp only [Value.slice.injEq] at h1
  obtain ⟨rfl, rfl, rfl⟩ := h1
  exact ⟨h2, h3, h4⟩
theorem Sl.len' {w : World} {v : Value} {xs : List Goss.F} (h : Sl w v xs) : xs.length ≤ maxLen := by
  obtain ⟨p, n, c, h1, h2, h3, h4, _⟩ := h
  omega
theorem Sl.shape {w : World} {v : Value} {xs : List Goss.F} (h : Sl w v xs) : ∃ p c, v = .slice p xs.length c := by
  obtain ⟨p, n, c, h1, rfl, _⟩ := h
  exact ⟨p, c, h1⟩
/-- A piece of what reads as a list. -/
theorem Sl.cut {w : World} {p : Option Addr} {n c : Nat} {xs : List Goss.F} (h : Sl w (.slice p n c) xs) (k : Nat) (hk : k ≤ n) : Sl w (.slice p k c) (xs.take k) := by
  obtain ⟨p', n', c', h1, h2, h3, h4, h5⟩ := h
  simp only [Value.slice.injEq] at h1
  obtain ⟨rfl, rfl, rfl⟩ := h1
  refine ⟨p, k, c, rfl, by rw [List.length_take]; omega, by omega, h4, ?_⟩
  rcases h5 with ⟨h5, h6, h7⟩ | ⟨b, o, rfl, hlt, hc⟩
  · exact .inl ⟨h5, by omega, h7⟩
  · exact .inr ⟨b, o, rfl, hlt, fun i x hi => hc i x (by rw [List.getElem?_take] at hi; split at hi; exact hi; cases hi)⟩

theorem Own.sl {w : World} {B : Nat} {v : Value} {xs : List Goss.F} (h : Own w B v xs) : Sl w v xs := by
  obtain ⟨h1, h2⟩ := h
  rcases h2 with ⟨rfl, h0⟩ | ⟨g, cap, cur, rfl, hb, hg, hnc, hcm, hcs, htake⟩
  · exact ⟨none, 0, 0, rfl, h0.symm, Nat.le_refl _, Nat.zero_le _, .inl ⟨rfl, rfl, rfl⟩⟩
  · refine ⟨_, _, _, rfl, rfl, hnc, hcm, .inr ⟨g, 0, rfl, (Array.getElem?_eq_some_iff.1 hg).1, fun i x hi => ?_⟩⟩
    rw [Nat.zero_add, cell_of_row w g i cur _ (0, 0) hg]
    have : (xs.map enc)[i]? = some (enc x) := by rw [List.getElem?_map, hi]; rfl
    rw [← htake, List.getElem?_take] at this
    split at this
    · simpa using this
    · cases this
theorem Own.below {w w' : World} {B : Nat} {v : Value} {xs : List Goss.F} (h : Own w B v xs) (hb : Below w.heap.size w w') : Own w' B v xs := by
  refine ⟨h.1, ?_⟩
  rcases h.2 with hn | ⟨g, cap, cur, rfl, hbg, hg, rest⟩
  · exact .inl hn
  · exact .inr ⟨g, cap, cur, rfl, hbg, by rw [hb.block g (Array.getElem?_eq_some_iff.1 hg).1]; exact hg, rest⟩
theorem Own.mono {w : World} {B B' : Nat} {v : Value} {xs : List Goss.F} (h : Own w B v xs) (hB : B' ≤ B) : Own w B' v xs := by
  refine ⟨h.1, ?_⟩
  rcases h.2 with hn | ⟨g, cap, cur, rfl, hbg, rest⟩
  · exact .inl hn
  · exact .inr ⟨g, cap, cur, rfl, Nat.le_trans hB hbg, rest⟩
theorem Own.nil (w : World) (B : Nat) : Own w B (.slice none 0 0) [] := World.ownsRow_nil w B _ 1
/-- The shape of an owned row. -/
theorem Own.shape {w : World} {B : Nat} {v : Value} {xs : List Goss.F} (h : Own w B v xs) :
    (v = .slice none 0 0 ∧ xs = []) ∨ ∃ g c, v = .slice (some ⟨g, 0, none⟩) xs.length c ∧ B ≤ g ∧ g < w.heap.size ∧ xs.length ≤ c ∧ c ≤ maxLen := by
  rcases h.2 with ⟨rfl, h0⟩ | ⟨g, cap, cur, rfl, hbg, hg, hnc, hcm, _⟩
  · exact .inl ⟨rfl, List.eq_nil_of_length_eq_zero h0⟩
  · exact .inr ⟨g, cap, rfl, hbg, (Array.getElem?_eq_some_iff.1 hg).1, hnc, hcm⟩
theorem Own.cut {w : World} {B : Nat} {p : Option Addr} {n c : Nat} {xs : List Goss.F} (h : Own w B (.slice p n c) xs) (k : Nat) (hk : k ≤ n) : Own w B (.slice p k c) (xs.take k) := by
  obtain ⟨h1, h2⟩ := h
  rcases h2 with ⟨h, h0⟩ | ⟨g, cap, cur, h, hbg, hg, hnc, hcm, hcs, htake⟩
  · simp only [Value.slice.injEq] at h
    obtain ⟨rfl, rfl, rfl⟩ := h
    obtain rfl : k = 0 := by omega
    exact ⟨by simp, .inl ⟨rfl, by simp⟩⟩
  · simp only [Value.slice.injEq] at h
    obtain ⟨rfl, rfl, rfl⟩ := h
    have hl : (xs.take k).length = k := by rw [List.length_take]; omega
    refine ⟨by simp, .inr ⟨g, _, cur, by rw [hl], hbg, hg, by omega, hcm, hcs, ?_⟩⟩
    rw [hl, List.map_take, ← htake, List.take_take]
    congr 1
    omega
/-- One element of an owned row, to be read. -/
theorem Own.read {w : World} {B g n c : Nat} {xs : List Goss.F} (h : Own w B (.slice (some ⟨g, 0, none⟩) n c) xs) {k : Nat} (hk : k < n) :
    ∃ x, xs[k]? = some x ∧ w.cell? ⟨g, k, none⟩ = some (.int .u32 x.toNat) ∧ w.frozen? ⟨g, k, none⟩ = false := by
  have hs := h.sl
  obtain ⟨b, o, x, hp, hx, hc⟩ := hs.read hk
  simp only [Option.some.injEq, Addr.mk.injEq] at hp
  obtain ⟨rfl, rfl, _⟩ := hp
  refine ⟨x, hx, by simpa using hc, ?_⟩
  have hn := hs.len.1
  subst hn
  exact World.ownsRow.frozenAt h k
/-- A store into an owned row. -/
theorem Own.stored {w : World} {B g n c : Nat} {xs : List Goss.F} (h : Own w B (.slice (some ⟨g, 0, none⟩) n c) xs) (k : Nat) (x : Goss.F) :
    Own (w.setCell ⟨g, k, none⟩ (.int .u32 x.toNat)) B (.slice (some ⟨g, 0, none⟩) n c) (xs.set k x) := by
  have hn := h.sl.len.1
  subst hn
  have := (World.ownsRow.stored h k (enc x)).1
  unfold Own
  rw [List.length_set, List.map_set]
  exact this
theorem Own.lt {w : World} {B g n c : Nat} {xs : List Goss.F} (h : Own w B (.slice (some ⟨g, 0, none⟩) n c) xs) : B ≤ g ∧ g < w.heap.size := World.ownsRow.lt h g rfl
/-- What reads as a list stays so while a block of another number is written. -/
theorem Sl.store {w : World} {v : Value} {xs : List Goss.F} (h : Sl w v xs) {a : Addr} (u : Value) (ha : ∀ b o n c, v = .slice (some ⟨b, o, none⟩) n c → b ≠ a.block) : Sl (w.setCell a u) v xs := by
  obtain ⟨p, n, c, rfl, h2, h3, h4, h5⟩ := h
  refine ⟨p, n, c, rfl, h2, h3, h4, ?_⟩
  rcases h5 with h5 | ⟨b, o, rfl, hlt, hc⟩
  · exact .inl h5
  · refine .inr ⟨b, o, rfl, by simpa [World.setCell] using hlt, fun i x hi => ?_⟩
    rw [World.cell?_of_block (w := w) (a := ⟨b, o + i, none⟩) (Below.heap_setCell w a u b (ha b o n c rfl))]
    exact hc i x hi
end Go.Proofs.Ythglbipcfhdoaaa
