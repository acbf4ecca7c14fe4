/- package sketch: Read, Further; slices.Grow, Concat; Join. -/
import Derived.Test.YthglbipcfhdoaaaSums
namespace Go.Proofs.Ythglbipcfhdoaaa
open Go.RowKit

def ReadOk (s : List Goss.F) (w : World) (e : Ending) (w' : World) : Prop :=
  ∃ b g c, e = .returned (.tuple #[.pointer (some ⟨b, 0, none⟩), .nilIface]) ∧ Sk w' w.heap.size b g c s ∧ Below w.heap.size w w'
theorem sumsP_length (bs : List (BitVec 8)) : (Goss.sumsP bs).length = bs.length / 4 := by simp [Goss.sumsP]
set_option maxRecDepth 100000 in
set_option maxHeartbeats 2000000 in
theorem read_ok (v : Value) (bs : List (BitVec 8)) (w : World) (h : SlB w v bs) (h4 : bs.length % 4 = 0) (h1 : 1 ≤ bs.length / 4) (h40 : bs.length / 4 ≤ 40) :
    Calls Try.prog 19 #[v] w (ReadOk (Goss.sumsP bs) w) := by
  have hs := sums_any v bs w h (by omega) h4
  have hsl := sumsP_length bs
  generalize Goss.sumsP bs = R at *
  rw [← hsl] at h1 h40
  clear hsl h4
  generalize hB : w.heap.size = B at *
  have HB := Lib.hid hB; clear hB
  go_enter Try.func19, Try.ntmps19
  go_wp2_with fail
  refine hs.mono ?_
  rintro e w1 ⟨v1, rfl, ho1, hb1⟩
  rw [HB.out] at ho1
  have hz := hb1.size
  rcases ho1.shape with ⟨_, e0⟩ | ⟨g, c, rfl, hgB, hg2, hg3, hg4⟩
  · rw [e0] at h1; simp at h1
  · have hsk := Sk.fresh ho1 (by have := HB.out; omega)
    have hba := hb1.alloc (o := .cells #[.slice (some ⟨g, 0, none⟩) R.length c] 73) hz
    generalize R.length = n at *
    have hd1 : decide ((n : Int) < 1) = false := decide_eq_false (by omega)
    have hd2 : decide ((40 : Int) < (n : Int)) = false := decide_eq_false (by omega)
    go_wp2
    go_ret2
    exact ⟨_, _, _, rfl, by rw [HB.out]; exact hsk, hba⟩
set_option maxRecDepth 100000 in
set_option maxHeartbeats 2000000 in
theorem read_bad (v : Value) (bs : List (BitVec 8)) (w : World) (h : SlB w v bs) (hl : bs.length ≤ 4000000) (hn : ¬ (bs.length % 4 = 0 ∧ 1 ≤ bs.length / 4 ∧ bs.length / 4 ≤ 40)) :
    Calls Try.prog 19 #[v] w (Gives (.tuple #[.pointer none, errv 2]) w) := by
  by_cases h4 : bs.length % 4 = 0
  · have hs := sums_any v bs w h hl h4
    have hsl := sumsP_length bs
    generalize Goss.sumsP bs = R at *
    have hn2 : ¬ (1 ≤ R.length ∧ R.length ≤ 40) := by omega
    clear hsl h4 hn hl
    go_enter Try.func19, Try.ntmps19
    go_wp2_with fail
    refine hs.mono ?_
    rintro e w1 ⟨v1, rfl, ho1, hb1⟩
    obtain ⟨p, c, rfl⟩ := ho1.sl.shape
    clear ho1 hs
    generalize R.length = n at *
    by_cases hz : n < 1
    · have hd1 : decide ((n : Int) < 1) = true := decide_eq_true (by omega)
      go_wp2
      go_ret2
      exact ⟨rfl, hb1⟩
    · have hd1 : decide ((n : Int) < 1) = false := decide_eq_false (by omega)
      have hd2 : decide ((40 : Int) < (n : Int)) = true := decide_eq_true (by omega)
      go_wp2
      go_ret2
      exact ⟨rfl, hb1⟩
  · have hs := sums_odd v bs w h hl h4
    go_enter Try.func19, Try.ntmps19
    go_wp2_with fail
    refine hs.mono ?_
    rintro e w1 ⟨rfl, rfl⟩
    go_wp2
    go_ret2
    exact ⟨rfl, Below.refl _ _⟩

def FurOk (xs : List (BitVec 8)) (w : World) (e : Ending) (w' : World) : Prop := ∃ v, e = .returned (.tuple #[v, .nilIface]) ∧ OwnB w' w.heap.size v xs ∧ Below w.heap.size w w'
/-- The rest of what reads as a list. -/
theorem Sl.rest {w : World} {b o n c : Nat} {xs : List Goss.F} (h : Sl w (.slice (some ⟨b, o, none⟩) n c) xs) (k : Nat) (hk : k ≤ n) : Sl w (.slice (some ⟨b, o + k, none⟩) (n - k) (c - k)) (xs.drop k) := by
  obtain ⟨p', n', c', h1, h2, h3, h4, h5⟩ := h
  simp only [Value.slice.injEq] at h1
  obtain ⟨rfl, rfl, rfl⟩ := h1
  refine ⟨_, _, _, rfl, by rw [List.length_drop]; omega, by omega, by omega, ?_⟩
  rcases h5 with ⟨h5, _⟩ | ⟨b', o', h5, hlt, hc⟩
  · cases h5
  · cases h5
    exact .inr ⟨_, _, rfl, hlt, fun i x hi => by rw [List.getElem?_drop] at hi; rw [Nat.add_assoc]; exact hc _ x hi⟩
set_option maxRecDepth 100000 in
set_option maxHeartbeats 2000000 in
theorem further_ok (B b g c : Nat) (s : List Goss.F) (k : Nat) (w : World) (h : Sk w B b g c s) (hl : s.length ≤ 40) (hk : k ≤ s.length) :
    Calls Try.prog 25 #[.pointer (some ⟨b, 0, none⟩), .int .i64 k] w (FurOk (Goss.bytesP (s.drop k)) w) := by
  have hp := h.ptr
  have hcl := h.own.sl.len
  obtain ⟨_, hnc, hcm⟩ := hcl
  unfold maxLen at hcm
  by_cases hkc : c = k
  · have hsl0 := h.own.sl.cut 0 (Nat.zero_le _)
    have hnil : s.drop k = [] := List.drop_eq_nil_of_le (by omega)
    have hsl : Sl w (.slice (some ⟨g, 0, none⟩) 0 0) (s.drop k) := by
      rw [hnil]
      exact ⟨_, _, _, rfl, rfl, Nat.le_refl _, Nat.zero_le _, .inr ⟨g, 0, rfl, h.own.lt.2, fun i x hi => by simp at hi⟩⟩
    have hby := bytes_any _ _ w hsl (by rw [hnil]; simp)
    generalize Goss.bytesP (s.drop k) = R at *
    generalize s.length = n at *
    obtain rfl : n = k := by omega
    obtain rfl : c = n := by omega
    clear h hsl hsl0 hnil
    go_enter Try.func25, Try.ntmps25
    go_wp2_with fail
    refine hby.mono ?_
    rintro e w1 ⟨v, rfl, ho, hb1⟩
    go_wp2
    go_ret2
    exact ⟨_, rfl, ho, hb1⟩
  · have hsl := h.own.sl.rest k hk
    have hby := bytes_any _ _ w hsl (by rw [List.length_drop]; omega)
    rw [Nat.zero_add] at hby
    generalize Goss.bytesP (s.drop k) = R at *
    generalize s.length = n at *
    clear h hsl
    have hd0 : decide ((k : Int) < 0) = false := decide_eq_false (by omega)
    have hd1 : decide ((n : Int) < (k : Int)) = false := decide_eq_false (by omega)
    go_enter Try.func25, Try.ntmps25
    go_wp2_with fail
    refine hby.mono ?_
    rintro e w1 ⟨v, rfl, ho, hb1⟩
    go_wp2
    go_ret2
    exact ⟨_, rfl, ho, hb1⟩
set_option maxRecDepth 100000 in
set_option maxHeartbeats 2000000 in
theorem further_bad (B b g c : Nat) (s : List Goss.F) (k : Int) (w : World) (h : Sk w B b g c s) (hk : ¬ (0 ≤ k ∧ k ≤ s.length)) :
    Calls Try.prog 25 #[.pointer (some ⟨b, 0, none⟩), .int .i64 k] w (Ret (.tuple #[.slice none 0 0, errv 1]) w) := by
  have hp := h.ptr
  generalize s.length = n at *
  clear h
  go_enter Try.func25, Try.ntmps25
  by_cases h0 : k < 0
  · have hd0 : decide ((k : Int) < 0) = true := decide_eq_true h0
    go_wp2
    go_ret2
    exact ⟨rfl, rfl⟩
  · have hd0 : decide ((k : Int) < 0) = false := decide_eq_false h0
    have hd1 : decide ((n : Int) < (k : Int)) = true := decide_eq_true (by omega)
    go_wp2
    go_ret2
    exact ⟨rfl, rfl⟩
set_option maxRecDepth 100000 in
set_option maxHeartbeats 2000000 in
theorem further_nil (k : Int) (w : World) :
    Calls Try.prog 25 #[.pointer none, .int .i64 k] w (Ret (.tuple #[.slice none 0 0, errv 1]) w) := by
  go_enter Try.func25, Try.ntmps25
  go_wp2
  go_ret2
  exact ⟨rfl, rfl⟩
set_option maxRecDepth 100000 in
set_option maxHeartbeats 2000000 in
theorem join_nil (v : Value) (w : World) :
    Calls Try.prog 26 #[.pointer none, v] w (Ret (.tuple #[.pointer none, errv 1]) w) := by
  go_enter Try.func26, Try.ntmps26
  go_wp2
  go_ret2
  exact ⟨rfl, rfl⟩
end Go.Proofs.Ythglbipcfhdoaaa
