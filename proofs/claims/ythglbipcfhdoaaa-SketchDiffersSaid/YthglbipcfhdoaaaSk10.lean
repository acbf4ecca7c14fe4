/- package sketch: Copy, Empty; law05: none. -/
import Derived.Test.YthglbipcfhdoaaaSkC
namespace Go.Proofs.Ythglbipcfhdoaaa
open Go.RowKit

def CopyEnd (s : List Goss.F) (w : World) (e : Ending) (w' : World) : Prop :=
  ∃ b g c, e = .returned (.pointer (some ⟨b, 0, none⟩)) ∧ Sk w' w.heap.size b g c s ∧ Below w.heap.size w w'
set_option maxRecDepth 100000 in
theorem copy_nil (w : World) : Calls Try.prog 27 #[.pointer none] w (Ret (.pointer none) w) := by
  go_enter Try.func27, Try.ntmps27
  go_wp2
  go_ret
  exact ⟨rfl, rfl⟩
set_option maxRecDepth 100000 in
set_option maxHeartbeats 2000000 in
theorem copy_any (B0 b g c : Nat) (s : List Goss.F) (w : World) (h : Sk w B0 b g c s) (h1 : 1 ≤ s.length) (hl : s.length ≤ 1000) :
    Calls Try.prog 27 #[.pointer (some ⟨b, 0, none⟩)] w (CopyEnd s w) := by
  have hp := h.ptr
  have hcl := clone_any _ s w h.own.sl (by omega)
  generalize hB : w.heap.size = B at *
  have HB := Lib.hid hB; clear hB
  go_enter Try.func27, Try.ntmps27
  go_wp2_with fail
  refine hcl.mono ?_
  rintro e w1 ⟨v1, rfl, ho1, hb1⟩
  rw [HB.out] at ho1
  have hz := hb1.size
  rcases ho1.shape with ⟨_, e0⟩ | ⟨g1, c1, rfl, hgB, hg2, hg3, hg4⟩
  · rw [e0] at h1; simp at h1
  · have hsk := Sk.fresh ho1 (by have := HB.out; omega)
    have hba := hb1.alloc (o := .cells #[.slice (some ⟨g1, 0, none⟩) s.length c1] 73) hz
    clear hcl
    generalize hq : s.length = q at *
    have Hq := Lib.hid hq; clear hq
    go_wp2
    go_ret
    exact ⟨_, _, _, rfl, by rw [HB.out]; exact hsk, hba⟩

set_option maxRecDepth 100000 in
theorem emptyq_any (x : Goss.F) (w : World) : Calls Try.prog 50 #[.int .u32 x.toNat] w (Ret (.bool (!(x == 0#32))) w) := by
  have hb : ((x.toNat : Int) != 0) = !(x == 0#32) := bne_u x 0#32
  go_enter Try.func50, Try.ntmps50
  go_wp2
  go_ret
  exact ⟨by simp, rfl⟩

def NoneTo (xs : List Goss.F) (k : Nat) : Prop := ∀ i, i < k → xs[i]? = some 0#32
set_option maxRecDepth 100000 in
set_option maxHeartbeats 2000000 in
theorem indexfunc_any (v : Value) (xs : List Goss.F) (w : World) (h : Sl w v xs) :
    Calls Try.prog 69 #[v, .func (.func 50) #[] #[]] w (fun e w' => ∃ k : Int, e = .returned (.int .i64 k) ∧ w = w' ∧ decide (0 ≤ k) = decide (∃ x ∈ xs, x ≠ 0#32)) := by
  obtain ⟨p1, c1, rfl⟩ := h.shape
  obtain ⟨R, hR⟩ : ∃ R, decide (∃ x ∈ xs, x ≠ 0#32) = R := ⟨_, rfl⟩
  rw [hR]
  have HR := Lib.hid hR; clear hR
  have hl63 := h.len'
  unfold maxLen at hl63
  generalize hm : xs.length = m at *
  have Hm := Lib.hid hm; clear hm
  go_enter Try.func69, Try.ntmps69
  go_wp2_with fail
  go_loopw [8] (fun i wr => ∃ (k : Nat), k ≤ m ∧ i = .int .i64 k ∧ Hid (NoneTo xs k) ∧ wr = w) (fun i _ => m - (intOf i).toNat)
  case atStart => exact ⟨0, by omega, rfl, (fun i hi => by omega : NoneTo xs 0), rfl⟩
  case round =>
    obtain ⟨k, hk, rfl, hx, rfl⟩ := hrel
    by_cases hlt : k < m
    · obtain ⟨b1, o1, y, rfl, hy0, hyc⟩ := h.read (k := k) hlt
      have hlti : (k : Int) < m := by omega
      have hd : decide ((k : Int) < (m : Int)) = true := decide_eq_true hlti
      have hd' : decide (k < m) = true := decide_eq_true hlt
      have Hy0 := Lib.hid hy0; clear hy0
      by_cases hxy : y = 0#32
      · have he := emptyq_any y wr
        rw [show (!(y == 0#32)) = false from by simp [hxy]] at he
        have hx1 : Hid (NoneTo xs (k + 1)) := by
          intro i hi
          by_cases e : i = k
          · subst e; rw [Hy0.out, hxy]
          · exact hx.out i (by omega)
        clear hxy
        go_wp2_with fail
        refine he.mono ?_
        rintro e w' ⟨rfl, rfl⟩
        go_wp2
        go_roundw
        case rel => exact ⟨k + 1, by omega, by first | rfl | go_num, hx1, by first | rfl | trivial⟩
        case measure => first | omega | (simp [intOf]; done) | (simp [intOf]; omega)
      · have he := emptyq_any y wr
        rw [show (!(y == 0#32)) = true from by simp [hxy]] at he
        have hf : true = R := by
          rw [← HR.out, eq_comm, decide_eq_true_iff]
          exact ⟨y, List.mem_of_getElem? Hy0.out, hxy⟩
        have Hf := Lib.hid hf; clear hf hxy
        go_wp2_with fail
        refine he.mono ?_
        rintro e w' ⟨rfl, rfl⟩
        go_wp2
        go_ret
        rw [← Hf.out]
        exact ⟨_, rfl, rfl, by simp⟩
    · obtain rfl : k = m := by omega
      have hd : decide ((k : Int) < (k : Int)) = false := decide_eq_false (by omega)
      go_wp2
      go_ret
      have : false = R := by
        rw [← HR.out, eq_comm, decide_eq_false_iff_not]
        rintro ⟨x, hx1, hx2⟩
        obtain ⟨i, hi, he⟩ := List.mem_iff_getElem.1 hx1
        have := hx.out i (by rw [← Hm.out]; exact hi)
        rw [List.getElem?_eq_getElem hi, he] at this
        exact hx2 (Option.some.inj this)
      rw [← this]
      exact ⟨_, rfl, rfl, by simp⟩
set_option maxRecDepth 100000 in
theorem containsfunc_any (v : Value) (xs : List Goss.F) (w : World) (h : Sl w v xs) :
    Calls Try.prog 49 #[v, .func (.func 50) #[] #[]] w (Ret (.bool (decide (∃ x ∈ xs, x ≠ 0#32))) w) := by
  have hi := indexfunc_any v xs w h
  generalize decide (∃ x ∈ xs, x ≠ 0#32) = R at *
  go_enter Try.func49, Try.ntmps49
  go_wp2_with fail
  refine hi.mono ?_
  rintro e w' ⟨k, rfl, rfl, hk⟩
  subst hk
  go_wp2
  go_ret
  exact ⟨by simp, rfl⟩
set_option maxRecDepth 100000 in
theorem empty_any (B0 b g c : Nat) (s : List Goss.F) (w : World) (h : Sk w B0 b g c s) :
    Calls Try.prog 23 #[.pointer (some ⟨b, 0, none⟩)] w (Ret (.bool (!decide (∃ x ∈ s, x ≠ 0#32))) w) := by
  have hp := h.ptr
  have hc := containsfunc_any _ s w h.own.sl
  generalize decide (∃ x ∈ s, x ≠ 0#32) = R at *
  go_enter Try.func23, Try.ntmps23
  go_wp2_with fail
  refine hc.mono ?_
  rintro e w' ⟨rfl, rfl⟩
  go_wp2
  go_ret
  exact ⟨by simp, rfl⟩
set_option maxRecDepth 100000 in
theorem empty_nil (w : World) : Calls Try.prog 23 #[.pointer none] w (Ret (.bool true) w) := by
  go_enter Try.func23, Try.ntmps23
  go_wp2
  go_ret
  exact ⟨rfl, rfl⟩
set_option maxRecDepth 100000 in
set_option maxHeartbeats 2000000 in
theorem none_any (v : Value) (xs : List Goss.F) (w : World) (h : Sl w v xs) :
    Calls Try.prog 10 #[v] w (Ret (.bool (decide (0#32 ∈ xs))) w) := by
  obtain ⟨p1, c1, rfl⟩ := h.shape
  obtain ⟨R, hR⟩ : ∃ R, decide (0#32 ∈ xs) = R := ⟨_, rfl⟩
  rw [hR]
  have HR := Lib.hid hR; clear hR
  have hl63 := h.len'
  unfold maxLen at hl63
  generalize hm : xs.length = m at *
  have Hm := Lib.hid hm; clear hm
  go_enter Try.func10, Try.ntmps10
  go_wp2_with fail
  go_loopw [7] (fun i wr => ∃ (k : Nat), k ≤ m ∧ i = .int .i64 k ∧ Hid (AwayTo xs 0#32 k) ∧ wr = w) (fun i _ => m - (intOf i).toNat)
  case atStart => exact ⟨0, by omega, rfl, (fun i hi => by omega : AwayTo xs 0#32 0), rfl⟩
  case round =>
    obtain ⟨k, hk, rfl, hx, rfl⟩ := hrel
    by_cases hlt : k < m
    · obtain ⟨b1, o1, y, rfl, hy0, hyc⟩ := h.read (k := k) hlt
      have hlti : (k : Int) < m := by omega
      have hd : decide ((k : Int) < (m : Int)) = true := decide_eq_true hlti
      have hd' : decide (k < m) = true := decide_eq_true hlt
      have Hy0 := Lib.hid hy0; clear hy0
      by_cases hxy : y = 0#32
      · have ht : ((y.toNat : Int) == 0) = true := by rw [hxy]; rfl
        have hf : true = R := by
          rw [← HR.out, eq_comm, decide_eq_true_iff, ← hxy]
          exact List.mem_of_getElem? Hy0.out
        have Hf := Lib.hid hf; clear hf hxy
        go_wp2
        go_ret
        rw [← Hf.out]
        exact ⟨rfl, rfl⟩
      · have ht : ((y.toNat : Int) == 0) = false := by
          have := beq_u y 0#32
          rw [show ((0#32 : Goss.F).toNat : Int) = 0 from rfl] at this
          rw [this]; simp [hxy]
        have hx1 : Hid (AwayTo xs 0#32 (k + 1)) := by
          intro i hi
          by_cases e : i = k
          · subst e; rw [Hy0.out]; intro e; exact hxy (Option.some.inj e)
          · exact hx.out i (by omega)
        clear hxy
        go_wp2
        go_roundw
        case rel => exact ⟨k + 1, by omega, by first | rfl | go_num, hx1, by first | rfl | trivial⟩
        case measure => first | omega | (simp [intOf]; done) | (simp [intOf]; omega)
    · obtain rfl : k = m := by omega
      have hd : decide ((k : Int) < (k : Int)) = false := decide_eq_false (by omega)
      go_wp2
      go_ret
      have : false = R := by
        rw [← HR.out, eq_comm, decide_eq_false_iff_not]
        intro e
        obtain ⟨i, hi, he⟩ := List.mem_iff_getElem.1 e
        exact hx.out i (by rw [← Hm.out]; exact hi) (by rw [List.getElem?_eq_getElem hi, he])
      rw [← this]
      exact ⟨rfl, rfl⟩
end Go.Proofs.Ythglbipcfhdoaaa
