/- slices.Equal, Index, Contains at field elements. -/
import Derived.Test.YthglbipcfhdoaaaPolyA
import Derived.BigQuiet
import Derived.Deep.QuietTactic
namespace Go.Proofs.Ythglbipcfhdoaaa
open Go.RowKit

/-- The answer; nothing but draws. -/
def Quiet (v : Value) (w : World) (e : Ending) (w' : World) : Prop := e = .returned v ∧ ∃ m, w' = w.drewN m
theorem drewN_drewN (w : World) (n m : Nat) : (w.drewN n).drewN m = w.drewN (n + m) := by simp [World.drewN, Nat.add_assoc]
theorem Sl.drewN {w : World} {v : Value} {xs : List Goss.F} (h : Sl w v xs) (n : Nat) : Sl (w.drewN n) v xs := h
def AlikeTo (xs ys : List Goss.F) (k : Nat) : Prop := ∀ i, i < k → xs[i]? = ys[i]?
theorem AlikeTo.done {xs ys : List Goss.F} {k : Nat} (h : AlikeTo xs ys k) (h1 : xs.length = k) (h2 : ys.length = k) : xs = ys := by
  apply List.ext_getElem?
  intro i
  by_cases hi : i < k
  · exact h i hi
  · rw [List.getElem?_eq_none (by omega), List.getElem?_eq_none (by omega)]
theorem AlikeTo.step {xs ys : List Goss.F} {k : Nat} (h : AlikeTo xs ys k) (h1 : xs[k]? = ys[k]?) : AlikeTo xs ys (k + 1) := by
  intro i hi
  by_cases e : i = k
  · subst e; exact h1
  · exact h i (by omega)
theorem beq_u (x y : Goss.F) : ((x.toNat : Int) == (y.toNat : Int)) = (x == y) := by
  by_cases h : x = y
  · subst h; simp
  · have h2 : ¬ ((x.toNat : Int) = (y.toNat : Int)) := fun e => h (BitVec.eq_of_toNat_eq (by omega))
    rw [beq_eq_false_iff_ne.2 h2, beq_eq_false_iff_ne.2 h]
theorem bne_u (x y : Goss.F) : ((x.toNat : Int) != (y.toNat : Int)) = !(x == y) := by
  rw [bne, beq_u]

set_option maxRecDepth 100000 in
set_option maxHeartbeats 1000000 in
theorem equal_any (v1 v2 : Value) (xs ys : List Goss.F) (w : World) (h1 : Sl w v1 xs) (h2 : Sl w v2 ys) :
    Calls Try.prog 39 #[v1, v2] w (Quiet (.bool (decide (xs = ys))) w) := by
  obtain ⟨p1, c1, rfl⟩ := h1.shape
  obtain ⟨p2, c2, rfl⟩ := h2.shape
  obtain ⟨R, hR⟩ : ∃ R, decide (xs = ys) = R := ⟨_, rfl⟩
  rw [hR]
  have HR := Lib.hid hR; clear hR
  have hl63 := h1.len'
  unfold maxLen at hl63
  generalize hm : xs.length = m at *
  generalize hn : ys.length = n at *
  have Hm := Lib.hid hm; clear hm
  have Hn := Lib.hid hn; clear hn
  go_enter Try.func39, Try.ntmps39
  by_cases hmn : m = n
  · subst hmn
    have ht : ((m : Int) != (m : Int)) = false := by simp
    go_wp2_with fail
    go_loopw [13] (fun i wr => ∃ (k q : Nat), k ≤ m ∧ i = .int .i64 k ∧ Hid (AlikeTo xs ys k) ∧ wr = w.drewN q) (fun i _ => m - (intOf i).toNat)
    case atStart => exact ⟨0, 0, by omega, rfl, (fun i hi => by omega : AlikeTo xs ys 0), rfl⟩
    case round =>
      obtain ⟨k, q, hk, rfl, hx, rfl⟩ := hrel
      by_cases hlt : k < m
      · obtain ⟨b1, o1, x, rfl, hx0, hxc⟩ := h1.read (k := k) hlt
        obtain ⟨b2, o2, y, rfl, hy0, hyc⟩ := h2.read (k := k) hlt
        have hlti : (k : Int) < m := by omega
        have hd : decide ((k : Int) < (m : Int)) = true := decide_eq_true hlti
        have hd' : decide (k < m) = true := decide_eq_true hlt
        have Hx0 := Lib.hid hx0; have Hy0 := Lib.hid hy0; clear hx0 hy0
        by_cases hxy : x = y
        · subst hxy
          have ht : ((x.toNat : Int) != (x.toNat : Int)) = false := by simp
          have hx1 : Hid (AlikeTo xs ys (k + 1)) := hx.out.step (by rw [Hx0.out, Hy0.out])
          go_wp2_with fail
          go_quiet (fail)
          go_wp2
          go_roundw
          case rel => exact ⟨k + 1, q + nq, by omega, by first | rfl | go_num, hx1, by rw [← drewN_drewN]⟩
          case measure => first | omega | (simp [intOf]; done) | (simp [intOf]; omega)
        · have ht : ((x.toNat : Int) != (y.toNat : Int)) = true := by rw [bne_u]; simp [hxy]
          have hf : false = R := by
            rw [← HR.out, eq_comm, decide_eq_false_iff_not]
            intro e
            have h3 := Hx0.out
            rw [e, Hy0.out] at h3
            exact hxy (Option.some.inj h3).symm
          have Hf := Lib.hid hf; clear hf
          go_wp2_with fail
          go_quiet (fail)
          go_wp2
          go_ret
          rw [← Hf.out]
          exact ⟨rfl, q + nq, by rw [← drewN_drewN]⟩
      · obtain rfl : k = m := by omega
        have hd : decide ((k : Int) < (k : Int)) = false := decide_eq_false (by omega)
        go_wp2
        go_ret
        have e := hx.out.done Hm.out Hn.out
        have : true = R := by rw [← HR.out]; simp [e]
        rw [← this]
        exact ⟨rfl, q, rfl⟩
  · have ht : ((m : Int) != (n : Int)) = true := by rw [bne_iff_ne]; omega
    go_wp2
    go_ret
    have : false = R := by
      rw [← HR.out, eq_comm, decide_eq_false_iff_not]
      intro e
      have h3 := Hm.out
      have h4 := Hn.out
      rw [e] at h3
      omega
    rw [← this]
    exact ⟨rfl, 0, rfl⟩

def AwayTo (xs : List Goss.F) (x : Goss.F) (k : Nat) : Prop := ∀ i, i < k → xs[i]? ≠ some x
set_option maxRecDepth 100000 in
set_option maxHeartbeats 1000000 in
theorem index_any (v : Value) (xs : List Goss.F) (x : Goss.F) (w : World) (h : Sl w v xs) :
    Calls Try.prog 71 #[v, .int .u32 x.toNat] w (fun e w' => ∃ k : Int, e = .returned (.int .i64 k) ∧ w = w' ∧ decide (0 ≤ k) = decide (x ∈ xs)) := by
  obtain ⟨p1, c1, rfl⟩ := h.shape
  obtain ⟨R, hR⟩ : ∃ R, decide (x ∈ xs) = R := ⟨_, rfl⟩
  rw [hR]
  have HR := Lib.hid hR; clear hR
  have hl63 := h.len'
  unfold maxLen at hl63
  generalize hm : xs.length = m at *
  have Hm := Lib.hid hm; clear hm
  go_enter Try.func71, Try.ntmps71
  go_wp2_with fail
  go_loopw [8] (fun i wr => ∃ (k : Nat), k ≤ m ∧ i = .int .i64 k ∧ Hid (AwayTo xs x k) ∧ wr = w) (fun i _ => m - (intOf i).toNat)
  case atStart => exact ⟨0, by omega, rfl, (fun i hi => by omega : AwayTo xs x 0), rfl⟩
  case round =>
    obtain ⟨k, hk, rfl, hx, rfl⟩ := hrel
    by_cases hlt : k < m
    · obtain ⟨b1, o1, y, rfl, hy0, hyc⟩ := h.read (k := k) hlt
      have hlti : (k : Int) < m := by omega
      have hd : decide ((k : Int) < (m : Int)) = true := decide_eq_true hlti
      have hd' : decide (k < m) = true := decide_eq_true hlt
      have Hy0 := Lib.hid hy0; clear hy0
      by_cases hxy : x = y
      · subst hxy
        have ht : ((x.toNat : Int) == (x.toNat : Int)) = true := by simp
        have hf : true = R := by
          rw [← HR.out, eq_comm, decide_eq_true_iff]
          exact List.mem_of_getElem? Hy0.out
        have Hf := Lib.hid hf; clear hf
        go_wp2
        go_ret
        rw [← Hf.out]
        exact ⟨_, rfl, rfl, by simp⟩
      · have ht : ((x.toNat : Int) == (y.toNat : Int)) = false := by rw [beq_u]; simp [hxy]
        have hx1 : Hid (AwayTo xs x (k + 1)) := by
          intro i hi
          by_cases e : i = k
          · subst e; rw [Hy0.out]; intro e; exact hxy (Option.some.inj e).symm
          · exact hx.out i (by omega)
        go_wp2
        go_roundw
        case rel => exact ⟨k + 1, by omega, by first | rfl | go_num, hx1, by first | rfl | trivial⟩
        case measure => first | omega | (simp [intOf]; done) | (simp [intOf]; omega)
    · obtain rfl : k = m := by omega
      have hd : decide ((k : Int) < (k : Int)) = false := decide_eq_false (by omega)
      go_wp2
      go_ret
      have : false = R := by
        rw [← HR.out, eq_comm, decide_eq_false_iff_not]
        intro e
        obtain ⟨i, hi, he⟩ := List.mem_iff_getElem.1 e
        exact hx.out i (by rw [← Hm.out]; exact hi) (by rw [List.getElem?_eq_getElem hi, he])
      rw [← this]
      exact ⟨_, rfl, rfl, by simp⟩
set_option maxRecDepth 100000 in
theorem contains_any (v : Value) (xs : List Goss.F) (x : Goss.F) (w : World) (h : Sl w v xs) :
    Calls Try.prog 54 #[v, .int .u32 x.toNat] w (Ret (.bool (decide (x ∈ xs))) w) := by
  have hi := index_any v xs x w h
  generalize decide (x ∈ xs) = R at *
  go_enter Try.func54, Try.ntmps54
  go_wp2_with fail
  refine hi.mono ?_
  rintro e w' ⟨k, rfl, rfl, hk⟩
  subst hk
  go_wp2
  go_ret
  exact ⟨by simp, rfl⟩
end Go.Proofs.Ythglbipcfhdoaaa
