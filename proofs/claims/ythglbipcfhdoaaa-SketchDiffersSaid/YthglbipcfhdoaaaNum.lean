/- package gossamernum: Words, Is; none; strings of bytes. -/
import Derived.Test.YthglbipcfhdoaaaSk5
import Derived.WideLaws
import Derived.LaidEql
import Derived.Laws.BytesArg
import Derived.Laws.StructEq
namespace Go.Proofs.Ythglbipcfhdoaaa
open Go.RowKit

set_option maxRecDepth 100000 in
set_option maxHeartbeats 1000000 in
theorem words_any (v1 v2 : Value) (xs ys : List Goss.F) (w : World) (h1 : Sl w v1 xs) (h2 : Sl w v2 ys) :
    Calls Try.prog 16 #[v1, v2] w (Quiet (.bool (decide (xs = ys))) w) := by
  obtain ⟨p1, c1, rfl⟩ := h1.shape
  obtain ⟨p2, c2, rfl⟩ := h2.shape
  obtain ⟨R, hR⟩ : ∃ R, decide (xs = ys) = R := ⟨_, rfl⟩
  rw [hR]
  have HR := Lib.hid hR; clear hR
  have hl63 := h1.len'
  unfold maxLen at hl63
  generalize hm : xs.length = m at *
  generalize hn : ys.length = n at *
  have Hm := Lib.hid hm; clear hm
  have Hn := Lib.hid hn; clear hn
  go_enter Try.func16, Try.ntmps16
  by_cases hmn : m = n
  · subst hmn
    have ht : ((m : Int) != (m : Int)) = false := by simp
    go_wp2_with fail
    go_loopw [13] (fun i wr => ∃ (k q : Nat), k ≤ m ∧ i = .int .i64 k ∧ Hid (AlikeTo xs ys k) ∧ wr = w.drewN q) (fun i _ => m - (intOf i).toNat)
    case atStart => exact ⟨0, 0, by omega, rfl, (fun i hi => by omega : AlikeTo xs ys 0), rfl⟩
    case round =>
      obtain ⟨k, q, hk, rfl, hx, rfl⟩ := hrel
      by_cases hlt : k < m
      · obtain ⟨b1, o1, x, rfl, hx0, hxc⟩ := h1.read (k := k) hlt
        obtain ⟨b2, o2, y, rfl, hy0, hyc⟩ := h2.read (k := k) hlt
        have hlti : (k : Int) < m := by omega
        have hd : decide ((k : Int) < (m : Int)) = true := decide_eq_true hlti
        have hd' : decide (k < m) = true := decide_eq_true hlt
        have Hx0 := Lib.hid hx0; have Hy0 := Lib.hid hy0; clear hx0 hy0
        by_cases hxy : x = y
        · subst hxy
          have ht : ((x.toNat : Int) != (x.toNat : Int)) = false := by simp
          have hx1 : Hid (AlikeTo xs ys (k + 1)) := hx.out.step (by rw [Hx0.out, Hy0.out])
          go_wp2_with fail
          go_quiet (fail)
          go_wp2
          go_roundw
          case rel => exact ⟨k + 1, q + nq, by omega, by first | rfl | go_num, hx1, by rw [← drewN_drewN]⟩
          case measure => first | omega | (simp [intOf]; done) | (simp [intOf]; omega)
        · have ht : ((x.toNat : Int) != (y.toNat : Int)) = true := by rw [bne_u]; simp [hxy]
          have hf : false = R := by
            rw [← HR.out, eq_comm, decide_eq_false_iff_not]
            intro e
            have h3 := Hx0.out
            rw [e, Hy0.out] at h3
            exact hxy (Option.some.inj h3).symm
          have Hf := Lib.hid hf; clear hf
          go_wp2_with fail
          go_quiet (fail)
          go_wp2
          go_ret
          rw [← Hf.out]
          exact ⟨rfl, q + nq, by rw [← drewN_drewN]⟩
      · obtain rfl : k = m := by omega
        have hd : decide ((k : Int) < (k : Int)) = false := decide_eq_false (by omega)
        go_wp2
        go_ret
        have e := hx.out.done Hm.out Hn.out
        have : true = R := by rw [← HR.out]; simp [e]
        rw [← this]
        exact ⟨rfl, q, rfl⟩
  · have ht : ((m : Int) != (n : Int)) = true := by rw [bne_iff_ne]; omega
    go_wp2
    go_ret
    have : false = R := by
      rw [← HR.out, eq_comm, decide_eq_false_iff_not]
      intro e
      have h3 := Hm.out
      have h4 := Hn.out
      rw [e] at h3
      omega
    rw [← this]
    exact ⟨rfl, 0, rfl⟩


theorem run_typeAssert_int {P : Program} (w : World) (t xT : TypeId) (k : IntKind) (v : Value) (h : P.underlying t = some (.int k)) : (Instr.typeAssert (.iface t v) xT t true).run P w = .ok (.tuple #[v, .bool true]) w := by
  simp [Instr.typeAssert, run_underlying h]
set_option maxRecDepth 100000 in
theorem num_nil (w : World) : Calls Try.prog 40 #[.nilIface] w (Ret (.int .i64 0) w) := by
  go_enter Try.func40, Try.ntmps40
  go_wp2
  go_ret
  exact ⟨rfl, rfl⟩
set_option maxRecDepth 100000 in
theorem num_err (n : Int) (h : n ≠ 0) (w : World) : Calls Try.prog 40 #[errv n] w (Ret (.int .i64 n) w) := by
  have hne : (n != 0) = true := by rw [bne_iff_ne]; exact h
  have he := run_typeAssert_int (P := Try.prog) w 39 29 .i64 (.int .i64 n) Try.underlying39
  go_enter Try.func40, Try.ntmps40
  go_wp2
  go_ret
  exact ⟨rfl, rfl⟩
set_option maxRecDepth 100000 in
theorem is_nil (k : Int) (w : World) : Calls Try.prog 17 #[.nilIface, .int .i64 k] w (Ret (.bool ((0 : Int) == k)) w) := by
  go_enter Try.func17, Try.ntmps17
  go_wp2_with fail
  refine (num_nil _).mono ?_
  rintro e w' ⟨rfl, rfl⟩
  go_wp2
  go_ret
  exact ⟨rfl, rfl⟩
set_option maxRecDepth 100000 in
theorem is_err (n k : Int) (h : n ≠ 0) (w : World) : Calls Try.prog 17 #[errv n, .int .i64 k] w (Ret (.bool (n == k)) w) := by
  go_enter Try.func17, Try.ntmps17
  go_wp2_with fail
  refine (num_err n h _).mono ?_
  rintro e w' ⟨rfl, rfl⟩
  go_wp2
  go_ret
  exact ⟨rfl, rfl⟩
end Go.Proofs.Ythglbipcfhdoaaa
