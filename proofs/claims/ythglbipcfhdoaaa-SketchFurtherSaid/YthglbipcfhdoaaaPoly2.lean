/- slices.Clone; poly: Trim, put, Scale. -/
import Derived.Test.YthglbipcfhdoaaaPoly1
import Derived.Test.YthglbipcfhdoaaaApp
namespace Go.Proofs.Ythglbipcfhdoaaa
open Go.RowKit

/-- A new row that reads as xs; nothing that was there has turned. -/
def New (xs : List Goss.F) (w : World) (e : Ending) (w' : World) : Prop := ∃ v, e = .returned v ∧ Own w' w.heap.size v xs ∧ Below w.heap.size w w'

set_option maxRecDepth 100000 in
set_option maxHeartbeats 400000 in
theorem clone_any (v : Value) (xs : List Goss.F) (w : World) (h : Sl w v xs) (hlen : xs.length ≤ 35184372088832) :
    Calls Try.prog 53 #[v] w (New xs w) := by
  have h0 := h
  obtain ⟨p, n, c, rfl, h2, h3, h4, h5⟩ := h
  rcases h5 with ⟨rfl, hn0, rfl⟩ | ⟨b, of, rfl, hlt, hc⟩
  · have : xs = [] := List.eq_nil_of_length_eq_zero (by omega)
    subst this
    obtain rfl : n = 0 := by omega
    clear h2 h3 h4 hn0 hlen
    have e1 := fun W => Lib.run_eql_slice_nil (P := Try.prog) W 22 55 none 0 0 0 0 Try.underlying22
    go_enter Try.func53, Try.ntmps53
    go_wp2
    go_ret
    exact ⟨_, rfl, Own.nil w _, Below.refl _ _⟩
  · clear hc h2
    have e1 := fun W => Lib.run_eql_slice_nil (P := Try.prog) W 22 55 (some ⟨b, of, none⟩) n c 0 0 Try.underlying22
    go_enter Try.func53, Try.ntmps53
    go_wp2_with (first | (at_builtin; refine app_own rfl _ _ rfl w.heap.size _ [] rfl (Own.empty w _ (Nat.le_refl _)) _ xs rfl (h0.below ((Below.refl _ _).alloc (Nat.le_refl _) _)) (by simpa using hlen) (by simp) ?_; intro v' w' hown hgr _))
    go_ret
    exact ⟨_, rfl, hown, grown_below ((Below.refl _ _).alloc (Nat.le_refl _) _) (Own.empty w w.heap.size (Nat.le_refl _)) (by simp) hgr⟩

theorem New.sl {xs : List Goss.F} {w w' : World} {v : Value} (h : Own w' w.heap.size v xs) : Sl w' v xs := h.sl

set_option maxHeartbeats 400000 in
theorem trim_any (v : Value) (xs : List Goss.F) (w : World) (h : Sl w v xs) (hlen : xs.length ≤ 35184372088832) :
    Calls Try.prog 134 #[v] w (New (Goss.trim xs) w) := by
  obtain ⟨p, c, rfl⟩ := h.shape
  have hcut := cut_any p _ c xs w h
  have hle := tlen_le xs xs.length
  go_enter Try.func134, Try.ntmps134
  go_wp2_with fail
  refine hcut.mono ?_
  rintro e w1 ⟨rfl, hb⟩
  have hs := (h.below hb).cut _ hle
  have hl : (xs.take (Goss.tlen xs xs.length)).length ≤ 35184372088832 := by rw [List.length_take]; omega
  go_wp2_with fail
  refine (clone_any _ _ w1 hs hl).mono ?_
  rintro e w2 ⟨v2, rfl, hown, hb2⟩
  go_wp2
  go_ret
  exact ⟨_, rfl, hown.mono hb.size, hb.trans (hb2.mono hb.size)⟩
theorem _root_.Go.World.grownBy.trans' {w w1 w2 : World} {row : Option Nat} (h : w.grownBy w1 row) (h2 : w1.grownBy w2 row) : w.grownBy w2 row :=
  ⟨h2.os.trans h.os, h2.tape.trans h.tape, h2.output.trans h.output, Nat.le_trans h.size h2.size, fun k hk hne => (h2.block k (Nat.lt_of_lt_of_le hk h.size) hne).trans (h.block k hk hne)⟩
theorem Sl.grown {w w' : World} {v : Value} {xs : List Goss.F} (h : Sl w v xs) {row : Option Nat} (hg : w.grownBy w' row) (hne : ∀ b o n c, v = .slice (some ⟨b, o, none⟩) n c → some b ≠ row) : Sl w' v xs := by
  obtain ⟨p, n, c, rfl, h2, h3, h4, h5⟩ := h
  refine ⟨p, n, c, rfl, h2, h3, h4, ?_⟩
  rcases h5 with h5 | ⟨b, o, rfl, hlt, hc⟩
  · exact .inl h5
  · exact .inr ⟨b, o, rfl, Nat.lt_of_lt_of_le hlt hg.size, fun i x hi => by rw [World.cell?_of_block (w := w) (a := ⟨b, o + i, none⟩) (hg.block b hlt (hne b o n c rfl))]; exact hc i x hi⟩
theorem grown_store (w : World) (g k : Nat) (u : Value) : w.grownBy (w.setCell ⟨g, k, none⟩ u) (some g) :=
  ⟨rfl, rfl, rfl, by simp [World.setCell], fun j _ hk => Below.heap_setCell w _ u j (fun e => hk (by rw [e]))⟩
theorem grown_drew (w : World) (row : Option Nat) : w.grownBy w.drew row := ⟨rfl, rfl, rfl, Nat.le_refl _, fun _ _ _ => rfl⟩
theorem grown_refl (w : World) (row : Option Nat) : w.grownBy w row := ⟨rfl, rfl, rfl, Nat.le_refl _, fun _ _ _ => rfl⟩
theorem addAt_length (a : List Goss.F) (i : Nat) (x : Goss.F) : (Goss.addAt a i x).length = a.length := List.length_set
theorem putP_length (xs : List Goss.F) : ∀ (ts : List Goss.F) (k : Goss.F) (up : Nat), (Goss.putP ts xs k up).length = ts.length := by
  induction xs with
  | nil => intro ts k up; rfl
  | cons c a ih => intro ts k up; rw [Goss.putP, ih, addAt_length]

/-- The rest of the places written: one row, its elements, what else there is. -/
def PutEnd (g n c B : Nat) (zs : List Goss.F) (w : World) (e : Ending) (w' : World) : Prop :=
  e = .returned (.tuple #[]) ∧ Own w' B (.slice (some ⟨g, 0, none⟩) n c) zs ∧ w.grownBy w' (some g)

set_option maxRecDepth 100000 in
set_option maxHeartbeats 1000000 in
theorem put_any (B g n c : Nat) (tos : List Goss.F) (va : Value) (xs : List Goss.F) (k : Goss.F) (up : Nat) (w : World)
    (ho : Own w B (.slice (some ⟨g, 0, none⟩) n c) tos) (ha : Sl w va xs) (hne : ∀ b o n c, va = .slice (some ⟨b, o, none⟩) n c → b ≠ g) (hfit : up + xs.length ≤ n) (hbig : n ≤ 35184372088832) :
    Calls Try.prog 135 #[.slice (some ⟨g, 0, none⟩) n c, va, .int .u32 k.toNat, .int .i64 up] w (PutEnd g n c B (Goss.putP tos xs k up) w) := by
  obtain ⟨p, ca, rfl⟩ := ha.shape
  generalize hz : Goss.putP tos xs k up = zs
  have Hz := Lib.hid hz; clear hz
  generalize hm : xs.length = m at *
  have Hm := Lib.hid hm; clear hm
  go_enter Try.func135, Try.ntmps135
  go_wp2
  go_loopw [12] (fun i wr => ∃ (j : Nat) (cur : List Goss.F), j ≤ m ∧ i = .int .i64 j ∧ Hid (Goss.putP cur (xs.drop j) k (up + j) = zs) ∧ Own wr B (.slice (some ⟨g, 0, none⟩) n c) cur ∧ w.grownBy wr (some g)) (fun i _ => m - (intOf i).toNat)
  case atStart => exact ⟨0, tos, Nat.zero_le _, rfl, Hz.out, ho, grown_refl _ _⟩
  case round =>
    obtain ⟨j, cur, hj, rfl, hx, how, hgr⟩ := hrel
    by_cases hlt : j < m
    · have hs := ha.grown hgr (fun b o n c e => by have := hne b o n c e; simp; exact this)
      obtain ⟨b, o, x, rfl, hx0, hc⟩ := hs.read (k := j) (by omega)
      obtain ⟨y, hy0, hyc, hyf⟩ := how.read (k := up + j) (by omega)
      have hlti : (j : Int) < m := by omega
      have hup0 : (0 : Int) ≤ (up : Int) + j := by omega
      have hupn : (up : Int) + j < n := by omega
      have e1 : IntKind.i64.wrap ((up : Int) + j) = (up : Int) + j := IntWalk.i64_in _ (by omega)
      have e2 : ((up : Int) + j).toNat = up + j := by omega
      obtain ⟨z, hzz⟩ : ∃ z, z = y ^^^ Goss.mul x k := ⟨_, rfl⟩
      have e3 : bits .xor .u32 (y.toNat : Int) ((Goss.mul x k).toNat : Int) = (z.toNat : Int) := by rw [hzz]; exact u32_xor _ _
      have Hx0 := Lib.hid hx0; clear hx0
      have Hy0 := Lib.hid hy0; clear hy0
      have Hzz := Lib.hid hzz; clear hzz
      go_wp2_with fail
      go_still_tail 11, (by kernel_rfl)
      still_call (Ret.still (mul_any x k _))
      repeat still_step
      refine wpStill_nil ?_
      change wpList _ _ _ _ _ wr.drew
      have how2 : Own wr.drew B (.slice (some ⟨g, 0, none⟩) n c) cur := how
      have hgr2 := hgr.trans' (grown_drew wr (some g))
      clear how hgr hs hc hyc hyf
      generalize wr.drew = w2 at *
      obtain ⟨y', hy0', hyc, hyf⟩ := how2.read (k := up + j) (by omega)
      have Hy0' := Lib.hid hy0'; clear hy0'
      go_wp2
      go_roundw
      case rel =>
        refine ⟨j + 1, cur.set (up + j) z, by omega, by first | rfl | go_num, ?_, how2.stored _ _, hgr2.trans' (grown_store _ _ _ _)⟩
        have h1 := hx.out
        have hd : xs.drop j = x :: xs.drop (j + 1) := List.drop_eq_getElem_cons (by rw [Hm.out]; omega) ▸ by
          congr 1; have := Hx0.out; rw [List.getElem?_eq_getElem (by rw [Hm.out]; omega)] at this; exact Option.some.inj this
        rw [hd, Goss.putP, Goss.addAt, Hy0.out] at h1
        show Goss.putP _ _ _ _ = _
        rw [Hzz.out, ← Nat.add_assoc]; exact h1
      case measure => first | omega | (simp [intOf]; done) | (simp [intOf]; omega)
    · obtain rfl : j = m := by omega
      go_wp2
      go_end0
      refine ⟨rfl, ?_, hgr⟩
      have h1 := hx.out
      rw [List.drop_eq_nil_of_le (by rw [Hm.out]; exact Nat.le_refl _)] at h1
      rw [← h1]; exact how
end Go.Proofs.Ythglbipcfhdoaaa
