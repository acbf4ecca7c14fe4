/- package sketch: powers, put, Put, New. -/
import Derived.Test.YthglbipcfhdoaaaMassey4
import Derived.Test.YthglbipcfhdoaaaSk1
import Derived.Test.YthglbipcfhdoaaaSkDef
import Derived.Test.YthglbipcfhdoaaaRootsA
namespace Go.Proofs.Ythglbipcfhdoaaa
open Go.RowKit

/-- A sketch in memory: its own block b, its sums' row g. -/
structure Sk (w : World) (B b g c : Nat) (s : List Goss.F) : Prop where
  ptr : w.cell? ⟨b, 0, none⟩ = some (.slice (some ⟨g, 0, none⟩) s.length c)
  low : B ≤ b
  lt : b < w.heap.size
  own : Own w B (.slice (some ⟨g, 0, none⟩) s.length c) s
  ne : b ≠ g
theorem Sk.below {w w' : World} {B b g c : Nat} {s : List Goss.F} (h : Sk w B b g c s) (hb : Below w.heap.size w w') : Sk w' B b g c s :=
  ⟨(hb.cell (p := ⟨b, 0, none⟩) h.lt).trans h.ptr, h.low, Nat.lt_of_lt_of_le h.lt hb.size, h.own.below hb, h.ne⟩
theorem Sk.mono {w : World} {B B' b g c : Nat} {s : List Goss.F} (h : Sk w B b g c s) (hB : B' ≤ B) : Sk w B' b g c s :=
  ⟨h.ptr, Nat.le_trans hB h.low, h.lt, h.own.mono hB, h.ne⟩

/-- The sums under way in 'put'. -/
def PutTo (s : List Goss.F) (id t : Goss.F) (cur : List Goss.F) (j : Nat) (idj : Goss.F) : Prop :=
  ∃ dn, dn.length = j ∧ cur = dn ++ s.drop j ∧ dn ++ Goss.addPow (s.drop j) idj t = Goss.addPow s id t
theorem PutTo.start (s : List Goss.F) (id t : Goss.F) : PutTo s id t s 0 id := ⟨[], rfl, by simp, by simp⟩
theorem PutTo.step {s cur : List Goss.F} {id t idj x : Goss.F} {j : Nat} (h : PutTo s id t cur j idj) (hx : cur[j]? = some x) :
    PutTo s id t (cur.set j (x ^^^ idj)) (j + 1) (Goss.tabMul t idj) := by
  obtain ⟨dn, h1, h2, h3⟩ := h
  subst h1
  rw [h2, List.getElem?_append_right (Nat.le_refl _), Nat.sub_self, List.getElem?_drop, Nat.add_zero] at hx
  obtain ⟨hlt, hx⟩ := List.getElem?_eq_some_iff.1 hx
  have hd := List.drop_eq_getElem_cons hlt
  rw [hx] at hd
  refine ⟨dn ++ [x ^^^ idj], by simp, ?_, ?_⟩
  · rw [h2, List.set_append_right _ _ (Nat.le_refl _), Nat.sub_self, hd]
    simp
  · rw [hd, Goss.addPow] at h3
    rw [← h3]
    simp
theorem PutTo.done {s cur : List Goss.F} {id t idj : Goss.F} {j : Nat} (h : PutTo s id t cur j idj) (hj : s.length = j) : cur = Goss.addPow s id t := by
  obtain ⟨dn, h1, h2, h3⟩ := h
  subst hj
  rw [List.drop_length] at h2 h3
  rw [h2, ← h3]
  rfl

set_option maxRecDepth 100000 in
set_option maxHeartbeats 1000000 in
theorem putS_any (B g n c : Nat) (s : List Goss.F) (id : Goss.F) (w : World) (h : Own w B (.slice (some ⟨g, 0, none⟩) n c) s) :
    Calls Try.prog 55 #[.slice (some ⟨g, 0, none⟩) n c, .int .u32 id.toNat] w (SortEnd g n c B (Goss.putS s id) w) := by
  have hnl := h.sl.len
  have hcm : n ≤ 9223372036854775807 := by have := hnl.2; unfold maxLen at this; omega
  obtain ⟨R, hR⟩ : ∃ R, Goss.putS s id = R := ⟨_, rfl⟩
  rw [hR]
  have HR : Hid (Goss.addPow s id (Goss.sq id) = R) := hR
  clear hR
  have hsq := square_any id w
  obtain ⟨t, ht⟩ : ∃ t, Goss.sq id = t := ⟨_, rfl⟩
  rw [ht] at hsq
  have Ht := Lib.hid ht; clear ht
  have hnl := hnl.1
  have Hnl := Lib.hid hnl; clear hnl
  go_enter Try.func55, Try.ntmps55
  go_wp2_with fail
  refine hsq.mono ?_
  rintro e w1 ⟨rfl, hb1⟩
  subst hb1
  go_wp2_with fail
  refine (by_any t w).mono ?_
  rintro e w2 ⟨rfl, htb, hb2⟩
  have ho2 := h.below hb2
  have hgT : g < w.heap.size := h.lt.2
  have hTw : w.heap.size ≤ w2.heap.size := hb2.size
  have hgr2 := grown_of_below hb2 (some g)
  have hBg := h.lt.1
  generalize hT : w.heap.size = T at *
  have HT := Lib.hid hT; clear hT
  clear h hb2
  go_wp2_with fail
  go_loopw [1, 11] (fun vid vi wr => ∃ (j : Nat) (cur : List Goss.F) (idj : Goss.F), j ≤ n ∧ vi = .int .i64 j ∧ vid = .int .u32 idj.toNat ∧ Hid (PutTo s id t cur j idj) ∧ Own wr B (.slice (some ⟨g, 0, none⟩) n c) cur ∧ TabAt t T 1024 wr ∧ w.grownBy wr (some g)) (fun _ vi _ => n - (intOf vi).toNat)
  case atStart => exact ⟨0, s, id, by omega, rfl, rfl, PutTo.start _ _ _, ho2, htb, hgr2⟩
  case round =>
    clear ho2 htb hgr2 hTw
    obtain ⟨j, cur, idj, hj, rfl, rfl, hx, how, htw, hgr⟩ := hrel
    by_cases hlt : j < n
    · obtain ⟨x, hx0, hxc, hxf⟩ := how.read (k := j) (by omega)
      have hx1 := hx.out.step hx0
      have Hx1 := Lib.hid hx1; clear hx1
      have hlti : (j : Int) < n := by omega
      have how2 := how.stored j (x ^^^ idj)
      have htw2 : TabAt t T 1024 (wr.setCell ⟨g, j, none⟩ (.int .u32 (x ^^^ idj).toNat)) := by
        obtain ⟨tc, h1, h2, h3⟩ := htw
        exact ⟨tc, by rw [Below.heap_setCell wr _ _ T (by show T ≠ g; omega)]; exact h1, h2, h3⟩
      have hgr2 := hgr.trans' (grown_store wr g j (.int .u32 (x ^^^ idj).toNat))
      have hxe : bits .xor .u32 (x.toNat : Int) (idj.toNat : Int) = ((x ^^^ idj).toNat : Int) := u32_xor _ _
      obtain ⟨y, hy⟩ : ∃ y, x ^^^ idj = y := ⟨_, rfl⟩
      rw [hy] at how2 htw2 hgr2 hxe Hx1
      clear hx hx0 hy htw hgr how
      go_wp2_with fail
      refine (tmul_any t idj T _ htw2).mono ?_
      rintro e w3 ⟨rfl, hb3⟩
      go_wp2
      go_roundw
      case rel => exact ⟨j + 1, _, _, by omega, by first | rfl | go_num, rfl, Hx1, how2.below hb3, htw2.below hb3, hgr2.trans' (grown_of_below hb3 _)⟩
      case measure => first | omega | (simp [intOf]; done) | (simp [intOf]; omega)
    · obtain rfl : j = n := by omega
      go_wp2
      go_end0
      have e1 := hx.out.done Hnl.out.symm
      rw [← HR.out, Ht.out, ← e1]
      exact ⟨rfl, how, hgr⟩
end Go.Proofs.Ythglbipcfhdoaaa
/- package sketch: Put, New, Capacity. -/
namespace Go.Proofs.Ythglbipcfhdoaaa
open Go.RowKit

def SkPutEnd (B b g c : Nat) (s : List Goss.F) (w : World) (e : Ending) (w' : World) : Prop :=
  e = .returned .nilIface ∧ Sk w' B b g c s ∧ w.grownBy w' (some g)
theorem putS_ne (s : List Goss.F) (id : Goss.F) : (Goss.putS s id).length = s.length := Goss.putS_length s id

set_option maxRecDepth 100000 in
set_option maxHeartbeats 1000000 in
theorem put_nil (v : Value) (w : World) : Calls Try.prog 28 #[.pointer none, v] w (Ret (errv 1) w) := by
  go_enter Try.func28, Try.ntmps28
  go_wp2
  go_ret
  exact ⟨rfl, rfl⟩
set_option maxRecDepth 100000 in
set_option maxHeartbeats 1000000 in
theorem put_zero (b : Nat) (v : Value) (ids : List Goss.F) (w : World) (hi : Sl w v ids) (h0 : 0#32 ∈ ids) : Calls Try.prog 28 #[.pointer (some ⟨b, 0, none⟩), v] w (Ret (errv 1) w) := by
  have hc := contains_any v ids 0#32 w hi
  rw [decide_eq_true h0] at hc
  go_enter Try.func28, Try.ntmps28
  go_wp2_with fail
  refine hc.mono ?_
  rintro e w1 ⟨rfl, rfl⟩
  go_wp2
  go_ret
  exact ⟨rfl, rfl⟩
set_option maxRecDepth 100000 in
set_option maxHeartbeats 1000000 in
theorem put_ok (B b g c : Nat) (s : List Goss.F) (v : Value) (ids : List Goss.F) (w : World) (h : Sk w B b g c s) (hi : Sl w v ids) (hg : ∀ k, v.ownBlock = some k → k ≠ g) (h0 : 0#32 ∉ ids) :
    Calls Try.prog 28 #[.pointer (some ⟨b, 0, none⟩), v] w (SkPutEnd B b g c (ids.foldl Goss.putS s) w) := by
  obtain ⟨p1, c1, rfl⟩ := hi.shape
  have hc := contains_any _ ids 0#32 w hi
  rw [decide_eq_false h0] at hc
  clear h0
  have hl63 := hi.len'
  unfold maxLen at hl63
  obtain ⟨R, hR⟩ : ∃ R, ids.foldl Goss.putS s = R := ⟨_, rfl⟩
  rw [hR]
  have HR := Lib.hid hR; clear hR
  generalize hm : ids.length = m at *
  have Hm := Lib.hid hm; clear hm
  generalize hn : s.length = n at *
  have Hn := Lib.hid hn; clear hn
  have Hg := Lib.hid hg; clear hg
  go_enter Try.func28, Try.ntmps28
  go_wp2_with fail
  refine hc.mono ?_
  rintro e w1 ⟨rfl, rfl⟩
  go_wp2_with fail
  go_loopw [16] (fun vi wr => ∃ (j : Nat) (cur : List Goss.F), j ≤ m ∧ vi = .int .i64 j ∧ Hid (cur = (ids.take j).foldl Goss.putS s) ∧ Hid (cur.length = n) ∧ Sk wr B b g c cur ∧ w.grownBy wr (some g)) (fun vi _ => m - (intOf vi).toNat)
  case atStart => exact ⟨0, s, by omega, rfl, (by simp : s = _), Hn, h, grown_refl _ _⟩
  case round =>
    obtain ⟨j, cur, hj, rfl, hx, hlen, hsk, hgr⟩ := hrel
    have hir : Sl wr (.slice p1 m c1) ids := hi.grown hgr fun b' o' n' c' e he => by
      cases e
      exact Hg.out b' rfl (Option.some.inj he)
    by_cases hlt : j < m
    · obtain ⟨b1, o1, x, rfl, hx0, hxc⟩ := hir.read (k := j) hlt
      have hlti : (j : Int) < m := by omega
      have hptr := hsk.ptr
      have hown := hsk.own
      rw [hlen.out] at hptr hown
      have hput := putS_any B g n c cur x wr hown
      have hx1 : Hid (Goss.putS cur x = (ids.take (j + 1)).foldl Goss.putS s) := by
        show _ = _
        obtain ⟨hl, hxe⟩ := List.getElem?_eq_some_iff.1 hx0
        rw [List.take_succ_eq_append_getElem hl, List.foldl_append, ← hx.out, hxe]
        rfl
      clear hx0
      go_wp2_with fail
      refine hput.mono ?_
      rintro e w3 ⟨rfl, ho3, hg3⟩
      have hb3 : b ≠ g := hsk.ne
      go_wp2
      go_roundw
      case rel =>
        have hl1 : (Goss.putS cur x).length = n := by rw [Goss.putS_length]; exact hlen.out
        refine ⟨j + 1, _, by omega, by first | rfl | go_num, hx1, hl1, ⟨?_, hsk.low, Nat.lt_of_lt_of_le hsk.lt hg3.size, by rw [hl1]; exact ho3, hsk.ne⟩, hgr.trans' hg3⟩
        rw [hl1, World.cell?_of_block (w := wr) (a := ⟨b, 0, none⟩) (hg3.block b hsk.lt (fun e => hb3 (Option.some.inj e)))]
        exact hptr
      case measure => first | omega | (simp [intOf]; done) | (simp [intOf]; omega)
    · obtain rfl : j = m := by omega
      go_wp2
      go_ret
      have e1 := hx.out
      rw [← Hm.out, List.take_length, HR.out] at e1
      rw [← e1]
      exact ⟨rfl, hsk, hgr⟩
end Go.Proofs.Ythglbipcfhdoaaa
/- package sketch: New, Capacity, powers. -/
namespace Go.Proofs.Ythglbipcfhdoaaa
open Go.RowKit

def NewEnd (s : List Goss.F) (w : World) (e : Ending) (w' : World) : Prop :=
  ∃ b g c, e = .returned (.tuple #[.pointer (some ⟨b, 0, none⟩), .nilIface]) ∧ Sk w' w.heap.size b g c s ∧ Below w.heap.size w w'
set_option maxRecDepth 100000 in
set_option maxHeartbeats 1000000 in
theorem new_range (cap : Int) (v : Value) (w : World) (h : ¬ (1 ≤ cap ∧ cap ≤ 40)) :
    Calls Try.prog 11 #[.int .i64 cap, v] w (Ret (.tuple #[.pointer none, errv 1]) w) := by
  go_enter Try.func11, Try.ntmps11
  by_cases h1 : cap < 1
  · have hd : decide (cap < 1) = true := decide_eq_true h1
    go_wp2
    go_ret2
    exact ⟨rfl, rfl⟩
  · have hd : decide (cap < 1) = false := decide_eq_false h1
    have hd2 : decide ((40 : Int) < cap) = true := decide_eq_true (by omega)
    go_wp2
    go_ret2
    exact ⟨rfl, rfl⟩
theorem Sk.fresh {w : World} {B g c : Nat} {s : List Goss.F} (h : Own w B (.slice (some ⟨g, 0, none⟩) s.length c) s) (hB : B ≤ w.heap.size) :
    Sk (w.alloc (.cells #[.slice (some ⟨g, 0, none⟩) s.length c] 73)) B w.heap.size g c s := by
  refine ⟨?_, hB, by simp, h.below ((Below.refl _ _).alloc (Nat.le_refl _) _), ?_⟩
  · rw [cell_of_row (w.alloc _) w.heap.size 0 _ _ (0, 0) (heap_alloc_new w _)]; rfl
  · have := h.lt.2; omega
set_option maxRecDepth 100000 in
set_option maxHeartbeats 1000000 in
theorem new_zero (cap : Int) (v : Value) (ids : List Goss.F) (w : World) (h : 1 ≤ cap ∧ cap ≤ 40) (hi : Sl w v ids) (h0 : 0#32 ∈ ids) :
    Calls Try.prog 11 #[.int .i64 cap, v] w (Gives (.tuple #[.pointer none, errv 1]) w) := by
  obtain ⟨n, rfl⟩ : ∃ n : Nat, cap = (n : Int) := ⟨cap.toNat, by omega⟩
  have hd : decide ((n : Int) < 1) = false := decide_eq_false (by omega)
  have hd2 : decide ((40 : Int) < (n : Int)) = false := decide_eq_false (by omega)
  have hl63 := hi.len'
  generalize hB : w.heap.size = B at *
  have HB := Lib.hid hB; clear hB
  have hBw : B ≤ w.heap.size := by rw [HB.out]; exact Nat.le_refl _
  go_enter Try.func11, Try.ntmps11
  go_wp2_with (at_make; refine mk_own rfl _ _ rfl B .i64 .i64 _ _ n rfl rfl rfl rfl (by omega) hBw ?_)
  intro w1 ho1 hg1
  have hb1 : Below w.heap.size w w1 := (Below.refl _ _).grown hg1 (Nat.le_refl _) (fun k hk => by cases hk)
  have hi1 := hi.below hb1
  have hsk : Sk (w1.alloc (.cells #[.slice (some ⟨w.heap.size, 0, none⟩) n n] 73)) B w1.heap.size w.heap.size n (List.replicate n 0#32) := by
    have := Sk.fresh (s := List.replicate n 0#32) (by rw [List.length_replicate]; exact ho1) (by rw [← HB.out]; exact hb1.size)
    rw [List.length_replicate] at this
    exact this
  have hi2 := hi1.below ((Below.refl _ w1).alloc (o := .cells #[.slice (some ⟨w.heap.size, 0, none⟩) n n] 73) (Nat.le_refl _))
  have hbA : Below B w (w1.alloc (.cells #[.slice (some ⟨w.heap.size, 0, none⟩) n n] 73)) := (hb1.mono hBw).alloc (by have := hb1.size; omega) _
  go_wp2_with fail
  refine (put_zero w1.heap.size v ids _ hi2 h0).mono ?_
  rintro e w3 ⟨rfl, rfl⟩
  go_wp2
  go_ret2
  exact ⟨rfl, hbA.mono (by rw [HB.out]; exact Nat.le_refl _)⟩
set_option maxRecDepth 100000 in
set_option maxHeartbeats 1000000 in
theorem new_ok (n : Nat) (v : Value) (ids : List Goss.F) (w : World) (h1 : 1 ≤ n) (h40 : n ≤ 40) (hi : Sl w v ids) (h0 : 0#32 ∉ ids) :
    Calls Try.prog 11 #[.int .i64 n, v] w (NewEnd (Goss.newS n ids) w) := by
  have hd : decide ((n : Int) < 1) = false := decide_eq_false (by omega)
  have hd2 : decide ((40 : Int) < (n : Int)) = false := decide_eq_false (by omega)
  have hl63 := hi.len'
  have hvb := hi.blkLt
  generalize hB : w.heap.size = B at *
  have HB := Lib.hid hB; clear hB
  have hBw : B ≤ w.heap.size := by rw [HB.out]; exact Nat.le_refl _
  go_enter Try.func11, Try.ntmps11
  go_wp2_with (at_make; refine mk_own rfl _ _ rfl B .i64 .i64 _ _ n rfl rfl rfl rfl (by omega) hBw ?_)
  intro w1 ho1 hg1
  have hb1 : Below w.heap.size w w1 := (Below.refl _ _).grown hg1 (Nat.le_refl _) (fun k hk => by cases hk)
  have hi1 := hi.below hb1
  have hsk : Sk (w1.alloc (.cells #[.slice (some ⟨w.heap.size, 0, none⟩) n n] 73)) B w1.heap.size w.heap.size n (List.replicate n 0#32) := by
    have := Sk.fresh (s := List.replicate n 0#32) (by rw [List.length_replicate]; exact ho1) (by rw [← HB.out]; exact hb1.size)
    rw [List.length_replicate] at this
    exact this
  have hi2 := hi1.below ((Below.refl _ w1).alloc (o := .cells #[.slice (some ⟨w.heap.size, 0, none⟩) n n] 73) (Nat.le_refl _))
  have hbA : Below B w (w1.alloc (.cells #[.slice (some ⟨w.heap.size, 0, none⟩) n n] 73)) := (hb1.mono hBw).alloc (by have := hb1.size; omega) _
  have hput := put_ok B w1.heap.size w.heap.size n _ v ids _ hsk hi2 (fun k hk => by have := hvb k hk; have := HB.out; omega) h0
  have hzA := hbA.size
  change Calls _ _ _ _ (SkPutEnd B w1.heap.size w.heap.size n (Goss.newS n ids) _) at hput
  generalize Goss.newS n ids = R at *
  have Hput := Lib.hid hput; clear hput
  go_wp2_with fail
  refine Hput.out.mono ?_
  rintro e w3 ⟨rfl, hs3, hg3⟩
  have hb3 := hbA.grown hg3 (Nat.le_trans hBw hzA) (fun k hk => by cases hk; exact hBw)
  go_wp2
  go_ret2
  exact ⟨_, _, _, rfl, by rw [HB.out]; exact hs3, by rw [HB.out]; exact hb3⟩

set_option maxRecDepth 100000 in
theorem capacity_any (B b g c : Nat) (s : List Goss.F) (w : World) (h : Sk w B b g c s) :
    Calls Try.prog 13 #[.pointer (some ⟨b, 0, none⟩)] w (Ret (.int .i64 (s.length : Int)) w) := by
  have hp := h.ptr
  go_enter Try.func13, Try.ntmps13
  go_wp2
  go_ret
  exact ⟨rfl, rfl⟩
set_option maxRecDepth 100000 in
theorem capacity_nil (w : World) :
    Calls Try.prog 13 #[.pointer none] w (Ret (.int .i64 0) w) := by
  go_enter Try.func13, Try.ntmps13
  go_wp2
  go_ret
  exact ⟨rfl, rfl⟩

/-- The powers under way. -/
def PowTo (s cur : List Goss.F) (N j : Nat) : Prop := cur = Goss.powersTo s j ++ List.replicate (N - j) 0#32
theorem PowTo.start (s : List Goss.F) (N : Nat) : PowTo s (List.replicate N 0#32) N 0 := by simp [PowTo, Goss.powersTo]
theorem PowTo.step {s cur : List Goss.F} {N j : Nat} (h : PowTo s cur N j) (hj : j < N) (x : Goss.F)
    (hx : x = if j % 2 = 0 then (s[j / 2]?).getD 0#32 else Goss.sq (((Goss.powersTo s j)[j / 2]?).getD 0#32)) : PowTo s (cur.set j x) N (j + 1) := by
  unfold PowTo at h ⊢
  subst h
  have hl := Goss.powersTo_length s j
  rw [List.set_append_right _ _ (by omega), hl, Nat.sub_self, show N - j = (N - (j + 1)) + 1 from by omega, List.replicate_succ, List.set_cons_zero, Goss.powersTo, ← hx]
  simp
theorem PowTo.at {s cur : List Goss.F} {N j k : Nat} (h : PowTo s cur N j) (hk : k < j) : cur[k]? = (Goss.powersTo s j)[k]? := by
  unfold PowTo at h
  subst h
  have hl := Goss.powersTo_length s j
  rw [List.getElem?_append_left (by omega)]

set_option maxRecDepth 100000 in
set_option maxHeartbeats 2000000 in
theorem powers_any (B0 b g0 c0 : Nat) (s : List Goss.F) (w : World) (h : Sk w B0 b g0 c0 s) (hl : s.length ≤ 1000) :
    Calls Try.prog 36 #[.pointer (some ⟨b, 0, none⟩)] w (New (Goss.powersP s) w) := by
  have hb0 := h.lt
  have hg0 := h.own.lt.2
  generalize hB : w.heap.size = B at *
  have HB := Lib.hid hB; clear hB
  have hBw : B ≤ w.heap.size := by rw [HB.out]; exact Nat.le_refl _
  obtain ⟨m, hm⟩ : ∃ m, s.length = m := ⟨_, rfl⟩
  rw [hm] at hl
  have hptr := h.ptr
  rw [hm] at hptr
  obtain ⟨N, hN⟩ : ∃ N, 2 * m = N := ⟨_, rfl⟩
  have HR : Hid (Goss.powersTo s N = Goss.powersP s) := by show _ = _; rw [Goss.powersP, hm, hN]
  generalize Goss.powersP s = R at *
  have Hm := Lib.hid hm; clear hm
  have eN : IntKind.i64.wrap (2 * (m : Int)) = (N : Int) := by rw [IntWalk.i64_in _ (by omega)]; omega
  go_enter Try.func36, Try.ntmps36
  go_wp2_with (at_make; refine mk_own rfl _ _ rfl B .i64 .i64 _ _ N rfl rfl (by omega) (by omega) (by omega) hBw ?_)
  intro w1 ho1 hg1
  have hb1 : Below B w w1 := (Below.refl _ _).grown hg1 hBw (fun k hk => by cases hk)
  have hX : w.heap.size = B := HB.out
  rw [hX] at ho1
  rw [hX]
  clear hg1
  go_wp2_with fail
  go_loopw [14] (fun vi wr => ∃ (j : Nat) (cur : List Goss.F), j ≤ N ∧ vi = .int .i64 j ∧ Hid (PowTo s cur N j) ∧ Own wr B (.slice (some ⟨B, 0, none⟩) N N) cur ∧ Below B w wr) (fun vi _ => N - (intOf vi).toNat)
  case atStart => exact ⟨0, _, by omega, rfl, PowTo.start s N, ho1, hb1⟩
  case round =>
    clear ho1 hb1
    obtain ⟨j, cur, hj, rfl, hx, how, hbw⟩ := hrel
    have hskr : Sk wr B0 b g0 c0 s := h.below (by rw [HB.out]; exact hbw)
    have hptr' := hskr.ptr
    rw [Hm.out] at hptr'
    by_cases hlt : j < N
    · have hlti : (j : Int) < N := by omega
      have hj20 : (0 : Int) ≤ (j : Int) / 2 := by omega
      have hj2m : (j : Int) / 2 < (m : Int) := by omega
      have hj2n : (j : Int) / 2 < (N : Int) := by omega
      have hj2 : ((j : Int) / 2).toNat = j / 2 := by omega
      obtain ⟨z, hz0, hzc, hzf⟩ := how.read (k := j) (by omega)
      clear hz0
      by_cases hev : j % 2 = 0
      · have he : ((j : Int).tmod 2 == 0) = true := by rw [Int.tmod_eq_emod_of_nonneg (by omega), beq_iff_eq]; omega
        have hskr' := hskr.own
        rw [Hm.out] at hskr'
        obtain ⟨x, hx0, hxc, hxf⟩ := hskr'.read (k := j / 2) (by omega)
        have hx1 := hx.out.step hlt x (by rw [if_pos hev, hx0]; rfl)
        have Hx1 := Lib.hid hx1; clear hx1 hx0
        have how2 := how.stored j x
        have hbw2 := hbw.setCell (p := ⟨B, j, none⟩) (Nat.le_refl _) (.int .u32 x.toNat)
        clear h hskr
        go_wp2
        go_roundw
        case rel => exact ⟨j + 1, _, by omega, by first | rfl | go_num, Hx1, how2, hbw2⟩
        case measure => first | omega | (simp [intOf]; done) | (simp [intOf]; omega)
      · have he : ((j : Int).tmod 2 == 0) = false := by rw [Int.tmod_eq_emod_of_nonneg (by omega), beq_eq_false_iff_ne]; omega
        obtain ⟨x, hx0, hxc, hxf⟩ := how.read (k := j / 2) (by omega)
        have hx1 := hx.out.step hlt (Goss.sq x) (by rw [if_neg hev, ← hx.out.at (by omega), hx0]; rfl)
        have hsq := square_any x wr
        generalize Goss.sq x = y at *
        have Hx1 := Lib.hid hx1; clear hx1 hx0
        have how2 := how.stored j y
        have hbw2 := hbw.setCell (p := ⟨B, j, none⟩) (Nat.le_refl _) (.int .u32 y.toNat)
        clear h hskr
        go_wp2_with fail
        refine hsq.mono ?_
        rintro e w3 ⟨rfl, rfl⟩
        go_wp2
        go_roundw
        case rel => exact ⟨j + 1, _, by omega, by first | rfl | go_num, Hx1, how2, hbw2⟩
        case measure => first | omega | (simp [intOf]; done) | (simp [intOf]; omega)
    · obtain rfl : j = N := by omega
      go_wp2
      go_ret
      have e1 := hx.out
      unfold PowTo at e1
      rw [Nat.sub_self, List.replicate_zero, List.append_nil, HR.out] at e1
      refine ⟨_, rfl, ?_, by rw [HB.out]; exact hbw⟩
      rw [HB.out, ← e1]
      exact how
end Go.Proofs.Ythglbipcfhdoaaa
