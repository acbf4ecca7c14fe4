/- package sketch: powers, put, Put, New. -/
import Derived.Test.YthglbipcfhdoaaaMassey4
import Derived.Test.YthglbipcfhdoaaaSk1
import Derived.Test.YthglbipcfhdoaaaSkDef
import Derived.Test.YthglbipcfhdoaaaRoots1
namespace Go.Proofs.Ythglbipcfhdoaaa
open Go.RowKit

/-- A sketch in memory: its own block b, its sums' row g. -/
structure Sk (w : World) (B b g c : Nat) (s : List Goss.F) : Prop where
  ptr : w.cell? ⟨b, 0, none⟩ = some (.slice (some ⟨g, 0, none⟩) s.length c)
  low : B ≤ b
  lt : b < w.heap.size
  own : Own w B (.slice (some ⟨g, 0, none⟩) s.length c) s
  ne : b ≠ g
theorem Sk.below {w w' : World} {B b g c : Nat} {s : List Goss.F} (h : Sk w B b g c s) (hb : Below w.heap.size w w') : Sk w' B b g c s :=
  ⟨(hb.cell (p := ⟨b, 0, none⟩) h.lt).trans h.ptr, h.low, Nat.lt_of_lt_of_le h.lt hb.size, h.own.below hb, h.ne⟩
theorem Sk.mono {w : World} {B B' b g c : Nat} {s : List Goss.F} (h : Sk w B b g c s) (hB : B' ≤ B) : Sk w B' b g c s :=
  ⟨h.ptr, Nat.le_trans hB h.low, h.lt, h.own.mono hB, h.ne⟩

/-- The sums under way in 'put'. -/
def PutTo (s : List Goss.F) (id t : Goss.F) (cur : List Goss.F) (j : Nat) (idj : Goss.F) : Prop :=
  ∃ dn, dn.length = j ∧ cur = dn ++ s.drop j ∧ dn ++ Goss.addPow (s.drop j) idj t = Goss.addPow s id t
theorem PutTo.start (s : List Goss.F) (id t : Goss.F) : PutTo s id t s 0 id := ⟨[], rfl, by simp, by simp⟩
theorem PutTo.step {s cur : List Goss.F} {id t idj x : Goss.F} {j : Nat} (h : PutTo s id t cur j idj) (hx : cur[j]? = some x) :
    PutTo s id t (cur.set j (x ^^^ idj)) (j + 1) (Goss.tabMul t idj) := by
  obtain ⟨dn, h1, h2, h3⟩ := h
  subst h1
  rw [h2, List.getElem?_append_right (Nat.le_refl _), Nat.sub_self, List.getElem?_drop, Nat.add_zero] at hx
  obtain ⟨hlt, hx⟩ := List.getElem?_eq_some_iff.1 hx
  have hd := List.drop_eq_getElem_cons hlt
  rw [hx] at hd
  refine ⟨dn ++ [x ^^^ idj], by simp, ?_, ?_⟩
  · rw [h2, List.set_append_right _ _ (Nat.le_refl _), Nat.sub_self, hd]
    simp
  · rw [hd, Goss.addPow] at h3
    rw [← h3]
    simp
theorem PutTo.done {s cur : List Goss.F} {id t idj : Goss.F} {j : Nat} (h : PutTo s id t cur j idj) (hj : s.length = j) : cur = Goss.addPow s id t := by
  obtain ⟨dn, h1, h2, h3⟩ := h
  subst hj
  rw [List.drop_length] at h2 h3
  rw [h2, ← h3]
  rfl

set_option maxRecDepth 100000 in
set_option maxHeartbeats 1000000 in
theorem putS_any (B g n c : Nat) (s : List Goss.F) (id : Goss.F) (w : World) (h : Own w B (.slice (some ⟨g, 0, none⟩) n c) s) :
    Calls Try.prog 55 #[.slice (some ⟨g, 0, none⟩) n c, .int .u32 id.toNat] w (SortEnd g n c B (Goss.putS s id) w) := by
  have hnl := h.sl.len
  have hcm : n ≤ 9223372036854775807 := by have := hnl.2; unfold maxLen at this; omega
  obtain ⟨R, hR⟩ : ∃ R, Goss.putS s id = R := ⟨_, rfl⟩
  rw [hR]
  have HR : Hid (Goss.addPow s id (Goss.sq id) = R) := hR
  clear hR
  have hsq := square_any id w
  obtain ⟨t, ht⟩ : ∃ t, Goss.sq id = t := ⟨_, rfl⟩
  rw [ht] at hsq
  have Ht := Lib.hid ht; clear ht
  have hnl := hnl.1
  have Hnl := Lib.hid hnl; clear hnl
  go_enter Try.func55, Try.ntmps55
  go_wp2_with fail
  refine hsq.mono ?_
  rintro e w1 ⟨rfl, hb1⟩
  subst hb1
  go_wp2_with fail
  refine (by_any t w).mono ?_
  rintro e w2 ⟨rfl, htb, hb2⟩
  have ho2 := h.below hb2
  have hgT : g < w.heap.size := h.lt.2
  have hTw : w.heap.size ≤ w2.heap.size := hb2.size
  have hgr2 := grown_of_below hb2 (some g)
  have hBg := h.lt.1
  generalize hT : w.heap.size = T at *
  have HT := Lib.hid hT; clear hT
  clear h hb2
  go_wp2_with fail
  go_loopw [1, 11] (fun vid vi wr => ∃ (j : Nat) (cur : List Goss.F) (idj : Goss.F), j ≤ n ∧ vi = .int .i64 j ∧ vid = .int .u32 idj.toNat ∧ Hid (PutTo s id t cur j idj) ∧ Own wr B (.slice (some ⟨g, 0, none⟩) n c) cur ∧ TabAt t T 1024 wr ∧ w.grownBy wr (some g)) (fun _ vi _ => n - (intOf vi).toNat)
  case atStart => exact ⟨0, s, id, by omega, rfl, rfl, PutTo.start _ _ _, ho2, htb, hgr2⟩
  case round =>
    clear ho2 htb hgr2 hTw
    obtain ⟨j, cur, idj, hj, rfl, rfl, hx, how, htw, hgr⟩ := hrel
    by_cases hlt : j < n
    · obtain ⟨x, hx0, hxc, hxf⟩ := how.read (k := j) (by omega)
      have hx1 := hx.out.step hx0
      have Hx1 := Lib.hid hx1; clear hx1
      have hlti : (j : Int) < n := by omega
      have how2 := how.stored j (x ^^^ idj)
      have htw2 : TabAt t T 1024 (wr.setCell ⟨g, j, none⟩ (.int .u32 (x ^^^ idj).toNat)) := by
        obtain ⟨tc, h1, h2, h3⟩ := htw
        exact ⟨tc, by rw [Below.heap_setCell wr _ _ T (by show T ≠ g; omega)]; exact h1, h2, h3⟩
      have hgr2 := hgr.trans' (grown_store wr g j (.int .u32 (x ^^^ idj).toNat))
      have hxe : bits .xor .u32 (x.toNat : Int) (idj.toNat : Int) = ((x ^^^ idj).toNat : Int) := u32_xor _ _
      obtain ⟨y, hy⟩ : ∃ y, x ^^^ idj = y := ⟨_, rfl⟩
      rw [hy] at how2 htw2 hgr2 hxe Hx1
      clear hx hx0 hy htw hgr how
      go_wp2_with fail
      refine (tmul_any t idj T _ htw2).mono ?_
      rintro e w3 ⟨rfl, hb3⟩
      go_wp2
      go_roundw
      case rel => exact ⟨j + 1, _, _, by omega, by first | rfl | go_num, rfl, Hx1, how2.below hb3, htw2.below hb3, hgr2.trans' (grown_of_below hb3 _)⟩
      case measure => first | omega | (simp [intOf]; done) | (simp [intOf]; omega)
    · obtain rfl : j = n := by omega
      go_wp2
      go_end0
      have e1 := hx.out.done Hnl.out.symm
      rw [← HR.out, Ht.out, ← e1]
      exact ⟨rfl, how, hgr⟩
end Go.Proofs.Ythglbipcfhdoaaa
