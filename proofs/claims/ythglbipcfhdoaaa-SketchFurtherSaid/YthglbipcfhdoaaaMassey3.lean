/- package massey: take, run, Shortest. -/
import Derived.Test.YthglbipcfhdoaaaMassey2
namespace Go.Proofs.Ythglbipcfhdoaaa
open Go.RowKit

theorem Sl.storeX {w : World} {v : Value} {xs : List Goss.F} (h : Sl w v xs) {X j : Nat} (u : Value) (hX : ∀ k, v.ownBlock = some k → k ≠ X) : Sl (w.setCell ⟨X, j, none⟩ u) v xs :=
  h.store u fun b o n c e => by subst e; exact hX b rfl
theorem blk_set {w : World} {X : Nat} {cs : Array Value} {T : TypeId} (h : w.heap[X]? = some (.cells cs T (0, 0))) (j : Nat) (u : Value) : (w.setCell ⟨X, j, none⟩ u).heap[X]? = some (.cells (cs.setIfInBounds j u) T (0, 0)) :=
  heap_setCell_same w X j cs T u h
theorem eq_zero_test (x : Goss.F) : ((x.toNat : Int) == 0) = decide (x = 0#32) := zero_test x

/-- Behind take: the state; only its own block has turned of what was there. -/
def TakeEnd (X : Nat) (x : Goss.MSt) (w : World) (e : Ending) (w' : World) : Prop :=
  ∃ vn vo, e = .returned (.tuple #[]) ∧ StAt w' X vn vo x ∧ w.grownBy w' (some X)

theorem grown_of_below {w w' : World} (h : Below w.heap.size w w') (row : Option Nat) : w.grownBy w' row := ⟨h.os, h.tape, h.output, h.size, fun k hk _ => h.block k hk⟩

set_option maxRecDepth 100000 in
set_option maxHeartbeats 4000000 in
theorem take_any (X : Nat) (vn vo vs : Value) (x : Goss.MSt) (ss : List Goss.F) (at' : Nat) (w : World) (h : StAt w X vn vo x) (hs : Sl w vs ss) (hsX : ∀ k, vs.ownBlock = some k → k ≠ X) (hat : at' < ss.length) (hls : ss.length ≤ 1000000)
    (hn : x.now.length ≤ 999999) (ho : x.old.length ≤ 999999) (hg : x.gap ≤ 999999) (hl : x.len ≤ at') :
    Calls Try.prog 78 #[.pointer (some ⟨X, 0, none⟩), vs, .int .i64 at'] w (TakeEnd X (Goss.takeP x ss at') w) := by
  obtain ⟨c0, c1, c2, c3, c4⟩ := h.cells
  have f3 := h.free 3
  obtain ⟨now, old, len, gap, was⟩ := x
  have hblk := h.block
  have hnow := h.now; have hold := h.old; have hnX := h.nowX; have hoX := h.oldX
  simp only at c0 c1 c2 c3 c4 hblk hnow hold hn ho hg hl
  have hat2 : at' ≤ 1000000 := by omega
  obtain ⟨pn, cn, rfl⟩ := hnow.shape
  -- behind the first store
  have hst1 : StAt (w.setCell ⟨X, 3, none⟩ (.int .i64 ((gap + 1 : Nat) : Int))) X (.slice pn now.length cn) vo ⟨now, old, len, gap + 1, was⟩ :=
    ⟨blk_set hblk 3 _, hnow.storeX _ hnX, hold.storeX _ hoX, hnX, hoX⟩
  have hs1 := hs.storeX (j := 3) (.int .i64 ((gap + 1 : Nat) : Int)) hsX
  have hgr1 := grown_store w X 3 (.int .i64 ((gap + 1 : Nat) : Int))
  clear h hblk hnow hold
  have hoff := off_any _ vs now ss at' _ hst1.now hs1 hat (by omega) hls
  obtain ⟨d, hd⟩ : ∃ d, Goss.offP now ss at' = d := ⟨_, rfl⟩
  rw [hd] at hoff
  have Hd := Lib.hid hd; clear hd
  obtain ⟨Z, hZ⟩ : ∃ Z, Goss.takeP ⟨now, old, len, gap, was⟩ ss at' = Z := ⟨_, rfl⟩
  rw [hZ]
  have HZ := Lib.hid hZ; clear hZ
  have hz := zero_test d
  by_cases hd0 : d = 0#32
  · rw [decide_eq_true hd0] at hz
    have hZ2 : Z = ⟨now, old, len, gap + 1, was⟩ := by
      rw [← HZ.out]
      unfold Goss.takeP
      simp only
      rw [Hd.out, if_pos hd0]
    have HZ2 := Lib.hid hZ2
    have Hd0 := Lib.hid hd0
    clear hZ2 hd0
    go_enter Try.func78, Try.ntmps78
    go_wp2_with fail
    refine hoff.mono ?_
    rintro e w1 ⟨rfl, rfl⟩
    go_wp2
    go_end0
    rw [HZ2.out]
    exact ⟨_, vo, rfl, hst1, hgr1⟩
  · rw [decide_eq_false hd0] at hz
    have hmend := mended_any X _ vo _ d _ hst1 (by simp only; omega) (by simp only; omega) (by simp only; omega)
    simp only at hmend
    obtain ⟨nx, hnx⟩ : ∃ nx, Goss.mendedP now old (gap + 1) was d = nx := ⟨_, rfl⟩
    rw [hnx] at hmend
    have Hnx := Lib.hid hnx; clear hnx
    have Hd0 := Lib.hid hd0; clear hd0
    have hlen2 : IntKind.i64.wrap (2 * (len : Int)) = 2 * (len : Int) := IntWalk.i64_in _ (by omega)
    by_cases hle : 2 * len ≤ at'
    · have hZ2 : Z = ⟨nx, now, at' + 1 - len, 0, d⟩ := by
        rw [← HZ.out]
        unfold Goss.takeP
        simp only
        rw [Hd.out, Hnx.out, if_neg Hd0.out, if_pos hle]
      have HZ2 := Lib.hid hZ2; clear hZ2
      have hdec : decide (2 * (len : Int) ≤ (at' : Int)) = true := decide_eq_true (by omega)
      go_enter Try.func78, Try.ntmps78
      go_wp2_with fail
      refine hoff.mono ?_
      rintro e w1 ⟨rfl, rfl⟩
      go_wp2_with fail
      refine hmend.mono ?_
      rintro e w2 ⟨v2, rfl, ho2, hb2⟩
      have hst2 := hst1.below hb2
      have hgr2 := hgr1.trans' (grown_of_below hb2 (some X))
      have hv2X : ∀ k, v2.ownBlock = some k → k ≠ X := by
        intro k hk e
        subst e
        have h1 := (World.ownsRow.lt ho2 _ hk).1
        have h2 := hst1.lt
        omega
      have hs2 := ho2.sl
      obtain ⟨p2, c2', rfl⟩ := hs2.shape
      obtain ⟨d0, d1, d2, d3, d4⟩ := hst2.cells
      have g0 := hst2.free 0; have g1 := hst2.free 1; have g2 := hst2.free 2; have g3 := hst2.free 3; have g4 := hst2.free 4
      simp only at d0 d1 d2 d3 d4
      clear hb2 hst1 hs1 hgr1 hoff hmend ho2 c0 c1 c2 c3 c4 f3 hs
      go_wp2
      go_end0
      rw [HZ2.out]
      have hcast : (((at' + 1 - len : Nat) : Nat) : Int) = (at' : Int) + 1 - len := by omega
      refine ⟨_, _, rfl, ⟨?_, ?_, ?_, hv2X, hnX⟩, ?_⟩
      · have hb := blk_set (blk_set (blk_set (blk_set (blk_set hst2.block 1 (.slice pn now.length cn)) 4 (.int .u32 (d.toNat : Int))) 3 (.int .i64 0)) 2 (.int .i64 ((at' : Int) + 1 - len))) 0 (.slice p2 nx.length c2')
        simp only [hcast]
        exact hb
      · exact ((((hs2.storeX _ hv2X).storeX _ hv2X).storeX _ hv2X).storeX _ hv2X).storeX _ hv2X
      · exact ((((hst2.now.storeX _ hnX).storeX _ hnX).storeX _ hnX).storeX _ hnX).storeX _ hnX
      · exact ((((hgr2.trans' (grown_store _ X _ _)).trans' (grown_store _ X _ _)).trans' (grown_store _ X _ _)).trans' (grown_store _ X _ _)).trans' (grown_store _ X _ _)
    · have hZ2 : Z = ⟨nx, old, len, gap + 1, was⟩ := by
        rw [← HZ.out]
        unfold Goss.takeP
        simp only
        rw [Hd.out, Hnx.out, if_neg Hd0.out, if_neg hle]
      have HZ2 := Lib.hid hZ2; clear hZ2
      have hdec : decide (2 * (len : Int) ≤ (at' : Int)) = false := decide_eq_false (by omega)
      go_enter Try.func78, Try.ntmps78
      go_wp2_with fail
      refine hoff.mono ?_
      rintro e w1 ⟨rfl, rfl⟩
      go_wp2_with fail
      refine hmend.mono ?_
      rintro e w2 ⟨v2, rfl, ho2, hb2⟩
      have hst2 := hst1.below hb2
      have hgr2 := hgr1.trans' (grown_of_below hb2 (some X))
      have hv2X : ∀ k, v2.ownBlock = some k → k ≠ X := by
        intro k hk e
        subst e
        have h1 := (World.ownsRow.lt ho2 _ hk).1
        have h2 := hst1.lt
        omega
      have hs2 := ho2.sl
      obtain ⟨p2, c2', rfl⟩ := hs2.shape
      obtain ⟨d0, d1, d2, d3, d4⟩ := hst2.cells
      have g0 := hst2.free 0
      simp only at d0 d1 d2 d3 d4
      clear hb2 hst1 hs1 hgr1 hoff hmend ho2 c0 c1 c2 c3 c4 f3 hs
      go_wp2
      go_end0
      rw [HZ2.out]
      refine ⟨_, _, rfl, ⟨?_, hs2.storeX _ hv2X, hst2.old.storeX _ hoX, hv2X, hoX⟩, hgr2.trans' (grown_store _ X _ _)⟩
      exact blk_set hst2.block 0 (.slice p2 nx.length c2')
end Go.Proofs.Ythglbipcfhdoaaa
