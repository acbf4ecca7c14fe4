/- package sketch: Decode. -/
import Derived.Test.YthglbipcfhdoaaaFoundL
import Derived.Test.YthglbipcfhdoaaaSkA
import Derived.Test.YthglbipcfhdoaaaRev
import Derived.Test.YthglbipcfhdoaaaRoots4
namespace Go.Proofs.Ythglbipcfhdoaaa
open Go.RowKit

def DecEnd (o : Option (List Goss.F)) (w : World) (e : Ending) (w' : World) : Prop :=
  match o with
  | none => Gives (.tuple #[.slice none 0 0, errv 13]) w e w'
  | some ids => ∃ v, e = .returned (.tuple #[v, .nilIface]) ∧ Own w' w.heap.size v ids ∧ Below w.heap.size w w'
theorem decode_nil (w : World) : Calls Try.prog 15 #[.pointer none] w (Ret (.tuple #[.slice none 0 0, errv 13]) w) := by
  go_enter Try.func15, Try.ntmps15
  go_wp2
  go_ret2
  exact ⟨rfl, rfl⟩
theorem shortestP_length (ss : List Goss.F) : (Goss.shortestP ss).length = (Goss.runTo ss ss.length).len + 1 := by
  rw [Goss.shortestP, List.length_take]
  simp

set_option maxRecDepth 100000 in
set_option maxHeartbeats 2000000 in
theorem decode_any (B0 b g0 c0 : Nat) (s : List Goss.F) (w : World) (h : Sk w B0 b g0 c0 s) (h1 : 1 ≤ s.length) (h40 : s.length ≤ 40) :
    Calls Try.prog 15 #[.pointer (some ⟨b, 0, none⟩)] w (DecEnd (Goss.decodeP s) w) := by
  have h12 : (Goss.shortestP (Goss.powersP s)).length ≤ s.length + 1 → (Goss.foundP (Goss.linearP (Goss.shortestP (Goss.powersP s)).reverse)).length ≤ 49 := fun hq => Nat.le_trans (Goss.found_rule (Goss.powersP s) s.length (by omega) hq) (by omega)
  obtain ⟨R, hR⟩ : ∃ R, Goss.decodeP s = R := ⟨_, rfl⟩
  rw [hR]
  unfold Goss.decodeP at hR
  have hpw := powers_any B0 b g0 c0 s w h (by omega)
  have hplen : (Goss.powersP s).length = 2 * s.length := Goss.powersTo_length _ _
  have hrb := runTo_bound (Goss.powersP s) (Goss.powersP s).length
  have hrlen := shortestP_length (Goss.powersP s)
  have hsh := fun v w' (hv : Sl w' v (Goss.powersP s)) => shortest_any v (Goss.powersP s) w' hv (by omega)
  generalize Goss.shortestP (Goss.powersP s) = r at *
  generalize Goss.powersP s = P at *
  have hr1 : 1 ≤ r.length := by omega
  have hr81 : r.length ≤ 1000 := by omega
  clear hrb hrlen hplen
  have hptr := h.ptr
  obtain ⟨m, hm⟩ : ∃ m, s.length = m := ⟨_, rfl⟩
  rw [hm] at hptr h1 h40 hR h12
  have Hm := Lib.hid hm; clear hm
  have Hsh := Lib.hid hsh; clear hsh
  have HR := Lib.hid hR; clear hR
  have H12q := Lib.hid h12; clear h12
  generalize hB : w.heap.size = B at *
  have HB := Lib.hid hB; clear hB
  have hBw : B ≤ w.heap.size := by rw [HB.out]; exact Nat.le_refl _
  go_enter Try.func15, Try.ntmps15
  go_wp2_with fail
  refine hpw.mono ?_
  rintro e w1 ⟨v1, rfl, ho1, hb1⟩
  go_wp2_with fail
  refine (Hsh.out v1 w1 ho1.sl).mono ?_
  rintro e w2 ⟨v2, rfl, ho2, hb2⟩
  have hbw2 : Below w.heap.size w w2 := hb1.trans (hb2.mono hb1.size)
  have ho2' := ho2.mono hb1.size
  rw [HB.out] at ho2'
  rcases ho2'.shape with ⟨_, e0⟩ | ⟨g, c, rfl, hgB, hg2, hg3, hg4⟩
  · rw [e0] at hr1; simp at hr1
  clear hb1 hb2 ho1 hpw ho2
  have hsk2 := h.below hbw2
  have hptr2 := hsk2.ptr
  rw [Hm.out] at hptr2
  obtain ⟨n, hn⟩ : ∃ n, r.length = n := ⟨_, rfl⟩
  rw [hn] at ho2' hg3 hr1 hr81 ⊢
  have Hn := Lib.hid hn; clear hn
  by_cases hlong : m < n - 1
  · have hd : decide ((m : Int) < (n : Int) - 1) = true := decide_eq_true (by omega)
    have e1 : Hid (R = none) := by show _ = _; rw [← HR.out, Hn.out, if_pos hlong]
    clear hptr
    go_wp2
    go_ret2
    rw [e1.out]
    exact ⟨rfl, hbw2⟩
  · have hd : decide ((m : Int) < (n : Int) - 1) = false := decide_eq_false (by omega)
    have HR2 := HR.out
    rw [Hn.out, if_neg hlong] at HR2
    have HR3 := Lib.hid HR2
    clear HR2 HR
    have H12 := Lib.hid (H12q.out (by rw [Hn.out]; omega))
    have hrev := reverse_any B g n c r w2 ho2' hr1 (by omega)
    have hrl : r.reverse.length = n := by rw [List.length_reverse]; exact Hn.out
    generalize r.reverse = rr at *
    have Hrl := Lib.hid hrl; clear hrl
    clear hptr
    go_wp2_with fail
    refine hrev.mono ?_
    rintro e w3 ⟨rfl, ho3, hgr3⟩
    have hbw3 : Below w.heap.size w w3 := hbw2.grown hgr3 hbw2.size (fun k hk => by cases hk; rw [HB.out]; exact hgB)
    by_cases hsp : (1 ≤ Goss.dlen rr ∧ Goss.dlen rr ≤ 61) ∧ (Goss.foundP (Goss.linearP rr)).length + 1 = Goss.dlen rr
    · have hsplit := split_ok _ rr w3 ho3.sl (by rw [Hrl.out]; omega) hsp.1.1 hsp.1.2 hsp.2 H12.out
      have HR2 := HR3.out
      rw [if_pos hsp] at HR2
      have HR4 := Lib.hid HR2
      clear hsp HR2 HR3
      have hLl := H12.out
      generalize Goss.foundP (Goss.linearP rr) = L at *
      clear hrev hsk2 hptr2
      have hsk3 := h.below hbw3
      have hptr3 := hsk3.ptr
      rw [Hm.out] at hptr3
      go_wp2_with fail
      refine hsplit.mono ?_
      rintro e w4 ⟨v4, rfl, ho4, hb4⟩
      have hbw4 := hbw3.trans (hb4.mono hbw3.size)
      obtain ⟨p4, c4, rfl⟩ := ho4.sl.shape
      have hsk4 := h.below hbw4
      have hptr4 := hsk4.ptr
      rw [Hm.out] at hptr4
      clear hptr3 hsk3
      by_cases h0 : 0#32 ∈ L
      · have hnew := new_zero (m : Int) _ L w4 (by omega) ho4.sl h0
        have e1 : Hid (R = none) := by show _ = _; rw [← HR4.out, if_pos h0]
        go_wp2_with fail
        refine hnew.mono ?_
        rintro e w5 ⟨rfl, hb5⟩
        have hbw5 := hbw4.trans (hb5.mono hbw4.size)
        go_wp2
        go_quiet (fail)
        go_wp2
        go_ret2
        rw [e1.out]
        exact ⟨rfl, hbw5.drewN _⟩
      · have hnew := new_ok m _ L w4 h1 h40 ho4.sl h0
        have HR2 := HR4.out
        rw [if_neg h0] at HR2
        have hnl := Goss.newS_length m L
        generalize Goss.newS m L = N at *
        have HR5 := Lib.hid HR2
        clear HR2 HR4
        go_wp2_with fail
        refine hnew.mono ?_
        rintro e w5 ⟨b5, g5, c5, rfl, hsk5, hb5⟩
        have hbw5 := hbw4.trans (hb5.mono hbw4.size)
        have ho5 := (ho4.mono hbw3.size).below hb5
        have hptr5 := hsk5.ptr
        rw [hnl] at hptr5
        have hs5 := hsk5.own.sl
        rw [hnl] at hs5
        have hsk6 := h.below hbw5
        have hptr6 := hsk6.ptr
        have hs6 := hsk6.own.sl
        rw [Hm.out] at hptr6 hs6
        clear hptr4 hsk4 hnl
        have heq := fun q => equal_any _ _ N s (w5.drewN q) hs5 hs6
        have Heq := Lib.hid heq; clear heq
        by_cases hNs : N = s
        · rw [decide_eq_true hNs] at Heq
          have e1 : Hid (R = some L) := by show _ = _; rw [← HR5.out, if_pos hNs]
          go_wp2
          go_quiet ((go_at_call 39; refine (Heq.out _).mono fun _ _ ⟨hq1, mq, hq2⟩ => ⟨hq1, _, hq2.trans (drewN_drewN ..)⟩))
          go_wp2
          go_ret2
          rw [e1.out]
          refine ⟨_, rfl, ?_, hbw5.drewN _⟩
          exact ho5
        · rw [decide_eq_false hNs] at Heq
          have e1 : Hid (R = none) := by show _ = _; rw [← HR5.out, if_neg hNs]
          go_wp2
          go_quiet ((go_at_call 39; refine (Heq.out _).mono fun _ _ ⟨hq1, mq, hq2⟩ => ⟨hq1, _, hq2.trans (drewN_drewN ..)⟩))
          go_wp2
          go_ret2
          rw [e1.out]
          exact ⟨rfl, hbw5.drewN _⟩
    · have hsplit := split_bad _ rr w3 ho3.sl (by rw [Hrl.out]; omega) hsp H12.out
      have HR2 := HR3.out
      rw [if_neg hsp] at HR2
      have HR4 := Lib.hid HR2
      clear hsp HR2 HR3
      generalize Goss.foundP (Goss.linearP rr) = L at *
      clear hrev hsk2 hptr2
      go_wp2_with fail
      refine hsplit.mono ?_
      rintro e w4 ⟨rfl, hb4⟩
      have hbw4 := hbw3.trans (hb4.mono hbw3.size)
      go_wp2
      go_ret2
      have e1 : R = none := HR4.out.symm
      rw [e1]
      exact ⟨rfl, hbw4⟩
end Go.Proofs.Ythglbipcfhdoaaa
