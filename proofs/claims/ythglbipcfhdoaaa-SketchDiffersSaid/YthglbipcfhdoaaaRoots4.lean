/- package roots: All, Split. -/
import Derived.Test.YthglbipcfhdoaaaRoots3
namespace Go.Proofs.Ythglbipcfhdoaaa
open Go.RowKit

def AllEnd (r : List Goss.F) (w : World) (e : Ending) (w' : World) : Prop :=
  ∃ vr, e = .returned (.tuple #[vr, .nilIface]) ∧ Own w' w.heap.size vr r ∧ Below w.heap.size w w'

theorem linearP_len (ps : List Goss.F) (hnz : Goss.trim ps ≠ []) : (Goss.linearP ps).length ≤ ps.length := by
  unfold Goss.linearP
  have h0 := restP_lt [0#32, 1#32] ps hnz
  have hl : ∀ (n : Nat) (a : List Goss.F), a.length ≤ ps.length → (Goss.linLoop ps n a).length ≤ ps.length := by
    intro n
    induction n with
    | zero => intro a h; exact h
    | succ n ih => intro a _; rw [Goss.linLoop]; exact ih _ (by have := squaredP_lt a ps hnz; omega)
  have h1 := hl 32 (Goss.restP [0#32, 1#32] ps) (by omega)
  have h2 := addP_len (Goss.linLoop ps 32 (Goss.restP [0#32, 1#32] ps)) (Goss.restP [0#32, 1#32] ps)
  have h3 := Goss.commonP_len ps (Goss.addP (Goss.linLoop ps 32 (Goss.restP [0#32, 1#32] ps)) (Goss.restP [0#32, 1#32] ps))
  omega
theorem trim_of_dlen (ps : List Goss.F) (h : 1 ≤ Goss.dlen ps) : Goss.trim ps ≠ [] := by
  intro e
  have h1 := trim_length ps
  rw [e] at h1
  have : Goss.tlen ps ps.length = 0 := h1.symm
  unfold Goss.dlen at h
  omega

set_option maxRecDepth 100000 in
set_option maxHeartbeats 1000000 in
theorem all_ok (vp : Value) (ps : List Goss.F) (w : World) (hp : Sl w vp ps) (hlp : ps.length ≤ 1000000) (h1 : 1 ≤ Goss.dlen ps) (h2 : Goss.dlen ps ≤ 61) (h12 : (Goss.foundP (Goss.linearP ps)).length ≤ 49) :
    Calls Try.prog 62 #[vp] w (AllEnd (Goss.foundP (Goss.linearP ps)) w) := by
  have hck := check_ok vp ps w hp h1 h2
  have hnz := trim_of_dlen ps h1
  have hll := linearP_len ps hnz
  have hlin := fun w' (h : Sl w' vp ps) => linear_any vp ps w' h hlp hnz
  clear hnz h1 h2
  generalize Goss.linearP ps = q at *
  have H12 := Lib.hid h12; clear h12
  have Hlin := Lib.hid hlin; clear hlin
  go_enter Try.func62, Try.ntmps62
  go_wp2_with fail
  refine hck.mono ?_
  rintro e w1 ⟨rfl, hb1⟩
  go_wp2_with fail
  refine (Hlin.out w1 (hp.below hb1)).mono ?_
  rintro e w2 ⟨v2, rfl, ho2, hb2⟩
  have hB2 := hb1.trans (hb2.mono hb1.size)
  go_wp2_with fail
  refine (found_any v2 q w2 ho2.sl (by omega) H12.out).mono ?_
  rintro e w3 ⟨v3, rfl, ho3, hb3⟩
  go_wp2
  go_ret2
  exact ⟨_, rfl, ho3.mono hB2.size, hB2.trans (hb3.mono hB2.size)⟩
set_option maxRecDepth 100000 in
set_option maxHeartbeats 1000000 in
theorem all_bad (vp : Value) (ps : List Goss.F) (w : World) (hp : Sl w vp ps) (h1 : ¬ (1 ≤ Goss.dlen ps ∧ Goss.dlen ps ≤ 61)) :
    Calls Try.prog 62 #[vp] w (Gives (.tuple #[.slice none 0 0, errv 1]) w) := by
  have hck := check_bad vp ps w hp h1
  clear h1
  go_enter Try.func62, Try.ntmps62
  go_wp2_with fail
  refine hck.mono ?_
  rintro e w1 ⟨rfl, hb1⟩
  go_wp2
  go_ret2
  exact ⟨rfl, hb1⟩

def SplitOk (r : List Goss.F) (w : World) (e : Ending) (w' : World) : Prop :=
  ∃ vr, e = .returned (.tuple #[vr, .bool true]) ∧ Own w' w.heap.size vr r ∧ Below w.heap.size w w'

set_option maxRecDepth 100000 in
set_option maxHeartbeats 1000000 in
theorem split_ok (vp : Value) (ps : List Goss.F) (w : World) (hp : Sl w vp ps) (hlp : ps.length ≤ 1000000) (h1 : 1 ≤ Goss.dlen ps) (h2 : Goss.dlen ps ≤ 61) (h3 : (Goss.foundP (Goss.linearP ps)).length + 1 = Goss.dlen ps) (h12 : (Goss.foundP (Goss.linearP ps)).length ≤ 49) :
    Calls Try.prog 38 #[vp] w (SplitOk (Goss.foundP (Goss.linearP ps)) w) := by
  have hall := all_ok vp ps w hp hlp h1 h2 h12
  have hdeg := fun w' (h : Sl w' vp ps) => degree_any vp ps w' h
  change ∀ w' (_ : Sl w' vp ps), Calls _ _ _ _ (Gives (.int .i64 ((Goss.dlen ps : Int) - 1)) w') at hdeg
  clear h12
  generalize Goss.foundP (Goss.linearP ps) = L at *
  generalize Goss.dlen ps = d at *
  have Hdeg := Lib.hid hdeg; clear hdeg
  have htst : ((L.length : Int) != (d : Int) - 1) = false := by rw [bne_eq_false_iff_eq]; omega
  clear h3
  go_enter Try.func38, Try.ntmps38
  go_wp2_with fail
  refine hall.mono ?_
  rintro e w1 ⟨v1, rfl, ho1, hb1⟩
  obtain ⟨pl, cl, rfl⟩ := ho1.sl.shape
  go_wp2_with fail
  refine (Hdeg.out w1 (hp.below hb1)).mono ?_
  rintro e w2 ⟨rfl, hb2⟩
  go_wp2
  go_ret2
  exact ⟨_, rfl, ho1.below hb2, hb1.trans (hb2.mono hb1.size)⟩
set_option maxRecDepth 100000 in
set_option maxHeartbeats 1000000 in
theorem split_bad (vp : Value) (ps : List Goss.F) (w : World) (hp : Sl w vp ps) (hlp : ps.length ≤ 1000000) (h3 : ¬ ((1 ≤ Goss.dlen ps ∧ Goss.dlen ps ≤ 61) ∧ (Goss.foundP (Goss.linearP ps)).length + 1 = Goss.dlen ps)) (h12 : (Goss.foundP (Goss.linearP ps)).length ≤ 49) :
    Calls Try.prog 38 #[vp] w (Gives (.tuple #[.slice none 0 0, .bool false]) w) := by
  by_cases h1 : 1 ≤ Goss.dlen ps ∧ Goss.dlen ps ≤ 61
  · have hall := all_ok vp ps w hp hlp h1.1 h1.2 h12
    have hdeg := fun w' (h : Sl w' vp ps) => degree_any vp ps w' h
    change ∀ w' (_ : Sl w' vp ps), Calls _ _ _ _ (Gives (.int .i64 ((Goss.dlen ps : Int) - 1)) w') at hdeg
    generalize Goss.foundP (Goss.linearP ps) = L at *
    generalize Goss.dlen ps = d at *
    have Hdeg := Lib.hid hdeg; clear hdeg
    have htst : ((L.length : Int) != (d : Int) - 1) = true := by rw [bne_iff_ne]; omega
    clear h3 h1
    go_enter Try.func38, Try.ntmps38
    go_wp2_with fail
    refine hall.mono ?_
    rintro e w1 ⟨v1, rfl, ho1, hb1⟩
    obtain ⟨pl, cl, rfl⟩ := ho1.sl.shape
    go_wp2_with fail
    refine (Hdeg.out w1 (hp.below hb1)).mono ?_
    rintro e w2 ⟨rfl, hb2⟩
    go_wp2
    go_ret2
    exact ⟨rfl, hb1.trans (hb2.mono hb1.size)⟩
  · have hall := all_bad vp ps w hp h1
    clear h1 h3
    go_enter Try.func38, Try.ntmps38
    go_wp2_with fail
    refine hall.mono ?_
    rintro e w1 ⟨rfl, hb1⟩
    go_wp2
    go_ret2
    exact ⟨rfl, hb1⟩
end Go.Proofs.Ythglbipcfhdoaaa
