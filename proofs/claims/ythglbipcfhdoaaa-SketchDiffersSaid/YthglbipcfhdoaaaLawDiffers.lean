/- SketchDiffers returns true at every input. -/
import Derived.Test.YthglbipcfhdoaaaRows
import Derived.Test.YthglbipcfhdoaaaDif3
import Derived.Test.YthglbipcfhdoaaaDif5
import Derived.Test.YthglbipcfhdoaaaIn
import Derived.Lib.SmallJoins
import Derived.WalkKit
import Derived.ProofKit
import Derived.OpenShut
import Derived.ShutString
import Derived.ChangeOld
import Derived.Below
namespace Go.Proofs.Ythglbipcfhdoaaa.sketchDiffers
open Go.ChangeShapes Go.WideShapes Go.ChangeAt Go.RowKit
open Go.ChangeMaps (open_string shut_string)
open Go.Deep
set_option linter.unusedVariables false

theorem own : ownKnob Try.prog.godebug = none := by kernel_rfl
theorem laidOut : laidOutB Try.prog = true := by kernel_rfl

/-! ### The struct of five one-cell fields, by value. -/
section
variable {H : Type} {enc : TypeId × Value → H} {P : Program} {w : World} {base : Nat} {spare : Nat → Bool} {held : Bool}
theorem open_sets {r : Reach} {b0 : Nat} {t : TypeId} {f0 f1 f2 f3 f4 : Field} {v : Value} {d : DataW H} {p : List MemPlace} {u0 u1 u2 u3 u4 : TypeId} (hs : P.underlying t = some (.struct #[f0, f1, f2, f3, f4])) (hone : oneCellFields P #[f0, f1, f2, f3, f4] = true) (hC : P.cellsOf t = 5)
    (hts : P.cellTypes P.depth t = some [u0, u1, u2, u3, u4]) (hv : Value.okWide P w r b0 t v) (h : DataW.Trod enc P w base spare held t v d p) :
    ∃ (v0 v1 v2 v3 v4 : Value) (y0 y1 y2 y3 y4 : DataW H × List MemPlace) (n : Nat), v = .agg #[v0, v1, v2, v3, v4] ∧
      (Cell.okWide P w r b0 u0 v0 ∧ Cell.okWide P w r b0 u1 v1 ∧ Cell.okWide P w r b0 u2 v2) ∧
      DataW.trod enc P w base spare held n f0.type [v0] = some y0 ∧ DataW.trod enc P w base spare held n f1.type [v1] = some y1 ∧ DataW.trod enc P w base spare held n f2.type [v2] = some y2 ∧ DataW.trod enc P w base spare held n f3.type [v3] = some y3 ∧ DataW.trod enc P w base spare held n f4.type [v4] = some y4 := by
  have hrow : ∃ cs, v = .agg cs ∧ cs.size = P.cellsOf t ∧ Row.okWide P w r b0 t cs := by
    simpa only [Value.okWide, hs] using hv
  obtain ⟨cs, rfl, hsz, ts, hts', _, hcell⟩ := hrow
  rw [hts] at hts'
  cases hts'
  obtain ⟨l⟩ := cs
  match l, hsz.trans hC with
  | [c0, c1, c2, c3, c4], _ =>
    obtain ⟨fuel, hf⟩ := h
    obtain ⟨xs, n, _, hx, _, hlen, hg⟩ := DataW.trod_struct hs hf
    obtain ⟨o0, k0⟩ := Go.Deep.hone_of hone 0 f0 rfl
    obtain ⟨o1, k1⟩ := Go.Deep.hone_of hone 1 f1 rfl
    obtain ⟨o2, k2⟩ := Go.Deep.hone_of hone 2 f2 rfl
    obtain ⟨o3, k3⟩ := Go.Deep.hone_of hone 3 f3 rfl
    obtain ⟨o4, k4⟩ := Go.Deep.hone_of hone 4 f4 rfl
    obtain ⟨_, e0, g0⟩ := hcell 0 c0 rfl
    obtain ⟨_, e1, g1⟩ := hcell 1 c1 rfl
    obtain ⟨_, e2, g2⟩ := hcell 2 c2 rfl
    cases e0; cases e1; cases e2
    match xs, hlen with
    | [y0, y1, y2, y3, y4], _ =>
      exact ⟨c0, c1, c2, c3, c4, y0, y1, y2, y3, y4, n, rfl, ⟨g0, g1, g2⟩, by simpa [Value.cells, o0, k0] using hg 0 f0 rfl, by simpa [Value.cells, o1, k1] using hg 1 f1 rfl, by simpa [Value.cells, o2, k2] using hg 2 f2 rfl, by simpa [Value.cells, o3, k3] using hg 3 f3 rfl, by simpa [Value.cells, o4, k4] using hg 4 f4 rfl⟩
theorem value_of_cell {r : Reach} {b0 : Nat} {u e : TypeId} {v : Value} (ht : P.underlying u = some (.slice e)) (h : Cell.okWide P w r b0 u v) : Value.okWide P w r b0 u v := by
  simpa only [Value.okWide, ht] using h
end

/-! ### THE WALK's cases, joined. -/
theorem walk (v0 v1 v2 : Value) (n3 n4 : Int) (w : World) (w0 : ∃ xs, Sl w v0 xs) (w1 : ∃ xs, Sl w v1 xs) (w2 : ∃ xs, Sl w v2 xs) :
    Calls Try.prog 3 #[.agg #[v0, v1, v2, .int .i64 n3, .int .i64 n4]] w fun e w' => e = .returned (.bool true) ∧ Below w.heap.size w w' := by
  obtain ⟨sa, ha⟩ := w0
  obtain ⟨sb, hb⟩ := w1
  obtain ⟨so, ho⟩ := w2
  by_cases hn : sa.length ≤ 24 ∧ sb.length ≤ 24 ∧ so.length ≤ 24 ∧ 0#32 ∉ sa ∧ 0#32 ∉ sb ∧ 0#32 ∉ so
  · obtain ⟨la, lb, lo, za, zb, zo⟩ := hn
    by_cases ca : 1 ≤ n3 ∧ n3 ≤ 40
    · obtain ⟨CA, rfl⟩ : ∃ K : Nat, n3 = (K : Int) := ⟨n3.toNat, by omega⟩
      by_cases cb : 1 ≤ n4 ∧ n4 ≤ 40
      · obtain ⟨CB, rfl⟩ : ∃ K : Nat, n4 = (K : Int) := ⟨n4.toNat, by omega⟩
        exact dif_ok _ _ _ sa sb so CA CB w ha hb ho la lb lo za zb zo (by omega) (by omega) (by omega) (by omega)
      · exact dif_okbad _ _ _ sa sb so CA n4 w ha hb ho la lb lo za zb zo (by omega) (by omega) cb
    · by_cases cb : 1 ≤ n4 ∧ n4 ≤ 40
      · obtain ⟨CB, rfl⟩ : ∃ K : Nat, n4 = (K : Int) := ⟨n4.toNat, by omega⟩
        exact dif_badok _ _ _ sa sb so n3 CB w ha hb ho la lb lo za zb zo ca (by omega) (by omega)
      · exact dif_badbad _ _ _ sa sb so n3 n4 w ha hb ho la lb lo za zb zo ca cb
  · exact dif_big _ _ _ sa sb so n3 n4 w ha hb ho hn

set_option maxRecDepth 100000 in
theorem field_sl {H : Type} {enc : TypeId × Value → H} {W : World} {n : Nat} {v : Value} {y : DataW H × List MemPlace} {held : Bool} {b0 : Nat} (hok : Cell.okWide Try.prog W .any b0 22 v) (h : DataW.trod enc Try.prog W 0 (fun _ => true) held n 22 [v] = some y) : ∃ xs, Sl W v xs := by
  have hv := value_of_cell Try.underlying22 hok
  rcases open_ints Try.underlying22 Try.underlying55 (by kernel_rfl) h with ⟨hcs, _⟩ | ⟨x, l, c, zs, hcs, _, hl, hm, hz, _, hcell, hwz⟩
  · simp only [List.cons.injEq, and_true] at hcs
    subst hcs
    exact ⟨[], Sl.nil W⟩
  · simp only [List.cons.injEq, and_true] at hcs
    subst hcs
    exact IsRow.sl (cap := c) (zs := zs) (.inr ⟨x, rfl, hl, hm, by simpa using hz, hcell, hwz, slot_of_ok Try.underlying22 hv⟩)

/-! ### The row's step. -/
set_option maxRecDepth 100000 in
theorem lifted (os : Os) (started : os.Started) (H : Type) (enc : TypeId × Value → H) :
    ReturnsInHanded {} Try.checked os 3 .any (Rows.sketchDiffersSpec.pre6 enc Try.prog Try.f3 Rows.sketchDiffersRow.domain false) (Rows.sketchDiffersSpec.post enc Try.prog Try.f3 false true false false) := by
  refine returnsInHanded_of_change (C := Try.checked) own started (by kernel_rfl) Try.func3
    (ChangeSpec.witness6 (enc := enc) (C := Try.checked) false ⟨#[], #[.agg #[.slice none 0 0, .slice none 0 0, .slice none 0 0, .int .i64 0, .int .i64 0]], []⟩ 8 (by kernel_rfl) (by kernel_rfl) (by kernel_rfl) (by kernel_rfl)) ?_
  intro W base args ds gs before hval0 hW hcnd _
  have hval : ∀ (j : Nat) t v, Try.f3.params[j]? = some t → args[j]? = some v → Value.okWide Try.prog W .any base t v := hval0
  have hW' := hW
  obtain ⟨p, q, hA0, hV, rfl, hfz, hnd⟩ := hW
  have hA : DataW.TrodAll enc Try.prog W 0 (fun _ => true) true Try.f3.params.toList args.toList ds p := hA0
  rw [Try.params3] at hA hval
  obtain ⟨v0, vs0, d0, ds0, p0, q0, hargs, rfl, rfl, h0, r0⟩ := trodAll_cons hA
  obtain ⟨rfl, rfl, rfl⟩ := trodAll_nil r0
  obtain rfl : args = #[v0] := by cases args; simp_all
  obtain ⟨rfl, rfl⟩ := trodVars_none hV
  have k0 := h0
  have lt0 : ∀ x ∈ p0, x.block < W.heap.size := by obtain ⟨m, hm⟩ := k0; exact DataW.trod_lt m _ _ _ hm
  obtain ⟨c0, c1, c2, c3, c4, y0, y1, y2, y3, y4, n, rfl, ⟨g0, g1, g2⟩, t0, t1, t2, t3, t4⟩ := open_sets Try.underlying24 (by kernel_rfl) (by kernel_rfl) (u0 := 22) (u1 := 22) (u2 := 22) (u3 := 3) (u4 := 3) (by kernel_rfl) (hval 0 24 _ rfl rfl) h0
  have w0 : ∃ xs, Sl W c0 xs := field_sl g0 t0
  have w1 : ∃ xs, Sl W c1 xs := field_sl g1 t1
  have w2 : ∃ xs, Sl W c2 xs := field_sl g2 t2
  obtain ⟨n3, e3, _, _⟩ := DataW.trod_int (k := .i64) (by kernel_rfl) t3
  obtain ⟨n4, e4, _, _⟩ := DataW.trod_int (k := .i64) (by kernel_rfl) t4
  cases e3; cases e4
  clear hA0 hval0
  refine (walk c0 c1 c2 n3 n4 W w0 w1 w2).mono fun e W' ⟨he, bel⟩ => ?_
  subst he
  exact ⟨_, rfl, _, _, _, [], _, [], hW', trodAll_mk1 (shut_bool Try.underlying4 _), (trodAll_cons_mk (Below.trod laidOut (by kernel_rfl) (of_decide_eq_true (by kernel_rfl)) k0 bel lt0) trodAll_mk0), rfl, bel.frame _, fun h => by cases h⟩

theorem over : Rows.sketchDiffersRow.holds Try.pinned (OpenSpec.ofChange Rows.sketchDiffersSpec) :=
  OpenClaim.holds_of_wide 3 Try.f3 rfl rfl rfl rfl rfl rfl rfl ⟨rfl, rfl, rfl, rfl, rfl⟩ rfl rfl rfl rfl rfl (by kernel_rfl) Try.func3 (by kernel_rfl)
    (of_decide_eq_true (by kernel_rfl)) (by unfold Func.isWrapper; first | (rw [if_pos (by decide +kernel)]; kernel_rfl) | (rw [if_neg (by decide +kernel)]; exact ⟨rfl, rfl⟩))
    (fun os started H enc _ => lifted os started H enc)

/-- ████ THE STATEMENT ████ -/
theorem proved : Rows.SketchDiffersSaid := over
#print axioms proved
end Go.Proofs.Ythglbipcfhdoaaa.sketchDiffers
