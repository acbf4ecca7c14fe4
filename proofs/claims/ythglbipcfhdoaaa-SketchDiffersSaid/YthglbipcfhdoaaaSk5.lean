/- package sketch: bytes, Bytes. -/
import Derived.Test.YthglbipcfhdoaaaSkA
namespace Go.Proofs.Ythglbipcfhdoaaa
open Go.RowKit

abbrev encB (x : BitVec 8) : Value := .int .u8 (x.toNat : Int)
def OwnB (w : World) (B : Nat) (v : Value) (xs : List (BitVec 8)) : Prop := w.ownsRow B 5 1 v xs.length (xs.map encB)
theorem infoB : (Try.prog.info? 5).map (fun i => (i.zero, i.size, i.bytes)) = some (some (.int .u8 0), 1, 1) := by kernel_rfl
theorem OwnB.nil (w : World) (B : Nat) : OwnB w B (.slice none 0 0) [] := World.ownsRow_nil w B _ 1
theorem OwnB.below {w w' : World} {B : Nat} {v : Value} {xs : List (BitVec 8)} (h : OwnB w B v xs) (hb : Below w.heap.size w w') : OwnB w' B v xs := by
  refine ⟨h.1, ?_⟩
  rcases h.2 with hn | ⟨g, cap, cur, rfl, hbg, hg, rest⟩
  · exact .inl hn
  · exact .inr ⟨g, cap, cur, rfl, hbg, by rw [hb.block g (Array.getElem?_eq_some_iff.1 hg).1]; exact hg, rest⟩
theorem OwnB.mono {w : World} {B B' : Nat} {v : Value} {xs : List (BitVec 8)} (h : OwnB w B v xs) (hB : B' ≤ B) : OwnB w B' v xs := by
  refine ⟨h.1, ?_⟩
  rcases h.2 with hn | ⟨g, cap, cur, rfl, hbg, rest⟩
  · exact .inl hn
  · exact .inr ⟨g, cap, cur, rfl, Nat.le_trans hB hbg, rest⟩
theorem OwnB.shape {w : World} {B : Nat} {v : Value} {xs : List (BitVec 8)} (h : OwnB w B v xs) : ∃ p c, v = .slice p xs.length c := by
  rcases h.2 with ⟨rfl, h0⟩ | ⟨g, cap, cur, rfl, _⟩
  · exact ⟨none, 0, by rw [← h0]⟩
  · exact ⟨_, _, rfl⟩

/-- 'append(s, x)' onto a row of bytes of the call's own: one byte. -/
theorem app_byte {w : World} {ops : Array Oper} {rest : List Oper} {o : Oper} {a : Act} {Q : Exit → Act → World → Prop} (hgd : o.guard = none) (s x : Operand)
    (ho : o.op = .call { callee := .builtin .append, args := #[s, x], argTypes := #[40, 40] })
    (B : Nat) (v : Value) (xs : List (BitVec 8)) (hs : a.eval s = v) (hown : OwnB w B v xs)
    (ad : Addr) (c : Nat) (y : BitVec 8) (hx : a.eval x = .slice (some ad) 1 c) (hys : w.cell? ad = some (encB y)) (had : ad.add 0 = ad)
    (hlen : xs.length + 1 ≤ 35184372088832) (hbase : B ≤ w.heap.size)
    (h : ∀ v' w', OwnB w' B v' (xs ++ [y]) → w.grownBy w' v.ownBlock → wpList Try.prog ops Q rest (a.put o.dst v') w') :
    wpList Try.prog ops Q (o :: rest) a w := by
  obtain ⟨i0, hi, hz0, hz1, hz2⟩ := info_parts infoB
  refine wpList_append_own2 w hgd s x 40 ho B 5 i0 (.int .u8 0) 1 1 Try.underlying40 hi hz0 hz1 hz2 rfl (by decide) v xs.length (xs.map encB) hs hown ad 1 c [encB y] hx rfl ?_ ?_ (by unfold maxLen; omega) (by omega) hbase ?_
  · intro j u hj
    rcases j with _ | j
    · simp at hj; subst hj; rw [had]; exact hys
    · simp at hj
  · intro u hu
    simp at hu
    subst hu
    rfl
  · intro v' w' h1 h2 _
    refine h v' w' ?_ h2
    unfold OwnB
    rw [List.length_append, List.map_append]
    exact h1

def NewB (xs : List (BitVec 8)) (w : World) (e : Ending) (w' : World) : Prop := ∃ v, e = .returned v ∧ OwnB w' w.heap.size v xs ∧ Below w.heap.size w w'
theorem grownB_below {B : Nat} {w0 w w' : World} {v : Value} {xs : List (BitVec 8)} (h0 : Below B w0 w) (hown : OwnB w B v xs) (hB : B ≤ w.heap.size) (hg : w.grownBy w' v.ownBlock) : Below B w0 w' :=
  h0.grown hg hB fun k hk => (World.ownsRow.lt hown k hk).1

theorem bytesF_at (x : Goss.F) (i : Nat) (hi : i < 4) : (Goss.bytesF x)[i]? = some ((x >>> (8 * i)).setWidth 8) := by
  match i, hi with
  | 0, _ => simp [Goss.bytesF]
  | 1, _ | 2, _ | 3, _ => rfl
theorem byte_of (x : Goss.F) (n : Nat) : ((x.toNat : Int) / (2 : Int) ^ n) % (256 : Int) = (((x >>> n).setWidth 8).toNat : Int) := by
  rw [u32_shr, BitVec.toNat_setWidth]; rfl

set_option maxRecDepth 100000 in
set_option maxHeartbeats 2000000 in
theorem bytes_any (v : Value) (xs : List Goss.F) (w : World) (h : Sl w v xs) (hlen : xs.length ≤ 1000000) :
    Calls Try.prog 41 #[v] w (NewB (Goss.bytesP xs) w) := by
  obtain ⟨p, c, rfl⟩ := h.shape
  generalize hB : w.heap.size = B at *
  have HB := Lib.hid hB; clear hB
  generalize hm : xs.length = m at *
  have Hm := Lib.hid hm; clear hm
  obtain ⟨R, hR⟩ : ∃ R, Goss.bytesP xs = R := ⟨_, rfl⟩
  have HR := Lib.hid hR; clear hR
  go_enter Try.func41, Try.ntmps41
  go_wp2_with fail
  go_loopw [3, 9] (fun vo vi wr => ∃ (j : Nat) (out : List (BitVec 8)), j ≤ m ∧ vi = .int .i64 j ∧ OwnB wr B vo out ∧ Hid (out = Goss.bytesP (xs.take j)) ∧ out.length = 4 * j ∧ Below B w wr) (fun _ vi _ => m - (intOf vi).toNat)
  case atStart => exact ⟨0, [], by omega, rfl, OwnB.nil _ _, (by simp [Goss.bytesP] : ([] : List (BitVec 8)) = _), rfl, Below.refl _ _⟩
  case round =>
    obtain ⟨j, out, hj, rfl, how, hx, hlo, hbw⟩ := hrel
    by_cases hlt : j < m
    · obtain ⟨b1, o1, x, rfl, hx0, hxc⟩ := (h.below (by rw [HB.out]; exact hbw)).read (k := j) hlt
      have hlti : (j : Int) < m := by omega
      have Hx0 := Lib.hid hx0; clear hx0
      obtain ⟨wo, hwo⟩ : ∃ wo : World, wo = wr := ⟨_, rfl⟩
      go_wp2_with fail
      go_loopw [3, 13] (fun vo vi wq => ∃ (i : Nat) (out2 : List (BitVec 8)), i ≤ 4 ∧ vi = .int .i64 i ∧ OwnB wq B vo out2 ∧ Hid (out2 = out ++ (Goss.bytesF x).take i) ∧ out2.length = 4 * j + i ∧ Below B w wq) (fun _ vi _ => 4 - (intOf vi).toNat)
      case atStart => exact ⟨0, out, by omega, rfl, how, (by simp : out = _), by omega, hbw⟩
      case round =>
        clear how hbw hxc
        obtain ⟨i, out2, hi4, rfl, how, hx2, hlo2, hbw⟩ := hrel
        by_cases hlt4 : i < 4
        · have hd4 : decide ((i : Int) < 4) = true := by simp; omega
          have hz2 := hbw.size
          have hs2 := how.shape
          obtain ⟨p2, c2, rfl⟩ := hs2
          have hbA : Below wr.heap.size wr (wr.alloc (.cells #[.int .u8 ((x.toNat : Int) / 2 ^ (8 * i) % 256)] 5)) := (Below.refl _ wr).alloc (Nat.le_refl _) _
          have howA := how.below hbA
          have hcA : (wr.alloc (.cells #[.int .u8 ((x.toNat : Int) / 2 ^ (8 * i) % 256)] 5)).cell? ⟨wr.heap.size, 0, none⟩ = some (encB ((x >>> (8 * i)).setWidth 8)) := by
            rw [cell_of_row (wr.alloc _) wr.heap.size 0 _ _ (0, 0) (heap_alloc_new wr _)]
            show some (Value.int .u8 _) = some (Value.int .u8 _)
            rw [byte_of]
          have hzB : B ≤ wr.heap.size := by rw [← HB.out]; exact hz2
          have hbwA := hbw.trans (hbA.mono hzB)
          have hx3 : Hid (out2 ++ [(x >>> (8 * i)).setWidth 8] = out ++ (Goss.bytesF x).take (i + 1)) := by
            show _ = _
            have e4 : i < (Goss.bytesF x).length := hlt4
            have e5 := bytesF_at x i hlt4
            rw [List.getElem?_eq_getElem e4] at e5
            rw [List.take_succ_eq_append_getElem e4, Option.some.inj e5, hx2.out, List.append_assoc]
          clear hbA hz2
          go_wp2_with (at_builtin; go_must (refine app_byte rfl _ _ rfl B _ out2 rfl howA _ _ _ rfl hcA rfl (by omega) (by simp; omega) ?_))
          intro v4 w4 ho4 hg4
          obtain ⟨p4, c4, rfl⟩ := ho4.shape
          go_wp2
          go_roundw
          case rel =>
            exact ⟨i + 1, _, by omega, by first | rfl | go_num, ho4, hx3, by simp; omega, grownB_below hbwA howA (by simp; omega) (by rw [hlo2]; exact hg4)⟩
          case measure => first | omega | (simp [intOf]; done) | (simp [intOf]; omega)
        · obtain rfl : i = 4 := by omega
          have hd4 : decide ((4 : Int) < 4) = false := by decide
          go_wp2
          go_roundw
          case rel =>
            refine ⟨j + 1, out2, by omega, by first | rfl | go_num, how, ?_, by omega, hbw⟩
            show _ = _
            obtain ⟨hl, hxe⟩ := List.getElem?_eq_some_iff.1 Hx0.out
            rw [List.take_succ_eq_append_getElem hl, hx2.out, hx.out, hxe]
            simp [Goss.bytesP, Goss.bytesF]
          case measure => first | omega | (simp [intOf]; done) | (simp [intOf]; omega)
    · obtain rfl : j = m := by omega
      go_wp2
      go_ret
      have e1 := hx.out
      rw [← Hm.out, List.take_length, HR.out] at e1
      refine ⟨_, rfl, ?_, by rw [HB.out]; exact hbw⟩
      rw [HB.out, HR.out, ← e1]
      exact how
theorem bytesP_len (xs : List Goss.F) : (Goss.bytesP xs).length = 4 * xs.length := by
  induction xs with
  | nil => rfl
  | cons x r ih => simp [Goss.bytesP, Goss.bytesF] at ih ⊢; omega
set_option maxRecDepth 100000 in
theorem skbytes_any (B b g c : Nat) (s : List Goss.F) (w : World) (h : Sk w B b g c s) (hl : s.length ≤ 1000000) :
    Calls Try.prog 18 #[.pointer (some ⟨b, 0, none⟩)] w (NewB (Goss.bytesP s) w) := by
  have hp := h.ptr
  have hb := bytes_any _ s w h.own.sl hl
  generalize Goss.bytesP s = R at *
  go_enter Try.func18, Try.ntmps18
  go_wp2_with fail
  refine hb.mono ?_
  rintro e w1 ⟨v, rfl, ho, hb1⟩
  go_wp2
  go_ret
  exact ⟨_, rfl, ho, hb1⟩
set_option maxRecDepth 100000 in
theorem skbytes_nil (w : World) : Calls Try.prog 18 #[.pointer none] w (Ret (.slice none 0 0) w) := by
  go_enter Try.func18, Try.ntmps18
  go_wp2
  go_ret
  exact ⟨rfl, rfl⟩
end Go.Proofs.Ythglbipcfhdoaaa
