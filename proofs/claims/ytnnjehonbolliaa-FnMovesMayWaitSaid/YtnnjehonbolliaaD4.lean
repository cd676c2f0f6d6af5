/- Chips with choices or moves, drawn from bytes. -/
import Derived.Test.YtnnjehonbolliaaD3
namespace Go.Proofs.Ytnnjehonbolliaa
set_option linter.unusedSimpArgs false
set_option linter.unusedVariables false
set_option maxHeartbeats 4000000
open Go Go.Eng
attribute [local irreducible] WD RunD PreD Runs CallOK

theorem cur_mk {h hh : Hp} {v : Value} {bs : List Int} (hb : BytesF h.next h v bs) (hk : Keeps h hh) {o : Nat} (ho : h.next ≤ o ∧ o < hh.next) (hg : hh.get o = .cells [v, .int .i64 0, .int .u64 0] true true 1) : CurS h.next o 0 hh :=
  ⟨ho, v, bs, 0, 0, by simpa using hg, hb.same (h := h) (h' := hh) (.of_keeps hk), Nat.le_refl _⟩
theorem drawRunBy_ok (h : Hp) (v : Value) (bs : List Int) (hb : BytesF h.next h v bs) : ∃ u h', CallOK Try.prog 6 #[v] h u h' ∧ Adds h h' ∧ ∃ c l L A xs, u = .tuple #[c, l] ∧ Chips h' c L A ∧ Ints h' l xs ∧ (L.length ≤ 5 ∧ (∀ x ∈ L, x.length ≤ 4) ∧ A.length ≤ 4) ∧ xs.length ≤ 13 := by
  have ntv := hb.bytes.nt
  have csv := hb.bytes.cs
  refine callY_L (args := [v]) 12 _ [.cell 2 27, .tmp 3] Try.func6 rfl rfl rfl ?_
  try simp (disch := first | omega | (simp; done) | fail) [wrap64c, if_pos, if_neg, ntv, csv]
  first | refine WY_heap fun h0 q_h0 => ?_ | refine callG_heap fun h0 q_h0 => ?_ | refine callP_heap fun h0 q_h0 => ?_ | refine callS_heap fun h0 q_h0 => ?_ | refine RY_heap fun h0 q_h0 => ?_ | refine PY_heap fun h0 q_h0 => ?_ | refine SY_heap fun h0 q_h0 => ?_ | refine doneY_heap fun h0 q_h0 => ?_ | refine loopK_heap fun h0 q_h0 => ?_ | refine thenY_heap fun h0 q_h0 => ?_ | refine thenM_heap fun h0 q_h0 => ?_
  have k0 : Adds h h0 := by rw [q_h0]; exact (by first | exact aK | exact kK)
  have n0 : h0.next = h.next + 2 := by simp [q_h0]
  have g0 : h0.get (h.next + 1) = .cells [v, .int .i64 0, .int .u64 0] true true 1 := by simp [q_h0]
  have gr0 : h0.get h.next = .cells [.slice none 0 0, .slice none 0 0] true true 1 := by simp [q_h0]
  have c0 := cur_mk hb k0.1 ⟨Nat.le_succ _, by omega⟩ g0
  obtain ⟨v1, h1, p1, d1, L, A, f1, sm1⟩ := chips_ok h h0 (h.next + 1) 0 k0 c0 (by decide)
  obtain ⟨v2, h2, p2, d2, xs, i2, l2⟩ := choices_ok h h1 (h.next + 1) 1000 d1.add d1.cur (by decide)
  have f2 := f1.same (d2.same (S := fun x => h0.next ≤ x) (fun p hp => by omega))
  have d3 := d1.trans d2
  obtain ⟨a, b, rfl, fa, fb⟩ := f2
  have gr2 : h2.get h.next = .cells [.slice none 0 0, .slice none 0 0] true true 1 := by rw [d3.sm _ (by omega) (by omega)]; exact gr0
  have gr2' := gr2
  have hp2 : ∀ a b c d : Value, putCells [a, b] 0 [c, d] = [c, d] := fun _ _ _ _ => rfl
  have nt2 := i2.nt
  refine callG_c (by simp) (by simp) ?ha (p1) ?_
  (case ha => simp (disch := first | omega | (simp; done) | fail) [wrap64c, if_pos, if_neg, ntv, csv, gr2', hp2, nt2])
  try simp (disch := first | omega | (simp; done) | fail) [wrap64c, if_pos, if_neg, ntv, csv, gr2', hp2, nt2]
  refine callG_c (by simp) (by simp) ?ha (p2) ?_
  (case ha => simp (disch := first | omega | (simp; done) | fail) [wrap64c, if_pos, if_neg, ntv, csv, gr2', hp2, nt2])
  try simp (disch := first | omega | (simp; done) | fail) [wrap64c, if_pos, if_neg, ntv, csv, gr2', hp2, nt2]
  have hs : Same (fun x => h0.next ≤ x) h2 (h2.put h.next (.cells [a, b] true true 1)) := ⟨Nat.le_refl _, fun x hx _ => by simp [show x ≠ h.next by omega]⟩
  have fi := ((i2.own (by omega)).read.sub (G := fun x => h0.next ≤ x) (fun x hx => by have := hx.1; have := d1.nx; omega)).same hs
  exact done_ret (vs := [.agg #[a, b], v2]) (by simp [resL]) ⟨d3.add.put (Nat.le_refl _) (fun _ => rfl), _, _, L, A, xs, rfl, ⟨a, b, rfl, (fa.same hs).rows, (fb.same hs).ints⟩, fi.ints, sm1, l2⟩
theorem drawMove_ok (h : Hp) (v : Value) (bs : List Int) (hb : BytesF h.next h v bs) : ∃ u h', CallOK Try.prog 26 #[v] h u h' ∧ Adds h h' ∧ ∃ c L A i, u = .tuple #[c, .int .i64 i] ∧ Chips h' c L A ∧ (L.length ≤ 5 ∧ (∀ x ∈ L, x.length ≤ 4) ∧ A.length ≤ 4) ∧ -1 ≤ i ∧ i ≤ 5 := by
  have ntv := hb.bytes.nt
  have csv := hb.bytes.cs
  refine callY_L (args := [v]) 16 _ [.cell 2 27, .tmp 3] Try.func26 rfl rfl rfl ?_
  try simp (disch := first | omega | (simp; done) | fail) [wrap64c, if_pos, if_neg, ntv, csv]
  first | refine WY_heap fun h0 q_h0 => ?_ | refine callG_heap fun h0 q_h0 => ?_ | refine callP_heap fun h0 q_h0 => ?_ | refine callS_heap fun h0 q_h0 => ?_ | refine RY_heap fun h0 q_h0 => ?_ | refine PY_heap fun h0 q_h0 => ?_ | refine SY_heap fun h0 q_h0 => ?_ | refine doneY_heap fun h0 q_h0 => ?_ | refine loopK_heap fun h0 q_h0 => ?_ | refine thenY_heap fun h0 q_h0 => ?_ | refine thenM_heap fun h0 q_h0 => ?_
  have k0 : Adds h h0 := by rw [q_h0]; exact (by first | exact aK | exact kK)
  have n0 : h0.next = h.next + 2 := by simp [q_h0]
  have g0 : h0.get (h.next + 1) = .cells [v, .int .i64 0, .int .u64 0] true true 1 := by simp [q_h0]
  have gr0 : h0.get h.next = .cells [.slice none 0 0, .slice none 0 0] true true 1 := by simp [q_h0]
  have c0 := cur_mk hb k0.1 ⟨Nat.le_succ _, by omega⟩ g0
  obtain ⟨v1, h1, p1, d1, L, A, f1, sm1⟩ := chips_ok h h0 (h.next + 1) 0 k0 c0 (by decide)
  obtain ⟨v2, h2, p2, r2, q2, l2, w2⟩ := pick_ok h.next (h.next + 1) 1000 h1 6 d1.cur (by decide)
  subst q2
  have d2 := w2.dr d1.add d1.cur
  obtain ⟨v3, h3, p3, r3, q3, l3, w3⟩ := pick_ok h.next (h.next + 1) 1002 h2 9 w2.cur (by decide)
  subst q3
  have d3 := w3.dr d2.add d2.cur
  have f3 := f1.same ((d2.trans d3).same (S := fun x => h0.next ≤ x) (fun p hp => by omega))
  have d4 := (d1.trans d2).trans d3
  obtain ⟨a, b, rfl, fa, fb⟩ := f3
  have gr2 : h3.get h.next = .cells [.slice none 0 0, .slice none 0 0] true true 1 := by rw [d4.sm _ (by omega) (by omega)]; exact gr0
  have gr2' := gr2
  have hp2 : ∀ a b c d : Value, putCells [a, b] 0 [c, d] = [c, d] := fun _ _ _ _ => rfl
  have hr2 := l2 (by omega)
  have hr3 := l3 (by omega)
  obtain ⟨e, he, he1⟩ : ∃ e : Nat, Int.tdiv (r3 : Int) 8 = (e : Int) ∧ e ≤ 1 := ⟨r3 / 8, by rw [Int.tdiv_eq_ediv_of_nonneg (by omega)]; simp, by omega⟩
  refine callG_c (by simp) (by simp) ?ha (p1) ?_
  (case ha => simp (disch := first | omega | (simp; done) | fail) [wrap64c, if_pos, if_neg, ntv, csv, gr2', hp2, he])
  try simp (disch := first | omega | (simp; done) | fail) [wrap64c, if_pos, if_neg, ntv, csv, gr2', hp2, he]
  refine callG_c (by simp) (by simp) ?ha (p2) ?_
  (case ha => simp (disch := first | omega | (simp; done) | fail) [wrap64c, if_pos, if_neg, ntv, csv, gr2', hp2, he])
  try simp (disch := first | omega | (simp; done) | fail) [wrap64c, if_pos, if_neg, ntv, csv, gr2', hp2, he]
  refine callG_c (by simp) (by simp) ?ha (p3) ?_
  (case ha => simp (disch := first | omega | (simp; done) | fail) [wrap64c, if_pos, if_neg, ntv, csv, gr2', hp2, he])
  try simp (disch := first | omega | (simp; done) | fail) [wrap64c, if_pos, if_neg, ntv, csv, gr2', hp2, he]
  have hs : Same (fun x => h0.next ≤ x) h3 (h3.put h.next (.cells [a, b] true true 1)) := ⟨Nat.le_refl _, fun x hx _ => by simp [show x ≠ h.next by omega]⟩
  exact done_ret (vs := [.agg #[a, b], .int .i64 ((r2 : Int) - (e : Int))]) (by simp [resL]) ⟨d4.add.put (Nat.le_refl _) (fun _ => rfl), _, L, A, _, rfl, ⟨a, b, rfl, (fa.same hs).rows, (fb.same hs).ints⟩, sm1, by omega, by omega⟩
end Go.Proofs.Ytnnjehonbolliaa
