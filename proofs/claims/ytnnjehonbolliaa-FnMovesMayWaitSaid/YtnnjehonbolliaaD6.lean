/- Chips alone, and chips with how often places are moved, drawn from bytes. -/
import Derived.Test.YtnnjehonbolliaaD5
import Derived.Test.YtnnjehonbolliaaB8
import Derived.Test.YtnnjehonbolliaaH1
namespace Go.Proofs.Ytnnjehonbolliaa
set_option linter.unusedSimpArgs false
set_option linter.unusedVariables false
set_option maxHeartbeats 4000000
open Go Go.Eng
attribute [local irreducible] WD RunD PreD Runs CallOK

theorem putI {ys : List Int} {j : Nat} (hj : j < ys.length) (x : Int) : putCells (ys.map (.int .i64)) j [.int .i64 x] = (ys.set j x).map (.int .i64) := by
  rw [putCells_one (by simpa using hj), List.map_set]
theorem l1LeastD_ok (h : Hp) (a b : Int) : CallOK Try.prog 64 #[.int .i64 a, .int .i64 b] h (.int .i64 (if a < b then a else b)) h := by
  refine callY_P 10 _ [.tmp 4] Try.func64 rfl rfl rfl (by first | rfl | simp) ?_
  by_cases c : a < b
  · try simp (disch := first | omega | (simp; done) | fail) [wrap64c, if_pos, if_neg, c]
    exact done_ret rfl (by simp [c])
  · try simp (disch := first | omega | (simp; done) | fail) [wrap64c, if_pos, if_neg, c]
    exact done_ret rfl (by simp [c])
theorem drawAreChips_ok (h : Hp) (v : Value) (bs : List Int) (hb : BytesF h.next h v bs) : ∃ u h', CallOK Try.prog 74 #[v] h u h' ∧ Adds h h' ∧ ∃ L A, ChipsF (fun x => h.next < x) h' u L A ∧ (L.length ≤ 5 ∧ (∀ x ∈ L, x.length ≤ 4) ∧ A.length ≤ 4) := by
  have ntv := hb.bytes.nt
  have csv := hb.bytes.cs
  refine callY_L (args := [v]) 9 _ [.cell 2 27] Try.func74 rfl rfl rfl ?_
  try simp (disch := first | omega | (simp; done) | fail) [wrap64c, if_pos, if_neg, ntv, csv]
  first | refine WY_heap fun h0 q_h0 => ?_ | refine callG_heap fun h0 q_h0 => ?_ | refine callP_heap fun h0 q_h0 => ?_ | refine callS_heap fun h0 q_h0 => ?_ | refine RY_heap fun h0 q_h0 => ?_ | refine PY_heap fun h0 q_h0 => ?_ | refine SY_heap fun h0 q_h0 => ?_ | refine doneY_heap fun h0 q_h0 => ?_ | refine loopK_heap fun h0 q_h0 => ?_ | refine thenY_heap fun h0 q_h0 => ?_ | refine thenM_heap fun h0 q_h0 => ?_
  have k0 : Adds h h0 := by rw [q_h0]; exact (by first | exact aK | exact kK)
  have n0 : h0.next = h.next + 2 := by simp [q_h0]
  have g0 : h0.get (h.next + 1) = .cells [v, .int .i64 0, .int .u64 0] true true 1 := by simp [q_h0]
  have gr0 : h0.get h.next = .cells [.slice none 0 0, .slice none 0 0] true true 1 := by simp [q_h0]
  have c0 := cur_mk hb k0.1 ⟨Nat.le_succ _, by omega⟩ g0
  obtain ⟨v1, h1, p1, d1, L, A, f1, sm1⟩ := chips_ok h h0 (h.next + 1) 0 k0 c0 (by decide)
  obtain ⟨a, b, rfl, fa, fb⟩ := f1
  have gr2 : h1.get h.next = .cells [.slice none 0 0, .slice none 0 0] true true 1 := by rw [d1.sm _ (by omega) (by omega)]; exact gr0
  have gr2' := gr2
  have hp2 : ∀ a b c d : Value, putCells [a, b] 0 [c, d] = [c, d] := fun _ _ _ _ => rfl
  refine callG_c (by simp) (by simp) ?ha (p1) ?_
  (case ha => simp (disch := first | omega | (simp; done) | fail) [wrap64c, if_pos, if_neg, ntv, csv, gr2', hp2])
  try simp (disch := first | omega | (simp; done) | fail) [wrap64c, if_pos, if_neg, ntv, csv, gr2', hp2]
  have hs : Same (fun x => h0.next ≤ x) h1 (h1.put h.next (.cells [a, b] true true 1)) := ⟨Nat.le_refl _, fun x hx _ => by simp [show x ≠ h.next by omega]⟩
  exact done_ret (vs := [.agg #[a, b]]) (by simp [resL]) ⟨d1.add.put (Nat.le_refl _) (fun _ => rfl), L, A, ⟨a, b, rfl, (fa.same hs).sub (fun x hx => by omega), (fb.same hs).sub (fun x hx => by omega)⟩, sm1⟩
theorem drawSpaceOfRuns_ok (h : Hp) (v : Value) (bs : List Int) (hb : BytesF h.next h v bs) : ∃ u h', CallOK Try.prog 33 #[v] h u h' ∧ Adds h h' ∧ ∃ L A, Chips h' u L A ∧ (L.length ≤ 5 ∧ (∀ x ∈ L, x.length ≤ 4) ∧ A.length ≤ 4) := by
  have ntv := hb.bytes.nt
  refine callY_L (args := [v]) 5 _ [.cell 2 27] Try.func33 rfl rfl rfl ?_
  try simp (disch := first | omega | (simp; done) | fail) [wrap64c, if_pos, if_neg, ntv]
  first | refine WY_heap fun h0 q_h0 => ?_ | refine callG_heap fun h0 q_h0 => ?_ | refine callP_heap fun h0 q_h0 => ?_ | refine callS_heap fun h0 q_h0 => ?_ | refine RY_heap fun h0 q_h0 => ?_ | refine PY_heap fun h0 q_h0 => ?_ | refine SY_heap fun h0 q_h0 => ?_ | refine doneY_heap fun h0 q_h0 => ?_ | refine loopK_heap fun h0 q_h0 => ?_ | refine thenY_heap fun h0 q_h0 => ?_ | refine thenM_heap fun h0 q_h0 => ?_
  have k0 : Adds h h0 := by rw [q_h0]; exact (by first | exact aK | exact kK)
  have n0 : h0.next = h.next + 1 := by simp [q_h0]
  have gr0 : h0.get h.next = .cells [.slice none 0 0, .slice none 0 0] true true 1 := by simp [q_h0]
  obtain ⟨u, h1, p1, a1, L, A, hC, sm⟩ := drawAreChips_ok h0 v bs (bytes_old (hb.bytes.keep k0.1))
  obtain ⟨a, b, rfl, fa, fb⟩ := hC
  have gr1 : h1.get h.next = .cells [.slice none 0 0, .slice none 0 0] true true 1 := by rw [a1.1.2 _ (by omega)]; exact gr0
  have hp2 : ∀ a b c d : Value, putCells [a, b] 0 [c, d] = [c, d] := fun _ _ _ _ => rfl
  refine callG_c (by simp) (by simp) ?ha (p1) ?_
  (case ha => simp (disch := first | omega | (simp; done) | fail) [wrap64c, if_pos, if_neg, ntv, gr1, hp2])
  try simp (disch := first | omega | (simp; done) | fail) [wrap64c, if_pos, if_neg, ntv, gr1, hp2]
  have hs : Same (fun x => h0.next < x) h1 (h1.put h.next (.cells [a, b] true true 1)) := ⟨Nat.le_refl _, fun x hx _ => by simp [show x ≠ h.next by omega]⟩
  exact done_ret (vs := [.agg #[a, b]]) (by simp [resL]) ⟨(k0.trans a1).put (Nat.le_refl _) (fun _ => rfl), L, A, ⟨a, b, rfl, (fa.same hs).rows, (fb.same hs).ints⟩, sm⟩
theorem drawReached_ok (h : Hp) (v : Value) (bs : List Int) (hb : BytesF h.next h v bs) : ∃ u h', CallOK Try.prog 30 #[v] h u h' ∧ Adds h h' ∧ ∃ c l L A xs, u = .tuple #[c, l] ∧ Chips h' c L A ∧ Ints h' l xs ∧ (L.length ≤ 5 ∧ (∀ x ∈ L, x.length ≤ 4) ∧ A.length ≤ 4) ∧ xs.length ≤ 200 := by
  have ntv := hb.bytes.nt
  have csv := hb.bytes.cs
  refine callY_L (args := [v]) 55 _ [.cell 2 27, .tmp 3] Try.func30 rfl rfl rfl ?_
  try simp (disch := first | omega | (simp; done) | fail) [wrap64c, if_pos, if_neg, ntv, csv]
  first | refine WY_heap fun h0 q_h0 => ?_ | refine callG_heap fun h0 q_h0 => ?_ | refine callP_heap fun h0 q_h0 => ?_ | refine callS_heap fun h0 q_h0 => ?_ | refine RY_heap fun h0 q_h0 => ?_ | refine PY_heap fun h0 q_h0 => ?_ | refine SY_heap fun h0 q_h0 => ?_ | refine doneY_heap fun h0 q_h0 => ?_ | refine loopK_heap fun h0 q_h0 => ?_ | refine thenY_heap fun h0 q_h0 => ?_ | refine thenM_heap fun h0 q_h0 => ?_
  have k0 : Adds h h0 := by rw [q_h0]; exact (by first | exact aK | exact kK)
  have n0 : h0.next = h.next + 2 := by simp [q_h0]
  have g0 : h0.get (h.next + 1) = .cells [v, .int .i64 0, .int .u64 0] true true 1 := by simp [q_h0]
  have gr0 : h0.get h.next = .cells [.slice none 0 0, .slice none 0 0] true true 1 := by simp [q_h0]
  have c0 := cur_mk hb k0.1 ⟨Nat.le_succ _, by omega⟩ g0
  obtain ⟨v1, h1, p1, d1, L, A, f1, sm1⟩ := chips_ok h h0 (h.next + 1) 0 k0 c0 (by decide)
  obtain ⟨a, b, rfl, fa, fb⟩ := f1
  have hp2 : ∀ a b c d : Value, putCells [a, b] 0 [c, d] = [c, d] := fun _ _ _ _ => rfl
  refine callG_c (by simp) (by simp) ?ha (p1) ?_
  (case ha => simp (disch := first | omega | (simp; done) | fail) [wrap64c, if_pos, if_neg, ntv, csv, hp2])
  try simp (disch := first | omega | (simp; done) | fail) [wrap64c, if_pos, if_neg, ntv, csv, hp2]
  first | refine WY_heap fun h2 q_h2 => ?_ | refine callG_heap fun h2 q_h2 => ?_ | refine callP_heap fun h2 q_h2 => ?_ | refine callS_heap fun h2 q_h2 => ?_ | refine RY_heap fun h2 q_h2 => ?_ | refine PY_heap fun h2 q_h2 => ?_ | refine SY_heap fun h2 q_h2 => ?_ | refine doneY_heap fun h2 q_h2 => ?_ | refine loopK_heap fun h2 q_h2 => ?_ | refine thenY_heap fun h2 q_h2 => ?_ | refine thenM_heap fun h2 q_h2 => ?_
  have k2 : Adds h1 h2 := by rw [q_h2]; exact (by first | exact aK | exact kK)
  have n2 : h2.next = h1.next + 1 := by simp [q_h2]
  have d2 := d1.trans (DrW.of_adds d1.add d1.cur k2)
  have nx1 := d1.nx
  have gc2 : h2.get h1.next = .cells [a, b] true true 1 := by simp [q_h2]
  have gr2 : h2.get h.next = .cells [.slice none 0 0, .slice none 0 0] true true 1 := by rw [d2.sm _ (by omega) (by omega)]; exact gr0
  have fa2 := fa.keep k2.1
  have fb2 := fb.keep k2.1
  have hC2 : Chips h2 (.agg #[a, b]) L A := ⟨a, b, rfl, fa2.rows, fb2.ints⟩
  obtain ⟨_, h3, p3, a3, u3, rfl, i3⟩ := spMoveCounts_ok h2 _ L A hC2
  have d3 := d2.trans (DrW.of_adds d2.add d2.cur a3)
  have nx3 := a3.1.1
  have gc3 : h3.get h1.next = .cells [a, b] true true 1 := by rw [a3.1.2 _ (by omega)]; exact gc2
  have gr3 : h3.get h.next = .cells [.slice none 0 0, .slice none 0 0] true true 1 := by rw [a3.1.2 _ (by omega)]; exact gr2
  have fa3 := fa2.keep a3.1
  have fb3 := fb2.keep a3.1
  refine callG_c (by simp) (by simp) ?ha (p3) ?_
  (case ha => simp (disch := first | omega | (simp; done) | fail) [wrap64c, if_pos, if_neg, ntv, csv, hp2, gc3, gr3])
  cases hs : (countsR L A).isSome
  · have hs' := hs
    have hn' : (countsR L A).isNone = true := by simpa using hs
    try simp (disch := first | omega | (simp; done) | fail) [wrap64c, if_pos, if_neg, ntv, csv, hp2, gc3, gr3, hs', hn']
    first | refine WY_heap fun h4 q_h4 => ?_ | refine callG_heap fun h4 q_h4 => ?_ | refine callP_heap fun h4 q_h4 => ?_ | refine callS_heap fun h4 q_h4 => ?_ | refine RY_heap fun h4 q_h4 => ?_ | refine PY_heap fun h4 q_h4 => ?_ | refine SY_heap fun h4 q_h4 => ?_ | refine doneY_heap fun h4 q_h4 => ?_ | refine loopK_heap fun h4 q_h4 => ?_ | refine thenY_heap fun h4 q_h4 => ?_ | refine thenM_heap fun h4 q_h4 => ?_
    have kz : Adds h3 (h3.alloc (.cells [.int .i64 0] true true 1)) := Adds.alloc h3 (fun _ => rfl)
    obtain ⟨z1, z2, z3⟩ := fin2 (d3.add.trans kz) (by omega) (fa3.keep kz.1) (fb3.keep kz.1) (lit_ints (F := fun x => h0.next ≤ x) (h := h3.alloc (.cells [.int .i64 0] true true 1)) (p := h3.next) (xs := [0]) (own := true) (ex := true) (es := 1) (by simp) (by simp) (by omega) (by simp)) [a, b] true 1
    rw [← q_h4] at z1 z2 z3
    have gr4 : h4.get h.next = .cells [a, b] true true 1 := by simp [q_h4]
    exact done_ret (vs := [.agg #[a, b], .slice (some ⟨h3.next, 0, none⟩) 1 1]) (by simp [resL, gr4]) ⟨z1, _, _, L, A, [0], rfl, z2, z3, sm1, by simp⟩
  have hs' := hs
  have hn' : (countsR L A).isNone = false := by cases hq : countsR L A <;> simp_all
  obtain ⟨q, hq⟩ : ∃ q, fullR L A [] = some q := by
    cases hq : fullR L A [] with
    | none => simp [countsR, hq, fst?] at hs
    | some q => exact ⟨q, rfl⟩
  have hg : goodB L A = true := by
    by_cases hg : goodB L A = true
    · exact hg
    · simp [fullR, hg] at hq
  have hcnt : (countsR L A).getD [] = cntL A.length q.1 := by simp [countsR, hq, fst?]
  have hl60 := (fullR_len (by simp) hq).1
  have hA1 := (good_of hg).1
  rw [hcnt] at i3
  obtain ⟨v4, h4, p4, a4, o4, i4⟩ := l1Own_ok h3 _ _ i3.ints (by simp [cntL]; omega)
  have lcn : (cntL A.length q.1).length = A.length := by simp [cntL]
  have bcn : ∀ x ∈ cntL A.length q.1, 0 ≤ x ∧ x ≤ 100 := by
    intro x hx
    simp only [cntL, List.mem_map, List.mem_range] at hx
    obtain ⟨i, hi, rfl⟩ := hx
    have := List.count_le_length (a := (i : Int)) (l := q.1)
    omega
  rcases i4 with ⟨e1, _⟩ | ⟨oq, eq_, e2, z1, z2, z3⟩
  · rw [e1] at lcn
    simp at lcn
    omega
  subst e2
  have d4 : DrW h (h.next + 1) 1000 h3 h4 := DrW.of_adds d3.add d3.cur a4
  have lcn' := lcn
  try simp (disch := first | omega | (simp; done) | fail) [wrap64c, if_pos, if_neg, ntv, csv, hp2, gc3, gr3, hs', hn', lcn']
  refine callG_c (by simp) (by simp) ?ha (p4) ?_
  (case ha => simp (disch := first | omega | (simp; done) | fail) [wrap64c, if_pos, if_neg, ntv, csv, hp2, gc3, gr3, hs', hn', lcn'])
  try simp (disch := first | omega | (simp; done) | fail) [wrap64c, if_pos, if_neg, ntv, csv, hp2, gc3, gr3, hs', hn', lcn']
  refine WD_loopC [2, 4, 5, 6, 26] (fun m tm h' => ∃ j K ys, m = A.length - j ∧ tm 27 = .int .i64 (j : Int) ∧ (j ≤ A.length) ∧ (DrW h (h.next + 1) K h3 h') ∧ (h'.get oq = .cells (ys.map (.int .i64)) true eq_ 1) ∧ (oq < h'.next) ∧ (ys.length = A.length) ∧ (∀ x ∈ ys, 0 ≤ x ∧ x ≤ 100) ∧ (K ≤ 2000 + 4 * j)) _ ⟨0, 1000, cntL A.length q.1, rfl, (by simp (disch := first | omega | (simp; done) | fail) [wrap64c, if_pos, if_neg, ntv, csv, hp2, gc3, gr3, hs', hn', lcn']), (by first | omega | assumption | (simp (disch := first | omega | (simp; done) | fail) [wrap64c, if_pos, if_neg, ntv, csv, hp2, gc3, gr3, hs', hn', lcn'] <;> omega)), d4, z3, (by first | omega | assumption | (simp (disch := first | omega | (simp; done) | fail) [wrap64c, if_pos, if_neg, ntv, csv, hp2, gc3, gr3, hs', hn', lcn'] <;> omega)), lcn, bcn, (by first | omega | assumption | (simp (disch := first | omega | (simp; done) | fail) [wrap64c, if_pos, if_neg, ntv, csv, hp2, gc3, gr3, hs', hn', lcn'] <;> omega))⟩ ?_
  rintro m tm h' hFr ⟨j, K, ys, rfl, e27, hj, hd, ho, hoo, hy, hb, hK⟩
  simp only [FrameL] at hFr
  obtain ⟨f2_0, f4_0, f5_0, f6_0, f26_0, -⟩ := hFr
  try simp (disch := first | omega | (simp; done) | fail) [wrap64c, if_pos, if_neg, ntv, csv, hp2, gc3, gr3, hs', hn', lcn'] at f2_0 f4_0 f5_0 f6_0 f26_0
  have e2 := f2_0
  have e4 := f4_0
  have e5 := f5_0
  have e6 := f6_0
  have e26 := f26_0
  have hy' := hy
  by_cases hlt : j < A.length
  · have ho' := ho
    have hlt2 : j < ys.length := by omega
    have b2 := hb _ (List.getElem_mem hlt2)
    have cl := l1LeastD_ok h' ys[j] 20
    obtain ⟨w, hw⟩ : ∃ w : Nat, (if ys[j] < 20 then ys[j] else 20) = (w : Int) := ⟨(if ys[j] < 20 then ys[j] else 20).toNat, by split <;> omega⟩
    have hw2 : w ≤ 20 := by have : ((w : Nat) : Int) ≤ 20 := by rw [← hw]; split <;> omega
                            omega
    rw [hw] at cl
    obtain ⟨v5, h5, p5, r5, q5, l5, w5⟩ := pick_ok h.next (h.next + 1) K h' 6 hd.cur (by omega)
    subst q5
    have d5 := hd.trans (w5.dr hd.add hd.cur)
    have hr5 := l5 (by omega)
    obtain ⟨e, he, he1⟩ : ∃ e : Nat, Int.tdiv (r5 : Int) 5 = (e : Int) ∧ e ≤ 1 := ⟨r5 / 5, by rw [Int.tdiv_eq_ediv_of_nonneg (by omega)]; simp, by omega⟩
    obtain ⟨v6, h6, p6, r6, q6, l6, w6⟩ := pick_ok h.next (h.next + 1) (K + 2) h5 ((w : Int) + 1 + e) d5.cur (by omega)
    subst q6
    have d6 := d5.trans (w6.dr d5.add d5.cur)
    have hr6 := l6 (by omega)
    have n5 := w5.nx
    have n6 := w6.nx
    have ho6 : h6.get oq = .cells (ys.map (.int .i64)) true eq_ 1 := by rw [w6.get _ (by omega) (by omega), w5.get _ (by omega) (by omega)]; exact ho
    try simp (disch := first | omega | (simp; done) | fail) [wrap64c, if_pos, if_neg, ntv, csv, hp2, gc3, gr3, hs', hn', lcn', e2, e4, e5, e6, e26, e27, hy', hlt, ho', hlt2, he, ho6]
    refine callG_c (by simp) (by simp) ?ha (cl) ?_
    (case ha => simp (disch := first | omega | (simp; done) | fail) [wrap64c, if_pos, if_neg, ntv, csv, hp2, gc3, gr3, hs', hn', lcn', e2, e4, e5, e6, e26, e27, hy', hlt, ho', hlt2, he, ho6])
    try simp (disch := first | omega | (simp; done) | fail) [wrap64c, if_pos, if_neg, ntv, csv, hp2, gc3, gr3, hs', hn', lcn', e2, e4, e5, e6, e26, e27, hy', hlt, ho', hlt2, he, ho6]
    refine callG_c (by simp) (by simp) ?ha (p5) ?_
    (case ha => simp (disch := first | omega | (simp; done) | fail) [wrap64c, if_pos, if_neg, ntv, csv, hp2, gc3, gr3, hs', hn', lcn', e2, e4, e5, e6, e26, e27, hy', hlt, ho', hlt2, he, ho6])
    try simp (disch := first | omega | (simp; done) | fail) [wrap64c, if_pos, if_neg, ntv, csv, hp2, gc3, gr3, hs', hn', lcn', e2, e4, e5, e6, e26, e27, hy', hlt, ho', hlt2, he, ho6]
    refine callG_c (by simp) (by simp) ?ha (p6) ?_
    (case ha => simp (disch := first | omega | (simp; done) | fail) [wrap64c, if_pos, if_neg, ntv, csv, hp2, gc3, gr3, hs', hn', lcn', e2, e4, e5, e6, e26, e27, hy', hlt, ho', hlt2, he, ho6])
    try simp (disch := first | omega | (simp; done) | fail) [wrap64c, if_pos, if_neg, ntv, csv, hp2, gc3, gr3, hs', hn', lcn', e2, e4, e5, e6, e26, e27, hy', hlt, ho', hlt2, he, ho6]
    refine loopK_next _ ?hm ?hf ⟨j + 1, K + 4, ys.set j (r6 : Int), rfl, (by simp (disch := first | omega | (simp; done) | fail) [wrap64c, if_pos, if_neg, ntv, csv, hp2, gc3, gr3, hs', hn', lcn', e2, e4, e5, e6, e26, e27, hy', hlt, ho', hlt2, he, ho6] <;> omega), (by first | omega | assumption | (simp (disch := first | omega | (simp; done) | fail) [wrap64c, if_pos, if_neg, ntv, csv, hp2, gc3, gr3, hs', hn', lcn', e2, e4, e5, e6, e26, e27, hy', hlt, ho', hlt2, he, ho6] <;> omega)), ((d6.put d3.add (by omega) (by omega) _ _ _).mono (by omega)), (by simp [putI hlt2]), (by simp; omega), (by simp [hy]), ?c_hb, (by omega)⟩
    (case hm => first | omega | (simp; omega))
    (case hf => simp [FrameL, ntv, csv, hp2, gc3, gr3, hs', hn', lcn', e2, e4, e5, e6, e26, e27, hy', hlt, ho', hlt2, he, ho6, f2_0, f4_0, f5_0, f6_0, f26_0])
    case c_hb =>
      exact (fun x hx => by
        rcases List.mem_or_eq_of_mem_set hx with h | h
        · exact hb x h
        · omega)
  · obtain ⟨v5, h5, p5, b5, q5, w5⟩ := one_ok h.next (h.next + 1) K h' 12 hd.cur (by omega)
    subst q5
    have d5 := hd.trans (w5.dr hd.add hd.cur)
    have n5 := w5.nx
    have gc5 : h5.get h1.next = .cells [a, b] true true 1 := by rw [d5.sm _ (by omega) (by omega)]; exact gc3
    have gr5 : h5.get h.next = .cells [.slice none 0 0, .slice none 0 0] true true 1 := by rw [d5.sm _ (by omega) (by omega)]; exact gr3
    have fa5 := fa3.same (d5.same (S := fun x => h0.next ≤ x) (fun p hp => by omega))
    have fb5 := fb3.same (d5.same (S := fun x => h0.next ≤ x) (fun p hp => by omega))
    have ho5 : h5.get oq = .cells (ys.map (.int .i64)) true eq_ 1 := by rw [w5.get _ (by omega) (by omega)]; exact ho
    try simp (disch := first | omega | (simp; done) | fail) [wrap64c, if_pos, if_neg, ntv, csv, hp2, gc3, gr3, hs', hn', lcn', e2, e4, e5, e6, e26, e27, hy', hlt, gc5, gr5, ho5]
    refine callG_c (by simp) (by simp) ?ha (p5) ?_
    (case ha => simp (disch := first | omega | (simp; done) | fail) [wrap64c, if_pos, if_neg, ntv, csv, hp2, gc3, gr3, hs', hn', lcn', e2, e4, e5, e6, e26, e27, hy', hlt, gc5, gr5, ho5])
    cases b5
    · try simp (disch := first | omega | (simp; done) | fail) [wrap64c, if_pos, if_neg, ntv, csv, hp2, gc3, gr3, hs', hn', lcn', e2, e4, e5, e6, e26, e27, hy', hlt, gc5, gr5, ho5]
      have i5 : IntsF (fun x => h0.next ≤ x) h5 (.slice (some ⟨oq, 0, none⟩) A.length A.length) ys := by
        have := lit_ints (F := fun x => h0.next ≤ x) (xs := ys) ho5 (by omega) (by omega) (by omega)
        rw [hy] at this
        exact this
      obtain ⟨z1, z2, z3⟩ := fin2 d5.add (by omega) fa5 fb5 i5 [a, b] true 1
      exact done_ret (vs := [.agg #[a, b], _]) (by simp [resL, e2]) ⟨z1, _, _, L, A, ys, rfl, z2, z3, sm1, by omega⟩
    · try simp (disch := first | omega | (simp; done) | fail) [wrap64c, if_pos, if_neg, ntv, csv, hp2, gc3, gr3, hs', hn', lcn', e2, e4, e5, e6, e26, e27, hy', hlt, gc5, gr5, ho5]
      obtain ⟨hL, hLe⟩ : ∃ hL, hL = h5.alloc (.cells [.int .i64 (-1), .int .i64 60, .int .i64 61] true true 1) := ⟨_, rfl⟩
      have kL : Adds h5 hL := by rw [hLe]; exact (by first | exact aK | exact kK)
      have nL : hL.next = h5.next + 1 := by simp [hLe]
      have dL := d5.trans (DrW.of_adds d5.add d5.cur kL)
      have iL : IntsF (fun x => x ≠ h.next + 1) hL (.slice (some ⟨h5.next, 0, none⟩) 3 3) [-1, 60, 61] := lit_ints (xs := [-1, 60, 61]) (own := true) (ex := true) (es := 1) (by simp [hLe]) (by omega) (by omega) (by simp)
      obtain ⟨v6, h6, p6, r6, q6, q7, w6⟩ := among_ok h.next (h.next + 1) (K + 2) hL _ _ dL.cur (by omega) iL (by simp)
      subst q7
      generalize hx6 : [-1, 60, 61][r6] = x6 at p6
      have d6 := dL.trans (w6.dr dL.add dL.cur)
      have n6 := w6.nx
      have gc6 : h6.get h1.next = .cells [a, b] true true 1 := by rw [d6.sm _ (by omega) (by omega)]; exact gc3
      have gr6 : h6.get h.next = .cells [.slice none 0 0, .slice none 0 0] true true 1 := by rw [d6.sm _ (by omega) (by omega)]; exact gr3
      have fa6 := fa3.same (d6.same (S := fun x => h0.next ≤ x) (fun p hp => by omega))
      have fb6 := fb3.same (d6.same (S := fun x => h0.next ≤ x) (fun p hp => by omega))
      have ho6 : h6.get oq = .cells (ys.map (.int .i64)) true eq_ 1 := by rw [w6.get _ (by omega) (by omega), kL.1.2 _ (by omega)]; exact ho5
      have hA0 : 0 < A.length := by omega
      have hne : ¬ h1.next = oq := by omega
      have hne2 : ¬ h.next = oq := by omega
      rw [← hLe]
      refine callG_c (by simp) (by simp) ?ha (p6) ?_
      (case ha => simp (disch := first | omega | (simp; done) | fail) [wrap64c, if_pos, if_neg, ntv, csv, hp2, gc3, gr3, hs', hn', lcn', e2, e4, e5, e6, e26, e27, hy', hlt, gc5, gr5, ho5, gc6, gr6, ho6, hA0, hne, hne2])
      try simp (disch := first | omega | (simp; done) | fail) [wrap64c, if_pos, if_neg, ntv, csv, hp2, gc3, gr3, hs', hn', lcn', e2, e4, e5, e6, e26, e27, hy', hlt, gc5, gr5, ho5, gc6, gr6, ho6, hA0, hne, hne2]
      obtain ⟨hf, hfe⟩ : ∃ hf, hf = h6.put oq (.cells (putCells (ys.map (.int .i64)) 0 [.int .i64 x6]) true eq_ 1) := ⟨_, rfl⟩
      have hs : Same (fun x => h0.next ≤ x ∧ x < h3.next) h3 hf := ⟨by rw [hfe]; simp; omega, fun x hx hl => by rw [hfe]; simp [show x ≠ oq by omega]; exact d6.sm _ hl (by omega)⟩
      have fa7 : IRowsF (fun x => h0.next ≤ x) hf a L := rowsF_now fa3 hs
      have fb7 : IntsF (fun x => h0.next ≤ x) hf b A := intsF_now fb3 hs
      have i7 : IntsF (fun x => h0.next ≤ x) hf (.slice (some ⟨oq, 0, none⟩) A.length A.length) (ys.set 0 x6) := by
        have := lit_ints (F := fun x => h0.next ≤ x) (h := hf) (p := oq) (xs := ys.set 0 x6) (own := true) (ex := eq_) (es := 1) (by rw [hfe, putI (by omega)]; simp) (by rw [hfe]; simp; omega) (by omega) (by simp; omega)
        simp only [List.length_set, hy] at this
        exact this
      have a7 : Adds h hf := by rw [hfe]; exact d6.add.put (by omega) (fun _ => rfl)
      obtain ⟨z1, z2, z3⟩ := fin2 a7 (by omega) fa7 fb7 i7 [a, b] true 1
      rw [← hfe]
      exact done_ret (vs := [.agg #[a, b], _]) (by simp [resL, e2]) ⟨z1, _, _, L, A, _, rfl, z2, z3, sm1, by simp; omega⟩
end Go.Proofs.Ytnnjehonbolliaa
