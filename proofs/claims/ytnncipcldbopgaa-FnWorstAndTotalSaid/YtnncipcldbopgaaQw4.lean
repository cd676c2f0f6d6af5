/- Part 4 of the proof of worstAndTotal_holds: what it uses of the texts that lie in the notes, merged. -/
import Derived.Test.YtnncipcldbopgaaQw3
namespace Go.Proofs.Ytnncipcldbopgaa
set_option linter.unusedSimpArgs false
set_option linter.unusedVariables false
set_option maxHeartbeats 4000000
open Go Go.Eng
attribute [local irreducible] WD RunD PreD Runs CallOK
theorem natsP {l : List Nat} {n : Nat} (h : ∀ x ∈ l, x < n) {r : Nat} : ∀ x ∈ l.take r ++ [n] ++ l.drop r, x < n + 1 := by
  intro x hx
  simp only [List.mem_append, List.mem_singleton] at hx
  rcases hx with (hx | rfl) | hx
  · have := h x (List.mem_of_mem_take hx); omega
  · omega
  · have := h x (List.mem_of_mem_drop hx); omega
theorem nodupP {l : List Nat} {n : Nat} (h : ∀ x ∈ l, x < n) (hd : l.Nodup) (r : Nat) : (l.take r ++ [n] ++ l.drop r).Nodup := by
  have hp : (l.take r ++ [n] ++ l.drop r).Perm (n :: l) := by
    rw [List.append_assoc]
    refine (List.perm_append_comm).trans ?_
    show ([n] ++ l.drop r ++ l.take r).Perm _
    rw [List.append_assoc]
    refine List.Perm.cons n ?_
    have := List.perm_append_comm (l₁ := l.drop r) (l₂ := l.take r)
    rwa [List.take_append_drop] at this
  rw [hp.nodup_iff, List.nodup_cons]
  exact ⟨fun hm => by have := h n hm; omega, hd⟩
theorem order_ok (hB h : Hp) (o k n : Nat) (hA : Adds hB h) (hc : CurS hB.next o k h) (hk : k + 1000 < 2 ^ 40) (hn : n ≤ 100) :
    ∃ v h', CallOK Try.prog 193 #[.pointer (some ⟨o, 0, none⟩), .int .i64 (n : Int)] h v h' ∧ DrW hB o (k + 2 * n) h h' ∧ ∃ l : List Nat, IntsA h.next h' v (toN l) ∧ l.length = n ∧ (∀ x ∈ l, x < n) ∧ l.Nodup := by
  refine callY_L (args := [.pointer (some ⟨o, 0, none⟩), .int .i64 (n : Int)]) 31 _ [.tmp 4] Try.func193 rfl rfl rfl ?_
  try simp (disch := first | omega | (simp; done) | fail) [wrap64c, if_pos, if_neg, opAnd, opOr, opXor, opDiff, opShr, opBit]
  refine WD_loopC [0, 1] (fun m tm h' => ∃ v i l, m = n - i ∧ tm 5 = v ∧ tm 6 = .int .i64 (i : Int) ∧ (i ≤ n) ∧ (DrW hB o (k + 2 * i) h h') ∧ (IntsA h.next h' v (toN l)) ∧ (l.length = i) ∧ (∀ x ∈ l, x < i) ∧ (l.Nodup)) _ ⟨Value.slice none 0 0, 0, [], rfl, (by simp (disch := first | omega | (simp; done) | fail) [wrap64c, if_pos, if_neg, opAnd, opOr, opXor, opDiff, opShr, opBit]), (by simp (disch := first | omega | (simp; done) | fail) [wrap64c, if_pos, if_neg, opAnd, opOr, opXor, opDiff, opShr, opBit]), (by first | omega | assumption | (simp (disch := first | omega | (simp; done) | fail) [wrap64c, if_pos, if_neg, opAnd, opOr, opXor, opDiff, opShr, opBit] <;> omega)), (DrW.refl hA hc), (.nil _ _), rfl, (by simp), List.nodup_nil⟩ ?_
  rintro m tm h' hFr ⟨v, i, l, rfl, e5, e6, hin, hd, hi, hl, hx, hnd⟩
  simp only [FrameL] at hFr
  obtain ⟨f0_0, f1_0, -⟩ := hFr
  try simp (disch := first | omega | (simp; done) | fail) [wrap64c, if_pos, if_neg, opAnd, opOr, opXor, opDiff, opShr, opBit] at f0_0 f1_0
  have e0 := f0_0
  have e1 := f1_0
  have hbo := hc.bo
  have nd := hd.nx
  by_cases hlt : i < n
  · have hlt' : (i : Int) < (n : Int) := by omega
    obtain ⟨v1, h1, c1, r, q1, l1, w1⟩ := pick_ok hB.next o (k + 2 * i) h' ((i : Int) + 1) hd.cur (by omega)
    subst q1
    have hr := l1 (by omega)
    have d1 := hd.trans (w1.dr hd.add hd.cur)
    have n1 := w1.nx
    have hi1 : IntsA h.next h1 v (toN l) := ints_cur hi (by omega) (fun p h1 h2 => w1.get p h2 (by omega))
    have htk : (toN l).take r = toN (l.take r) := by simp [toN, List.map_take]
    have hdr : (toN l).drop r = toN (l.drop r) := by simp [toN, List.map_drop]
    have hP := natsP hx (r := r)
    have hQ := nodupP hx hnd r
    have lP : (l.take r ++ [i] ++ l.drop r).length = i + 1 := by simp; omega
    rcases hi1 with ⟨y1, y2⟩ | ⟨oq, eq_, y2, z1, z2, z3⟩
    · have l0 : l = [] := List.length_eq_zero_iff.1 (by have := congrArg List.length y1; simpa using this)
      have i0 : i = 0 := by rw [← hl, l0]; rfl
      have r0 : r = 0 := by omega
      subst y2
      have r0' := r0
      have hnil : Ints h1 (.slice none 0 0) (toN (l.take r)) := by rw [l0]; simp; exact (IntsO.nil (fun _ => False) h1).ints
      obtain ⟨v2, h2, c2, a2, _, i2⟩ := l1Own_ok h1 (.slice none 0 0) (toN (l.take r)) hnil (by simp; omega)
      have n2 := a2.1.1
      have d2 := d1.trans (DrW.of_adds d1.add d1.cur a2)
      obtain ⟨v3, h3, hap3, i3, k3, n3, s3⟩ := appI i2 (i : Int) (by simp; omega) n2 d2.add (by have := hA.1.1; omega)
      obtain ⟨s3a, s3b⟩ : h2.next ≤ h3.next ∧ ∀ p, p < h2.next → p < h1.next → h3.get p = h2.get p := ⟨by omega, s3⟩
      have hr3 : Ints h3 (.slice none 0 0) (toN (l.drop r)) := (by rw [l0]; simp; exact (IntsO.nil (fun _ => False) h3).ints)
      rw [← toN_snoc] at i3
      obtain ⟨v4, h4, hap4, i4, k4, n4, s4⟩ := append_ints (P := Try.prog) (t := 24) (t' := 24) i3 hr3 ty_elT_24 ty_szT_3 ty_zeroT_3 ty_byT_3 (by decide) (by decide) (by simp) (by simp; omega) (by omega) k3 (by have := hA.1.1; omega)
      rw [← toN_append] at i4
      have d4 : DrW hB o (k + 2 * i + 2) h h4 := by
        refine ⟨k4, by omega, fun p hp hne => ?_, ?_⟩
        · rw [s4 p (by omega) (by omega), s3b p (by omega) (by omega)]
          exact d2.sm p hp hne
        · exact d2.cur.same ⟨by omega, fun p hp hl => by
            have hb' : p < h1.next := by rcases hp with hp | hp <;> have := hA.1.1 <;> omega
            rw [s4 p (by omega) hb', s3b p hl hb']⟩
      skip
      try simp (disch := first | omega | (simp; done) | fail) [wrap64c, if_pos, if_neg, opAnd, opOr, opXor, opDiff, opShr, opBit, e0, e1, e5, e6, hlt', r0']
      refine callG_c (by simp) (by simp) ?ha (c1) ?_
      (case ha => simp (disch := first | omega | (simp; done) | fail) [wrap64c, if_pos, if_neg, opAnd, opOr, opXor, opDiff, opShr, opBit, e0, e1, e5, e6, hlt', r0'])
      try simp (disch := first | omega | (simp; done) | fail) [wrap64c, if_pos, if_neg, opAnd, opOr, opXor, opDiff, opShr, opBit, e0, e1, e5, e6, hlt', r0']
      refine callG_c (by simp) (by simp) ?ha (c2) ?_
      (case ha => simp (disch := first | omega | (simp; done) | fail) [wrap64c, if_pos, if_neg, opAnd, opOr, opXor, opDiff, opShr, opBit, e0, e1, e5, e6, hlt', r0'])
      try simp (disch := first | omega | (simp; done) | fail) [wrap64c, if_pos, if_neg, opAnd, opOr, opXor, opDiff, opShr, opBit, e0, e1, e5, e6, hlt', r0', hap3, hap4]
      refine loopK_next _ ?hm ?hf ⟨v4, i + 1, l.take r ++ [i] ++ l.drop r, rfl, (by simp (disch := first | omega | (simp; done) | fail) [wrap64c, if_pos, if_neg, opAnd, opOr, opXor, opDiff, opShr, opBit, e0, e1, e5, e6, hlt', r0'] <;> omega), (by simp (disch := first | omega | (simp; done) | fail) [wrap64c, if_pos, if_neg, opAnd, opOr, opXor, opDiff, opShr, opBit, e0, e1, e5, e6, hlt', r0'] <;> omega), (by first | omega | assumption | (simp (disch := first | omega | (simp; done) | fail) [wrap64c, if_pos, if_neg, opAnd, opOr, opXor, opDiff, opShr, opBit, e0, e1, e5, e6, hlt', r0'] <;> omega)), (d4.mono (by omega)), (IntsA.lower i4 (by omega)), lP, hP, hQ⟩
      (case hm => first | omega | (simp; omega))
      (case hf => simp [FrameL, e0, e1, e5, e6, hlt', r0', f0_0, f1_0])
    · have ll : (toN l).length = i := by rw [toN_length, hl]
      rw [ll] at y2
      subst y2
      have hri : r ≤ i := by omega
      have hI1 : Ints h1 (.slice (some ⟨oq, 0, none⟩) r i) (toN (l.take r)) := by
        have := subI z3 z2 (i := 0) (n := r) (c := i) (by omega) (by omega) (by omega)
        rwa [List.drop_zero, htk] at this
      have hI2 : Ints h1 (.slice (some ⟨oq, r, none⟩) (i - r) (i - r)) (toN (l.drop r)) := by
        have := subI z3 z2 (i := r) (n := i - r) (c := i - r) (by omega) (by omega) (by omega)
        rwa [hdr, List.take_of_length_le (by rw [toN_length, List.length_drop, hl]; exact Nat.le_refl _)] at this
      obtain ⟨v2, h2, c2, a2, _, i2⟩ := l1Own_ok h1 (.slice (some ⟨oq, 0, none⟩) r i) (toN (l.take r)) hI1 (by simp; omega)
      have n2 := a2.1.1
      have d2 := d1.trans (DrW.of_adds d1.add d1.cur a2)
      obtain ⟨v3, h3, hap3, i3, k3, n3, s3⟩ := appI i2 (i : Int) (by simp; omega) n2 d2.add (by have := hA.1.1; omega)
      obtain ⟨s3a, s3b⟩ : h2.next ≤ h3.next ∧ ∀ p, p < h2.next → p < h1.next → h3.get p = h2.get p := ⟨by omega, s3⟩
      have hr3 : Ints h3 (.slice (some ⟨oq, r, none⟩) (i - r) (i - r)) (toN (l.drop r)) := ((hI2.old.same (h' := h3) ⟨by omega, fun p hp _ => by rw [s3 p (by omega) hp, a2.1.2 p hp]⟩).ints)
      rw [← toN_snoc] at i3
      obtain ⟨v4, h4, hap4, i4, k4, n4, s4⟩ := append_ints (P := Try.prog) (t := 24) (t' := 24) i3 hr3 ty_elT_24 ty_szT_3 ty_zeroT_3 ty_byT_3 (by decide) (by decide) (by simp) (by simp; omega) (by omega) k3 (by have := hA.1.1; omega)
      rw [← toN_append] at i4
      have d4 : DrW hB o (k + 2 * i + 2) h h4 := by
        refine ⟨k4, by omega, fun p hp hne => ?_, ?_⟩
        · rw [s4 p (by omega) (by omega), s3b p (by omega) (by omega)]
          exact d2.sm p hp hne
        · exact d2.cur.same ⟨by omega, fun p hp hl => by
            have hb' : p < h1.next := by rcases hp with hp | hp <;> have := hA.1.1 <;> omega
            rw [s4 p (by omega) hb', s3b p hl hb']⟩
      skip
      try simp (disch := first | omega | (simp; done) | fail) [wrap64c, if_pos, if_neg, opAnd, opOr, opXor, opDiff, opShr, opBit, e0, e1, e5, e6, hlt', hri]
      refine callG_c (by simp) (by simp) ?ha (c1) ?_
      (case ha => simp (disch := first | omega | (simp; done) | fail) [wrap64c, if_pos, if_neg, opAnd, opOr, opXor, opDiff, opShr, opBit, e0, e1, e5, e6, hlt', hri])
      try simp (disch := first | omega | (simp; done) | fail) [wrap64c, if_pos, if_neg, opAnd, opOr, opXor, opDiff, opShr, opBit, e0, e1, e5, e6, hlt', hri]
      refine callG_c (by simp) (by simp) ?ha (c2) ?_
      (case ha => simp (disch := first | omega | (simp; done) | fail) [wrap64c, if_pos, if_neg, opAnd, opOr, opXor, opDiff, opShr, opBit, e0, e1, e5, e6, hlt', hri])
      try simp (disch := first | omega | (simp; done) | fail) [wrap64c, if_pos, if_neg, opAnd, opOr, opXor, opDiff, opShr, opBit, e0, e1, e5, e6, hlt', hri, hap3, hap4]
      refine loopK_next _ ?hm ?hf ⟨v4, i + 1, l.take r ++ [i] ++ l.drop r, rfl, (by simp (disch := first | omega | (simp; done) | fail) [wrap64c, if_pos, if_neg, opAnd, opOr, opXor, opDiff, opShr, opBit, e0, e1, e5, e6, hlt', hri] <;> omega), (by simp (disch := first | omega | (simp; done) | fail) [wrap64c, if_pos, if_neg, opAnd, opOr, opXor, opDiff, opShr, opBit, e0, e1, e5, e6, hlt', hri] <;> omega), (by first | omega | assumption | (simp (disch := first | omega | (simp; done) | fail) [wrap64c, if_pos, if_neg, opAnd, opOr, opXor, opDiff, opShr, opBit, e0, e1, e5, e6, hlt', hri] <;> omega)), (d4.mono (by omega)), (IntsA.lower i4 (by omega)), lP, hP, hQ⟩
      (case hm => first | omega | (simp; omega))
      (case hf => simp [FrameL, e0, e1, e5, e6, hlt', hri, f0_0, f1_0])
  · have hlt' : ¬ (i : Int) < (n : Int) := by omega
    have hie : i = n := by omega
    subst hie
    try simp (disch := first | omega | (simp; done) | fail) [wrap64c, if_pos, if_neg, opAnd, opOr, opXor, opDiff, opShr, opBit, e0, e1, e5, e6, hlt']
    exact done_ret rfl ⟨hd, l, hi, hl, hx, hnd⟩
def lineS (n i j : Nat) : Nat := ndiff (bit n - 1) (bit j - bit i)
theorem ia_put {n : Nat} {h : Hp} {v : Value} {xs : List Int} (hs : IntsA n h v xs) {o : Nat} (ho : o < n) (x : AObj) : IntsA n (h.put o x) v xs := by
  rcases hs with ⟨a, b⟩ | ⟨p, ex, a, b, c, d⟩
  · exact .inl ⟨a, b⟩
  · exact .inr ⟨p, ex, a, b, c, by simp [show p ≠ o by omega, d]⟩
theorem specLine_ok (h : Hp) (n : Nat) (h1 : 1 ≤ n) (hn : n ≤ 7) : ∃ v' h', CallOK Try.prog 264 #[.int .i64 (n : Int)] h v' h' ∧ Adds h h' ∧ ∃ b L, v' = .tuple #[.agg #[.int .i64 (n : Int), b], .bool true] ∧ IntsA (h.next + 2) h' b (toN L) ∧ SrtB (bit n) L ∧ ∀ a, a ∈ L ↔ ∃ i j, i ≤ j ∧ j ≤ n ∧ a = lineS n i j := by
  have hb := bit7 hn
  have hsz := sizeB_of h1 hn
  refine callY_L (args := [.int .i64 (n : Int)]) 40 _ [.cell 2 26, .tmp 3] Try.func264 rfl rfl rfl ?_
  try simp (disch := first | omega | (simp; done) | fail) [wrap64c, if_pos, if_neg, opAnd, opOr, opXor, opDiff, opShr, opBit, hsz]
  first | refine WY_heap fun h0 q_h0 => ?_ | refine callG_heap fun h0 q_h0 => ?_ | refine callP_heap fun h0 q_h0 => ?_ | refine callS_heap fun h0 q_h0 => ?_ | refine RY_heap fun h0 q_h0 => ?_ | refine PY_heap fun h0 q_h0 => ?_ | refine SY_heap fun h0 q_h0 => ?_ | refine doneY_heap fun h0 q_h0 => ?_ | refine loopK_heap fun h0 q_h0 => ?_ | refine thenY_heap fun h0 q_h0 => ?_ | refine thenM_heap fun h0 q_h0 => ?_
  have k0 : Adds h h0 := by rw [q_h0]; exact (by first | exact aK | exact kK)
  have n0 : h0.next = h.next + 1 := by simp [q_h0]
  refine callG_c (by simp) (by simp) ?ha (spItems_ok h0 (n : Int)) ?_
  (case ha => simp (disch := first | omega | (simp; done) | fail) [wrap64c, if_pos, if_neg, opAnd, opOr, opXor, opDiff, opShr, opBit, hsz])
  try simp (disch := first | omega | (simp; done) | fail) [wrap64c, if_pos, if_neg, opAnd, opOr, opXor, opDiff, opShr, opBit, hsz, putCells]
  first | refine WY_heap fun h2 q_h2 => ?_ | refine callG_heap fun h2 q_h2 => ?_ | refine callP_heap fun h2 q_h2 => ?_ | refine callS_heap fun h2 q_h2 => ?_ | refine RY_heap fun h2 q_h2 => ?_ | refine PY_heap fun h2 q_h2 => ?_ | refine SY_heap fun h2 q_h2 => ?_ | refine doneY_heap fun h2 q_h2 => ?_ | refine loopK_heap fun h2 q_h2 => ?_ | refine thenY_heap fun h2 q_h2 => ?_ | refine thenM_heap fun h2 q_h2 => ?_
  have k2 : Adds h0 h2 := by rw [q_h2]; exact (by first | exact aK | exact kK)
  have n2 : h2.next = h0.next + 1 := by simp [q_h2]
  have n0' := n0
  have gr2 : h2.get h.next = .cells [.int .i64 0, .slice none 0 0] true true 1 := by rw [k2.1.2 _ (by omega)]; simp [q_h0]
  have gb2 : h2.get (h.next + 1) = .cells [.int .i64 (n : Int), .slice none 0 0] true true 1 := by rw [← n0]; simp [q_h2]
  have ini0 : SrtB (bit n) [] := ⟨List.Pairwise.nil, fun a ha => by cases ha⟩
  refine WD_loopC [0, 2, 4, 5] (fun m tm h' => ∃ i u L, m = n + 1 - i ∧ tm 6 = .int .i64 ((i : Nat) : Int) ∧ (i ≤ n + 1) ∧ (Adds h h') ∧ (h.next + 2 ≤ h'.next) ∧ (h'.get h.next = .cells [.int .i64 0, .slice none 0 0] true true 1) ∧ (h'.get (h.next + 1) = .cells [.int .i64 (n : Int), u] true true 1) ∧ (IntsA (h.next + 2) h' u (toN L)) ∧ (SrtB (bit n) L) ∧ (∀ a, a ∈ L ↔ ∃ i' j', i' ≤ j' ∧ j' ≤ n ∧ i' < i ∧ a = lineS n i' j')) _ ⟨0, Value.slice none 0 0, [], rfl, (by simp (disch := first | omega | (simp; done) | fail) [wrap64c, if_pos, if_neg, opAnd, opOr, opXor, opDiff, opShr, opBit, hsz, n0']), (by first | omega | assumption | (simp (disch := first | omega | (simp; done) | fail) [wrap64c, if_pos, if_neg, opAnd, opOr, opXor, opDiff, opShr, opBit, hsz, n0'] <;> omega)), (k0.trans k2), (by omega), gr2, gb2, (.nil _ _), ini0, (by simp)⟩ ?_
  rintro m tm h' hFr ⟨i, u, L, rfl, e6, hi, hd, hnx, hgr, hgb, hA, hL, hm⟩
  simp only [FrameL] at hFr
  obtain ⟨f0_0, f2_0, f4_0, f5_0, -⟩ := hFr
  try simp (disch := first | omega | (simp; done) | fail) [wrap64c, if_pos, if_neg, opAnd, opOr, opXor, opDiff, opShr, opBit, hsz, n0'] at f0_0 f2_0 f4_0 f5_0
  have e0 := f0_0
  have e2 := f2_0
  have e4 := f4_0
  have e5 := f5_0
  have nd := hd.1.1
  by_cases hlt : i ≤ n
  · have hlt' : (i : Int) ≤ (n : Int) := by omega
    have ini2 : ∀ a, a ∈ L ↔ ∃ i' j', i' ≤ j' ∧ j' ≤ n ∧ (i' < i ∨ (i' = i ∧ j' < i)) ∧ a = lineS n i' j' := fun a => by
      rw [hm a]
      constructor
      · rintro ⟨i', j', q1, q2, q3, q4⟩; exact ⟨i', j', q1, q2, .inl q3, q4⟩
      · rintro ⟨i', j', q1, q2, q3 | q3, q4⟩
        · exact ⟨i', j', q1, q2, q3, q4⟩
        · omega
    try simp (disch := first | omega | (simp; done) | fail) [wrap64c, if_pos, if_neg, opAnd, opOr, opXor, opDiff, opShr, opBit, hsz, n0', e0, e2, e4, e5, e6, hlt']
    refine WD_loopC [0, 2, 4, 5, 6] (fun m tm h' => ∃ j w M, m = n + 1 - j ∧ tm 7 = .int .i64 ((j : Nat) : Int) ∧ (i ≤ j ∧ j ≤ n + 1) ∧ (Adds h h') ∧ (h.next + 2 ≤ h'.next) ∧ (h'.get h.next = .cells [.int .i64 0, .slice none 0 0] true true 1) ∧ (h'.get (h.next + 1) = .cells [.int .i64 (n : Int), w] true true 1) ∧ (IntsA (h.next + 2) h' w (toN M)) ∧ (SrtB (bit n) M) ∧ (∀ a, a ∈ M ↔ ∃ i' j', i' ≤ j' ∧ j' ≤ n ∧ (i' < i ∨ (i' = i ∧ j' < j)) ∧ a = lineS n i' j')) _ ⟨i, u, L, rfl, (by simp (disch := first | omega | (simp; done) | fail) [wrap64c, if_pos, if_neg, opAnd, opOr, opXor, opDiff, opShr, opBit, hsz, n0', e0, e2, e4, e5, e6, hlt']), (by omega), hd, hnx, hgr, hgb, hA, hL, ini2⟩ ?_
    rintro m tm h' hFr ⟨j, w, M, rfl, e7, hj, hd2, hnx2, hgr2, hgb2, hA2, hM, hm2⟩
    simp only [FrameL] at hFr
    obtain ⟨f0_1, f2_1, f4_1, f5_1, f6_1, -⟩ := hFr
    try simp (disch := first | omega | (simp; done) | fail) [wrap64c, if_pos, if_neg, opAnd, opOr, opXor, opDiff, opShr, opBit, hsz, n0', e0, e2, e4, e5, e6, hlt'] at f0_1 f2_1 f4_1 f5_1 f6_1
    have e0 := f0_1
    have e2 := f2_1
    have e4 := f4_1
    have e5 := f5_1
    have e6 := f6_1
    have nd2 := hd2.1.1
    by_cases hlj : j ≤ n
    · have hlj' : (j : Int) ≤ (n : Int) := by omega
      have hgb2' := hgb2
      have hbj := bit7 (i := j) (by omega)
      have hbi := bit7 (i := i) (by omega)
      have hbm := bit_mono hj.1
      obtain ⟨d, hde⟩ : ∃ d, d = bit j - bit i := ⟨_, rfl⟩
      have hsub : ((bit j : Nat) : Int) - ((bit i : Nat) : Int) = (d : Int) := by omega
      obtain ⟨w0, hw0⟩ : ∃ w, w = bit n - 1 := ⟨_, rfl⟩
      have hall : ((bit n : Nat) : Int) - 1 = (w0 : Int) := by omega
      have hlS : lineS n i j < bit n := ndiff_lt (by omega)
      have hlw : ndiff w0 d = lineS n i j := by rw [hw0, hde]; rfl
      have lM := hM.len
      have ntw := hA2.nt
      obtain ⟨u3, h3, c3, a3, i3⟩ := spPut_ok h' (h.next + 2) w M (lineS n i j) hA2 hM.1 (by omega) (by omega)
      have gb3 : h3.get (h.next + 1) = .cells [.int .i64 (n : Int), w] true true 1 := by rw [a3.1.2 _ (by omega)]; exact hgb2
      have gr3 : h3.get h.next = .cells [.int .i64 0, .slice none 0 0] true true 1 := by rw [a3.1.2 _ (by omega)]; exact hgr2
      have ntu := i3.nt
      have csu := (i3.own (by simp [(hM.put hlS).len]; have := (hM.put hlS).len; omega)).ints.cs
      have hu2 : ∀ a b c : Value, putCells [a, b] 1 [c] = [a, c] := fun _ _ _ => rfl
      try simp (disch := first | omega | (simp; done) | fail) [wrap64c, if_pos, if_neg, opAnd, opOr, opXor, opDiff, opShr, opBit, hsz, n0', e0, e2, e4, e5, e6, hlt', e7, hlj', hgb2', hsub, hall, hlw, ntw, gb3, gr3, ntu, csu, hu2]
      refine WD_chainC rfl (by kernel_rfl) (by kernel_rfl) ?_
      try simp (disch := first | omega | (simp; done) | fail) [wrap64c, if_pos, if_neg, opAnd, opOr, opXor, opDiff, opShr, opBit, hsz, n0', e0, e2, e4, e5, e6, hlt', e7, hlj', hgb2', hsub, hall, hlw, ntw, gb3, gr3, ntu, csu, hu2]
      refine callG_c (by simp) (by simp) ?ha (c3) ?_
      (case ha => simp (disch := first | omega | (simp; done) | fail) [wrap64c, if_pos, if_neg, opAnd, opOr, opXor, opDiff, opShr, opBit, hsz, n0', e0, e2, e4, e5, e6, hlt', e7, hlj', hgb2', hsub, hall, hlw, ntw, gb3, gr3, ntu, csu, hu2])
      try simp (disch := first | omega | (simp; done) | fail) [wrap64c, if_pos, if_neg, opAnd, opOr, opXor, opDiff, opShr, opBit, hsz, n0', e0, e2, e4, e5, e6, hlt', e7, hlj', hgb2', hsub, hall, hlw, ntw, gb3, gr3, ntu, csu, hu2]
      refine loopK_next _ ?hm ?hf ⟨j + 1, u3, putL M (lineS n i j), rfl, (by simp (disch := first | omega | (simp; done) | fail) [wrap64c, if_pos, if_neg, opAnd, opOr, opXor, opDiff, opShr, opBit, hsz, n0', e0, e2, e4, e5, e6, hlt', e7, hlj', hgb2', hsub, hall, hlw, ntw, gb3, gr3, ntu, csu, hu2] <;> omega), (by first | omega | assumption | (simp (disch := first | omega | (simp; done) | fail) [wrap64c, if_pos, if_neg, opAnd, opOr, opXor, opDiff, opShr, opBit, hsz, n0', e0, e2, e4, e5, e6, hlt', e7, hlj', hgb2', hsub, hall, hlw, ntw, gb3, gr3, ntu, csu, hu2] <;> omega)), ((hd2.trans a3).put (by omega) (fun _ => rfl)), (by have := a3.1.1; simp; omega), (by simp [gr3]), (by simp), (ia_put i3 (by omega) _), (hM.put hlS), ?c_hm2⟩
      (case hm => first | omega | (simp; omega))
      (case hf => simp [FrameL, hsz, n0', e0, e2, e4, e5, e6, hlt', e7, hlj', hgb2', hsub, hall, hlw, ntw, gb3, gr3, ntu, csu, hu2, f0_1, f2_1, f4_1, f5_1, f6_1])
      case c_hm2 =>
        exact (fun a => by
          rw [putL_mem, hm2 a]
          constructor
          · rintro (rfl | ⟨i', j', q1, q2, q3, q4⟩)
            · exact ⟨i, j, hj.1, hlj, .inr ⟨rfl, by omega⟩, rfl⟩
            · exact ⟨i', j', q1, q2, by omega, q4⟩
          · rintro ⟨i', j', q1, q2, q3, q4⟩
            by_cases e : i' = i ∧ j' = j
            · obtain ⟨rfl, rfl⟩ := e
              exact .inl q4
            · exact .inr ⟨i', j', q1, q2, by omega, q4⟩)
    · have hlj' : ¬ (j : Int) ≤ (n : Int) := by omega
      try simp (disch := first | omega | (simp; done) | fail) [wrap64c, if_pos, if_neg, opAnd, opOr, opXor, opDiff, opShr, opBit, hsz, n0', e0, e2, e4, e5, e6, hlt', e7, hlj']
      refine loopK_next _ ?hm ?hf ⟨i + 1, w, M, rfl, (by simp (disch := first | omega | (simp; done) | fail) [wrap64c, if_pos, if_neg, opAnd, opOr, opXor, opDiff, opShr, opBit, hsz, n0', e0, e2, e4, e5, e6, hlt', e7, hlj'] <;> omega), (by first | omega | assumption | (simp (disch := first | omega | (simp; done) | fail) [wrap64c, if_pos, if_neg, opAnd, opOr, opXor, opDiff, opShr, opBit, hsz, n0', e0, e2, e4, e5, e6, hlt', e7, hlj'] <;> omega)), hd2, hnx2, hgr2, hgb2, hA2, hM, ?c_hm⟩
      (case hm => first | omega | (simp; omega))
      (case hf => simp [FrameL, hsz, n0', e0, e2, e4, e5, e6, hlt', e7, hlj', f0_0, f2_0, f4_0, f5_0])
      case c_hm =>
        exact (fun a => by
          rw [hm2 a]
          constructor
          · rintro ⟨i', j', q1, q2, q3, q4⟩; exact ⟨i', j', q1, q2, by omega, q4⟩
          · rintro ⟨i', j', q1, q2, q3, q4⟩; exact ⟨i', j', q1, q2, by omega, q4⟩)
  · have hlt' : ¬ (i : Int) ≤ (n : Int) := by omega
    have hgb' := hgb
    have ntu := hA.nt
    have lL := hL.len
    have csu := (hA.own (by simp; omega)).ints.cs
    have hu2 : ∀ a b c d : Value, putCells [a, b] 0 [c, d] = [c, d] := fun _ _ _ _ => rfl
    try simp (disch := first | omega | (simp; done) | fail) [wrap64c, if_pos, if_neg, opAnd, opOr, opXor, opDiff, opShr, opBit, hsz, n0', e0, e2, e4, e5, e6, hlt', hgb', hgr, ntu, csu, hu2]
    exact done_ret (vs := [.agg #[.int .i64 (n : Int), u], .bool true]) (by simp [resL, e2]) ⟨hd.put (Nat.le_refl _) (fun _ => rfl), u, L, rfl, ia_put hA (by omega) _, hL, fun a => by
      rw [hm a]
      constructor
      · rintro ⟨i', j', q1, q2, q3, q4⟩; exact ⟨i', j', q1, q2, q4⟩
      · rintro ⟨i', j', q1, q2, q4⟩; exact ⟨i', j', q1, q2, by omega, q4⟩⟩
end Go.Proofs.Ytnncipcldbopgaa
namespace Go.Proofs.Ytnncipcldbopgaa
set_option linter.unusedSimpArgs false
set_option linter.unusedVariables false
set_option maxHeartbeats 4000000
open Go Go.Eng
attribute [local irreducible] WD RunD PreD Runs CallOK
def idxF (q : List Int → Bool) (L : List (List Int)) : Int := if L.any q = true then (L.findIdx q : Int) else -1
def pairB (N : Int) (x : List Int) : Bool := decide (x.length = 2) && (decide (0 ≤ x.getD 0 0 ∧ x.getD 0 0 ≤ N - 1) && (decide (0 ≤ x.getD 1 0 ∧ x.getD 1 0 ≤ N - 1) && !decide (x.getD 0 0 = x.getD 1 0)))
def pairsB (N : Int) (L : List (List Int)) : Bool := decide (L.length ≤ 40) && !L.any fun x => !pairB N x
def breaks (a : Nat) (x : List Int) : Bool := a.testBit (x.getD 1 0).toNat && !a.testBit (x.getD 0 0).toNat
end Go.Proofs.Ytnncipcldbopgaa
namespace Go.Proofs.Ytnncipcldbopgaa
set_option linter.unusedSimpArgs false
set_option linter.unusedVariables false
set_option maxHeartbeats 4000000
open Go Go.Eng
attribute [local irreducible] WD RunD PreD Runs CallOK
def on1 (x : Int) : Int := IntKind.wrap .u64 (bAnd .u64 (bShr .u64 x 1) 6148914691236517205 + bAnd .u64 x 6148914691236517205)
def on2 (x : Int) : Int := IntKind.wrap .u64 (bAnd .u64 (bShr .u64 x 2) 3689348814741910323 + bAnd .u64 x 3689348814741910323)
def on3 (x : Int) : Int := bAnd .u64 (IntKind.wrap .u64 (bShr .u64 x 4 + x)) 1085102592571150095
def on4 (x : Int) (k : Int) : Int := IntKind.wrap .u64 (x + bShr .u64 x k)
theorem onesD : ∀ a : Nat, a < 128 → bAnd .i64 (IntKind.wrap .i64 (on4 (on4 (on4 (on3 (on2 (on1 (a : Int)))) 8) 16) 32)) 127 = ((pcN a : Nat) : Int) := by decide +kernel
theorem ones64_ok (h : Hp) (a : Nat) (ha : a < 128) : CallOK Try.prog 258 #[.int .u64 (a : Int)] h (.int .i64 ((pcN a : Nat) : Int)) h := by
  refine callY_P 35 _ [.tmp 2] Try.func258 rfl rfl rfl (by first | rfl | simp) ?_
  try simp (disch := first | omega | (simp; done) | fail) [wrap64c, if_pos, if_neg]
  refine done_ret rfl ⟨?_, by simp⟩
  simp
  exact onesD a ha
theorem ones_ok (h : Hp) (a : Nat) (ha : a < 128) : CallOK Try.prog 219 #[.int .u64 (a : Int)] h (.int .i64 ((pcN a : Nat) : Int)) h := by
  refine callY_P 8 _ [.tmp 2] Try.func219 rfl rfl rfl (by first | rfl | simp) ?_
  try simp (disch := first | omega | (simp; done) | fail) [wrap64c, if_pos, if_neg]
  refine callG_c (by simp) (by simp) ?ha (ones64_ok h a ha) ?_
  (case ha => simp (disch := first | omega | (simp; done) | fail) [wrap64c, if_pos, if_neg])
  try simp (disch := first | omega | (simp; done) | fail) [wrap64c, if_pos, if_neg]
  exact done_ret rfl (by simp)
theorem wrapU (a : Nat) (ha : a < 128) : IntKind.wrap .u64 (a : Int) = a := by
  have e : IntKind.wrap .u64 (a : Int) = (a : Int) % 18446744073709551616 := rfl
  rw [e]; omega
theorem count_ok (h : Hp) (a : Nat) (ha : a < 128) : CallOK Try.prog 130 #[.int .i64 (a : Int)] h (.int .i64 ((pcN a : Nat) : Int)) h := by
  refine callY_P 6 _ [.tmp 2] Try.func130 rfl rfl rfl (by first | rfl | simp) ?_
  have hw := wrapU a ha
  try simp (disch := first | omega | (simp; done) | fail) [wrap64c, if_pos, if_neg, hw]
  refine callG_c (by simp) (by simp) ?ha (ones_ok h a ha) ?_
  (case ha => simp (disch := first | omega | (simp; done) | fail) [wrap64c, if_pos, if_neg, hw])
  try simp (disch := first | omega | (simp; done) | fail) [wrap64c, if_pos, if_neg, hw]
  exact done_ret rfl (by simp)
def idxI (p : Int → Bool) (xs : List Int) : Int := match xs.findIdx? p with
  | some i => i
  | none => -1
def chB (ch : List Int) (m : Int) : Bool := decide ((ch.length : Int) ≤ m) && !ch.any fun x => decide (x < 0)
end Go.Proofs.Ytnncipcldbopgaa
namespace Go.Proofs.Ytnncipcldbopgaa
set_option linter.unusedSimpArgs false
set_option linter.unusedVariables false
set_option maxHeartbeats 4000000
open Go Go.Eng
attribute [local irreducible] WD RunD PreD Runs CallOK
def natsOf (X : List Int) : List Nat := X.map Int.toNat
@[simp] theorem natsOf_toN (xs : List Nat) : natsOf (toN xs) = xs := by
  unfold natsOf toN
  rw [List.map_map]
  conv => rhs; rw [← List.map_id xs]
  apply List.map_congr_left
  intro x _
  simp
noncomputable def freeB (N : Int) (X : List Int) : Bool := spB N X && ((X.length : Int) == ((bit N.toNat : Nat) : Int))
noncomputable def sizesR (N : Int) (X : List Int) : List Int := if spB N X = true then toN (sizesN N.toNat (natsOf X)) else []
def sizesC (n : Nat) (xs : List Nat) : List Value := (toN (sizesN n xs)).map (.int .i64)
end Go.Proofs.Ytnncipcldbopgaa
namespace Go.Proofs.Ytnncipcldbopgaa
set_option linter.unusedSimpArgs false
set_option linter.unusedVariables false
set_option maxHeartbeats 4000000
open Go Go.Eng
attribute [local irreducible] WD RunD PreD Runs CallOK
def keepsB (L : List (List Int)) (a : Nat) : Bool := !L.any (breaks a)
def ordL (n : Nat) (L : List (List Int)) : List Nat := famK (keepsB L) (bit n)
noncomputable def ordOK (N : Int) (L : List (List Int)) : Bool := sizeB N && pairsB N L && spB N (toN (ordL N.toNat L))
noncomputable def ordN (N : Int) (L : List (List Int)) : Int := if ordOK N L = true then N else 0
noncomputable def ordX (N : Int) (L : List (List Int)) : List Int := if ordOK N L = true then toN (ordL N.toNat L) else []
theorem ordL_len (n : Nat) (L : List (List Int)) : (ordL n L).length ≤ bit n := by
  unfold ordL famK
  have := List.length_filter_le (keepsB L) (List.range (bit n))
  simpa using this
end Go.Proofs.Ytnncipcldbopgaa
namespace Go.Proofs.Ytnncipcldbopgaa
set_option linter.unusedSimpArgs false
set_option linter.unusedVariables false
set_option maxHeartbeats 4000000
open Go Go.Eng
attribute [local irreducible] WD RunD PreD Runs CallOK
theorem l1All_ok (h : Hp) (v : Value) (xs : List Int) (a b : Int) (hv : Ints h v xs) : CallOK Try.prog 216 #[v, .int .i64 a, .int .i64 b] h (.bool (decide (∀ x ∈ xs, a ≤ x ∧ x ≤ b))) h := by
  refine callY_P 21 _ [.tmp 6] Try.func216 rfl rfl rfl (by first | rfl | simp) ?_
  have hs := hv.len
  have hL := hv.lenD
  try simp (disch := first | omega | (simp; done) | fail) [wrap64c, if_pos, if_neg, hL]
  refine WD_loopC [1, 2, 9, 10] (fun m tm h' => ∃ j, m = xs.length - j ∧ h = h' ∧ tm 11 = .int .i64 (j : Int) ∧ (j ≤ xs.length) ∧ (∀ i (hi : i < xs.length), i < j → a ≤ xs[i] ∧ xs[i] ≤ b)) _ ⟨0, rfl, rfl, (by simp (disch := first | omega | (simp; done) | fail) [wrap64c, if_pos, if_neg, hL]), (by first | omega | assumption | (simp (disch := first | omega | (simp; done) | fail) [wrap64c, if_pos, if_neg, hL] <;> omega)), (by intro i hi h0; omega)⟩ ?_
  rintro m tm h' hFr ⟨j, rfl, rfl, e11, hj, hx⟩
  simp only [FrameL] at hFr
  obtain ⟨f1_0, f2_0, f9_0, f10_0, -⟩ := hFr
  try simp (disch := first | omega | (simp; done) | fail) [wrap64c, if_pos, if_neg, hL] at f1_0 f2_0 f9_0 f10_0
  have e1 := f1_0
  have e2 := f2_0
  have e9 := f9_0
  have e10 := f10_0
  by_cases hlt : j < xs.length
  · obtain ⟨o_x, i_x, c_x, cs_x, own_x, ex_x, es_x, q_x, b_x, g_x, l_x, r_x⟩ := hv.open ((by omega))
    have z_x : ∀ h2 : i_x < cs_x.length, cs_x[i_x] = _ := fun h2 => r_x 0 ((by omega)) h2
    try simp (disch := first | omega | (simp; done) | fail) [wrap64c, if_pos, if_neg, hL, e1, e2, e9, e10, e11, hlt, q_x, g_x, l_x, r_x, z_x]
    have hc := l1In_ok h xs[j] a b
    by_cases hq : a ≤ xs[j] ∧ xs[j] ≤ b
    · rw [decide_eq_true hq] at hc
      refine callG_c (by simp) (by simp) ?ha (hc) ?_
      (case ha => simp (disch := first | omega | (simp; done) | fail) [wrap64c, if_pos, if_neg, hL, e1, e2, e9, e10, e11, hlt, q_x, g_x, l_x, r_x, z_x])
      try simp (disch := first | omega | (simp; done) | fail) [wrap64c, if_pos, if_neg, hL, e1, e2, e9, e10, e11, hlt, q_x, g_x, l_x, r_x, z_x]
      refine loopK_next _ ?hm ?hf ⟨j + 1, rfl, rfl, (by simp (disch := first | omega | (simp; done) | fail) [wrap64c, if_pos, if_neg, hL, e1, e2, e9, e10, e11, hlt, q_x, g_x, l_x, r_x, z_x] <;> omega), (by first | omega | assumption | (simp (disch := first | omega | (simp; done) | fail) [wrap64c, if_pos, if_neg, hL, e1, e2, e9, e10, e11, hlt, q_x, g_x, l_x, r_x, z_x] <;> omega)), ?c_hx⟩
      (case hm => first | omega | (simp; omega))
      (case hf => simp [FrameL, hL, e1, e2, e9, e10, e11, hlt, q_x, g_x, l_x, r_x, z_x, f1_0, f2_0, f9_0, f10_0])
      case c_hx =>
        exact (fun i hi hij => by
          rcases Nat.lt_succ_iff_lt_or_eq.1 hij with h1 | h1
          · exact hx i hi h1
          · subst h1; exact hq)
    · rw [decide_eq_false hq] at hc
      refine callG_c (by simp) (by simp) ?ha (hc) ?_
      (case ha => simp (disch := first | omega | (simp; done) | fail) [wrap64c, if_pos, if_neg, hL, e1, e2, e9, e10, e11, hlt, q_x, g_x, l_x, r_x, z_x])
      try simp (disch := first | omega | (simp; done) | fail) [wrap64c, if_pos, if_neg, hL, e1, e2, e9, e10, e11, hlt, q_x, g_x, l_x, r_x, z_x]
      have : ¬ ∀ x ∈ xs, a ≤ x ∧ x ≤ b := fun q => hq (q _ (List.getElem_mem hlt))
      exact done_ret rfl (by rw [decide_eq_false this]; simp)
  · try simp (disch := first | omega | (simp; done) | fail) [wrap64c, if_pos, if_neg, hL, e1, e2, e9, e10, e11, hlt]
    have : ∀ x ∈ xs, a ≤ x ∧ x ≤ b := fun x hx' => by
      obtain ⟨i, hi, rfl⟩ := List.getElem_of_mem hx'
      exact hx i hi (by omega)
    exact done_ret rfl (by rw [decide_eq_true this]; simp)
end Go.Proofs.Ytnncipcldbopgaa
namespace Go.Proofs.Ytnncipcldbopgaa
set_option linter.unusedSimpArgs false
set_option linter.unusedVariables false
set_option maxHeartbeats 4000000
open Go Go.Eng
attribute [local irreducible] WD RunD PreD Runs CallOK
theorem spIf_ok (h : Hp) (b : Value) (N : Int) (X : List Int) (S : Nat → Prop) (hX : IntsO S h b X) (hS : ∀ o, S o → o < h.next) (hl : X.length < 2 ^ 40) :
    ∃ h', CallOK Try.prog 256 #[.agg #[.int .i64 N, b]] h (.tuple #[if spB N X = true then .agg #[.int .i64 N, b] else .agg #[.int .i64 0, .slice none 0 0], .bool (spB N X)]) h' ∧ Adds h h' := by
  have nt := hX.nt
  have cs := hX.cs
  have key : ∃ v' h', CallOK Try.prog 256 #[.agg #[.int .i64 N, b]] h v' h' ∧ v' = .tuple #[if spB N X = true then .agg #[.int .i64 N, b] else .agg #[.int .i64 0, .slice none 0 0], .bool (spB N X)] ∧ Adds h h' := by
    refine callY_L (args := [.agg #[.int .i64 N, b]]) 9 _ [.cell 2 26, .tmp 3] Try.func256 rfl rfl rfl ?_
    refine WD_first ?_
    try simp (disch := first | omega | (simp; done) | fail) [wrap64c, if_pos, if_neg, opAnd, opOr, opXor, opDiff, opShr, opBit, nt, cs]
    refine stopK_heap fun h0 q_h0 => ?_
    refine stopK_go ?_
    have k0 : Adds h h0 := by rw [q_h0]; exact (by first | exact aK | exact kK)
    have n0 : h0.next = h.next + 2 := by simp [q_h0]
    have g0 : h0.get h.next = .cells [.int .i64 N, b] true true 1 := by simp [q_h0]
    have g1 : h0.get (h.next + 1) = .cells [.int .i64 0, .slice none 0 0] true true 1 := by simp [q_h0]
    try simp (disch := first | omega | (simp; done) | fail) [wrap64c, if_pos, if_neg, opAnd, opOr, opXor, opDiff, opShr, opBit, nt, cs, g0, g1]
    refine callG_c (by simp) (by simp) ?ha (spGood_ok h0 (.agg #[.int .i64 N, b]) N X (.mk (hX.ints.keep k0.1)) hl) ?_
    (case ha => simp (disch := first | omega | (simp; done) | fail) [wrap64c, if_pos, if_neg, opAnd, opOr, opXor, opDiff, opShr, opBit, nt, cs, g0, g1])
    cases c : spB N X
    · try simp (disch := first | omega | (simp; done) | fail) [wrap64c, if_pos, if_neg, opAnd, opOr, opXor, opDiff, opShr, opBit, nt, cs, g0, g1, c, putCells]
      exact done_ret (by simp [putCells]; rfl) ⟨by simp [c], (by first | exact aK | exact kK)⟩
    · try simp (disch := first | omega | (simp; done) | fail) [wrap64c, if_pos, if_neg, opAnd, opOr, opXor, opDiff, opShr, opBit, nt, cs, g0, g1, c, putCells]
      exact done_ret (by simp [putCells]; rfl) ⟨by simp [c], (by first | exact aK | exact kK)⟩
  obtain ⟨_, h', hc, rfl, ha⟩ := key
  exact ⟨h', hc, ha⟩
end Go.Proofs.Ytnncipcldbopgaa
namespace Go.Proofs.Ytnncipcldbopgaa
set_option linter.unusedSimpArgs false
set_option linter.unusedVariables false
set_option maxHeartbeats 4000000
open Go Go.Eng
attribute [local irreducible] WD RunD PreD Runs CallOK
theorem pairB_two {N a b : Int} : pairB N [a, b] = (decide (∀ x ∈ [a, b], 0 ≤ x ∧ x ≤ N - 1) && !(a == b)) := by
  rw [Bool.eq_iff_iff]
  simp [pairB, and_assoc]
theorem ordOK_no {N : Int} {L : List (List Int)} (c1 : sizeB N = true) {j : Nat} (hj : j < L.length) (hp : pairB N L[j] = false) : ordOK N L = false := by
  have : (L.any fun x => !pairB N x) = true := List.any_eq_true.2 ⟨_, List.getElem_mem hj, by rw [hp]; rfl⟩
  simp [ordOK, pairsB, this]
theorem pairsB_of {N : Int} {L : List (List Int)} (h : L.length ≤ 40) (hp : ∀ x ∈ L, pairB N x = true) : pairsB N L = true := by
  unfold pairsB
  simp only [Bool.and_eq_true, decide_eq_true_eq, Bool.not_eq_true', List.any_eq_false]
  exact ⟨h, fun x hx => by rw [hp x hx]; simp⟩
theorem pair_two {n : Nat} {x : List Int} (h : pairB n x = true) : ∃ c d : Nat, c < n ∧ d < n ∧ x = [(c : Int), (d : Int)] := by
  unfold pairB at h
  simp only [Bool.and_eq_true, decide_eq_true_eq] at h
  obtain ⟨h2, ⟨p1, p2⟩, ⟨p3, p4⟩, _⟩ := h
  match x, h2 with
  | [c, d], _ =>
    simp at p1 p2 p3 p4
    exact ⟨c.toNat, d.toNat, by omega, by omega, by simp; omega⟩
theorem specOrder_ok (h : Hp) (v : Value) (L : List (List Int)) (N : Int) (hv : IRows h v L) :
    ∃ v' h', CallOK Try.prog 217 #[.int .i64 N, v] h v' h' ∧ Adds h h' ∧ ∃ u, v' = .tuple #[u, .bool (ordOK N L)] ∧ SpaceO (Btw h.next h'.next) h' u (ordN N L) (ordX N L) := by
  have hnt := hv.nt
  have hcs := hv.cs
  have hL := hv.lenD
  have hs := hv.len
  cases c1 : sizeB N
  · have hk : ordOK N L = false := by simp [ordOK, c1]
    refine callY_L (args := [.int .i64 N, v]) 91 _ [.cell 4 26, .tmp 5] Try.func217 rfl rfl rfl ?_
    try simp (disch := first | omega | (simp; done) | fail) [wrap64c, if_pos, if_neg, opAnd, opOr, opXor, opDiff, opShr, opBit, hnt, hcs, hL, c1, hk]
    refine callG_c (by simp) (by simp) ?ha (spItems_ok _ N) ?_
    (case ha => simp (disch := first | omega | (simp; done) | fail) [wrap64c, if_pos, if_neg, opAnd, opOr, opXor, opDiff, opShr, opBit, hnt, hcs, hL, c1, hk])
    try simp (disch := first | omega | (simp; done) | fail) [wrap64c, if_pos, if_neg, opAnd, opOr, opXor, opDiff, opShr, opBit, hnt, hcs, hL, c1, hk, putCells]
    refine done_ret (by simp [putCells]; rfl) ⟨(by first | exact aK | exact kK), .agg #[.int .i64 0, .slice none 0 0], by simp [hk], ?_⟩
    simp only [ordN, ordX, hk]
    exact ⟨_, rfl, .nil _ _⟩
  · obtain ⟨n, rfl, n1, n7⟩ := sizeB_true c1
    by_cases h40 : L.length ≤ 40
    case neg =>
      have h40' : ¬ (L.length : Int) ≤ 40 := by omega
      have hk : ordOK n L = false := by simp [ordOK, c1, pairsB, h40]
      refine callY_L (args := [.int .i64 (n : Int), v]) 91 _ [.cell 4 26, .tmp 5] Try.func217 rfl rfl rfl ?_
      try simp (disch := first | omega | (simp; done) | fail) [wrap64c, if_pos, if_neg, opAnd, opOr, opXor, opDiff, opShr, opBit, hnt, hcs, hL, c1, h40', hk]
      refine callG_c (by simp) (by simp) ?ha (spItems_ok _ n) ?_
      (case ha => simp (disch := first | omega | (simp; done) | fail) [wrap64c, if_pos, if_neg, opAnd, opOr, opXor, opDiff, opShr, opBit, hnt, hcs, hL, c1, h40', hk])
      try simp (disch := first | omega | (simp; done) | fail) [wrap64c, if_pos, if_neg, opAnd, opOr, opXor, opDiff, opShr, opBit, hnt, hcs, hL, c1, h40', hk, putCells]
      refine done_ret (by simp [putCells]; rfl) ⟨(by first | exact aK | exact kK), .agg #[.int .i64 0, .slice none 0 0], by simp [hk], ?_⟩
      simp only [ordN, ordX, hk]
      exact ⟨_, rfl, .nil _ _⟩
    have h40' : (L.length : Int) ≤ 40 := by omega
    refine callY_L (args := [.int .i64 (n : Int), v]) 91 _ [.cell 4 26, .tmp 5] Try.func217 rfl rfl rfl ?_
    try simp (disch := first | omega | (simp; done) | fail) [wrap64c, if_pos, if_neg, opAnd, opOr, opXor, opDiff, opShr, opBit, hnt, hcs, hL, c1, h40']
    refine callG_c (by simp) (by simp) ?ha (spItems_ok _ n) ?_
    (case ha => simp (disch := first | omega | (simp; done) | fail) [wrap64c, if_pos, if_neg, opAnd, opOr, opXor, opDiff, opShr, opBit, hnt, hcs, hL, c1, h40'])
    try simp (disch := first | omega | (simp; done) | fail) [wrap64c, if_pos, if_neg, opAnd, opOr, opXor, opDiff, opShr, opBit, hnt, hcs, hL, c1, h40']
    refine WD_loopC [0, 1, 4, 22, 23] (fun m tm h' => ∃ j, m = L.length - j ∧ tm 24 = .int .i64 (j : Int) ∧ (j ≤ L.length) ∧ (Adds h h') ∧ (h'.next = h.next + 1) ∧ (h'.get h.next = .cells [.int .i64 0, .slice none 0 0] true true 1) ∧ (∀ i (hi : i < L.length), i < j → pairB n L[i] = true)) _ ⟨0, rfl, (by simp (disch := first | omega | (simp; done) | fail) [wrap64c, if_pos, if_neg, opAnd, opOr, opXor, opDiff, opShr, opBit, hnt, hcs, hL, c1, h40']), (by first | omega | assumption | (simp (disch := first | omega | (simp; done) | fail) [wrap64c, if_pos, if_neg, opAnd, opOr, opXor, opDiff, opShr, opBit, hnt, hcs, hL, c1, h40'] <;> omega)), (by first | exact aK | exact kK), (by simp), (by simp), (fun i hi h0 => by omega)⟩ ?_
    rintro m tm h' hFr ⟨j, rfl, e24, hj, ha, hn1, hg, hx⟩
    simp only [FrameL] at hFr
    obtain ⟨f0_0, f1_0, f4_0, f22_0, f23_0, -⟩ := hFr
    try simp (disch := first | omega | (simp; done) | fail) [wrap64c, if_pos, if_neg, opAnd, opOr, opXor, opDiff, opShr, opBit, hnt, hcs, hL, c1, h40'] at f0_0 f1_0 f4_0 f22_0 f23_0
    have e0 := f0_0
    have e1 := f1_0
    have e4 := f4_0
    have e22 := f22_0
    have e23 := f23_0
    rename Hp => hq
    have hv1 := hv.keep ha.1
    by_cases hlt : j < L.length
    · obtain ⟨o_x, i_x, c_x, cs_x, own_x, ex_x, es_x, us_x, q_x, b_x, g_x, l_x, r_x, R_x⟩ := hv1.open ((by omega))
      have z_x : ∀ h2 : i_x < cs_x.length, cs_x[i_x] = _ := fun h2 => r_x 0 ((by omega)) h2
      try simp (disch := first | omega | (simp; done) | fail) [wrap64c, if_pos, if_neg, opAnd, opOr, opXor, opDiff, opShr, opBit, hnt, hcs, hL, c1, h40', e0, e1, e4, e22, e23, e24, hg, hlt, q_x, g_x, l_x, r_x, z_x]
      refine WD_drawC 19 rfl (by kernel_rfl) ?_
      by_cases h2 : L[j].length = 2
      · obtain ⟨a, b, hab⟩ : ∃ a b, L[j] = [a, b] := by
          match L[j], h2 with
          | [a, b], _ => exact ⟨a, b, rfl⟩
        have hR := R_x j hlt
        rw [hab] at hR
        have hLj := hR.lenD
        obtain ⟨o_y, i_y, c_y, cs_y, own_y, ex_y, es_y, q_y, b_y, g_y, l_y, r_y⟩ := hR.open ((by simp))
        have z_y : ∀ h2 : i_y < cs_y.length, cs_y[i_y] = _ := fun h2 => r_y 0 ((by simp)) h2
        have l2_y : i_y + 1 < cs_y.length := by have := l_y; simp at this; omega
        have l3_y : i_y < cs_y.length := by omega
        have z2_y := r_y 1 (by simp)
        try simp (disch := first | omega | (simp; done) | fail) [wrap64c, if_pos, if_neg, opAnd, opOr, opXor, opDiff, opShr, opBit, hnt, hcs, hL, c1, h40', e0, e1, e4, e22, e23, e24, hg, hlt, q_x, g_x, l_x, r_x, z_x, hLj, q_y, g_y, l_y, r_y, z_y, l2_y, l3_y, z2_y]
        refine callP_c (by simp) (by simp) ?ha (l1All_ok hq (us_x j) [a, b] 0 (n - 1) hR) ?hadd ?_
        (case ha => simp (disch := first | omega | (simp; done) | fail) [wrap64c, if_pos, if_neg, opAnd, opOr, opXor, opDiff, opShr, opBit, hnt, hcs, hL, c1, h40', e0, e1, e4, e22, e23, e24, hg, hlt, q_x, g_x, l_x, r_x, z_x, hLj, q_y, g_y, l_y, r_y, z_y, l2_y, l3_y, z2_y])
        (case hadd => first | assumption | exact adds_self _ | (simp; done))
        cases d1 : decide (∀ x ∈ [a, b], 0 ≤ x ∧ x ≤ (n : Int) - 1)
        · have hp : pairB n L[j] = false := by rw [hab, pairB_two, d1]; rfl
          have hk := ordOK_no c1 hlt hp
          try simp (disch := first | omega | (simp; done) | fail) [wrap64c, if_pos, if_neg, opAnd, opOr, opXor, opDiff, opShr, opBit, hnt, hcs, hL, c1, h40', e0, e1, e4, e22, e23, e24, hg, hlt, q_x, g_x, l_x, r_x, z_x, hLj, q_y, g_y, l_y, r_y, z_y, l2_y, l3_y, z2_y, d1, hk, putCells]
          refine done_ret (by simp [putCells, e4]; rfl) ⟨(by first | exact aK | exact kK), .agg #[.int .i64 0, .slice none 0 0], by simp [hk], ?_⟩
          simp only [ordN, ordX, hk]
          exact ⟨_, rfl, .nil _ _⟩
        · cases d2 : (a == b)
          · have hp : pairB n L[j] = true := by rw [hab, pairB_two, d1, d2]; rfl
            try simp (disch := first | omega | (simp; done) | fail) [wrap64c, if_pos, if_neg, opAnd, opOr, opXor, opDiff, opShr, opBit, hnt, hcs, hL, c1, h40', e0, e1, e4, e22, e23, e24, hg, hlt, q_x, g_x, l_x, r_x, z_x, hLj, q_y, g_y, l_y, r_y, z_y, l2_y, l3_y, z2_y, d1, d2]
            refine loopK_next _ ?hm ?hf ⟨j + 1, rfl, (by simp (disch := first | omega | (simp; done) | fail) [wrap64c, if_pos, if_neg, opAnd, opOr, opXor, opDiff, opShr, opBit, hnt, hcs, hL, c1, h40', e0, e1, e4, e22, e23, e24, hg, hlt, q_x, g_x, l_x, r_x, z_x, hLj, q_y, g_y, l_y, r_y, z_y, l2_y, l3_y, z2_y, d1, d2] <;> omega), (by first | omega | assumption | (simp (disch := first | omega | (simp; done) | fail) [wrap64c, if_pos, if_neg, opAnd, opOr, opXor, opDiff, opShr, opBit, hnt, hcs, hL, c1, h40', e0, e1, e4, e22, e23, e24, hg, hlt, q_x, g_x, l_x, r_x, z_x, hLj, q_y, g_y, l_y, r_y, z_y, l2_y, l3_y, z2_y, d1, d2] <;> omega)), (by first | omega | assumption | (simp (disch := first | omega | (simp; done) | fail) [wrap64c, if_pos, if_neg, opAnd, opOr, opXor, opDiff, opShr, opBit, hnt, hcs, hL, c1, h40', e0, e1, e4, e22, e23, e24, hg, hlt, q_x, g_x, l_x, r_x, z_x, hLj, q_y, g_y, l_y, r_y, z_y, l2_y, l3_y, z2_y, d1, d2] <;> omega)), (by first | omega | assumption | (simp (disch := first | omega | (simp; done) | fail) [wrap64c, if_pos, if_neg, opAnd, opOr, opXor, opDiff, opShr, opBit, hnt, hcs, hL, c1, h40', e0, e1, e4, e22, e23, e24, hg, hlt, q_x, g_x, l_x, r_x, z_x, hLj, q_y, g_y, l_y, r_y, z_y, l2_y, l3_y, z2_y, d1, d2] <;> omega)), (by first | omega | assumption | (simp (disch := first | omega | (simp; done) | fail) [wrap64c, if_pos, if_neg, opAnd, opOr, opXor, opDiff, opShr, opBit, hnt, hcs, hL, c1, h40', e0, e1, e4, e22, e23, e24, hg, hlt, q_x, g_x, l_x, r_x, z_x, hLj, q_y, g_y, l_y, r_y, z_y, l2_y, l3_y, z2_y, d1, d2] <;> omega)), ?c_hx⟩
            (case hm => first | omega | (simp; omega))
            (case hf => simp [FrameL, hnt, hcs, hL, c1, h40', e0, e1, e4, e22, e23, e24, hg, hlt, q_x, g_x, l_x, r_x, z_x, hLj, q_y, g_y, l_y, r_y, z_y, l2_y, l3_y, z2_y, d1, d2, f0_0, f1_0, f4_0, f22_0, f23_0])
            case c_hx =>
              exact (fun i hi h1 => by
                by_cases e : i = j
                · subst e; exact hp
                · exact hx i hi (by omega))
          · have hp : pairB n L[j] = false := by rw [hab, pairB_two, d1, d2]; rfl
            have hk := ordOK_no c1 hlt hp
            try simp (disch := first | omega | (simp; done) | fail) [wrap64c, if_pos, if_neg, opAnd, opOr, opXor, opDiff, opShr, opBit, hnt, hcs, hL, c1, h40', e0, e1, e4, e22, e23, e24, hg, hlt, q_x, g_x, l_x, r_x, z_x, hLj, q_y, g_y, l_y, r_y, z_y, l2_y, l3_y, z2_y, d1, d2, hk, putCells]
            refine done_ret (by simp [putCells, e4]; rfl) ⟨(by first | exact aK | exact kK), .agg #[.int .i64 0, .slice none 0 0], by simp [hk], ?_⟩
            simp only [ordN, ordX, hk]
            exact ⟨_, rfl, .nil _ _⟩
      · have h2' : ((L[j].length : Int) != 2) = true := by simp; omega
        have hp : pairB n L[j] = false := by simp [pairB, h2]
        have hk := ordOK_no c1 hlt hp
        have hLj := (R_x j hlt).lenD
        try simp (disch := first | omega | (simp; done) | fail) [wrap64c, if_pos, if_neg, opAnd, opOr, opXor, opDiff, opShr, opBit, hnt, hcs, hL, c1, h40', e0, e1, e4, e22, e23, e24, hg, hlt, q_x, g_x, l_x, r_x, z_x, h2', hk, hLj, putCells]
        refine done_ret (by simp [putCells, e4]; rfl) ⟨(by first | exact aK | exact kK), .agg #[.int .i64 0, .slice none 0 0], by simp [hk], ?_⟩
        simp only [ordN, ordX, hk]
        exact ⟨_, rfl, .nil _ _⟩
    · have hje : j = L.length := by omega
      have hall : ∀ x ∈ L, pairB n x = true := fun x hx' => by
        obtain ⟨k, hk, rfl⟩ := List.getElem_of_mem hx'
        exact hx k hk (by omega)
      have c2 := pairsB_of h40 hall
      have hb7 := bit7 n7
      try simp (disch := first | omega | (simp; done) | fail) [wrap64c, if_pos, if_neg, opAnd, opOr, opXor, opDiff, opShr, opBit, hnt, hcs, hL, c1, h40', e0, e1, e4, e22, e23, e24, hg, hlt, putCells]
      refine WD_loopC [0, 1, 4, 8] (fun m tm h' => ∃ a w, m = bit n - a ∧ tm 9 = .int .i64 (a : Int) ∧ (a ≤ bit n) ∧ (Adds hq h') ∧ (IntsA (hq.next + 1) h' w (toN (famK (keepsB L) a))) ∧ (h'.get hq.next = .cells [.int .i64 (n : Int), w] true true 1) ∧ (hq.next + 1 ≤ h'.next)) _ ⟨0, .slice none 0 0, rfl, (by simp (disch := first | omega | (simp; done) | fail) [wrap64c, if_pos, if_neg, opAnd, opOr, opXor, opDiff, opShr, opBit, hnt, hcs, hL, c1, h40', e0, e1, e4, e22, e23, e24, hg, hlt]), (by first | omega | assumption | (simp (disch := first | omega | (simp; done) | fail) [wrap64c, if_pos, if_neg, opAnd, opOr, opXor, opDiff, opShr, opBit, hnt, hcs, hL, c1, h40', e0, e1, e4, e22, e23, e24, hg, hlt] <;> omega)), (by first | exact aK | exact kK), (.nil _ _), (by simp), (by simp)⟩ ?_
      rintro m tm h' hFr ⟨a, w, rfl, e9, hb, ha2, hw, hg2, hnn⟩
      simp only [FrameL] at hFr
      obtain ⟨f0_1, f1_1, f4_1, f8_1, -⟩ := hFr
      try simp (disch := first | omega | (simp; done) | fail) [wrap64c, if_pos, if_neg, opAnd, opOr, opXor, opDiff, opShr, opBit, hnt, hcs, hL, c1, h40', e0, e1, e4, e22, e23, e24, hg, hlt] at f0_1 f1_1 f4_1 f8_1
      have e0 := f0_1
      have e1 := f1_1
      have e4 := f4_1
      have e8 := f8_1
      rename Hp => hq2
      have hv2 := (hv.keep ha.1).keep ha2.1
      have hkl : (famK (keepsB L) a).length ≤ a := by
        have := List.length_filter_le (keepsB L) (List.range a)
        unfold famK; simpa using this
      by_cases hab : a < bit n
      · try simp (disch := first | omega | (simp; done) | fail) [wrap64c, if_pos, if_neg, opAnd, opOr, opXor, opDiff, opShr, opBit, hnt, hcs, hL, c1, h40', e0, e1, e4, e22, e23, e24, hg, hlt, e8, e9, hg2, hab]
        refine WD_loopC [0, 1, 4, 8, 9, 57, 58] (fun m tm h' => ∃ i, m = L.length - i ∧ hq2 = h' ∧ tm 10 = .bool (!(L.take i).any (breaks a)) ∧ tm 59 = .int .i64 (i : Int) ∧ (i ≤ L.length)) _ ⟨0, rfl, rfl, (by simp), (by simp (disch := first | omega | (simp; done) | fail) [wrap64c, if_pos, if_neg, opAnd, opOr, opXor, opDiff, opShr, opBit, hnt, hcs, hL, c1, h40', e0, e1, e4, e22, e23, e24, hg, hlt, e8, e9, hg2, hab]), (by first | omega | assumption | (simp (disch := first | omega | (simp; done) | fail) [wrap64c, if_pos, if_neg, opAnd, opOr, opXor, opDiff, opShr, opBit, hnt, hcs, hL, c1, h40', e0, e1, e4, e22, e23, e24, hg, hlt, e8, e9, hg2, hab] <;> omega))⟩ ?_
        rintro m tm h' hFr ⟨i, rfl, rfl, e10, e59, hi⟩
        simp only [FrameL] at hFr
        obtain ⟨f0_2, f1_2, f4_2, f8_2, f9_2, f57_2, f58_2, -⟩ := hFr
        try simp (disch := first | omega | (simp; done) | fail) [wrap64c, if_pos, if_neg, opAnd, opOr, opXor, opDiff, opShr, opBit, hnt, hcs, hL, c1, h40', e0, e1, e4, e22, e23, e24, hg, hlt, e8, e9, hg2, hab] at f0_2 f1_2 f4_2 f8_2 f9_2 f57_2 f58_2
        have e0 := f0_2
        have e1 := f1_2
        have e4 := f4_2
        have e8 := f8_2
        have e9 := f9_2
        have e57 := f57_2
        have e58 := f58_2
        by_cases hli : i < L.length
        · obtain ⟨c, d, hc, hd, hcd⟩ := pair_two (hall _ (List.getElem_mem hli))
          obtain ⟨o_x, i_x, c_x, cs_x, own_x, ex_x, es_x, us_x, q_x, b_x, g_x, l_x, r_x, R_x⟩ := hv2.open ((by omega))
          have z_x : ∀ h2 : i_x < cs_x.length, cs_x[i_x] = _ := fun h2 => r_x 0 ((by omega)) h2
          have hR := R_x i hli
          rw [hcd] at hR
          have htk : L.take (i + 1) = L.take i ++ [L[i]] := List.take_succ_eq_append_getElem hli
          obtain ⟨o_y, i_y, c_y, cs_y, own_y, ex_y, es_y, q_y, b_y, g_y, l_y, r_y⟩ := hR.open ((by simp))
          have z_y : ∀ h2 : i_y < cs_y.length, cs_y[i_y] = _ := fun h2 => r_y 0 ((by simp)) h2
          have l2_y : i_y + 1 < cs_y.length := by have := l_y; simp at this; omega
          have l3_y : i_y < cs_y.length := by omega
          have z2_y := r_y 1 (by simp)
          cases hgd : (L.take i).any (breaks a)
          · try simp (disch := first | omega | (simp; done) | fail) [wrap64c, if_pos, if_neg, opAnd, opOr, opXor, opDiff, opShr, opBit, hnt, hcs, hL, c1, h40', e0, e1, e4, e22, e23, e24, hg, hlt, e8, e9, hg2, hab, e10, e57, e58, e59, hli, q_x, g_x, l_x, r_x, z_x, q_y, g_y, l_y, r_y, z_y, l2_y, l3_y, z2_y, hgd]
            refine callG_c (by simp) (by simp) ?ha (spIn_ok hq2 a d (by omega) (by omega)) ?_
            (case ha => simp (disch := first | omega | (simp; done) | fail) [wrap64c, if_pos, if_neg, opAnd, opOr, opXor, opDiff, opShr, opBit, hnt, hcs, hL, c1, h40', e0, e1, e4, e22, e23, e24, hg, hlt, e8, e9, hg2, hab, e10, e57, e58, e59, hli, q_x, g_x, l_x, r_x, z_x, q_y, g_y, l_y, r_y, z_y, l2_y, l3_y, z2_y, hgd])
            cases h2 : a.testBit d
            · try simp (disch := first | omega | (simp; done) | fail) [wrap64c, if_pos, if_neg, opAnd, opOr, opXor, opDiff, opShr, opBit, hnt, hcs, hL, c1, h40', e0, e1, e4, e22, e23, e24, hg, hlt, e8, e9, hg2, hab, e10, e57, e58, e59, hli, q_x, g_x, l_x, r_x, z_x, q_y, g_y, l_y, r_y, z_y, l2_y, l3_y, z2_y, hgd, h2]
              refine loopK_next _ ?hm ?hf ⟨i + 1, rfl, rfl, (by simp [htk, hgd, hcd, breaks, h2, -List.take_append_getElem]), (by simp (disch := first | omega | (simp; done) | fail) [wrap64c, if_pos, if_neg, opAnd, opOr, opXor, opDiff, opShr, opBit, hnt, hcs, hL, c1, h40', e0, e1, e4, e22, e23, e24, hg, hlt, e8, e9, hg2, hab, e10, e57, e58, e59, hli, q_x, g_x, l_x, r_x, z_x, q_y, g_y, l_y, r_y, z_y, l2_y, l3_y, z2_y, hgd, h2] <;> omega), (by first | omega | assumption | (simp (disch := first | omega | (simp; done) | fail) [wrap64c, if_pos, if_neg, opAnd, opOr, opXor, opDiff, opShr, opBit, hnt, hcs, hL, c1, h40', e0, e1, e4, e22, e23, e24, hg, hlt, e8, e9, hg2, hab, e10, e57, e58, e59, hli, q_x, g_x, l_x, r_x, z_x, q_y, g_y, l_y, r_y, z_y, l2_y, l3_y, z2_y, hgd, h2] <;> omega))⟩
              (case hm => first | omega | (simp; omega))
              (case hf => simp [FrameL, hnt, hcs, hL, c1, h40', e0, e1, e4, e22, e23, e24, hg, hlt, e8, e9, hg2, hab, e10, e57, e58, e59, hli, q_x, g_x, l_x, r_x, z_x, q_y, g_y, l_y, r_y, z_y, l2_y, l3_y, z2_y, hgd, h2, f0_2, f1_2, f4_2, f8_2, f9_2, f57_2, f58_2])
            · try simp (disch := first | omega | (simp; done) | fail) [wrap64c, if_pos, if_neg, opAnd, opOr, opXor, opDiff, opShr, opBit, hnt, hcs, hL, c1, h40', e0, e1, e4, e22, e23, e24, hg, hlt, e8, e9, hg2, hab, e10, e57, e58, e59, hli, q_x, g_x, l_x, r_x, z_x, q_y, g_y, l_y, r_y, z_y, l2_y, l3_y, z2_y, hgd, h2]
              refine callG_c (by simp) (by simp) ?ha (spIn_ok hq2 a c (by omega) (by omega)) ?_
              (case ha => simp (disch := first | omega | (simp; done) | fail) [wrap64c, if_pos, if_neg, opAnd, opOr, opXor, opDiff, opShr, opBit, hnt, hcs, hL, c1, h40', e0, e1, e4, e22, e23, e24, hg, hlt, e8, e9, hg2, hab, e10, e57, e58, e59, hli, q_x, g_x, l_x, r_x, z_x, q_y, g_y, l_y, r_y, z_y, l2_y, l3_y, z2_y, hgd, h2])
              cases h3 : a.testBit c
              · try simp (disch := first | omega | (simp; done) | fail) [wrap64c, if_pos, if_neg, opAnd, opOr, opXor, opDiff, opShr, opBit, hnt, hcs, hL, c1, h40', e0, e1, e4, e22, e23, e24, hg, hlt, e8, e9, hg2, hab, e10, e57, e58, e59, hli, q_x, g_x, l_x, r_x, z_x, q_y, g_y, l_y, r_y, z_y, l2_y, l3_y, z2_y, hgd, h2, h3]
                refine loopK_next _ ?hm ?hf ⟨i + 1, rfl, rfl, (by simp [htk, hgd, hcd, breaks, h2, h3, -List.take_append_getElem]), (by simp (disch := first | omega | (simp; done) | fail) [wrap64c, if_pos, if_neg, opAnd, opOr, opXor, opDiff, opShr, opBit, hnt, hcs, hL, c1, h40', e0, e1, e4, e22, e23, e24, hg, hlt, e8, e9, hg2, hab, e10, e57, e58, e59, hli, q_x, g_x, l_x, r_x, z_x, q_y, g_y, l_y, r_y, z_y, l2_y, l3_y, z2_y, hgd, h2, h3] <;> omega), (by first | omega | assumption | (simp (disch := first | omega | (simp; done) | fail) [wrap64c, if_pos, if_neg, opAnd, opOr, opXor, opDiff, opShr, opBit, hnt, hcs, hL, c1, h40', e0, e1, e4, e22, e23, e24, hg, hlt, e8, e9, hg2, hab, e10, e57, e58, e59, hli, q_x, g_x, l_x, r_x, z_x, q_y, g_y, l_y, r_y, z_y, l2_y, l3_y, z2_y, hgd, h2, h3] <;> omega))⟩
                (case hm => first | omega | (simp; omega))
                (case hf => simp [FrameL, hnt, hcs, hL, c1, h40', e0, e1, e4, e22, e23, e24, hg, hlt, e8, e9, hg2, hab, e10, e57, e58, e59, hli, q_x, g_x, l_x, r_x, z_x, q_y, g_y, l_y, r_y, z_y, l2_y, l3_y, z2_y, hgd, h2, h3, f0_2, f1_2, f4_2, f8_2, f9_2, f57_2, f58_2])
              · try simp (disch := first | omega | (simp; done) | fail) [wrap64c, if_pos, if_neg, opAnd, opOr, opXor, opDiff, opShr, opBit, hnt, hcs, hL, c1, h40', e0, e1, e4, e22, e23, e24, hg, hlt, e8, e9, hg2, hab, e10, e57, e58, e59, hli, q_x, g_x, l_x, r_x, z_x, q_y, g_y, l_y, r_y, z_y, l2_y, l3_y, z2_y, hgd, h2, h3]
                refine loopK_next _ ?hm ?hf ⟨i + 1, rfl, rfl, (by simp [htk, hgd, hcd, breaks, h2, h3, -List.take_append_getElem]), (by simp (disch := first | omega | (simp; done) | fail) [wrap64c, if_pos, if_neg, opAnd, opOr, opXor, opDiff, opShr, opBit, hnt, hcs, hL, c1, h40', e0, e1, e4, e22, e23, e24, hg, hlt, e8, e9, hg2, hab, e10, e57, e58, e59, hli, q_x, g_x, l_x, r_x, z_x, q_y, g_y, l_y, r_y, z_y, l2_y, l3_y, z2_y, hgd, h2, h3] <;> omega), (by first | omega | assumption | (simp (disch := first | omega | (simp; done) | fail) [wrap64c, if_pos, if_neg, opAnd, opOr, opXor, opDiff, opShr, opBit, hnt, hcs, hL, c1, h40', e0, e1, e4, e22, e23, e24, hg, hlt, e8, e9, hg2, hab, e10, e57, e58, e59, hli, q_x, g_x, l_x, r_x, z_x, q_y, g_y, l_y, r_y, z_y, l2_y, l3_y, z2_y, hgd, h2, h3] <;> omega))⟩
                (case hm => first | omega | (simp; omega))
                (case hf => simp [FrameL, hnt, hcs, hL, c1, h40', e0, e1, e4, e22, e23, e24, hg, hlt, e8, e9, hg2, hab, e10, e57, e58, e59, hli, q_x, g_x, l_x, r_x, z_x, q_y, g_y, l_y, r_y, z_y, l2_y, l3_y, z2_y, hgd, h2, h3, f0_2, f1_2, f4_2, f8_2, f9_2, f57_2, f58_2])
          · try simp (disch := first | omega | (simp; done) | fail) [wrap64c, if_pos, if_neg, opAnd, opOr, opXor, opDiff, opShr, opBit, hnt, hcs, hL, c1, h40', e0, e1, e4, e22, e23, e24, hg, hlt, e8, e9, hg2, hab, e10, e57, e58, e59, hli, q_x, g_x, l_x, r_x, z_x, q_y, g_y, l_y, r_y, z_y, l2_y, l3_y, z2_y, hgd]
            refine loopK_next _ ?hm ?hf ⟨i + 1, rfl, rfl, (by simp [htk, hgd, -List.take_append_getElem]), (by simp (disch := first | omega | (simp; done) | fail) [wrap64c, if_pos, if_neg, opAnd, opOr, opXor, opDiff, opShr, opBit, hnt, hcs, hL, c1, h40', e0, e1, e4, e22, e23, e24, hg, hlt, e8, e9, hg2, hab, e10, e57, e58, e59, hli, q_x, g_x, l_x, r_x, z_x, q_y, g_y, l_y, r_y, z_y, l2_y, l3_y, z2_y, hgd] <;> omega), (by first | omega | assumption | (simp (disch := first | omega | (simp; done) | fail) [wrap64c, if_pos, if_neg, opAnd, opOr, opXor, opDiff, opShr, opBit, hnt, hcs, hL, c1, h40', e0, e1, e4, e22, e23, e24, hg, hlt, e8, e9, hg2, hab, e10, e57, e58, e59, hli, q_x, g_x, l_x, r_x, z_x, q_y, g_y, l_y, r_y, z_y, l2_y, l3_y, z2_y, hgd] <;> omega))⟩
            (case hm => first | omega | (simp; omega))
            (case hf => simp [FrameL, hnt, hcs, hL, c1, h40', e0, e1, e4, e22, e23, e24, hg, hlt, e8, e9, hg2, hab, e10, e57, e58, e59, hli, q_x, g_x, l_x, r_x, z_x, q_y, g_y, l_y, r_y, z_y, l2_y, l3_y, z2_y, hgd, f0_2, f1_2, f4_2, f8_2, f9_2, f57_2, f58_2])
        · have hie : i = L.length := by omega
          have hfs := famK_succ (keepsB L) a
          rw [hie, List.take_length] at e10
          cases hc : L.any (breaks a)
          · rw [if_pos (by simp [keepsB, hc])] at hfs
            have ntu := (hw.own (by simp; omega)).nt
            have csu := (hw.own (by simp; omega)).cs
            have gq0 : hq2.get h.next = .cells [.int .i64 0, .slice none 0 0] true true 1 := by rw [ha2.1.2 _ (by omega)]; exact hg
            try simp (disch := first | omega | (simp; done) | fail) [wrap64c, if_pos, if_neg, opAnd, opOr, opXor, opDiff, opShr, opBit, hnt, hcs, hL, c1, h40', e0, e1, e4, e22, e23, e24, hg, hlt, e8, e9, hg2, hab, e10, e57, e58, e59, hli, hc, ntu, csu]
            obtain ⟨u2, h4, hap, hu2, ha4, hn4, hs4⟩ := appI hw (a : Int) (by simp; omega) hnn ha2 (by omega)
            have gq : h4.get hq.next = .cells [.int .i64 (n : Int), w] true true 1 := by rw [hs4 _ (by omega) (by omega)]; exact hg2
            have nt2 := (hu2.own (by simp; omega)).nt
            have cs2 := (hu2.own (by simp; omega)).cs
            try simp (disch := first | omega | (simp; done) | fail) [wrap64c, if_pos, if_neg, opAnd, opOr, opXor, opDiff, opShr, opBit, hnt, hcs, hL, c1, h40', e0, e1, e4, e22, e23, e24, hg, hlt, e8, e9, hg2, hab, e10, e57, e58, e59, hli, hc, ntu, csu, gq, nt2, cs2, hap, putCells]
            refine loopK_next _ ?hm ?hf ⟨a + 1, u2, rfl, (by simp (disch := first | omega | (simp; done) | fail) [wrap64c, if_pos, if_neg, opAnd, opOr, opXor, opDiff, opShr, opBit, hnt, hcs, hL, c1, h40', e0, e1, e4, e22, e23, e24, hg, hlt, e8, e9, hg2, hab, e10, e57, e58, e59, hli, hc, ntu, csu, gq, nt2, cs2] <;> omega), (by first | omega | assumption | (simp (disch := first | omega | (simp; done) | fail) [wrap64c, if_pos, if_neg, opAnd, opOr, opXor, opDiff, opShr, opBit, hnt, hcs, hL, c1, h40', e0, e1, e4, e22, e23, e24, hg, hlt, e8, e9, hg2, hab, e10, e57, e58, e59, hli, hc, ntu, csu, gq, nt2, cs2] <;> omega)), (by first | exact aK | exact kK), (by rw [hfs, toN_snoc]; exact IntsA.putB hu2 (by omega) _), (by simp), (by simp; omega)⟩
            (case hm => first | omega | (simp; omega))
            (case hf => simp [FrameL, hnt, hcs, hL, c1, h40', e0, e1, e4, e22, e23, e24, hg, hlt, e8, e9, hg2, hab, e10, e57, e58, e59, hli, hc, ntu, csu, gq, nt2, cs2, f0_1, f1_1, f4_1, f8_1])
          · rw [if_neg (by simp [keepsB, hc])] at hfs
            try simp (disch := first | omega | (simp; done) | fail) [wrap64c, if_pos, if_neg, opAnd, opOr, opXor, opDiff, opShr, opBit, hnt, hcs, hL, c1, h40', e0, e1, e4, e22, e23, e24, hg, hlt, e8, e9, hg2, hab, e10, e57, e58, e59, hli, hc]
            refine loopK_next _ ?hm ?hf ⟨a + 1, w, rfl, (by simp (disch := first | omega | (simp; done) | fail) [wrap64c, if_pos, if_neg, opAnd, opOr, opXor, opDiff, opShr, opBit, hnt, hcs, hL, c1, h40', e0, e1, e4, e22, e23, e24, hg, hlt, e8, e9, hg2, hab, e10, e57, e58, e59, hli, hc] <;> omega), (by first | omega | assumption | (simp (disch := first | omega | (simp; done) | fail) [wrap64c, if_pos, if_neg, opAnd, opOr, opXor, opDiff, opShr, opBit, hnt, hcs, hL, c1, h40', e0, e1, e4, e22, e23, e24, hg, hlt, e8, e9, hg2, hab, e10, e57, e58, e59, hli, hc] <;> omega)), (by first | omega | assumption | (simp (disch := first | omega | (simp; done) | fail) [wrap64c, if_pos, if_neg, opAnd, opOr, opXor, opDiff, opShr, opBit, hnt, hcs, hL, c1, h40', e0, e1, e4, e22, e23, e24, hg, hlt, e8, e9, hg2, hab, e10, e57, e58, e59, hli, hc] <;> omega)), (by rw [hfs]; exact hw), (by first | omega | assumption | (simp (disch := first | omega | (simp; done) | fail) [wrap64c, if_pos, if_neg, opAnd, opOr, opXor, opDiff, opShr, opBit, hnt, hcs, hL, c1, h40', e0, e1, e4, e22, e23, e24, hg, hlt, e8, e9, hg2, hab, e10, e57, e58, e59, hli, hc] <;> omega)), (by first | omega | assumption | (simp (disch := first | omega | (simp; done) | fail) [wrap64c, if_pos, if_neg, opAnd, opOr, opXor, opDiff, opShr, opBit, hnt, hcs, hL, c1, h40', e0, e1, e4, e22, e23, e24, hg, hlt, e8, e9, hg2, hab, e10, e57, e58, e59, hli, hc] <;> omega))⟩
            (case hm => first | omega | (simp; omega))
            (case hf => simp [FrameL, hnt, hcs, hL, c1, h40', e0, e1, e4, e22, e23, e24, hg, hlt, e8, e9, hg2, hab, e10, e57, e58, e59, hli, hc, f0_1, f1_1, f4_1, f8_1])
      · have hae : a = bit n := by omega
        rw [hae] at hw
        have hol := ordL_len n L
        have hO : IntsO (Btw (hq.next + 1) hq2.next) hq2 w (toN (ordL n L)) := hw.own (by show (toN (ordL n L)).length < _; simp; omega)
        obtain ⟨h5, hc5, ha5⟩ := spIf_ok hq2 w n (toN (ordL n L)) _ hO (fun o ho => ho.2) (by simp; omega)
        have A := (ha.trans ha2).trans ha5
        have m5 := ha5.1.1
        have gq0 : h5.get h.next = .cells [.int .i64 0, .slice none 0 0] true true 1 := by rw [ha5.1.2 _ (by omega), ha2.1.2 _ (by omega)]; exact hg
        have ntu := hO.nt
        have csu := hO.cs
        try simp (disch := first | omega | (simp; done) | fail) [wrap64c, if_pos, if_neg, opAnd, opOr, opXor, opDiff, opShr, opBit, hnt, hcs, hL, c1, h40', e0, e1, e4, e22, e23, e24, hg, hlt, e8, e9, hg2, hab, gq0, ntu, csu]
        refine callG_c (by simp) (by simp) ?ha (hc5) ?_
        (case ha => simp (disch := first | omega | (simp; done) | fail) [wrap64c, if_pos, if_neg, opAnd, opOr, opXor, opDiff, opShr, opBit, hnt, hcs, hL, c1, h40', e0, e1, e4, e22, e23, e24, hg, hlt, e8, e9, hg2, hab, gq0, ntu, csu])
        cases c3 : spB n (toN (ordL n L))
        · have hk : ordOK n L = false := by simp [ordOK, c1, c2, c3]
          try simp (disch := first | omega | (simp; done) | fail) [wrap64c, if_pos, if_neg, opAnd, opOr, opXor, opDiff, opShr, opBit, hnt, hcs, hL, c1, h40', e0, e1, e4, e22, e23, e24, hg, hlt, e8, e9, hg2, hab, gq0, ntu, csu, c3, hk, putCells]
          refine done_ret (by simp [putCells, e4]; rfl) ⟨(by first | exact aK | exact kK), .agg #[.int .i64 0, .slice none 0 0], by simp [hk], ?_⟩
          simp only [ordN, ordX, hk]
          exact ⟨_, rfl, .nil _ _⟩
        · have hk : ordOK n L = true := by simp [ordOK, c1, c2, c3]
          try simp (disch := first | omega | (simp; done) | fail) [wrap64c, if_pos, if_neg, opAnd, opOr, opXor, opDiff, opShr, opBit, hnt, hcs, hL, c1, h40', e0, e1, e4, e22, e23, e24, hg, hlt, e8, e9, hg2, hab, gq0, ntu, csu, c3, hk, putCells]
          refine done_ret (by simp [putCells, e4]; rfl) ⟨(by first | exact aK | exact kK), .agg #[.int .i64 n, w], by simp [hk], ?_⟩
          simp only [ordN, ordX, hk, if_true]
          exact ⟨w, rfl, ((hO.keep ha5.1).same (Same.put (Same.refl _ _) (by unfold Btw; omega) _)).sub fun o ho => ⟨by have := ho.1; omega, by have := ho.2; simp; omega⟩⟩
end Go.Proofs.Ytnncipcldbopgaa
namespace Go.Proofs.Ytnncipcldbopgaa
set_option linter.unusedSimpArgs false
set_option linter.unusedVariables false
set_option maxHeartbeats 4000000
open Go Go.Eng
attribute [local irreducible] WD RunD PreD Runs CallOK
def upPairs (n : Nat) (L : List (List Int)) : Prop := ∀ x ∈ L, ∃ a b : Nat, x = [(a : Int), (b : Int)] ∧ a < b ∧ b < n
theorem top_bit {x : Nat} (h0 : x ≠ 0) : ∀ n, x < bit n → ∃ i, i < n ∧ x.testBit i = true ∧ ∀ j, i < j → x.testBit j = false
  | 0, h => by simp [bit] at h; omega
  | n + 1, h => by
    by_cases hb : x.testBit n = true
    · exact ⟨n, by omega, hb, fun j hj => hi_bit h (by omega)⟩
    · have : x < bit n := lt_bit_of fun i hi => by
        by_cases e : i = n
        · subst e; simpa using hb
        · exact hi_bit h (by omega)
      obtain ⟨i, h1, h2, h3⟩ := top_bit h0 n this
      exact ⟨i, by omega, h2, h3⟩
theorem keeps_iff {n : Nat} {L : List (List Int)} (hp : upPairs n L) {a : Nat} : keepsB L a = true ↔ ∀ x ∈ L, ∀ p q : Nat, x = [(p : Int), (q : Int)] → a.testBit q = true → a.testBit p = true := by
  unfold keepsB
  rw [Bool.not_eq_true', List.any_eq_false]
  constructor
  · intro h x hx p q e hq
    have := h x hx
    subst e
    simpa [breaks, hq] using this
  · intro h x hx
    obtain ⟨p, q, e, _, _⟩ := hp x hx
    have := h x hx p q e
    subst e
    simp only [breaks, List.getD_cons_succ, List.getD_cons_zero, Int.toNat_natCast]
    by_cases hq : a.testBit q = true
    · simp [this hq]
    · simp [hq]
theorem ord_mem {n : Nat} {L : List (List Int)} {a : Nat} : a ∈ ordL n L ↔ a < bit n ∧ keepsB L a = true := by
  unfold ordL famK
  rw [List.mem_filter, List.mem_range]
theorem ord_good {n : Nat} {L : List (List Int)} (h1 : 1 ≤ n) (h7 : n ≤ 7) (hp : upPairs n L) : SpGood n (ordL n L) where
  n1 := h1
  n7 := h7
  srt := List.Pairwise.filter _ List.pairwise_lt_range
  lt := fun a ha => (ord_mem.1 ha).1
  zero := ord_mem.2 ⟨by have := bit_pos n; omega, (keeps_iff hp).2 fun x _ p q _ hq => by simp at hq⟩
  full := ord_mem.2 ⟨by have := bit_pos n; omega, (keeps_iff hp).2 fun x hx p q e hq => by
    obtain ⟨a, b, e2, h2, h3⟩ := hp x hx
    rw [e] at e2
    simp only [List.cons.injEq, and_true] at e2
    rw [full_bit]
    exact decide_eq_true (by omega)⟩
  inn := fun x hx h0 => by
    obtain ⟨hx1, hx2⟩ := ord_mem.1 hx
    obtain ⟨i, hi, hb, hj⟩ := top_bit h0 n hx1
    unfold innerN
    rw [maskN_ne]
    refine ⟨i, by omega, ?_⟩
    rw [Bool.and_eq_true]
    refine ⟨hb, ?_⟩
    unfold fam
    refine decide_eq_true (ord_mem.2 ⟨nXor_lt hx1 (bit_lt_bit hi), (keeps_iff hp).2 fun y hy p q e hq => ?_⟩)
    obtain ⟨a, b, e2, h2, h3⟩ := hp y hy
    rw [e] at e2
    simp only [List.cons.injEq, and_true] at e2
    have hqx : x.testBit q = true := by
      rw [nXor_bit, bit_bit] at hq
      by_cases e3 : i = q
      · subst e3; simp [hb] at hq
      · simpa [e3] using hq
    have hpx := (keeps_iff hp).1 hx2 y hy p q e hqx
    have hpi : ¬ i = p := fun e3 => by
      have := hj q (by omega)
      rw [hqx] at this; cases this
    rw [nXor_bit, bit_bit, hpx]
    simp [hpi]
  uni := fun x hx y hy => by
    obtain ⟨hx1, hx2⟩ := ord_mem.1 hx
    obtain ⟨hy1, hy2⟩ := ord_mem.1 hy
    refine ord_mem.2 ⟨nOr_lt hx1 hy1, (keeps_iff hp).2 fun z hz p q e hq => ?_⟩
    rw [nOr_bit, Bool.or_eq_true] at hq ⊢
    rcases hq with hq | hq
    · exact .inl ((keeps_iff hp).1 hx2 z hz p q e hq)
    · exact .inr ((keeps_iff hp).1 hy2 z hz p q e hq)
theorem ord_up {n : Nat} {L : List (List Int)} (h1 : 1 ≤ n) (h7 : n ≤ 7) (hl : L.length ≤ 40) (hp : upPairs n L) : ordOK n L = true := by
  unfold ordOK
  rw [sizeB_of h1 h7, Bool.true_and, Bool.and_eq_true]
  refine ⟨?_, spB_of (ord_good h1 h7 hp)⟩
  unfold pairsB
  rw [decide_eq_true hl, Bool.true_and, Bool.not_eq_true', List.any_eq_false]
  intro x hx
  obtain ⟨a, b, e, h2, h3⟩ := hp x hx
  subst e
  have : ¬ (a : Int) = (b : Int) := by omega
  simp [pairB, this]
  omega
def SpaceF (F : Nat → Prop) (h : Hp) (v : Value) (N : Int) (X : List Int) : Prop := ∃ b, v = .agg #[.int .i64 N, b] ∧ IntsF F h b X
theorem appPair {n : Nat} {h0 h : Hp} {v : Value} {L : List (List Int)} (hs : IRowsA n h v L) (a b : Int) (hl : L.length < 2 ^ 39) (hn : n ≤ h.next) (hA : Adds h0 h) (h0n : h0.next ≤ n) :
    ∃ v' h', appendD Try.prog 83 83 v (.slice (some ⟨h.next + 1, 0, none⟩) 1 1) ((h.alloc (.cells [.int .i64 a, .int .i64 b] true true 1)).alloc (.cells [.slice (some ⟨h.next, 0, none⟩) 2 2] true true 1)) = some (v', h') ∧ IRowsA n h' v' (L ++ [[a, b]]) ∧ Adds h0 h' ∧ h.next < h'.next ∧ ∀ o, o < h.next → o < n → h'.get o = h.get o := by
  have k1 : Adds h (h.alloc (.cells [.int .i64 a, .int .i64 b] true true 1)) := (by first | exact aK | exact kK)
  obtain ⟨v', h', g1, g2, g3, g4, g5⟩ := appR (h := h.alloc (.cells [.int .i64 a, .int .i64 b] true true 1)) (u := .slice (some ⟨h.next, 0, none⟩) 2 2) (r := [a, b]) hs k1.1 (IntsO.mk (xs := [a, b]) (ex := true) (show Btw h.next _ h.next from ⟨Nat.le_refl _, by simp⟩) (by simp) (by simp) (by simp)) (by omega) hn (hA.trans k1) h0n
  exact ⟨v', h', g1, g2, g3, by simp at g4; omega, fun o ho hon => by rw [g5 o (by simp; omega) hon]; simp [Nat.ne_of_lt ho]⟩
theorem fin_space {hB h hh : Hp} {o K k' : Nat} {b : Value} {L : List Nat} (hA : Adds hB h) (ho : o < h.next) (d : DrW hB o K h hh) (hi : IntsF (fun x => h.next < x) hh b (toN L)) (hK : K ≤ k') (cs : List Value) (e : Bool) (es : Nat) :
    DrW hB o k' h (hh.put h.next (.cells cs true e es)) ∧ IntsF (fun x => h.next < x) (hh.put h.next (.cells cs true e es)) b (toN L) :=
  ⟨(d.put hA ho (Nat.le_refl _) _ _ _).mono hK, hi.same (h := hh) (h' := hh.put h.next _) ⟨Nat.le_refl _, fun x hx _ => by simp [show x ≠ h.next by omega]⟩⟩
theorem sureSpace_ok (hB h : Hp) (o k : Nat) (most : Int) (hA : Adds hB h) (hc : CurS hB.next o k h) (hk : k + 2000 < 2 ^ 40) (hm : 1 ≤ most ∧ most ≤ 7) :
    ∃ v h', CallOK Try.prog 238 #[.pointer (some ⟨o, 0, none⟩), .int .i64 most] h v h' ∧ DrW hB o (k + 200) h h' ∧ ∃ (n : Nat) (b : Value) (L : List Nat), v = .agg #[.int .i64 (n : Int), b] ∧ IntsF (fun x => h.next < x) h' b (toN L) ∧ 1 ≤ n ∧ (n : Int) ≤ most ∧ SrtB (bit n) L ∧ L ≠ [] := by
  have hbo := hc.bo
  refine callY_L (args := [.pointer (some ⟨o, 0, none⟩), .int .i64 most]) 92 _ [.cell 4 26] Try.func238 rfl rfl rfl ?_
  try simp (disch := first | omega | (simp; done) | fail) [wrap64c, if_pos, if_neg, opAnd, opOr, opXor, opDiff, opShr, opBit]
  first | refine WY_heap fun h0 q_h0 => ?_ | refine callG_heap fun h0 q_h0 => ?_ | refine callP_heap fun h0 q_h0 => ?_ | refine callS_heap fun h0 q_h0 => ?_ | refine RY_heap fun h0 q_h0 => ?_ | refine PY_heap fun h0 q_h0 => ?_ | refine SY_heap fun h0 q_h0 => ?_ | refine doneY_heap fun h0 q_h0 => ?_ | refine loopK_heap fun h0 q_h0 => ?_ | refine thenY_heap fun h0 q_h0 => ?_ | refine thenM_heap fun h0 q_h0 => ?_
  have k0 : Adds h h0 := by rw [q_h0]; exact (by first | exact aK | exact kK)
  have n0 : h0.next = h.next + 1 := by simp [q_h0]
  have d0 := DrW.of_adds hA hc k0
  have gr0 : h0.get h.next = .cells [.int .i64 0, .slice none 0 0] true true 1 := by simp [q_h0]
  obtain ⟨v1, h1, p1, r1, q1, l1, w1⟩ := pick_ok hB.next o k h0 most d0.cur (by omega)
  subst q1
  have hr1 := l1 (by omega)
  have d1 := d0.trans (w1.dr d0.add d0.cur)
  have n1 := w1.nx
  obtain ⟨n, hn⟩ : ∃ n, n = 1 + r1 := ⟨_, rfl⟩
  have hn7 : n ≤ 7 := by omega
  have hn1 : 1 ≤ n := by omega
  have e1n : (1 : Int) + (r1 : Int) = (n : Int) := by omega
  have hb7 := bit7 hn7
  obtain ⟨v2, h2, p2, r2, q2, l2, w2⟩ := pick_ok hB.next o (k + 2) h1 6 d1.cur (by omega)
  subst q2
  have hr2 := l2 (by omega)
  have d2 := d1.trans (w2.dr d1.add d1.cur)
  have n2 := w2.nx
  have gr2 : h2.get h.next = .cells [.int .i64 0, .slice none 0 0] true true 1 := by rw [w2.get _ (by omega) (by omega), w1.get _ (by omega) (by omega)]; exact gr0
  have hu2 : ∀ a b c d : Value, putCells [a, b] 0 [c, d] = [c, d] := fun _ _ _ _ => rfl
  refine callG_c (by simp) (by simp) ?ha (p1) ?_
  (case ha => simp (disch := first | omega | (simp; done) | fail) [wrap64c, if_pos, if_neg, opAnd, opOr, opXor, opDiff, opShr, opBit, e1n, hu2])
  try simp (disch := first | omega | (simp; done) | fail) [wrap64c, if_pos, if_neg, opAnd, opOr, opXor, opDiff, opShr, opBit, e1n, hu2]
  refine callG_c (by simp) (by simp) ?ha (p2) ?_
  (case ha => simp (disch := first | omega | (simp; done) | fail) [wrap64c, if_pos, if_neg, opAnd, opOr, opXor, opDiff, opShr, opBit, e1n, hu2])
  by_cases z0 : r2 = 0
  · subst z0
    obtain ⟨_, h3, p3, a3, b, L, rfl, i3, hL, hmem⟩ := specLine_ok h2 n hn1 hn7
    have d3 := d2.trans (DrW.of_adds d2.add d2.cur a3)
    have n3 := a3.1.1
    have lL := hL.len
    have ntb := i3.nt
    have csb := (i3.own (by simp; omega)).ints.cs
    have gr3 : h3.get h.next = .cells [.int .i64 0, .slice none 0 0] true true 1 := by rw [a3.1.2 _ (by omega)]; exact gr2
    have hne3 : ¬ h.next = h3.next := by omega
    have hLne : L ≠ [] := fun e => by
      have := (hmem (lineS n 0 0)).2 ⟨0, 0, Nat.le_refl _, Nat.zero_le _, rfl⟩
      rw [e] at this; cases this
    try simp (disch := first | omega | (simp; done) | fail) [wrap64c, if_pos, if_neg, opAnd, opOr, opXor, opDiff, opShr, opBit, e1n, hu2, ntb, csb, gr3, hne3]
    refine callG_c (by simp) (by simp) ?ha (p3) ?_
    (case ha => simp (disch := first | omega | (simp; done) | fail) [wrap64c, if_pos, if_neg, opAnd, opOr, opXor, opDiff, opShr, opBit, e1n, hu2, ntb, csb, gr3, hne3])
    try simp (disch := first | omega | (simp; done) | fail) [wrap64c, if_pos, if_neg, opAnd, opOr, opXor, opDiff, opShr, opBit, e1n, hu2, ntb, csb, gr3, hne3]
    obtain ⟨hz, hzE⟩ : ∃ hz, hz = (h3.alloc (.cells [.int .i64 0, .slice none 0 0] true true 1)).put h3.next (.cells [.int .i64 (n : Int), b] true true 1) := ⟨_, rfl⟩
    have kz : Adds h3 hz := by rw [hzE]; exact (by first | exact aK | exact kK)
    rw [← hzE]
    have hI : IntsF (fun x => h.next < x) hz b (toN L) := (((i3.own (by simp; omega)).read).sub fun x hx => by have := hx.1; omega).keep kz.1
    obtain ⟨f1, f2⟩ := fin_space hA hbo.2 (d3.trans (DrW.of_adds d3.add d3.cur kz)) hI (show k + 2 + 2 ≤ k + 200 by omega) [.int .i64 (n : Int), b] true 1
    exact done_ret (vs := [.agg #[.int .i64 (n : Int), b]]) (by simp [resL]) ⟨f1, n, b, _, rfl, f2, hn1, by omega, hL, hLne⟩
  have z0' : ¬ (r2 : Int) = 0 := by omega
  by_cases z1 : r2 = 1
  · subst z1
    obtain ⟨b, h3, p3, a3, i3⟩ := spFree_ok h2 n hn7
    have d3 := d2.trans (DrW.of_adds d2.add d2.cur a3)
    have n3 := a3.1.1
    have ntb := i3.nt
    have csb := (i3.own (by simp; omega)).ints.cs
    have gr3 : h3.get h.next = .cells [.int .i64 0, .slice none 0 0] true true 1 := by rw [a3.1.2 _ (by omega)]; exact gr2
    try simp (disch := first | omega | (simp; done) | fail) [wrap64c, if_pos, if_neg, opAnd, opOr, opXor, opDiff, opShr, opBit, e1n, hu2, z0', ntb, csb, gr3]
    refine callG_c (by simp) (by simp) ?ha (p3) ?_
    (case ha => simp (disch := first | omega | (simp; done) | fail) [wrap64c, if_pos, if_neg, opAnd, opOr, opXor, opDiff, opShr, opBit, e1n, hu2, z0', ntb, csb, gr3])
    try simp (disch := first | omega | (simp; done) | fail) [wrap64c, if_pos, if_neg, opAnd, opOr, opXor, opDiff, opShr, opBit, e1n, hu2, z0', ntb, csb, gr3]
    have hI : IntsF (fun x => h.next < x) h3 b (toN (List.range (bit n))) := ((i3.own (by simp; omega)).read).sub fun x hx => by have := hx.1; omega
    obtain ⟨f1, f2⟩ := fin_space hA hbo.2 d3 hI (show k + 2 + 2 ≤ k + 200 by omega) [.int .i64 (n : Int), b] true 1
    exact done_ret (vs := [.agg #[.int .i64 (n : Int), b]]) (by simp [resL]) ⟨f1, n, b, _, rfl, f2, hn1, by omega, ⟨List.pairwise_lt_range, fun a ha => List.mem_range.1 ha⟩, by simp; omega⟩
  have z1' : ¬ (r2 : Int) = 1 := by omega
  by_cases z2 : r2 = 2
  · subst z2
    obtain ⟨v3, h3, p3, r3, q3, l3, w3⟩ := pick_ok hB.next o (k + 2 + 2) h2 ((n : Int) + 1) d2.cur (by omega)
    subst q3
    have hr3 := l3 (by omega)
    have d3 := d2.trans (w3.dr d2.add d2.cur)
    have n3 := w3.nx
    have gr3 : h3.get h.next = .cells [.int .i64 0, .slice none 0 0] true true 1 := by rw [w3.get _ (by omega) (by omega)]; exact gr2
    have up0 : upPairs n [] := fun x hx => by cases hx
    try simp (disch := first | omega | (simp; done) | fail) [wrap64c, if_pos, if_neg, opAnd, opOr, opXor, opDiff, opShr, opBit, e1n, hu2, z0', z1']
    refine callG_c (by simp) (by simp) ?ha (p3) ?_
    (case ha => simp (disch := first | omega | (simp; done) | fail) [wrap64c, if_pos, if_neg, opAnd, opOr, opXor, opDiff, opShr, opBit, e1n, hu2, z0', z1'])
    try simp (disch := first | omega | (simp; done) | fail) [wrap64c, if_pos, if_neg, opAnd, opOr, opXor, opDiff, opShr, opBit, e1n, hu2, z0', z1']
    refine WD_loopC [0, 4, 5] (fun m tm h' => ∃ pv q L, m = r3 - q ∧ tm 8 = pv ∧ tm 9 = .int .i64 ((r3 : Int) - ((q : Nat) : Int)) ∧ (q ≤ r3 ∧ L.length = q) ∧ (DrW hB o (k + 6 + 4 * q) h h') ∧ (IRowsA h2.next h' pv L) ∧ (upPairs n L) ∧ (h'.get h.next = .cells [.int .i64 0, .slice none 0 0] true true 1) ∧ (h2.next ≤ h'.next)) _ ⟨Value.slice none 0 0, 0, [], rfl, (by simp (disch := first | omega | (simp; done) | fail) [wrap64c, if_pos, if_neg, opAnd, opOr, opXor, opDiff, opShr, opBit, e1n, hu2, z0', z1']), (by simp), (by simp), d3, (.nil _ _), up0, gr3, (by first | omega | assumption | (simp (disch := first | omega | (simp; done) | fail) [wrap64c, if_pos, if_neg, opAnd, opOr, opXor, opDiff, opShr, opBit, e1n, hu2, z0', z1'] <;> omega))⟩ ?_
    rintro m tm h' hFr ⟨pv, q, L, rfl, e8, e9, hq, hd, hi, hp, hg, hnx⟩
    simp only [FrameL] at hFr
    obtain ⟨f0_0, f4_0, f5_0, -⟩ := hFr
    try simp (disch := first | omega | (simp; done) | fail) [wrap64c, if_pos, if_neg, opAnd, opOr, opXor, opDiff, opShr, opBit, e1n, hu2, z0', z1'] at f0_0 f4_0 f5_0
    have e0 := f0_0
    have e4 := f4_0
    have e5 := f5_0
    have ntv := hi.nt
    by_cases hlq : q < r3 ∧ 1 < n
    · have hlq1 : 0 < (r3 : Int) - ((q : Nat) : Int) := by omega
      have hlq2 : 1 < (n : Int) := by omega
      obtain ⟨v4, h4, p4, r4, q4, l4, w4⟩ := pick_ok hB.next o (k + 6 + 4 * q) h' ((n : Int) - 1) hd.cur (by omega)
      subst q4
      have hr4 := l4 (by omega)
      have d4 := hd.trans (w4.dr hd.add hd.cur)
      have n4 := w4.nx
      obtain ⟨v5, h5, p5, r5, q5, l5, w5⟩ := pick_ok hB.next o (k + 6 + 4 * q + 2) h4 ((n : Int) - 1 - r4) d4.cur (by omega)
      subst q5
      have hr5 := l5 (by omega)
      have d5 := d4.trans (w5.dr d4.add d4.cur)
      have n5 := w5.nx
      have hi5 : IRowsA h2.next h5 pv L := rows_cur hi (by omega) (fun p h1 h2 => by rw [w5.get p (by omega) (by omega), w4.get p (by omega) (by omega)])
      have hg5 : h5.get h.next = .cells [.int .i64 0, .slice none 0 0] true true 1 := by rw [w5.get _ (by omega) (by omega), w4.get _ (by omega) (by omega)]; exact hg
      obtain ⟨sq, hsq⟩ : ∃ s : Nat, s = r4 + 1 + r5 := ⟨_, rfl⟩
      have hsqe : (r4 : Int) + 1 + (r5 : Int) = (sq : Int) := by omega
      obtain ⟨v6, h6, hap, hi6, k6, n6, s6⟩ := appPair hi5 (r4 : Int) (sq : Int) (by omega) (by omega) d5.add (by have := hA.1.1; omega)
      try simp (disch := first | omega | (simp; done) | fail) [wrap64c, if_pos, if_neg, opAnd, opOr, opXor, opDiff, opShr, opBit, e1n, hu2, z0', z1', e0, e4, e5, e8, e9, ntv, hlq1, hlq2, hsqe]
      refine callG_c (by simp) (by simp) ?ha (p4) ?_
      (case ha => simp (disch := first | omega | (simp; done) | fail) [wrap64c, if_pos, if_neg, opAnd, opOr, opXor, opDiff, opShr, opBit, e1n, hu2, z0', z1', e0, e4, e5, e8, e9, ntv, hlq1, hlq2, hsqe])
      try simp (disch := first | omega | (simp; done) | fail) [wrap64c, if_pos, if_neg, opAnd, opOr, opXor, opDiff, opShr, opBit, e1n, hu2, z0', z1', e0, e4, e5, e8, e9, ntv, hlq1, hlq2, hsqe]
      refine callG_c (by simp) (by simp) ?ha (p5) ?_
      (case ha => simp (disch := first | omega | (simp; done) | fail) [wrap64c, if_pos, if_neg, opAnd, opOr, opXor, opDiff, opShr, opBit, e1n, hu2, z0', z1', e0, e4, e5, e8, e9, ntv, hlq1, hlq2, hsqe])
      try simp (disch := first | omega | (simp; done) | fail) [wrap64c, if_pos, if_neg, opAnd, opOr, opXor, opDiff, opShr, opBit, e1n, hu2, z0', z1', e0, e4, e5, e8, e9, ntv, hlq1, hlq2, hsqe, hap]
      refine loopK_next _ ?hm ?hf ⟨v6, q + 1, L ++ [[(r4 : Int), (sq : Int)]], rfl, (by simp (disch := first | omega | (simp; done) | fail) [wrap64c, if_pos, if_neg, opAnd, opOr, opXor, opDiff, opShr, opBit, e1n, hu2, z0', z1', e0, e4, e5, e8, e9, ntv, hlq1, hlq2, hsqe] <;> omega), (by simp; omega), (by simp; omega), ((d5.app hA hbo.2 k6 (by omega) (fun p h1 h2 => s6 p h1 (by omega))).mono (by omega)), hi6, ?c_hp, (by rw [s6 _ (by omega) (by omega)]; exact hg5), (by omega)⟩
      (case hm => first | omega | (simp; omega))
      (case hf => simp [FrameL, e1n, hu2, z0', z1', e0, e4, e5, e8, e9, ntv, hlq1, hlq2, hsqe, f0_0, f4_0, f5_0])
      case c_hp =>
        exact (fun x hx => by
          rcases List.mem_append.1 hx with hx | hx
          · exact hp x hx
          · simp at hx
            exact ⟨r4, sq, hx, by omega, by omega⟩)
    · have hok := ord_up hn1 hn7 (show L.length ≤ 40 by omega) hp
      have hgd := ord_good hn1 hn7 hp
      have eN : ordN n L = (n : Int) := by rw [ordN, if_pos hok]
      have eX : ordX n L = toN (ordL n L) := by rw [ordX, if_pos hok]; rfl
      obtain ⟨_, h4, p4, a4, u4, rfl, hu4⟩ := specOrder_ok h' pv L n ((hi.own (by omega)).rows)
      rw [eN, eX] at hu4
      rw [hok] at p4
      obtain ⟨b, rfl, hb4⟩ := hu4
      have d4 := hd.trans (DrW.of_adds hd.add hd.cur a4)
      have n4 := a4.1.1
      have ntb := hb4.nt
      have csb := hb4.cs
      have hne4 : ¬ h.next = h4.next := by omega
      have hg4 : h4.get h.next = .cells [.int .i64 0, .slice none 0 0] true true 1 := by rw [a4.1.2 _ (by omega)]; exact hg
      have hcnd : ¬ (0 < (r3 : Int) - ((q : Nat) : Int) ∧ 1 < (n : Int)) := by omega
      obtain ⟨hz, hzE⟩ : ∃ hz, hz = (h4.alloc (.cells [.int .i64 0, .slice none 0 0] true true 1)).put h4.next (.cells [.int .i64 (n : Int), b] true true 1) := ⟨_, rfl⟩
      have kz : Adds h4 hz := by rw [hzE]; exact (by first | exact aK | exact kK)
      have hI : IntsF (fun x => h.next < x) hz b (toN (ordL n L)) := ((hb4.read).sub fun x hx => by have := hx.1; omega).keep kz.1
      obtain ⟨f1, f2⟩ := fin_space hA hbo.2 (d4.trans (DrW.of_adds d4.add d4.cur kz)) hI (show k + 6 + 4 * q ≤ k + 200 by omega) [.int .i64 (n : Int), b] true 1
      have hOL : ordL n L ≠ [] := fun e => by have := hgd.zero; rw [e] at this; cases this
      by_cases hq3 : q < r3
      · have hq3' : 0 < (r3 : Int) - ((q : Nat) : Int) := by omega
        have hq4' : ¬ 1 < (n : Int) := by omega
        try simp (disch := first | omega | (simp; done) | fail) [wrap64c, if_pos, if_neg, opAnd, opOr, opXor, opDiff, opShr, opBit, e1n, hu2, z0', z1', e0, e4, e5, e8, e9, ntv, ntb, csb, hne4, hg4, hq3', hq4']
        refine callG_c (by simp) (by simp) ?ha (p4) ?_
        (case ha => simp (disch := first | omega | (simp; done) | fail) [wrap64c, if_pos, if_neg, opAnd, opOr, opXor, opDiff, opShr, opBit, e1n, hu2, z0', z1', e0, e4, e5, e8, e9, ntv, ntb, csb, hne4, hg4, hq3', hq4'])
        try simp (disch := first | omega | (simp; done) | fail) [wrap64c, if_pos, if_neg, opAnd, opOr, opXor, opDiff, opShr, opBit, e1n, hu2, z0', z1', e0, e4, e5, e8, e9, ntv, ntb, csb, hne4, hg4, hq3', hq4']
        rw [← hzE]
        exact done_ret (vs := [.agg #[.int .i64 (n : Int), b]]) (by simp [resL, e4]) ⟨f1, n, b, _, rfl, f2, hn1, by omega, ⟨hgd.srt, hgd.lt⟩, hOL⟩
      · have hq3' : ¬ 0 < (r3 : Int) - ((q : Nat) : Int) := by omega
        try simp (disch := first | omega | (simp; done) | fail) [wrap64c, if_pos, if_neg, opAnd, opOr, opXor, opDiff, opShr, opBit, e1n, hu2, z0', z1', e0, e4, e5, e8, e9, ntv, ntb, csb, hne4, hg4, hq3']
        refine callG_c (by simp) (by simp) ?ha (p4) ?_
        (case ha => simp (disch := first | omega | (simp; done) | fail) [wrap64c, if_pos, if_neg, opAnd, opOr, opXor, opDiff, opShr, opBit, e1n, hu2, z0', z1', e0, e4, e5, e8, e9, ntv, ntb, csb, hne4, hg4, hq3'])
        try simp (disch := first | omega | (simp; done) | fail) [wrap64c, if_pos, if_neg, opAnd, opOr, opXor, opDiff, opShr, opBit, e1n, hu2, z0', z1', e0, e4, e5, e8, e9, ntv, ntb, csb, hne4, hg4, hq3']
        rw [← hzE]
        exact done_ret (vs := [.agg #[.int .i64 (n : Int), b]]) (by simp [resL, e4]) ⟨f1, n, b, _, rfl, f2, hn1, by omega, ⟨hgd.srt, hgd.lt⟩, hOL⟩
  have z2' : ¬ (r2 : Int) = 2 := by omega
  try simp (disch := first | omega | (simp; done) | fail) [wrap64c, if_pos, if_neg, opAnd, opOr, opXor, opDiff, opShr, opBit, e1n, hu2, z0', z1', z2']
  first | refine WY_heap fun h3 q_h3 => ?_ | refine callG_heap fun h3 q_h3 => ?_ | refine callP_heap fun h3 q_h3 => ?_ | refine callS_heap fun h3 q_h3 => ?_ | refine RY_heap fun h3 q_h3 => ?_ | refine PY_heap fun h3 q_h3 => ?_ | refine SY_heap fun h3 q_h3 => ?_ | refine doneY_heap fun h3 q_h3 => ?_ | refine loopK_heap fun h3 q_h3 => ?_ | refine thenY_heap fun h3 q_h3 => ?_ | refine thenM_heap fun h3 q_h3 => ?_
  have k3 : Adds h2 h3 := by rw [q_h3]; exact (by first | exact aK | exact kK)
  have n3 : h3.next = h2.next + 1 := by simp [q_h3]
  have d3 := d2.trans (DrW.of_adds d2.add d2.cur k3)
  have i3 : IntsA h2.next h3 (.slice (some ⟨h2.next, 0, none⟩) 1 1) (toN [0]) := .inr ⟨h2.next, true, rfl, Nat.le_refl _, by omega, by simp [q_h3, toN]⟩
  obtain ⟨v4, h4, p4, r4, q4, l4, w4⟩ := pick_ok hB.next o (k + 2 + 2) h3 3 d3.cur (by omega)
  subst q4
  have hr4 := l4 (by omega)
  have d4 := d3.trans (w4.dr d3.add d3.cur)
  have n4 := w4.nx
  have i4 : IntsA h2.next h4 (.slice (some ⟨h2.next, 0, none⟩) 1 1) (toN [0]) := ints_cur i3 (by omega) (fun p h1 h2 => w4.get p h2 (by omega))
  have gr4 : h4.get h.next = .cells [.int .i64 0, .slice none 0 0] true true 1 := by rw [w4.get _ (by omega) (by omega), k3.1.2 _ (by omega)]; exact gr2
  have ini : ∀ a ∈ [0], a < bit n := fun a ha => by simp at ha; omega
  refine callG_c (by simp) (by simp) ?ha (p4) ?_
  (case ha => simp (disch := first | omega | (simp; done) | fail) [wrap64c, if_pos, if_neg, opAnd, opOr, opXor, opDiff, opShr, opBit, e1n, hu2, z0', z1', z2'])
  try simp (disch := first | omega | (simp; done) | fail) [wrap64c, if_pos, if_neg, opAnd, opOr, opXor, opDiff, opShr, opBit, e1n, hu2, z0', z1', z2']
  refine WD_loopC [0, 4, 5] (fun m tm h' => ∃ sv q S, m = 1 + r4 - q ∧ tm 13 = sv ∧ tm 14 = .int .i64 (1 + (r4 : Int) - ((q : Nat) : Int)) ∧ (q ≤ 1 + r4) ∧ (DrW hB o (k + 6 + 14 * q) h h') ∧ (IntsA h2.next h' sv (toN S)) ∧ (∀ a ∈ S, a < bit n) ∧ (S.length ≤ 1 + 128 * q) ∧ (h'.get h.next = .cells [.int .i64 0, .slice none 0 0] true true 1) ∧ (h2.next ≤ h'.next)) _ ⟨_, 0, [0], rfl, (by simp (disch := first | omega | (simp; done) | fail) [wrap64c, if_pos, if_neg, opAnd, opOr, opXor, opDiff, opShr, opBit, e1n, hu2, z0', z1', z2']), (by simp), (by first | omega | assumption | (simp (disch := first | omega | (simp; done) | fail) [wrap64c, if_pos, if_neg, opAnd, opOr, opXor, opDiff, opShr, opBit, e1n, hu2, z0', z1', z2'] <;> omega)), d4, i4, ini, (by simp), gr4, (by first | omega | assumption | (simp (disch := first | omega | (simp; done) | fail) [wrap64c, if_pos, if_neg, opAnd, opOr, opXor, opDiff, opShr, opBit, e1n, hu2, z0', z1', z2'] <;> omega))⟩ ?_
  rintro m tm h' hFr ⟨sv, q, S, rfl, e13, e14, hq, hd, hi, hS, hl, hg, hnx⟩
  simp only [FrameL] at hFr
  obtain ⟨f0_1, f4_1, f5_1, -⟩ := hFr
  try simp (disch := first | omega | (simp; done) | fail) [wrap64c, if_pos, if_neg, opAnd, opOr, opXor, opDiff, opShr, opBit, e1n, hu2, z0', z1', z2'] at f0_1 f4_1 f5_1
  have e0 := f0_1
  have e4 := f4_1
  have e5 := f5_1
  have hk4 : q ≤ 3 := by omega
  by_cases hlq : q < 1 + r4
  · have hlq1 : 0 < 1 + (r4 : Int) - ((q : Nat) : Int) := by omega
    obtain ⟨v5, h5, p5, d5, l5, i5, ll5, lx5, _⟩ := order_ok hB h' o (k + 6 + 14 * q) n hd.add hd.cur (by omega) (by omega)
    have n5 := d5.nx
    obtain ⟨v6, h6, p6, a6, L6, i6, hL6, _⟩ := spChain_ok h5 v5 l5 n ((i5.own (by simp; omega)).ints) lx5 hn7 (by omega)
    have n6 := a6.1.1
    have lL6 := hL6.len
    have dq := hd.trans d5
    have d6 := dq.trans (DrW.of_adds dq.add dq.cur a6)
    have hi6 : IntsA h2.next h6 sv (toN S) := ints_cur hi (by omega) (fun p h1 h2 => by rw [a6.1.2 p (by omega)]; exact d5.sm p h2 (by omega))
    have hg6 : h6.get h.next = .cells [.int .i64 0, .slice none 0 0] true true 1 := by rw [a6.1.2 _ (by omega), d5.sm _ (by omega) (by omega)]; exact hg
    obtain ⟨v7, h7, hap, i7, k7, n7, s7⟩ := append_ints (P := Try.prog) (t := 24) (t' := 24) hi6 ((i6.own (by simp; omega)).ints) ty_elT_24 ty_szT_3 ty_zeroT_3 ty_byT_3 (by decide) (by decide) (by simp) (by simp; omega) (by omega) d6.add (by have := hA.1.1; omega)
    rw [← toN_append] at i7
    try simp (disch := first | omega | (simp; done) | fail) [wrap64c, if_pos, if_neg, opAnd, opOr, opXor, opDiff, opShr, opBit, e1n, hu2, z0', z1', z2', e0, e4, e5, e13, e14, hlq1]
    refine callG_c (by simp) (by simp) ?ha (p5) ?_
    (case ha => simp (disch := first | omega | (simp; done) | fail) [wrap64c, if_pos, if_neg, opAnd, opOr, opXor, opDiff, opShr, opBit, e1n, hu2, z0', z1', z2', e0, e4, e5, e13, e14, hlq1])
    try simp (disch := first | omega | (simp; done) | fail) [wrap64c, if_pos, if_neg, opAnd, opOr, opXor, opDiff, opShr, opBit, e1n, hu2, z0', z1', z2', e0, e4, e5, e13, e14, hlq1]
    refine callG_c (by simp) (by simp) ?ha (p6) ?_
    (case ha => simp (disch := first | omega | (simp; done) | fail) [wrap64c, if_pos, if_neg, opAnd, opOr, opXor, opDiff, opShr, opBit, e1n, hu2, z0', z1', z2', e0, e4, e5, e13, e14, hlq1])
    try simp (disch := first | omega | (simp; done) | fail) [wrap64c, if_pos, if_neg, opAnd, opOr, opXor, opDiff, opShr, opBit, e1n, hu2, z0', z1', z2', e0, e4, e5, e13, e14, hlq1, hap]
    refine loopK_next _ ?hm ?hf ⟨v7, q + 1, S ++ L6, rfl, (by simp (disch := first | omega | (simp; done) | fail) [wrap64c, if_pos, if_neg, opAnd, opOr, opXor, opDiff, opShr, opBit, e1n, hu2, z0', z1', z2', e0, e4, e5, e13, e14, hlq1] <;> omega), (by simp; omega), (by first | omega | assumption | (simp (disch := first | omega | (simp; done) | fail) [wrap64c, if_pos, if_neg, opAnd, opOr, opXor, opDiff, opShr, opBit, e1n, hu2, z0', z1', z2', e0, e4, e5, e13, e14, hlq1] <;> omega)), ((d6.app hA hbo.2 k7 (by omega) (fun p h1 h2 => s7 p h1 (by omega))).mono (by omega)), i7, ?c_hS, (by simp; omega), (by rw [s7 _ (by omega) (by omega)]; exact hg6), (by omega)⟩
    (case hm => first | omega | (simp; omega))
    (case hf => simp [FrameL, e1n, hu2, z0', z1', z2', e0, e4, e5, e13, e14, hlq1, f0_1, f4_1, f5_1])
    case c_hS =>
      exact (fun a ha => by
        rcases List.mem_append.1 ha with ha | ha
        · exact hS a ha
        · exact hL6.2 a ha)
  · have hlq1 : ¬ 0 < 1 + (r4 : Int) - ((q : Nat) : Int) := by omega
    obtain ⟨b, h5, p5, a5, L, i5, hL, h0⟩ := spUnions_ok h' sv S n ((hi.own (by simp; omega)).ints) hS hn7 (by omega)
    have d5 := hd.trans (DrW.of_adds hd.add hd.cur a5)
    have n5 := a5.1.1
    have lL := hL.len
    have ntb := i5.nt
    have csb := (i5.own (by simp; omega)).ints.cs
    have hg5 : h5.get h.next = .cells [.int .i64 0, .slice none 0 0] true true 1 := by rw [a5.1.2 _ (by omega)]; exact hg
    have hI : IntsF (fun x => h.next < x) h5 b (toN L) := ((i5.own (by simp; omega)).read).sub fun x hx => by have := hx.1; omega
    obtain ⟨f1, f2⟩ := fin_space hA hbo.2 d5 hI (show k + 6 + 14 * q ≤ k + 200 by omega) [.int .i64 (n : Int), b] true 1
    try simp (disch := first | omega | (simp; done) | fail) [wrap64c, if_pos, if_neg, opAnd, opOr, opXor, opDiff, opShr, opBit, e1n, hu2, z0', z1', z2', e0, e4, e5, e13, e14, hlq1, ntb, csb, hg5]
    refine callG_c (by simp) (by simp) ?ha (p5) ?_
    (case ha => simp (disch := first | omega | (simp; done) | fail) [wrap64c, if_pos, if_neg, opAnd, opOr, opXor, opDiff, opShr, opBit, e1n, hu2, z0', z1', z2', e0, e4, e5, e13, e14, hlq1, ntb, csb, hg5])
    try simp (disch := first | omega | (simp; done) | fail) [wrap64c, if_pos, if_neg, opAnd, opOr, opXor, opDiff, opShr, opBit, e1n, hu2, z0', z1', z2', e0, e4, e5, e13, e14, hlq1, ntb, csb, hg5]
    exact done_ret (vs := [.agg #[.int .i64 (n : Int), b]]) (by simp [resL, e4]) ⟨f1, n, b, _, rfl, f2, hn1, by omega, hL, fun e => by rw [e] at h0; cases h0⟩
end Go.Proofs.Ytnncipcldbopgaa
namespace Go.Proofs.Ytnncipcldbopgaa
set_option linter.unusedSimpArgs false
set_option linter.unusedVariables false
set_option maxHeartbeats 4000000
open Go Go.Eng
attribute [local irreducible] WD RunD PreD Runs CallOK
theorem putI {ys : List Int} {j : Nat} (hj : j < ys.length) (x : Int) : putCells (ys.map (.int .i64)) j [.int .i64 x] = (ys.set j x).map (.int .i64) := by
  rw [putCells_one (by simpa using hj), List.map_set]
theorem fin_spaceI {hB h hh : Hp} {o K k' : Nat} {b : Value} {X : List Int} (hA : Adds hB h) (ho : o < h.next) (d : DrW hB o K h hh) (hi : IntsF (fun x => h.next < x) hh b X) (hK : K ≤ k') (cs : List Value) (e : Bool) (es : Nat) :
    DrW hB o k' h (hh.put h.next (.cells cs true e es)) ∧ IntsF (fun x => h.next < x) (hh.put h.next (.cells cs true e es)) b X :=
  ⟨(d.put hA ho (Nat.le_refl _) _ _ _).mono hK, hi.same (h := hh) (h' := hh.put h.next _) ⟨Nat.le_refl _, fun x hx _ => by simp [show x ≠ h.next by omega]⟩⟩
theorem subF {F : Nat → Prop} {h : Hp} {o : Nat} {xs : List Int} {own ex : Bool} {es : Nat} (hg : h.get o = .cells (xs.map (.int .i64)) own ex es) (ho : o < h.next) (hF : F o) {n c : Nat} (hi : n ≤ xs.length) (hc : n ≤ c) (hc2 : c < 2 ^ 63) : IntsF F h (.slice (some ⟨o, 0, none⟩) n c) (xs.take n) := by
  have hl : (xs.take n).length = n := by simp; omega
  refine ⟨some ⟨o, 0, none⟩, c, by rw [hl], by omega, hc2, fun k x hk => ?_⟩
  obtain ⟨q1, q2⟩ := List.getElem?_eq_some_iff.1 hk
  rw [hl] at q1
  subst q2
  refine ⟨o, 0, _, own, ex, es, rfl, hF, ho, hg, by simp; omega, ?_⟩
  have : k < xs.length := by omega
  simp [isInt, List.getD_eq_getElem?_getD, this]
theorem del_ok {h : Hp} {o r ln : Nat} {xs : List Int} {ex : Bool} (hg : h.get o = .cells (xs.map (.int .i64)) true ex 1) (ho : o < h.next) (hl : xs.length = ln) (hr : r < ln) (hs : ln ≤ 1000) :
    ∃ (h' : Hp) (zs : List Int), appendD Try.prog 24 24 (.slice (some ⟨o, 0, none⟩) r ln) (.slice (some ⟨o, r + 1, none⟩) (ln - (r + 1)) (ln - (r + 1))) h = some (.slice (some ⟨o, 0, none⟩) (ln - 1) ln, h') ∧ h'.next = h.next ∧ (∀ p, p ≠ o → h'.get p = h.get p) ∧ h'.get o = .cells (zs.map (.int .i64)) true ex 1 ∧ zs.length = ln ∧ (∀ a, Adds a h → a.next ≤ o → Adds a h') := by
  have hI := subI hg ho (i := r + 1) (n := ln - (r + 1)) (c := ln - (r + 1)) (by omega) (Nat.le_refl _) (by omega)
  have hsrc := hI.src
  have hlen : ((xs.drop (r + 1)).take (ln - (r + 1))).length = ln - (r + 1) := by simp; omega
  by_cases hz : ln - (r + 1) = 0
  · refine ⟨h, xs, ?_, rfl, fun _ _ => rfl, hg, hl, fun _ a _ => a⟩
    have hr1 : r = ln - 1 := by omega
    simp only [appendD, ty_elT_24, ty_szT_3, ty_zeroT_3, ty_byT_3, hsrc, hlen, hz]
    subst hr1
    simp [Value.cells, hg, hl, show ln - 1 + 1 = ln by omega]
  · refine ⟨h.put o (.cells (putCells (xs.map (.int .i64)) r (((xs.drop (r + 1)).take (ln - (r + 1))).map (.int .i64))) true ex 1), xs.take r ++ ((xs.drop (r + 1)).take (ln - (r + 1)) ++ xs.drop (r + (ln - (r + 1)))), ?_, rfl, fun p hp => by simp [hp], ?_, ?_, fun a ha hle => ha.put hle (fun _ => rfl)⟩
    · simp only [appendD, ty_elT_24, ty_szT_3, ty_zeroT_3, ty_byT_3, hsrc, hlen, hg]
      simp [Value.cells, hz, hl, show r + (ln - (r + 1)) ≤ ln by omega, show r + (ln - (r + 1)) = ln - 1 by omega]
    · simp [putCells, hlen, hl]
    · simp [hl]; omega
theorem space_ok (hB h : Hp) (o k : Nat) (most : Int) (hA : Adds hB h) (hc : CurS hB.next o k h) (hk : k + 3000 < 2 ^ 40) (hm : 1 ≤ most ∧ most ≤ 7) :
    ∃ v h', CallOK Try.prog 174 #[.pointer (some ⟨o, 0, none⟩), .int .i64 most] h v h' ∧ DrW hB o (k + 300) h h' ∧ ∃ N X, SpaceF (fun x => h.next < x) h' v N X ∧ X.length ≤ 128 := by
  have hbo := hc.bo
  refine callY_L (args := [.pointer (some ⟨o, 0, none⟩), .int .i64 most]) 59 _ [.cell 4 26] Try.func174 rfl rfl rfl ?_
  try simp (disch := first | omega | (simp; done) | fail) [wrap64c, if_pos, if_neg, opAnd, opOr, opXor, opDiff, opShr, opBit]
  first | refine WY_heap fun h0 q_h0 => ?_ | refine callG_heap fun h0 q_h0 => ?_ | refine callP_heap fun h0 q_h0 => ?_ | refine callS_heap fun h0 q_h0 => ?_ | refine RY_heap fun h0 q_h0 => ?_ | refine PY_heap fun h0 q_h0 => ?_ | refine SY_heap fun h0 q_h0 => ?_ | refine doneY_heap fun h0 q_h0 => ?_ | refine loopK_heap fun h0 q_h0 => ?_ | refine thenY_heap fun h0 q_h0 => ?_ | refine thenM_heap fun h0 q_h0 => ?_
  have k0 : Adds h h0 := by rw [q_h0]; exact (by first | exact aK | exact kK)
  have n0 : h0.next = h.next + 1 := by simp [q_h0]
  have d0 := DrW.of_adds hA hc k0
  have gr0 : h0.get h.next = .cells [.int .i64 0, .slice none 0 0] true true 1 := by simp [q_h0]
  obtain ⟨_, h1, p1, d1, n, b, L, rfl, i1, hn1, hnm, hL, hne⟩ := sureSpace_ok hB h0 o k most d0.add d0.cur (by omega) hm
  have hn7 : n ≤ 7 := by omega
  have hb7 := bit7 hn7
  have lL := hL.len
  have n1 := d1.nx
  have gr1 : h1.get h.next = .cells [.int .i64 0, .slice none 0 0] true true 1 := by rw [d1.sm _ (by omega) (by omega)]; exact gr0
  have d01 := d0.trans d1
  have ntb := i1.ints.nt
  have csb := i1.ints.cs
  have hu2 : ∀ a b c d : Value, putCells [a, b] 0 [c, d] = [c, d] := fun _ _ _ _ => rfl
  have hu1 : ∀ a b c : Value, putCells [a, b] 0 [c] = [c, b] := fun _ _ _ => rfl
  have hu1' : ∀ a b c : Value, putCells [a, b] 1 [c] = [a, c] := fun _ _ _ => rfl
  refine callG_c (by simp) (by simp) ?ha (p1) ?_
  (case ha => simp (disch := first | omega | (simp; done) | fail) [wrap64c, if_pos, if_neg, opAnd, opOr, opXor, opDiff, opShr, opBit, ntb, csb, hu2, hu1, hu1'])
  try simp (disch := first | omega | (simp; done) | fail) [wrap64c, if_pos, if_neg, opAnd, opOr, opXor, opDiff, opShr, opBit, ntb, csb, hu2, hu1, hu1']
  first | refine WY_heap fun h2 q_h2 => ?_ | refine callG_heap fun h2 q_h2 => ?_ | refine callP_heap fun h2 q_h2 => ?_ | refine callS_heap fun h2 q_h2 => ?_ | refine RY_heap fun h2 q_h2 => ?_ | refine PY_heap fun h2 q_h2 => ?_ | refine SY_heap fun h2 q_h2 => ?_ | refine doneY_heap fun h2 q_h2 => ?_ | refine loopK_heap fun h2 q_h2 => ?_ | refine thenY_heap fun h2 q_h2 => ?_ | refine thenM_heap fun h2 q_h2 => ?_
  have k2 : Adds h1 h2 := by rw [q_h2]; exact (by first | exact aK | exact kK)
  have n2 : h2.next = h1.next + 1 := by simp [q_h2]
  have d2 := d01.trans (DrW.of_adds d01.add d01.cur k2)
  have gs2 : h2.get h1.next = .cells [.int .i64 (n : Int), b] true true 1 := by simp [q_h2]
  have gr2 : h2.get h.next = .cells [.int .i64 0, .slice none 0 0] true true 1 := by rw [k2.1.2 _ (by omega)]; exact gr1
  obtain ⟨c, h3, p3, a3, _, i3⟩ := l1Own_ok h2 b (toN L) (i1.ints.keep k2.1) (by simp; omega)
  have n3 := a3.1.1
  have d3 := d2.trans (DrW.of_adds d2.add d2.cur a3)
  have gs3 : h3.get h1.next = .cells [.int .i64 (n : Int), b] true true 1 := by rw [a3.1.2 _ (by omega)]; exact gs2
  have gr3 : h3.get h.next = .cells [.int .i64 0, .slice none 0 0] true true 1 := by rw [a3.1.2 _ (by omega)]; exact gr2
  obtain ⟨ln, hln⟩ : ∃ l, l = L.length := ⟨_, rfl⟩
  have ln1 : 1 ≤ ln := by rw [hln]; exact List.length_pos_iff.2 hne
  have hlt : (toN L).length = ln := by rw [toN_length, hln]
  rcases i3 with ⟨y1, _⟩ | ⟨oq, eq_, y2, z1, z2, z3⟩
  · rw [y1] at hlt; simp at hlt; omega
  rw [hlt] at y2
  subst y2
  try simp (disch := first | omega | (simp; done) | fail) [wrap64c, if_pos, if_neg, opAnd, opOr, opXor, opDiff, opShr, opBit, ntb, csb, hu2, hu1, hu1', gs2, gs3]
  refine WD_drawC 5 rfl (by kernel_rfl) ?_
  try simp (disch := first | omega | (simp; done) | fail) [wrap64c, if_pos, if_neg, opAnd, opOr, opXor, opDiff, opShr, opBit, ntb, csb, hu2, hu1, hu1', gs2, gs3]
  refine callP_c (by simp) (by simp) ?ha (p3) ?hadd ?_
  (case ha => simp (disch := first | omega | (simp; done) | fail) [wrap64c, if_pos, if_neg, opAnd, opOr, opXor, opDiff, opShr, opBit, ntb, csb, hu2, hu1, hu1', gs2, gs3])
  (case hadd => first | assumption | exact adds_self _ | (simp; done))
  try simp (disch := first | omega | (simp; done) | fail) [wrap64c, if_pos, if_neg, opAnd, opOr, opXor, opDiff, opShr, opBit, ntb, csb, hu2, hu1, hu1', gs2, gs3]
  obtain ⟨h4, h4E⟩ : ∃ hz, hz = h3.put h1.next (.cells [.int .i64 (n : Int), .slice (some ⟨oq, 0, none⟩) ln ln] true true 1) := ⟨_, rfl⟩
  have d4 : DrW hB o (k + 200) h h4 := by rw [h4E]; exact d3.put hA hbo.2 (by omega) _ _ _
  have n4 : h4.next = h3.next := by rw [h4E]; rfl
  rw [← h4E]
  obtain ⟨v5, h5, p5, r5, q5, l5, w5⟩ := pick_ok hB.next o (k + 200) h4 20 d4.cur (by omega)
  subst q5
  have hr5 := l5 (by omega)
  have d5 := d4.trans (w5.dr d4.add d4.cur)
  have n5 := w5.nx
  have gs5 : h5.get h1.next = .cells [.int .i64 (n : Int), .slice (some ⟨oq, 0, none⟩) ln ln] true true 1 := by rw [w5.get _ (by omega) (by omega), h4E]; simp
  have z5 : h5.get oq = .cells ((toN L).map (.int .i64)) true eq_ 1 := by rw [w5.get _ (by omega) (by omega), h4E]; simp [show oq ≠ h1.next by omega, z3]
  have gr5 : h5.get h.next = .cells [.int .i64 0, .slice none 0 0] true true 1 := by rw [w5.get _ (by omega) (by omega), h4E]; simp [show h.next ≠ h1.next by omega, gr3]
  have hne1 : ¬ h.next = h1.next := by omega
  have hne2 : ¬ h1.next = oq := by omega
  have hne3 : ¬ h.next = oq := by omega
  refine callG_c (by simp) (by simp) ?ha (p5) ?_
  (case ha => simp (disch := first | omega | (simp; done) | fail) [wrap64c, if_pos, if_neg, opAnd, opOr, opXor, opDiff, opShr, opBit, ntb, csb, hu2, hu1, hu1', gs2, gs3, gs5, hne1, hne2, hne3])
  by_cases c0 : r5 = 0
  · subst c0
    obtain ⟨hl6, hl6E⟩ : ∃ hz, hz = h5.alloc (.cells [.int .i64 0, .int .i64 (-1), .int .i64 ((n : Int) + 1), .int .i64 8, .int .i64 4611686018427387904] true true 1) := ⟨_, rfl⟩
    have k6 : Adds h5 hl6 := by rw [hl6E]; exact (by first | exact aK | exact kK)
    have n6 : hl6.next = h5.next + 1 := by rw [hl6E]; rfl
    have d6 := d5.trans (DrW.of_adds d5.add d5.cur k6)
    have i6 : IntsF (fun x => x ≠ o) hl6 (.slice (some ⟨h5.next, 0, none⟩) 5 5) [0, -1, (n : Int) + 1, 8, 4611686018427387904] := lit_ints (xs := [0, -1, (n : Int) + 1, 8, 4611686018427387904]) (own := true) (ex := true) (es := 1) (by simp [hl6E]) (by omega) (by omega) (by simp)
    obtain ⟨v7, h7, p7, r7, q7, e7_, w7⟩ := among_ok hB.next o (k + 200 + 2) hl6 _ _ d6.cur (by omega) i6 (by simp)
    subst e7_
    generalize hx7 : [0, -1, (n : Int) + 1, 8, 4611686018427387904][r7] = x7 at p7
    have d7 := d6.trans (w7.dr d6.add d6.cur)
    have n7 := w7.nx
    have gs7 : h7.get h1.next = .cells [.int .i64 (n : Int), .slice (some ⟨oq, 0, none⟩) ln ln] true true 1 := by rw [w7.get _ (by omega) (by omega), k6.1.2 _ (by omega)]; exact gs5
    have gr7 : h7.get h.next = .cells [.int .i64 0, .slice none 0 0] true true 1 := by rw [w7.get _ (by omega) (by omega), k6.1.2 _ (by omega)]; exact gr5
    have z7 : h7.get oq = .cells ((toN L).map (.int .i64)) true eq_ 1 := by rw [w7.get _ (by omega) (by omega), k6.1.2 _ (by omega)]; exact z5
    try simp (disch := first | omega | (simp; done) | fail) [wrap64c, if_pos, if_neg, opAnd, opOr, opXor, opDiff, opShr, opBit, ntb, csb, hu2, hu1, hu1', gs2, gs3, gs5, hne1, hne2, hne3, gs7, gr7]
    rw [← hl6E]
    refine callG_c (by simp) (by simp) ?ha (p7) ?_
    (case ha => simp (disch := first | omega | (simp; done) | fail) [wrap64c, if_pos, if_neg, opAnd, opOr, opXor, opDiff, opShr, opBit, ntb, csb, hu2, hu1, hu1', gs2, gs3, gs5, hne1, hne2, hne3, gs7, gr7])
    try simp (disch := first | omega | (simp; done) | fail) [wrap64c, if_pos, if_neg, opAnd, opOr, opXor, opDiff, opShr, opBit, ntb, csb, hu2, hu1, hu1', gs2, gs3, gs5, hne1, hne2, hne3, gs7, gr7]
    have d8 := d7.put hA hbo.2 (show h.next ≤ h1.next by omega) [.int .i64 x7, .slice (some ⟨oq, 0, none⟩) ln ln] true 1
    have hI := subF (F := fun x => h.next < x) (h := h7.put h1.next (.cells [.int .i64 x7, .slice (some ⟨oq, 0, none⟩) ln ln] true true 1)) (o := oq) (xs := toN L) (own := true) (ex := eq_) (es := 1) (by simp [show oq ≠ h1.next by omega, z7]) (by simp; omega) (by omega) (n := ln) (c := ln) (by omega) (Nat.le_refl _) (by omega)
    obtain ⟨f1, f2⟩ := fin_spaceI hA hbo.2 d8 hI (show k + 200 + 2 + 2 ≤ k + 300 by omega) [.int .i64 x7, .slice (some ⟨oq, 0, none⟩) ln ln] true 1
    exact done_ret (vs := [.agg #[.int .i64 x7, .slice (some ⟨oq, 0, none⟩) ln ln]]) (by simp [resL]) ⟨f1, _, _, ⟨_, rfl, f2⟩, by simp; omega⟩
  have c0' : ¬ (r5 : Int) = 0 := by omega
  by_cases c1 : r5 = 1
  · subst c1
    obtain ⟨v6, h6, p6, r6, q6, l6, w6⟩ := pick_ok hB.next o (k + 200 + 2) h5 (ln : Int) d5.cur (by omega)
    subst q6
    have hr6 := l6 (by omega)
    have hr6' : r6 + 1 ≤ ln := by omega
    have d6 := d5.trans (w6.dr d5.add d5.cur)
    have n6 := w6.nx
    have gs6 : h6.get h1.next = .cells [.int .i64 (n : Int), .slice (some ⟨oq, 0, none⟩) ln ln] true true 1 := by rw [w6.get _ (by omega) (by omega)]; exact gs5
    have gr6 : h6.get h.next = .cells [.int .i64 0, .slice none 0 0] true true 1 := by rw [w6.get _ (by omega) (by omega)]; exact gr5
    have z6 : h6.get oq = .cells ((toN L).map (.int .i64)) true eq_ 1 := by rw [w6.get _ (by omega) (by omega)]; exact z5
    obtain ⟨h7, zs, hap, n7, s7, z7, lz7, ad7⟩ := del_ok z6 (by omega) hlt (show r6 < ln by omega) (by omega)
    have d7 : DrW hB o (k + 200 + 2 + 2) h h7 := ⟨ad7 _ d6.add (by have := hA.1.1; omega), by have := d6.nx; omega, fun p hp hne => by rw [s7 p (by omega)]; exact d6.sm p hp hne, d6.cur.same ⟨by omega, fun p hp hl => s7 p (by rcases hp with hp | hp <;> omega)⟩⟩
    have gs7 : h7.get h1.next = .cells [.int .i64 (n : Int), .slice (some ⟨oq, 0, none⟩) ln ln] true true 1 := by rw [s7 _ (by omega)]; exact gs6
    have gr7 : h7.get h.next = .cells [.int .i64 0, .slice none 0 0] true true 1 := by rw [s7 _ (by omega)]; exact gr6
    try simp (disch := first | omega | (simp; done) | fail) [wrap64c, if_pos, if_neg, opAnd, opOr, opXor, opDiff, opShr, opBit, ntb, csb, hu2, hu1, hu1', gs2, gs3, gs5, hne1, hne2, hne3, c0', hr6', gs6, gs7, gr7]
    refine callG_c (by simp) (by simp) ?ha (p6) ?_
    (case ha => simp (disch := first | omega | (simp; done) | fail) [wrap64c, if_pos, if_neg, opAnd, opOr, opXor, opDiff, opShr, opBit, ntb, csb, hu2, hu1, hu1', gs2, gs3, gs5, hne1, hne2, hne3, c0', hr6', gs6, gs7, gr7])
    try simp (disch := first | omega | (simp; done) | fail) [wrap64c, if_pos, if_neg, opAnd, opOr, opXor, opDiff, opShr, opBit, ntb, csb, hu2, hu1, hu1', gs2, gs3, gs5, hne1, hne2, hne3, c0', hr6', gs6, gs7, gr7]
    refine WD_drawC 9 rfl (by kernel_rfl) ?_
    try simp (disch := first | omega | (simp; done) | fail) [wrap64c, if_pos, if_neg, opAnd, opOr, opXor, opDiff, opShr, opBit, ntb, csb, hu2, hu1, hu1', gs2, gs3, gs5, hne1, hne2, hne3, c0', hr6', gs6, gs7, gr7, hap]
    have d8 := d7.put hA hbo.2 (show h.next ≤ h1.next by omega) [.int .i64 (n : Int), .slice (some ⟨oq, 0, none⟩) (ln - 1) ln] true 1
    have hI := subF (F := fun x => h.next < x) (h := h7.put h1.next (.cells [.int .i64 (n : Int), .slice (some ⟨oq, 0, none⟩) (ln - 1) ln] true true 1)) (o := oq) (xs := zs) (own := true) (ex := eq_) (es := 1) (by simp [show oq ≠ h1.next by omega, z7]) (by simp; omega) (by omega) (n := ln - 1) (c := ln) (by omega) (by omega) (by omega)
    obtain ⟨f1, f2⟩ := fin_spaceI hA hbo.2 d8 hI (show k + 200 + 2 + 2 ≤ k + 300 by omega) [.int .i64 (n : Int), .slice (some ⟨oq, 0, none⟩) (ln - 1) ln] true 1
    exact done_ret (vs := [.agg #[.int .i64 (n : Int), .slice (some ⟨oq, 0, none⟩) (ln - 1) ln]]) (by simp [resL]) ⟨f1, _, _, ⟨_, rfl, f2⟩, by simp; omega⟩
  have c1' : ¬ (r5 : Int) = 1 := by omega
  by_cases c2 : r5 = 2
  · subst c2
    obtain ⟨hl6, hl6E⟩ : ∃ hz, hz = h5.alloc (.cells [.int .i64 (-1), .int .i64 0, .int .i64 3, .int .i64 128, .int .i64 4611686018427387904] true true 1) := ⟨_, rfl⟩
    have k6 : Adds h5 hl6 := by rw [hl6E]; exact (by first | exact aK | exact kK)
    have n6 : hl6.next = h5.next + 1 := by rw [hl6E]; rfl
    have d6 := d5.trans (DrW.of_adds d5.add d5.cur k6)
    obtain ⟨v7, h7, p7, r7, q7, l7, w7⟩ := pick_ok hB.next o (k + 200 + 2) hl6 (ln : Int) d6.cur (by omega)
    subst q7
    have hr7 := l7 (by omega)
    have d7 := d6.trans (w7.dr d6.add d6.cur)
    have n7 := w7.nx
    have g6 : hl6.get h5.next = .cells [.int .i64 (-1), .int .i64 0, .int .i64 3, .int .i64 128, .int .i64 4611686018427387904] true true 1 := by rw [hl6E]; simp
    have g7 : h7.get h5.next = .cells [.int .i64 (-1), .int .i64 0, .int .i64 3, .int .i64 128, .int .i64 4611686018427387904] true true 1 := by rw [w7.get _ (by omega) (by omega)]; exact g6
    have i7 : IntsF (fun x => x ≠ o) h7 (.slice (some ⟨h5.next, 0, none⟩) 5 5) [-1, 0, 3, 128, 4611686018427387904] := lit_ints (xs := [-1, 0, 3, 128, 4611686018427387904]) (own := true) (ex := true) (es := 1) (by simpa using g7) (by omega) (by omega) (by simp)
    obtain ⟨v8, h8, p8, r8, q8, e8_, w8⟩ := among_ok hB.next o (k + 200 + 2 + 2) h7 _ _ d7.cur (by omega) i7 (by simp)
    subst e8_
    generalize hx8 : [-1, 0, 3, 128, 4611686018427387904][r8] = x8 at p8
    have d8 := d7.trans (w8.dr d7.add d7.cur)
    have n8 := w8.nx
    have gs6 : hl6.get h1.next = .cells [.int .i64 (n : Int), .slice (some ⟨oq, 0, none⟩) ln ln] true true 1 := by rw [k6.1.2 _ (by omega)]; exact gs5
    have gs8 : h8.get h1.next = .cells [.int .i64 (n : Int), .slice (some ⟨oq, 0, none⟩) ln ln] true true 1 := by rw [w8.get _ (by omega) (by omega), w7.get _ (by omega) (by omega)]; exact gs6
    have gr8 : h8.get h.next = .cells [.int .i64 0, .slice none 0 0] true true 1 := by rw [w8.get _ (by omega) (by omega), w7.get _ (by omega) (by omega), k6.1.2 _ (by omega)]; exact gr5
    have z8 : h8.get oq = .cells ((toN L).map (.int .i64)) true eq_ 1 := by rw [w8.get _ (by omega) (by omega), w7.get _ (by omega) (by omega), k6.1.2 _ (by omega)]; exact z5
    have hr7' : r7 < ln := by omega
    have hr7L : r7 < L.length := by omega
    have kf1 : KeepF (fun b => b = h1.next ∨ litF [55] h5.next b) hl6 h7 := fun b hb => by
      rcases hb with rfl | rfl | hb
      · exact w7.get _ (by omega) (by omega)
      · exact w7.get _ (by omega) (by omega)
      · exact hb.elim
    have kf2 : KeepF (fun b => b = h1.next ∨ litF [55] h5.next b) h7 h8 := fun b hb => by
      rcases hb with rfl | rfl | hb
      · exact w8.get _ (by omega) (by omega)
      · exact w8.get _ (by omega) (by omega)
      · exact hb.elim
    have lnL : L.length = ln := hln.symm
    try simp (disch := first | omega | (simp; done) | fail) [wrap64c, if_pos, if_neg, opAnd, opOr, opXor, opDiff, opShr, opBit, ntb, csb, hu2, hu1, hu1', gs2, gs3, gs5, hne1, hne2, hne3, c0', c1', hr7']
    refine WD_softC [48,51] [55] [([.int .i64 (-1), .int .i64 0, .int .i64 3, .int .i64 128, .int .i64 4611686018427387904], 1)] (fun b => b = h1.next) rfl (by kernel_rfl) (by kernel_rfl) rfl ?_
    simp only [allocL_c, allocL_n]
    rw [← hl6E]
    have gs6' := gs6
    try simp (disch := first | omega | (simp; done) | fail) [wrap64c, if_pos, if_neg, opAnd, opOr, opXor, opDiff, opShr, opBit, ntb, csb, hu2, hu1, hu1', gs2, gs3, gs5, hne1, hne2, hne3, c0', c1', hr7', gs6', g6, n6, g7]
    refine callS_c (by simp) (by simp) ?ha (p7) ?hkf ?_
    (case ha => simp (disch := first | omega | (simp; done) | fail) [wrap64c, if_pos, if_neg, opAnd, opOr, opXor, opDiff, opShr, opBit, ntb, csb, hu2, hu1, hu1', gs2, gs3, gs5, hne1, hne2, hne3, c0', c1', hr7', gs6', g6, n6, g7])
    (case hkf => assumption)
    try simp (disch := first | omega | (simp; done) | fail) [wrap64c, if_pos, if_neg, opAnd, opOr, opXor, opDiff, opShr, opBit, ntb, csb, hu2, hu1, hu1', gs2, gs3, gs5, hne1, hne2, hne3, c0', c1', hr7', gs6', g6, n6, g7]
    refine callS_c (by simp) (by simp) ?ha (p8) ?hkf ?_
    (case ha => simp (disch := first | omega | (simp; done) | fail) [wrap64c, if_pos, if_neg, opAnd, opOr, opXor, opDiff, opShr, opBit, ntb, csb, hu2, hu1, hu1', gs2, gs3, gs5, hne1, hne2, hne3, c0', c1', hr7', gs6', g6, n6, g7])
    (case hkf => assumption)
    have gs8' := gs8
    have lnL' := lnL
    try simp (disch := first | omega | (simp; done) | fail) [wrap64c, if_pos, if_neg, opAnd, opOr, opXor, opDiff, opShr, opBit, ntb, csb, hu2, hu1, hu1', gs2, gs3, gs5, hne1, hne2, hne3, c0', c1', hr7', gs6', g6, n6, g7, gs8', gr8, z8, lnL']
    obtain ⟨h9, h9E⟩ : ∃ hz, hz = h8.put oq (.cells (putCells ((toN L).map (.int .i64)) r7 [.int .i64 x8]) true eq_ 1) := ⟨_, rfl⟩
    have d9 : DrW hB o (k + 200 + 2 + 2 + 2) h h9 := by rw [h9E]; exact d8.put hA hbo.2 (by omega) _ _ _
    rw [← h9E]
    have hI := subF (F := fun x => h.next < x) (h := h9) (o := oq) (xs := (toN L).set r7 x8) (own := true) (ex := eq_) (es := 1) (by rw [h9E, putI (by omega)]; simp) (by rw [h9E]; simp; omega) (by omega) (n := ln) (c := ln) (by simp; omega) (Nat.le_refl _) (by omega)
    obtain ⟨f1, f2⟩ := fin_spaceI hA hbo.2 d9 hI (show k + 200 + 2 + 2 + 2 ≤ k + 300 by omega) [.int .i64 (n : Int), .slice (some ⟨oq, 0, none⟩) ln ln] true 1
    exact done_ret (vs := [.agg #[.int .i64 (n : Int), .slice (some ⟨oq, 0, none⟩) ln ln]]) (by simp [resL]) ⟨f1, _, _, ⟨_, rfl, f2⟩, by simp; omega⟩
  have c2' : ¬ (r5 : Int) = 2 := by omega
  have gr5' := gr5
  try simp (disch := first | omega | (simp; done) | fail) [wrap64c, if_pos, if_neg, opAnd, opOr, opXor, opDiff, opShr, opBit, ntb, csb, hu2, hu1, hu1', gs2, gs3, gs5, hne1, hne2, hne3, c0', c1', c2', gr5']
  have hI := subF (F := fun x => h.next < x) (h := h5) (o := oq) (xs := toN L) (own := true) (ex := eq_) (es := 1) z5 (by omega) (by omega) (n := ln) (c := ln) (by omega) (Nat.le_refl _) (by omega)
  obtain ⟨f1, f2⟩ := fin_spaceI hA hbo.2 d5 hI (show k + 200 + 2 ≤ k + 300 by omega) [.int .i64 (n : Int), .slice (some ⟨oq, 0, none⟩) ln ln] true 1
  exact done_ret (vs := [.agg #[.int .i64 (n : Int), .slice (some ⟨oq, 0, none⟩) ln ln]]) (by simp [resL]) ⟨f1, _, _, ⟨_, rfl, f2⟩, by simp; omega⟩
end Go.Proofs.Ytnncipcldbopgaa
namespace Go.Proofs.Ytnncipcldbopgaa
set_option linter.unusedSimpArgs false
set_option linter.unusedVariables false
set_option maxHeartbeats 4000000
open Go Go.Eng
attribute [local irreducible] WD RunD PreD Runs CallOK
end Go.Proofs.Ytnncipcldbopgaa
namespace Go.Proofs.Ytnncipcldbopgaa
set_option linter.unusedSimpArgs false
set_option linter.unusedVariables false
set_option maxHeartbeats 4000000
open Go Go.Eng
attribute [local irreducible] WD RunD PreD Runs CallOK
end Go.Proofs.Ytnncipcldbopgaa
namespace Go.Proofs.Ytnncipcldbopgaa
set_option linter.unusedSimpArgs false
set_option linter.unusedVariables false
set_option maxHeartbeats 4000000
open Go Go.Eng
attribute [local irreducible] WD RunD PreD Runs CallOK
theorem bytes_old {h : Hp} {v : Value} {xs : List Int} (hs : Bytes h v xs) : BytesF h.next h v xs := by
  obtain ⟨s, c, e, hc, hc', hx⟩ := hs
  exact ⟨s, c, e, hc, hc', fun k x hk => let ⟨o, i, cs, own, ex, es, h1, h2, h3, h4, h5⟩ := hx k x hk; ⟨o, i, cs, own, ex, es, h1, h2, h2, h3, h4, h5⟩⟩
theorem big_ok (h : Hp) (v w : Value) (xs ys : List Int) (hv : Bytes h v xs) (hw : Bytes h w ys) : CallOK Try.prog 11 #[v, w] h (.bool (decide (1048576 < xs.length ∨ 1048576 - (xs.length : Int) < ys.length))) h := by
  refine callY_P 16 _ [.tmp 4] Try.func11 rfl rfl rfl (by first | rfl | simp) ?_
  have hL := hv.lenD
  have hM := hw.lenD
  have l1 := hv.len
  have l2 := hw.len
  by_cases c1 : 1048576 < xs.length
  · have c1' : (1048576 : Int) < (xs.length : Int) := by omega
    try simp (disch := first | omega | (simp; done) | fail) [wrap64c, if_pos, if_neg, hL, hM, c1']
    exact done_ret rfl (by simp [c1])
  · have c1' : ¬ (1048576 : Int) < (xs.length : Int) := by omega
    by_cases c2 : 1048576 - (xs.length : Int) < ys.length
    · try simp (disch := first | omega | (simp; done) | fail) [wrap64c, if_pos, if_neg, hL, hM, c1', c2]
      exact done_ret rfl (by simp [c2])
    · try simp (disch := first | omega | (simp; done) | fail) [wrap64c, if_pos, if_neg, hL, hM, c1', c2]
      exact done_ret rfl (by simp [c1, c2])
end Go.Proofs.Ytnncipcldbopgaa
namespace Go.Proofs.Ytnncipcldbopgaa
set_option linter.unusedSimpArgs false
set_option linter.unusedVariables false
set_option maxHeartbeats 4000000
open Go Go.Eng
attribute [local irreducible] WD RunD PreD Runs CallOK
def greatF (y : Nat) : List Nat → Nat → Nat
  | [], o => o
  | x :: l, o => greatF y l (if ndiff x y = 0 then nOr o x else o)
def greatN (xs : List Nat) (y : Nat) : Nat := greatF y xs 0
def hullN (n : Nat) (xs : List Nat) (s : Nat) : Nat := ndiff (bit n - 1) (greatN xs (ndiff (bit n - 1) s))
def outHull (n : Nat) (xs : List Nat) (s i : Nat) : Bool := !(hullN n xs (ndiff s (bit i))).testBit i
def extN (n : Nat) (xs : List Nat) (s : Nat) : Nat := maskL (outHull n xs s) (itemsN s) 0
def isFreeN (n : Nat) (xs : List Nat) (a : Nat) : Bool := fam xs (ndiff (bit n - 1) a) && (outerN (fam xs) n (ndiff (bit n - 1) a) == a)
def freeK (n : Nat) (xs : List Nat) (k : Nat) : List Nat := (List.range k).filter (isFreeN n xs)
def freeN (n : Nat) (xs : List Nat) : List Nat := freeK n xs (bit n)
end Go.Proofs.Ytnncipcldbopgaa
namespace Go.Proofs.Ytnncipcldbopgaa
set_option linter.unusedSimpArgs false
set_option linter.unusedVariables false
set_option maxHeartbeats 4000000
open Go Go.Eng
attribute [local irreducible] WD RunD PreD Runs CallOK
noncomputable def inB (N : Int) (X : List Int) (a : Int) : Bool := spB N X && setB N.toNat a
noncomputable def outerR (N : Int) (X : List Int) (a : Int) : Int := if oneB N X a = true then ((outerN (fam (natsOf X)) N.toNat a.toNat : Nat) : Int) else 0
noncomputable def innerR (N : Int) (X : List Int) (a : Int) : Int := if oneB N X a = true then ((innerN (fam (natsOf X)) a.toNat : Nat) : Int) else 0
noncomputable def greatR (N : Int) (X : List Int) (a : Int) : Int := if inB N X a = true then ((greatN (natsOf X) a.toNat : Nat) : Int) else 0
theorem SpGood.l128 {n : Nat} {xs : List Nat} (g : SpGood n xs) : ∀ x ∈ xs, x < 128 := fun x hx => by have := g.lt x hx; have := bit7 g.n7; omega
theorem inB_true {N : Int} {X : List Int} {a : Int} (h : inB N X a = true) : ∃ n xs x, N = (n : Nat) ∧ X = toN xs ∧ a = (x : Nat) ∧ SpGood n xs ∧ x < bit n := by
  unfold inB at h
  simp only [Bool.and_eq_true] at h
  obtain ⟨n, xs, rfl, rfl, g⟩ := spB_true h.1
  obtain ⟨x, rfl, hx⟩ := setB_true h.2
  exact ⟨n, xs, x, rfl, rfl, rfl, g, hx⟩
end Go.Proofs.Ytnncipcldbopgaa
namespace Go.Proofs.Ytnncipcldbopgaa
set_option linter.unusedSimpArgs false
set_option linter.unusedVariables false
set_option maxHeartbeats 4000000
open Go Go.Eng
attribute [local irreducible] WD RunD PreD Runs CallOK
end Go.Proofs.Ytnncipcldbopgaa
namespace Go.Proofs.Ytnncipcldbopgaa
set_option linter.unusedSimpArgs false
set_option linter.unusedVariables false
set_option maxHeartbeats 4000000
open Go Go.Eng
attribute [local irreducible] WD RunD PreD Runs CallOK
theorem drawWorstSet_ok (h : Hp) (v : Value) (bs : List Int) (hb : BytesF h.next h v bs) : ∃ u h', CallOK Try.prog 71 #[v] h u h' ∧ Adds h h' ∧ ∃ s N X, u = s ∧ SpaceF (fun x => h.next ≤ x) h' s N X ∧ X.length ≤ 128 := by
  have ntv := hb.bytes.nt
  have csv := hb.bytes.cs
  refine callY_L (args := [v]) 9 _ [.cell 2 26] Try.func71 rfl rfl rfl ?_
  try simp (disch := first | omega | (simp; done) | fail) [wrap64c, if_pos, if_neg, opAnd, opOr, opXor, opDiff, opShr, opBit, ntv, csv]
  first | refine WY_heap fun h0 q_h0 => ?_ | refine callG_heap fun h0 q_h0 => ?_ | refine callP_heap fun h0 q_h0 => ?_ | refine callS_heap fun h0 q_h0 => ?_ | refine RY_heap fun h0 q_h0 => ?_ | refine PY_heap fun h0 q_h0 => ?_ | refine SY_heap fun h0 q_h0 => ?_ | refine doneY_heap fun h0 q_h0 => ?_ | refine loopK_heap fun h0 q_h0 => ?_ | refine thenY_heap fun h0 q_h0 => ?_ | refine thenM_heap fun h0 q_h0 => ?_
  have k0 : Adds h h0 := by rw [q_h0]; exact (by first | exact aK | exact kK)
  have n0 : h0.next = h.next + 2 := by simp [q_h0]
  have g0 : h0.get (h.next + 1) = .cells [v, .int .i64 0, .int .u64 0] true true 1 := by simp [q_h0]
  have gr0 : h0.get h.next = .cells [.int .i64 0, .slice none 0 0] true true 1 := by simp [q_h0]
  have c0 := cur_mk hb k0.1 ⟨by omega, by omega⟩ g0
  obtain ⟨_, h1, p1, d1, N, X, ⟨b, rfl, i1⟩, lX⟩ := space_ok h h0 (h.next + 1) 0 4 k0 c0 (by decide) (by decide)
  have ntb := i1.ints.nt
  have csb := i1.ints.cs
  have gr1 : h1.get h.next = .cells [.int .i64 0, .slice none 0 0] true true 1 := by rw [d1.sm _ (by omega) (by omega)]; exact gr0
  have hu2 : ∀ a b c d : Value, putCells [a, b] 0 [c, d] = [c, d] := fun _ _ _ _ => rfl
  refine callG_c (by simp) (by simp) ?ha (p1) ?_
  (case ha => simp (disch := first | omega | (simp; done) | fail) [wrap64c, if_pos, if_neg, opAnd, opOr, opXor, opDiff, opShr, opBit, ntv, csv, ntb, csb, gr1, hu2])
  try simp (disch := first | omega | (simp; done) | fail) [wrap64c, if_pos, if_neg, opAnd, opOr, opXor, opDiff, opShr, opBit, ntv, csv, ntb, csb, gr1, hu2]
  have hI : IntsF (fun x => h.next ≤ x) (h1.put h.next (.cells [.int .i64 N, b] true true 1)) b X := (i1.same (h := h1) (h' := h1.put h.next _) ⟨Nat.le_refl _, fun x hx _ => by simp [show x ≠ h.next by omega]⟩).sub fun x hx => by omega
  exact done_ret (vs := [.agg #[.int .i64 N, b]]) (by simp [resL]) ⟨d1.add.put (Nat.le_refl _) (fun _ => rfl), _, _, _, rfl, ⟨_, rfl, hI⟩, lX⟩
theorem drawLeastTotal_ok (h : Hp) (v : Value) (bs : List Int) (hb : BytesF h.next h v bs) : ∃ u h', CallOK Try.prog 78 #[v] h u h' ∧ Adds h h' ∧ ∃ s N X, u = s ∧ SpaceF (fun x => h.next ≤ x) h' s N X ∧ X.length ≤ 128 := by
  have ntv := hb.bytes.nt
  have csv := hb.bytes.cs
  refine callY_L (args := [v]) 9 _ [.cell 2 26] Try.func78 rfl rfl rfl ?_
  try simp (disch := first | omega | (simp; done) | fail) [wrap64c, if_pos, if_neg, opAnd, opOr, opXor, opDiff, opShr, opBit, ntv, csv]
  first | refine WY_heap fun h0 q_h0 => ?_ | refine callG_heap fun h0 q_h0 => ?_ | refine callP_heap fun h0 q_h0 => ?_ | refine callS_heap fun h0 q_h0 => ?_ | refine RY_heap fun h0 q_h0 => ?_ | refine PY_heap fun h0 q_h0 => ?_ | refine SY_heap fun h0 q_h0 => ?_ | refine doneY_heap fun h0 q_h0 => ?_ | refine loopK_heap fun h0 q_h0 => ?_ | refine thenY_heap fun h0 q_h0 => ?_ | refine thenM_heap fun h0 q_h0 => ?_
  have k0 : Adds h h0 := by rw [q_h0]; exact (by first | exact aK | exact kK)
  have n0 : h0.next = h.next + 2 := by simp [q_h0]
  have g0 : h0.get (h.next + 1) = .cells [v, .int .i64 0, .int .u64 0] true true 1 := by simp [q_h0]
  have gr0 : h0.get h.next = .cells [.int .i64 0, .slice none 0 0] true true 1 := by simp [q_h0]
  have c0 := cur_mk hb k0.1 ⟨by omega, by omega⟩ g0
  obtain ⟨_, h1, p1, d1, N, X, ⟨b, rfl, i1⟩, lX⟩ := space_ok h h0 (h.next + 1) 0 5 k0 c0 (by decide) (by decide)
  have ntb := i1.ints.nt
  have csb := i1.ints.cs
  have gr1 : h1.get h.next = .cells [.int .i64 0, .slice none 0 0] true true 1 := by rw [d1.sm _ (by omega) (by omega)]; exact gr0
  have hu2 : ∀ a b c d : Value, putCells [a, b] 0 [c, d] = [c, d] := fun _ _ _ _ => rfl
  refine callG_c (by simp) (by simp) ?ha (p1) ?_
  (case ha => simp (disch := first | omega | (simp; done) | fail) [wrap64c, if_pos, if_neg, opAnd, opOr, opXor, opDiff, opShr, opBit, ntv, csv, ntb, csb, gr1, hu2])
  try simp (disch := first | omega | (simp; done) | fail) [wrap64c, if_pos, if_neg, opAnd, opOr, opXor, opDiff, opShr, opBit, ntv, csv, ntb, csb, gr1, hu2]
  have hI : IntsF (fun x => h.next ≤ x) (h1.put h.next (.cells [.int .i64 N, b] true true 1)) b X := (i1.same (h := h1) (h' := h1.put h.next _) ⟨Nat.le_refl _, fun x hx _ => by simp [show x ≠ h.next by omega]⟩).sub fun x hx => by omega
  exact done_ret (vs := [.agg #[.int .i64 N, b]]) (by simp [resL]) ⟨d1.add.put (Nat.le_refl _) (fun _ => rfl), _, _, _, rfl, ⟨_, rfl, hI⟩, lX⟩
end Go.Proofs.Ytnncipcldbopgaa
namespace Go.Proofs.Ytnncipcldbopgaa
set_option linter.unusedSimpArgs false
set_option linter.unusedVariables false
set_option maxHeartbeats 4000000
open Go Go.Eng
attribute [local irreducible] WD RunD PreD Runs CallOK
end Go.Proofs.Ytnncipcldbopgaa
namespace Go.Proofs.Ytnncipcldbopgaa
set_option linter.unusedSimpArgs false
set_option linter.unusedVariables false
set_option maxHeartbeats 4000000
open Go Go.Eng
attribute [local irreducible] WD RunD PreD Runs CallOK
noncomputable def walkR (N : Int) (X ch : List Int) : List Int := if (spB N X && chB ch 20) = true then toN (walkS (fam (natsOf X)) N.toNat ch N.toNat).1 else []
end Go.Proofs.Ytnncipcldbopgaa
namespace Go.Proofs.Ytnncipcldbopgaa
set_option linter.unusedSimpArgs false
set_option linter.unusedVariables false
set_option maxHeartbeats 4000000
open Go Go.Eng
def leftB (y z x : Nat) : Bool := (ndiff y x == 0) && (nAnd x z == 0)
def leftN (xs : List Nat) (y z : Nat) : List Nat := xs.filter fun x => leftB y z x
theorem nAnd_comm (a b : Nat) : nAnd a b = nAnd b a := Nat.and_comm a b
theorem nAnd_zero (a b : Nat) : nAnd a b = 0 ↔ ∀ i, a.testBit i = true → b.testBit i = false := by
  constructor
  · intro h i hi
    have := nAnd_bit a b i
    rw [h, hi] at this
    simpa using this.symm
  · intro h
    apply eq_bits
    intro i
    rw [nAnd_bit, Nat.zero_testBit]
    cases ha : a.testBit i
    · rfl
    · rw [h i ha]; rfl
theorem leftB_iff {y z x : Nat} : leftB y z x = true ↔ (∀ i, y.testBit i = true → x.testBit i = true) ∧ ∀ i, z.testBit i = true → x.testBit i = false := by
  unfold leftB
  simp only [Bool.and_eq_true, beq_iff_eq]
  rw [ndiff_zero, nAnd_zero]
  constructor
  · rintro ⟨h1, h2⟩
    refine ⟨h1, fun i hi => ?_⟩
    cases hx : x.testBit i
    · rfl
    · rw [h2 i hx] at hi; cases hi
  · rintro ⟨h1, h2⟩
    refine ⟨h1, fun i hi => ?_⟩
    cases hz : z.testBit i
    · rfl
    · rw [h2 i hz] at hi; cases hi
def hasL (L : List Nat) (i : Nat) : List Nat := L.filter fun x => x.testBit i
def lacksL (L : List Nat) (i : Nat) : List Nat := L.filter fun x => !x.testBit i
theorem left_yes (xs : List Nat) (y z i : Nat) : leftN xs (nOr y (bit i)) z = hasL (leftN xs y z) i := by
  unfold leftN hasL
  rw [List.filter_filter]
  apply List.filter_congr
  intro x _
  rw [Bool.eq_iff_iff, Bool.and_eq_true, leftB_iff, leftB_iff]
  constructor
  · rintro ⟨h1, h2⟩
    exact ⟨h1 i (by rw [nOr_bit, bit_bit]; simp), fun j hj => h1 j (by rw [nOr_bit, hj]; rfl), h2⟩
  · rintro ⟨h0, h1, h2⟩
    refine ⟨fun j hj => ?_, h2⟩
    rw [nOr_bit, bit_bit, Bool.or_eq_true] at hj
    rcases hj with hj | hj
    · exact h1 j hj
    · rw [← of_decide_eq_true hj]; exact h0
theorem left_no (xs : List Nat) (y z i : Nat) : leftN xs y (nOr z (bit i)) = lacksL (leftN xs y z) i := by
  unfold leftN lacksL
  rw [List.filter_filter]
  apply List.filter_congr
  intro x _
  rw [Bool.eq_iff_iff, Bool.and_eq_true, leftB_iff, leftB_iff]
  constructor
  · rintro ⟨h1, h2⟩
    exact ⟨by rw [h2 i (by rw [nOr_bit, bit_bit]; simp)]; rfl, h1, fun j hj => h2 j (by rw [nOr_bit, hj]; rfl)⟩
  · rintro ⟨h0, h1, h2⟩
    refine ⟨h1, fun j hj => ?_⟩
    rw [nOr_bit, bit_bit, Bool.or_eq_true] at hj
    rcases hj with hj | hj
    · exact h2 j hj
    · rw [← of_decide_eq_true hj]; simpa using h0
theorem left_zero (xs : List Nat) : leftN xs 0 0 = xs := by
  unfold leftN
  rw [List.filter_eq_self]
  intro x _
  exact leftB_iff.2 ⟨fun i hi => by simp at hi, fun i hi => by simp at hi⟩
def opB (L : List Nat) (i : Nat) : Bool := (L.any fun x => x.testBit i) && L.any fun x => !x.testBit i
theorem opB_iff {L : List Nat} {i : Nat} : opB L i = true ↔ (∃ x ∈ L, x.testBit i = true) ∧ ∃ x ∈ L, x.testBit i = false := by
  unfold opB
  simp only [Bool.and_eq_true, List.any_eq_true, Bool.not_eq_true']
def openK (L : List Nat) (k : Nat) : List Nat := (List.range k).filter fun i => opB L i
def openN (L : List Nat) : List Nat := openK L 7
theorem openK_succ (L : List Nat) (k : Nat) : openK L (k + 1) = if opB L k = true then openK L k ++ [k] else openK L k := by
  unfold openK
  rw [List.range_succ, List.filter_append]
  by_cases h : opB L k = true <;> simp [h]
theorem openK_len (L : List Nat) (k : Nat) : (openK L k).length ≤ k := by
  unfold openK
  have := List.length_filter_le (fun i => opB L i) (List.range k)
  simpa using this
theorem mem_openK {L : List Nat} {k i : Nat} : i ∈ openK L k ↔ i < k ∧ opB L i = true := by simp [openK]
theorem openK_eq {L : List Nat} {n : Nat} (hn : n ≤ 7) (hL : ∀ x ∈ L, x < bit n) : openK L n = openN L := by
  have : ∀ d, n + d ≤ 7 → openK L (n + d) = openK L n := by
    intro d
    induction d with
    | zero => intro _; rfl
    | succ d ih =>
      intro hd
      have hno : opB L (n + d) = false := by
        rw [Bool.eq_false_iff]
        intro h
        obtain ⟨⟨x, hx, hb⟩, _⟩ := opB_iff.1 h
        rw [hi_bit (hL x hx) (by omega)] at hb
        cases hb
      rw [show n + (d + 1) = n + d + 1 by omega, openK_succ, hno]
      exact ih (by omega)
  have h1 := this (7 - n) (by omega)
  rw [show n + (7 - n) = 7 by omega] at h1
  exact h1.symm
theorem has_len {L : List Nat} {i : Nat} (h : opB L i = true) : (hasL L i).length < L.length ∧ (lacksL L i).length < L.length ∧ 0 < (hasL L i).length ∧ 0 < (lacksL L i).length ∧ (hasL L i).length + (lacksL L i).length = L.length := by
  obtain ⟨⟨x, hx, hxb⟩, ⟨y, hy, hyb⟩⟩ := opB_iff.1 h
  have h1 : x ∈ hasL L i := List.mem_filter.2 ⟨hx, hxb⟩
  have h2 : y ∈ lacksL L i := List.mem_filter.2 ⟨hy, by simp [hyb]⟩
  have h3 : (hasL L i).length + (lacksL L i).length = L.length := by
    clear h hx hy h1 h2
    unfold hasL lacksL
    induction L with
    | nil => rfl
    | cons a L ih => cases hb : a.testBit i <;> simp [hb] <;> omega
  have h4 := List.length_pos_of_mem h1
  have h5 := List.length_pos_of_mem h2
  omega
theorem open_nil : ∀ L : List Nat, L = [] → openN L = [] := by
  rintro L rfl
  rfl
def minL : List Nat → Nat
  | [] => 0
  | a :: l => l.foldl min a
theorem minL_snoc (l : List Nat) (a : Nat) : minL (l ++ [a]) = if l = [] then a else min (minL l) a := by
  cases l with
  | nil => rfl
  | cons b l => simp [minL, List.foldl_append]
theorem minL_le {l : List Nat} {b : Nat} (hne : l ≠ []) (h : ∀ x ∈ l, x ≤ b) : minL l ≤ b := by
  cases l with
  | nil => exact absurd rfl hne
  | cons a l =>
    have : ∀ (l : List Nat) (a : Nat), a ≤ b → l.foldl min a ≤ b := by
      intro l
      induction l with
      | nil => intro a ha; exact ha
      | cons c l ih => intro a ha; exact ih (min a c) (by omega)
    exact this l a (h a (by simp))
def worstF : Nat → List Nat → Nat
  | 0, _ => 0
  | k + 1, L => minL ((openN L).map fun i => 1 + max (worstF k (hasL L i)) (worstF k (lacksL L i)))
def worstN (L : List Nat) : Nat := worstF L.length L
theorem worstF_nil : ∀ k, worstF k [] = 0
  | 0 => rfl
  | k + 1 => by rw [worstF, open_nil [] rfl]; rfl
theorem worstF_same : ∀ (m k : Nat) (L : List Nat), L.length ≤ m → L.length ≤ k → worstF m L = worstF k L
  | 0, k, L, h1, h2 => by
    have : L = [] := List.length_eq_zero_iff.1 (by omega)
    subst this; rw [worstF_nil, worstF_nil]
  | m + 1, 0, L, h1, h2 => by
    have : L = [] := List.length_eq_zero_iff.1 (by omega)
    subst this; rw [worstF_nil, worstF_nil]
  | m + 1, k + 1, L, h1, h2 => by
    rw [worstF, worstF]
    congr 1
    apply List.map_congr_left
    intro i hi
    obtain ⟨g1, g2, _⟩ := has_len (mem_openK.1 hi).2
    rw [worstF_same m k _ (by omega) (by omega), worstF_same m k _ (by omega) (by omega)]
def askN (L : List Nat) (i : Nat) : Nat := 1 + max (worstN (hasL L i)) (worstN (lacksL L i))
theorem worstN_eq (L : List Nat) : worstN L = minL ((openN L).map (askN L)) := by
  unfold worstN
  cases hk : L.length with
  | zero =>
    have : L = [] := List.length_eq_zero_iff.1 hk
    subst this; rfl
  | succ k =>
    rw [worstF]
    congr 1
    apply List.map_congr_left
    intro i hi
    obtain ⟨g1, g2, _⟩ := has_len (mem_openK.1 hi).2
    unfold askN worstN
    rw [worstF_same k _ _ (by omega) (Nat.le_refl _), worstF_same k _ (lacksL L i) (by omega) (Nat.le_refl _)]
theorem worstF_le : ∀ k L, worstF k L ≤ k
  | 0, _ => Nat.le_refl _
  | k + 1, L => by
    rw [worstF]
    by_cases hne : openN L = []
    · rw [hne]; exact Nat.zero_le _
    · refine minL_le (by simpa using hne) fun x hx => ?_
      obtain ⟨i, _, rfl⟩ := List.mem_map.1 hx
      have h1 := worstF_le k (hasL L i)
      have h2 := worstF_le k (lacksL L i)
      omega
theorem worstN_le (L : List Nat) : worstN L ≤ L.length := worstF_le _ _
theorem askN_le {L : List Nat} {i : Nat} (h : opB L i = true) : askN L i ≤ L.length := by
  obtain ⟨g1, g2, _⟩ := has_len h
  have h1 := worstN_le (hasL L i)
  have h2 := worstN_le (lacksL L i)
  unfold askN
  omega
def bestN (L : List Nat) : Int := match (openN L).find? fun i => askN L i == worstN L with
  | some i => i
  | none => -1
theorem bestN_at {L : List Nat} {j : Nat} (hj : j < (openN L).length) (h1 : ∀ k (hk : k < (openN L).length), k < j → askN L (openN L)[k] ≠ worstN L) (h2 : askN L (openN L)[j] = worstN L) : bestN L = ((openN L)[j] : Nat) := by
  have : (openN L).find? (fun i => askN L i == worstN L) = some (openN L)[j] := by
    rw [List.find?_eq_some_iff_getElem]
    exact ⟨by simp [h2], j, hj, rfl, fun k hk => by simpa using h1 k (by omega) hk⟩
  rw [bestN, this]
theorem bestN_none {L : List Nat} (h1 : ∀ k (hk : k < (openN L).length), askN L (openN L)[k] ≠ worstN L) : bestN L = -1 := by
  have : (openN L).find? (fun i => askN L i == worstN L) = none := by
    rw [List.find?_eq_none]
    intro x hx
    obtain ⟨k, hk, rfl⟩ := List.getElem_of_mem hx
    simpa using h1 k hk
  rw [bestN, this]
theorem minL_mem : ∀ {l : List Nat}, l ≠ [] → minL l ∈ l := by
  intro l hne
  cases l with
  | nil => exact absurd rfl hne
  | cons a l =>
    have : ∀ (l : List Nat) (a : Nat), l.foldl min a = a ∨ l.foldl min a ∈ l := by
      intro l
      induction l with
      | nil => intro a; exact .inl rfl
      | cons c l ih =>
        intro a
        rcases ih (min a c) with h | h
        · rcases Nat.le_total a c with h1 | h1
          · left; rw [List.foldl_cons, h]; omega
          · right; rw [List.foldl_cons, h]; simp; left; omega
        · right; rw [List.foldl_cons]; simp [h]
    rcases this l a with h | h
    · rw [minL, h]; simp
    · rw [minL]; simp [h]
theorem bestN_mem {L : List Nat} (hne : openN L ≠ []) : ∃ i, bestN L = (i : Nat) ∧ i ∈ openN L ∧ askN L i = worstN L := by
  have h1 := minL_mem (l := (openN L).map (askN L)) (by simpa using hne)
  rw [← worstN_eq] at h1
  obtain ⟨i, hi, he⟩ := List.mem_map.1 h1
  unfold bestN
  cases hf : (openN L).find? (fun i => askN L i == worstN L) with
  | none =>
    rw [List.find?_eq_none] at hf
    have := hf i hi
    simp [he] at this
  | some k =>
    have h2 := List.mem_of_find?_eq_some hf
    have h3 := List.find?_some hf
    exact ⟨k, rfl, h2, by simpa using h3⟩
def distN (L : List Nat) (i : Nat) : Nat := (2 * ((hasL L i).length : Int) - (L.length : Int)).natAbs
def halfS (L : List Nat) (l : List Nat) : Int × Nat := l.foldl (fun s i => if s.1 < 0 ∨ distN L i < s.2 then ((i : Int), distN L i) else s) (-1, 0)
def halfN (L : List Nat) : Int := (halfS L (openN L)).1
theorem halfS_snoc (L l : List Nat) (i : Nat) : halfS L (l ++ [i]) = if (halfS L l).1 < 0 ∨ distN L i < (halfS L l).2 then ((i : Int), distN L i) else halfS L l := by
  rw [halfS, List.foldl_append]; rfl
theorem halfS_mem (L : List Nat) : ∀ (l : List Nat) (s : Int × Nat), (l.foldl (fun s i => if s.1 < 0 ∨ distN L i < s.2 then ((i : Int), distN L i) else s) s).1 = s.1 ∨ ∃ i, (l.foldl (fun s i => if s.1 < 0 ∨ distN L i < s.2 then ((i : Int), distN L i) else s) s).1 = (i : Nat) ∧ i ∈ l
  | [], s => .inl rfl
  | a :: l, s => by
    rw [List.foldl_cons]
    rcases halfS_mem L l (if s.1 < 0 ∨ distN L a < s.2 then ((a : Int), distN L a) else s) with h | ⟨i, h1, h2⟩
    · by_cases hc : s.1 < 0 ∨ distN L a < s.2
      · right; refine ⟨a, ?_, by simp⟩
        rw [h, if_pos hc]
      · left; rw [h, if_neg hc]
    · right; exact ⟨i, h1, by simp [h2]⟩
theorem halfN_mem {L : List Nat} (hne : openN L ≠ []) : ∃ i, halfN L = (i : Nat) ∧ i ∈ openN L := by
  unfold halfN halfS
  cases he : openN L with
  | nil => exact absurd he hne
  | cons a l =>
    rw [List.foldl_cons, if_pos (.inl (by decide))]
    rcases halfS_mem L l ((a : Int), distN L a) with h | ⟨i, h1, h2⟩
    · exact ⟨a, h, by simp⟩
    · exact ⟨i, h1, by simp [h2]⟩
theorem halfN_nil {L : List Nat} (h : openN L = []) : halfN L = -1 := by rw [halfN, h]; rfl
theorem bestN_nil {L : List Nat} (h : openN L = []) : bestN L = -1 := by rw [bestN, h]; rfl
def runF (ask : List Nat → Int) (set : Nat) : Nat → List Nat → List Nat
  | 0, _ => []
  | k + 1, L => if ask L < 0 then [] else (ask L).toNat :: runF ask set k (if set.testBit (ask L).toNat = true then hasL L (ask L).toNat else lacksL L (ask L).toNat)
theorem open_ne {n : Nat} {L : List Nat} (hn : n ≤ 7) (hs : L.Pairwise (· < ·)) (hL : ∀ x ∈ L, x < bit n) : openN L ≠ [] ↔ 1 < L.length := by
  constructor
  · intro h
    obtain ⟨i, hi⟩ := List.exists_mem_of_ne_nil _ h
    obtain ⟨g1, g2, g3, g4, g5⟩ := has_len (mem_openK.1 hi).2
    omega
  · intro h he
    match L, h with
    | a :: b :: l, _ =>
      have hab : a < b := (List.pairwise_cons.1 hs).1 b (by simp)
      have hne : a ≠ b := by omega
      apply hne
      refine eq_bits_n (n := n) (hL a (by simp)) (hL b (by simp)) fun i hi => ?_
      have hno : i ∉ openN (a :: b :: l) := by rw [he]; simp
      cases ha : a.testBit i <;> cases hb : b.testBit i <;> first | rfl | skip
      · exact absurd (mem_openK.2 ⟨by omega, opB_iff.2 ⟨⟨b, by simp, hb⟩, ⟨a, by simp, ha⟩⟩⟩) hno
      · exact absurd (mem_openK.2 ⟨by omega, opB_iff.2 ⟨⟨a, by simp, ha⟩, ⟨b, by simp, hb⟩⟩⟩) hno
theorem left_sub {xs : List Nat} {y z x : Nat} (h : x ∈ leftN xs y z) : x ∈ xs := (List.mem_filter.1 h).1
theorem left_srt {xs : List Nat} (hs : xs.Pairwise (· < ·)) (y z : Nat) : (leftN xs y z).Pairwise (· < ·) := hs.filter _
theorem left_len (xs : List Nat) (y z : Nat) : (leftN xs y z).length ≤ xs.length := List.length_filter_le _ _
end Go.Proofs.Ytnncipcldbopgaa
namespace Go.Proofs.Ytnncipcldbopgaa
set_option linter.unusedSimpArgs false
set_option linter.unusedVariables false
set_option maxHeartbeats 4000000
open Go Go.Eng
attribute [local irreducible] WD RunD PreD Runs CallOK
theorem leftN_snoc (xs : List Nat) (x y z : Nat) : leftN (xs ++ [x]) y z = if leftB y z x = true then leftN xs y z ++ [x] else leftN xs y z := by
  unfold leftN
  rw [List.filter_append]
  by_cases h : leftB y z x = true <;> simp [h]
theorem left_take {xs : List Nat} {j : Nat} (hj : j < xs.length) (y z : Nat) : leftN (xs.take (j + 1)) y z = if leftB y z xs[j] = true then leftN (xs.take j) y z ++ [xs[j]] else leftN (xs.take j) y z := by
  rw [List.take_succ_eq_append_getElem hj, leftN_snoc]
theorem part_ok (h : Hp) (a b : Nat) (ha : a < 128) (hb : b < 128) : CallOK Try.prog 129 #[.int .i64 (a : Int), .int .i64 (b : Int)] h (.bool (ndiff a b == 0)) h := by
  refine callY_P 9 _ [.tmp 4] Try.func129 rfl rfl rfl (by first | rfl | simp) ?_
  by_cases hd : ndiff a b = 0
  · try simp (disch := first | omega | (simp; done) | fail) [wrap64c, if_pos, if_neg, opAnd, opOr, opXor, opDiff, opShr, opBit, hd]
    exact done_ret rfl (by simp [hd])
  · have hb1 : (((ndiff a b : Nat) : Int) == 0) = false := by simp [hd]
    have hb2 : (ndiff a b == 0) = false := by simp [hd]
    try simp (disch := first | omega | (simp; done) | fail) [wrap64c, if_pos, if_neg, opAnd, opOr, opXor, opDiff, opShr, opBit, hd]
    exact done_ret rfl (by simp [hb1, hb2])
theorem imLeft_ok (h : Hp) (v : Value) (N : Int) (xs : List Nat) (y z : Nat) (hv : Space h v N (toN xs)) (hx : ∀ x ∈ xs, x < 128) (hl : xs.length < 2 ^ 39) (hy : y < 128) (hz : z < 128) :
    ∃ v' h', CallOK Try.prog 161 #[v, .int .i64 (y : Int), .int .i64 (z : Int)] h v' h' ∧ Adds h h' ∧ IntsO (Btw h.next h'.next) h' v' (toN (leftN xs y z)) := by
  refine callY_L (args := [v, .int .i64 (y : Int), .int .i64 (z : Int)]) 33 _ [.tmp 6] Try.func161 rfl rfl rfl ?_
  obtain ⟨b, rfl, hX⟩ := hv
  have hL := hX.lenD
  have hgt := toN_get xs
  have hln := toN_length xs
  try simp (disch := first | omega | (simp; done) | fail) [wrap64c, if_pos, if_neg, opAnd, opOr, opXor, opDiff, opShr, opBit, hL, hgt]
  refine WD_loopC [1, 2, 12, 13] (fun m tm h' => ∃ j u, m = xs.length - j ∧ tm 7 = u ∧ tm 14 = .int .i64 (j : Int) ∧ (j ≤ xs.length) ∧ (Adds h h') ∧ (h.next < h'.next) ∧ (IntsA (h.next + 1) h' u (toN (leftN (xs.take j) y z)))) _ ⟨0, _, rfl, (by simp (disch := first | omega | (simp; done) | fail) [wrap64c, if_pos, if_neg, opAnd, opOr, opXor, opDiff, opShr, opBit, hL, hgt]), (by simp (disch := first | omega | (simp; done) | fail) [wrap64c, if_pos, if_neg, opAnd, opOr, opXor, opDiff, opShr, opBit, hL, hgt]), (by first | omega | assumption | (simp (disch := first | omega | (simp; done) | fail) [wrap64c, if_pos, if_neg, opAnd, opOr, opXor, opDiff, opShr, opBit, hL, hgt] <;> omega)), (by first | exact aK | exact kK), (by simp), (.lit (ex := true) (Nat.le_refl _) (by simp) (by simp))⟩ ?_
  rintro m tm h' hFr ⟨j, u, rfl, e7, e14, hj, ha, hn, hu⟩
  simp only [FrameL] at hFr
  obtain ⟨f1_0, f2_0, f12_0, f13_0, -⟩ := hFr
  try simp (disch := first | omega | (simp; done) | fail) [wrap64c, if_pos, if_neg, opAnd, opOr, opXor, opDiff, opShr, opBit, hL, hgt] at f1_0 f2_0 f12_0 f13_0
  have e1 := f1_0
  have e2 := f2_0
  have e12 := f12_0
  have e13 := f13_0
  by_cases hlt : j < xs.length
  · obtain ⟨o_x, i_x, c_x, cs_x, own_x, ex_x, es_x, q_x, b_x, g_x, l_x, r_x⟩ := (hX.keep ha.1).open ((by omega))
    have z_x : ∀ h2 : i_x < cs_x.length, cs_x[i_x] = _ := fun h2 => r_x 0 ((by omega)) h2
    have hx1 := hx _ (List.getElem_mem hlt)
    have hs := left_take hlt y z
    have hle := left_len (xs.take j) y z
    have htl : (xs.take j).length ≤ xs.length := by simp; omega
    have hab : nAnd xs[j] z ≤ xs[j] := nAnd_le _ _
    try simp (disch := first | omega | (simp; done) | fail) [wrap64c, if_pos, if_neg, opAnd, opOr, opXor, opDiff, opShr, opBit, hL, hgt, e1, e2, e7, e12, e13, e14, hlt, q_x, g_x, l_x, r_x, z_x]
    refine callG_c (by simp) (by simp) ?ha (part_ok h' y xs[j] hy hx1) ?_
    (case ha => simp (disch := first | omega | (simp; done) | fail) [wrap64c, if_pos, if_neg, opAnd, opOr, opXor, opDiff, opShr, opBit, hL, hgt, e1, e2, e7, e12, e13, e14, hlt, q_x, g_x, l_x, r_x, z_x])
    cases h1 : (ndiff y xs[j] == 0)
    · have hlb : leftB y z xs[j] = false := by unfold leftB; rw [h1]; rfl
      rw [hlb] at hs
      try simp (disch := first | omega | (simp; done) | fail) [wrap64c, if_pos, if_neg, opAnd, opOr, opXor, opDiff, opShr, opBit, hL, hgt, e1, e2, e7, e12, e13, e14, hlt, q_x, g_x, l_x, r_x, z_x, h1]
      refine loopK_next _ ?hm ?hf ⟨j + 1, u, rfl, (by simp (disch := first | omega | (simp; done) | fail) [wrap64c, if_pos, if_neg, opAnd, opOr, opXor, opDiff, opShr, opBit, hL, hgt, e1, e2, e7, e12, e13, e14, hlt, q_x, g_x, l_x, r_x, z_x, h1] <;> omega), (by simp (disch := first | omega | (simp; done) | fail) [wrap64c, if_pos, if_neg, opAnd, opOr, opXor, opDiff, opShr, opBit, hL, hgt, e1, e2, e7, e12, e13, e14, hlt, q_x, g_x, l_x, r_x, z_x, h1] <;> omega), (by first | omega | assumption | (simp (disch := first | omega | (simp; done) | fail) [wrap64c, if_pos, if_neg, opAnd, opOr, opXor, opDiff, opShr, opBit, hL, hgt, e1, e2, e7, e12, e13, e14, hlt, q_x, g_x, l_x, r_x, z_x, h1] <;> omega)), (by first | omega | assumption | (simp (disch := first | omega | (simp; done) | fail) [wrap64c, if_pos, if_neg, opAnd, opOr, opXor, opDiff, opShr, opBit, hL, hgt, e1, e2, e7, e12, e13, e14, hlt, q_x, g_x, l_x, r_x, z_x, h1] <;> omega)), (by first | omega | assumption | (simp (disch := first | omega | (simp; done) | fail) [wrap64c, if_pos, if_neg, opAnd, opOr, opXor, opDiff, opShr, opBit, hL, hgt, e1, e2, e7, e12, e13, e14, hlt, q_x, g_x, l_x, r_x, z_x, h1] <;> omega)), (by rw [hs]; exact hu)⟩
      (case hm => first | omega | (simp; omega))
      (case hf => simp [FrameL, hL, hgt, e1, e2, e7, e12, e13, e14, hlt, q_x, g_x, l_x, r_x, z_x, h1, f1_0, f2_0, f12_0, f13_0])
    · by_cases h2 : nAnd xs[j] z = 0
      · have hlb : leftB y z xs[j] = true := by unfold leftB; rw [h1, h2]; rfl
        rw [hlb] at hs
        try simp (disch := first | omega | (simp; done) | fail) [wrap64c, if_pos, if_neg, opAnd, opOr, opXor, opDiff, opShr, opBit, hL, hgt, e1, e2, e7, e12, e13, e14, hlt, q_x, g_x, l_x, r_x, z_x, h1, h2]
        obtain ⟨u2, h2', hap, hu2, ha2, hn2, hs2⟩ := appI hu (xs[j] : Int) (by simp; omega) hn ha (by omega)
        try simp (disch := first | omega | (simp; done) | fail) [wrap64c, if_pos, if_neg, opAnd, opOr, opXor, opDiff, opShr, opBit, hL, hgt, e1, e2, e7, e12, e13, e14, hlt, q_x, g_x, l_x, r_x, z_x, h1, h2, hap]
        refine loopK_next _ ?hm ?hf ⟨j + 1, u2, rfl, (by simp (disch := first | omega | (simp; done) | fail) [wrap64c, if_pos, if_neg, opAnd, opOr, opXor, opDiff, opShr, opBit, hL, hgt, e1, e2, e7, e12, e13, e14, hlt, q_x, g_x, l_x, r_x, z_x, h1, h2] <;> omega), (by simp (disch := first | omega | (simp; done) | fail) [wrap64c, if_pos, if_neg, opAnd, opOr, opXor, opDiff, opShr, opBit, hL, hgt, e1, e2, e7, e12, e13, e14, hlt, q_x, g_x, l_x, r_x, z_x, h1, h2] <;> omega), (by first | omega | assumption | (simp (disch := first | omega | (simp; done) | fail) [wrap64c, if_pos, if_neg, opAnd, opOr, opXor, opDiff, opShr, opBit, hL, hgt, e1, e2, e7, e12, e13, e14, hlt, q_x, g_x, l_x, r_x, z_x, h1, h2] <;> omega)), (by first | omega | assumption | (simp (disch := first | omega | (simp; done) | fail) [wrap64c, if_pos, if_neg, opAnd, opOr, opXor, opDiff, opShr, opBit, hL, hgt, e1, e2, e7, e12, e13, e14, hlt, q_x, g_x, l_x, r_x, z_x, h1, h2] <;> omega)), (by first | omega | assumption | (simp (disch := first | omega | (simp; done) | fail) [wrap64c, if_pos, if_neg, opAnd, opOr, opXor, opDiff, opShr, opBit, hL, hgt, e1, e2, e7, e12, e13, e14, hlt, q_x, g_x, l_x, r_x, z_x, h1, h2] <;> omega)), (by rw [hs, if_pos rfl, toN_snoc]; exact hu2)⟩
        (case hm => first | omega | (simp; omega))
        (case hf => simp [FrameL, hL, hgt, e1, e2, e7, e12, e13, e14, hlt, q_x, g_x, l_x, r_x, z_x, h1, h2, f1_0, f2_0, f12_0, f13_0])
      · have hlb : leftB y z xs[j] = false := by unfold leftB; rw [h1]; simp [h2]
        rw [hlb] at hs
        try simp (disch := first | omega | (simp; done) | fail) [wrap64c, if_pos, if_neg, opAnd, opOr, opXor, opDiff, opShr, opBit, hL, hgt, e1, e2, e7, e12, e13, e14, hlt, q_x, g_x, l_x, r_x, z_x, h1, h2]
        refine loopK_next _ ?hm ?hf ⟨j + 1, u, rfl, (by simp (disch := first | omega | (simp; done) | fail) [wrap64c, if_pos, if_neg, opAnd, opOr, opXor, opDiff, opShr, opBit, hL, hgt, e1, e2, e7, e12, e13, e14, hlt, q_x, g_x, l_x, r_x, z_x, h1, h2] <;> omega), (by simp (disch := first | omega | (simp; done) | fail) [wrap64c, if_pos, if_neg, opAnd, opOr, opXor, opDiff, opShr, opBit, hL, hgt, e1, e2, e7, e12, e13, e14, hlt, q_x, g_x, l_x, r_x, z_x, h1, h2] <;> omega), (by first | omega | assumption | (simp (disch := first | omega | (simp; done) | fail) [wrap64c, if_pos, if_neg, opAnd, opOr, opXor, opDiff, opShr, opBit, hL, hgt, e1, e2, e7, e12, e13, e14, hlt, q_x, g_x, l_x, r_x, z_x, h1, h2] <;> omega)), (by first | omega | assumption | (simp (disch := first | omega | (simp; done) | fail) [wrap64c, if_pos, if_neg, opAnd, opOr, opXor, opDiff, opShr, opBit, hL, hgt, e1, e2, e7, e12, e13, e14, hlt, q_x, g_x, l_x, r_x, z_x, h1, h2] <;> omega)), (by first | omega | assumption | (simp (disch := first | omega | (simp; done) | fail) [wrap64c, if_pos, if_neg, opAnd, opOr, opXor, opDiff, opShr, opBit, hL, hgt, e1, e2, e7, e12, e13, e14, hlt, q_x, g_x, l_x, r_x, z_x, h1, h2] <;> omega)), (by rw [hs]; exact hu)⟩
        (case hm => first | omega | (simp; omega))
        (case hf => simp [FrameL, hL, hgt, e1, e2, e7, e12, e13, e14, hlt, q_x, g_x, l_x, r_x, z_x, h1, h2, f1_0, f2_0, f12_0, f13_0])
  · try simp (disch := first | omega | (simp; done) | fail) [wrap64c, if_pos, if_neg, opAnd, opOr, opXor, opDiff, opShr, opBit, hL, hgt, e1, e2, e7, e12, e13, e14, hlt]
    rw [List.take_of_length_le (by omega)] at hu
    have hle := left_len xs y z
    exact done_ret rfl ⟨ha, (hu.own (by simp; omega)).sub fun o ho => ⟨by have := ho.1; omega, ho.2⟩⟩
theorem spLeft_ok (h : Hp) (v : Value) (N : Int) (xs : List Nat) (y z : Nat) (hv : Space h v N (toN xs)) (hx : ∀ x ∈ xs, x < 128) (hl : xs.length < 2 ^ 39) (hy : y < 128) (hz : z < 128) :
    ∃ v' h', CallOK Try.prog 163 #[v, .int .i64 (y : Int), .int .i64 (z : Int)] h v' h' ∧ Adds h h' ∧ IntsO (Btw h.next h'.next) h' v' (toN (leftN xs y z)) := by
  refine callY_L (args := [v, .int .i64 (y : Int), .int .i64 (z : Int)]) 33 _ [.tmp 6] Try.func163 rfl rfl rfl ?_
  obtain ⟨b, rfl, hX⟩ := hv
  have hL := hX.lenD
  have hgt := toN_get xs
  have hln := toN_length xs
  try simp (disch := first | omega | (simp; done) | fail) [wrap64c, if_pos, if_neg, opAnd, opOr, opXor, opDiff, opShr, opBit, hL, hgt]
  refine WD_loopC [1, 2, 11, 12] (fun m tm h' => ∃ j u, m = xs.length - j ∧ tm 7 = u ∧ tm 13 = .int .i64 (j : Int) ∧ (j ≤ xs.length) ∧ (Adds h h') ∧ (h.next < h'.next) ∧ (IntsA (h.next + 1) h' u (toN (leftN (xs.take j) y z)))) _ ⟨0, _, rfl, (by simp (disch := first | omega | (simp; done) | fail) [wrap64c, if_pos, if_neg, opAnd, opOr, opXor, opDiff, opShr, opBit, hL, hgt]), (by simp (disch := first | omega | (simp; done) | fail) [wrap64c, if_pos, if_neg, opAnd, opOr, opXor, opDiff, opShr, opBit, hL, hgt]), (by first | omega | assumption | (simp (disch := first | omega | (simp; done) | fail) [wrap64c, if_pos, if_neg, opAnd, opOr, opXor, opDiff, opShr, opBit, hL, hgt] <;> omega)), (by first | exact aK | exact kK), (by simp), (.nil _ _)⟩ ?_
  rintro m tm h' hFr ⟨j, u, rfl, e7, e13, hj, ha, hn, hu⟩
  simp only [FrameL] at hFr
  obtain ⟨f1_0, f2_0, f11_0, f12_0, -⟩ := hFr
  try simp (disch := first | omega | (simp; done) | fail) [wrap64c, if_pos, if_neg, opAnd, opOr, opXor, opDiff, opShr, opBit, hL, hgt] at f1_0 f2_0 f11_0 f12_0
  have e1 := f1_0
  have e2 := f2_0
  have e11 := f11_0
  have e12 := f12_0
  by_cases hlt : j < xs.length
  · obtain ⟨o_x, i_x, c_x, cs_x, own_x, ex_x, es_x, q_x, b_x, g_x, l_x, r_x⟩ := (hX.keep ha.1).open ((by omega))
    have z_x : ∀ h2 : i_x < cs_x.length, cs_x[i_x] = _ := fun h2 => r_x 0 ((by omega)) h2
    have hx1 := hx _ (List.getElem_mem hlt)
    have hs := left_take hlt y z
    have hle := left_len (xs.take j) y z
    have htl : (xs.take j).length ≤ xs.length := by simp; omega
    have hab : nAnd z xs[j] ≤ z := nAnd_le _ _
    have hcm := nAnd_comm z xs[j]
    cases h1 : (ndiff y xs[j] == 0)
    · have hlb : leftB y z xs[j] = false := by unfold leftB; rw [h1]; rfl
      have h1' : ¬ ndiff y xs[j] = 0 := by simpa using h1
      rw [hlb] at hs
      try simp (disch := first | omega | (simp; done) | fail) [wrap64c, if_pos, if_neg, opAnd, opOr, opXor, opDiff, opShr, opBit, hL, hgt, e1, e2, e7, e11, e12, e13, hlt, q_x, g_x, l_x, r_x, z_x, hcm, h1']
      refine loopK_next _ ?hm ?hf ⟨j + 1, u, rfl, (by simp (disch := first | omega | (simp; done) | fail) [wrap64c, if_pos, if_neg, opAnd, opOr, opXor, opDiff, opShr, opBit, hL, hgt, e1, e2, e7, e11, e12, e13, hlt, q_x, g_x, l_x, r_x, z_x, hcm, h1'] <;> omega), (by simp (disch := first | omega | (simp; done) | fail) [wrap64c, if_pos, if_neg, opAnd, opOr, opXor, opDiff, opShr, opBit, hL, hgt, e1, e2, e7, e11, e12, e13, hlt, q_x, g_x, l_x, r_x, z_x, hcm, h1'] <;> omega), (by first | omega | assumption | (simp (disch := first | omega | (simp; done) | fail) [wrap64c, if_pos, if_neg, opAnd, opOr, opXor, opDiff, opShr, opBit, hL, hgt, e1, e2, e7, e11, e12, e13, hlt, q_x, g_x, l_x, r_x, z_x, hcm, h1'] <;> omega)), (by first | omega | assumption | (simp (disch := first | omega | (simp; done) | fail) [wrap64c, if_pos, if_neg, opAnd, opOr, opXor, opDiff, opShr, opBit, hL, hgt, e1, e2, e7, e11, e12, e13, hlt, q_x, g_x, l_x, r_x, z_x, hcm, h1'] <;> omega)), (by first | omega | assumption | (simp (disch := first | omega | (simp; done) | fail) [wrap64c, if_pos, if_neg, opAnd, opOr, opXor, opDiff, opShr, opBit, hL, hgt, e1, e2, e7, e11, e12, e13, hlt, q_x, g_x, l_x, r_x, z_x, hcm, h1'] <;> omega)), (by rw [hs]; exact hu)⟩
      (case hm => first | omega | (simp; omega))
      (case hf => simp [FrameL, hL, hgt, e1, e2, e7, e11, e12, e13, hlt, q_x, g_x, l_x, r_x, z_x, hcm, h1', f1_0, f2_0, f11_0, f12_0])
    · have h1' : ndiff y xs[j] = 0 := by simpa using h1
      by_cases h2 : nAnd xs[j] z = 0
      · have hlb : leftB y z xs[j] = true := by unfold leftB; rw [h1, h2]; rfl
        rw [hlb] at hs
        try simp (disch := first | omega | (simp; done) | fail) [wrap64c, if_pos, if_neg, opAnd, opOr, opXor, opDiff, opShr, opBit, hL, hgt, e1, e2, e7, e11, e12, e13, hlt, q_x, g_x, l_x, r_x, z_x, hcm, h1', h2]
        obtain ⟨u2, h2', hap, hu2, ha2, hn2, hs2⟩ := appI hu (xs[j] : Int) (by simp; omega) hn ha (by omega)
        try simp (disch := first | omega | (simp; done) | fail) [wrap64c, if_pos, if_neg, opAnd, opOr, opXor, opDiff, opShr, opBit, hL, hgt, e1, e2, e7, e11, e12, e13, hlt, q_x, g_x, l_x, r_x, z_x, hcm, h1', h2, hap]
        refine loopK_next _ ?hm ?hf ⟨j + 1, u2, rfl, (by simp (disch := first | omega | (simp; done) | fail) [wrap64c, if_pos, if_neg, opAnd, opOr, opXor, opDiff, opShr, opBit, hL, hgt, e1, e2, e7, e11, e12, e13, hlt, q_x, g_x, l_x, r_x, z_x, hcm, h1', h2] <;> omega), (by simp (disch := first | omega | (simp; done) | fail) [wrap64c, if_pos, if_neg, opAnd, opOr, opXor, opDiff, opShr, opBit, hL, hgt, e1, e2, e7, e11, e12, e13, hlt, q_x, g_x, l_x, r_x, z_x, hcm, h1', h2] <;> omega), (by first | omega | assumption | (simp (disch := first | omega | (simp; done) | fail) [wrap64c, if_pos, if_neg, opAnd, opOr, opXor, opDiff, opShr, opBit, hL, hgt, e1, e2, e7, e11, e12, e13, hlt, q_x, g_x, l_x, r_x, z_x, hcm, h1', h2] <;> omega)), (by first | omega | assumption | (simp (disch := first | omega | (simp; done) | fail) [wrap64c, if_pos, if_neg, opAnd, opOr, opXor, opDiff, opShr, opBit, hL, hgt, e1, e2, e7, e11, e12, e13, hlt, q_x, g_x, l_x, r_x, z_x, hcm, h1', h2] <;> omega)), (by first | omega | assumption | (simp (disch := first | omega | (simp; done) | fail) [wrap64c, if_pos, if_neg, opAnd, opOr, opXor, opDiff, opShr, opBit, hL, hgt, e1, e2, e7, e11, e12, e13, hlt, q_x, g_x, l_x, r_x, z_x, hcm, h1', h2] <;> omega)), (by rw [hs, if_pos rfl, toN_snoc]; exact hu2)⟩
        (case hm => first | omega | (simp; omega))
        (case hf => simp [FrameL, hL, hgt, e1, e2, e7, e11, e12, e13, hlt, q_x, g_x, l_x, r_x, z_x, hcm, h1', h2, f1_0, f2_0, f11_0, f12_0])
      · have hlb : leftB y z xs[j] = false := by unfold leftB; rw [h1]; simp [h2]
        rw [hlb] at hs
        try simp (disch := first | omega | (simp; done) | fail) [wrap64c, if_pos, if_neg, opAnd, opOr, opXor, opDiff, opShr, opBit, hL, hgt, e1, e2, e7, e11, e12, e13, hlt, q_x, g_x, l_x, r_x, z_x, hcm, h1', h2]
        refine loopK_next _ ?hm ?hf ⟨j + 1, u, rfl, (by simp (disch := first | omega | (simp; done) | fail) [wrap64c, if_pos, if_neg, opAnd, opOr, opXor, opDiff, opShr, opBit, hL, hgt, e1, e2, e7, e11, e12, e13, hlt, q_x, g_x, l_x, r_x, z_x, hcm, h1', h2] <;> omega), (by simp (disch := first | omega | (simp; done) | fail) [wrap64c, if_pos, if_neg, opAnd, opOr, opXor, opDiff, opShr, opBit, hL, hgt, e1, e2, e7, e11, e12, e13, hlt, q_x, g_x, l_x, r_x, z_x, hcm, h1', h2] <;> omega), (by first | omega | assumption | (simp (disch := first | omega | (simp; done) | fail) [wrap64c, if_pos, if_neg, opAnd, opOr, opXor, opDiff, opShr, opBit, hL, hgt, e1, e2, e7, e11, e12, e13, hlt, q_x, g_x, l_x, r_x, z_x, hcm, h1', h2] <;> omega)), (by first | omega | assumption | (simp (disch := first | omega | (simp; done) | fail) [wrap64c, if_pos, if_neg, opAnd, opOr, opXor, opDiff, opShr, opBit, hL, hgt, e1, e2, e7, e11, e12, e13, hlt, q_x, g_x, l_x, r_x, z_x, hcm, h1', h2] <;> omega)), (by first | omega | assumption | (simp (disch := first | omega | (simp; done) | fail) [wrap64c, if_pos, if_neg, opAnd, opOr, opXor, opDiff, opShr, opBit, hL, hgt, e1, e2, e7, e11, e12, e13, hlt, q_x, g_x, l_x, r_x, z_x, hcm, h1', h2] <;> omega)), (by rw [hs]; exact hu)⟩
        (case hm => first | omega | (simp; omega))
        (case hf => simp [FrameL, hL, hgt, e1, e2, e7, e11, e12, e13, hlt, q_x, g_x, l_x, r_x, z_x, hcm, h1', h2, f1_0, f2_0, f11_0, f12_0])
  · try simp (disch := first | omega | (simp; done) | fail) [wrap64c, if_pos, if_neg, opAnd, opOr, opXor, opDiff, opShr, opBit, hL, hgt, e1, e2, e7, e11, e12, e13, hlt]
    rw [List.take_of_length_le (by omega)] at hu
    have hle := left_len xs y z
    exact done_ret rfl ⟨ha, (hu.own (by simp; omega)).sub fun o ho => ⟨by have := ho.1; omega, ho.2⟩⟩
theorem foldOr_bit : ∀ (L : List Nat) (a i : Nat), (L.foldl nOr a).testBit i = (a.testBit i || L.any fun x => x.testBit i)
  | [], a, i => by simp
  | x :: L, a, i => by rw [List.foldl_cons, foldOr_bit L, nOr_bit, List.any_cons, Bool.or_assoc]
theorem foldAnd_bit : ∀ (L : List Nat) (a i : Nat), (L.foldl nAnd a).testBit i = (a.testBit i && L.all fun x => x.testBit i)
  | [], a, i => by simp
  | x :: L, a, i => by rw [List.foldl_cons, foldAnd_bit L, nAnd_bit, List.all_cons, Bool.and_assoc]
theorem foldDiff_bit : ∀ (L : List Nat) (a i : Nat), (L.foldl ndiff a).testBit i = (a.testBit i && L.all fun x => !x.testBit i)
  | [], a, i => by simp
  | x :: L, a, i => by rw [List.foldl_cons, foldDiff_bit L, ndiff_bit, List.all_cons, Bool.and_assoc]
theorem all_not (L : List Nat) (i : Nat) : (L.all fun x => x.testBit i) = !L.any fun x => !x.testBit i := by
  induction L with
  | nil => rfl
  | cons x L ih => simp only [List.all_cons, List.any_cons, ih]; cases x.testBit i <;> simp
theorem items_open (L : List Nat) : itemsN (ndiff (L.foldl nOr 0) (L.foldl nAnd 127)) = openN L := by
  unfold itemsN openN openK
  apply List.filter_congr
  intro i hi
  have hi7 : i < 7 := List.mem_range.1 hi
  have h127 : (127 : Nat).testBit i = true := by
    have := full_bit 7 i
    rw [show bit 7 - 1 = 127 from rfl] at this
    simpa [hi7] using this
  rw [ndiff_bit, foldOr_bit, foldAnd_bit, Nat.zero_testBit, Bool.false_or, h127, Bool.true_and, all_not, Bool.not_not]
  rfl
theorem fold_take {L : List Nat} {j : Nat} (hj : j < L.length) (f : Nat → Nat → Nat) (a : Nat) : (L.take (j + 1)).foldl f a = f ((L.take j).foldl f a) L[j] := by
  rw [List.take_succ_eq_append_getElem hj, List.foldl_append]; rfl
theorem foldOr_lt {L : List Nat} (hL : ∀ x ∈ L, x < 128) {a : Nat} (ha : a < 128) : L.foldl nOr a < 128 := by
  induction L generalizing a with
  | nil => exact ha
  | cons x L ih => exact ih (fun y hy => hL y (by simp [hy])) (nOr128 ha (hL x (by simp)))
theorem foldAnd_le (L : List Nat) (a : Nat) : L.foldl nAnd a ≤ a := by
  induction L generalizing a with
  | nil => exact Nat.le_refl _
  | cons x L ih => exact Nat.le_trans (ih _) (nAnd_le _ _)
theorem open_ok (h : Hp) (v : Value) (L : List Nat) (hv : Ints h v (toN L)) (hx : ∀ x ∈ L, x < 128) (hl : L.length < 2 ^ 39) :
    ∃ v' h', CallOK Try.prog 235 #[v] h v' h' ∧ Adds h h' ∧ IntsO (Btw h.next h'.next) h' v' (toN (openN L)) := by
  refine callY_L (args := [v]) 24 _ [.tmp 2] Try.func235 rfl rfl rfl ?_
  have hL := hv.lenD
  have hgt := toN_get L
  have hln := toN_length L
  try simp (disch := first | omega | (simp; done) | fail) [wrap64c, if_pos, if_neg, opAnd, opOr, opXor, opDiff, opShr, opBit, hL, hgt]
  refine WD_loopC [7, 8] (fun m tm h' => ∃ j, m = L.length - j ∧ h = h' ∧ tm 3 = .int .i64 (((L.take j).foldl nAnd 127 : Nat) : Int) ∧ tm 4 = .int .i64 (((L.take j).foldl nOr 0 : Nat) : Int) ∧ tm 9 = .int .i64 (j : Int) ∧ (j ≤ L.length)) _ ⟨0, rfl, rfl, (by simp (disch := first | omega | (simp; done) | fail) [wrap64c, if_pos, if_neg, opAnd, opOr, opXor, opDiff, opShr, opBit, hL, hgt]), (by simp (disch := first | omega | (simp; done) | fail) [wrap64c, if_pos, if_neg, opAnd, opOr, opXor, opDiff, opShr, opBit, hL, hgt]), (by simp (disch := first | omega | (simp; done) | fail) [wrap64c, if_pos, if_neg, opAnd, opOr, opXor, opDiff, opShr, opBit, hL, hgt]), (by first | omega | assumption | (simp (disch := first | omega | (simp; done) | fail) [wrap64c, if_pos, if_neg, opAnd, opOr, opXor, opDiff, opShr, opBit, hL, hgt] <;> omega))⟩ ?_
  rintro m tm h' hFr ⟨j, rfl, rfl, e3, e4, e9, hj⟩
  simp only [FrameL] at hFr
  obtain ⟨f7_0, f8_0, -⟩ := hFr
  try simp (disch := first | omega | (simp; done) | fail) [wrap64c, if_pos, if_neg, opAnd, opOr, opXor, opDiff, opShr, opBit, hL, hgt] at f7_0 f8_0
  have e7 := f7_0
  have e8 := f8_0
  have hbo := foldOr_lt (L := L.take j) (fun x hm => hx x (List.mem_of_mem_take hm)) (a := 0) (by omega)
  have hba := foldAnd_le (L.take j) 127
  by_cases hlt : j < L.length
  · obtain ⟨o_x, i_x, c_x, cs_x, own_x, ex_x, es_x, q_x, b_x, g_x, l_x, r_x⟩ := hv.open ((by omega))
    have z_x : ∀ h2 : i_x < cs_x.length, cs_x[i_x] = _ := fun h2 => r_x 0 ((by omega)) h2
    have hx1 := hx _ (List.getElem_mem hlt)
    have h1 := fold_take hlt nAnd 127
    have h2 := fold_take hlt nOr 0
    try simp (disch := first | omega | (simp; done) | fail) [wrap64c, if_pos, if_neg, opAnd, opOr, opXor, opDiff, opShr, opBit, hL, hgt, e3, e4, e7, e8, e9, hlt, q_x, g_x, l_x, r_x, z_x]
    refine loopK_next _ ?hm ?hf ⟨j + 1, rfl, rfl, (by simp [h1]), (by simp [h2]), (by simp (disch := first | omega | (simp; done) | fail) [wrap64c, if_pos, if_neg, opAnd, opOr, opXor, opDiff, opShr, opBit, hL, hgt, e3, e4, e7, e8, e9, hlt, q_x, g_x, l_x, r_x, z_x] <;> omega), (by first | omega | assumption | (simp (disch := first | omega | (simp; done) | fail) [wrap64c, if_pos, if_neg, opAnd, opOr, opXor, opDiff, opShr, opBit, hL, hgt, e3, e4, e7, e8, e9, hlt, q_x, g_x, l_x, r_x, z_x] <;> omega))⟩
    (case hm => first | omega | (simp; omega))
    (case hf => simp [FrameL, hL, hgt, e3, e4, e7, e8, e9, hlt, q_x, g_x, l_x, r_x, z_x, f7_0, f8_0])
  · rw [List.take_of_length_le (by omega)] at hbo hba e3 e4
    have hd := ndiff128 (b := L.foldl nAnd 127) hbo
    try simp (disch := first | omega | (simp; done) | fail) [wrap64c, if_pos, if_neg, opAnd, opOr, opXor, opDiff, opShr, opBit, hL, hgt, e3, e4, e7, e8, e9, hlt]
    obtain ⟨u, h1, hc1, ha1, hi1, _⟩ := items_ok h (ndiff (L.foldl nOr 0) (L.foldl nAnd 127)) (by omega)
    refine callG_c (by simp) (by simp) ?ha (hc1) ?_
    (case ha => simp (disch := first | omega | (simp; done) | fail) [wrap64c, if_pos, if_neg, opAnd, opOr, opXor, opDiff, opShr, opBit, hL, hgt, e3, e4, e7, e8, e9, hlt])
    try simp (disch := first | omega | (simp; done) | fail) [wrap64c, if_pos, if_neg, opAnd, opOr, opXor, opDiff, opShr, opBit, hL, hgt, e3, e4, e7, e8, e9, hlt]
    rw [items_open] at hi1
    exact done_ret rfl ⟨ha1, hi1⟩
theorem has_take {L : List Nat} {j : Nat} (hj : j < L.length) (i : Nat) : ((hasL (L.take (j + 1)) i).length : Int) = (hasL (L.take j) i).length + if L[j].testBit i = true then 1 else 0 := by
  unfold hasL
  rw [List.take_succ_eq_append_getElem hj, List.filter_append]
  by_cases h : L[j].testBit i = true <;> simp [h]
theorem has_take_le (L : List Nat) (j i : Nat) : (hasL (L.take j) i).length ≤ L.length := by
  have h1 : (hasL (L.take j) i).length ≤ (L.take j).length := List.length_filter_le _ _
  have h2 : (L.take j).length ≤ L.length := by simp; omega
  omega
def AskC (N : Int) (b m1 m2 : Value) : List Value := [.int .i64 N, b, m1, m2]
theorem half_ok (h : Hp) (o : Nat) (N : Int) (b m1 m2 : Value) (own ex : Bool) (es : Nat) (xs : List Nat) (y z : Nat) (ho : o < h.next) (hg : h.get o = .cells [.int .i64 N, b, m1, m2] own ex es) (hX : Ints h b (toN xs))
    (hx : ∀ x ∈ xs, x < 128) (hl : xs.length < 2 ^ 39) (hy : y < 128) (hz : z < 128) :
    CallOK Try.prog 167 #[.pointer (some ⟨o, 0, none⟩), .int .i64 (y : Int), .int .i64 (z : Int)] h (.int .i64 (halfN (leftN xs y z))) h := by
  refine callY_P 59 _ [.tmp 6] Try.func167 rfl rfl rfl (by first | rfl | simp) ?_
  have hg0 := hg
  try simp (disch := first | omega | (simp; done) | fail) [wrap64c, if_pos, if_neg, opAnd, opOr, opXor, opDiff, opShr, opBit, hg0]
  obtain ⟨v1, h1, hc1, ha1, hi1⟩ := imLeft_ok h (.agg #[.int .i64 N, b]) N xs y z (.mk hX) hx hl hy hz
  refine callG_c (by simp) (by simp) ?ha (hc1) ?_
  (case ha => simp (disch := first | omega | (simp; done) | fail) [wrap64c, if_pos, if_neg, opAnd, opOr, opXor, opDiff, opShr, opBit, hg0])
  obtain ⟨L, hLe⟩ : ∃ L, L = leftN xs y z := ⟨_, rfl⟩
  have hLx : ∀ x ∈ L, x < 128 := fun x hm => hx x (left_sub (hLe ▸ hm))
  have hLl : L.length < 2 ^ 39 := by have := left_len xs y z; rw [hLe]; omega
  rw [← hLe] at hi1
  try simp (disch := first | omega | (simp; done) | fail) [wrap64c, if_pos, if_neg, opAnd, opOr, opXor, opDiff, opShr, opBit, hg0]
  obtain ⟨v2, h2, hc2, ha2, hi2⟩ := open_ok h1 v1 L hi1.ints hLx hLl
  refine callG_c (by simp) (by simp) ?ha (hc2) ?_
  (case ha => simp (disch := first | omega | (simp; done) | fail) [wrap64c, if_pos, if_neg, opAnd, opOr, opXor, opDiff, opShr, opBit, hg0])
  have hv1 := hi1.ints.keep ha2.1
  have hM1 := hv1.lenD
  have hM2 := hi2.ints.lenD
  have hgt1 := toN_get L
  have hgt2 := toN_get (openN L)
  have hln1 := toN_length L
  have hln2 := toN_length (openN L)
  have hol : (openN L).length ≤ 7 := openK_len L 7
  have K2 := ha1.1.trans ha2.1
  try simp (disch := first | omega | (simp; done) | fail) [wrap64c, if_pos, if_neg, opAnd, opOr, opXor, opDiff, opShr, opBit, hg0, hM1, hM2, hgt1, hgt2]
  refine WD_loopC [9, 23, 24] (fun m tm h' => ∃ j, m = (openN L).length - j ∧ h2 = h' ∧ tm 7 = .int .i64 (halfS L ((openN L).take j)).1 ∧ tm 8 = .int .i64 ((halfS L ((openN L).take j)).2 : Int) ∧ tm 25 = .int .i64 (j : Int) ∧ (j ≤ (openN L).length)) _ ⟨0, rfl, rfl, (by simp [halfS]), (by simp [halfS]), (by simp (disch := first | omega | (simp; done) | fail) [wrap64c, if_pos, if_neg, opAnd, opOr, opXor, opDiff, opShr, opBit, hg0, hM1, hM2, hgt1, hgt2]), (by first | omega | assumption | (simp (disch := first | omega | (simp; done) | fail) [wrap64c, if_pos, if_neg, opAnd, opOr, opXor, opDiff, opShr, opBit, hg0, hM1, hM2, hgt1, hgt2] <;> omega))⟩ ?_
  rintro m tm h' hFr ⟨j, rfl, rfl, e7, e8, e25, hj⟩
  simp only [FrameL] at hFr
  obtain ⟨f9_0, f23_0, f24_0, -⟩ := hFr
  try simp (disch := first | omega | (simp; done) | fail) [wrap64c, if_pos, if_neg, opAnd, opOr, opXor, opDiff, opShr, opBit, hg0, hM1, hM2, hgt1, hgt2] at f9_0 f23_0 f24_0
  have e9 := f9_0
  have e23 := f23_0
  have e24 := f24_0
  by_cases hlt : j < (openN L).length
  · obtain ⟨o_x, i_x, c_x, cs_x, own_x, ex_x, es_x, q_x, b_x, g_x, l_x, r_x⟩ := hi2.ints.open ((by omega))
    have z_x : ∀ h2 : i_x < cs_x.length, cs_x[i_x] = _ := fun h2 => r_x 0 ((by omega)) h2
    obtain ⟨i, hi⟩ : ∃ i, i = (openN L)[j] := ⟨_, rfl⟩
    have hi7 : i < 7 := by rw [hi]; exact (mem_openK.1 (List.getElem_mem hlt)).1
    have hi' := hi.symm
    try simp (disch := first | omega | (simp; done) | fail) [wrap64c, if_pos, if_neg, opAnd, opOr, opXor, opDiff, opShr, opBit, hg0, hM1, hM2, hgt1, hgt2, e7, e8, e9, e23, e24, e25, hlt, q_x, g_x, l_x, r_x, z_x, hi']
    refine WD_loopC [7, 8, 9, 11, 23, 24, 25, 29, 30] (fun m tm h' => ∃ k, m = L.length - k ∧ h2 = h' ∧ tm 12 = .int .i64 (2 * ((hasL (L.take k) i).length : Int) - (k : Int)) ∧ tm 31 = .int .i64 (k : Int) ∧ (k ≤ L.length)) _ ⟨0, rfl, rfl, (by simp [hasL]), (by simp (disch := first | omega | (simp; done) | fail) [wrap64c, if_pos, if_neg, opAnd, opOr, opXor, opDiff, opShr, opBit, hg0, hM1, hM2, hgt1, hgt2, e7, e8, e9, e23, e24, e25, hlt, q_x, g_x, l_x, r_x, z_x, hi']), (by first | omega | assumption | (simp (disch := first | omega | (simp; done) | fail) [wrap64c, if_pos, if_neg, opAnd, opOr, opXor, opDiff, opShr, opBit, hg0, hM1, hM2, hgt1, hgt2, e7, e8, e9, e23, e24, e25, hlt, q_x, g_x, l_x, r_x, z_x, hi'] <;> omega))⟩ ?_
    rintro m tm h' hFr ⟨k, rfl, rfl, e12, e31, hk⟩
    simp only [FrameL] at hFr
    obtain ⟨f7_1, f8_1, f9_1, f11_1, f23_1, f24_1, f25_1, f29_1, f30_1, -⟩ := hFr
    try simp (disch := first | omega | (simp; done) | fail) [wrap64c, if_pos, if_neg, opAnd, opOr, opXor, opDiff, opShr, opBit, hg0, hM1, hM2, hgt1, hgt2, e7, e8, e9, e23, e24, e25, hlt, q_x, g_x, l_x, r_x, z_x, hi'] at f7_1 f8_1 f9_1 f11_1 f23_1 f24_1 f25_1 f29_1 f30_1
    have e7 := f7_1
    have e8 := f8_1
    have e9 := f9_1
    have e11 := f11_1
    have e23 := f23_1
    have e24 := f24_1
    have e25 := f25_1
    have e29 := f29_1
    have e30 := f30_1
    have hhl := has_take_le L k i
    by_cases hlk : k < L.length
    · obtain ⟨o_w, i_w, c_w, cs_w, own_w, ex_w, es_w, q_w, b_w, g_w, l_w, r_w⟩ := hv1.open ((by omega))
      have z_w : ∀ h2 : i_w < cs_w.length, cs_w[i_w] = _ := fun h2 => r_w 0 ((by omega)) h2
      have h01 := nShr_and01 L[k] i
      have hsl := nShr_le L[k] i
      have hx1 := hLx _ (List.getElem_mem hlk)
      have hht := has_take hlk i
      have hx01 : nAnd (nShr L[k] i) 1 ≤ 1 := nAnd_le' _ _
      try simp (disch := first | omega | (simp; done) | fail) [wrap64c, if_pos, if_neg, opAnd, opOr, opXor, opDiff, opShr, opBit, hg0, hM1, hM2, hgt1, hgt2, e7, e8, e9, e23, e24, e25, hlt, q_x, g_x, l_x, r_x, z_x, hi', e11, e12, e29, e30, e31, hlk, q_w, g_w, l_w, r_w, z_w]
      refine loopK_next _ ?hm ?hf ⟨k + 1, rfl, rfl, ?c_12, (by simp (disch := first | omega | (simp; done) | fail) [wrap64c, if_pos, if_neg, opAnd, opOr, opXor, opDiff, opShr, opBit, hg0, hM1, hM2, hgt1, hgt2, e7, e8, e9, e23, e24, e25, hlt, q_x, g_x, l_x, r_x, z_x, hi', e11, e12, e29, e30, e31, hlk, q_w, g_w, l_w, r_w, z_w] <;> omega), (by first | omega | assumption | (simp (disch := first | omega | (simp; done) | fail) [wrap64c, if_pos, if_neg, opAnd, opOr, opXor, opDiff, opShr, opBit, hg0, hM1, hM2, hgt1, hgt2, e7, e8, e9, e23, e24, e25, hlt, q_x, g_x, l_x, r_x, z_x, hi', e11, e12, e29, e30, e31, hlk, q_w, g_w, l_w, r_w, z_w] <;> omega))⟩
      (case hm => first | omega | (simp; omega))
      (case hf => simp [FrameL, hg0, hM1, hM2, hgt1, hgt2, e7, e8, e9, e23, e24, e25, hlt, q_x, g_x, l_x, r_x, z_x, hi', e11, e12, e29, e30, e31, hlk, q_w, g_w, l_w, r_w, z_w, f7_1, f8_1, f9_1, f11_1, f23_1, f24_1, f25_1, f29_1, f30_1])
      case c_12 =>
        exact (by
          simp [h01, hht]
          split <;> omega)
    · have hke : k = L.length := by omega
      have hft : L.take k = L := List.take_of_length_le (by omega)
      rw [hft] at e12 hhl
      obtain ⟨d, hd⟩ : ∃ d : Int, d = 2 * ((hasL L i).length : Int) - (k : Int) := ⟨_, rfl⟩
      rw [← hd] at e12
      have hmx : (if d < -d then -d else d) = (distN L i : Int) := by
        unfold distN
        rw [hke] at hd
        rw [← hd]
        split <;> omega
      have hmx := hmx
      obtain ⟨s1, hs1⟩ : ∃ s1, s1 = (halfS L ((openN L).take j)).1 := ⟨_, rfl⟩
      obtain ⟨s2, hs2⟩ : ∃ s2, s2 = (halfS L ((openN L).take j)).2 := ⟨_, rfl⟩
      have hsn : halfS L ((openN L).take (j + 1)) = if s1 < 0 ∨ distN L i < s2 then ((i : Int), distN L i) else halfS L ((openN L).take j) := by
        rw [List.take_succ_eq_append_getElem hlt, halfS_snoc, ← hi, hs1, hs2]
      rw [← hs1] at e7
      rw [← hs2] at e8
      by_cases c1 : s1 < 0
      · rw [if_pos (.inl c1)] at hsn
        try simp (disch := first | omega | (simp; done) | fail) [wrap64c, if_pos, if_neg, opAnd, opOr, opXor, opDiff, opShr, opBit, hg0, hM1, hM2, hgt1, hgt2, e7, e8, e9, e23, e24, e25, hlt, q_x, g_x, l_x, r_x, z_x, hi', e11, e12, e29, e30, e31, hlk, hmx, c1]
        refine loopK_next _ ?hm ?hf ⟨j + 1, rfl, rfl, (by simp [hsn]), (by simp [hsn]), (by simp (disch := first | omega | (simp; done) | fail) [wrap64c, if_pos, if_neg, opAnd, opOr, opXor, opDiff, opShr, opBit, hg0, hM1, hM2, hgt1, hgt2, e7, e8, e9, e23, e24, e25, hlt, q_x, g_x, l_x, r_x, z_x, hi', e11, e12, e29, e30, e31, hlk, hmx, c1] <;> omega), (by first | omega | assumption | (simp (disch := first | omega | (simp; done) | fail) [wrap64c, if_pos, if_neg, opAnd, opOr, opXor, opDiff, opShr, opBit, hg0, hM1, hM2, hgt1, hgt2, e7, e8, e9, e23, e24, e25, hlt, q_x, g_x, l_x, r_x, z_x, hi', e11, e12, e29, e30, e31, hlk, hmx, c1] <;> omega))⟩
        (case hm => first | omega | (simp; omega))
        (case hf => simp [FrameL, hg0, hM1, hM2, hgt1, hgt2, e7, e8, e9, e23, e24, e25, hlt, q_x, g_x, l_x, r_x, z_x, hi', e11, e12, e29, e30, e31, hlk, hmx, c1, f9_0, f23_0, f24_0])
      · by_cases c2 : distN L i < s2
        · rw [if_pos (.inr c2)] at hsn
          try simp (disch := first | omega | (simp; done) | fail) [wrap64c, if_pos, if_neg, opAnd, opOr, opXor, opDiff, opShr, opBit, hg0, hM1, hM2, hgt1, hgt2, e7, e8, e9, e23, e24, e25, hlt, q_x, g_x, l_x, r_x, z_x, hi', e11, e12, e29, e30, e31, hlk, hmx, c1, c2]
          refine loopK_next _ ?hm ?hf ⟨j + 1, rfl, rfl, (by simp [hsn]), (by simp [hsn]), (by simp (disch := first | omega | (simp; done) | fail) [wrap64c, if_pos, if_neg, opAnd, opOr, opXor, opDiff, opShr, opBit, hg0, hM1, hM2, hgt1, hgt2, e7, e8, e9, e23, e24, e25, hlt, q_x, g_x, l_x, r_x, z_x, hi', e11, e12, e29, e30, e31, hlk, hmx, c1, c2] <;> omega), (by first | omega | assumption | (simp (disch := first | omega | (simp; done) | fail) [wrap64c, if_pos, if_neg, opAnd, opOr, opXor, opDiff, opShr, opBit, hg0, hM1, hM2, hgt1, hgt2, e7, e8, e9, e23, e24, e25, hlt, q_x, g_x, l_x, r_x, z_x, hi', e11, e12, e29, e30, e31, hlk, hmx, c1, c2] <;> omega))⟩
          (case hm => first | omega | (simp; omega))
          (case hf => simp [FrameL, hg0, hM1, hM2, hgt1, hgt2, e7, e8, e9, e23, e24, e25, hlt, q_x, g_x, l_x, r_x, z_x, hi', e11, e12, e29, e30, e31, hlk, hmx, c1, c2, f9_0, f23_0, f24_0])
        · rw [if_neg (by omega)] at hsn
          try simp (disch := first | omega | (simp; done) | fail) [wrap64c, if_pos, if_neg, opAnd, opOr, opXor, opDiff, opShr, opBit, hg0, hM1, hM2, hgt1, hgt2, e7, e8, e9, e23, e24, e25, hlt, q_x, g_x, l_x, r_x, z_x, hi', e11, e12, e29, e30, e31, hlk, hmx, c1, c2]
          refine loopK_next _ ?hm ?hf ⟨j + 1, rfl, rfl, (by simp [hsn, e7, hs1]), (by simp [hsn, e8, hs2]), (by simp (disch := first | omega | (simp; done) | fail) [wrap64c, if_pos, if_neg, opAnd, opOr, opXor, opDiff, opShr, opBit, hg0, hM1, hM2, hgt1, hgt2, e7, e8, e9, e23, e24, e25, hlt, q_x, g_x, l_x, r_x, z_x, hi', e11, e12, e29, e30, e31, hlk, hmx, c1, c2] <;> omega), (by first | omega | assumption | (simp (disch := first | omega | (simp; done) | fail) [wrap64c, if_pos, if_neg, opAnd, opOr, opXor, opDiff, opShr, opBit, hg0, hM1, hM2, hgt1, hgt2, e7, e8, e9, e23, e24, e25, hlt, q_x, g_x, l_x, r_x, z_x, hi', e11, e12, e29, e30, e31, hlk, hmx, c1, c2] <;> omega))⟩
          (case hm => first | omega | (simp; omega))
          (case hf => simp [FrameL, hg0, hM1, hM2, hgt1, hgt2, e7, e8, e9, e23, e24, e25, hlt, q_x, g_x, l_x, r_x, z_x, hi', e11, e12, e29, e30, e31, hlk, hmx, c1, c2, f9_0, f23_0, f24_0])
  · try simp (disch := first | omega | (simp; done) | fail) [wrap64c, if_pos, if_neg, opAnd, opOr, opXor, opDiff, opShr, opBit, hg0, hM1, hM2, hgt1, hgt2, e7, e8, e9, e23, e24, e25, hlt]
    have hft : (openN L).take j = openN L := List.take_of_length_le (by omega)
    exact done_ret rfl (by simp [← hLe, halfN, hft, K2])
theorem asKnown_ok (h : Hp) (v w : Value) (n : Nat) (X : List Int) (L : List Nat) (hv : Space h v n X) (hw : Ints h w (toN L)) (hn : n ≤ 7) (hx : ∀ x ∈ L, x < 128) (hl : L.length < 2 ^ 39) :
    CallOK Try.prog 170 #[v, w] h (.tuple #[.int .i64 ((L.foldl nAnd (bit n - 1) : Nat) : Int), .int .i64 ((L.foldl ndiff (bit n - 1) : Nat) : Int)]) h := by
  refine callY_P 32 _ [.tmp 4, .tmp 5] Try.func170 rfl rfl rfl (by first | rfl | simp) ?_
  obtain ⟨b, rfl, hX⟩ := hv
  refine WD_first ?_
  try simp (disch := first | omega | (simp; done) | fail) [wrap64c, if_pos, if_neg, opAnd, opOr, opXor, opDiff, opShr, opBit]
  refine stopK_heap fun h0 q_h0 => ?_
  refine stopK_go ?_
  have g_h0 : h0.get h.next = .cells [.int .i64 (n : Int), b] true true 1 := by simp [q_h0]
  have k_h0 : Adds h h0 := by rw [q_h0]; exact (by first | exact aK | exact kK)
  have n_h0 : h.next < h0.next := by simp [q_h0]; try omega
  have hw0 := hw.keep k_h0.1
  have hL := hw0.lenD
  have hgt := toN_get L
  have hln := toN_length L
  have hb := bit7 hn
  have hf1 : ((bit n : Nat) : Int) - 1 = ((bit n - 1 : Nat) : Int) := by omega
  try simp (disch := first | omega | (simp; done) | fail) [wrap64c, if_pos, if_neg, opAnd, opOr, opXor, opDiff, opShr, opBit, g_h0, hL, hgt, hf1]
  refine WD_loopC [17, 18] (fun m tm h' => ∃ j, m = L.length - j ∧ h0 = h' ∧ tm 7 = .int .i64 (((L.take j).foldl nAnd (bit n - 1) : Nat) : Int) ∧ tm 8 = .int .i64 (((L.take j).foldl ndiff (bit n - 1) : Nat) : Int) ∧ tm 19 = .int .i64 (j : Int) ∧ (j ≤ L.length) ∧ ((L.take j).foldl ndiff (bit n - 1) < 128)) _ ⟨0, rfl, rfl, (by simp (disch := first | omega | (simp; done) | fail) [wrap64c, if_pos, if_neg, opAnd, opOr, opXor, opDiff, opShr, opBit, g_h0, hL, hgt, hf1]), (by simp (disch := first | omega | (simp; done) | fail) [wrap64c, if_pos, if_neg, opAnd, opOr, opXor, opDiff, opShr, opBit, g_h0, hL, hgt, hf1]), (by simp (disch := first | omega | (simp; done) | fail) [wrap64c, if_pos, if_neg, opAnd, opOr, opXor, opDiff, opShr, opBit, g_h0, hL, hgt, hf1]), (by first | omega | assumption | (simp (disch := first | omega | (simp; done) | fail) [wrap64c, if_pos, if_neg, opAnd, opOr, opXor, opDiff, opShr, opBit, g_h0, hL, hgt, hf1] <;> omega)), (by simp; omega)⟩ ?_
  rintro m tm h' hFr ⟨j, rfl, rfl, e7, e8, e19, hj, hb2⟩
  simp only [FrameL] at hFr
  obtain ⟨f17_0, f18_0, -⟩ := hFr
  try simp (disch := first | omega | (simp; done) | fail) [wrap64c, if_pos, if_neg, opAnd, opOr, opXor, opDiff, opShr, opBit, g_h0, hL, hgt, hf1] at f17_0 f18_0
  have e17 := f17_0
  have e18 := f18_0
  have hba := foldAnd_le (L.take j) (bit n - 1)
  by_cases hlt : j < L.length
  · obtain ⟨o_x, i_x, c_x, cs_x, own_x, ex_x, es_x, q_x, b_x, g_x, l_x, r_x⟩ := hw0.open ((by omega))
    have z_x : ∀ h2 : i_x < cs_x.length, cs_x[i_x] = _ := fun h2 => r_x 0 ((by omega)) h2
    have hx1 := hx _ (List.getElem_mem hlt)
    have h1 := fold_take hlt nAnd (bit n - 1)
    have h2 := fold_take hlt ndiff (bit n - 1)
    have h3 := ndiff128 (b := L[j]) hb2
    try simp (disch := first | omega | (simp; done) | fail) [wrap64c, if_pos, if_neg, opAnd, opOr, opXor, opDiff, opShr, opBit, g_h0, hL, hgt, hf1, e7, e8, e17, e18, e19, hlt, q_x, g_x, l_x, r_x, z_x]
    refine loopK_next _ ?hm ?hf ⟨j + 1, rfl, rfl, (by simp [h1]), (by simp [h2]), (by simp (disch := first | omega | (simp; done) | fail) [wrap64c, if_pos, if_neg, opAnd, opOr, opXor, opDiff, opShr, opBit, g_h0, hL, hgt, hf1, e7, e8, e17, e18, e19, hlt, q_x, g_x, l_x, r_x, z_x] <;> omega), (by first | omega | assumption | (simp (disch := first | omega | (simp; done) | fail) [wrap64c, if_pos, if_neg, opAnd, opOr, opXor, opDiff, opShr, opBit, g_h0, hL, hgt, hf1, e7, e8, e17, e18, e19, hlt, q_x, g_x, l_x, r_x, z_x] <;> omega)), (by rw [h2]; exact h3)⟩
    (case hm => first | omega | (simp; omega))
    (case hf => simp [FrameL, g_h0, hL, hgt, hf1, e7, e8, e17, e18, e19, hlt, q_x, g_x, l_x, r_x, z_x, f17_0, f18_0])
  · have hft : L.take j = L := List.take_of_length_le (by omega)
    try simp (disch := first | omega | (simp; done) | fail) [wrap64c, if_pos, if_neg, opAnd, opOr, opXor, opDiff, opShr, opBit, g_h0, hL, hgt, hf1, e7, e8, e17, e18, e19, hlt]
    exact done_ret rfl (by simp [hft, k_h0.1])
theorem known_bit {n : Nat} {L : List Nat} {i : Nat} (hne : L ≠ []) (hi : i < n) : (nOr (L.foldl nAnd (bit n - 1)) (L.foldl ndiff (bit n - 1))).testBit i = !opB L i := by
  rw [nOr_bit, foldAnd_bit, foldDiff_bit, full_bit, all_not, opB]
  have e : (L.all fun x => !x.testBit i) = !L.any fun x => x.testBit i := by
    induction L with
    | nil => rfl
    | cons x L ih =>
      cases L with
      | nil => simp
      | cons y L => simp only [List.all_cons, List.any_cons] at ih ⊢; rw [ih (by simp)]; simp
  rw [e]
  simp only [hi, decide_true, Bool.true_and]
  cases (L.any fun x => x.testBit i) <;> cases (L.any fun x => !x.testBit i) <;> rfl
theorem foldDiff_lt {L : List Nat} {a : Nat} (ha : a < 128) : L.foldl ndiff a < 128 := by
  induction L generalizing a with
  | nil => exact ha
  | cons x L ih => exact ih (ndiff128 ha)
theorem l1Most_ok (h : Hp) (a b : Int) : CallOK Try.prog 173 #[.int .i64 a, .int .i64 b] h (.int .i64 (if b < a then a else b)) h := by
  refine callY_P 10 _ [.tmp 4] Try.func173 rfl rfl rfl (by first | rfl | simp) ?_
  by_cases hc : b < a
  · try simp (disch := first | omega | (simp; done) | fail) [wrap64c, if_pos, if_neg, opAnd, opOr, opXor, opDiff, opShr, opBit, hc]
    exact done_ret rfl (by simp [hc])
  · try simp (disch := first | omega | (simp; done) | fail) [wrap64c, if_pos, if_neg, opAnd, opOr, opXor, opDiff, opShr, opBit, hc]
    exact done_ret rfl (by simp [hc])
theorem l1Abs_ok (h : Hp) (a : Int) (h1 : -1000000 < a) (h2 : a < 1000000) : CallOK Try.prog 237 #[.int .i64 a] h (.int .i64 ((a.natAbs : Nat) : Int)) h := by
  refine callY_P 7 _ [.tmp 2] Try.func237 rfl rfl rfl (by first | rfl | simp) ?_
  try simp (disch := first | omega | (simp; done) | fail) [wrap64c, if_pos, if_neg, opAnd, opOr, opXor, opDiff, opShr, opBit]
  refine callG_c (by simp) (by simp) ?ha (l1Most_ok h a (-a)) ?_
  (case ha => simp (disch := first | omega | (simp; done) | fail) [wrap64c, if_pos, if_neg, opAnd, opOr, opXor, opDiff, opShr, opBit])
  try simp (disch := first | omega | (simp; done) | fail) [wrap64c, if_pos, if_neg, opAnd, opOr, opXor, opDiff, opShr, opBit]
  exact done_ret rfl ⟨by simp; split <;> omega, by simp⟩
end Go.Proofs.Ytnncipcldbopgaa
namespace Go.Proofs.Ytnncipcldbopgaa
set_option linter.unusedSimpArgs false
set_option linter.unusedVariables false
set_option maxHeartbeats 4000000
open Go Go.Eng
attribute [local irreducible] WD RunD PreD Runs CallOK
theorem asHalf_ok (h : Hp) (v : Value) (n : Nat) (xs : List Nat) (y z : Nat) (hv : Space h v n (toN xs)) (g : SpGood n xs) (hy : y < 128) (hz : z < 128) (hne : leftN xs y z ≠ []) :
    CallOK Try.prog 171 #[v, .int .i64 (y : Int), .int .i64 (z : Int)] h (.int .i64 (halfN (leftN xs y z))) h := by
  refine callY_P 66 _ [.tmp 6] Try.func171 rfl rfl rfl (by first | rfl | simp) ?_
  obtain ⟨b, rfl, hX⟩ := hv
  refine WD_first ?_
  try simp (disch := first | omega | (simp; done) | fail) [wrap64c, if_pos, if_neg, opAnd, opOr, opXor, opDiff, opShr, opBit]
  refine stopK_heap fun h0 q_h0 => ?_
  refine stopK_go ?_
  have g_h0 : h0.get h.next = .cells [.int .i64 (n : Int), b] true true 1 := by simp [q_h0]
  have k_h0 : Adds h h0 := by rw [q_h0]; exact (by first | exact aK | exact kK)
  have n_h0 : h.next < h0.next := by simp [q_h0]; try omega
  have hX0 := hX.keep k_h0.1
  have n7 := g.n7
  have hl7 := g.len7
  try simp (disch := first | omega | (simp; done) | fail) [wrap64c, if_pos, if_neg, opAnd, opOr, opXor, opDiff, opShr, opBit, g_h0]
  obtain ⟨v1, h1, hc1, ha1, hi1⟩ := spLeft_ok h0 (.agg #[.int .i64 (n : Int), b]) n xs y z (.mk hX0) g.lt7 (by omega) hy hz
  refine callG_c (by simp) (by simp) ?ha (hc1) ?_
  (case ha => simp (disch := first | omega | (simp; done) | fail) [wrap64c, if_pos, if_neg, opAnd, opOr, opXor, opDiff, opShr, opBit, g_h0])
  obtain ⟨L, hLe⟩ : ∃ L, L = leftN xs y z := ⟨_, rfl⟩
  have hLx : ∀ x ∈ L, x < 128 := fun x hm => g.lt7 x (left_sub (hLe ▸ hm))
  have hLn : ∀ x ∈ L, x < bit n := fun x hm => g.lt x (left_sub (hLe ▸ hm))
  have hLl : L.length ≤ 128 := by have := left_len xs y z; rw [hLe]; omega
  rw [← hLe] at hi1 hne
  have g1 : h1.get h.next = .cells [.int .i64 (n : Int), b] true true 1 := by rw [ha1.1.2 _ (by omega)]; exact g_h0
  have hv1 := hi1.ints
  have hM1 := hv1.lenD
  have hgt1 := toN_get L
  have hln1 := toN_length L
  have K1 := k_h0.1.trans ha1.1
  try simp (disch := first | omega | (simp; done) | fail) [wrap64c, if_pos, if_neg, opAnd, opOr, opXor, opDiff, opShr, opBit, g_h0, g1, hM1, hgt1]
  refine callG_c (by simp) (by simp) ?ha (asKnown_ok h1 (.agg #[.int .i64 (n : Int), b]) v1 n _ L (.mk (hX0.keep ha1.1)) hv1 n7 hLx (by omega)) ?_
  (case ha => simp (disch := first | omega | (simp; done) | fail) [wrap64c, if_pos, if_neg, opAnd, opOr, opXor, opDiff, opShr, opBit, g_h0, g1, hM1, hgt1])
  have hb := bit7 n7
  have hba := foldAnd_le L (bit n - 1)
  have hbd := foldDiff_lt (L := L) (a := bit n - 1) (by omega)
  try simp (disch := first | omega | (simp; done) | fail) [wrap64c, if_pos, if_neg, opAnd, opOr, opXor, opDiff, opShr, opBit, g_h0, g1, hM1, hgt1]
  refine WD_loopC [3, 7, 8, 9] (fun m tm h' => ∃ i, m = n - i ∧ h1 = h' ∧ tm 10 = .int .i64 (halfS L (openK L i)).1 ∧ tm 11 = .int .i64 ((halfS L (openK L i)).2 : Int) ∧ tm 12 = .int .i64 (i : Int) ∧ (i ≤ n)) _ ⟨0, rfl, rfl, (by simp [halfS, openK]), (by simp [halfS, openK]), (by simp (disch := first | omega | (simp; done) | fail) [wrap64c, if_pos, if_neg, opAnd, opOr, opXor, opDiff, opShr, opBit, g_h0, g1, hM1, hgt1]), (by first | omega | assumption | (simp (disch := first | omega | (simp; done) | fail) [wrap64c, if_pos, if_neg, opAnd, opOr, opXor, opDiff, opShr, opBit, g_h0, g1, hM1, hgt1] <;> omega))⟩ ?_
  rintro m tm h' hFr ⟨i, rfl, rfl, e10, e11, e12, hi⟩
  simp only [FrameL] at hFr
  obtain ⟨f3_0, f7_0, f8_0, f9_0, -⟩ := hFr
  try simp (disch := first | omega | (simp; done) | fail) [wrap64c, if_pos, if_neg, opAnd, opOr, opXor, opDiff, opShr, opBit, g_h0, g1, hM1, hgt1] at f3_0 f7_0 f8_0 f9_0
  have e3 := f3_0
  have e7 := f7_0
  have e8 := f8_0
  have e9 := f9_0
  by_cases hlt : i < n
  · have hkb := known_bit hne hlt
    have hor := nOr128 (a := L.foldl nAnd (bit n - 1)) (by omega) hbd
    have hos := openK_succ L i
    try simp (disch := first | omega | (simp; done) | fail) [wrap64c, if_pos, if_neg, opAnd, opOr, opXor, opDiff, opShr, opBit, g_h0, g1, hM1, hgt1, e3, e7, e8, e9, e10, e11, e12, hlt]
    refine callG_c (by simp) (by simp) ?ha (spIn_ok h1 (nOr (L.foldl nAnd (bit n - 1)) (L.foldl ndiff (bit n - 1))) i (by omega) (by omega)) ?_
    (case ha => simp (disch := first | omega | (simp; done) | fail) [wrap64c, if_pos, if_neg, opAnd, opOr, opXor, opDiff, opShr, opBit, g_h0, g1, hM1, hgt1, e3, e7, e8, e9, e10, e11, e12, hlt])
    cases hop : opB L i
    · rw [hop] at hkb hos
      have hkb := hkb
      try simp (disch := first | omega | (simp; done) | fail) [wrap64c, if_pos, if_neg, opAnd, opOr, opXor, opDiff, opShr, opBit, g_h0, g1, hM1, hgt1, e3, e7, e8, e9, e10, e11, e12, hlt, hkb]
      refine loopK_next _ ?hm ?hf ⟨i + 1, rfl, rfl, (by simp [hos, e10]), (by simp [hos, e11]), (by simp (disch := first | omega | (simp; done) | fail) [wrap64c, if_pos, if_neg, opAnd, opOr, opXor, opDiff, opShr, opBit, g_h0, g1, hM1, hgt1, e3, e7, e8, e9, e10, e11, e12, hlt, hkb] <;> omega), (by first | omega | assumption | (simp (disch := first | omega | (simp; done) | fail) [wrap64c, if_pos, if_neg, opAnd, opOr, opXor, opDiff, opShr, opBit, g_h0, g1, hM1, hgt1, e3, e7, e8, e9, e10, e11, e12, hlt, hkb] <;> omega))⟩
      (case hm => first | omega | (simp; omega))
      (case hf => simp [FrameL, g_h0, g1, hM1, hgt1, e3, e7, e8, e9, e10, e11, e12, hlt, hkb, f3_0, f7_0, f8_0, f9_0])
    · rw [hop] at hkb hos
      have hkb := hkb
      try simp (disch := first | omega | (simp; done) | fail) [wrap64c, if_pos, if_neg, opAnd, opOr, opXor, opDiff, opShr, opBit, g_h0, g1, hM1, hgt1, e3, e7, e8, e9, e10, e11, e12, hlt, hkb]
      refine WD_loopC [3, 7, 8, 9, 10, 11, 12, 38, 39] (fun m tm h' => ∃ k, m = L.length - k ∧ h1 = h' ∧ tm 13 = .int .i64 ((hasL (L.take k) i).length : Int) ∧ tm 40 = .int .i64 (k : Int) ∧ (k ≤ L.length)) _ ⟨0, rfl, rfl, (by simp [hasL]), (by simp (disch := first | omega | (simp; done) | fail) [wrap64c, if_pos, if_neg, opAnd, opOr, opXor, opDiff, opShr, opBit, g_h0, g1, hM1, hgt1, e3, e7, e8, e9, e10, e11, e12, hlt, hkb]), (by first | omega | assumption | (simp (disch := first | omega | (simp; done) | fail) [wrap64c, if_pos, if_neg, opAnd, opOr, opXor, opDiff, opShr, opBit, g_h0, g1, hM1, hgt1, e3, e7, e8, e9, e10, e11, e12, hlt, hkb] <;> omega))⟩ ?_
      rintro m tm h' hFr ⟨k, rfl, rfl, e13, e40, hk⟩
      simp only [FrameL] at hFr
      obtain ⟨f3_1, f7_1, f8_1, f9_1, f10_1, f11_1, f12_1, f38_1, f39_1, -⟩ := hFr
      try simp (disch := first | omega | (simp; done) | fail) [wrap64c, if_pos, if_neg, opAnd, opOr, opXor, opDiff, opShr, opBit, g_h0, g1, hM1, hgt1, e3, e7, e8, e9, e10, e11, e12, hlt, hkb] at f3_1 f7_1 f8_1 f9_1 f10_1 f11_1 f12_1 f38_1 f39_1
      have e3 := f3_1
      have e7 := f7_1
      have e8 := f8_1
      have e9 := f9_1
      have e10 := f10_1
      have e11 := f11_1
      have e12 := f12_1
      have e38 := f38_1
      have e39 := f39_1
      have hhl := has_take_le L k i
      by_cases hlk : k < L.length
      · obtain ⟨o_w, i_w, c_w, cs_w, own_w, ex_w, es_w, q_w, b_w, g_w, l_w, r_w⟩ := hv1.open ((by omega))
        have z_w : ∀ h2 : i_w < cs_w.length, cs_w[i_w] = _ := fun h2 => r_w 0 ((by omega)) h2
        have hx1 := hLx _ (List.getElem_mem hlk)
        have hht := has_take hlk i
        try simp (disch := first | omega | (simp; done) | fail) [wrap64c, if_pos, if_neg, opAnd, opOr, opXor, opDiff, opShr, opBit, g_h0, g1, hM1, hgt1, e3, e7, e8, e9, e10, e11, e12, hlt, hkb, e13, e38, e39, e40, hlk, q_w, g_w, l_w, r_w, z_w]
        refine callG_c (by simp) (by simp) ?ha (spIn_ok h1 L[k] i (by omega) (by omega)) ?_
        (case ha => simp (disch := first | omega | (simp; done) | fail) [wrap64c, if_pos, if_neg, opAnd, opOr, opXor, opDiff, opShr, opBit, g_h0, g1, hM1, hgt1, e3, e7, e8, e9, e10, e11, e12, hlt, hkb, e13, e38, e39, e40, hlk, q_w, g_w, l_w, r_w, z_w])
        cases hbk : L[k].testBit i
        · try simp (disch := first | omega | (simp; done) | fail) [wrap64c, if_pos, if_neg, opAnd, opOr, opXor, opDiff, opShr, opBit, g_h0, g1, hM1, hgt1, e3, e7, e8, e9, e10, e11, e12, hlt, hkb, e13, e38, e39, e40, hlk, q_w, g_w, l_w, r_w, z_w, hbk]
          refine loopK_next _ ?hm ?hf ⟨k + 1, rfl, rfl, (by simp [hht, hbk, e13]), (by simp (disch := first | omega | (simp; done) | fail) [wrap64c, if_pos, if_neg, opAnd, opOr, opXor, opDiff, opShr, opBit, g_h0, g1, hM1, hgt1, e3, e7, e8, e9, e10, e11, e12, hlt, hkb, e13, e38, e39, e40, hlk, q_w, g_w, l_w, r_w, z_w, hbk] <;> omega), (by first | omega | assumption | (simp (disch := first | omega | (simp; done) | fail) [wrap64c, if_pos, if_neg, opAnd, opOr, opXor, opDiff, opShr, opBit, g_h0, g1, hM1, hgt1, e3, e7, e8, e9, e10, e11, e12, hlt, hkb, e13, e38, e39, e40, hlk, q_w, g_w, l_w, r_w, z_w, hbk] <;> omega))⟩
          (case hm => first | omega | (simp; omega))
          (case hf => simp [FrameL, g_h0, g1, hM1, hgt1, e3, e7, e8, e9, e10, e11, e12, hlt, hkb, e13, e38, e39, e40, hlk, q_w, g_w, l_w, r_w, z_w, hbk, f3_1, f7_1, f8_1, f9_1, f10_1, f11_1, f12_1, f38_1, f39_1])
        · try simp (disch := first | omega | (simp; done) | fail) [wrap64c, if_pos, if_neg, opAnd, opOr, opXor, opDiff, opShr, opBit, g_h0, g1, hM1, hgt1, e3, e7, e8, e9, e10, e11, e12, hlt, hkb, e13, e38, e39, e40, hlk, q_w, g_w, l_w, r_w, z_w, hbk]
          refine loopK_next _ ?hm ?hf ⟨k + 1, rfl, rfl, (by simp [hht, hbk]), (by simp (disch := first | omega | (simp; done) | fail) [wrap64c, if_pos, if_neg, opAnd, opOr, opXor, opDiff, opShr, opBit, g_h0, g1, hM1, hgt1, e3, e7, e8, e9, e10, e11, e12, hlt, hkb, e13, e38, e39, e40, hlk, q_w, g_w, l_w, r_w, z_w, hbk] <;> omega), (by first | omega | assumption | (simp (disch := first | omega | (simp; done) | fail) [wrap64c, if_pos, if_neg, opAnd, opOr, opXor, opDiff, opShr, opBit, g_h0, g1, hM1, hgt1, e3, e7, e8, e9, e10, e11, e12, hlt, hkb, e13, e38, e39, e40, hlk, q_w, g_w, l_w, r_w, z_w, hbk] <;> omega))⟩
          (case hm => first | omega | (simp; omega))
          (case hf => simp [FrameL, g_h0, g1, hM1, hgt1, e3, e7, e8, e9, e10, e11, e12, hlt, hkb, e13, e38, e39, e40, hlk, q_w, g_w, l_w, r_w, z_w, hbk, f3_1, f7_1, f8_1, f9_1, f10_1, f11_1, f12_1, f38_1, f39_1])
      · have hft : L.take k = L := List.take_of_length_le (by omega)
        rw [hft] at e13 hhl
        have hdn : (2 * ((hasL L i).length : Int) - (L.length : Int)).natAbs = distN L i := rfl
        obtain ⟨s1, hs1⟩ : ∃ s1, s1 = (halfS L (openK L i)).1 := ⟨_, rfl⟩
        obtain ⟨s2, hs2⟩ : ∃ s2, s2 = (halfS L (openK L i)).2 := ⟨_, rfl⟩
        have hsn : halfS L (openK L (i + 1)) = if s1 < 0 ∨ distN L i < s2 then ((i : Int), distN L i) else halfS L (openK L i) := by
          rw [hos, if_pos rfl, halfS_snoc, hs1, hs2]
        rw [← hs1] at e10
        rw [← hs2] at e11
        try simp (disch := first | omega | (simp; done) | fail) [wrap64c, if_pos, if_neg, opAnd, opOr, opXor, opDiff, opShr, opBit, g_h0, g1, hM1, hgt1, e3, e7, e8, e9, e10, e11, e12, hlt, hkb, e13, e38, e39, e40, hlk, hdn]
        refine callG_c (by simp) (by simp) ?ha (l1Abs_ok h1 (2 * ((hasL L i).length : Int) - (L.length : Int)) (by omega) (by omega)) ?_
        (case ha => simp (disch := first | omega | (simp; done) | fail) [wrap64c, if_pos, if_neg, opAnd, opOr, opXor, opDiff, opShr, opBit, g_h0, g1, hM1, hgt1, e3, e7, e8, e9, e10, e11, e12, hlt, hkb, e13, e38, e39, e40, hlk, hdn])
        by_cases c1 : s1 < 0
        · rw [if_pos (.inl c1)] at hsn
          try simp (disch := first | omega | (simp; done) | fail) [wrap64c, if_pos, if_neg, opAnd, opOr, opXor, opDiff, opShr, opBit, g_h0, g1, hM1, hgt1, e3, e7, e8, e9, e10, e11, e12, hlt, hkb, e13, e38, e39, e40, hlk, hdn, c1]
          refine loopK_next _ ?hm ?hf ⟨i + 1, rfl, rfl, (by simp [hsn]), (by simp [hsn]), (by simp (disch := first | omega | (simp; done) | fail) [wrap64c, if_pos, if_neg, opAnd, opOr, opXor, opDiff, opShr, opBit, g_h0, g1, hM1, hgt1, e3, e7, e8, e9, e10, e11, e12, hlt, hkb, e13, e38, e39, e40, hlk, hdn, c1] <;> omega), (by first | omega | assumption | (simp (disch := first | omega | (simp; done) | fail) [wrap64c, if_pos, if_neg, opAnd, opOr, opXor, opDiff, opShr, opBit, g_h0, g1, hM1, hgt1, e3, e7, e8, e9, e10, e11, e12, hlt, hkb, e13, e38, e39, e40, hlk, hdn, c1] <;> omega))⟩
          (case hm => first | omega | (simp; omega))
          (case hf => simp [FrameL, g_h0, g1, hM1, hgt1, e3, e7, e8, e9, e10, e11, e12, hlt, hkb, e13, e38, e39, e40, hlk, hdn, c1, f3_0, f7_0, f8_0, f9_0])
        · by_cases c2 : distN L i < s2
          · rw [if_pos (.inr c2)] at hsn
            try simp (disch := first | omega | (simp; done) | fail) [wrap64c, if_pos, if_neg, opAnd, opOr, opXor, opDiff, opShr, opBit, g_h0, g1, hM1, hgt1, e3, e7, e8, e9, e10, e11, e12, hlt, hkb, e13, e38, e39, e40, hlk, hdn, c1, c2]
            refine loopK_next _ ?hm ?hf ⟨i + 1, rfl, rfl, (by simp [hsn]), (by simp [hsn]), (by simp (disch := first | omega | (simp; done) | fail) [wrap64c, if_pos, if_neg, opAnd, opOr, opXor, opDiff, opShr, opBit, g_h0, g1, hM1, hgt1, e3, e7, e8, e9, e10, e11, e12, hlt, hkb, e13, e38, e39, e40, hlk, hdn, c1, c2] <;> omega), (by first | omega | assumption | (simp (disch := first | omega | (simp; done) | fail) [wrap64c, if_pos, if_neg, opAnd, opOr, opXor, opDiff, opShr, opBit, g_h0, g1, hM1, hgt1, e3, e7, e8, e9, e10, e11, e12, hlt, hkb, e13, e38, e39, e40, hlk, hdn, c1, c2] <;> omega))⟩
            (case hm => first | omega | (simp; omega))
            (case hf => simp [FrameL, g_h0, g1, hM1, hgt1, e3, e7, e8, e9, e10, e11, e12, hlt, hkb, e13, e38, e39, e40, hlk, hdn, c1, c2, f3_0, f7_0, f8_0, f9_0])
          · rw [if_neg (by omega)] at hsn
            try simp (disch := first | omega | (simp; done) | fail) [wrap64c, if_pos, if_neg, opAnd, opOr, opXor, opDiff, opShr, opBit, g_h0, g1, hM1, hgt1, e3, e7, e8, e9, e10, e11, e12, hlt, hkb, e13, e38, e39, e40, hlk, hdn, c1, c2]
            refine loopK_next _ ?hm ?hf ⟨i + 1, rfl, rfl, (by simp [hsn, e10, hs1]), (by simp [hsn, e11, hs2]), (by simp (disch := first | omega | (simp; done) | fail) [wrap64c, if_pos, if_neg, opAnd, opOr, opXor, opDiff, opShr, opBit, g_h0, g1, hM1, hgt1, e3, e7, e8, e9, e10, e11, e12, hlt, hkb, e13, e38, e39, e40, hlk, hdn, c1, c2] <;> omega), (by first | omega | assumption | (simp (disch := first | omega | (simp; done) | fail) [wrap64c, if_pos, if_neg, opAnd, opOr, opXor, opDiff, opShr, opBit, g_h0, g1, hM1, hgt1, e3, e7, e8, e9, e10, e11, e12, hlt, hkb, e13, e38, e39, e40, hlk, hdn, c1, c2] <;> omega))⟩
            (case hm => first | omega | (simp; omega))
            (case hf => simp [FrameL, g_h0, g1, hM1, hgt1, e3, e7, e8, e9, e10, e11, e12, hlt, hkb, e13, e38, e39, e40, hlk, hdn, c1, c2, f3_0, f7_0, f8_0, f9_0])
  · have hie : i = n := by omega
    try simp (disch := first | omega | (simp; done) | fail) [wrap64c, if_pos, if_neg, opAnd, opOr, opXor, opDiff, opShr, opBit, g_h0, g1, hM1, hgt1, e3, e7, e8, e9, e10, e11, e12, hlt]
    exact done_ret rfl (by simp [← hLe, halfN, hie, openK_eq n7 hLn, K1])
theorem runF_nil {ask : List Nat → Int} {set : Nat} {L : List Nat} (h : ask L < 0) : ∀ k, runF ask set k L = []
  | 0 => rfl
  | k + 1 => by rw [runF, if_pos h]
theorem runF_cons {ask : List Nat → Int} {set : Nat} {L : List Nat} {i k : Nat} (h : ask L = (i : Nat)) : runF ask set (k + 1) L = i :: runF ask set k (if set.testBit i = true then hasL L i else lacksL L i) := by
  rw [runF, if_neg (by omega), h, Int.toNat_natCast]
theorem runF_len (ask : List Nat → Int) (set : Nat) : ∀ k L, (runF ask set k L).length ≤ k
  | 0, _ => Nat.le_refl _
  | k + 1, L => by
    rw [runF]
    split
    · simp
    · have := runF_len ask set k (if set.testBit (ask L).toNat = true then hasL L (ask L).toNat else lacksL L (ask L).toNat)
      simp only [List.length_cons]; omega
theorem asRunH_ok (h : Hp) (v : Value) (n : Nat) (xs : List Nat) (set : Nat) (hv : Space h v n (toN xs)) (g : SpGood n xs) (hset : set ∈ xs) :
    ∃ v' h', CallOK Try.prog 166 #[v, .pointer none, .int .i64 (set : Int), .bool true] h v' h' ∧ Adds h h' ∧ IntsO (Btw h.next h'.next) h' v' (toN (runF halfN set xs.length xs)) := by
  refine callY_L (args := [v, .pointer none, .int .i64 (set : Int), .bool true]) 44 _ [.tmp 8] Try.func166 rfl rfl rfl ?_
  obtain ⟨b, rfl, hX⟩ := hv
  refine WD_first ?_
  try simp (disch := first | omega | (simp; done) | fail) [wrap64c, if_pos, if_neg, opAnd, opOr, opXor, opDiff, opShr, opBit]
  refine stopK_heap fun h0 q_h0 => ?_
  refine stopK_go ?_
  have g_h0 : h0.get h.next = .cells [.int .i64 (n : Int), b] true true 1 := by simp [q_h0]
  have k_h0 : Adds h h0 := by rw [q_h0]; exact (by first | exact aK | exact kK)
  have n_h0 : h.next < h0.next := by simp [q_h0]; try omega
  have hX0 := hX.keep k_h0.1
  have n7 := g.n7
  have hl7 := g.len7
  have hset7 := g.lt7 _ hset
  try simp (disch := first | omega | (simp; done) | fail) [wrap64c, if_pos, if_neg, opAnd, opOr, opXor, opDiff, opShr, opBit, g_h0]
  refine WD_loopC [1, 2, 3, 4] (fun m tm h' => ∃ k y z acc u, m = k + 0 * (leftN xs y z).length ∧ tm 9 = u ∧ tm 10 = .int .i64 (y : Int) ∧ tm 11 = .int .i64 (z : Int) ∧ (y < 128 ∧ z < 128) ∧ (Adds h0 h') ∧ (IntsA h0.next h' u (toN acc)) ∧ ((leftN xs y z).length ≤ k) ∧ (acc.length + k = xs.length) ∧ (set ∈ leftN xs y z) ∧ (runF halfN set xs.length xs = acc ++ runF halfN set k (leftN xs y z))) _ ⟨xs.length, 0, 0, [], _, rfl, (by simp (disch := first | omega | (simp; done) | fail) [wrap64c, if_pos, if_neg, opAnd, opOr, opXor, opDiff, opShr, opBit, g_h0]), (by simp (disch := first | omega | (simp; done) | fail) [wrap64c, if_pos, if_neg, opAnd, opOr, opXor, opDiff, opShr, opBit, g_h0]), (by simp (disch := first | omega | (simp; done) | fail) [wrap64c, if_pos, if_neg, opAnd, opOr, opXor, opDiff, opShr, opBit, g_h0]), (by first | omega | assumption | (simp (disch := first | omega | (simp; done) | fail) [wrap64c, if_pos, if_neg, opAnd, opOr, opXor, opDiff, opShr, opBit, g_h0] <;> omega)), (adds_self _), (.nil _ _), (by rw [left_zero]; exact Nat.le_refl _), (by simp), (by rw [left_zero]; exact hset), (by rw [left_zero]; rfl)⟩ ?_
  rintro m tm h' hFr ⟨k, y, z, acc, u, rfl, e9, e10, e11, hyz, ha, hu, hk, hak, hin, hr⟩
  simp only [FrameL] at hFr
  obtain ⟨f1_0, f2_0, f3_0, f4_0, -⟩ := hFr
  try simp (disch := first | omega | (simp; done) | fail) [wrap64c, if_pos, if_neg, opAnd, opOr, opXor, opDiff, opShr, opBit, g_h0] at f1_0 f2_0 f3_0 f4_0
  have e1 := f1_0
  have e2 := f2_0
  have e3 := f3_0
  have e4 := f4_0
  have g1 : h'.get h.next = .cells [.int .i64 (n : Int), b] true true 1 := by rw [ha.1.2 _ (by omega)]; exact g_h0
  have hXh := hX0.keep ha.1
  try simp (disch := first | omega | (simp; done) | fail) [wrap64c, if_pos, if_neg, opAnd, opOr, opXor, opDiff, opShr, opBit, g_h0, e1, e2, e3, e4, e9, e10, e11, g1]
  obtain ⟨v1, h1, hc1, ha1, hi1⟩ := spLeft_ok h' (.agg #[.int .i64 (n : Int), b]) n xs y z (.mk hXh) g.lt7 (by omega) hyz.1 hyz.2
  refine callG_c (by simp) (by simp) ?ha (hc1) ?_
  (case ha => simp (disch := first | omega | (simp; done) | fail) [wrap64c, if_pos, if_neg, opAnd, opOr, opXor, opDiff, opShr, opBit, g_h0, e1, e2, e3, e4, e9, e10, e11, g1])
  obtain ⟨L, hLe⟩ : ∃ L, L = leftN xs y z := ⟨_, rfl⟩
  have hLn : ∀ x ∈ L, x < bit n := fun x hm => g.lt x (left_sub (hLe ▸ hm))
  have hLs : L.Pairwise (· < ·) := hLe ▸ left_srt g.srt y z
  have hLl : L.length ≤ 128 := by have := left_len xs y z; rw [hLe]; omega
  have hop := open_ne n7 hLs hLn
  rw [← hLe] at hi1 hk hin hr
  have hM1 := hi1.ints.lenD
  have hln1 := toN_length L
  have g2 : h1.get h.next = .cells [.int .i64 (n : Int), b] true true 1 := by rw [ha1.1.2 _ (by have := ha.1.1; omega)]; exact g1
  have hu1 := hu.keep ha1.1
  have A1 := ha.trans ha1
  have hXh1 := hXh.keep ha1.1
  have hn1 := A1.1.1
  by_cases h1L : 1 < L.length
  · obtain ⟨i, hi1', hi2⟩ := halfN_mem (hop.2 h1L)
    have hi7 : i < 7 := (mem_openK.1 hi2).1
    have hlen := has_len (mem_openK.1 hi2).2
    obtain ⟨k1, hk1⟩ : ∃ q, k = q + 1 := ⟨k - 1, by omega⟩
    rw [hk1, runF_cons hi1'] at hr
    have hb7 := bit_lt7 hi7
    have hy2 := nOr128 (b := bit i) hyz.1 (by omega)
    have hz2 := nOr128 (b := bit i) hyz.2 (by omega)
    try simp (disch := first | omega | (simp; done) | fail) [wrap64c, if_pos, if_neg, opAnd, opOr, opXor, opDiff, opShr, opBit, g_h0, e1, e2, e3, e4, e9, e10, e11, g1, hM1, hln1, g2, h1L]
    have hah := asHalf_ok h1 (.agg #[.int .i64 (n : Int), b]) n xs y z (.mk hXh1) g hyz.1 hyz.2 (by rw [← hLe]; intro e; rw [e] at h1L; simp at h1L)
    rw [← hLe, hi1'] at hah
    refine callG_c (by simp) (by simp) ?ha (hah) ?_
    (case ha => simp (disch := first | omega | (simp; done) | fail) [wrap64c, if_pos, if_neg, opAnd, opOr, opXor, opDiff, opShr, opBit, g_h0, e1, e2, e3, e4, e9, e10, e11, g1, hM1, hln1, g2, h1L])
    try simp (disch := first | omega | (simp; done) | fail) [wrap64c, if_pos, if_neg, opAnd, opOr, opXor, opDiff, opShr, opBit, g_h0, e1, e2, e3, e4, e9, e10, e11, g1, hM1, hln1, g2, h1L]
    obtain ⟨u2, h2, hap, hu2, ha2, hn2, hs2⟩ := appI hu1 (i : Int) (by simp; omega) hn1 A1 (Nat.le_refl _)
    try simp (disch := first | omega | (simp; done) | fail) [wrap64c, if_pos, if_neg, opAnd, opOr, opXor, opDiff, opShr, opBit, g_h0, e1, e2, e3, e4, e9, e10, e11, g1, hM1, hln1, g2, h1L, hap]
    refine callG_c (by simp) (by simp) ?ha (spIn_ok h2 set i (by omega) (by omega)) ?_
    (case ha => simp (disch := first | omega | (simp; done) | fail) [wrap64c, if_pos, if_neg, opAnd, opOr, opXor, opDiff, opShr, opBit, g_h0, e1, e2, e3, e4, e9, e10, e11, g1, hM1, hln1, g2, h1L])
    cases hsb : set.testBit i
    · rw [hsb] at hr
      have hin' : set ∈ lacksL L i := List.mem_filter.2 ⟨hin, by simp [hsb]⟩
      try simp (disch := first | omega | (simp; done) | fail) [wrap64c, if_pos, if_neg, opAnd, opOr, opXor, opDiff, opShr, opBit, g_h0, e1, e2, e3, e4, e9, e10, e11, g1, hM1, hln1, g2, h1L, hsb]
      refine loopK_next _ ?hm ?hf ⟨k1, y, nOr z (bit i), acc ++ [i], u2, rfl, (by simp (disch := first | omega | (simp; done) | fail) [wrap64c, if_pos, if_neg, opAnd, opOr, opXor, opDiff, opShr, opBit, g_h0, e1, e2, e3, e4, e9, e10, e11, g1, hM1, hln1, g2, h1L, hsb] <;> omega), (by simp (disch := first | omega | (simp; done) | fail) [wrap64c, if_pos, if_neg, opAnd, opOr, opXor, opDiff, opShr, opBit, g_h0, e1, e2, e3, e4, e9, e10, e11, g1, hM1, hln1, g2, h1L, hsb] <;> omega), (by simp (disch := first | omega | (simp; done) | fail) [wrap64c, if_pos, if_neg, opAnd, opOr, opXor, opDiff, opShr, opBit, g_h0, e1, e2, e3, e4, e9, e10, e11, g1, hM1, hln1, g2, h1L, hsb] <;> omega), (by first | omega | assumption | (simp (disch := first | omega | (simp; done) | fail) [wrap64c, if_pos, if_neg, opAnd, opOr, opXor, opDiff, opShr, opBit, g_h0, e1, e2, e3, e4, e9, e10, e11, g1, hM1, hln1, g2, h1L, hsb] <;> omega)), ha2, (by rw [toN_snoc]; exact hu2), (by rw [left_no, ← hLe]; omega), (by simp; omega), (by rw [left_no, ← hLe]; exact hin'), (by rw [left_no, ← hLe, hr]; simp)⟩
      (case hm => first | omega | (simp; omega))
      (case hf => simp [FrameL, g_h0, e1, e2, e3, e4, e9, e10, e11, g1, hM1, hln1, g2, h1L, hsb, f1_0, f2_0, f3_0, f4_0])
    · rw [hsb] at hr
      have hin' : set ∈ hasL L i := List.mem_filter.2 ⟨hin, hsb⟩
      try simp (disch := first | omega | (simp; done) | fail) [wrap64c, if_pos, if_neg, opAnd, opOr, opXor, opDiff, opShr, opBit, g_h0, e1, e2, e3, e4, e9, e10, e11, g1, hM1, hln1, g2, h1L, hsb]
      refine loopK_next _ ?hm ?hf ⟨k1, nOr y (bit i), z, acc ++ [i], u2, rfl, (by simp (disch := first | omega | (simp; done) | fail) [wrap64c, if_pos, if_neg, opAnd, opOr, opXor, opDiff, opShr, opBit, g_h0, e1, e2, e3, e4, e9, e10, e11, g1, hM1, hln1, g2, h1L, hsb] <;> omega), (by simp (disch := first | omega | (simp; done) | fail) [wrap64c, if_pos, if_neg, opAnd, opOr, opXor, opDiff, opShr, opBit, g_h0, e1, e2, e3, e4, e9, e10, e11, g1, hM1, hln1, g2, h1L, hsb] <;> omega), (by simp (disch := first | omega | (simp; done) | fail) [wrap64c, if_pos, if_neg, opAnd, opOr, opXor, opDiff, opShr, opBit, g_h0, e1, e2, e3, e4, e9, e10, e11, g1, hM1, hln1, g2, h1L, hsb] <;> omega), (by first | omega | assumption | (simp (disch := first | omega | (simp; done) | fail) [wrap64c, if_pos, if_neg, opAnd, opOr, opXor, opDiff, opShr, opBit, g_h0, e1, e2, e3, e4, e9, e10, e11, g1, hM1, hln1, g2, h1L, hsb] <;> omega)), ha2, (by rw [toN_snoc]; exact hu2), (by rw [left_yes, ← hLe]; omega), (by simp; omega), (by rw [left_yes, ← hLe]; exact hin'), (by rw [left_yes, ← hLe, hr]; simp)⟩
      (case hm => first | omega | (simp; omega))
      (case hf => simp [FrameL, g_h0, e1, e2, e3, e4, e9, e10, e11, g1, hM1, hln1, g2, h1L, hsb, f1_0, f2_0, f3_0, f4_0])
  · have hon : openN L = [] := by
      apply Classical.byContradiction
      intro hn
      exact h1L (hop.1 hn)
    rw [runF_nil (L := L) (by rw [halfN_nil hon]; omega), List.append_nil] at hr
    try simp (disch := first | omega | (simp; done) | fail) [wrap64c, if_pos, if_neg, opAnd, opOr, opXor, opDiff, opShr, opBit, g_h0, e1, e2, e3, e4, e9, e10, e11, g1, hM1, hln1, g2, h1L]
    refine done_ret rfl ⟨k_h0.trans A1, ?_⟩
    rw [hr]
    exact (hu1.own (by simp; omega)).sub fun o ho => ⟨by have := ho.1; omega, ho.2⟩
theorem ia_upd {n : Nat} {S : Nat → Prop} {h h' : Hp} {v : Value} {xs : List Int} (hs : IntsA n h v xs) (hu : Upd S h h') (ho : ∀ o, S o → o < n) : IntsA n h' v xs := by
  rcases hs with ⟨e1, e2⟩ | ⟨o, ex, rfl, q1, q2, q3⟩
  · exact .inl ⟨e1, e2⟩
  · exact .inr ⟨o, ex, rfl, q1, Nat.lt_of_lt_of_le q2 hu.1, by rw [hu.2 o q2 (fun hf => by have := ho o hf; omega)]; exact q3⟩
theorem wr_mid {S : Nat → Prop} {h h' : Hp} (k : Wr S h h') : Adds ⟨h'.get, h.next⟩ h' := ⟨⟨k.upd.1, fun _ _ => rfl⟩, fun o h1 h2 hl => k.new o h1 h2 hl⟩
theorem wr_app {S : Nat → Prop} {h h' h2 : Hp} (k : Wr S h h') (a : Adds ⟨h'.get, h.next⟩ h2) : Wr S h h2 where
  upd := ⟨a.1.1, fun o ho hs => (a.1.2 o ho).trans (k.upd.2 o ho hs)⟩
  own o ho hs hl := by
    have e : h2.get o = h'.get o := a.1.2 o ho
    rw [e] at hl ⊢
    exact k.own o ho hs hl
  new o h1 h2 hl := a.2 o h1 h2 hl
theorem run_ok (ask : List Nat → Int) (hask : ∀ L, ask L < 0 ∨ ∃ i, ask L = (i : Nat) ∧ i ∈ openN L) (fid : Nat) (recv : Value) (S : Nat → Prop) (P : Hp → Prop) (base : Nat) (xs : List Nat)
    (hstab : ∀ h h', P h → base ≤ h.next → h.next ≤ h'.next → (∀ o, o < base → h'.get o = h.get o) → P h')
    (hf : ∀ h (y z : Nat), P h → base ≤ h.next → y < 128 → z < 128 → ∃ v h', CallOK Try.prog fid #[recv, .int .i64 (y : Int), .int .i64 (z : Int)] h v h' ∧ v = .int .i64 (ask (leftN xs y z)) ∧ Wr S h h' ∧ P h')
    (hS : ∀ o, S o → o < base) (hfn : fnOK Try.prog fid = true) (h : Hp) (hP : P h) (hb : base ≤ h.next) (set : Nat) (hset : set < 128) (hl : xs.length < 2 ^ 39) :
    ∃ v' h', CallOK Try.prog 165 #[.int .i64 (set : Int), .func (.func fid) #[recv] #[]] h v' h' ∧ Wr S h h' ∧ P h' ∧ IntsO (Btw h.next h'.next) h' v' (toN (runF ask set xs.length xs)) := by
  refine callY_L (args := [.int .i64 (set : Int), .func (.func fid) #[recv] #[]]) 38 _ [.tmp 4] Try.func165 rfl rfl rfl ?_
  have hfn1 := hfn
  try simp (disch := first | omega | (simp; done) | fail) [wrap64c, if_pos, if_neg, opAnd, opOr, opXor, opDiff, opShr, opBit, hfn1]
  first | refine WY_heap fun h0 q_h0 => ?_ | refine callG_heap fun h0 q_h0 => ?_ | refine callP_heap fun h0 q_h0 => ?_ | refine callS_heap fun h0 q_h0 => ?_ | refine RY_heap fun h0 q_h0 => ?_ | refine PY_heap fun h0 q_h0 => ?_ | refine SY_heap fun h0 q_h0 => ?_ | refine doneY_heap fun h0 q_h0 => ?_ | refine loopK_heap fun h0 q_h0 => ?_ | refine thenY_heap fun h0 q_h0 => ?_ | refine thenM_heap fun h0 q_h0 => ?_
  have k0 : Adds h h0 := by rw [q_h0]; exact (by first | exact aK | exact kK)
  have W0 : Wr S h h0 := .of_adds k0
  have P0 : P h0 := hstab h h0 hP hb k0.1.1 fun o ho => k0.1.2 o (by omega)
  have hn0 : h0.next = h.next + 1 := by rw [q_h0]; simp
  have hgz : h0.get h.next = .cells [] true true 1 := by rw [q_h0]; simp
  obtain ⟨_, h1, hc1, rfl, W1, P1⟩ := hf h0 0 0 P0 (by omega) (by omega) (by omega)
  refine callG_f (fst := #[recv]) (cap := #[]) (by simp) (by simp) ?hf ?hk ?ha (hc1) ?_
  (case hf => simp (disch := first | omega | (simp; done) | fail) [wrap64c, if_pos, if_neg, opAnd, opOr, opXor, opDiff, opShr, opBit, hfn1]; try rfl)
  (case hk => simp (disch := first | omega | (simp; done) | fail) [wrap64c, if_pos, if_neg, opAnd, opOr, opXor, opDiff, opShr, opBit, hfn1])
  (case ha => simp (disch := first | omega | (simp; done) | fail) [wrap64c, if_pos, if_neg, opAnd, opOr, opXor, opDiff, opShr, opBit, hfn1])
  have hgz1 : h1.get h.next = .cells [] true true 1 := by rw [W1.upd.2 _ (by rw [q_h0]; simp) (fun hs => by have := hS _ hs; omega)]; exact hgz
  have hn1 := W1.upd.1
  try simp (disch := first | omega | (simp; done) | fail) [wrap64c, if_pos, if_neg, opAnd, opOr, opXor, opDiff, opShr, opBit, hfn1]
  refine WD_loopC [0, 1] (fun m tm h' => ∃ k y z acc u, m = k + 0 * (leftN xs y z).length ∧ tm 5 = u ∧ tm 6 = .int .i64 (y : Int) ∧ tm 7 = .int .i64 (z : Int) ∧ tm 8 = .int .i64 (ask (leftN xs y z)) ∧ (y < 128 ∧ z < 128) ∧ (Wr S h h') ∧ (P h') ∧ (IntsA h.next h' u (toN acc)) ∧ ((leftN xs y z).length ≤ k) ∧ (acc.length + k = xs.length) ∧ (runF ask set xs.length xs = acc ++ runF ask set k (leftN xs y z))) _ ⟨xs.length, 0, 0, [], _, rfl, (by simp (disch := first | omega | (simp; done) | fail) [wrap64c, if_pos, if_neg, opAnd, opOr, opXor, opDiff, opShr, opBit, hfn1]), (by simp (disch := first | omega | (simp; done) | fail) [wrap64c, if_pos, if_neg, opAnd, opOr, opXor, opDiff, opShr, opBit, hfn1]), (by simp (disch := first | omega | (simp; done) | fail) [wrap64c, if_pos, if_neg, opAnd, opOr, opXor, opDiff, opShr, opBit, hfn1]), (by simp (disch := first | omega | (simp; done) | fail) [wrap64c, if_pos, if_neg, opAnd, opOr, opXor, opDiff, opShr, opBit, hfn1]), (by first | omega | assumption | (simp (disch := first | omega | (simp; done) | fail) [wrap64c, if_pos, if_neg, opAnd, opOr, opXor, opDiff, opShr, opBit, hfn1] <;> omega)), (W0.trans W1), P1, (.lit (ex := true) (Nat.le_refl _) (by omega) hgz1), (by rw [left_zero]; exact Nat.le_refl _), (by simp), (by rw [left_zero]; rfl)⟩ ?_
  rintro m tm h' hFr ⟨k, y, z, acc, u, rfl, e5, e6, e7, e8, hyz, hW, hPP, hu, hk, hak, hr⟩
  simp only [FrameL] at hFr
  obtain ⟨f0_0, f1_0, -⟩ := hFr
  try simp (disch := first | omega | (simp; done) | fail) [wrap64c, if_pos, if_neg, opAnd, opOr, opXor, opDiff, opShr, opBit, hfn1] at f0_0 f1_0
  have e0 := f0_0
  have e1 := f1_0
  obtain ⟨L, hLe⟩ : ∃ L, L = leftN xs y z := ⟨_, rfl⟩
  rw [← hLe] at hk hr e8
  have hn2 := hW.upd.1
  rcases hask L with hneg | ⟨i, hi1, hi2⟩
  · have hneg' : ¬ (0 ≤ ask L) := by omega
    rw [runF_nil (L := L) hneg, List.append_nil] at hr
    try simp (disch := first | omega | (simp; done) | fail) [wrap64c, if_pos, if_neg, opAnd, opOr, opXor, opDiff, opShr, opBit, hfn1, e0, e1, e5, e6, e7, e8, hneg']
    refine done_ret rfl ⟨hW, hPP, ?_⟩
    rw [hr]
    exact hu.own (by simp; omega)
  · have hi7 : i < 7 := (mem_openK.1 hi2).1
    have hlen := has_len (mem_openK.1 hi2).2
    obtain ⟨k1, hk1⟩ : ∃ q, k = q + 1 := ⟨k - 1, by omega⟩
    rw [hk1, runF_cons hi1] at hr
    rw [hi1] at e8
    have hb7 := bit_lt7 hi7
    have hy2 := nOr128 (b := bit i) hyz.1 (by omega)
    have hz2 := nOr128 (b := bit i) hyz.2 (by omega)
    have hsl := nShr_le set i
    have h01 := nShr_and01 set i
    try simp (disch := first | omega | (simp; done) | fail) [wrap64c, if_pos, if_neg, opAnd, opOr, opXor, opDiff, opShr, opBit, hfn1, e0, e1, e5, e6, e7, e8]
    obtain ⟨u2, h2, hap, hu2, ha2, hn3, hs2⟩ := appI hu (i : Int) (by simp; omega) hn2 (wr_mid hW) (Nat.le_refl _)
    have W2 := wr_app hW ha2
    have P2 : P h2 := hstab h' h2 hPP (by omega) (by omega) fun o ho => ha2.1.2 o (by show o < h.next; omega)
    cases hsb : set.testBit i
    · have h3 : nAnd (nShr set i) 1 = 0 := by rw [h01, hsb]; rfl
      rw [hsb] at hr
      try simp (disch := first | omega | (simp; done) | fail) [wrap64c, if_pos, if_neg, opAnd, opOr, opXor, opDiff, opShr, opBit, hfn1, e0, e1, e5, e6, e7, e8, h3, hap]
      obtain ⟨_, h3', hc3, rfl, W3, P3⟩ := hf h2 y (nOr z (bit i)) P2 (by omega) hyz.1 hz2
      refine callG_f (fst := #[recv]) (cap := #[]) (by simp) (by simp) ?hf ?hk ?ha (hc3) ?_
      (case hf => simp (disch := first | omega | (simp; done) | fail) [wrap64c, if_pos, if_neg, opAnd, opOr, opXor, opDiff, opShr, opBit, hfn1, e0, e1, e5, e6, e7, e8, h3]; try rfl)
      (case hk => simp (disch := first | omega | (simp; done) | fail) [wrap64c, if_pos, if_neg, opAnd, opOr, opXor, opDiff, opShr, opBit, hfn1, e0, e1, e5, e6, e7, e8, h3])
      (case ha => simp (disch := first | omega | (simp; done) | fail) [wrap64c, if_pos, if_neg, opAnd, opOr, opXor, opDiff, opShr, opBit, hfn1, e0, e1, e5, e6, e7, e8, h3])
      try simp (disch := first | omega | (simp; done) | fail) [wrap64c, if_pos, if_neg, opAnd, opOr, opXor, opDiff, opShr, opBit, hfn1, e0, e1, e5, e6, e7, e8, h3]
      refine loopK_next _ ?hm ?hf ⟨k1, y, nOr z (bit i), acc ++ [i], u2, rfl, (by simp (disch := first | omega | (simp; done) | fail) [wrap64c, if_pos, if_neg, opAnd, opOr, opXor, opDiff, opShr, opBit, hfn1, e0, e1, e5, e6, e7, e8, h3] <;> omega), (by simp (disch := first | omega | (simp; done) | fail) [wrap64c, if_pos, if_neg, opAnd, opOr, opXor, opDiff, opShr, opBit, hfn1, e0, e1, e5, e6, e7, e8, h3] <;> omega), (by simp (disch := first | omega | (simp; done) | fail) [wrap64c, if_pos, if_neg, opAnd, opOr, opXor, opDiff, opShr, opBit, hfn1, e0, e1, e5, e6, e7, e8, h3] <;> omega), (by simp (disch := first | omega | (simp; done) | fail) [wrap64c, if_pos, if_neg, opAnd, opOr, opXor, opDiff, opShr, opBit, hfn1, e0, e1, e5, e6, e7, e8, h3] <;> omega), (by first | omega | assumption | (simp (disch := first | omega | (simp; done) | fail) [wrap64c, if_pos, if_neg, opAnd, opOr, opXor, opDiff, opShr, opBit, hfn1, e0, e1, e5, e6, e7, e8, h3] <;> omega)), (W2.trans W3), P3, (by rw [toN_snoc]; exact ia_upd hu2 W3.upd (fun o ho => by have := hS o ho; omega)), (by rw [left_no, ← hLe]; omega), (by simp; omega), (by rw [left_no, ← hLe, hr]; simp)⟩
      (case hm => first | omega | (simp; omega))
      (case hf => simp [FrameL, hfn1, e0, e1, e5, e6, e7, e8, h3, f0_0, f1_0])
    · have h3 : nAnd (nShr set i) 1 = 1 := by rw [h01, hsb]; rfl
      rw [hsb] at hr
      try simp (disch := first | omega | (simp; done) | fail) [wrap64c, if_pos, if_neg, opAnd, opOr, opXor, opDiff, opShr, opBit, hfn1, e0, e1, e5, e6, e7, e8, h3, hap]
      obtain ⟨_, h3', hc3, rfl, W3, P3⟩ := hf h2 (nOr y (bit i)) z P2 (by omega) hy2 hyz.2
      refine callG_f (fst := #[recv]) (cap := #[]) (by simp) (by simp) ?hf ?hk ?ha (hc3) ?_
      (case hf => simp (disch := first | omega | (simp; done) | fail) [wrap64c, if_pos, if_neg, opAnd, opOr, opXor, opDiff, opShr, opBit, hfn1, e0, e1, e5, e6, e7, e8, h3]; try rfl)
      (case hk => simp (disch := first | omega | (simp; done) | fail) [wrap64c, if_pos, if_neg, opAnd, opOr, opXor, opDiff, opShr, opBit, hfn1, e0, e1, e5, e6, e7, e8, h3])
      (case ha => simp (disch := first | omega | (simp; done) | fail) [wrap64c, if_pos, if_neg, opAnd, opOr, opXor, opDiff, opShr, opBit, hfn1, e0, e1, e5, e6, e7, e8, h3])
      try simp (disch := first | omega | (simp; done) | fail) [wrap64c, if_pos, if_neg, opAnd, opOr, opXor, opDiff, opShr, opBit, hfn1, e0, e1, e5, e6, e7, e8, h3]
      refine loopK_next _ ?hm ?hf ⟨k1, nOr y (bit i), z, acc ++ [i], u2, rfl, (by simp (disch := first | omega | (simp; done) | fail) [wrap64c, if_pos, if_neg, opAnd, opOr, opXor, opDiff, opShr, opBit, hfn1, e0, e1, e5, e6, e7, e8, h3] <;> omega), (by simp (disch := first | omega | (simp; done) | fail) [wrap64c, if_pos, if_neg, opAnd, opOr, opXor, opDiff, opShr, opBit, hfn1, e0, e1, e5, e6, e7, e8, h3] <;> omega), (by simp (disch := first | omega | (simp; done) | fail) [wrap64c, if_pos, if_neg, opAnd, opOr, opXor, opDiff, opShr, opBit, hfn1, e0, e1, e5, e6, e7, e8, h3] <;> omega), (by simp (disch := first | omega | (simp; done) | fail) [wrap64c, if_pos, if_neg, opAnd, opOr, opXor, opDiff, opShr, opBit, hfn1, e0, e1, e5, e6, e7, e8, h3] <;> omega), (by first | omega | assumption | (simp (disch := first | omega | (simp; done) | fail) [wrap64c, if_pos, if_neg, opAnd, opOr, opXor, opDiff, opShr, opBit, hfn1, e0, e1, e5, e6, e7, e8, h3] <;> omega)), (W2.trans W3), P3, (by rw [toN_snoc]; exact ia_upd hu2 W3.upd (fun o ho => by have := hS o ho; omega)), (by rw [left_yes, ← hLe]; omega), (by simp; omega), (by rw [left_yes, ← hLe, hr]; simp)⟩
      (case hm => first | omega | (simp; omega))
      (case hf => simp [FrameL, hfn1, e0, e1, e5, e6, e7, e8, h3, f0_0, f1_0])
@[simp] theorem adds_allocM {h h' : Hp} (k : Adds h h') (es : List (Value × Value)) : Adds h (h'.alloc (.map es)) := k.trans (Adds.alloc _ fun _ => rfl)
theorem newAsker_ok (h : Hp) (v : Value) (N : Int) (X : List Int) (hv : Space h v N X) : ∃ v' h', CallOK Try.prog 156 #[v] h v' h' ∧ ∃ o p q b, v' = .pointer (some ⟨o, 0, none⟩) ∧ Adds h h' ∧
    (h.next ≤ p ∧ p < q ∧ q < o ∧ o < h'.next) ∧ h'.get o = .cells [.int .i64 N, b, .map (some p), .map (some q)] true true 1 ∧ h'.get p = .map [] ∧ h'.get q = .map [] ∧ IntsF (fun x => x < h.next) h' b X := by
  refine callY_L (args := [v]) 8 _ [.tmp 2] Try.func156 rfl rfl rfl ?_
  obtain ⟨b, rfl, hX⟩ := hv
  have nt := hX.nt
  have cs := hX.cs
  try simp (disch := first | omega | (simp; done) | fail) [wrap64c, if_pos, if_neg, opAnd, opOr, opXor, opDiff, opShr, opBit, nt, cs]
  first | refine WY_heap fun h1 q_h1 => ?_ | refine callG_heap fun h1 q_h1 => ?_ | refine callP_heap fun h1 q_h1 => ?_ | refine callS_heap fun h1 q_h1 => ?_ | refine RY_heap fun h1 q_h1 => ?_ | refine PY_heap fun h1 q_h1 => ?_ | refine SY_heap fun h1 q_h1 => ?_ | refine doneY_heap fun h1 q_h1 => ?_ | refine loopK_heap fun h1 q_h1 => ?_ | refine thenY_heap fun h1 q_h1 => ?_ | refine thenM_heap fun h1 q_h1 => ?_
  have k1 : Adds h h1 := by rw [q_h1]; exact (by first | exact aK | exact kK)
  refine done_ret rfl ⟨h.next + 3, h.next + 1, h.next + 2, b, by simp, k1, ⟨by omega, by omega, by omega, by simp [q_h1]⟩, by simp [q_h1], by simp [q_h1], by simp [q_h1], hX.old.keep k1.1⟩
noncomputable def halfR (N : Int) (X : List Int) (a : Int) : List Int := if oneB N X a = true then toN (runF halfN a.toNat X.length (natsOf X)) else []
theorem implHalf_ok (h : Hp) (v : Value) (N : Int) (X : List Int) (a : Int) (hv : Space h v N X) (hl : X.length < 2 ^ 40) :
    ∃ v' h', CallOK Try.prog 53 #[v, .int .i64 a] h v' h' ∧ Adds h h' ∧ ∃ u, v' = .tuple #[u, .bool (oneB N X a)] ∧ IntsO (Btw h.next h'.next) h' u (halfR N X a) := by
  refine callY_L (args := [v, .int .i64 a]) 15 _ [.tmp 4, .tmp 5] Try.func53 rfl rfl rfl ?_
  obtain ⟨b, rfl, hX⟩ := hv
  refine WD_first ?_
  try simp (disch := first | omega | (simp; done) | fail) [wrap64c, if_pos, if_neg, opAnd, opOr, opXor, opDiff, opShr, opBit]
  refine stopK_heap fun h0 q_h0 => ?_
  refine stopK_go ?_
  have g_h0 : h0.get h.next = .cells [.int .i64 N, b] true true 1 := by simp [q_h0]
  have k_h0 : Adds h h0 := by rw [q_h0]; exact (by first | exact aK | exact kK)
  have n_h0 : h.next < h0.next := by simp [q_h0]; try omega
  have hX0 := hX.keep k_h0.1
  try simp (disch := first | omega | (simp; done) | fail) [wrap64c, if_pos, if_neg, opAnd, opOr, opXor, opDiff, opShr, opBit, g_h0]
  refine callG_c (by simp) (by simp) ?ha (isKnown_ok h0 (.agg #[.int .i64 N, b]) N X a (.mk hX0) hl) ?_
  (case ha => simp (disch := first | omega | (simp; done) | fail) [wrap64c, if_pos, if_neg, opAnd, opOr, opXor, opDiff, opShr, opBit, g_h0])
  cases c1 : oneB N X a
  · try simp (disch := first | omega | (simp; done) | fail) [wrap64c, if_pos, if_neg, opAnd, opOr, opXor, opDiff, opShr, opBit, g_h0, c1]
    refine done_ret rfl ⟨k_h0, _, by simp [c1]; rfl, ?_⟩
    rw [halfR, if_neg (by simp [c1])]
    exact .nil _ _
  · obtain ⟨n, xs, x, hN, hXe, hae, g, hx⟩ := oneB_true c1
    have hNt : N = (n : Int) := hN
    have hat : a = (x : Int) := hae
    have hX1 : Ints h0 b (toN xs) := hXe ▸ hX0
    have hl7 := g.len7
    try simp (disch := first | omega | (simp; done) | fail) [wrap64c, if_pos, if_neg, opAnd, opOr, opXor, opDiff, opShr, opBit, g_h0, c1, hNt, hat]
    obtain ⟨_, h1, hc1, o, p, q, b1, rfl, ha1, hopq, hgo, hgp, hgq, hb1⟩ := newAsker_ok h0 (.agg #[.int .i64 (n : Int), b]) n (toN xs) (.mk hX1)
    refine callG_c (by simp) (by simp) ?ha (hc1) ?_
    (case ha => simp (disch := first | omega | (simp; done) | fail) [wrap64c, if_pos, if_neg, opAnd, opOr, opXor, opDiff, opShr, opBit, g_h0, c1, hNt, hat])
    try simp (disch := first | omega | (simp; done) | fail) [wrap64c, if_pos, if_neg, opAnd, opOr, opXor, opDiff, opShr, opBit, g_h0, c1, hNt, hat]
    have hask : ∀ L : List Nat, halfN L < 0 ∨ ∃ i, halfN L = (i : Nat) ∧ i ∈ openN L := fun L => by
      by_cases he : openN L = []
      · left; rw [halfN_nil he]; omega
      · right; exact halfN_mem he
    obtain ⟨u, h2, hc2, W2, P2, hi2⟩ := run_ok halfN hask 167 (.pointer (some ⟨o, 0, none⟩)) (fun _ => False) (fun h' => h'.get o = .cells [.int .i64 (n : Int), b1, .map (some p), .map (some q)] true true 1 ∧ IntsF (fun x => x < h1.next) h' b1 (toN xs)) h1.next xs
      (fun h' h'' hp hb1' hb2 hs => ⟨by rw [hs o hopq.2.2.2]; exact hp.1, hp.2.same ⟨hb2, fun q hq _ => hs q hq⟩⟩)
      (fun h' y z hp hb hy hz => ⟨_, h', half_ok h' o n b1 (.map (some p)) (.map (some q)) true true 1 xs y z (by omega) hp.1 hp.2.ints g.lt7 (by omega) hy hz, rfl, Wr.refl _ _, hp⟩)
      (fun _ hf => hf.elim) (by simp) h1 ⟨hgo, hb1.sub fun x hx => by omega⟩ (Nat.le_refl _) x (g.lt7 _ hx) (by omega)
    refine callG_c (by simp) (by simp) ?ha (hc2) ?_
    (case ha => simp (disch := first | omega | (simp; done) | fail) [wrap64c, if_pos, if_neg, opAnd, opOr, opXor, opDiff, opShr, opBit, g_h0, c1, hNt, hat])
    try simp (disch := first | omega | (simp; done) | fail) [wrap64c, if_pos, if_neg, opAnd, opOr, opXor, opDiff, opShr, opBit, g_h0, c1, hNt, hat]
    have A2 : Adds h1 h2 := ⟨⟨W2.upd.1, fun o ho => W2.upd.2 o ho (fun hf => hf)⟩, W2.new⟩
    refine done_ret rfl ⟨(k_h0.trans ha1).trans A2, _, by simp [c1]; rfl, ?_⟩
    rw [halfR, if_pos c1, hXe, hae, natsOf_toN, toN_length, Int.toNat_natCast]
    exact hi2.sub fun o ho => ⟨by have := ho.1; have := ha1.1.1; omega, ho.2⟩
end Go.Proofs.Ytnncipcldbopgaa
