/- Sets put in their places; the space of a family. -/
import Derived.Test.YtnjabaeajjhliaaS4
import Derived.Test.YtnjabaeajjhliaaA3
namespace Go.Proofs.Ytnjabaeajjhliaa
set_option linter.unusedSimpArgs false
set_option linter.unusedVariables false
set_option maxHeartbeats 4000000
open Go Go.Eng
attribute [local irreducible] WD RunD PreD Runs CallOK

theorem srt_ext {a b : List Nat} (ha : a.Pairwise (· < ·)) (hb : b.Pairwise (· < ·)) (h : ∀ x, x ∈ a ↔ x ∈ b) : a = b := by
  have na : a.Nodup := ha.imp fun h e => by omega
  have nb : b.Nodup := hb.imp fun h e => by omega
  exact List.Perm.eq_of_pairwise (fun x y _ _ h1 h2 => by omega) ha hb ((List.perm_ext_iff_of_nodup na nb).2 h)
/-- One set more among increasing ones. -/
def putL (l : List Nat) (a : Nat) : List Nat := if a ∈ l then l else l.filter (fun x => decide (x < a)) ++ [a] ++ l.filter fun x => decide (a < x)
theorem putL_mem (l : List Nat) (a x : Nat) : x ∈ putL l a ↔ x = a ∨ x ∈ l := by
  unfold putL
  by_cases h : a ∈ l
  · rw [if_pos h]
    constructor
    · exact .inr
    · rintro (rfl | h1)
      · exact h
      · exact h1
  · rw [if_neg h]
    simp only [List.mem_append, List.mem_filter, List.mem_singleton, decide_eq_true_eq]
    constructor
    · rintro ((⟨h1, _⟩ | h1) | ⟨h1, _⟩)
      · exact .inr h1
      · exact .inl h1
      · exact .inr h1
    · rintro (rfl | h1)
      · exact .inl (.inr rfl)
      · have : x ≠ a := fun e => h (e ▸ h1)
        rcases Nat.lt_or_gt_of_ne this with h2 | h2
        · exact .inl (.inl ⟨h1, h2⟩)
        · exact .inr ⟨h1, h2⟩
theorem putL_srt {l : List Nat} (hl : l.Pairwise (· < ·)) (a : Nat) : (putL l a).Pairwise (· < ·) := by
  unfold putL
  by_cases h : a ∈ l
  · rw [if_pos h]; exact hl
  · rw [if_neg h, List.pairwise_append, List.pairwise_append]
    refine ⟨⟨List.Pairwise.filter _ hl, List.pairwise_singleton _ _, fun x hx y hy => ?_⟩, List.Pairwise.filter _ hl, fun x hx y hy => ?_⟩
    · simp at hx hy; omega
    · simp at hx hy; omega
/-- The sets of a family below k. -/
def famK (M : Nat → Bool) (k : Nat) : List Nat := (List.range k).filter M
theorem famK_succ (M : Nat → Bool) (k : Nat) : famK M (k + 1) = if M k = true then famK M k ++ [k] else famK M k := by
  unfold famK
  rw [List.range_succ, List.filter_append]
  by_cases h : M k = true <;> simp [h]
theorem famK_len (M : Nat → Bool) (k : Nat) : (famK M k).length ≤ k := by
  unfold famK
  have := List.length_filter_le M (List.range k)
  simpa using this
theorem IntsA.putB {n : Nat} {h : Hp} {v : Value} {xs : List Int} (hs : IntsA n h v xs) {o : Nat} (ho : o < n) (x : AObj) : IntsA n (h.put o x) v xs := by
  rcases hs with ⟨a, b⟩ | ⟨p, ex, a, b, c, d⟩
  · exact .inl ⟨a, b⟩
  · exact .inr ⟨p, ex, a, b, c, by simp [Hp.put, show p ≠ o by omega]; exact d⟩
theorem famSpace_ok (h : Hp) (o n : Nat) (M : Nat → Bool) (own ex : Bool) (es : Nat) (ho : o < h.next) (hg : h.get o = .cells (famC M) own ex es) :
    ∃ v' h', CallOK Try.prog 114 #[.pointer (some ⟨o, 0, none⟩), .int .i64 (n : Int)] h v' h' ∧ Adds h h' ∧ SpaceO (Btw h.next h'.next) h' v' n (toN (famK M 128)) := by
  refine callY_L (args := [.pointer (some ⟨o, 0, none⟩), .int .i64 (n : Int)]) 26 _ [.cell 4 32] Try.func114 rfl rfl rfl ?_
  try simp (disch := first | omega | (simp; done) | fail) [wrap64c, if_pos, if_neg, opAnd, opOr, opXor, opDiff, opShr, opBit, putCells]
  first | refine WY_heap fun h0 q_h0 => ?_ | refine callG_heap fun h0 q_h0 => ?_ | refine callP_heap fun h0 q_h0 => ?_ | refine RY_heap fun h0 q_h0 => ?_ | refine PY_heap fun h0 q_h0 => ?_ | refine doneY_heap fun h0 q_h0 => ?_ | refine loopK_heap fun h0 q_h0 => ?_ | refine thenY_heap fun h0 q_h0 => ?_ | refine thenM_heap fun h0 q_h0 => ?_
  have k0 : Adds h h0 := by rw [q_h0]; exact (by first | exact aK | exact kK)
  have n0 : h0.next = h.next + 2 := by simp [q_h0]
  have g1 : h0.get h.next = .cells [.int .i64 0, .slice none 0 0] true true 1 := by simp [q_h0]
  have g2 : h0.get (h.next + 1) = .cells [.int .i64 (n : Int), .slice none 0 0] true true 1 := by simp [q_h0]
  have hf := famC_getD M
  try simp (disch := first | omega | (simp; done) | fail) [wrap64c, if_pos, if_neg, opAnd, opOr, opXor, opDiff, opShr, opBit, hf]
  refine WD_loopC [4, 5, 10] (fun m tm h' => ∃ k u, m = 128 - k ∧ tm 11 = .int .i64 (k : Int) ∧ (k ≤ 128) ∧ (Adds h h') ∧ (h0.next ≤ h'.next) ∧ (h'.get h.next = .cells [.int .i64 0, .slice none 0 0] true true 1) ∧ (h'.get (h.next + 1) = .cells [.int .i64 (n : Int), u] true true 1) ∧ (IntsA h0.next h' u (toN (famK M k)))) _ ⟨0, .slice none 0 0, rfl, (by simp (disch := first | omega | (simp; done) | fail) [wrap64c, if_pos, if_neg, opAnd, opOr, opXor, opDiff, opShr, opBit, hf]), (by first | omega | assumption | (simp (disch := first | omega | (simp; done) | fail) [wrap64c, if_pos, if_neg, opAnd, opOr, opXor, opDiff, opShr, opBit, hf] <;> omega)), k0, (Nat.le_refl _), g1, g2, (by simp [famK, toN]; exact IntsA.nil _ _)⟩ ?_
  rintro m tm h' hFr ⟨k, u, rfl, e11, hk, ha, ha0, hg1, hg2, hu⟩
  simp only [FrameL] at hFr
  obtain ⟨f4_0, f5_0, f10_0, -⟩ := hFr
  try simp (disch := first | omega | (simp; done) | fail) [wrap64c, if_pos, if_neg, opAnd, opOr, opXor, opDiff, opShr, opBit, hf] at f4_0 f5_0 f10_0
  have e4 := f4_0
  have e5 := f5_0
  have e10 := f10_0
  have hgo : h'.get o = .cells (famC M) own ex es := by rw [ha.1.2 o ho]; exact hg
  by_cases hlt : k < 128
  · have hs := famK_succ M k
    have hle := famK_len M k
    try simp (disch := first | omega | (simp; done) | fail) [wrap64c, if_pos, if_neg, opAnd, opOr, opXor, opDiff, opShr, opBit, hf, e4, e5, e10, e11, hg1, hg2, hgo, hlt]
    refine WD_drawC 5 rfl (by kernel_rfl) ?_
    try simp (disch := first | omega | (simp; done) | fail) [wrap64c, if_pos, if_neg, opAnd, opOr, opXor, opDiff, opShr, opBit, hf, e4, e5, e10, e11, hg1, hg2, hgo, hlt]
    cases hc : M k
    · rw [if_neg (by simp [hc])] at hs
      try simp (disch := first | omega | (simp; done) | fail) [wrap64c, if_pos, if_neg, opAnd, opOr, opXor, opDiff, opShr, opBit, hf, e4, e5, e10, e11, hg1, hg2, hgo, hlt, hc]
      refine loopK_next _ ?hm ?hf ⟨k + 1, u, rfl, (by simp (disch := first | omega | (simp; done) | fail) [wrap64c, if_pos, if_neg, opAnd, opOr, opXor, opDiff, opShr, opBit, hf, e4, e5, e10, e11, hg1, hg2, hgo, hlt, hc] <;> omega), (by first | omega | assumption | (simp (disch := first | omega | (simp; done) | fail) [wrap64c, if_pos, if_neg, opAnd, opOr, opXor, opDiff, opShr, opBit, hf, e4, e5, e10, e11, hg1, hg2, hgo, hlt, hc] <;> omega)), (by first | omega | assumption | (simp (disch := first | omega | (simp; done) | fail) [wrap64c, if_pos, if_neg, opAnd, opOr, opXor, opDiff, opShr, opBit, hf, e4, e5, e10, e11, hg1, hg2, hgo, hlt, hc] <;> omega)), (by first | omega | assumption | (simp (disch := first | omega | (simp; done) | fail) [wrap64c, if_pos, if_neg, opAnd, opOr, opXor, opDiff, opShr, opBit, hf, e4, e5, e10, e11, hg1, hg2, hgo, hlt, hc] <;> omega)), (by first | omega | assumption | (simp (disch := first | omega | (simp; done) | fail) [wrap64c, if_pos, if_neg, opAnd, opOr, opXor, opDiff, opShr, opBit, hf, e4, e5, e10, e11, hg1, hg2, hgo, hlt, hc] <;> omega)), (by first | omega | assumption | (simp (disch := first | omega | (simp; done) | fail) [wrap64c, if_pos, if_neg, opAnd, opOr, opXor, opDiff, opShr, opBit, hf, e4, e5, e10, e11, hg1, hg2, hgo, hlt, hc] <;> omega)), (by rw [hs]; exact hu)⟩
      (case hm => first | omega | (simp; omega))
      (case hf => simp [FrameL, hf, e4, e5, e10, e11, hg1, hg2, hgo, hlt, hc, f4_0, f5_0, f10_0])
    · rw [if_pos hc] at hs
      have ntu := (hu.own (by simp; omega)).nt
      have csu := (hu.own (by simp; omega)).cs
      try simp (disch := first | omega | (simp; done) | fail) [wrap64c, if_pos, if_neg, opAnd, opOr, opXor, opDiff, opShr, opBit, hf, e4, e5, e10, e11, hg1, hg2, hgo, hlt, hc, ntu, csu]
      obtain ⟨u2, h2, hap, hu2, ha2, hn2, hs2⟩ := appI hu (k : Int) (by simp; omega) ha0 ha (by omega)
      have gq : h2.get (h.next + 1) = .cells [.int .i64 (n : Int), u] true true 1 := by rw [hs2 _ (by omega) (by omega)]; exact hg2
      have gq1 : h2.get h.next = .cells [.int .i64 0, .slice none 0 0] true true 1 := by rw [hs2 _ (by omega) (by omega)]; exact hg1
      have nt2 := (hu2.own (by simp; omega)).nt
      have cs2 := (hu2.own (by simp; omega)).cs
      try simp (disch := first | omega | (simp; done) | fail) [wrap64c, if_pos, if_neg, opAnd, opOr, opXor, opDiff, opShr, opBit, hf, e4, e5, e10, e11, hg1, hg2, hgo, hlt, hc, ntu, csu, gq, gq1, nt2, cs2, hap, putCells]
      refine loopK_next _ ?hm ?hf ⟨k + 1, u2, rfl, (by simp (disch := first | omega | (simp; done) | fail) [wrap64c, if_pos, if_neg, opAnd, opOr, opXor, opDiff, opShr, opBit, hf, e4, e5, e10, e11, hg1, hg2, hgo, hlt, hc, ntu, csu, gq, gq1, nt2, cs2] <;> omega), (by first | omega | assumption | (simp (disch := first | omega | (simp; done) | fail) [wrap64c, if_pos, if_neg, opAnd, opOr, opXor, opDiff, opShr, opBit, hf, e4, e5, e10, e11, hg1, hg2, hgo, hlt, hc, ntu, csu, gq, gq1, nt2, cs2] <;> omega)), (by first | exact aK | exact kK), (by simp; omega), (by simp [gq1]), (by simp), (by rw [hs, toN_snoc]; exact IntsA.putB hu2 (by omega) _)⟩
      (case hm => first | omega | (simp; omega))
      (case hf => simp [FrameL, hf, e4, e5, e10, e11, hg1, hg2, hgo, hlt, hc, ntu, csu, gq, gq1, nt2, cs2, f4_0, f5_0, f10_0])
  · have e : k = 128 := by omega
    subst e
    have hle := famK_len M 128
    have ntu := (hu.own (by simp; omega)).nt
    have csu := (hu.own (by simp; omega)).cs
    try simp (disch := first | omega | (simp; done) | fail) [wrap64c, if_pos, if_neg, opAnd, opOr, opXor, opDiff, opShr, opBit, hf, e4, e5, e10, e11, hg1, hg2, hgo, hlt, ntu, csu, putCells]
    have hn1 := ha.1.1
    refine done_ret (by simp [putCells, e4]; rfl) ⟨(by first | exact aK | exact kK), u, by simp, ?_⟩
    exact ((IntsA.putB hu (show h.next < h0.next by omega) _).own (by simp; omega)).sub fun o ho => ⟨by have := ho.1; omega, by have := ho.2; simpa using this⟩
theorem sl_take {α : Type} {R : Hp → Value → α → Prop} {h : Hp} {o i n c k : Nat} {xs : List α} (hs : Sl R h (.slice (some ⟨o, i, none⟩) n c) xs) (hk : k ≤ xs.length) : Sl R h (.slice (some ⟨o, i, none⟩) k c) (xs.take k) := by
  obtain ⟨s, c', e, hc, hc', hx⟩ := hs
  cases e
  refine ⟨some ⟨o, i, none⟩, c, by simp [Nat.min_eq_left hk], by simp; omega, hc', fun j x hj => ?_⟩
  rw [List.getElem?_take] at hj
  split at hj
  · exact hx j x hj
  · cases hj
theorem sl_drop {α : Type} {R : Hp → Value → α → Prop} {h : Hp} {o i n c k : Nat} {xs : List α} (hs : Sl R h (.slice (some ⟨o, i, none⟩) n c) xs) (hk : k ≤ xs.length) : Sl R h (.slice (some ⟨o, i + k, none⟩) (n - k) (c - k)) (xs.drop k) := by
  obtain ⟨s, c', e, hc, hc', hx⟩ := hs
  cases e
  refine ⟨some ⟨o, i + k, none⟩, c - k, by simp, by simp; omega, by omega, fun j x hj => ?_⟩
  rw [List.getElem?_drop] at hj
  obtain ⟨o', i', cs, own, ex, es, h1, h2, h3, h4, h5⟩ := hx _ x hj
  cases h1
  exact ⟨o, i + k, cs, own, ex, es, rfl, h2, h3, by omega, by rw [Nat.add_assoc]; exact h5⟩
theorem split_at {l : List Nat} {a k : Nat} (hk : k ≤ l.length) (h1 : ∀ i (h : i < l.length), i < k → l[i] < a) (h2 : ∀ i (h : i < l.length), k ≤ i → a < l[i]) : l.take k = l.filter (fun x => decide (x < a)) ∧ l.drop k = l.filter fun x => decide (a < x) := by
  have e : l = l.take k ++ l.drop k := (List.take_append_drop k l).symm
  have ht : ∀ x ∈ l.take k, x < a := fun x hx => by
    obtain ⟨i, hi, rfl⟩ := List.mem_iff_getElem.1 hx
    simp at hi
    rw [List.getElem_take]
    exact h1 i (by omega) (by omega)
  have hd : ∀ x ∈ l.drop k, a < x := fun x hx => by
    obtain ⟨i, hi, rfl⟩ := List.mem_iff_getElem.1 hx
    simp at hi
    rw [List.getElem_drop]
    exact h2 _ (by omega) (by omega)
  constructor
  · rw (occs := [2]) [e]
    rw [List.filter_append, List.filter_eq_self.2 (fun x hx => by simpa using ht x hx), List.filter_eq_nil_iff.2 (fun x hx => by simp; have := hd x hx; omega), List.append_nil]
  · rw (occs := [2]) [e]
    rw [List.filter_append, List.filter_eq_nil_iff.2 (fun x hx => by simp; have := ht x hx; omega), List.filter_eq_self.2 (fun x hx => by simpa using hd x hx), List.nil_append]
theorem IntsA.lower {m n : Nat} {h : Hp} {v : Value} {xs : List Int} (hs : IntsA n h v xs) (hm : m ≤ n) : IntsA m h v xs := by
  rcases hs with ⟨a, b⟩ | ⟨p, ex, a, b, c, d⟩
  · exact .inl ⟨a, b⟩
  · exact .inr ⟨p, ex, a, by omega, c, d⟩
theorem l1Put_ok (h : Hp) (m : Nat) (v : Value) (l : List Nat) (a : Nat) (hv : IntsA m h v (toN l)) (hs : l.Pairwise (· < ·)) (hl : l.length < 2 ^ 38) (hm : m ≤ h.next) :
    ∃ v' h', CallOK Try.prog 162 #[v, .int .i64 (a : Int)] h v' h' ∧ Adds h h' ∧ IntsA m h' v' (toN (putL l a)) := by
  refine callY_L (args := [v, .int .i64 (a : Int)]) 48 _ [.tmp 4] Try.func162 rfl rfl rfl ?_
  have hvI := (hv.own (by simp; omega)).ints
  have hL := hvI.lenD
  have hgt := toN_get l
  have hln := toN_length l
  have hsg : ∀ i j (hi : i < l.length) (hj : j < l.length), i < j → l[i] < l[j] := fun i j hi hj hij => List.pairwise_iff_getElem.1 hs i j hi hj hij
  try simp (disch := first | omega | (simp; done) | fail) [wrap64c, if_pos, if_neg, opAnd, opOr, opXor, opDiff, opShr, opBit, hL, hgt]
  refine WD_loopC [0, 1] (fun m tm h' => ∃ j, m = l.length - j ∧ h = h' ∧ tm 5 = .int .i64 (j : Int) ∧ (j ≤ l.length) ∧ (∀ i (h1 : i < l.length), i < j → l[i] < a)) _ ⟨0, rfl, rfl, (by simp (disch := first | omega | (simp; done) | fail) [wrap64c, if_pos, if_neg, opAnd, opOr, opXor, opDiff, opShr, opBit, hL, hgt]), (by first | omega | assumption | (simp (disch := first | omega | (simp; done) | fail) [wrap64c, if_pos, if_neg, opAnd, opOr, opXor, opDiff, opShr, opBit, hL, hgt] <;> omega)), (by intro i h1 h2; omega)⟩ ?_
  rintro m tm h' hFr ⟨j, rfl, rfl, e5, hj, hx⟩
  simp only [FrameL] at hFr
  obtain ⟨f0_0, f1_0, -⟩ := hFr
  try simp (disch := first | omega | (simp; done) | fail) [wrap64c, if_pos, if_neg, opAnd, opOr, opXor, opDiff, opShr, opBit, hL, hgt] at f0_0 f1_0
  have e0 := f0_0
  have e1 := f1_0
  by_cases hlt : j < l.length
  · obtain ⟨o_x, i_x, c_x, cs_x, own_x, ex_x, es_x, q_x, b_x, g_x, l_x, r_x⟩ := hvI.open ((by omega))
    have z_x : ∀ h2 : i_x < cs_x.length, cs_x[i_x] = _ := fun h2 => r_x 0 ((by omega)) h2
    by_cases hc : l[j] < a
    · try simp (disch := first | omega | (simp; done) | fail) [wrap64c, if_pos, if_neg, opAnd, opOr, opXor, opDiff, opShr, opBit, hL, hgt, e0, e1, e5, hlt, q_x, g_x, l_x, r_x, z_x, hc]
      refine loopK_next _ ?hm ?hf ⟨j + 1, rfl, rfl, (by simp (disch := first | omega | (simp; done) | fail) [wrap64c, if_pos, if_neg, opAnd, opOr, opXor, opDiff, opShr, opBit, hL, hgt, e0, e1, e5, hlt, q_x, g_x, l_x, r_x, z_x, hc] <;> omega), (by first | omega | assumption | (simp (disch := first | omega | (simp; done) | fail) [wrap64c, if_pos, if_neg, opAnd, opOr, opXor, opDiff, opShr, opBit, hL, hgt, e0, e1, e5, hlt, q_x, g_x, l_x, r_x, z_x, hc] <;> omega)), ?c_hx⟩
      (case hm => first | omega | (simp; omega))
      (case hf => simp [FrameL, hL, hgt, e0, e1, e5, hlt, q_x, g_x, l_x, r_x, z_x, hc, f0_0, f1_0])
      case c_hx =>
        exact (fun i h1 hi => by
          by_cases e : i = j
          · subst e; exact hc
          · exact hx i h1 (by omega))
    · by_cases he : l[j] = a
      · have hm' : a ∈ l := he ▸ List.getElem_mem hlt
        have hb : ((l[j] : Int) == (a : Int)) = true := by simp [he]
        try simp (disch := first | omega | (simp; done) | fail) [wrap64c, if_pos, if_neg, opAnd, opOr, opXor, opDiff, opShr, opBit, hL, hgt, e0, e1, e5, hlt, q_x, g_x, l_x, r_x, z_x, hc, hb]
        refine done_ret rfl ⟨adds_self _, ?_⟩
        rw [q_x, hln] at hv
        rw [putL, if_pos hm']; exact hv
      · have hb : ((l[j] : Int) == (a : Int)) = false := by simp; omega
        have h2 : ∀ i (h : i < l.length), j ≤ i → a < l[i] := fun i hi hji => by
          by_cases e : i = j
          · subst e; omega
          · have := hsg j i hlt hi (by omega); omega
        have hnm : ¬ a ∈ l := fun hm' => by
          obtain ⟨i, hi, e⟩ := List.mem_iff_getElem.1 hm'
          by_cases hij : i < j
          · have := hx i hi hij; omega
          · have := h2 i hi (by omega); omega
        obtain ⟨t1, t2⟩ := split_at (a := a) (by omega) hx h2
        have hput : toN (putL l a) = ((toN l).take j ++ [(a : Int)]) ++ (toN l).drop j := by
          rw [putL, if_neg hnm, ← t1, ← t2, toN_append, toN_append]; simp [toN]
        have hvI2 := hvI
        rw [q_x] at hvI2
        have ht := sl_take (k := j) hvI2 (by omega)
        have hd := sl_drop (k := j) hvI2 (by omega)
        rw [hln] at hd
        have hcx : l.length ≤ c_x ∧ c_x < 2 ^ 63 := by
          obtain ⟨s, c, e, h1, h2⟩ := Sl.form hvI2
          cases e
          omega
        try simp (disch := first | omega | (simp; done) | fail) [wrap64c, if_pos, if_neg, opAnd, opOr, opXor, opDiff, opShr, opBit, hL, hgt, e0, e1, e5, hlt, q_x, g_x, l_x, r_x, z_x, hc, hb]
        first | refine WY_heap fun h1 q_h1 => ?_ | refine callG_heap fun h1 q_h1 => ?_ | refine callP_heap fun h1 q_h1 => ?_ | refine RY_heap fun h1 q_h1 => ?_ | refine PY_heap fun h1 q_h1 => ?_ | refine doneY_heap fun h1 q_h1 => ?_ | refine loopK_heap fun h1 q_h1 => ?_ | refine thenY_heap fun h1 q_h1 => ?_ | refine thenM_heap fun h1 q_h1 => ?_
        have k1 : Adds h h1 := by rw [q_h1]; exact (by first | exact aK | exact kK)
        have n1 : h1.next = h.next + 1 := by simp [q_h1]
        have hA : IntsA h.next h1 (.slice (some ⟨h.next, 0, none⟩) 0 0) [] := .lit (ex := true) (Nat.le_refl _) (by omega) (by simp [q_h1, zarr])
        obtain ⟨v2, h2', hap, hA2, k2, n2, s2⟩ := append_ints (P := Try.prog) (t := 30) (t' := 30) hA ((show Ints h _ _ from ht).keep k1.1) ty_elT_30 ty_szT_3 ty_zeroT_3 ty_byT_3 (by decide) (by decide) (by simp) (by simp; omega) (by omega) k1 (Nat.le_refl _)
        try simp (disch := first | omega | (simp; done) | fail) [wrap64c, if_pos, if_neg, opAnd, opOr, opXor, opDiff, opShr, opBit, hL, hgt, e0, e1, e5, hlt, q_x, g_x, l_x, r_x, z_x, hc, hb, hap]
        have h3n := k2.1.1
        obtain ⟨v3, h3, hap3, hA3, k3, n3, s3⟩ := appI hA2 (a : Int) (by simp; omega) h3n k2 (Nat.le_refl _)
        try simp (disch := first | omega | (simp; done) | fail) [wrap64c, if_pos, if_neg, opAnd, opOr, opXor, opDiff, opShr, opBit, hL, hgt, e0, e1, e5, hlt, q_x, g_x, l_x, r_x, z_x, hc, hb, hap3]
        obtain ⟨v4, h4, hap4, hA4, k4, n4, s4⟩ := append_ints (P := Try.prog) (t := 30) (t' := 30) hA3 ((show Ints h _ _ from hd).keep k3.1) ty_elT_30 ty_szT_3 ty_zeroT_3 ty_byT_3 (by decide) (by decide) (by simp) (by simp; omega) (by have := k3.1.1; omega) k3 (Nat.le_refl _)
        try simp (disch := first | omega | (simp; done) | fail) [wrap64c, if_pos, if_neg, opAnd, opOr, opXor, opDiff, opShr, opBit, hL, hgt, e0, e1, e5, hlt, q_x, g_x, l_x, r_x, z_x, hc, hb, hap4]
        refine done_ret rfl ⟨k4, ?_⟩
        rw [hput]
        simp only [List.nil_append] at hA4
        exact IntsA.lower hA4 hm
  · have hje : j = l.length := by omega
    have hput : toN (putL l a) = ((toN l).take j ++ [(a : Int)]) ++ (toN l).drop j := by
      have hnm : ¬ a ∈ l := fun hm' => by
        obtain ⟨i, hi, e⟩ := List.mem_iff_getElem.1 hm'
        have := hx i hi (by omega); omega
      obtain ⟨t1, t2⟩ := split_at (a := a) (by omega) hx (fun i h1 h2 => by omega)
      rw [putL, if_neg hnm, ← t1, ← t2, toN_append, toN_append]; simp [toN]
    have hlb : ¬ ((j : Int) < (l.length : Int)) := by omega
    rcases hv with ⟨y1, y2⟩ | ⟨o, ex, y1, y2, y3, y4⟩
    · subst y2
      have hl0 : l.length = 0 := by rw [← toN_length, y1]; rfl
      have hj0 : j = 0 := by omega
      subst hj0
      rw [y1] at hput
      try simp (disch := first | omega | (simp; done) | fail) [wrap64c, if_pos, if_neg, opAnd, opOr, opXor, opDiff, opShr, opBit, hL, hgt, e0, e1, e5, hlt, hlb]
      first | refine WY_heap fun h1 q_h1 => ?_ | refine callG_heap fun h1 q_h1 => ?_ | refine callP_heap fun h1 q_h1 => ?_ | refine RY_heap fun h1 q_h1 => ?_ | refine PY_heap fun h1 q_h1 => ?_ | refine doneY_heap fun h1 q_h1 => ?_ | refine loopK_heap fun h1 q_h1 => ?_ | refine thenY_heap fun h1 q_h1 => ?_ | refine thenM_heap fun h1 q_h1 => ?_
      have k1 : Adds h h1 := by rw [q_h1]; exact (by first | exact aK | exact kK)
      have n1 : h1.next = h.next + 1 := by simp [q_h1]
      have hA : IntsA h.next h1 (.slice (some ⟨h.next, 0, none⟩) 0 0) [] := .lit (ex := true) (Nat.le_refl _) (by omega) (by simp [q_h1, zarr])
      have hno : Ints h1 (.slice none 0 0) [] := (IntsO.nil (fun _ => False) h1).ints
      obtain ⟨v2, h2', hap, hA2, k2, n2, s2⟩ := append_ints (P := Try.prog) (t := 30) (t' := 30) hA hno ty_elT_30 ty_szT_3 ty_zeroT_3 ty_byT_3 (by decide) (by decide) (by simp) (by simp) (by omega) k1 (Nat.le_refl _)
      try simp (disch := first | omega | (simp; done) | fail) [wrap64c, if_pos, if_neg, opAnd, opOr, opXor, opDiff, opShr, opBit, hL, hgt, e0, e1, e5, hlt, hlb, hap]
      have h3n := k2.1.1
      obtain ⟨v3, h3, hap3, hA3, k3, n3, s3⟩ := appI hA2 (a : Int) (by simp) h3n k2 (Nat.le_refl _)
      try simp (disch := first | omega | (simp; done) | fail) [wrap64c, if_pos, if_neg, opAnd, opOr, opXor, opDiff, opShr, opBit, hL, hgt, e0, e1, e5, hlt, hlb, hap3]
      have hno3 : Ints h3 (.slice none 0 0) [] := (IntsO.nil (fun _ => False) h3).ints
      obtain ⟨v4, h4, hap4, hA4, k4, n4, s4⟩ := append_ints (P := Try.prog) (t := 30) (t' := 30) hA3 hno3 ty_elT_30 ty_szT_3 ty_zeroT_3 ty_byT_3 (by decide) (by decide) (by simp) (by simp) (by have := k3.1.1; omega) k3 (Nat.le_refl _)
      try simp (disch := first | omega | (simp; done) | fail) [wrap64c, if_pos, if_neg, opAnd, opOr, opXor, opDiff, opShr, opBit, hL, hgt, e0, e1, e5, hlt, hlb, hap4]
      refine done_ret rfl ⟨k4, ?_⟩
      rw [hput]
      simp only [List.nil_append, List.take_zero, List.drop_zero] at hA4 ⊢
      exact IntsA.lower hA4 hm
    · subst y1
      rw [hln] at hvI
      have ht := sl_take (k := l.length) hvI (by omega)
      have hd := sl_drop (k := l.length) hvI (by omega)
      rw [Nat.zero_add, Nat.sub_self] at hd
      have hje := hje
      rw [hje] at hput
      have hln2 := hln
      try simp (disch := first | omega | (simp; done) | fail) [wrap64c, if_pos, if_neg, opAnd, opOr, opXor, opDiff, opShr, opBit, hL, hgt, e0, e1, e5, hlt, hlb, hje, hln2]
      first | refine WY_heap fun h1 q_h1 => ?_ | refine callG_heap fun h1 q_h1 => ?_ | refine callP_heap fun h1 q_h1 => ?_ | refine RY_heap fun h1 q_h1 => ?_ | refine PY_heap fun h1 q_h1 => ?_ | refine doneY_heap fun h1 q_h1 => ?_ | refine loopK_heap fun h1 q_h1 => ?_ | refine thenY_heap fun h1 q_h1 => ?_ | refine thenM_heap fun h1 q_h1 => ?_
      have k1 : Adds h h1 := by rw [q_h1]; exact (by first | exact aK | exact kK)
      have n1 : h1.next = h.next + 1 := by simp [q_h1]
      have hA : IntsA h.next h1 (.slice (some ⟨h.next, 0, none⟩) 0 0) [] := .lit (ex := true) (Nat.le_refl _) (by omega) (by simp [q_h1, zarr])
      obtain ⟨v2, h2', hap, hA2, k2, n2, s2⟩ := append_ints (P := Try.prog) (t := 30) (t' := 30) hA ((show Ints h _ _ from ht).keep k1.1) ty_elT_30 ty_szT_3 ty_zeroT_3 ty_byT_3 (by decide) (by decide) (by simp) (by simp; omega) (by omega) k1 (Nat.le_refl _)
      try simp (disch := first | omega | (simp; done) | fail) [wrap64c, if_pos, if_neg, opAnd, opOr, opXor, opDiff, opShr, opBit, hL, hgt, e0, e1, e5, hlt, hlb, hje, hln2, hap]
      have h3n := k2.1.1
      obtain ⟨v3, h3, hap3, hA3, k3, n3, s3⟩ := appI hA2 (a : Int) (by simp; omega) h3n k2 (Nat.le_refl _)
      try simp (disch := first | omega | (simp; done) | fail) [wrap64c, if_pos, if_neg, opAnd, opOr, opXor, opDiff, opShr, opBit, hL, hgt, e0, e1, e5, hlt, hlb, hje, hln2, hap3]
      obtain ⟨v4, h4, hap4, hA4, k4, n4, s4⟩ := append_ints (P := Try.prog) (t := 30) (t' := 30) hA3 ((show Ints h _ _ from hd).keep k3.1) ty_elT_30 ty_szT_3 ty_zeroT_3 ty_byT_3 (by decide) (by decide) (by simp) (by simp; omega) (by have := k3.1.1; omega) k3 (Nat.le_refl _)
      try simp (disch := first | omega | (simp; done) | fail) [wrap64c, if_pos, if_neg, opAnd, opOr, opXor, opDiff, opShr, opBit, hL, hgt, e0, e1, e5, hlt, hlb, hje, hln2, hap4]
      refine done_ret rfl ⟨k4, ?_⟩
      rw [hput]
      simp only [List.nil_append] at hA4
      exact IntsA.lower hA4 hm
theorem spPut_of (h : Hp) (v v' : Value) (a : Int) (h' : Hp) (hc : CallOK Try.prog 162 #[v, .int .i64 a] h v' h') : CallOK Try.prog 110 #[v, .int .i64 a] h v' h' := by
  have key : ∃ v2 h2, CallOK Try.prog 110 #[v, .int .i64 a] h v2 h2 ∧ v2 = v' ∧ h2 = h' := by
    refine callY_L (args := [v, .int .i64 a]) 8 _ [.tmp 4] Try.func110 rfl rfl rfl ?_
    try simp (disch := first | omega | (simp; done) | fail) [wrap64c, if_pos, if_neg, opAnd, opOr, opXor, opDiff, opShr, opBit]
    refine callG_c (by simp) (by simp) ?ha (hc) ?_
    (case ha => simp (disch := first | omega | (simp; done) | fail) [wrap64c, if_pos, if_neg, opAnd, opOr, opXor, opDiff, opShr, opBit])
    try simp (disch := first | omega | (simp; done) | fail) [wrap64c, if_pos, if_neg, opAnd, opOr, opXor, opDiff, opShr, opBit]
    exact done_ret rfl ⟨rfl, rfl⟩
  obtain ⟨_, _, hc2, rfl, rfl⟩ := key
  exact hc2
theorem putL_len (l : List Nat) (a : Nat) : (putL l a).length ≤ l.length + 1 := by
  unfold putL
  split
  · omega
  · rename_i h
    rw [List.length_append, List.length_append, List.length_singleton]
    have key : ∀ l : List Nat, (l.filter fun x => decide (x < a)).length + (l.filter fun x => decide (a < x)).length ≤ l.length := by
      intro l
      induction l with
      | nil => simp
      | cons b l ih =>
        by_cases h1 : b < a
        · have h2 : ¬ a < b := by omega
          simp [h1, h2]; omega
        · by_cases h2 : a < b
          · simp [h1, h2]; omega
          · simp [h1, h2]; omega
    have := key l
    omega
end Go.Proofs.Ytnjabaeajjhliaa
