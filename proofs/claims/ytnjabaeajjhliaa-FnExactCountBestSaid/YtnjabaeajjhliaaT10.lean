/- The reference's orders; sets put in their places; sets with other names; which list comes first. -/
import Derived.Test.YtnjabaeajjhliaaT9
namespace Go.Proofs.Ytnjabaeajjhliaa
set_option linter.unusedSimpArgs false
set_option linter.unusedVariables false
set_option maxHeartbeats 4000000
open Go Go.Eng
attribute [local irreducible] WD RunD PreD Runs CallOK

theorem sl_take {α : Type} {R : Hp → Value → α → Prop} {h : Hp} {o i n c k : Nat} {xs : List α} (hs : Sl R h (.slice (some ⟨o, i, none⟩) n c) xs) (hk : k ≤ xs.length) : Sl R h (.slice (some ⟨o, i, none⟩) k c) (xs.take k) := by
  obtain ⟨s, c', e, hc, hc', hx⟩ := hs
  cases e
  refine ⟨some ⟨o, i, none⟩, c, by simp [Nat.min_eq_left hk], by simp; omega, hc', fun j x hj => ?_⟩
  rw [List.getElem?_take] at hj
  split at hj
  · exact hx j x hj
  · cases hj
theorem sl_drop {α : Type} {R : Hp → Value → α → Prop} {h : Hp} {o i n c k : Nat} {xs : List α} (hs : Sl R h (.slice (some ⟨o, i, none⟩) n c) xs) (hk : k ≤ xs.length) : Sl R h (.slice (some ⟨o, i + k, none⟩) (n - k) (c - k)) (xs.drop k) := by
  obtain ⟨s, c', e, hc, hc', hx⟩ := hs
  cases e
  refine ⟨some ⟨o, i + k, none⟩, c - k, by simp, by simp; omega, by omega, fun j x hj => ?_⟩
  rw [List.getElem?_drop] at hj
  obtain ⟨o', i', cs, own, ex, es, h1, h2, h3, h4, h5⟩ := hx _ x hj
  cases h1
  exact ⟨o, i + k, cs, own, ex, es, rfl, h2, h3, by omega, by rw [Nat.add_assoc]; exact h5⟩
theorem split_at {l : List Nat} {a k : Nat} (hk : k ≤ l.length) (h1 : ∀ i (h : i < l.length), i < k → l[i] < a) (h2 : ∀ i (h : i < l.length), k ≤ i → a < l[i]) : l.take k = l.filter (fun x => decide (x < a)) ∧ l.drop k = l.filter fun x => decide (a < x) := by
  have e : l = l.take k ++ l.drop k := (List.take_append_drop k l).symm
  have ht : ∀ x ∈ l.take k, x < a := fun x hx => by
    obtain ⟨i, hi, rfl⟩ := List.mem_iff_getElem.1 hx
    simp at hi
    rw [List.getElem_take]
    exact h1 i (by omega) (by omega)
  have hd : ∀ x ∈ l.drop k, a < x := fun x hx => by
    obtain ⟨i, hi, rfl⟩ := List.mem_iff_getElem.1 hx
    simp at hi
    rw [List.getElem_drop]
    exact h2 _ (by omega) (by omega)
  constructor
  · rw (occs := [2]) [e]
    rw [List.filter_append, List.filter_eq_self.2 (fun x hx => by simpa using ht x hx), List.filter_eq_nil_iff.2 (fun x hx => by simp; have := hd x hx; omega), List.append_nil]
  · rw (occs := [2]) [e]
    rw [List.filter_append, List.filter_eq_nil_iff.2 (fun x hx => by simp; have := ht x hx; omega), List.filter_eq_self.2 (fun x hx => by simpa using hd x hx), List.nil_append]

theorem IntsA.lower {m n : Nat} {h : Hp} {v : Value} {xs : List Int} (hs : IntsA n h v xs) (hm : m ≤ n) : IntsA m h v xs := by
  rcases hs with ⟨a, b⟩ | ⟨p, ex, a, b, c, d⟩
  · exact .inl ⟨a, b⟩
  · exact .inr ⟨p, ex, a, by omega, c, d⟩
theorem l1Put_ok (h : Hp) (m : Nat) (v : Value) (l : List Nat) (a : Nat) (hv : IntsA m h v (toN l)) (hs : l.Pairwise (· < ·)) (hl : l.length < 2 ^ 38) (hm : m ≤ h.next) :
    ∃ v' h', CallOK Try.prog 162 #[v, .int .i64 (a : Int)] h v' h' ∧ Adds h h' ∧ IntsA m h' v' (toN (putL l a)) := by
  refine callY_L (args := [v, .int .i64 (a : Int)]) 48 _ [.tmp 4] Try.func162 rfl rfl rfl ?_
  have hvI := (hv.own (by simp; omega)).ints
  have hL := hvI.lenD
  have hgt := toN_get l
  have hln := toN_length l
  have hsg : ∀ i j (hi : i < l.length) (hj : j < l.length), i < j → l[i] < l[j] := fun i j hi hj hij => List.pairwise_iff_getElem.1 hs i j hi hj hij
  try simp (disch := first | omega | (simp; done) | fail) [wrap64c, if_pos, if_neg, opAnd, opOr, opXor, opDiff, opShr, opBit, hL, hgt]
  refine WD_loopC [0, 1] (fun m tm h' => ∃ j, m = l.length - j ∧ h = h' ∧ tm 5 = .int .i64 (j : Int) ∧ (j ≤ l.length) ∧ (∀ i (h1 : i < l.length), i < j → l[i] < a)) _ ⟨0, rfl, rfl, (by simp (disch := first | omega | (simp; done) | fail) [wrap64c, if_pos, if_neg, opAnd, opOr, opXor, opDiff, opShr, opBit, hL, hgt]), (by first | omega | assumption | (simp (disch := first | omega | (simp; done) | fail) [wrap64c, if_pos, if_neg, opAnd, opOr, opXor, opDiff, opShr, opBit, hL, hgt] <;> omega)), (by intro i h1 h2; omega)⟩ ?_
  rintro m tm h' hFr ⟨j, rfl, rfl, e5, hj, hx⟩
  simp only [FrameL] at hFr
  obtain ⟨f0_0, f1_0, -⟩ := hFr
  try simp (disch := first | omega | (simp; done) | fail) [wrap64c, if_pos, if_neg, opAnd, opOr, opXor, opDiff, opShr, opBit, hL, hgt] at f0_0 f1_0
  have e0 := f0_0
  have e1 := f1_0
  by_cases hlt : j < l.length
  · obtain ⟨o_x, i_x, c_x, cs_x, own_x, ex_x, es_x, q_x, b_x, g_x, l_x, r_x⟩ := hvI.open ((by omega))
    have z_x : ∀ h2 : i_x < cs_x.length, cs_x[i_x] = _ := fun h2 => r_x 0 ((by omega)) h2
    by_cases hc : l[j] < a
    · try simp (disch := first | omega | (simp; done) | fail) [wrap64c, if_pos, if_neg, opAnd, opOr, opXor, opDiff, opShr, opBit, hL, hgt, e0, e1, e5, hlt, q_x, g_x, l_x, r_x, z_x, hc]
      refine loopK_next _ ?hm ?hf ⟨j + 1, rfl, rfl, (by simp (disch := first | omega | (simp; done) | fail) [wrap64c, if_pos, if_neg, opAnd, opOr, opXor, opDiff, opShr, opBit, hL, hgt, e0, e1, e5, hlt, q_x, g_x, l_x, r_x, z_x, hc] <;> omega), (by first | omega | assumption | (simp (disch := first | omega | (simp; done) | fail) [wrap64c, if_pos, if_neg, opAnd, opOr, opXor, opDiff, opShr, opBit, hL, hgt, e0, e1, e5, hlt, q_x, g_x, l_x, r_x, z_x, hc] <;> omega)), ?c_hx⟩
      (case hm => first | omega | (simp; omega))
      (case hf => simp [FrameL, hL, hgt, e0, e1, e5, hlt, q_x, g_x, l_x, r_x, z_x, hc, f0_0, f1_0])
      case c_hx =>
        exact (fun i h1 hi => by
          by_cases e : i = j
          · subst e; exact hc
          · exact hx i h1 (by omega))
    · by_cases he : l[j] = a
      · have hm' : a ∈ l := he ▸ List.getElem_mem hlt
        have hb : ((l[j] : Int) == (a : Int)) = true := by simp [he]
        try simp (disch := first | omega | (simp; done) | fail) [wrap64c, if_pos, if_neg, opAnd, opOr, opXor, opDiff, opShr, opBit, hL, hgt, e0, e1, e5, hlt, q_x, g_x, l_x, r_x, z_x, hc, hb]
        refine done_ret rfl ⟨adds_self _, ?_⟩
        rw [q_x, hln] at hv
        rw [putL, if_pos hm']; exact hv
      · have hb : ((l[j] : Int) == (a : Int)) = false := by simp; omega
        have h2 : ∀ i (h : i < l.length), j ≤ i → a < l[i] := fun i hi hji => by
          by_cases e : i = j
          · subst e; omega
          · have := hsg j i hlt hi (by omega); omega
        have hnm : ¬ a ∈ l := fun hm' => by
          obtain ⟨i, hi, e⟩ := List.mem_iff_getElem.1 hm'
          by_cases hij : i < j
          · have := hx i hi hij; omega
          · have := h2 i hi (by omega); omega
        obtain ⟨t1, t2⟩ := split_at (a := a) (by omega) hx h2
        have hput : toN (putL l a) = ((toN l).take j ++ [(a : Int)]) ++ (toN l).drop j := by
          rw [putL, if_neg hnm, ← t1, ← t2, toN_append, toN_append]; simp [toN]
        have hvI2 := hvI
        rw [q_x] at hvI2
        have ht := sl_take (k := j) hvI2 (by omega)
        have hd := sl_drop (k := j) hvI2 (by omega)
        rw [hln] at hd
        have hcx : l.length ≤ c_x ∧ c_x < 2 ^ 63 := by
          obtain ⟨s, c, e, h1, h2⟩ := Sl.form hvI2
          cases e
          omega
        try simp (disch := first | omega | (simp; done) | fail) [wrap64c, if_pos, if_neg, opAnd, opOr, opXor, opDiff, opShr, opBit, hL, hgt, e0, e1, e5, hlt, q_x, g_x, l_x, r_x, z_x, hc, hb]
        first | refine WY_heap fun h1 q_h1 => ?_ | refine callG_heap fun h1 q_h1 => ?_ | refine callP_heap fun h1 q_h1 => ?_ | refine RY_heap fun h1 q_h1 => ?_ | refine PY_heap fun h1 q_h1 => ?_ | refine doneY_heap fun h1 q_h1 => ?_ | refine loopK_heap fun h1 q_h1 => ?_ | refine thenY_heap fun h1 q_h1 => ?_ | refine thenM_heap fun h1 q_h1 => ?_
        have k1 : Adds h h1 := by rw [q_h1]; exact (by first | exact aK | exact kK)
        have n1 : h1.next = h.next + 1 := by simp [q_h1]
        have hA : IntsA h.next h1 (.slice (some ⟨h.next, 0, none⟩) 0 0) [] := .lit (ex := true) (Nat.le_refl _) (by omega) (by simp [q_h1, zarr])
        obtain ⟨v2, h2', hap, hA2, k2, n2, s2⟩ := append_ints (P := Try.prog) (t := 30) (t' := 30) hA ((show Ints h _ _ from ht).keep k1.1) ty_elT_30 ty_szT_3 ty_zeroT_3 ty_byT_3 (by decide) (by decide) (by simp) (by simp; omega) (by omega) k1 (Nat.le_refl _)
        try simp (disch := first | omega | (simp; done) | fail) [wrap64c, if_pos, if_neg, opAnd, opOr, opXor, opDiff, opShr, opBit, hL, hgt, e0, e1, e5, hlt, q_x, g_x, l_x, r_x, z_x, hc, hb, hap]
        have h3n := k2.1.1
        obtain ⟨v3, h3, hap3, hA3, k3, n3, s3⟩ := appI hA2 (a : Int) (by simp; omega) h3n k2 (Nat.le_refl _)
        try simp (disch := first | omega | (simp; done) | fail) [wrap64c, if_pos, if_neg, opAnd, opOr, opXor, opDiff, opShr, opBit, hL, hgt, e0, e1, e5, hlt, q_x, g_x, l_x, r_x, z_x, hc, hb, hap3]
        obtain ⟨v4, h4, hap4, hA4, k4, n4, s4⟩ := append_ints (P := Try.prog) (t := 30) (t' := 30) hA3 ((show Ints h _ _ from hd).keep k3.1) ty_elT_30 ty_szT_3 ty_zeroT_3 ty_byT_3 (by decide) (by decide) (by simp) (by simp; omega) (by have := k3.1.1; omega) k3 (Nat.le_refl _)
        try simp (disch := first | omega | (simp; done) | fail) [wrap64c, if_pos, if_neg, opAnd, opOr, opXor, opDiff, opShr, opBit, hL, hgt, e0, e1, e5, hlt, q_x, g_x, l_x, r_x, z_x, hc, hb, hap4]
        refine done_ret rfl ⟨k4, ?_⟩
        rw [hput]
        simp only [List.nil_append] at hA4
        exact IntsA.lower hA4 hm
  · have hje : j = l.length := by omega
    have hput : toN (putL l a) = ((toN l).take j ++ [(a : Int)]) ++ (toN l).drop j := by
      have hnm : ¬ a ∈ l := fun hm' => by
        obtain ⟨i, hi, e⟩ := List.mem_iff_getElem.1 hm'
        have := hx i hi (by omega); omega
      obtain ⟨t1, t2⟩ := split_at (a := a) (by omega) hx (fun i h1 h2 => by omega)
      rw [putL, if_neg hnm, ← t1, ← t2, toN_append, toN_append]; simp [toN]
    have hlb : ¬ ((j : Int) < (l.length : Int)) := by omega
    rcases hv with ⟨y1, y2⟩ | ⟨o, ex, y1, y2, y3, y4⟩
    · subst y2
      have hl0 : l.length = 0 := by rw [← toN_length, y1]; rfl
      have hj0 : j = 0 := by omega
      subst hj0
      rw [y1] at hput
      try simp (disch := first | omega | (simp; done) | fail) [wrap64c, if_pos, if_neg, opAnd, opOr, opXor, opDiff, opShr, opBit, hL, hgt, e0, e1, e5, hlt, hlb]
      first | refine WY_heap fun h1 q_h1 => ?_ | refine callG_heap fun h1 q_h1 => ?_ | refine callP_heap fun h1 q_h1 => ?_ | refine RY_heap fun h1 q_h1 => ?_ | refine PY_heap fun h1 q_h1 => ?_ | refine doneY_heap fun h1 q_h1 => ?_ | refine loopK_heap fun h1 q_h1 => ?_ | refine thenY_heap fun h1 q_h1 => ?_ | refine thenM_heap fun h1 q_h1 => ?_
      have k1 : Adds h h1 := by rw [q_h1]; exact (by first | exact aK | exact kK)
      have n1 : h1.next = h.next + 1 := by simp [q_h1]
      have hA : IntsA h.next h1 (.slice (some ⟨h.next, 0, none⟩) 0 0) [] := .lit (ex := true) (Nat.le_refl _) (by omega) (by simp [q_h1, zarr])
      have hno : Ints h1 (.slice none 0 0) [] := (IntsO.nil (fun _ => False) h1).ints
      obtain ⟨v2, h2', hap, hA2, k2, n2, s2⟩ := append_ints (P := Try.prog) (t := 30) (t' := 30) hA hno ty_elT_30 ty_szT_3 ty_zeroT_3 ty_byT_3 (by decide) (by decide) (by simp) (by simp) (by omega) k1 (Nat.le_refl _)
      try simp (disch := first | omega | (simp; done) | fail) [wrap64c, if_pos, if_neg, opAnd, opOr, opXor, opDiff, opShr, opBit, hL, hgt, e0, e1, e5, hlt, hlb, hap]
      have h3n := k2.1.1
      obtain ⟨v3, h3, hap3, hA3, k3, n3, s3⟩ := appI hA2 (a : Int) (by simp) h3n k2 (Nat.le_refl _)
      try simp (disch := first | omega | (simp; done) | fail) [wrap64c, if_pos, if_neg, opAnd, opOr, opXor, opDiff, opShr, opBit, hL, hgt, e0, e1, e5, hlt, hlb, hap3]
      have hno3 : Ints h3 (.slice none 0 0) [] := (IntsO.nil (fun _ => False) h3).ints
      obtain ⟨v4, h4, hap4, hA4, k4, n4, s4⟩ := append_ints (P := Try.prog) (t := 30) (t' := 30) hA3 hno3 ty_elT_30 ty_szT_3 ty_zeroT_3 ty_byT_3 (by decide) (by decide) (by simp) (by simp) (by have := k3.1.1; omega) k3 (Nat.le_refl _)
      try simp (disch := first | omega | (simp; done) | fail) [wrap64c, if_pos, if_neg, opAnd, opOr, opXor, opDiff, opShr, opBit, hL, hgt, e0, e1, e5, hlt, hlb, hap4]
      refine done_ret rfl ⟨k4, ?_⟩
      rw [hput]
      simp only [List.nil_append, List.take_zero, List.drop_zero] at hA4 ⊢
      exact IntsA.lower hA4 hm
    · subst y1
      rw [hln] at hvI
      have ht := sl_take (k := l.length) hvI (by omega)
      have hd := sl_drop (k := l.length) hvI (by omega)
      rw [Nat.zero_add, Nat.sub_self] at hd
      have hje := hje
      rw [hje] at hput
      have hln2 := hln
      try simp (disch := first | omega | (simp; done) | fail) [wrap64c, if_pos, if_neg, opAnd, opOr, opXor, opDiff, opShr, opBit, hL, hgt, e0, e1, e5, hlt, hlb, hje, hln2]
      first | refine WY_heap fun h1 q_h1 => ?_ | refine callG_heap fun h1 q_h1 => ?_ | refine callP_heap fun h1 q_h1 => ?_ | refine RY_heap fun h1 q_h1 => ?_ | refine PY_heap fun h1 q_h1 => ?_ | refine doneY_heap fun h1 q_h1 => ?_ | refine loopK_heap fun h1 q_h1 => ?_ | refine thenY_heap fun h1 q_h1 => ?_ | refine thenM_heap fun h1 q_h1 => ?_
      have k1 : Adds h h1 := by rw [q_h1]; exact (by first | exact aK | exact kK)
      have n1 : h1.next = h.next + 1 := by simp [q_h1]
      have hA : IntsA h.next h1 (.slice (some ⟨h.next, 0, none⟩) 0 0) [] := .lit (ex := true) (Nat.le_refl _) (by omega) (by simp [q_h1, zarr])
      obtain ⟨v2, h2', hap, hA2, k2, n2, s2⟩ := append_ints (P := Try.prog) (t := 30) (t' := 30) hA ((show Ints h _ _ from ht).keep k1.1) ty_elT_30 ty_szT_3 ty_zeroT_3 ty_byT_3 (by decide) (by decide) (by simp) (by simp; omega) (by omega) k1 (Nat.le_refl _)
      try simp (disch := first | omega | (simp; done) | fail) [wrap64c, if_pos, if_neg, opAnd, opOr, opXor, opDiff, opShr, opBit, hL, hgt, e0, e1, e5, hlt, hlb, hje, hln2, hap]
      have h3n := k2.1.1
      obtain ⟨v3, h3, hap3, hA3, k3, n3, s3⟩ := appI hA2 (a : Int) (by simp; omega) h3n k2 (Nat.le_refl _)
      try simp (disch := first | omega | (simp; done) | fail) [wrap64c, if_pos, if_neg, opAnd, opOr, opXor, opDiff, opShr, opBit, hL, hgt, e0, e1, e5, hlt, hlb, hje, hln2, hap3]
      obtain ⟨v4, h4, hap4, hA4, k4, n4, s4⟩ := append_ints (P := Try.prog) (t := 30) (t' := 30) hA3 ((show Ints h _ _ from hd).keep k3.1) ty_elT_30 ty_szT_3 ty_zeroT_3 ty_byT_3 (by decide) (by decide) (by simp) (by simp; omega) (by have := k3.1.1; omega) k3 (Nat.le_refl _)
      try simp (disch := first | omega | (simp; done) | fail) [wrap64c, if_pos, if_neg, opAnd, opOr, opXor, opDiff, opShr, opBit, hL, hgt, e0, e1, e5, hlt, hlb, hje, hln2, hap4]
      refine done_ret rfl ⟨k4, ?_⟩
      rw [hput]
      simp only [List.nil_append] at hA4
      exact IntsA.lower hA4 hm

theorem alBefore_ok (h : Hp) (v w : Value) (X Y : List Int) (hv : Ints h v X) (hw : Ints h w Y) : CallOK Try.prog 118 #[v, w] h (.bool (decide (cmpL X Y < 0))) h := by
  refine callY_P 41 _ [.tmp 4] Try.func118 rfl rfl rfl (by first | rfl | simp) ?_
  have hL := hv.lenD
  have hM := hw.lenD
  have hlx := hv.short
  have hly := hw.short
  try simp (disch := first | omega | (simp; done) | fail) [wrap64c, if_pos, if_neg, opAnd, opOr, opXor, opDiff, opShr, opBit, hL, hM]
  refine WD_loopC [0, 1] (fun m tm h' => ∃ j, m = X.length - j ∧ h = h' ∧ tm 5 = .int .i64 (j : Int) ∧ (j ≤ X.length ∧ j ≤ Y.length) ∧ (cmpL X Y = cmpL (X.drop j) (Y.drop j))) _ ⟨0, rfl, rfl, (by simp (disch := first | omega | (simp; done) | fail) [wrap64c, if_pos, if_neg, opAnd, opOr, opXor, opDiff, opShr, opBit, hL, hM]), (by first | omega | assumption | (simp (disch := first | omega | (simp; done) | fail) [wrap64c, if_pos, if_neg, opAnd, opOr, opXor, opDiff, opShr, opBit, hL, hM] <;> omega)), (by simp)⟩ ?_
  rintro m tm h' hFr ⟨j, rfl, rfl, e5, hj, hx⟩
  simp only [FrameL] at hFr
  obtain ⟨f0_0, f1_0, -⟩ := hFr
  try simp (disch := first | omega | (simp; done) | fail) [wrap64c, if_pos, if_neg, opAnd, opOr, opXor, opDiff, opShr, opBit, hL, hM] at f0_0 f1_0
  have e0 := f0_0
  have e1 := f1_0
  by_cases hlt : j < X.length
  · by_cases hlt2 : j < Y.length
    · obtain ⟨o_x, i_x, c_x, cs_x, own_x, ex_x, es_x, q_x, b_x, g_x, l_x, r_x⟩ := hv.open ((by omega))
      have z_x : ∀ h2 : i_x < cs_x.length, cs_x[i_x] = _ := fun h2 => r_x 0 ((by omega)) h2
      obtain ⟨o_y, i_y, c_y, cs_y, own_y, ex_y, es_y, q_y, b_y, g_y, l_y, r_y⟩ := hw.open ((by omega))
      have z_y : ∀ h2 : i_y < cs_y.length, cs_y[i_y] = _ := fun h2 => r_y 0 ((by omega)) h2
      have hst := cmpL_step hlt hlt2
      try simp (disch := first | omega | (simp; done) | fail) [wrap64c, if_pos, if_neg, opAnd, opOr, opXor, opDiff, opShr, opBit, hL, hM, e0, e1, e5, hlt, hlt2, q_x, g_x, l_x, r_x, z_x, q_y, g_y, l_y, r_y, z_y]
      refine WD_drawC 8 rfl (by kernel_rfl) ?_
      by_cases he : X[j] = Y[j]
      · have hb : (X[j] != Y[j]) = false := by simp [he]
        rw [if_pos he] at hst
        try simp (disch := first | omega | (simp; done) | fail) [wrap64c, if_pos, if_neg, opAnd, opOr, opXor, opDiff, opShr, opBit, hL, hM, e0, e1, e5, hlt, hlt2, q_x, g_x, l_x, r_x, z_x, q_y, g_y, l_y, r_y, z_y, hb]
        refine loopK_next _ ?hm ?hf ⟨j + 1, rfl, rfl, (by simp (disch := first | omega | (simp; done) | fail) [wrap64c, if_pos, if_neg, opAnd, opOr, opXor, opDiff, opShr, opBit, hL, hM, e0, e1, e5, hlt, hlt2, q_x, g_x, l_x, r_x, z_x, q_y, g_y, l_y, r_y, z_y] <;> omega), (by first | omega | assumption | (simp (disch := first | omega | (simp; done) | fail) [wrap64c, if_pos, if_neg, opAnd, opOr, opXor, opDiff, opShr, opBit, hL, hM, e0, e1, e5, hlt, hlt2, q_x, g_x, l_x, r_x, z_x, q_y, g_y, l_y, r_y, z_y] <;> omega)), (by rw [hx, hst])⟩
        (case hm => first | omega | (simp; omega))
        (case hf => simp [FrameL, hL, hM, e0, e1, e5, hlt, hlt2, q_x, g_x, l_x, r_x, z_x, q_y, g_y, l_y, r_y, z_y, f0_0, f1_0])
      · have hb : (X[j] != Y[j]) = true := by simp [he]
        rw [if_neg he] at hst
        try simp (disch := first | omega | (simp; done) | fail) [wrap64c, if_pos, if_neg, opAnd, opOr, opXor, opDiff, opShr, opBit, hL, hM, e0, e1, e5, hlt, hlt2, q_x, g_x, l_x, r_x, z_x, q_y, g_y, l_y, r_y, z_y, hb]
        refine WD_drawC 8 rfl (by kernel_rfl) ?_
        try simp (disch := first | omega | (simp; done) | fail) [wrap64c, if_pos, if_neg, opAnd, opOr, opXor, opDiff, opShr, opBit, hL, hM, e0, e1, e5, hlt, hlt2, q_x, g_x, l_x, r_x, z_x, q_y, g_y, l_y, r_y, z_y]
        refine done_ret rfl (by
          simp only [packL, Keeps.refl, and_true, Value.bool.injEq, decide_eq_decide]
          rw [hx, hst, cmpI]
          split
          · rename_i hq; simp [hq]
          · rename_i hq; simp [hq]; split <;> omega)
    · have hc := cmpL_out2 hlt (show Y.length ≤ j by omega)
      try simp (disch := first | omega | (simp; done) | fail) [wrap64c, if_pos, if_neg, opAnd, opOr, opXor, opDiff, opShr, opBit, hL, hM, e0, e1, e5, hlt, hlt2]
      refine done_ret rfl (by simp [hx, hc, show Y.length = j by omega]; omega)
  · have ho := cmpL_out1 (x := X) (y := Y) (j := j) (by omega)
    try simp (disch := first | omega | (simp; done) | fail) [wrap64c, if_pos, if_neg, opAnd, opOr, opXor, opDiff, opShr, opBit, hL, hM, e0, e1, e5, hlt]
    refine done_ret rfl (by
      simp only [packL, Keeps.refl, and_true, Value.bool.injEq, decide_eq_decide]
      rw [hx, ho]
      split <;> simp <;> omega)

theorem spPut_of (h : Hp) (v v' : Value) (a : Int) (h' : Hp) (hc : CallOK Try.prog 162 #[v, .int .i64 a] h v' h') : CallOK Try.prog 110 #[v, .int .i64 a] h v' h' := by
  have key : ∃ v2 h2, CallOK Try.prog 110 #[v, .int .i64 a] h v2 h2 ∧ v2 = v' ∧ h2 = h' := by
    refine callY_L (args := [v, .int .i64 a]) 8 _ [.tmp 4] Try.func110 rfl rfl rfl ?_
    try simp (disch := first | omega | (simp; done) | fail) [wrap64c, if_pos, if_neg, opAnd, opOr, opXor, opDiff, opShr, opBit]
    refine callG_c (by simp) (by simp) ?ha (hc) ?_
    (case ha => simp (disch := first | omega | (simp; done) | fail) [wrap64c, if_pos, if_neg, opAnd, opOr, opXor, opDiff, opShr, opBit])
    try simp (disch := first | omega | (simp; done) | fail) [wrap64c, if_pos, if_neg, opAnd, opOr, opXor, opDiff, opShr, opBit]
    exact done_ret rfl ⟨rfl, rfl⟩
  obtain ⟨_, _, hc2, rfl, rfl⟩ := key
  exact hc2
theorem putL_len (l : List Nat) (a : Nat) : (putL l a).length ≤ l.length + 1 := by
  unfold putL
  split
  · omega
  · rename_i h
    rw [List.length_append, List.length_append, List.length_singleton]
    have key : ∀ l : List Nat, (l.filter fun x => decide (x < a)).length + (l.filter fun x => decide (a < x)).length ≤ l.length := by
      intro l
      induction l with
      | nil => simp
      | cons b l ih =>
        by_cases h1 : b < a
        · have h2 : ¬ a < b := by omega
          simp [h1, h2]; omega
        · by_cases h2 : a < b
          · simp [h1, h2]; omega
          · simp [h1, h2]; omega
    have := key l
    omega

theorem alNamed_ok (h : Hp) (v w : Value) (N : Int) (xs names : List Nat) (hv : Space h v N (toN xs)) (hw : Ints h w (toN names)) (hl : xs.length < 2 ^ 30) (hx : ∀ x ∈ xs, x < 128) (hnl : names.length ≤ 7) (hnm : ∀ k, k < names.length → names.getD k 0 < 7) :
    ∃ v' h', CallOK Try.prog 79 #[v, w] h v' h' ∧ Adds h h' ∧ IntsA h.next h' v' (toN (putAll names xs [])) := by
  refine callY_L (args := [v, w]) 38 _ [.tmp 4] Try.func79 rfl rfl rfl ?_
  obtain ⟨b, rfl, hX⟩ := hv
  have hL := hX.lenD
  have hM := hw.lenD
  have hgt := toN_get xs
  have hgt2 := toN_get names
  have hln := toN_length xs
  have hln2 := toN_length names
  try simp (disch := first | omega | (simp; done) | fail) [wrap64c, if_pos, if_neg, opAnd, opOr, opXor, opDiff, opShr, opBit, hL, hM, hgt, hgt2]
  refine WD_loopC [1, 12, 13] (fun m tm h' => ∃ j u acc, m = xs.length - j ∧ tm 5 = u ∧ tm 14 = .int .i64 (j : Int) ∧ (j ≤ xs.length) ∧ (Adds h h') ∧ (IntsA h.next h' u (toN acc)) ∧ (acc.length ≤ j) ∧ (acc.Pairwise (· < ·)) ∧ (putAll names xs [] = putAll names (xs.drop j) acc)) _ ⟨0, _, [], rfl, (by simp (disch := first | omega | (simp; done) | fail) [wrap64c, if_pos, if_neg, opAnd, opOr, opXor, opDiff, opShr, opBit, hL, hM, hgt, hgt2]), (by simp (disch := first | omega | (simp; done) | fail) [wrap64c, if_pos, if_neg, opAnd, opOr, opXor, opDiff, opShr, opBit, hL, hM, hgt, hgt2]), (by first | omega | assumption | (simp (disch := first | omega | (simp; done) | fail) [wrap64c, if_pos, if_neg, opAnd, opOr, opXor, opDiff, opShr, opBit, hL, hM, hgt, hgt2] <;> omega)), (by first | exact aK | exact kK), (.nil _ _), (by simp), .nil, (by simp)⟩ ?_
  rintro m tm h' hFr ⟨j, u, acc, rfl, e5, e14, hj, ha, hu, hal, has, hp⟩
  simp only [FrameL] at hFr
  obtain ⟨f1_0, f12_0, f13_0, -⟩ := hFr
  try simp (disch := first | omega | (simp; done) | fail) [wrap64c, if_pos, if_neg, opAnd, opOr, opXor, opDiff, opShr, opBit, hL, hM, hgt, hgt2] at f1_0 f12_0 f13_0
  have e1 := f1_0
  have e12 := f12_0
  have e13 := f13_0
  by_cases hlt : j < xs.length
  · have hX1 := hX.keep ha.1
    have hw1 := hw.keep ha.1
    obtain ⟨o_x, i_x, c_x, cs_x, own_x, ex_x, es_x, q_x, b_x, g_x, l_x, r_x⟩ := hX1.open ((by omega))
    have z_x : ∀ h2 : i_x < cs_x.length, cs_x[i_x] = _ := fun h2 => r_x 0 ((by omega)) h2
    have hx1 := hx _ (List.getElem_mem hlt)
    try simp (disch := first | omega | (simp; done) | fail) [wrap64c, if_pos, if_neg, opAnd, opOr, opXor, opDiff, opShr, opBit, hL, hM, hgt, hgt2, e1, e5, e12, e13, e14, hlt, q_x, g_x, l_x, r_x, z_x]
    rename Hp => hq
    refine WD_loopC [1, 5, 7, 12, 13, 14, 18, 19] (fun m tm h' => ∃ i, m = names.length - i ∧ hq = h' ∧ tm 8 = .int .i64 ((renK names xs[j] i : Nat) : Int) ∧ tm 20 = .int .i64 (i : Int) ∧ (i ≤ names.length)) _ ⟨0, rfl, rfl, (by simp [renK]), (by simp (disch := first | omega | (simp; done) | fail) [wrap64c, if_pos, if_neg, opAnd, opOr, opXor, opDiff, opShr, opBit, hL, hM, hgt, hgt2, e1, e5, e12, e13, e14, hlt, q_x, g_x, l_x, r_x, z_x]), (by first | omega | assumption | (simp (disch := first | omega | (simp; done) | fail) [wrap64c, if_pos, if_neg, opAnd, opOr, opXor, opDiff, opShr, opBit, hL, hM, hgt, hgt2, e1, e5, e12, e13, e14, hlt, q_x, g_x, l_x, r_x, z_x] <;> omega))⟩ ?_
    rintro m tm h' hFr ⟨i, rfl, rfl, e8, e20, hi⟩
    simp only [FrameL] at hFr
    obtain ⟨f1_1, f5_1, f7_1, f12_1, f13_1, f14_1, f18_1, f19_1, -⟩ := hFr
    try simp (disch := first | omega | (simp; done) | fail) [wrap64c, if_pos, if_neg, opAnd, opOr, opXor, opDiff, opShr, opBit, hL, hM, hgt, hgt2, e1, e5, e12, e13, e14, hlt, q_x, g_x, l_x, r_x, z_x] at f1_1 f5_1 f7_1 f12_1 f13_1 f14_1 f18_1 f19_1
    have e1 := f1_1
    have e5 := f5_1
    have e7 := f7_1
    have e12 := f12_1
    have e13 := f13_1
    have e14 := f14_1
    have e18 := f18_1
    have e19 := f19_1
    by_cases hlt2 : i < names.length
    · obtain ⟨o_y, i_y, c_y, cs_y, own_y, ex_y, es_y, q_y, b_y, g_y, l_y, r_y⟩ := hw1.open ((by omega))
      have z_y : ∀ h2 : i_y < cs_y.length, cs_y[i_y] = _ := fun h2 => r_y 0 ((by omega)) h2
      have hnk := hnm i hlt2
      have hgd : names.getD i 0 = names[i] := by rw [List.getD_eq_getElem?_getD, List.getElem?_eq_getElem hlt2]; rfl
      rw [hgd] at hnk
      have hb7 := bit_lt7 hnk
      have hr := renK_lt (m := 7) xs[j] hnm i (by omega)
      have hr7 : renK names xs[j] i < 128 := hr
      have hor := nOr128 (b := bit names[i]) hr7 (by omega)
      have hs : renK names xs[j] (i + 1) = if xs[j].testBit i = true then nOr (renK names xs[j] i) (bit (names.getD i 0)) else renK names xs[j] i := rfl
      rw [hgd] at hs
      try simp (disch := first | omega | (simp; done) | fail) [wrap64c, if_pos, if_neg, opAnd, opOr, opXor, opDiff, opShr, opBit, hL, hM, hgt, hgt2, e1, e5, e12, e13, e14, hlt, q_x, g_x, l_x, r_x, z_x, e7, e8, e18, e19, e20, hlt2, q_y, g_y, l_y, r_y, z_y]
      refine callG_c (by simp) (by simp) ?ha (spIn_ok hq xs[j] i (by omega) (by omega)) ?_
      (case ha => simp (disch := first | omega | (simp; done) | fail) [wrap64c, if_pos, if_neg, opAnd, opOr, opXor, opDiff, opShr, opBit, hL, hM, hgt, hgt2, e1, e5, e12, e13, e14, hlt, q_x, g_x, l_x, r_x, z_x, e7, e8, e18, e19, e20, hlt2, q_y, g_y, l_y, r_y, z_y])
      cases hc : xs[j].testBit i
      · rw [hc] at hs
        try simp (disch := first | omega | (simp; done) | fail) [wrap64c, if_pos, if_neg, opAnd, opOr, opXor, opDiff, opShr, opBit, hL, hM, hgt, hgt2, e1, e5, e12, e13, e14, hlt, q_x, g_x, l_x, r_x, z_x, e7, e8, e18, e19, e20, hlt2, q_y, g_y, l_y, r_y, z_y, hc]
        refine loopK_next _ ?hm ?hf ⟨i + 1, rfl, rfl, (by simp [hs, e8]), (by simp (disch := first | omega | (simp; done) | fail) [wrap64c, if_pos, if_neg, opAnd, opOr, opXor, opDiff, opShr, opBit, hL, hM, hgt, hgt2, e1, e5, e12, e13, e14, hlt, q_x, g_x, l_x, r_x, z_x, e7, e8, e18, e19, e20, hlt2, q_y, g_y, l_y, r_y, z_y, hc] <;> omega), (by first | omega | assumption | (simp (disch := first | omega | (simp; done) | fail) [wrap64c, if_pos, if_neg, opAnd, opOr, opXor, opDiff, opShr, opBit, hL, hM, hgt, hgt2, e1, e5, e12, e13, e14, hlt, q_x, g_x, l_x, r_x, z_x, e7, e8, e18, e19, e20, hlt2, q_y, g_y, l_y, r_y, z_y, hc] <;> omega))⟩
        (case hm => first | omega | (simp; omega))
        (case hf => simp [FrameL, hL, hM, hgt, hgt2, e1, e5, e12, e13, e14, hlt, q_x, g_x, l_x, r_x, z_x, e7, e8, e18, e19, e20, hlt2, q_y, g_y, l_y, r_y, z_y, hc, f1_1, f5_1, f7_1, f12_1, f13_1, f14_1, f18_1, f19_1])
      · rw [hc] at hs
        try simp (disch := first | omega | (simp; done) | fail) [wrap64c, if_pos, if_neg, opAnd, opOr, opXor, opDiff, opShr, opBit, hL, hM, hgt, hgt2, e1, e5, e12, e13, e14, hlt, q_x, g_x, l_x, r_x, z_x, e7, e8, e18, e19, e20, hlt2, q_y, g_y, l_y, r_y, z_y, hc]
        refine loopK_next _ ?hm ?hf ⟨i + 1, rfl, rfl, (by simp [hs]), (by simp (disch := first | omega | (simp; done) | fail) [wrap64c, if_pos, if_neg, opAnd, opOr, opXor, opDiff, opShr, opBit, hL, hM, hgt, hgt2, e1, e5, e12, e13, e14, hlt, q_x, g_x, l_x, r_x, z_x, e7, e8, e18, e19, e20, hlt2, q_y, g_y, l_y, r_y, z_y, hc] <;> omega), (by first | omega | assumption | (simp (disch := first | omega | (simp; done) | fail) [wrap64c, if_pos, if_neg, opAnd, opOr, opXor, opDiff, opShr, opBit, hL, hM, hgt, hgt2, e1, e5, e12, e13, e14, hlt, q_x, g_x, l_x, r_x, z_x, e7, e8, e18, e19, e20, hlt2, q_y, g_y, l_y, r_y, z_y, hc] <;> omega))⟩
        (case hm => first | omega | (simp; omega))
        (case hf => simp [FrameL, hL, hM, hgt, hgt2, e1, e5, e12, e13, e14, hlt, q_x, g_x, l_x, r_x, z_x, e7, e8, e18, e19, e20, hlt2, q_y, g_y, l_y, r_y, z_y, hc, f1_1, f5_1, f7_1, f12_1, f13_1, f14_1, f18_1, f19_1])
    · have hie : i = names.length := by omega
      have hr := renK_lt (m := 7) xs[j] hnm names.length (by omega)
      have hrN : renK names xs[j] i = renN names xs[j] := by rw [hie]; rfl
      rw [hrN] at e8
      try simp (disch := first | omega | (simp; done) | fail) [wrap64c, if_pos, if_neg, opAnd, opOr, opXor, opDiff, opShr, opBit, hL, hM, hgt, hgt2, e1, e5, e12, e13, e14, hlt, q_x, g_x, l_x, r_x, z_x, e7, e8, e18, e19, e20, hlt2]
      obtain ⟨u2, h2, hc2, ha2, hu2⟩ := l1Put_ok hq h.next u acc (renN names xs[j]) hu has (by omega) ha.1.1
      have hc3 := spPut_of hq u u2 _ h2 hc2
      refine callG_c (by simp) (by simp) ?ha (hc3) ?_
      (case ha => simp (disch := first | omega | (simp; done) | fail) [wrap64c, if_pos, if_neg, opAnd, opOr, opXor, opDiff, opShr, opBit, hL, hM, hgt, hgt2, e1, e5, e12, e13, e14, hlt, q_x, g_x, l_x, r_x, z_x, e7, e8, e18, e19, e20, hlt2])
      have hpl := putL_len acc (renN names xs[j])
      try simp (disch := first | omega | (simp; done) | fail) [wrap64c, if_pos, if_neg, opAnd, opOr, opXor, opDiff, opShr, opBit, hL, hM, hgt, hgt2, e1, e5, e12, e13, e14, hlt, q_x, g_x, l_x, r_x, z_x, e7, e8, e18, e19, e20, hlt2]
      refine loopK_next _ ?hm ?hf ⟨j + 1, u2, putL acc (renN names xs[j]), rfl, (by simp (disch := first | omega | (simp; done) | fail) [wrap64c, if_pos, if_neg, opAnd, opOr, opXor, opDiff, opShr, opBit, hL, hM, hgt, hgt2, e1, e5, e12, e13, e14, hlt, q_x, g_x, l_x, r_x, z_x, e7, e8, e18, e19, e20, hlt2] <;> omega), (by simp (disch := first | omega | (simp; done) | fail) [wrap64c, if_pos, if_neg, opAnd, opOr, opXor, opDiff, opShr, opBit, hL, hM, hgt, hgt2, e1, e5, e12, e13, e14, hlt, q_x, g_x, l_x, r_x, z_x, e7, e8, e18, e19, e20, hlt2] <;> omega), (by first | omega | assumption | (simp (disch := first | omega | (simp; done) | fail) [wrap64c, if_pos, if_neg, opAnd, opOr, opXor, opDiff, opShr, opBit, hL, hM, hgt, hgt2, e1, e5, e12, e13, e14, hlt, q_x, g_x, l_x, r_x, z_x, e7, e8, e18, e19, e20, hlt2] <;> omega)), (ha.trans ha2), hu2, (by omega), (putL_srt has _), (by rw [hp, List.drop_eq_getElem_cons hlt, putAll])⟩
      (case hm => first | omega | (simp; omega))
      (case hf => simp [FrameL, hL, hM, hgt, hgt2, e1, e5, e12, e13, e14, hlt, q_x, g_x, l_x, r_x, z_x, e7, e8, e18, e19, e20, hlt2, f1_0, f12_0, f13_0])
  · have hje : j = xs.length := by omega
    have hp2 : putAll names (xs.drop j) acc = acc := by rw [List.drop_eq_nil_of_le (by omega)]; rfl
    rw [hp2] at hp
    try simp (disch := first | omega | (simp; done) | fail) [wrap64c, if_pos, if_neg, opAnd, opOr, opXor, opDiff, opShr, opBit, hL, hM, hgt, hgt2, e1, e5, e12, e13, e14, hlt]
    refine done_ret rfl ⟨ha, ?_⟩
    rw [hp]; exact hu
end Go.Proofs.Ytnjabaeajjhliaa
