/- Part 4 of the proof of allSpacesCounted_holds: what it uses of the texts that lie in the notes, merged. -/
import Derived.Test.YtnncipcldbopgaaQA3
import Derived.Shelf.SlSortCmp.WholeK
import Derived.Sort.LotA
import Derived.Ground.SlsfProg
import Derived.Test.YtnncipcldbopgaaProg
namespace Go.Proofs.Ytnncipcldbopgaa
set_option linter.unusedSimpArgs false
set_option linter.unusedVariables false
set_option maxHeartbeats 4000000
open Go Go.Eng
attribute [local irreducible] WD RunD PreD Runs CallOK
theorem sl_take {α : Type} {R : Hp → Value → α → Prop} {h : Hp} {o i n c k : Nat} {xs : List α} (hs : Sl R h (.slice (some ⟨o, i, none⟩) n c) xs) (hk : k ≤ xs.length) : Sl R h (.slice (some ⟨o, i, none⟩) k c) (xs.take k) := by
  obtain ⟨s, c', e, hc, hc', hx⟩ := hs
  cases e
  refine ⟨some ⟨o, i, none⟩, c, by simp [Nat.min_eq_left hk], by simp; omega, hc', fun j x hj => ?_⟩
  rw [List.getElem?_take] at hj
  split at hj
  · exact hx j x hj
  · cases hj
theorem sl_drop {α : Type} {R : Hp → Value → α → Prop} {h : Hp} {o i n c k : Nat} {xs : List α} (hs : Sl R h (.slice (some ⟨o, i, none⟩) n c) xs) (hk : k ≤ xs.length) : Sl R h (.slice (some ⟨o, i + k, none⟩) (n - k) (c - k)) (xs.drop k) := by
  obtain ⟨s, c', e, hc, hc', hx⟩ := hs
  cases e
  refine ⟨some ⟨o, i + k, none⟩, c - k, by simp, by simp; omega, by omega, fun j x hj => ?_⟩
  rw [List.getElem?_drop] at hj
  obtain ⟨o', i', cs, own, ex, es, h1, h2, h3, h4, h5⟩ := hx _ x hj
  cases h1
  exact ⟨o, i + k, cs, own, ex, es, rfl, h2, h3, by omega, by rw [Nat.add_assoc]; exact h5⟩
theorem split_at {l : List Nat} {a k : Nat} (hk : k ≤ l.length) (h1 : ∀ i (h : i < l.length), i < k → l[i] < a) (h2 : ∀ i (h : i < l.length), k ≤ i → a < l[i]) : l.take k = l.filter (fun x => decide (x < a)) ∧ l.drop k = l.filter fun x => decide (a < x) := by
  have e : l = l.take k ++ l.drop k := (List.take_append_drop k l).symm
  have ht : ∀ x ∈ l.take k, x < a := fun x hx => by
    obtain ⟨i, hi, rfl⟩ := List.mem_iff_getElem.1 hx
    simp at hi
    rw [List.getElem_take]
    exact h1 i (by omega) (by omega)
  have hd : ∀ x ∈ l.drop k, a < x := fun x hx => by
    obtain ⟨i, hi, rfl⟩ := List.mem_iff_getElem.1 hx
    simp at hi
    rw [List.getElem_drop]
    exact h2 _ (by omega) (by omega)
  constructor
  · rw (occs := [2]) [e]
    rw [List.filter_append, List.filter_eq_self.2 (fun x hx => by simpa using ht x hx), List.filter_eq_nil_iff.2 (fun x hx => by simp; have := hd x hx; omega), List.append_nil]
  · rw (occs := [2]) [e]
    rw [List.filter_append, List.filter_eq_nil_iff.2 (fun x hx => by simp; have := ht x hx; omega), List.filter_eq_self.2 (fun x hx => by simpa using hd x hx), List.nil_append]
theorem IntsA.lower {m n : Nat} {h : Hp} {v : Value} {xs : List Int} (hs : IntsA n h v xs) (hm : m ≤ n) : IntsA m h v xs := by
  rcases hs with ⟨a, b⟩ | ⟨p, ex, a, b, c, d⟩
  · exact .inl ⟨a, b⟩
  · exact .inr ⟨p, ex, a, by omega, c, d⟩
theorem l1Put_ok (h : Hp) (m : Nat) (v : Value) (l : List Nat) (a : Nat) (hv : IntsA m h v (toN l)) (hs : l.Pairwise (· < ·)) (hl : l.length < 2 ^ 38) (hm : m ≤ h.next) :
    ∃ v' h', CallOK Try.prog 280 #[v, .int .i64 (a : Int)] h v' h' ∧ Adds h h' ∧ IntsA m h' v' (toN (putL l a)) := by
  refine callY_L (args := [v, .int .i64 (a : Int)]) 48 _ [.tmp 4] Try.func280 rfl rfl rfl ?_
  have hvI := (hv.own (by simp; omega)).ints
  have hL := hvI.lenD
  have hgt := toN_get l
  have hln := toN_length l
  have hsg : ∀ i j (hi : i < l.length) (hj : j < l.length), i < j → l[i] < l[j] := fun i j hi hj hij => List.pairwise_iff_getElem.1 hs i j hi hj hij
  try simp (disch := first | omega | (simp; done) | fail) [wrap64c, if_pos, if_neg, opAnd, opOr, opXor, opDiff, opShr, opBit, hL, hgt]
  refine WD_loopC [0, 1] (fun m tm h' => ∃ j, m = l.length - j ∧ h = h' ∧ tm 5 = .int .i64 (j : Int) ∧ (j ≤ l.length) ∧ (∀ i (h1 : i < l.length), i < j → l[i] < a)) _ ⟨0, rfl, rfl, (by simp (disch := first | omega | (simp; done) | fail) [wrap64c, if_pos, if_neg, opAnd, opOr, opXor, opDiff, opShr, opBit, hL, hgt]), (by first | omega | assumption | (simp (disch := first | omega | (simp; done) | fail) [wrap64c, if_pos, if_neg, opAnd, opOr, opXor, opDiff, opShr, opBit, hL, hgt] <;> omega)), (by intro i h1 h2; omega)⟩ ?_
  rintro m tm h' hFr ⟨j, rfl, rfl, e5, hj, hx⟩
  simp only [FrameL] at hFr
  obtain ⟨f0_0, f1_0, -⟩ := hFr
  try simp (disch := first | omega | (simp; done) | fail) [wrap64c, if_pos, if_neg, opAnd, opOr, opXor, opDiff, opShr, opBit, hL, hgt] at f0_0 f1_0
  have e0 := f0_0
  have e1 := f1_0
  by_cases hlt : j < l.length
  · obtain ⟨o_x, i_x, c_x, cs_x, own_x, ex_x, es_x, q_x, b_x, g_x, l_x, r_x⟩ := hvI.open ((by omega))
    have z_x : ∀ h2 : i_x < cs_x.length, cs_x[i_x] = _ := fun h2 => r_x 0 ((by omega)) h2
    by_cases hc : l[j] < a
    · try simp (disch := first | omega | (simp; done) | fail) [wrap64c, if_pos, if_neg, opAnd, opOr, opXor, opDiff, opShr, opBit, hL, hgt, e0, e1, e5, hlt, q_x, g_x, l_x, r_x, z_x, hc]
      refine loopK_next _ ?hm ?hf ⟨j + 1, rfl, rfl, (by simp (disch := first | omega | (simp; done) | fail) [wrap64c, if_pos, if_neg, opAnd, opOr, opXor, opDiff, opShr, opBit, hL, hgt, e0, e1, e5, hlt, q_x, g_x, l_x, r_x, z_x, hc] <;> omega), (by first | omega | assumption | (simp (disch := first | omega | (simp; done) | fail) [wrap64c, if_pos, if_neg, opAnd, opOr, opXor, opDiff, opShr, opBit, hL, hgt, e0, e1, e5, hlt, q_x, g_x, l_x, r_x, z_x, hc] <;> omega)), ?c_hx⟩
      (case hm => first | omega | (simp; omega))
      (case hf => simp [FrameL, hL, hgt, e0, e1, e5, hlt, q_x, g_x, l_x, r_x, z_x, hc, f0_0, f1_0])
      case c_hx =>
        exact (fun i h1 hi => by
          by_cases e : i = j
          · subst e; exact hc
          · exact hx i h1 (by omega))
    · by_cases he : l[j] = a
      · have hm' : a ∈ l := he ▸ List.getElem_mem hlt
        have hb : ((l[j] : Int) == (a : Int)) = true := by simp [he]
        try simp (disch := first | omega | (simp; done) | fail) [wrap64c, if_pos, if_neg, opAnd, opOr, opXor, opDiff, opShr, opBit, hL, hgt, e0, e1, e5, hlt, q_x, g_x, l_x, r_x, z_x, hc, hb]
        refine done_ret rfl ⟨adds_self _, ?_⟩
        rw [q_x, hln] at hv
        rw [putL, if_pos hm']; exact hv
      · have hb : ((l[j] : Int) == (a : Int)) = false := by simp; omega
        have h2 : ∀ i (h : i < l.length), j ≤ i → a < l[i] := fun i hi hji => by
          by_cases e : i = j
          · subst e; omega
          · have := hsg j i hlt hi (by omega); omega
        have hnm : ¬ a ∈ l := fun hm' => by
          obtain ⟨i, hi, e⟩ := List.mem_iff_getElem.1 hm'
          by_cases hij : i < j
          · have := hx i hi hij; omega
          · have := h2 i hi (by omega); omega
        obtain ⟨t1, t2⟩ := split_at (a := a) (by omega) hx h2
        have hput : toN (putL l a) = ((toN l).take j ++ [(a : Int)]) ++ (toN l).drop j := by
          rw [putL, if_neg hnm, ← t1, ← t2, toN_append, toN_append]; simp [toN]
        have hvI2 := hvI
        rw [q_x] at hvI2
        have ht := sl_take (k := j) hvI2 (by omega)
        have hd := sl_drop (k := j) hvI2 (by omega)
        rw [hln] at hd
        have hcx : l.length ≤ c_x ∧ c_x < 2 ^ 63 := by
          obtain ⟨s, c, e, h1, h2⟩ := Sl.form hvI2
          cases e
          omega
        try simp (disch := first | omega | (simp; done) | fail) [wrap64c, if_pos, if_neg, opAnd, opOr, opXor, opDiff, opShr, opBit, hL, hgt, e0, e1, e5, hlt, q_x, g_x, l_x, r_x, z_x, hc, hb]
        first | refine WY_heap fun h1 q_h1 => ?_ | refine callG_heap fun h1 q_h1 => ?_ | refine callP_heap fun h1 q_h1 => ?_ | refine callS_heap fun h1 q_h1 => ?_ | refine RY_heap fun h1 q_h1 => ?_ | refine PY_heap fun h1 q_h1 => ?_ | refine SY_heap fun h1 q_h1 => ?_ | refine doneY_heap fun h1 q_h1 => ?_ | refine loopK_heap fun h1 q_h1 => ?_ | refine thenY_heap fun h1 q_h1 => ?_ | refine thenM_heap fun h1 q_h1 => ?_
        have k1 : Adds h h1 := by rw [q_h1]; exact (by first | exact aK | exact kK)
        have n1 : h1.next = h.next + 1 := by simp [q_h1]
        have hA : IntsA h.next h1 (.slice (some ⟨h.next, 0, none⟩) 0 0) [] := .lit (ex := true) (Nat.le_refl _) (by omega) (by simp [q_h1, zarr])
        obtain ⟨v2, h2', hap, hA2, k2, n2, s2⟩ := append_ints (P := Try.prog) (t := 24) (t' := 24) hA ((show Ints h _ _ from ht).keep k1.1) ty_elT_24 ty_szT_3 ty_zeroT_3 ty_byT_3 (by decide) (by decide) (by simp) (by simp; omega) (by omega) k1 (Nat.le_refl _)
        try simp (disch := first | omega | (simp; done) | fail) [wrap64c, if_pos, if_neg, opAnd, opOr, opXor, opDiff, opShr, opBit, hL, hgt, e0, e1, e5, hlt, q_x, g_x, l_x, r_x, z_x, hc, hb, hap]
        have h3n := k2.1.1
        obtain ⟨v3, h3, hap3, hA3, k3, n3, s3⟩ := appI hA2 (a : Int) (by simp; omega) h3n k2 (Nat.le_refl _)
        try simp (disch := first | omega | (simp; done) | fail) [wrap64c, if_pos, if_neg, opAnd, opOr, opXor, opDiff, opShr, opBit, hL, hgt, e0, e1, e5, hlt, q_x, g_x, l_x, r_x, z_x, hc, hb, hap3]
        obtain ⟨v4, h4, hap4, hA4, k4, n4, s4⟩ := append_ints (P := Try.prog) (t := 24) (t' := 24) hA3 ((show Ints h _ _ from hd).keep k3.1) ty_elT_24 ty_szT_3 ty_zeroT_3 ty_byT_3 (by decide) (by decide) (by simp) (by simp; omega) (by have := k3.1.1; omega) k3 (Nat.le_refl _)
        try simp (disch := first | omega | (simp; done) | fail) [wrap64c, if_pos, if_neg, opAnd, opOr, opXor, opDiff, opShr, opBit, hL, hgt, e0, e1, e5, hlt, q_x, g_x, l_x, r_x, z_x, hc, hb, hap4]
        refine done_ret rfl ⟨k4, ?_⟩
        rw [hput]
        simp only [List.nil_append] at hA4
        exact IntsA.lower hA4 hm
  · have hje : j = l.length := by omega
    have hput : toN (putL l a) = ((toN l).take j ++ [(a : Int)]) ++ (toN l).drop j := by
      have hnm : ¬ a ∈ l := fun hm' => by
        obtain ⟨i, hi, e⟩ := List.mem_iff_getElem.1 hm'
        have := hx i hi (by omega); omega
      obtain ⟨t1, t2⟩ := split_at (a := a) (by omega) hx (fun i h1 h2 => by omega)
      rw [putL, if_neg hnm, ← t1, ← t2, toN_append, toN_append]; simp [toN]
    have hlb : ¬ ((j : Int) < (l.length : Int)) := by omega
    rcases hv with ⟨y1, y2⟩ | ⟨o, ex, y1, y2, y3, y4⟩
    · subst y2
      have hl0 : l.length = 0 := by rw [← toN_length, y1]; rfl
      have hj0 : j = 0 := by omega
      subst hj0
      rw [y1] at hput
      try simp (disch := first | omega | (simp; done) | fail) [wrap64c, if_pos, if_neg, opAnd, opOr, opXor, opDiff, opShr, opBit, hL, hgt, e0, e1, e5, hlt, hlb]
      first | refine WY_heap fun h1 q_h1 => ?_ | refine callG_heap fun h1 q_h1 => ?_ | refine callP_heap fun h1 q_h1 => ?_ | refine callS_heap fun h1 q_h1 => ?_ | refine RY_heap fun h1 q_h1 => ?_ | refine PY_heap fun h1 q_h1 => ?_ | refine SY_heap fun h1 q_h1 => ?_ | refine doneY_heap fun h1 q_h1 => ?_ | refine loopK_heap fun h1 q_h1 => ?_ | refine thenY_heap fun h1 q_h1 => ?_ | refine thenM_heap fun h1 q_h1 => ?_
      have k1 : Adds h h1 := by rw [q_h1]; exact (by first | exact aK | exact kK)
      have n1 : h1.next = h.next + 1 := by simp [q_h1]
      have hA : IntsA h.next h1 (.slice (some ⟨h.next, 0, none⟩) 0 0) [] := .lit (ex := true) (Nat.le_refl _) (by omega) (by simp [q_h1, zarr])
      have hno : Ints h1 (.slice none 0 0) [] := (IntsO.nil (fun _ => False) h1).ints
      obtain ⟨v2, h2', hap, hA2, k2, n2, s2⟩ := append_ints (P := Try.prog) (t := 24) (t' := 24) hA hno ty_elT_24 ty_szT_3 ty_zeroT_3 ty_byT_3 (by decide) (by decide) (by simp) (by simp) (by omega) k1 (Nat.le_refl _)
      try simp (disch := first | omega | (simp; done) | fail) [wrap64c, if_pos, if_neg, opAnd, opOr, opXor, opDiff, opShr, opBit, hL, hgt, e0, e1, e5, hlt, hlb, hap]
      have h3n := k2.1.1
      obtain ⟨v3, h3, hap3, hA3, k3, n3, s3⟩ := appI hA2 (a : Int) (by simp) h3n k2 (Nat.le_refl _)
      try simp (disch := first | omega | (simp; done) | fail) [wrap64c, if_pos, if_neg, opAnd, opOr, opXor, opDiff, opShr, opBit, hL, hgt, e0, e1, e5, hlt, hlb, hap3]
      have hno3 : Ints h3 (.slice none 0 0) [] := (IntsO.nil (fun _ => False) h3).ints
      obtain ⟨v4, h4, hap4, hA4, k4, n4, s4⟩ := append_ints (P := Try.prog) (t := 24) (t' := 24) hA3 hno3 ty_elT_24 ty_szT_3 ty_zeroT_3 ty_byT_3 (by decide) (by decide) (by simp) (by simp) (by have := k3.1.1; omega) k3 (Nat.le_refl _)
      try simp (disch := first | omega | (simp; done) | fail) [wrap64c, if_pos, if_neg, opAnd, opOr, opXor, opDiff, opShr, opBit, hL, hgt, e0, e1, e5, hlt, hlb, hap4]
      refine done_ret rfl ⟨k4, ?_⟩
      rw [hput]
      simp only [List.nil_append, List.take_zero, List.drop_zero] at hA4 ⊢
      exact IntsA.lower hA4 hm
    · subst y1
      rw [hln] at hvI
      have ht := sl_take (k := l.length) hvI (by omega)
      have hd := sl_drop (k := l.length) hvI (by omega)
      rw [Nat.zero_add, Nat.sub_self] at hd
      have hje := hje
      rw [hje] at hput
      have hln2 := hln
      try simp (disch := first | omega | (simp; done) | fail) [wrap64c, if_pos, if_neg, opAnd, opOr, opXor, opDiff, opShr, opBit, hL, hgt, e0, e1, e5, hlt, hlb, hje, hln2]
      first | refine WY_heap fun h1 q_h1 => ?_ | refine callG_heap fun h1 q_h1 => ?_ | refine callP_heap fun h1 q_h1 => ?_ | refine callS_heap fun h1 q_h1 => ?_ | refine RY_heap fun h1 q_h1 => ?_ | refine PY_heap fun h1 q_h1 => ?_ | refine SY_heap fun h1 q_h1 => ?_ | refine doneY_heap fun h1 q_h1 => ?_ | refine loopK_heap fun h1 q_h1 => ?_ | refine thenY_heap fun h1 q_h1 => ?_ | refine thenM_heap fun h1 q_h1 => ?_
      have k1 : Adds h h1 := by rw [q_h1]; exact (by first | exact aK | exact kK)
      have n1 : h1.next = h.next + 1 := by simp [q_h1]
      have hA : IntsA h.next h1 (.slice (some ⟨h.next, 0, none⟩) 0 0) [] := .lit (ex := true) (Nat.le_refl _) (by omega) (by simp [q_h1, zarr])
      obtain ⟨v2, h2', hap, hA2, k2, n2, s2⟩ := append_ints (P := Try.prog) (t := 24) (t' := 24) hA ((show Ints h _ _ from ht).keep k1.1) ty_elT_24 ty_szT_3 ty_zeroT_3 ty_byT_3 (by decide) (by decide) (by simp) (by simp; omega) (by omega) k1 (Nat.le_refl _)
      try simp (disch := first | omega | (simp; done) | fail) [wrap64c, if_pos, if_neg, opAnd, opOr, opXor, opDiff, opShr, opBit, hL, hgt, e0, e1, e5, hlt, hlb, hje, hln2, hap]
      have h3n := k2.1.1
      obtain ⟨v3, h3, hap3, hA3, k3, n3, s3⟩ := appI hA2 (a : Int) (by simp; omega) h3n k2 (Nat.le_refl _)
      try simp (disch := first | omega | (simp; done) | fail) [wrap64c, if_pos, if_neg, opAnd, opOr, opXor, opDiff, opShr, opBit, hL, hgt, e0, e1, e5, hlt, hlb, hje, hln2, hap3]
      obtain ⟨v4, h4, hap4, hA4, k4, n4, s4⟩ := append_ints (P := Try.prog) (t := 24) (t' := 24) hA3 ((show Ints h _ _ from hd).keep k3.1) ty_elT_24 ty_szT_3 ty_zeroT_3 ty_byT_3 (by decide) (by decide) (by simp) (by simp; omega) (by have := k3.1.1; omega) k3 (Nat.le_refl _)
      try simp (disch := first | omega | (simp; done) | fail) [wrap64c, if_pos, if_neg, opAnd, opOr, opXor, opDiff, opShr, opBit, hL, hgt, e0, e1, e5, hlt, hlb, hje, hln2, hap4]
      refine done_ret rfl ⟨k4, ?_⟩
      rw [hput]
      simp only [List.nil_append] at hA4
      exact IntsA.lower hA4 hm
theorem alBefore_ok (h : Hp) (v w : Value) (X Y : List Int) (hv : Ints h v X) (hw : Ints h w Y) : CallOK Try.prog 223 #[v, w] h (.bool (decide (cmpL X Y < 0))) h := by
  refine callY_P 41 _ [.tmp 4] Try.func223 rfl rfl rfl (by first | rfl | simp) ?_
  have hL := hv.lenD
  have hM := hw.lenD
  have hlx := hv.short
  have hly := hw.short
  try simp (disch := first | omega | (simp; done) | fail) [wrap64c, if_pos, if_neg, opAnd, opOr, opXor, opDiff, opShr, opBit, hL, hM]
  refine WD_loopC [0, 1] (fun m tm h' => ∃ j, m = X.length - j ∧ h = h' ∧ tm 5 = .int .i64 (j : Int) ∧ (j ≤ X.length ∧ j ≤ Y.length) ∧ (cmpL X Y = cmpL (X.drop j) (Y.drop j))) _ ⟨0, rfl, rfl, (by simp (disch := first | omega | (simp; done) | fail) [wrap64c, if_pos, if_neg, opAnd, opOr, opXor, opDiff, opShr, opBit, hL, hM]), (by first | omega | assumption | (simp (disch := first | omega | (simp; done) | fail) [wrap64c, if_pos, if_neg, opAnd, opOr, opXor, opDiff, opShr, opBit, hL, hM] <;> omega)), (by simp)⟩ ?_
  rintro m tm h' hFr ⟨j, rfl, rfl, e5, hj, hx⟩
  simp only [FrameL] at hFr
  obtain ⟨f0_0, f1_0, -⟩ := hFr
  try simp (disch := first | omega | (simp; done) | fail) [wrap64c, if_pos, if_neg, opAnd, opOr, opXor, opDiff, opShr, opBit, hL, hM] at f0_0 f1_0
  have e0 := f0_0
  have e1 := f1_0
  by_cases hlt : j < X.length
  · by_cases hlt2 : j < Y.length
    · obtain ⟨o_x, i_x, c_x, cs_x, own_x, ex_x, es_x, q_x, b_x, g_x, l_x, r_x⟩ := hv.open ((by omega))
      have z_x : ∀ h2 : i_x < cs_x.length, cs_x[i_x] = _ := fun h2 => r_x 0 ((by omega)) h2
      obtain ⟨o_y, i_y, c_y, cs_y, own_y, ex_y, es_y, q_y, b_y, g_y, l_y, r_y⟩ := hw.open ((by omega))
      have z_y : ∀ h2 : i_y < cs_y.length, cs_y[i_y] = _ := fun h2 => r_y 0 ((by omega)) h2
      have hst := cmpL_step hlt hlt2
      try simp (disch := first | omega | (simp; done) | fail) [wrap64c, if_pos, if_neg, opAnd, opOr, opXor, opDiff, opShr, opBit, hL, hM, e0, e1, e5, hlt, hlt2, q_x, g_x, l_x, r_x, z_x, q_y, g_y, l_y, r_y, z_y]
      refine WD_drawC 8 rfl (by kernel_rfl) ?_
      by_cases he : X[j] = Y[j]
      · have hb : (X[j] != Y[j]) = false := by simp [he]
        rw [if_pos he] at hst
        try simp (disch := first | omega | (simp; done) | fail) [wrap64c, if_pos, if_neg, opAnd, opOr, opXor, opDiff, opShr, opBit, hL, hM, e0, e1, e5, hlt, hlt2, q_x, g_x, l_x, r_x, z_x, q_y, g_y, l_y, r_y, z_y, hb]
        refine loopK_next _ ?hm ?hf ⟨j + 1, rfl, rfl, (by simp (disch := first | omega | (simp; done) | fail) [wrap64c, if_pos, if_neg, opAnd, opOr, opXor, opDiff, opShr, opBit, hL, hM, e0, e1, e5, hlt, hlt2, q_x, g_x, l_x, r_x, z_x, q_y, g_y, l_y, r_y, z_y] <;> omega), (by first | omega | assumption | (simp (disch := first | omega | (simp; done) | fail) [wrap64c, if_pos, if_neg, opAnd, opOr, opXor, opDiff, opShr, opBit, hL, hM, e0, e1, e5, hlt, hlt2, q_x, g_x, l_x, r_x, z_x, q_y, g_y, l_y, r_y, z_y] <;> omega)), (by rw [hx, hst])⟩
        (case hm => first | omega | (simp; omega))
        (case hf => simp [FrameL, hL, hM, e0, e1, e5, hlt, hlt2, q_x, g_x, l_x, r_x, z_x, q_y, g_y, l_y, r_y, z_y, f0_0, f1_0])
      · have hb : (X[j] != Y[j]) = true := by simp [he]
        rw [if_neg he] at hst
        try simp (disch := first | omega | (simp; done) | fail) [wrap64c, if_pos, if_neg, opAnd, opOr, opXor, opDiff, opShr, opBit, hL, hM, e0, e1, e5, hlt, hlt2, q_x, g_x, l_x, r_x, z_x, q_y, g_y, l_y, r_y, z_y, hb]
        refine WD_drawC 8 rfl (by kernel_rfl) ?_
        try simp (disch := first | omega | (simp; done) | fail) [wrap64c, if_pos, if_neg, opAnd, opOr, opXor, opDiff, opShr, opBit, hL, hM, e0, e1, e5, hlt, hlt2, q_x, g_x, l_x, r_x, z_x, q_y, g_y, l_y, r_y, z_y]
        refine done_ret rfl (by
          simp only [packL, Keeps.refl, and_true, Value.bool.injEq, decide_eq_decide]
          rw [hx, hst, cmpI]
          split
          · rename_i hq; simp [hq]
          · rename_i hq; simp [hq]; split <;> omega)
    · have hc := cmpL_out2 hlt (show Y.length ≤ j by omega)
      try simp (disch := first | omega | (simp; done) | fail) [wrap64c, if_pos, if_neg, opAnd, opOr, opXor, opDiff, opShr, opBit, hL, hM, e0, e1, e5, hlt, hlt2]
      refine done_ret rfl (by simp [hx, hc, show Y.length = j by omega]; omega)
  · have ho := cmpL_out1 (x := X) (y := Y) (j := j) (by omega)
    try simp (disch := first | omega | (simp; done) | fail) [wrap64c, if_pos, if_neg, opAnd, opOr, opXor, opDiff, opShr, opBit, hL, hM, e0, e1, e5, hlt]
    refine done_ret rfl (by
      simp only [packL, Keeps.refl, and_true, Value.bool.injEq, decide_eq_decide]
      rw [hx, ho]
      split <;> simp <;> omega)
theorem spPut_of (h : Hp) (v v' : Value) (a : Int) (h' : Hp) (hc : CallOK Try.prog 280 #[v, .int .i64 a] h v' h') : CallOK Try.prog 263 #[v, .int .i64 a] h v' h' := by
  have key : ∃ v2 h2, CallOK Try.prog 263 #[v, .int .i64 a] h v2 h2 ∧ v2 = v' ∧ h2 = h' := by
    refine callY_L (args := [v, .int .i64 a]) 8 _ [.tmp 4] Try.func263 rfl rfl rfl ?_
    try simp (disch := first | omega | (simp; done) | fail) [wrap64c, if_pos, if_neg, opAnd, opOr, opXor, opDiff, opShr, opBit]
    refine callG_c (by simp) (by simp) ?ha (hc) ?_
    (case ha => simp (disch := first | omega | (simp; done) | fail) [wrap64c, if_pos, if_neg, opAnd, opOr, opXor, opDiff, opShr, opBit])
    try simp (disch := first | omega | (simp; done) | fail) [wrap64c, if_pos, if_neg, opAnd, opOr, opXor, opDiff, opShr, opBit]
    exact done_ret rfl ⟨rfl, rfl⟩
  obtain ⟨_, _, hc2, rfl, rfl⟩ := key
  exact hc2
theorem putL_len (l : List Nat) (a : Nat) : (putL l a).length ≤ l.length + 1 := by
  unfold putL
  split
  · omega
  · rename_i h
    rw [List.length_append, List.length_append, List.length_singleton]
    have key : ∀ l : List Nat, (l.filter fun x => decide (x < a)).length + (l.filter fun x => decide (a < x)).length ≤ l.length := by
      intro l
      induction l with
      | nil => simp
      | cons b l ih =>
        by_cases h1 : b < a
        · have h2 : ¬ a < b := by omega
          simp [h1, h2]; omega
        · by_cases h2 : a < b
          · simp [h1, h2]; omega
          · simp [h1, h2]; omega
    have := key l
    omega
theorem alNamed_ok (h : Hp) (v w : Value) (N : Int) (xs names : List Nat) (hv : Space h v N (toN xs)) (hw : Ints h w (toN names)) (hl : xs.length < 2 ^ 30) (hx : ∀ x ∈ xs, x < 128) (hnl : names.length ≤ 7) (hnm : ∀ k, k < names.length → names.getD k 0 < 7) :
    ∃ v' h', CallOK Try.prog 233 #[v, w] h v' h' ∧ Adds h h' ∧ IntsA h.next h' v' (toN (putAll names xs [])) := by
  refine callY_L (args := [v, w]) 38 _ [.tmp 4] Try.func233 rfl rfl rfl ?_
  obtain ⟨b, rfl, hX⟩ := hv
  have hL := hX.lenD
  have hM := hw.lenD
  have hgt := toN_get xs
  have hgt2 := toN_get names
  have hln := toN_length xs
  have hln2 := toN_length names
  try simp (disch := first | omega | (simp; done) | fail) [wrap64c, if_pos, if_neg, opAnd, opOr, opXor, opDiff, opShr, opBit, hL, hM, hgt, hgt2]
  refine WD_loopC [1, 12, 13] (fun m tm h' => ∃ j u acc, m = xs.length - j ∧ tm 5 = u ∧ tm 14 = .int .i64 (j : Int) ∧ (j ≤ xs.length) ∧ (Adds h h') ∧ (IntsA h.next h' u (toN acc)) ∧ (acc.length ≤ j) ∧ (acc.Pairwise (· < ·)) ∧ (putAll names xs [] = putAll names (xs.drop j) acc)) _ ⟨0, _, [], rfl, (by simp (disch := first | omega | (simp; done) | fail) [wrap64c, if_pos, if_neg, opAnd, opOr, opXor, opDiff, opShr, opBit, hL, hM, hgt, hgt2]), (by simp (disch := first | omega | (simp; done) | fail) [wrap64c, if_pos, if_neg, opAnd, opOr, opXor, opDiff, opShr, opBit, hL, hM, hgt, hgt2]), (by first | omega | assumption | (simp (disch := first | omega | (simp; done) | fail) [wrap64c, if_pos, if_neg, opAnd, opOr, opXor, opDiff, opShr, opBit, hL, hM, hgt, hgt2] <;> omega)), (by first | exact aK | exact kK), (.nil _ _), (by simp), .nil, (by simp)⟩ ?_
  rintro m tm h' hFr ⟨j, u, acc, rfl, e5, e14, hj, ha, hu, hal, has, hp⟩
  simp only [FrameL] at hFr
  obtain ⟨f1_0, f12_0, f13_0, -⟩ := hFr
  try simp (disch := first | omega | (simp; done) | fail) [wrap64c, if_pos, if_neg, opAnd, opOr, opXor, opDiff, opShr, opBit, hL, hM, hgt, hgt2] at f1_0 f12_0 f13_0
  have e1 := f1_0
  have e12 := f12_0
  have e13 := f13_0
  by_cases hlt : j < xs.length
  · have hX1 := hX.keep ha.1
    have hw1 := hw.keep ha.1
    obtain ⟨o_x, i_x, c_x, cs_x, own_x, ex_x, es_x, q_x, b_x, g_x, l_x, r_x⟩ := hX1.open ((by omega))
    have z_x : ∀ h2 : i_x < cs_x.length, cs_x[i_x] = _ := fun h2 => r_x 0 ((by omega)) h2
    have hx1 := hx _ (List.getElem_mem hlt)
    try simp (disch := first | omega | (simp; done) | fail) [wrap64c, if_pos, if_neg, opAnd, opOr, opXor, opDiff, opShr, opBit, hL, hM, hgt, hgt2, e1, e5, e12, e13, e14, hlt, q_x, g_x, l_x, r_x, z_x]
    rename Hp => hq
    refine WD_loopC [1, 5, 7, 12, 13, 14, 18, 19] (fun m tm h' => ∃ i, m = names.length - i ∧ hq = h' ∧ tm 8 = .int .i64 ((renK names xs[j] i : Nat) : Int) ∧ tm 20 = .int .i64 (i : Int) ∧ (i ≤ names.length)) _ ⟨0, rfl, rfl, (by simp [renK]), (by simp (disch := first | omega | (simp; done) | fail) [wrap64c, if_pos, if_neg, opAnd, opOr, opXor, opDiff, opShr, opBit, hL, hM, hgt, hgt2, e1, e5, e12, e13, e14, hlt, q_x, g_x, l_x, r_x, z_x]), (by first | omega | assumption | (simp (disch := first | omega | (simp; done) | fail) [wrap64c, if_pos, if_neg, opAnd, opOr, opXor, opDiff, opShr, opBit, hL, hM, hgt, hgt2, e1, e5, e12, e13, e14, hlt, q_x, g_x, l_x, r_x, z_x] <;> omega))⟩ ?_
    rintro m tm h' hFr ⟨i, rfl, rfl, e8, e20, hi⟩
    simp only [FrameL] at hFr
    obtain ⟨f1_1, f5_1, f7_1, f12_1, f13_1, f14_1, f18_1, f19_1, -⟩ := hFr
    try simp (disch := first | omega | (simp; done) | fail) [wrap64c, if_pos, if_neg, opAnd, opOr, opXor, opDiff, opShr, opBit, hL, hM, hgt, hgt2, e1, e5, e12, e13, e14, hlt, q_x, g_x, l_x, r_x, z_x] at f1_1 f5_1 f7_1 f12_1 f13_1 f14_1 f18_1 f19_1
    have e1 := f1_1
    have e5 := f5_1
    have e7 := f7_1
    have e12 := f12_1
    have e13 := f13_1
    have e14 := f14_1
    have e18 := f18_1
    have e19 := f19_1
    by_cases hlt2 : i < names.length
    · obtain ⟨o_y, i_y, c_y, cs_y, own_y, ex_y, es_y, q_y, b_y, g_y, l_y, r_y⟩ := hw1.open ((by omega))
      have z_y : ∀ h2 : i_y < cs_y.length, cs_y[i_y] = _ := fun h2 => r_y 0 ((by omega)) h2
      have hnk := hnm i hlt2
      have hgd : names.getD i 0 = names[i] := by rw [List.getD_eq_getElem?_getD, List.getElem?_eq_getElem hlt2]; rfl
      rw [hgd] at hnk
      have hb7 := bit_lt7 hnk
      have hr := renK_lt (m := 7) xs[j] hnm i (by omega)
      have hr7 : renK names xs[j] i < 128 := hr
      have hor := nOr128 (b := bit names[i]) hr7 (by omega)
      have hs : renK names xs[j] (i + 1) = if xs[j].testBit i = true then nOr (renK names xs[j] i) (bit (names.getD i 0)) else renK names xs[j] i := rfl
      rw [hgd] at hs
      try simp (disch := first | omega | (simp; done) | fail) [wrap64c, if_pos, if_neg, opAnd, opOr, opXor, opDiff, opShr, opBit, hL, hM, hgt, hgt2, e1, e5, e12, e13, e14, hlt, q_x, g_x, l_x, r_x, z_x, e7, e8, e18, e19, e20, hlt2, q_y, g_y, l_y, r_y, z_y]
      refine callG_c (by simp) (by simp) ?ha (spIn_ok hq xs[j] i (by omega) (by omega)) ?_
      (case ha => simp (disch := first | omega | (simp; done) | fail) [wrap64c, if_pos, if_neg, opAnd, opOr, opXor, opDiff, opShr, opBit, hL, hM, hgt, hgt2, e1, e5, e12, e13, e14, hlt, q_x, g_x, l_x, r_x, z_x, e7, e8, e18, e19, e20, hlt2, q_y, g_y, l_y, r_y, z_y])
      cases hc : xs[j].testBit i
      · rw [hc] at hs
        try simp (disch := first | omega | (simp; done) | fail) [wrap64c, if_pos, if_neg, opAnd, opOr, opXor, opDiff, opShr, opBit, hL, hM, hgt, hgt2, e1, e5, e12, e13, e14, hlt, q_x, g_x, l_x, r_x, z_x, e7, e8, e18, e19, e20, hlt2, q_y, g_y, l_y, r_y, z_y, hc]
        refine loopK_next _ ?hm ?hf ⟨i + 1, rfl, rfl, (by simp [hs, e8]), (by simp (disch := first | omega | (simp; done) | fail) [wrap64c, if_pos, if_neg, opAnd, opOr, opXor, opDiff, opShr, opBit, hL, hM, hgt, hgt2, e1, e5, e12, e13, e14, hlt, q_x, g_x, l_x, r_x, z_x, e7, e8, e18, e19, e20, hlt2, q_y, g_y, l_y, r_y, z_y, hc] <;> omega), (by first | omega | assumption | (simp (disch := first | omega | (simp; done) | fail) [wrap64c, if_pos, if_neg, opAnd, opOr, opXor, opDiff, opShr, opBit, hL, hM, hgt, hgt2, e1, e5, e12, e13, e14, hlt, q_x, g_x, l_x, r_x, z_x, e7, e8, e18, e19, e20, hlt2, q_y, g_y, l_y, r_y, z_y, hc] <;> omega))⟩
        (case hm => first | omega | (simp; omega))
        (case hf => simp [FrameL, hL, hM, hgt, hgt2, e1, e5, e12, e13, e14, hlt, q_x, g_x, l_x, r_x, z_x, e7, e8, e18, e19, e20, hlt2, q_y, g_y, l_y, r_y, z_y, hc, f1_1, f5_1, f7_1, f12_1, f13_1, f14_1, f18_1, f19_1])
      · rw [hc] at hs
        try simp (disch := first | omega | (simp; done) | fail) [wrap64c, if_pos, if_neg, opAnd, opOr, opXor, opDiff, opShr, opBit, hL, hM, hgt, hgt2, e1, e5, e12, e13, e14, hlt, q_x, g_x, l_x, r_x, z_x, e7, e8, e18, e19, e20, hlt2, q_y, g_y, l_y, r_y, z_y, hc]
        refine loopK_next _ ?hm ?hf ⟨i + 1, rfl, rfl, (by simp [hs]), (by simp (disch := first | omega | (simp; done) | fail) [wrap64c, if_pos, if_neg, opAnd, opOr, opXor, opDiff, opShr, opBit, hL, hM, hgt, hgt2, e1, e5, e12, e13, e14, hlt, q_x, g_x, l_x, r_x, z_x, e7, e8, e18, e19, e20, hlt2, q_y, g_y, l_y, r_y, z_y, hc] <;> omega), (by first | omega | assumption | (simp (disch := first | omega | (simp; done) | fail) [wrap64c, if_pos, if_neg, opAnd, opOr, opXor, opDiff, opShr, opBit, hL, hM, hgt, hgt2, e1, e5, e12, e13, e14, hlt, q_x, g_x, l_x, r_x, z_x, e7, e8, e18, e19, e20, hlt2, q_y, g_y, l_y, r_y, z_y, hc] <;> omega))⟩
        (case hm => first | omega | (simp; omega))
        (case hf => simp [FrameL, hL, hM, hgt, hgt2, e1, e5, e12, e13, e14, hlt, q_x, g_x, l_x, r_x, z_x, e7, e8, e18, e19, e20, hlt2, q_y, g_y, l_y, r_y, z_y, hc, f1_1, f5_1, f7_1, f12_1, f13_1, f14_1, f18_1, f19_1])
    · have hie : i = names.length := by omega
      have hr := renK_lt (m := 7) xs[j] hnm names.length (by omega)
      have hrN : renK names xs[j] i = renN names xs[j] := by rw [hie]; rfl
      rw [hrN] at e8
      try simp (disch := first | omega | (simp; done) | fail) [wrap64c, if_pos, if_neg, opAnd, opOr, opXor, opDiff, opShr, opBit, hL, hM, hgt, hgt2, e1, e5, e12, e13, e14, hlt, q_x, g_x, l_x, r_x, z_x, e7, e8, e18, e19, e20, hlt2]
      obtain ⟨u2, h2, hc2, ha2, hu2⟩ := l1Put_ok hq h.next u acc (renN names xs[j]) hu has (by omega) ha.1.1
      have hc3 := spPut_of hq u u2 _ h2 hc2
      refine callG_c (by simp) (by simp) ?ha (hc3) ?_
      (case ha => simp (disch := first | omega | (simp; done) | fail) [wrap64c, if_pos, if_neg, opAnd, opOr, opXor, opDiff, opShr, opBit, hL, hM, hgt, hgt2, e1, e5, e12, e13, e14, hlt, q_x, g_x, l_x, r_x, z_x, e7, e8, e18, e19, e20, hlt2])
      have hpl := putL_len acc (renN names xs[j])
      try simp (disch := first | omega | (simp; done) | fail) [wrap64c, if_pos, if_neg, opAnd, opOr, opXor, opDiff, opShr, opBit, hL, hM, hgt, hgt2, e1, e5, e12, e13, e14, hlt, q_x, g_x, l_x, r_x, z_x, e7, e8, e18, e19, e20, hlt2]
      refine loopK_next _ ?hm ?hf ⟨j + 1, u2, putL acc (renN names xs[j]), rfl, (by simp (disch := first | omega | (simp; done) | fail) [wrap64c, if_pos, if_neg, opAnd, opOr, opXor, opDiff, opShr, opBit, hL, hM, hgt, hgt2, e1, e5, e12, e13, e14, hlt, q_x, g_x, l_x, r_x, z_x, e7, e8, e18, e19, e20, hlt2] <;> omega), (by simp (disch := first | omega | (simp; done) | fail) [wrap64c, if_pos, if_neg, opAnd, opOr, opXor, opDiff, opShr, opBit, hL, hM, hgt, hgt2, e1, e5, e12, e13, e14, hlt, q_x, g_x, l_x, r_x, z_x, e7, e8, e18, e19, e20, hlt2] <;> omega), (by first | omega | assumption | (simp (disch := first | omega | (simp; done) | fail) [wrap64c, if_pos, if_neg, opAnd, opOr, opXor, opDiff, opShr, opBit, hL, hM, hgt, hgt2, e1, e5, e12, e13, e14, hlt, q_x, g_x, l_x, r_x, z_x, e7, e8, e18, e19, e20, hlt2] <;> omega)), (ha.trans ha2), hu2, (by omega), (putL_srt has _), (by rw [hp, List.drop_eq_getElem_cons hlt, putAll])⟩
      (case hm => first | omega | (simp; omega))
      (case hf => simp [FrameL, hL, hM, hgt, hgt2, e1, e5, e12, e13, e14, hlt, q_x, g_x, l_x, r_x, z_x, e7, e8, e18, e19, e20, hlt2, f1_0, f12_0, f13_0])
  · have hje : j = xs.length := by omega
    have hp2 : putAll names (xs.drop j) acc = acc := by rw [List.drop_eq_nil_of_le (by omega)]; rfl
    rw [hp2] at hp
    try simp (disch := first | omega | (simp; done) | fail) [wrap64c, if_pos, if_neg, opAnd, opOr, opXor, opDiff, opShr, opBit, hL, hM, hgt, hgt2, e1, e5, e12, e13, e14, hlt]
    refine done_ret rfl ⟨ha, ?_⟩
    rw [hp]; exact hu
end Go.Proofs.Ytnncipcldbopgaa
namespace Go.Proofs.Ytnncipcldbopgaa
set_option linter.unusedSimpArgs false
set_option linter.unusedVariables false
set_option maxHeartbeats 4000000
open Go Go.Eng
attribute [local irreducible] WD RunD PreD Runs CallOK
def rowsN (L : List (List Nat)) : List (List Int) := L.map toN
@[simp] theorem rowsN_length (L : List (List Nat)) : (rowsN L).length = L.length := by simp [rowsN]
theorem rowsN_append (L K : List (List Nat)) : rowsN (L ++ K) = rowsN L ++ rowsN K := by simp [rowsN]
theorem flat_take {α : Type} (f : Nat → List α) (x : Nat) : (List.range (x + 1)).flatMap f = (List.range x).flatMap f ++ f x := by
  rw [List.range_succ, List.flatMap_append]; simp
theorem permsFlat_len (n k : Nat) (l : List Nat) : ∀ x, ((List.range x).flatMap fun x => if x ∈ l then [] else permsF n k (l ++ [x])).length ≤ x * n ^ k
  | 0 => by simp
  | x + 1 => by
    rw [flat_take, List.length_append, Nat.add_mul, Nat.one_mul]
    have h1 := permsFlat_len n k l x
    have h2 : (if x ∈ l then [] else permsF n k (l ++ [x])).length ≤ n ^ k := by
      split
      · simp
      · exact permsF_len n k _
    omega
theorem alOrders_ok (n : Nat) (hn : n ≤ 7) : ∀ (k : Nat) (h : Hp) (v : Value) (l : List Nat), Ints h v (toN l) → l.length + k = n →
    ∃ v' h', CallOK Try.prog 232 #[v, .int .i64 (n : Int)] h v' h' ∧ Adds h h' ∧ RowsG h.next h' v' (rowsN (permsF n k l)) := by
  intro k
  induction k with
  | zero =>
    intro h v l hv hl
    refine callY_L (args := [v, .int .i64 (n : Int)]) 33 _ [.tmp 4] Try.func232 rfl rfl rfl ?_
    have hL := hv.lenD
    have hln := toN_length l
    have hlb : ((l.length : Int) == (n : Int)) = true := by simp; omega
    try simp (disch := first | omega | (simp; done) | fail) [wrap64c, if_pos, if_neg, opAnd, opOr, opXor, opDiff, opShr, opBit, hL, hlb]
    obtain ⟨u, h1, hc1, ha1, _, hA1⟩ := l1Own_ok h v (toN l) hv (by simp; omega)
    have hO := hA1.own (by simp; omega)
    refine callG_c (by simp) (by simp) ?ha (hc1) ?_
    (case ha => simp (disch := first | omega | (simp; done) | fail) [wrap64c, if_pos, if_neg, opAnd, opOr, opXor, opDiff, opShr, opBit, hL, hlb])
    have nt := hO.nt
    have cs := hO.cs
    try simp (disch := first | omega | (simp; done) | fail) [wrap64c, if_pos, if_neg, opAnd, opOr, opXor, opDiff, opShr, opBit, hL, hlb, nt, cs]
    first | refine WY_heap fun h2 q_h2 => ?_ | refine callG_heap fun h2 q_h2 => ?_ | refine callP_heap fun h2 q_h2 => ?_ | refine callS_heap fun h2 q_h2 => ?_ | refine RY_heap fun h2 q_h2 => ?_ | refine PY_heap fun h2 q_h2 => ?_ | refine SY_heap fun h2 q_h2 => ?_ | refine doneY_heap fun h2 q_h2 => ?_ | refine loopK_heap fun h2 q_h2 => ?_ | refine thenY_heap fun h2 q_h2 => ?_ | refine thenM_heap fun h2 q_h2 => ?_
    have k2 : Adds h1 h2 := by rw [q_h2]; exact (by first | exact aK | exact kK)
    refine done_ret rfl ⟨ha1.trans k2, .inr ⟨h1.next, true, [u], rfl, ha1.1.1, by simp [q_h2], by simp [q_h2], rfl, fun i hi => ?_⟩⟩
    have hi0 : i = 0 := by simp [permsF] at hi; exact hi
    subst hi0
    exact ⟨u, rfl, ((hO.read.keep k2.1).sub fun o ho => ⟨ho.1, by have := ho.2; omega⟩)⟩
  | succ k ih =>
    intro h v l hv hl
    refine callY_L (args := [v, .int .i64 (n : Int)]) 33 _ [.tmp 4] Try.func232 rfl rfl rfl ?_
    have hL := hv.lenD
    have hln := toN_length l
    have hlb : ((l.length : Int) == (n : Int)) = false := by simp; omega
    have hpow : n ^ k ≤ 7 ^ k := Nat.pow_le_pow_left hn k
    have hpow2 : 7 ^ k ≤ 7 ^ 7 := Nat.pow_le_pow_right (by omega) (by omega)
    have hp7 : (7 : Nat) ^ 7 = 823543 := by decide
    try simp (disch := first | omega | (simp; done) | fail) [wrap64c, if_pos, if_neg, opAnd, opOr, opXor, opDiff, opShr, opBit, hL, hlb]
    refine WD_loopC [0, 1] (fun m tm h' => ∃ x u, m = n - x ∧ tm 5 = u ∧ tm 6 = .int .i64 (x : Int) ∧ (x ≤ n) ∧ (Adds h h') ∧ (RowsG h.next h' u (rowsN ((List.range x).flatMap fun x => if x ∈ l then [] else permsF n k (l ++ [x]))))) _ ⟨0, _, rfl, (by simp (disch := first | omega | (simp; done) | fail) [wrap64c, if_pos, if_neg, opAnd, opOr, opXor, opDiff, opShr, opBit, hL, hlb]), (by simp (disch := first | omega | (simp; done) | fail) [wrap64c, if_pos, if_neg, opAnd, opOr, opXor, opDiff, opShr, opBit, hL, hlb]), (by first | omega | assumption | (simp (disch := first | omega | (simp; done) | fail) [wrap64c, if_pos, if_neg, opAnd, opOr, opXor, opDiff, opShr, opBit, hL, hlb] <;> omega)), (adds_self _), (.nil _ _)⟩ ?_
    rintro m tm h' hFr ⟨x, u, rfl, e5, e6, hx, ha, hu⟩
    simp only [FrameL] at hFr
    obtain ⟨f0_0, f1_0, -⟩ := hFr
    try simp (disch := first | omega | (simp; done) | fail) [wrap64c, if_pos, if_neg, opAnd, opOr, opXor, opDiff, opShr, opBit, hL, hlb] at f0_0 f1_0
    have e0 := f0_0
    have e1 := f1_0
    by_cases hlt : x < n
    · have hs := flat_take (fun x => if x ∈ l then [] else permsF n k (l ++ [x])) x
      have hv1 := hv.keep ha.1
      rename Hp => hq
      try simp (disch := first | omega | (simp; done) | fail) [wrap64c, if_pos, if_neg, opAnd, opOr, opXor, opDiff, opShr, opBit, hL, hlb, e0, e1, e5, e6, hlt]
      refine callG_c (by simp) (by simp) ?ha (l1Has_ok hq v l x hv1) ?_
      (case ha => simp (disch := first | omega | (simp; done) | fail) [wrap64c, if_pos, if_neg, opAnd, opOr, opXor, opDiff, opShr, opBit, hL, hlb, e0, e1, e5, e6, hlt])
      by_cases hm : x ∈ l
      · rw [if_pos hm, List.append_nil] at hs
        try simp (disch := first | omega | (simp; done) | fail) [wrap64c, if_pos, if_neg, opAnd, opOr, opXor, opDiff, opShr, opBit, hL, hlb, e0, e1, e5, e6, hlt, hm]
        refine loopK_next _ ?hm ?hf ⟨x + 1, u, rfl, (by simp (disch := first | omega | (simp; done) | fail) [wrap64c, if_pos, if_neg, opAnd, opOr, opXor, opDiff, opShr, opBit, hL, hlb, e0, e1, e5, e6, hlt, hm] <;> omega), (by simp (disch := first | omega | (simp; done) | fail) [wrap64c, if_pos, if_neg, opAnd, opOr, opXor, opDiff, opShr, opBit, hL, hlb, e0, e1, e5, e6, hlt, hm] <;> omega), (by first | omega | assumption | (simp (disch := first | omega | (simp; done) | fail) [wrap64c, if_pos, if_neg, opAnd, opOr, opXor, opDiff, opShr, opBit, hL, hlb, e0, e1, e5, e6, hlt, hm] <;> omega)), (by first | omega | assumption | (simp (disch := first | omega | (simp; done) | fail) [wrap64c, if_pos, if_neg, opAnd, opOr, opXor, opDiff, opShr, opBit, hL, hlb, e0, e1, e5, e6, hlt, hm] <;> omega)), (by rw [hs]; exact hu)⟩
        (case hm => first | omega | (simp; omega))
        (case hf => simp [FrameL, hL, hlb, e0, e1, e5, e6, hlt, hm, f0_0, f1_0])
      · rw [if_neg hm] at hs
        have hfl := permsFlat_len n k l x
        have hle := permsF_len n k (l ++ [x])
        have hxb : x * n ^ k ≤ 7 * 823543 := Nat.mul_le_mul (by omega) (by omega)
        try simp (disch := first | omega | (simp; done) | fail) [wrap64c, if_pos, if_neg, opAnd, opOr, opXor, opDiff, opShr, opBit, hL, hlb, e0, e1, e5, e6, hlt, hm]
        obtain ⟨w, h1, hc1, ha1, _, hA1⟩ := l1Own_ok hq v (toN l) hv1 (by simp; omega)
        refine callG_c (by simp) (by simp) ?ha (hc1) ?_
        (case ha => simp (disch := first | omega | (simp; done) | fail) [wrap64c, if_pos, if_neg, opAnd, opOr, opXor, opDiff, opShr, opBit, hL, hlb, e0, e1, e5, e6, hlt, hm])
        obtain ⟨w2, h2, hap, hA2, ha2, hn2, hs2⟩ := appI hA1 (x : Int) (by simp; omega) ha1.1.1 ha1 (Nat.le_refl _)
        try simp (disch := first | omega | (simp; done) | fail) [wrap64c, if_pos, if_neg, opAnd, opOr, opXor, opDiff, opShr, opBit, hL, hlb, e0, e1, e5, e6, hlt, hm, hap]
        obtain ⟨y, h3, hc3, ha3, hG3⟩ := ih h2 w2 (l ++ [x]) (by have := (hA2.own (by simp; omega)).ints; rw [← toN_snoc] at this; exact this) (by simp; omega)
        refine callG_c (by simp) (by simp) ?ha (hc3) ?_
        (case ha => simp (disch := first | omega | (simp; done) | fail) [wrap64c, if_pos, if_neg, opAnd, opOr, opXor, opDiff, opShr, opBit, hL, hlb, e0, e1, e5, e6, hlt, hm])
        obtain ⟨ys, hsrc, hyl, hy⟩ := (hG3.read (by rw [rowsN_length]; omega)).src
        have hG := hu.keep rowR_steady (ha2.trans ha3).1
        have hn3 := ha2.1.1
        obtain ⟨u4, h4, hap4, hG4, ha4, hn4, hs4⟩ := GL.append (P := Try.prog) (t := 83) (t' := 83) (z := .slice none 0 0) (b := 24) (e := 24) rowR_steady hG hsrc hyl hy (fun o ho => ⟨by have := ha.1.1; omega, ho.2, fun hob => by have := (hu.obj hob).2; omega⟩)
          (by simp) (by simp) (by simp) rfl (by simp) (by decide) (by decide) (by simp) (by rw [rowsN_length, rowsN_length]; omega) (by have := ha.1.1; have := ha3.1.1; omega) (ha.trans (ha2.trans ha3)) (Nat.le_refl _)
        try simp (disch := first | omega | (simp; done) | fail) [wrap64c, if_pos, if_neg, opAnd, opOr, opXor, opDiff, opShr, opBit, hL, hlb, e0, e1, e5, e6, hlt, hm, hap4]
        refine loopK_next _ ?hm ?hf ⟨x + 1, u4, rfl, (by simp (disch := first | omega | (simp; done) | fail) [wrap64c, if_pos, if_neg, opAnd, opOr, opXor, opDiff, opShr, opBit, hL, hlb, e0, e1, e5, e6, hlt, hm] <;> omega), (by simp (disch := first | omega | (simp; done) | fail) [wrap64c, if_pos, if_neg, opAnd, opOr, opXor, opDiff, opShr, opBit, hL, hlb, e0, e1, e5, e6, hlt, hm] <;> omega), (by first | omega | assumption | (simp (disch := first | omega | (simp; done) | fail) [wrap64c, if_pos, if_neg, opAnd, opOr, opXor, opDiff, opShr, opBit, hL, hlb, e0, e1, e5, e6, hlt, hm] <;> omega)), ha4, (by rw [hs, rowsN_append]; exact hG4)⟩
        (case hm => first | omega | (simp; omega))
        (case hf => simp [FrameL, hL, hlb, e0, e1, e5, e6, hlt, hm, f0_0, f1_0])
    · have hxe : x = n := by omega
      rw [hxe] at hu
      try simp (disch := first | omega | (simp; done) | fail) [wrap64c, if_pos, if_neg, opAnd, opOr, opXor, opDiff, opShr, opBit, hL, hlb, e0, e1, e5, e6, hlt]
      exact done_ret rfl ⟨ha, hu⟩
theorem firstNames_ok (h : Hp) (n : Nat) (hn : n ≤ 7) : ∃ v' h', CallOK Try.prog 226 #[.int .i64 (n : Int)] h v' h' ∧ Adds h h' ∧ IntsO (Btw h.next h'.next) h' v' (toN (List.range n)) := by
  refine callY_L (args := [.int .i64 (n : Int)]) 16 _ [.tmp 2] Try.func226 rfl rfl rfl ?_
  try simp (disch := first | omega | (simp; done) | fail) [wrap64c, if_pos, if_neg, opAnd, opOr, opXor, opDiff, opShr, opBit]
  refine WD_loopC [6] (fun m tm h' => ∃ j u, m = n - j ∧ tm 3 = u ∧ tm 7 = .int .i64 (j : Int) ∧ (j ≤ n) ∧ (Adds h h') ∧ (IntsA h.next h' u (toN (List.range j)))) _ ⟨0, _, rfl, (by simp (disch := first | omega | (simp; done) | fail) [wrap64c, if_pos, if_neg, opAnd, opOr, opXor, opDiff, opShr, opBit]), (by simp (disch := first | omega | (simp; done) | fail) [wrap64c, if_pos, if_neg, opAnd, opOr, opXor, opDiff, opShr, opBit]), (by first | omega | assumption | (simp (disch := first | omega | (simp; done) | fail) [wrap64c, if_pos, if_neg, opAnd, opOr, opXor, opDiff, opShr, opBit] <;> omega)), (by first | exact aK | exact kK), (.lit (ex := true) (Nat.le_refl _) (by simp) (by simp))⟩ ?_
  rintro m tm h' hFr ⟨j, u, rfl, e3, e7, hj, ha, hu⟩
  simp only [FrameL] at hFr
  obtain ⟨f6_0, -⟩ := hFr
  try simp (disch := first | omega | (simp; done) | fail) [wrap64c, if_pos, if_neg, opAnd, opOr, opXor, opDiff, opShr, opBit] at f6_0
  have e6 := f6_0
  by_cases hlt : j < n
  · try simp (disch := first | omega | (simp; done) | fail) [wrap64c, if_pos, if_neg, opAnd, opOr, opXor, opDiff, opShr, opBit, e3, e6, e7, hlt]
    obtain ⟨u2, h2', hap, hu2, ha2, hn2, hs2⟩ := appI hu (j : Int) (by simp; omega) ha.1.1 ha (Nat.le_refl _)
    try simp (disch := first | omega | (simp; done) | fail) [wrap64c, if_pos, if_neg, opAnd, opOr, opXor, opDiff, opShr, opBit, e3, e6, e7, hlt, hap]
    refine loopK_next _ ?hm ?hf ⟨j + 1, u2, rfl, (by simp (disch := first | omega | (simp; done) | fail) [wrap64c, if_pos, if_neg, opAnd, opOr, opXor, opDiff, opShr, opBit, e3, e6, e7, hlt] <;> omega), (by simp (disch := first | omega | (simp; done) | fail) [wrap64c, if_pos, if_neg, opAnd, opOr, opXor, opDiff, opShr, opBit, e3, e6, e7, hlt] <;> omega), (by first | omega | assumption | (simp (disch := first | omega | (simp; done) | fail) [wrap64c, if_pos, if_neg, opAnd, opOr, opXor, opDiff, opShr, opBit, e3, e6, e7, hlt] <;> omega)), (by first | omega | assumption | (simp (disch := first | omega | (simp; done) | fail) [wrap64c, if_pos, if_neg, opAnd, opOr, opXor, opDiff, opShr, opBit, e3, e6, e7, hlt] <;> omega)), (by rw [List.range_succ, toN_snoc]; exact hu2)⟩
    (case hm => first | omega | (simp; omega))
    (case hf => simp [FrameL, e3, e6, e7, hlt, f6_0])
  · have e : j = n := by omega
    rw [e] at hu
    try simp (disch := first | omega | (simp; done) | fail) [wrap64c, if_pos, if_neg, opAnd, opOr, opXor, opDiff, opShr, opBit, e3, e6, e7, hlt]
    exact done_ret rfl ⟨ha, hu.own (by simp; omega)⟩
theorem compare_ok (h : Hp) (v w : Value) (N M : Int) (X Y : List Int) (hv : Space h v N X) (hw : Space h w M Y) : CallOK Try.prog 142 #[v, w] h (.int .i64 (cmpL X Y)) h := by
  refine callY_P 10 _ [.tmp 4] Try.func142 rfl rfl rfl (by first | rfl | simp) ?_
  obtain ⟨b, rfl, hX⟩ := hv
  obtain ⟨c, rfl, hY⟩ := hw
  try simp (disch := first | omega | (simp; done) | fail) [wrap64c, if_pos, if_neg, opAnd, opOr, opXor, opDiff, opShr, opBit]
  first | refine WY_heap fun h0 q_h0 => ?_ | refine callG_heap fun h0 q_h0 => ?_ | refine callP_heap fun h0 q_h0 => ?_ | refine callS_heap fun h0 q_h0 => ?_ | refine RY_heap fun h0 q_h0 => ?_ | refine PY_heap fun h0 q_h0 => ?_ | refine SY_heap fun h0 q_h0 => ?_ | refine doneY_heap fun h0 q_h0 => ?_ | refine loopK_heap fun h0 q_h0 => ?_ | refine thenY_heap fun h0 q_h0 => ?_ | refine thenM_heap fun h0 q_h0 => ?_
  have k0 : Adds h h0 := by rw [q_h0]; exact (by first | exact aK | exact kK)
  refine callG_c (by simp) (by simp) ?ha (slicesCompare_ok h0 b c X Y (hX.keep k0.1) (hY.keep k0.1)) ?_
  (case ha => simp (disch := first | omega | (simp; done) | fail) [wrap64c, if_pos, if_neg, opAnd, opOr, opXor, opDiff, opShr, opBit])
  try simp (disch := first | omega | (simp; done) | fail) [wrap64c, if_pos, if_neg, opAnd, opOr, opXor, opDiff, opShr, opBit]
  exact done_ret rfl (by simp [k0.1])
noncomputable def fewB (N : Int) (X : List Int) : Bool := spB N X && decide (N ≤ 5)
theorem fewB_true {N : Int} {X : List Int} (h : fewB N X = true) : ∃ n xs, N = (n : Nat) ∧ X = toN xs ∧ SpGood n xs ∧ n ≤ 5 := by
  unfold fewB at h
  simp only [Bool.and_eq_true, decide_eq_true_eq] at h
  obtain ⟨n, xs, h1, h2, g⟩ := spB_true h.1
  exact ⟨n, xs, h1, h2, g, by omega⟩
theorem isFew_ok (h : Hp) (v : Value) (N : Int) (X : List Int) (hv : Space h v N X) (hl : X.length < 2 ^ 40) : CallOK Try.prog 144 #[v] h (.bool (fewB N X)) h := by
  refine callY_P 10 _ [.tmp 2] Try.func144 rfl rfl rfl (by first | rfl | simp) ?_
  obtain ⟨b, rfl, hX⟩ := hv
  refine WD_first ?_
  try simp (disch := first | omega | (simp; done) | fail) [wrap64c, if_pos, if_neg, opAnd, opOr, opXor, opDiff, opShr, opBit]
  refine stopK_heap fun h0 q_h0 => ?_
  refine stopK_go ?_
  have g_h0 : h0.get h.next = .cells [.int .i64 N, b] true true 1 := by simp [q_h0]
  have k_h0 : Adds h h0 := by rw [q_h0]; exact (by first | exact aK | exact kK)
  have n_h0 : h.next < h0.next := by simp [q_h0]; try omega
  try simp (disch := first | omega | (simp; done) | fail) [wrap64c, if_pos, if_neg, opAnd, opOr, opXor, opDiff, opShr, opBit, g_h0]
  refine callG_c (by simp) (by simp) ?ha (isSpace_ok h0 (.agg #[.int .i64 N, b]) N X (.mk (hX.keep k_h0.1)) hl) ?_
  (case ha => simp (disch := first | omega | (simp; done) | fail) [wrap64c, if_pos, if_neg, opAnd, opOr, opXor, opDiff, opShr, opBit, g_h0])
  cases c1 : spB N X
  · try simp (disch := first | omega | (simp; done) | fail) [wrap64c, if_pos, if_neg, opAnd, opOr, opXor, opDiff, opShr, opBit, g_h0, c1]
    exact done_ret rfl (by simp [fewB, c1, k_h0.1])
  · try simp (disch := first | omega | (simp; done) | fail) [wrap64c, if_pos, if_neg, opAnd, opOr, opXor, opDiff, opShr, opBit, g_h0, c1]
    exact done_ret rfl (by simp [fewB, c1, k_h0.1])
end Go.Proofs.Ytnncipcldbopgaa
namespace Go.Proofs.Ytnncipcldbopgaa
set_option linter.unusedSimpArgs false
set_option linter.unusedVariables false
set_option maxHeartbeats 4000000
open Go Go.Eng
attribute [local irreducible] WD RunD PreD Runs CallOK
def on1 (x : Int) : Int := IntKind.wrap .u64 (bAnd .u64 (bShr .u64 x 1) 6148914691236517205 + bAnd .u64 x 6148914691236517205)
def on2 (x : Int) : Int := IntKind.wrap .u64 (bAnd .u64 (bShr .u64 x 2) 3689348814741910323 + bAnd .u64 x 3689348814741910323)
def on3 (x : Int) : Int := bAnd .u64 (IntKind.wrap .u64 (bShr .u64 x 4 + x)) 1085102592571150095
def on4 (x : Int) (k : Int) : Int := IntKind.wrap .u64 (x + bShr .u64 x k)
def idxI (p : Int → Bool) (xs : List Int) : Int := match xs.findIdx? p with
  | some i => i
  | none => -1
def chB (ch : List Int) (m : Int) : Bool := decide ((ch.length : Int) ≤ m) && !ch.any fun x => decide (x < 0)
end Go.Proofs.Ytnncipcldbopgaa
namespace Go.Proofs.Ytnncipcldbopgaa
set_option linter.unusedSimpArgs false
set_option linter.unusedVariables false
set_option maxHeartbeats 4000000
open Go Go.Eng
attribute [local irreducible] WD RunD PreD Runs CallOK
def natsOf (X : List Int) : List Nat := X.map Int.toNat
@[simp] theorem natsOf_toN (xs : List Nat) : natsOf (toN xs) = xs := by
  unfold natsOf toN
  rw [List.map_map]
  conv => rhs; rw [← List.map_id xs]
  apply List.map_congr_left
  intro x _
  simp
noncomputable def freeB (N : Int) (X : List Int) : Bool := spB N X && ((X.length : Int) == ((bit N.toNat : Nat) : Int))
noncomputable def sizesR (N : Int) (X : List Int) : List Int := if spB N X = true then toN (sizesN N.toNat (natsOf X)) else []
def sizesC (n : Nat) (xs : List Nat) : List Value := (toN (sizesN n xs)).map (.int .i64)
end Go.Proofs.Ytnncipcldbopgaa
namespace Go.Proofs.Ytnncipcldbopgaa
set_option linter.unusedSimpArgs false
set_option linter.unusedVariables false
set_option maxHeartbeats 4000000
open Go Go.Eng
attribute [local irreducible] WD RunD PreD Runs CallOK
def OrdN (n : Nat) (w : List Nat) : Prop := w.length = n ∧ ∀ k, k < w.length → w.getD k 0 < n
theorem ordN_perms (n : Nat) : ∀ w ∈ permsF n n [], OrdN n w := fun w hw => by
  have := permsF_mem n n [] (fun x hx => by cases hx) w hw
  exact ⟨by simpa using this.1, fun k hk => by
    rw [List.getD_eq_getElem?_getD, List.getElem?_eq_getElem hk]
    exact this.2 _ (List.getElem_mem hk)⟩
def keptN (n : Nat) (xs : List Nat) : Nat := ((permsF n n []).filter fun w => decide (namedN n w xs = xs)).length
noncomputable def keptR (N : Int) (X : List Int) : Int := if fewB N X = true then (keptN N.toNat (natsOf X) : Int) else 0
theorem foldl_count {α : Type} (p : α → Bool) : ∀ (l : List α) (s : Nat), l.foldl (fun s w => if p w = true then s + 1 else s) s = s + (l.filter p).length
  | [], s => rfl
  | a :: l, s => by
    rw [List.foldl_cons, foldl_count p l]
    by_cases h : p a = true <;> simp [h]; omega
theorem perms_lt {n : Nat} (hn : n ≤ 7) (k : Nat) (hk : k ≤ 7) (l : List Nat) : (permsF n k l).length ≤ 823543 := by
  have h1 := permsF_len n k l
  have h2 : n ^ k ≤ 7 ^ k := Nat.pow_le_pow_left hn k
  have h3 : 7 ^ k ≤ 7 ^ 7 := Nat.pow_le_pow_right (by omega) hk
  have h4 : (7 : Nat) ^ 7 = 823543 := by decide
  omega
theorem kept_le {n : Nat} (hn : n ≤ 7) (xs : List Nat) : keptN n xs ≤ 823543 := by
  have h1 := perms_lt hn n hn []
  have h2 := List.length_filter_le (fun w => decide (namedN n w xs = xs)) (permsF n n [])
  unfold keptN; omega
theorem wrap_eq (x : Int) : IntKind.wrap .i64 x = if x % 18446744073709551616 ≥ 9223372036854775808 then x % 18446744073709551616 - 18446744073709551616 else x % 18446744073709551616 := by
  have e : IntKind.wrap .i64 x = if (true && decide (x % 18446744073709551616 ≥ 9223372036854775808)) = true then x % 18446744073709551616 - 18446744073709551616 else x % 18446744073709551616 := rfl
  rw [e]; simp
theorem wrap_succ (x : Int) : IntKind.wrap .i64 (IntKind.wrap .i64 x + 1) = IntKind.wrap .i64 (x + 1) := by
  rw [wrap_eq (IntKind.wrap .i64 x + 1), wrap_eq x, wrap_eq (x + 1)]
  split <;> split <;> split <;> omega
theorem cmp_named {n : Nat} {w xs : List Nat} : cmpL (toN (namedN n w xs)) (toN xs) = 0 ↔ namedN n w xs = xs := by
  rw [cmpL_zero, toN_inj]
theorem implKept_ok (h : Hp) (v : Value) (N : Int) (X : List Int) (hv : Space h v N X) (hl : X.length < 2 ^ 40) :
    CallOK Try.prog 37 #[v] h (.tuple #[.int .i64 (keptR N X), .bool (fewB N X)]) h := by
  refine callY_P 13 _ [.tmp 2, .tmp 3] Try.func37 rfl rfl rfl (by first | rfl | simp) ?_
  obtain ⟨b, rfl, hX⟩ := hv
  refine WD_first ?_
  try simp (disch := first | omega | (simp; done) | fail) [wrap64c, if_pos, if_neg, opAnd, opOr, opXor, opDiff, opShr, opBit]
  refine stopK_heap fun h0 q_h0 => ?_
  refine stopK_go ?_
  have g_h0 : h0.get h.next = .cells [.int .i64 N, b] true true 1 := by simp [q_h0]
  have k_h0 : Adds h h0 := by rw [q_h0]; exact (by first | exact aK | exact kK)
  have n_h0 : h.next < h0.next := by simp [q_h0]; try omega
  have hX0 := hX.keep k_h0.1
  have K0 := k_h0.1
  try simp (disch := first | omega | (simp; done) | fail) [wrap64c, if_pos, if_neg, opAnd, opOr, opXor, opDiff, opShr, opBit, g_h0]
  refine callG_c (by simp) (by simp) ?ha (isFew_ok h0 (.agg #[.int .i64 N, b]) N X (.mk hX0) hl) ?_
  (case ha => simp (disch := first | omega | (simp; done) | fail) [wrap64c, if_pos, if_neg, opAnd, opOr, opXor, opDiff, opShr, opBit, g_h0])
  cases c1 : fewB N X
  · try simp (disch := first | omega | (simp; done) | fail) [wrap64c, if_pos, if_neg, opAnd, opOr, opXor, opDiff, opShr, opBit, g_h0, c1]
    exact done_ret rfl (by simp [c1, keptR, K0])
  · obtain ⟨n, xs, hN, hXe, g, h5⟩ := fewB_true c1
    have hNt : N = (n : Int) := hN
    have n7 := g.n7
    have hb7 := bit7 n7
    have hl7 := g.len7
    try simp (disch := first | omega | (simp; done) | fail) [wrap64c, if_pos, if_neg, opAnd, opOr, opXor, opDiff, opShr, opBit, g_h0, c1, hNt, putCells]
    first | refine WY_heap fun h1 q_h1 => ?_ | refine callG_heap fun h1 q_h1 => ?_ | refine callP_heap fun h1 q_h1 => ?_ | refine callS_heap fun h1 q_h1 => ?_ | refine RY_heap fun h1 q_h1 => ?_ | refine PY_heap fun h1 q_h1 => ?_ | refine SY_heap fun h1 q_h1 => ?_ | refine doneY_heap fun h1 q_h1 => ?_ | refine loopK_heap fun h1 q_h1 => ?_ | refine thenY_heap fun h1 q_h1 => ?_ | refine thenM_heap fun h1 q_h1 => ?_
    have k1 : Adds h0 h1 := by rw [q_h1]; exact (by first | exact aK | exact kK)
    have n1 : h1.next = h0.next + 1 := by simp [q_h1]
    have g1 : h1.get h.next = .cells [.int .i64 N, b] true true 1 := by rw [k1.1.2 _ (by omega)]; exact g_h0
    have gc1 : h1.get h0.next = .cells [.int .i64 0] true true 1 := by simp [q_h1]
    have hX1 := hX0.keep k1.1
    have D : DoerN (fun (s : Nat) (T : Nat → Prop) h' => (∀ o, T o → False) ∧ h'.get h.next = .cells [.int .i64 N, b] true true 1 ∧ h'.get h0.next = .cells [.int .i64 (IntKind.wrap .i64 (s : Int))] true true 1 ∧ IntsF (fun x => x < h0.next) h' b X) (fun s w => if decide (namedN n w xs = xs) = true then s + 1 else s) (OrdN n) h1.next (fun o => o = h0.next) 146 #[.pointer (some ⟨h.next, 0, none⟩), .pointer (some ⟨h0.next, 0, none⟩)] := {
      stab := fun s T h' h'' hp hb1 hb2 hs => ⟨hp.1, by rw [hs _ (by omega) (.inl (by omega))]; exact hp.2.1, by rw [hs _ (by omega) (.inl (by omega))]; exact hp.2.2.1, hp.2.2.2.same ⟨hb2, fun q hq hl => hs q hl (.inl (by omega))⟩⟩
      run := fun s T h' w v hp hb1 hv hg => by
        obtain ⟨hT, gs, gc, hb⟩ := hp
        have gs := gs
        have gc := gc
        have key : ∃ v' h'', CallOK Try.prog 146 #[v, .pointer (some ⟨h.next, 0, none⟩), .pointer (some ⟨h0.next, 0, none⟩)] h' v' h'' ∧ ∃ h2, Adds h' h2 ∧ h'' = if decide (namedN n w xs = xs) = true then h2.put h0.next (.cells [.int .i64 (IntKind.wrap .i64 ((s + 1 : Nat) : Int))] true true 1) else h2 := by
          refine callY_L (args := [v, .pointer (some ⟨h.next, 0, none⟩), .pointer (some ⟨h0.next, 0, none⟩)]) 12 _ [] Try.func146 rfl rfl rfl ?_
          have hbb := hb.ints
          rw [hXe] at hbb
          obtain ⟨_, h2, hc2, ha2, d, rfl, hd⟩ := rename_ok h' (.agg #[.int .i64 (n : Int), b]) v n xs w (.mk hbb) hv n7 g.lt (by omega) hg.1 hg.2
          try simp (disch := first | omega | (simp; done) | fail) [wrap64c, if_pos, if_neg, opAnd, opOr, opXor, opDiff, opShr, opBit, g_h0, c1, hNt, gs, gc]
          refine WD_drawC 4 rfl (by kernel_rfl) ?_
          try simp (disch := first | omega | (simp; done) | fail) [wrap64c, if_pos, if_neg, opAnd, opOr, opXor, opDiff, opShr, opBit, g_h0, c1, hNt, gs, gc]
          refine callP_c (by simp) (by simp) ?ha (hc2) ?hadd ?_
          (case ha => simp (disch := first | omega | (simp; done) | fail) [wrap64c, if_pos, if_neg, opAnd, opOr, opXor, opDiff, opShr, opBit, g_h0, c1, hNt, gs, gc])
          (case hadd => first | assumption | exact adds_self _ | (simp; done))
          have gs2 : h2.get h.next = .cells [.int .i64 N, b] true true 1 := by rw [ha2.1.2 _ (by omega)]; exact gs
          have gc2 : h2.get h0.next = .cells [.int .i64 (IntKind.wrap .i64 (s : Int))] true true 1 := by rw [ha2.1.2 _ (by omega)]; exact gc
          try simp (disch := first | omega | (simp; done) | fail) [wrap64c, if_pos, if_neg, opAnd, opOr, opXor, opDiff, opShr, opBit, g_h0, c1, hNt, gs, gc, gs2, gc2]
          refine callG_c (by simp) (by simp) ?ha (compare_ok h2 (.agg #[.int .i64 (n : Int), d]) (.agg #[.int .i64 (n : Int), b]) n n _ (toN xs) (.mk hd.ints) (.mk (hbb.keep ha2.1))) ?_
          (case ha => simp (disch := first | omega | (simp; done) | fail) [wrap64c, if_pos, if_neg, opAnd, opOr, opXor, opDiff, opShr, opBit, g_h0, c1, hNt, gs, gc, gs2, gc2])
          by_cases hc : namedN n w xs = xs
          · have hz : cmpL (toN (namedN n w xs)) (toN xs) = 0 := cmp_named.2 hc
            try simp (disch := first | omega | (simp; done) | fail) [wrap64c, if_pos, if_neg, opAnd, opOr, opXor, opDiff, opShr, opBit, g_h0, c1, hNt, gs, gc, gs2, gc2, hz, putCells, wrap_succ]
            exact done_end rfl ⟨h2, ha2, by simp [hc]⟩
          · have hz : (cmpL (toN (namedN n w xs)) (toN xs) == 0) = false := by simp [cmp_named, hc]
            try simp (disch := first | omega | (simp; done) | fail) [wrap64c, if_pos, if_neg, opAnd, opOr, opXor, opDiff, opShr, opBit, g_h0, c1, hNt, gs, gc, gs2, gc2, hz, putCells]
            exact done_end rfl ⟨h2, ha2, by simp [hc]⟩
        obtain ⟨u, h3, hc3, h2, ha2, he⟩ := key
        refine ⟨u, h3, hc3, ?_, fun _ => False, ⟨fun _ hf => hf, ?_, ?_, ?_⟩, fun _ hf => hf.elim⟩
        · rw [he]
          split
          · exact (Wr.of_adds ha2).put (.inl rfl) fun _ => rfl
          · exact .of_adds ha2
        · rw [he]
          split
          · simp [show h.next ≠ h0.next by omega]
            rw [ha2.1.2 _ (by omega)]; exact gs
          · rw [ha2.1.2 _ (by omega)]; exact gs
        · rw [he]
          split
          · simp
          · rw [ha2.1.2 _ (by omega)]; exact gc
        · rw [he]
          have h1 := hb.keep ha2.1
          split
          · exact h1.same ⟨by simp, fun q hq hl => by simp [show q ≠ h0.next by omega]⟩
          · exact h1
      low := fun o ho => by omega
      fn := by simp }
    obtain ⟨u, h2, hc2, W2, T2, P2, hT2⟩ := orders_ok _ _ _ _ _ _ _ D n g.n1 n7 h1 0 ⟨fun _ hf => hf, g1, gc1, ((hX.old.keep k_h0.1).keep k1.1).sub fun o ho => by omega⟩ (Nat.le_refl _) (ordN_perms n)
    refine callG_c (by simp) (by simp) ?ha (hc2) ?_
    (case ha => simp (disch := first | omega | (simp; done) | fail) [wrap64c, if_pos, if_neg, opAnd, opOr, opXor, opDiff, opShr, opBit, g_h0, c1, hNt])
    rw [foldl_count] at P2
    have hk := kept_le n7 xs
    have gc2 := P2.2.2.1
    rw [wrap64c _ (by unfold keptN at hk; omega) (by unfold keptN at hk; omega)] at gc2
    have gc2 := gc2
    try simp (disch := first | omega | (simp; done) | fail) [wrap64c, if_pos, if_neg, opAnd, opOr, opXor, opDiff, opShr, opBit, g_h0, c1, hNt, gc2]
    have A2 : Keeps h h2 := ⟨by have := K0.1; have := k1.1.1; have := W2.upd.1; omega, fun o ho => by rw [W2.upd.2 o (by omega) (by omega), k1.1.2 o (by omega), K0.2 o ho]⟩
    have c2 : fewB (n : Int) (toN xs) = true := by rw [← hNt, ← hXe]; exact c1
    exact done_ret rfl (by simp [c2, keptR, A2, hNt, hXe, keptN])
theorem nilInts (h : Hp) : Ints h (.slice none 0 0) (toN []) := (IntsO.nil (fun _ => False) h).ints
theorem filter_take_le {α : Type} (p : α → Bool) (l : List α) (j : Nat) : ((l.take j).filter p).length ≤ l.length := by
  have h1 := List.length_filter_le p (l.take j)
  have h2 : (l.take j).length ≤ l.length := by simp; omega
  omega
end Go.Proofs.Ytnncipcldbopgaa
namespace Go.Proofs.Ytnncipcldbopgaa
set_option linter.unusedSimpArgs false
set_option linter.unusedVariables false
set_option maxHeartbeats 4000000
open Go Go.Eng
attribute [local irreducible] WD RunD PreD Runs CallOK
def leastStep (n : Nat) (xs best w : List Nat) : List Nat := if cmpL (toN (namedN n w xs)) (toN best) < 0 then namedN n w xs else best
def leastN (n : Nat) (xs : List Nat) : List Nat := (permsF n n []).foldl (leastStep n xs) xs
theorem named_len (n : Nat) (w xs : List Nat) : (namedN n w xs).length ≤ bit n := by
  have : (namedN n w xs).length ≤ (List.range (bit n)).length := List.length_filter_le _ _
  simpa using this
theorem renK_id {n s : Nat} : ∀ k, k ≤ n → renK (List.range n) s k = s % 2 ^ k
  | 0, _ => by simp [renK, Nat.mod_one]
  | k + 1, hk => by
    rw [renK, renK_id k (by omega)]
    have hg : (List.range n).getD k 0 = k := by simp [List.getD_eq_getElem?_getD, show k < n by omega]
    rw [hg]
    apply eq_bits
    intro i
    rw [Nat.testBit_mod_two_pow]
    by_cases hs : s.testBit k = true
    · rw [if_pos hs, nOr_bit, bit_bit, Nat.testBit_mod_two_pow]
      by_cases e : k = i
      · subst e; simp [hs]
      · by_cases h1 : i < k
        · simp [h1, show i < k + 1 by omega, e]
        · simp [h1, show ¬ i < k + 1 by omega, e]
    · rw [if_neg hs, Nat.testBit_mod_two_pow]
      by_cases e : k = i
      · subst e; simp [hs]
      · by_cases h1 : i < k
        · simp [h1, show i < k + 1 by omega]
        · simp [h1, show ¬ i < k + 1 by omega]
theorem renN_id {n s : Nat} (hs : s < bit n) : renN (List.range n) s = s := by
  unfold renN
  rw [List.length_range, renK_id n (Nat.le_refl _)]
  exact Nat.mod_eq_of_lt hs
theorem named_id {n : Nat} {xs : List Nat} (g : SpGood n xs) : namedN n (List.range n) xs = xs := by
  refine srt_ext (namedN_srt _ _ _) g.srt fun a => ?_
  rw [namedN_mem (fun k hk => by simp [List.getD_eq_getElem?_getD] at hk ⊢; simp [hk]), List.mem_map]
  constructor
  · rintro ⟨x, hx, rfl⟩
    rw [renN_id (g.lt x hx)]; exact hx
  · intro ha
    exact ⟨a, ha, renN_id (g.lt a ha)⟩
theorem leastStep_len {n : Nat} {xs best w : List Nat} (h : best.length ≤ bit n) : (leastStep n xs best w).length ≤ bit n := by
  unfold leastStep
  split
  · exact named_len _ _ _
  · exact h
theorem leastFold_len {n : Nat} {xs : List Nat} : ∀ (l : List (List Nat)) (best : List Nat), best.length ≤ bit n → (l.foldl (leastStep n xs) best).length ≤ bit n
  | [], _, h => h
  | w :: l, best, h => leastFold_len l _ (leastStep_len h)
theorem leastNamed_ok (h : Hp) (v : Value) (n : Nat) (xs : List Nat) (hv : Space h v n (toN xs)) (g : SpGood n xs) :
    ∃ v' h', CallOK Try.prog 143 #[v] h v' h' ∧ Adds h h' ∧ SpaceO (Btw h.next h'.next) h' v' n (toN (leastN n xs)) := by
  refine callY_L (args := [v]) 14 _ [.cell 2 26] Try.func143 rfl rfl rfl ?_
  obtain ⟨b, rfl, hX⟩ := hv
  have n7 := g.n7
  have hb7 := bit7 n7
  have hl7 := g.len7
  try simp (disch := first | omega | (simp; done) | fail) [wrap64c, if_pos, if_neg, opAnd, opOr, opXor, opDiff, opShr, opBit]
  first | refine WY_heap fun h0 q_h0 => ?_ | refine callG_heap fun h0 q_h0 => ?_ | refine callP_heap fun h0 q_h0 => ?_ | refine callS_heap fun h0 q_h0 => ?_ | refine RY_heap fun h0 q_h0 => ?_ | refine PY_heap fun h0 q_h0 => ?_ | refine SY_heap fun h0 q_h0 => ?_ | refine doneY_heap fun h0 q_h0 => ?_ | refine loopK_heap fun h0 q_h0 => ?_ | refine thenY_heap fun h0 q_h0 => ?_ | refine thenM_heap fun h0 q_h0 => ?_
  have k0 : Adds h h0 := by rw [q_h0]; exact (by first | exact aK | exact kK)
  have n0 : h0.next = h.next + 2 := by simp [q_h0]
  have gs0 : h0.get h.next = .cells [.int .i64 (n : Int), b] true true 1 := by simp [q_h0]
  have gr0 : h0.get (h.next + 1) = .cells [.int .i64 0, .slice none 0 0] true true 1 := by simp [q_h0]
  refine WD_drawC 6 rfl (by kernel_rfl) ?_
  try simp (disch := first | omega | (simp; done) | fail) [wrap64c, if_pos, if_neg, opAnd, opOr, opXor, opDiff, opShr, opBit, gs0]
  obtain ⟨u, h1, hc1, ha1, hi1⟩ := firstNames_ok h0 n n7
  refine callP_c (by simp) (by simp) ?ha (hc1) ?hadd ?_
  (case ha => simp (disch := first | omega | (simp; done) | fail) [wrap64c, if_pos, if_neg, opAnd, opOr, opXor, opDiff, opShr, opBit, gs0])
  (case hadd => first | assumption | exact adds_self _ | (simp; done))
  try simp (disch := first | omega | (simp; done) | fail) [wrap64c, if_pos, if_neg, opAnd, opOr, opXor, opDiff, opShr, opBit, gs0]
  obtain ⟨_, h2, hc2, ha2, d, rfl, hd⟩ := rename_ok h1 (.agg #[.int .i64 (n : Int), b]) u n xs (List.range n) (.mk ((hX.keep k0.1).keep ha1.1)) hi1.ints n7 g.lt (by omega) (by simp) (fun k hk => by simp [List.getD_eq_getElem?_getD] at hk ⊢; simp [hk])
  rw [named_id g] at hd
  refine callP_c (by simp) (by simp) ?ha (hc2) ?hadd ?_
  (case ha => simp (disch := first | omega | (simp; done) | fail) [wrap64c, if_pos, if_neg, opAnd, opOr, opXor, opDiff, opShr, opBit, gs0])
  (case hadd => first | assumption | exact adds_self _ | (simp; done))
  have nt := hd.nt
  have cs := hd.cs
  have gs2 : h2.get h.next = .cells [.int .i64 (n : Int), b] true true 1 := by have := ha1.1.1; rw [ha2.1.2 _ (by omega), ha1.1.2 _ (by omega)]; exact gs0
  try simp (disch := first | omega | (simp; done) | fail) [wrap64c, if_pos, if_neg, opAnd, opOr, opXor, opDiff, opShr, opBit, gs0, nt, cs, gs2, putCells]
  first | refine WY_heap fun h3 q_h3 => ?_ | refine callG_heap fun h3 q_h3 => ?_ | refine callP_heap fun h3 q_h3 => ?_ | refine callS_heap fun h3 q_h3 => ?_ | refine RY_heap fun h3 q_h3 => ?_ | refine PY_heap fun h3 q_h3 => ?_ | refine SY_heap fun h3 q_h3 => ?_ | refine doneY_heap fun h3 q_h3 => ?_ | refine loopK_heap fun h3 q_h3 => ?_ | refine thenY_heap fun h3 q_h3 => ?_ | refine thenM_heap fun h3 q_h3 => ?_
  have k3 : Adds h2 h3 := by rw [q_h3]; exact (by first | exact aK | exact kK)
  have n3 : h3.next = h2.next + 1 := by simp [q_h3]
  have A3 := ((k0.trans ha1).trans ha2).trans k3
  have nn1 := ha1.1.1
  have nn2 := ha2.1.1
  have gs3 : h3.get h.next = .cells [.int .i64 (n : Int), b] true true 1 := by rw [k3.1.2 _ (by omega), ha2.1.2 _ (by omega), ha1.1.2 _ (by omega)]; exact gs0
  have gr3 : h3.get (h.next + 1) = .cells [.int .i64 0, .slice none 0 0] true true 1 := by rw [k3.1.2 _ (by omega), ha2.1.2 _ (by omega), ha1.1.2 _ (by omega)]; exact gr0
  have go3 : h3.get h2.next = .cells [.int .i64 (n : Int), d] true true 1 := by simp [q_h3]
  have hX3 := hX.old.keep A3.1
  have D : DoerN (fun (best : List Nat) (T : Nat → Prop) h' => (∀ o, T o → h3.next ≤ o ∧ o < h'.next) ∧ h'.get h.next = .cells [.int .i64 (n : Int), b] true true 1 ∧ IntsF (fun x => x < h.next) h' b (toN xs) ∧ best.length ≤ bit n ∧
      ∃ u, h'.get h2.next = .cells [.int .i64 (n : Int), u] true true 1 ∧ IntsO (fun x => Btw h1.next h2.next x ∨ T x) h' u (toN best)) (leastStep n xs) (OrdN n) h3.next (fun o => o = h2.next) 227 #[.pointer (some ⟨h.next, 0, none⟩), .pointer (some ⟨h2.next, 0, none⟩)] := {
    stab := fun s T h' h'' hp hb1 hb2 hs => by
      obtain ⟨p1, p2, p3, p4, u, p5, p6⟩ := hp
      refine ⟨fun o ho => ⟨(p1 o ho).1, by have := (p1 o ho).2; omega⟩, by rw [hs _ (by omega) (.inl (by omega))]; exact p2, p3.same ⟨hb2, fun q hq hl => hs q hl (.inl (by omega))⟩, p4, u, by rw [hs _ (by omega) (.inl (by omega))]; exact p5, p6.same ⟨hb2, fun q hq hl => hs q hl ?_⟩⟩
      rcases hq with hq | hq
      · exact .inl (by unfold Btw at hq; omega)
      · exact .inr hq
    run := fun s T h' w v hp hb1 hv hg => by
      obtain ⟨p1, p2, p3, p4, u, p5, p6⟩ := hp
      have p2 := p2
      have p5 := p5
      have key : ∃ v' h'', CallOK Try.prog 227 #[v, .pointer (some ⟨h.next, 0, none⟩), .pointer (some ⟨h2.next, 0, none⟩)] h' v' h'' ∧ ∃ h4 e, Adds h' h4 ∧ IntsO (Btw h'.next h4.next) h4 e (toN (namedN n w xs)) ∧
          h'' = if cmpL (toN (namedN n w xs)) (toN s) < 0 then h4.put h2.next (.cells [.int .i64 (n : Int), e] true true 1) else h4 := by
        refine callY_L (args := [v, .pointer (some ⟨h.next, 0, none⟩), .pointer (some ⟨h2.next, 0, none⟩)]) 13 _ [] Try.func227 rfl rfl rfl ?_
        obtain ⟨_, h4, hc4, ha4, e, rfl, he⟩ := rename_ok h' (.agg #[.int .i64 (n : Int), b]) v n xs w (.mk p3.ints) hv n7 g.lt (by omega) hg.1 hg.2
        try simp (disch := first | omega | (simp; done) | fail) [wrap64c, if_pos, if_neg, opAnd, opOr, opXor, opDiff, opShr, opBit, gs0, nt, cs, gs2, gs3, p2, p5]
        refine callG_c (by simp) (by simp) ?ha (hc4) ?_
        (case ha => simp (disch := first | omega | (simp; done) | fail) [wrap64c, if_pos, if_neg, opAnd, opOr, opXor, opDiff, opShr, opBit, gs0, nt, cs, gs2, gs3, p2, p5])
        have nt4 := he.nt
        have cs4 := he.cs
        have nn4 := ha4.1.1
        have gu4 : h4.get h2.next = .cells [.int .i64 (n : Int), u] true true 1 := by rw [ha4.1.2 _ (by omega)]; exact p5
        try simp (disch := first | omega | (simp; done) | fail) [wrap64c, if_pos, if_neg, opAnd, opOr, opXor, opDiff, opShr, opBit, gs0, nt, cs, gs2, gs3, p2, p5, nt4, cs4, gu4, putCells]
        first | refine WY_heap fun h5 q_h5 => ?_ | refine callG_heap fun h5 q_h5 => ?_ | refine callP_heap fun h5 q_h5 => ?_ | refine callS_heap fun h5 q_h5 => ?_ | refine RY_heap fun h5 q_h5 => ?_ | refine PY_heap fun h5 q_h5 => ?_ | refine SY_heap fun h5 q_h5 => ?_ | refine doneY_heap fun h5 q_h5 => ?_ | refine loopK_heap fun h5 q_h5 => ?_ | refine thenY_heap fun h5 q_h5 => ?_ | refine thenM_heap fun h5 q_h5 => ?_
        have k5 : Adds h4 h5 := by rw [q_h5]; exact (by first | exact aK | exact kK)
        have n5 : h5.next = h4.next + 1 := by simp [q_h5]
        have ge5 : h5.get h4.next = .cells [.int .i64 (n : Int), e] true true 1 := by simp [q_h5]
        have gu5 : h5.get h2.next = .cells [.int .i64 (n : Int), u] true true 1 := by rw [k5.1.2 _ (by omega)]; exact gu4
        have hu5 := (p6.keep ha4.1).keep k5.1
        have he5 := he.keep k5.1
        try simp (disch := first | omega | (simp; done) | fail) [wrap64c, if_pos, if_neg, opAnd, opOr, opXor, opDiff, opShr, opBit, gs0, nt, cs, gs2, gs3, p2, p5, nt4, cs4, gu4, ge5, gu5]
        refine callG_c (by simp) (by simp) ?ha (compare_ok h5 (.agg #[.int .i64 (n : Int), e]) (.agg #[.int .i64 (n : Int), u]) n n _ _ (.mk he5.ints) (.mk hu5.ints)) ?_
        (case ha => simp (disch := first | omega | (simp; done) | fail) [wrap64c, if_pos, if_neg, opAnd, opOr, opXor, opDiff, opShr, opBit, gs0, nt, cs, gs2, gs3, p2, p5, nt4, cs4, gu4, ge5, gu5])
        have hwr : ∀ a : Int, cmpL (toN (namedN n w xs)) (toN s) = a → True := fun _ _ => trivial
        by_cases hc : cmpL (toN (namedN n w xs)) (toN s) < 0
        · try simp (disch := first | omega | (simp; done) | fail) [wrap64c, if_pos, if_neg, opAnd, opOr, opXor, opDiff, opShr, opBit, gs0, nt, cs, gs2, gs3, p2, p5, nt4, cs4, gu4, ge5, gu5, hc, putCells]
          exact done_end rfl ⟨h5, e, ha4.trans k5, he5.sub fun o ho => ⟨ho.1, by have := ho.2; omega⟩, by simp [hc]⟩
        · try simp (disch := first | omega | (simp; done) | fail) [wrap64c, if_pos, if_neg, opAnd, opOr, opXor, opDiff, opShr, opBit, gs0, nt, cs, gs2, gs3, p2, p5, nt4, cs4, gu4, ge5, gu5, hc, putCells]
          exact done_end rfl ⟨h5, e, ha4.trans k5, he5.sub fun o ho => ⟨ho.1, by have := ho.2; omega⟩, by simp [hc]⟩
      obtain ⟨q, h'', hc3, h4, e, ha4, he4, heq⟩ := key
      have nn4 := ha4.1.1
      by_cases hc : cmpL (toN (namedN n w xs)) (toN s) < 0
      · rw [if_pos hc] at heq
        subst heq
        refine ⟨q, _, hc3, (Wr.of_adds ha4).put (.inl rfl) fun _ => rfl, Btw h'.next h4.next, ⟨fun o ho => ⟨by have := ho.1; omega, ho.2⟩, ?_, ?_, leastStep_len p4, e, by simp, ?_⟩, fun o ho => ⟨.inr ho.1, ho.2⟩⟩
        · simp [show h.next ≠ h2.next by omega]
          rw [ha4.1.2 _ (by omega)]; exact p2
        · exact (p3.keep ha4.1).same ⟨by simp, fun x hx hl => by simp [show x ≠ h2.next by omega]⟩
        · rw [leastStep, if_pos hc]
          exact (he4.same (Same.put (Same.refl _ _) (by unfold Btw; omega) _)).sub fun o ho => .inr ho
      · rw [if_neg hc] at heq
        subst heq
        refine ⟨q, _, hc3, .of_adds ha4, T, ⟨fun o ho => ⟨(p1 o ho).1, by have := (p1 o ho).2; omega⟩, ?_, p3.keep ha4.1, leastStep_len p4, u, ?_, ?_⟩, fun o ho => ⟨.inl ho, by have := (p1 o ho).2; omega⟩⟩
        · rw [ha4.1.2 _ (by omega)]; exact p2
        · rw [ha4.1.2 _ (by omega)]; exact p5
        · rw [leastStep, if_neg hc]
          exact p6.keep ha4.1
    low := fun o ho => by omega
    fn := by simp }
  try simp (disch := first | omega | (simp; done) | fail) [wrap64c, if_pos, if_neg, opAnd, opOr, opXor, opDiff, opShr, opBit, gs0, nt, cs, gs2, gs3]
  obtain ⟨q, h4, hc4, W4, T4, P4, hT4⟩ := orders_ok _ _ _ _ _ _ _ D n g.n1 n7 h3 xs ⟨fun _ hf => hf.elim, gs3, hX3, g.len, d, go3, (hd.keep k3.1).sub fun o ho => .inl ⟨by have := ho.1; omega, ho.2⟩⟩ (Nat.le_refl _) (ordN_perms n)
  refine callG_c (by simp) (by simp) ?ha (hc4) ?_
  (case ha => simp (disch := first | omega | (simp; done) | fail) [wrap64c, if_pos, if_neg, opAnd, opOr, opXor, opDiff, opShr, opBit, gs0, nt, cs, gs2, gs3])
  obtain ⟨p1, p2, p3, p4, u4, p5, p6⟩ := P4
  have p5 := p5
  have gr4 : h4.get (h.next + 1) = .cells [.int .i64 0, .slice none 0 0] true true 1 := by rw [W4.upd.2 _ (by omega) (by omega)]; exact gr3
  have nt4 := p6.nt
  have cs4 := p6.cs
  try simp (disch := first | omega | (simp; done) | fail) [wrap64c, if_pos, if_neg, opAnd, opOr, opXor, opDiff, opShr, opBit, gs0, nt, cs, gs2, gs3, p5, gr4, nt4, cs4, putCells]
  have nn4 := W4.upd.1
  have A4 : Adds h h4 := A3.wr W4 fun o ho => by omega
  refine done_ret (by simp [putCells]; rfl) ⟨(by first | exact aK | exact kK), u4, by simp, ?_⟩
  refine (p6.same (Same.put (Same.refl _ _) ?_ _)).sub fun o ho => ?_
  · rintro (h | h)
    · unfold Btw at h; omega
    · have := (hT4 _ h).1; omega
  · rcases ho with ho | ho
    · unfold Btw at ho; exact ⟨by omega, by simp; omega⟩
    · exact ⟨by have := (hT4 _ ho).1; omega, by simpa using (hT4 _ ho).2⟩
theorem alLeast_ok (h : Hp) (v : Value) (n : Nat) (xs : List Nat) (hv : Space h v n (toN xs)) (g : SpGood n xs) :
    ∃ v' h', CallOK Try.prog 151 #[v] h v' h' ∧ Adds h h' ∧ IntsO (Btw h.next h'.next) h' v' (toN (leastN n xs)) := by
  refine callY_L (args := [v]) 27 _ [.tmp 2] Try.func151 rfl rfl rfl ?_
  obtain ⟨b, rfl, hX⟩ := hv
  have n7 := g.n7
  have hb7 := bit7 n7
  have hl7 := g.len7
  try simp (disch := first | omega | (simp; done) | fail) [wrap64c, if_pos, if_neg, opAnd, opOr, opXor, opDiff, opShr, opBit]
  first | refine WY_heap fun h0 q_h0 => ?_ | refine callG_heap fun h0 q_h0 => ?_ | refine callP_heap fun h0 q_h0 => ?_ | refine callS_heap fun h0 q_h0 => ?_ | refine RY_heap fun h0 q_h0 => ?_ | refine PY_heap fun h0 q_h0 => ?_ | refine SY_heap fun h0 q_h0 => ?_ | refine doneY_heap fun h0 q_h0 => ?_ | refine loopK_heap fun h0 q_h0 => ?_ | refine thenY_heap fun h0 q_h0 => ?_ | refine thenM_heap fun h0 q_h0 => ?_
  have k0 : Adds h h0 := by rw [q_h0]; exact (by first | exact aK | exact kK)
  have n0 : h0.next = h.next + 1 := by simp [q_h0]
  have gs0 : h0.get h.next = .cells [.int .i64 (n : Int), b] true true 1 := by simp [q_h0]
  have hX0 := hX.keep k0.1
  obtain ⟨u, h1, hc1, ha1, hG1⟩ := alOrders_ok n n7 n h0 (.slice none 0 0) [] (nilInts h0) (by simp)
  try simp (disch := first | omega | (simp; done) | fail) [wrap64c, if_pos, if_neg, opAnd, opOr, opXor, opDiff, opShr, opBit, gs0]
  refine callG_c (by simp) (by simp) ?ha (hc1) ?_
  (case ha => simp (disch := first | omega | (simp; done) | fail) [wrap64c, if_pos, if_neg, opAnd, opOr, opXor, opDiff, opShr, opBit, gs0])
  obtain ⟨L, hLe⟩ : ∃ L, L = permsF n n [] := ⟨_, rfl⟩
  have hLl : L.length ≤ 823543 := by rw [hLe]; exact perms_lt n7 n n7 []
  have hLg : ∀ w ∈ L, OrdN n w := by rw [hLe]; exact ordN_perms n
  rw [← hLe] at hG1
  have hR1 := (hG1.read (by rw [rowsN_length]; omega)).rows
  have hM := hR1.lenD
  have hln := rowsN_length L
  have g1 : h1.get h.next = .cells [.int .i64 (n : Int), b] true true 1 := by rw [ha1.1.2 _ (by omega)]; exact gs0
  have A1 := k0.trans ha1
  try simp (disch := first | omega | (simp; done) | fail) [wrap64c, if_pos, if_neg, opAnd, opOr, opXor, opDiff, opShr, opBit, gs0, hM, hln]
  refine WD_loopC [1, 11, 12] (fun m tm h' => ∃ j u, m = L.length - j ∧ tm 3 = u ∧ tm 13 = .int .i64 (j : Int) ∧ (j ≤ L.length) ∧ (Adds h1 h') ∧ (Ints h' u (toN ((L.take j).foldl (leastStep n xs) xs)))) _ ⟨0, b, rfl, (by simp (disch := first | omega | (simp; done) | fail) [wrap64c, if_pos, if_neg, opAnd, opOr, opXor, opDiff, opShr, opBit, gs0, hM, hln]), (by simp (disch := first | omega | (simp; done) | fail) [wrap64c, if_pos, if_neg, opAnd, opOr, opXor, opDiff, opShr, opBit, gs0, hM, hln]), (by first | omega | assumption | (simp (disch := first | omega | (simp; done) | fail) [wrap64c, if_pos, if_neg, opAnd, opOr, opXor, opDiff, opShr, opBit, gs0, hM, hln] <;> omega)), (adds_self _), (by simpa using hX0.keep ha1.1)⟩ ?_
  rintro m tm h' hFr ⟨j, u, rfl, e3, e13, hj, ha, hu⟩
  simp only [FrameL] at hFr
  obtain ⟨f1_0, f11_0, f12_0, -⟩ := hFr
  try simp (disch := first | omega | (simp; done) | fail) [wrap64c, if_pos, if_neg, opAnd, opOr, opXor, opDiff, opShr, opBit, gs0, hM, hln] at f1_0 f11_0 f12_0
  have e1 := f1_0
  have e11 := f11_0
  have e12 := f12_0
  have g2 : h'.get h.next = .cells [.int .i64 (n : Int), b] true true 1 := by rw [ha.1.2 _ (by have := ha1.1.1; omega)]; exact g1
  have hfl := leastFold_len (n := n) (xs := xs) (L.take j) xs g.len
  by_cases hlt : j < L.length
  · obtain ⟨o_x, i_x, c_x, cs_x, own_x, ex_x, es_x, us_x, q_x, b_x, g_x, l_x, r_x, R_x⟩ := (hR1.keep ha.1).open ((by omega))
    have z_x : ∀ h2 : i_x < cs_x.length, cs_x[i_x] = _ := fun h2 => r_x 0 ((by omega)) h2
    have hw := R_x j (by omega)
    have hwe : (rowsN L)[j]'(by simp; omega) = toN L[j] := by simp [rowsN]
    rw [hwe] at hw
    obtain ⟨w1, w2⟩ := hLg _ (List.getElem_mem hlt)
    have hs : (L.take (j + 1)).foldl (leastStep n xs) xs = leastStep n xs ((L.take j).foldl (leastStep n xs) xs) L[j] := by
      rw [List.take_succ_eq_append_getElem hlt, List.foldl_append]; rfl
    rename Hp => hq
    obtain ⟨u2, h2, hc2, ha2, hA2⟩ := alNamed_ok hq (.agg #[.int .i64 (n : Int), b]) (us_x j) n xs L[j] (.mk ((hX0.keep ha1.1).keep ha.1)) hw (by omega) g.lt7 (by omega) (fun k hk => by have := w2 k hk; omega)
    rw [putAll_named (n := n) w2] at hA2
    have hnl := named_len n L[j] xs
    have hI2 := (hA2.own (by simp; omega)).ints
    try simp (disch := first | omega | (simp; done) | fail) [wrap64c, if_pos, if_neg, opAnd, opOr, opXor, opDiff, opShr, opBit, gs0, hM, hln, e1, e3, e11, e12, e13, g2, hlt, q_x, g_x, l_x, r_x, z_x]
    refine callG_c (by simp) (by simp) ?ha (hc2) ?_
    (case ha => simp (disch := first | omega | (simp; done) | fail) [wrap64c, if_pos, if_neg, opAnd, opOr, opXor, opDiff, opShr, opBit, gs0, hM, hln, e1, e3, e11, e12, e13, g2, hlt, q_x, g_x, l_x, r_x, z_x])
    try simp (disch := first | omega | (simp; done) | fail) [wrap64c, if_pos, if_neg, opAnd, opOr, opXor, opDiff, opShr, opBit, gs0, hM, hln, e1, e3, e11, e12, e13, g2, hlt, q_x, g_x, l_x, r_x, z_x]
    refine callG_c (by simp) (by simp) ?ha (alBefore_ok h2 u2 u _ _ hI2 (hu.keep ha2.1)) ?_
    (case ha => simp (disch := first | omega | (simp; done) | fail) [wrap64c, if_pos, if_neg, opAnd, opOr, opXor, opDiff, opShr, opBit, gs0, hM, hln, e1, e3, e11, e12, e13, g2, hlt, q_x, g_x, l_x, r_x, z_x])
    by_cases hc : cmpL (toN (namedN n L[j] xs)) (toN ((L.take j).foldl (leastStep n xs) xs)) < 0
    · rw [leastStep, if_pos hc] at hs
      try simp (disch := first | omega | (simp; done) | fail) [wrap64c, if_pos, if_neg, opAnd, opOr, opXor, opDiff, opShr, opBit, gs0, hM, hln, e1, e3, e11, e12, e13, g2, hlt, q_x, g_x, l_x, r_x, z_x, hc]
      refine loopK_next _ ?hm ?hf ⟨j + 1, u2, rfl, (by simp (disch := first | omega | (simp; done) | fail) [wrap64c, if_pos, if_neg, opAnd, opOr, opXor, opDiff, opShr, opBit, gs0, hM, hln, e1, e3, e11, e12, e13, g2, hlt, q_x, g_x, l_x, r_x, z_x, hc] <;> omega), (by simp (disch := first | omega | (simp; done) | fail) [wrap64c, if_pos, if_neg, opAnd, opOr, opXor, opDiff, opShr, opBit, gs0, hM, hln, e1, e3, e11, e12, e13, g2, hlt, q_x, g_x, l_x, r_x, z_x, hc] <;> omega), (by first | omega | assumption | (simp (disch := first | omega | (simp; done) | fail) [wrap64c, if_pos, if_neg, opAnd, opOr, opXor, opDiff, opShr, opBit, gs0, hM, hln, e1, e3, e11, e12, e13, g2, hlt, q_x, g_x, l_x, r_x, z_x, hc] <;> omega)), (ha.trans ha2), (by rw [hs]; exact hI2)⟩
      (case hm => first | omega | (simp; omega))
      (case hf => simp [FrameL, gs0, hM, hln, e1, e3, e11, e12, e13, g2, hlt, q_x, g_x, l_x, r_x, z_x, hc, f1_0, f11_0, f12_0])
    · rw [leastStep, if_neg hc] at hs
      try simp (disch := first | omega | (simp; done) | fail) [wrap64c, if_pos, if_neg, opAnd, opOr, opXor, opDiff, opShr, opBit, gs0, hM, hln, e1, e3, e11, e12, e13, g2, hlt, q_x, g_x, l_x, r_x, z_x, hc]
      refine loopK_next _ ?hm ?hf ⟨j + 1, u, rfl, (by simp (disch := first | omega | (simp; done) | fail) [wrap64c, if_pos, if_neg, opAnd, opOr, opXor, opDiff, opShr, opBit, gs0, hM, hln, e1, e3, e11, e12, e13, g2, hlt, q_x, g_x, l_x, r_x, z_x, hc] <;> omega), (by simp (disch := first | omega | (simp; done) | fail) [wrap64c, if_pos, if_neg, opAnd, opOr, opXor, opDiff, opShr, opBit, gs0, hM, hln, e1, e3, e11, e12, e13, g2, hlt, q_x, g_x, l_x, r_x, z_x, hc] <;> omega), (by first | omega | assumption | (simp (disch := first | omega | (simp; done) | fail) [wrap64c, if_pos, if_neg, opAnd, opOr, opXor, opDiff, opShr, opBit, gs0, hM, hln, e1, e3, e11, e12, e13, g2, hlt, q_x, g_x, l_x, r_x, z_x, hc] <;> omega)), (ha.trans ha2), (by rw [hs]; exact hu.keep ha2.1)⟩
      (case hm => first | omega | (simp; omega))
      (case hf => simp [FrameL, gs0, hM, hln, e1, e3, e11, e12, e13, g2, hlt, q_x, g_x, l_x, r_x, z_x, hc, f1_0, f11_0, f12_0])
  · have hft : L.take j = L := List.take_of_length_le (by omega)
    rw [hft] at hu hfl
    try simp (disch := first | omega | (simp; done) | fail) [wrap64c, if_pos, if_neg, opAnd, opOr, opXor, opDiff, opShr, opBit, gs0, hM, hln, e1, e3, e11, e12, e13, g2, hlt]
    obtain ⟨u3, h3, hc3, ha3, hi3, _⟩ := l1Own_ok h' u _ hu (by simp; omega)
    refine callG_c (by simp) (by simp) ?ha (hc3) ?_
    (case ha => simp (disch := first | omega | (simp; done) | fail) [wrap64c, if_pos, if_neg, opAnd, opOr, opXor, opDiff, opShr, opBit, gs0, hM, hln, e1, e3, e11, e12, e13, g2, hlt])
    try simp (disch := first | omega | (simp; done) | fail) [wrap64c, if_pos, if_neg, opAnd, opOr, opXor, opDiff, opShr, opBit, gs0, hM, hln, e1, e3, e11, e12, e13, g2, hlt]
    have hn1 := (A1.trans ha).1.1
    refine done_ret rfl ⟨(A1.trans ha).trans ha3, ?_⟩
    rw [leastN, ← hLe]
    exact hi3.sub fun o ho => ⟨by have := ho.1; omega, ho.2⟩
noncomputable def leastRN (N : Int) (X : List Int) : Int := if fewB N X = true then N else 0
noncomputable def leastRX (N : Int) (X : List Int) : List Int := if fewB N X = true then toN (leastN N.toNat (natsOf X)) else []
end Go.Proofs.Ytnncipcldbopgaa
namespace Go.Eng
open Go.Proofs
theorem step_grow {E : Emb} {base : Nat} {h : Hp} {w : World} (os : Array Obj) (hr : HRel E base h w.heap) : Step E h w E h (Sort.grow w os) ∧ HRel E base h (Sort.grow w os).heap := by
  have old : ∀ b, b < w.heap.size → (Sort.grow w os).heap[b]? = w.heap[b]? := fun b hb => Sort.heap_grow_old w os hb
  refine ⟨⟨Nat.le_refl _, fun _ _ => ⟨Iff.rfl, rfl, rfl, rfl⟩, rfl, rfl, ⟨rfl, Nat.le_refl _⟩, by simp, fun b hb _ => old b hb, fun o hd ho => .inl ⟨o, hd, ho, rfl⟩⟩, ⟨?_, hr.lt, ?_, hr.sep⟩⟩
  · simp; have := hr.le; omega
  · intro o hd
    cases hx : h.get o with
    | dead => trivial
    | _ =>
      have h0 := hr.obj o hd
      have hb := h0.block (by rw [hx]; rfl)
      rw [hx] at h0
      exact h0.mono (fun o ho => ⟨ho, rfl, rfl, rfl⟩) hd (old _ hb)
def roObj : AObj → AObj
  | .cells c _ ex es => .cells c false ex es
  | _ => .dead
def roHp (o : Nat) (h : Hp) : Hp := ⟨fun p => if p = o then .dead else roObj (h.get p), h.next⟩
theorem roObj_owned (x : AObj) : (roObj x).owned = false := by cases x <;> rfl
theorem roHp_owned (o : Nat) (h : Hp) (p : Nat) : ((roHp o h).get p).owned = false := by
  simp only [roHp]
  split
  · rfl
  · exact roObj_owned _
theorem roHp_rel {E : Emb} {base : Nat} {h : Hp} {H H' : Array Obj} {o : Nat} (hr : HRel E base h H) (hd : E.D o) (hown : (h.get o).owned = true) (hsz : H.size ≤ H'.size) (hh : ∀ b, b < H.size → b ≠ E.blk o → H'[b]? = H[b]?) : HRel E base (roHp o h) H' where
  le := Nat.le_trans hr.le hsz
  lt := hr.lt
  obj p hp := by
    by_cases e : p = o
    · simp [roHp, e]; trivial
    · have h0 := hr.obj p hp
      simp only [roHp, e, if_false]
      cases hx : h.get p with
      | dead => trivial
      | map es => trivial
      | cells c own ex es =>
        rw [hx] at h0
        have hb := h0.block rfl
        have hne : E.blk p ≠ E.blk o := fun e2 => hr.sep o p hd hp (fun q => e q.symm) hown (by rw [hx]; rfl) e2.symm
        obtain ⟨C, ty, fz, g1, g2, g3, g4, g5, g6⟩ := h0
        exact ⟨C, ty, fz, by rw [hh _ hb hne]; exact g1, g2, g3, g4, fun q => (by cases q), g6⟩
  sep p q hp hq hne ho := by rw [roHp_owned] at ho; cases ho
theorem call_grown {P : Program} {f : FuncId} {args : Array Value} {h : Hp} {v : Value} (hc : CallOK P f args h v h) {E : Emb} {base : Nat} {w : World} {args' : Array Value} (hr : HRel E base h w.heap) (hno : ∀ p, (h.get p).owned = false) (hv : plainV v = true)
    (hs : args.size = args'.size) (ha : ∀ i, i < args.size → VRel E (args.getD i undef) (args'.getD i undef)) :
    Calls P f args' w fun e w' => (∃ v', e = .returned v' ∧ VRel E v v') ∧ ∃ q os', w' = Sort.grow (w.drewN q) os' := by
  refine (hc E base w args' hr hs ha).mono ?_
  rintro e w' ⟨E', v', he, st, hr', hvr⟩
  have hvv : VRel E v v' := VRel.back (E := E) (E' := E') (fun o hd => (st.ext o (hr.lt o hd)).2) (VRel.ofV E hv) hvr
  refine ⟨⟨v', he, hvv⟩, w'.drawn - w.drawn, w'.heap.extract w.heap.size w'.heap.size, ?_⟩
  have hheap : w'.heap = w.heap ++ w'.heap.extract w.heap.size w'.heap.size := by
    apply Array.ext_getElem?
    intro i
    rw [Array.getElem?_append]
    split
    · rename_i hi
      exact st.keep i hi fun o _ ho => by rw [hno] at ho; cases ho
    · rename_i hi
      rw [Array.getElem?_extract]
      have := st.size
      by_cases h2 : i < w'.heap.size
      · rw [if_pos (by omega), show w.heap.size + (i - w.heap.size) = i by omega]
      · rw [if_neg (by omega), Array.getElem?_eq_none (by omega)]
  have hd := st.output.drawn
  cases w' with
  | mk heap' tape' drawn' os' output' =>
    cases w with
    | mk heap tape drawn os output =>
      simp only [Sort.grow, World.drewN] at *
      have e1 := st.tape; have e2 := st.os; have e3 := st.output.out
      simp only at e1 e2 e3
      subst e1 e2 e3
      congr 1
      omega
theorem flat2_get {β : Type} (f : β → List Value) (hf : ∀ x, (f x).length = 2) : ∀ (l : List β) (j : Nat) (hj : j / 2 < l.length), (l.flatMap f).getD j undef = (f l[j / 2]).getD (j % 2) undef
  | [], j, hj => by simp at hj
  | a :: l, j, hj => by
    have ha := hf a
    rw [List.flatMap_cons]
    by_cases h2 : j < 2
    · have e0 : j / 2 = 0 := by omega
      have e1 : j % 2 = j := by omega
      simp only [e0, List.getElem_cons_zero, e1]
      exact getD_append_left (by omega)
    · have e0 : j / 2 = (j - 2) / 2 + 1 := by omega
      have e1 : j % 2 = (j - 2) % 2 := by omega
      rw [getD_append_right (by omega), ha]
      simp only [e0, e1, List.getElem_cons_succ]
      exact flat2_get f hf l (j - 2) (by simp at hj; omega)
theorem flat2_len {β : Type} (f : β → List Value) (hf : ∀ x, (f x).length = 2) : ∀ (l : List β), (l.flatMap f).length = l.length * 2
  | [] => rfl
  | a :: l => by rw [List.flatMap_cons, List.length_append, hf, flat2_len f hf l, List.length_cons]; omega
theorem flat2_chunk {β : Type} (f : β → List Value) (hf : ∀ x, (f x).length = 2) : ∀ (l : List β) (k : Nat) (hk : k < l.length), chunk 2 (l.flatMap f) k = f l[k]
  | [], k, hk => by simp at hk
  | a :: l, 0, hk => by
    rw [List.flatMap_cons, chunk_app1 (n := 1) (by rw [hf]) (by omega)]
    exact chunk_all (hf a)
  | a :: l, k + 1, hk => by
    rw [List.flatMap_cons, chunk_app2 (n := 1) (by rw [hf]) (by omega)]
    exact flat2_chunk f hf l k (by simpa using hk)
theorem chunk_getD {cs : List Value} {i c : Nat} (hc : c < 2) : (chunk 2 cs i).getD c undef = cs.getD (i * 2 + c) undef := by
  unfold chunk
  rw [List.getD_eq_getElem?_getD, List.getElem?_take, if_pos hc, List.getElem?_drop, List.getD_eq_getElem?_getD]
def enc2 {m : Nat} (C : Array Value) (off : Nat) (i : Fin m) : List Value := [C.getD (off + i.val * 2) undef, C.getD (off + (i.val * 2 + 1)) undef]
theorem enc2_get {m : Nat} (C : Array Value) (off : Nat) (i : Fin m) (c : Nat) (hc : c < 2) : (enc2 C off i)[c]! = C.getD (off + (i.val * 2 + c)) undef := by
  rcases Nat.lt_or_ge c 1 with h | h
  · have : c = 0 := by omega
    subst this; rfl
  · have : c = 1 := by omega
    subst this; rfl
section
open Go.Sort Go.Shelf
variable {α : Type} {R R' : (Nat → Prop) → Hp → List Value → α → Prop}
set_option maxHeartbeats 4000000 in
theorem sortF_ok {P : Program} {ρ : Go.Shelf.Ren} (Ly : SlLaysF0.n6 P ρ) (aE : ∀ w, (isAgg (ρ.t 24)).run P w = .ok true w) (zE : ∀ w, (Go.sizeOf (ρ.t 24)).run P w = .ok 2 w) {g : Nat} (eg : ∀ args w, (callFunc g args).run P w = .ok (.enter g args) w)
    (hR : Steady R) (cf : α → α → Int) (hO : SWO (ltOf cf)) {n : Nat} {h : Hp} {v : Value} {L : List α} (hs : GL 2 R n h v L) (hne : L ≠ []) (hl : L.length < 2 ^ 40)
    (hro : ∀ F o u x, R F h u x → (∀ p, F p → p ≠ o) → R' F (roHp o h) u x)
    (hcmp : ∀ h' F a b x y, R' F h' a x → R' F h' b y → CallOK P g #[.agg a.toArray, .agg b.toArray] h' (.int .i64 (cf x y)) h')
    (hd : ∀ i j (hi : i < L.length) (hj : j < L.length), ltOf cf L[i] L[j] = false → ltOf cf L[j] L[i] = false → i = j) :
    ∃ h', CallOK P (ρ.f 6) #[v, .func (.func g) #[] #[]] h (.tuple #[]) h' ∧ GL 2 R n h' v (L.mergeSort fun x y => !(ltOf cf y x)) ∧ h'.next = h.next ∧ (∀ a, Adds a h → a.next ≤ n → Adds a h') ∧ ∀ o, o < n → h'.get o = h.get o := by
  rcases hs with ⟨e, _⟩ | ⟨o, ex, cs, rfl, g1, g2, g3, g4, g5⟩
  · exact absurd e hne
  have hm : 0 < L.length := List.length_pos_iff.2 hne
  generalize hI : ((List.finRange L.length).mergeSort fun i j => !(ltOf (fun a b : Fin L.length => cf L[a] L[b]) j i)) = I
  have hIl : I.length = L.length := by rw [← hI, List.length_mergeSort, List.length_finRange]
  have hL : (L.mergeSort fun x y => !(ltOf cf y x)) = I.map fun i => L[i] := by
    have hmm := List.map_mergeSort (r := fun i j : Fin L.length => !(ltOf (fun a b : Fin L.length => cf L[a] L[b]) j i)) (s := fun x y => !(ltOf cf y x)) (f := fun i : Fin L.length => L[i]) (l := List.finRange L.length) (fun a _ b _ => rfl)
    subst hI
    rw [hmm]
    congr 1
    apply List.ext_getElem
    · simp
    · intro i h1 h2; simp
  have hck : ∀ i : Fin L.length, (chunk 2 cs i.val).length = 2 := fun i => by
    have := i.isLt
    unfold chunk; simp; omega
  have hcl := flat2_len (fun i : Fin L.length => chunk 2 cs i.val) hck I
  refine ⟨h.put o (.cells (I.flatMap fun i => chunk 2 cs i.val) true ex 2), ?_, .inr ⟨o, ex, I.flatMap fun i => chunk 2 cs i.val, by simp, g1, g2, by simp [Hp.put], by rw [hcl, hIl]; simp, fun k hk => ?_⟩, rfl, ?_, ?_⟩
  · intro E base w args' hr h1 h2
    have hargs : args' = #[args'.getD 0 undef, args'.getD 1 undef] := by
      apply Array.ext
      · simpa using h1.symm
      · intro i h3 h4
        have : i < 2 := by simpa using h4
        rcases Nat.lt_or_ge i 1 with h | h
        · have : i = 0 := by omega
          subst this; simp [Array.getD_eq_getD_getElem?, h3]
        · have : i = 1 := by omega
          subst this; simp [Array.getD_eq_getD_getElem?, h3]
    have v0 := h2 0 (by simp)
    have v1 := h2 1 (by simp)
    have hform : ∃ sl, args'.getD 0 undef = .slice (some ⟨E.blk o, E.off o, none⟩) L.length sl ∧ E.D o := by
      simp only [Array.getD_eq_getD_getElem?] at v0 ⊢
      generalize (args'[0]?).getD undef = u at v0
      simp at v0
      cases v0 with
      | slice o i n c a hD hn ha =>
        rcases ha with ha | ha
        · omega
        · subst ha; exact ⟨_, rfl, hD⟩
    have hf1 : args'.getD 1 undef = .func (.func g) #[] #[] := by
      simp only [Array.getD_eq_getD_getElem?] at v1 ⊢
      generalize (args'[1]?).getD undef = u at v1
      simp at v1
      obtain ⟨f', c', rfl, hs1, hs2, _⟩ := v1.inv_func
      have e1 : f' = #[] := Array.eq_empty_of_size_eq_zero (by simpa using hs1.symm)
      have e2 : c' = #[] := Array.eq_empty_of_size_eq_zero (by simpa using hs2.symm)
      rw [e1, e2]
    obtain ⟨sl, e2, hD⟩ := hform
    rw [hargs, e2, hf1]
    have ho := hr.obj o hD
    rw [g3] at ho
    obtain ⟨C, ty, fz, c1, c2, c3, c4, c5, c6⟩ := ho
    obtain ⟨c5, c7⟩ := c5 rfl
    subst c5
    have hown : (h.get o).owned = true := by rw [g3]; rfl
    have hblk : E.blk o < w.heap.size := (Array.getElem?_eq_some_iff.1 c1).1
    haveI : Inhabited (Fin L.length) := ⟨⟨0, hm⟩⟩
    have hek : ∀ x : Fin L.length, (enc2 C (E.off o) x).length = 2 := fun _ => rfl
    have hone : ∀ x : Fin L.length, ∀ c ∈ enc2 C (E.off o) x, c.oneCell' = true := by
      intro x c hc
      have hx := x.isLt
      simp only [enc2, List.mem_cons, List.not_mem_nil, or_false] at hc
      rcases hc with rfl | rfl
      · rw [(c3 (x.val * 2) (by omega)).oneCell]; exact c4 _ (by omega)
      · rw [(c3 (x.val * 2 + 1) (by omega)).oneCell]; exact c4 _ (by omega)
    have hrel : ∀ x : Fin L.length, VRel E (.agg (chunk 2 cs x.val).toArray) (.agg (enc2 C (E.off o) x).toArray) := by
      intro x
      have hx := x.isLt
      have key : ∀ c, c < 2 → (chunk 2 cs x.val).toArray.getD c undef = cs.getD (x.val * 2 + c) undef ∧ (enc2 C (E.off o) x).toArray.getD c undef = C.getD (E.off o + (x.val * 2 + c)) undef := fun c hc => by
        refine ⟨?_, ?_⟩
        · have := chunk_getD (cs := cs) (i := x.val) hc
          simpa using this
        · have := enc2_get C (E.off o) x c hc
          rw [← this]
          rcases Nat.lt_or_ge c 1 with h | h
          · have : c = 0 := by omega
            subst this; rfl
          · have : c = 1 := by omega
            subst this; rfl
      refine .agg _ _ (by simp [hck, hek]) (fun i hi => ?_) (fun i hi => ?_)
      · have hi2 : i < 2 := by simpa [hck] using hi
        rw [(key i hi2).1]; exact c4 _ (by omega)
      · have hi2 : i < 2 := by simpa [hck] using hi
        rw [(key i hi2).1, (key i hi2).2]; exact c3 _ (by omega)
    have hblocks : ∀ (mm : Nat) (dk : Array (Fin L.length)) (os : Array Obj) b, b < w.heap.size → b ≠ E.blk o → (sortWorldK (enc2 C (E.off o)) 2 w (E.blk o) (E.off o) mm dk os).heap[b]? = w.heap[b]? := by
      intro mm dk os b hb hne
      unfold sortWorldK
      rw [Sort.heap_grow_old _ _ (by rw [size_putRowK]; exact hb)]
      simp only [putRowK, Go.Sort.putRow, Go.Sort.mapBlock, Sort.heap_ahead, Array.getElem?_modify]
      rw [if_neg (fun e => hne e.symm)]
    have hcl2 : CmpLays P g #[] (enc2 C (E.off o)) 2 (fun a b : Fin L.length => cf L[a] L[b]) (E.blk o) (E.off o) (List.finRange L.length).toArray.size w := by
      intro mm os dk hdk x y
      have hx := g5 x.val x.isLt
      have hy := g5 y.val y.isLt
      have hx2 := hro _ o _ _ hx (fun p hp => hp.2)
      have hy2 := hro _ o _ _ hy (fun p hp => hp.2)
      have hW : HRel E base (roHp o h) (sortWorldK (enc2 C (E.off o)) 2 w (E.blk o) (E.off o) mm dk os).heap := roHp_rel hr hD hown (size_sortWorldK_c _ _ _ _ _ _ _ _) fun b hb hne => hblocks mm dk os b hb hne
      refine (call_grown (hcmp (roHp o h) _ _ _ _ _ hx2 hy2) hW (roHp_owned o h) rfl (args' := #[.agg (enc2 C (E.off o) x).toArray, .agg (enc2 C (E.off o) y).toArray] ++ #[]) rfl (fun i hi => ?_)).mono ?_
      · have hi2 : i < 2 := by simpa using hi
        rcases Nat.lt_or_ge i 1 with h | h
        · have : i = 0 := by omega
          subst this; exact hrel x
        · have : i = 1 := by omega
          subst this; exact hrel y
      · rintro e w' ⟨⟨v', he, hv'⟩, q, os', hw'⟩
        rw [hv'.inv_int] at he
        exact ⟨he, q, os', hw'⟩
    have hHK : HoldsK (enc2 C (E.off o)) 2 w (E.blk o) (E.off o) (List.finRange L.length).toArray := by
      intro j hj
      have hj' : j < L.length * 2 := by simpa using hj
      rw [get_flatK _ _ _ _ (by simpa using hj'), enc2_get _ _ _ _ (Nat.mod_lt _ (by omega))]
      have hdj : ((List.finRange L.length).toArray[j / 2]!).val = j / 2 := by
        rw [getElem!_pos _ _ (by simp; omega)]; simp
      rw [hdj, show j / 2 * 2 + j % 2 = j by omega]
      have hc : E.off o + j < C.size := by omega
      refine ⟨?_, by simp [World.frozen?, c1]⟩
      simp only [World.cell?, c1, Array.getD_eq_getD_getElem?, Array.getElem?_eq_getElem hc]
      rfl
    have hsz : (List.finRange L.length).toArray.size = L.length := by simp
    have hO2 : SWO (ltOf fun a b : Fin L.length => cf L[a] L[b]) := ⟨fun a => hO.irrefl L[a], fun a b c => hO.trans L[a] L[b] L[c], fun a b c => hO.ntrans L[a] L[b] L[c]⟩
    have hsort0 := AnyQ.slices_SortFunc Ly 2 aE zE (enc2 C (E.off o)) hek hone (fun a b : Fin L.length => cf L[a] L[b]) hO2 g #[] (E.blk o) (E.off o) sl (List.finRange L.length).toArray w eg hcl2 hHK hblk (by simp; omega)
    have hT : ∀ x y : Fin L.length, ltOf (fun a b : Fin L.length => cf L[a] L[b]) x y = false → ltOf (fun a b : Fin L.length => cf L[a] L[b]) y x = false → x = y := fun x y h1 h2 => Fin.ext (hd x.val y.val x.isLt y.isLt h1 h2)
    simp only [hsz] at hsort0
    refine hsort0.mono ?_
    rintro e w' ⟨rfl, d', mm, os, hp, hss, rfl⟩
    have hd' : d' = I.toArray := by
      have := sorted_unique_holds hO2 hT (List.finRange L.length).toArray d' (by rw [hsz]; exact hp) (by rw [hsz]; exact hss)
      rw [List.toList_toArray, hI] at this
      rw [← this]
    subst hd'
    have hfs : (flatK (enc2 C (E.off o)) 2 I.toArray).size = L.length * 2 := by simp [hIl]
    have step1 := step_put (w' := putRowK (enc2 C (E.off o)) 2 (Sort.ahead w mm) (E.blk o) (E.off o) I.toArray) hr o (.cells (I.flatMap fun i => chunk 2 cs i.val) true ex 2) hD hown (by rw [size_putRowK]; simp)
      (fun b hb => by
        simp only [putRowK, Go.Sort.putRow, Go.Sort.mapBlock, Sort.heap_ahead, Array.getElem?_modify]
        rw [if_neg (fun e => hb e.symm)]) rfl rfl ⟨rfl, Nat.le_add_right _ _⟩
      ⟨Go.Sort.putCells id (E.off o) (flatK (enc2 C (E.off o)) 2 I.toArray) C, ty, (0, 0), by simp [putRowK, Go.Sort.putRow, Go.Sort.mapBlock, Array.getElem?_modify, c1, Go.Sort.onCells], by
        rw [hcl, hIl]; simp only [Go.Sort.putCells, Array.size_mapIdx]; omega, fun j hj => by
        rw [hcl, hIl] at hj
        have hj2 : j / 2 < I.length := by omega
        have hi := (I[j / 2]).isLt
        rw [flat2_get _ hck I j hj2, chunk_getD (Nat.mod_lt _ (by omega))]
        have hc : E.off o + j < C.size := by omega
        have e1 : (Go.Sort.putCells id (E.off o) (flatK (enc2 C (E.off o)) 2 I.toArray) C).getD (E.off o + j) undef = (flatK (enc2 C (E.off o)) 2 I.toArray)[j]! := by
          simp only [Go.Sort.putCells, Array.getD_eq_getD_getElem?, Array.getElem?_mapIdx, Array.getElem?_eq_getElem hc, Option.map_some, Option.getD_some]
          rw [if_pos ⟨by omega, by rw [hfs]; omega⟩, show E.off o + j - E.off o = j by omega]; rfl
        rw [e1, get_flatK _ _ _ _ (by simp [hIl]; omega), enc2_get _ _ _ _ (Nat.mod_lt _ (by omega))]
        have e3 : (I.toArray[j / 2]!) = I[j / 2] := by rw [getElem!_pos _ _ (by simpa using hj2)]; simp
        rw [e3]
        exact c3 _ (by omega), fun j hj => by
        rw [hcl, hIl] at hj
        have hj2 : j / 2 < I.length := by omega
        have hi := (I[j / 2]).isLt
        rw [flat2_get _ hck I j hj2, chunk_getD (Nat.mod_lt _ (by omega))]
        exact c4 _ (by omega), fun _ => ⟨rfl, c7⟩, c6⟩
    obtain ⟨s1, r1⟩ := step1
    obtain ⟨s2, r2⟩ := step_grow os r1
    exact ⟨E, _, rfl, s1.trans s2, r2, .tuple _ _ rfl (fun i hi => absurd hi (by simp))⟩
  · have hk2 : k < I.length := by simpa [hL] using hk
    rw [flat2_chunk _ hck I k hk2]
    have e : (L.mergeSort fun x y => !(ltOf cf y x))[k] = L[I[k]] := by simp only [hL, List.getElem_map]
    rw [e]
    exact hR.mono _ _ h _ _ _ (g5 (I[k]).val (I[k]).isLt) (fun _ h => h) ⟨Nat.le_refl _, fun x hx _ => by simp [Hp.put, hx.2]⟩
  · intro a ha hn
    exact ha.wr (S := fun i => i = o) (Wr.put (S := fun i => i = o) (Wr.refl _ h) (o := o) rfl (fun _ => rfl)) (fun i hi => by omega)
  · intro i hi
    simp [Hp.put, show i ≠ o by omega]
end
end Go.Eng
namespace Go.Proofs.Ytnncipcldbopgaa
set_option linter.unusedSimpArgs false
set_option linter.unusedVariables false
set_option maxHeartbeats 4000000
open Go Go.Eng
theorem cmpI_neg (a b : Int) : cmpI b a = - cmpI a b := by
  unfold cmpI
  split
  · split
    · omega
    · omega
  · split <;> omega
theorem cmpL_neg : ∀ (x y : List Int), cmpL y x = - cmpL x y
  | [], [] => rfl
  | [], _ :: _ => rfl
  | _ :: _, [] => rfl
  | a :: x, b :: y => by
    rw [cmpL, cmpL]
    by_cases h : a = b
    · rw [if_pos h, if_pos h.symm, cmpL_neg x y]
    · rw [if_neg h, if_neg (Ne.symm h), cmpI_neg]
theorem cmpI_lt {a b : Int} (h : cmpI a b < 0) : a < b := by
  unfold cmpI at h
  split at h
  · assumption
  · split at h <;> omega
theorem cmpI_of {a b : Int} (h : a < b) : cmpI a b < 0 := by unfold cmpI; rw [if_pos h]; omega
theorem cmpL_trans : ∀ {x y z : List Int}, cmpL x y < 0 → cmpL y z < 0 → cmpL x z < 0
  | [], [], _, h, _ => by simp [cmpL] at h
  | [], _ :: _, [], _, h => by simp [cmpL] at h
  | [], _ :: _, _ :: _, _, _ => by simp [cmpL]
  | _ :: _, [], _, h, _ => by simp [cmpL] at h
  | _ :: _, _ :: _, [], _, h => by simp [cmpL] at h
  | a :: x, b :: y, c :: z, h1, h2 => by
    rw [cmpL] at h1 h2 ⊢
    by_cases e1 : a = b
    · subst e1
      rw [if_pos rfl] at h1
      by_cases e2 : a = c
      · subst e2
        rw [if_pos rfl] at h2 ⊢
        exact cmpL_trans h1 h2
      · rw [if_neg e2] at h2 ⊢
        exact h2
    · rw [if_neg e1] at h1
      have l1 := cmpI_lt h1
      by_cases e2 : b = c
      · subst e2
        rw [if_neg e1]; exact h1
      · rw [if_neg e2] at h2
        have l2 := cmpI_lt h2
        rw [if_neg (by omega)]
        exact cmpI_of (by omega)
theorem cmpL_total {x y : List Int} (h1 : ¬ cmpL x y < 0) (h2 : ¬ cmpL y x < 0) : x = y := by
  have := cmpL_neg x y
  exact (cmpL_zero x y).1 (by omega)
def cmpN (x y : List Nat) : Int := cmpL (toN x) (toN y)
theorem cmpN_swo : Go.Sort.SWO (Go.Proofs.ltOf cmpN) where
  irrefl x := by
    have : cmpN x x = 0 := (cmpL_zero _ _).2 rfl
    simp [Go.Proofs.ltOf, this]
  trans x y z h1 h2 := by
    simp only [Go.Proofs.ltOf, decide_eq_true_eq] at *
    exact cmpL_trans h1 h2
  ntrans x y z h1 h2 := by
    simp only [Go.Proofs.ltOf, decide_eq_false_iff_not] at *
    intro h3
    have hyx : cmpN y x < 0 ∨ x = y := by
      by_cases h : cmpN y x < 0
      · exact .inl h
      · exact .inr (toN_inj.1 (cmpL_total h1 h))
    rcases hyx with h | rfl
    · exact h2 (cmpL_trans h h3)
    · exact h2 h3
theorem cmpN_total {x y : List Nat} (h1 : ¬ cmpN x y < 0) (h2 : ¬ cmpN y x < 0) : x = y := toN_inj.1 (cmpL_total h1 h2)
theorem cmpN_irr (x : List Nat) : ¬ cmpN x x < 0 := by
  have : cmpN x x = 0 := (cmpL_zero _ _).2 rfl
  omega
def famS (m k : Nat) : List Nat := ((List.range k).filter fun x => m.testBit x).map (· + 1)
theorem famS_succ (m k : Nat) : famS m (k + 1) = if m.testBit k = true then famS m k ++ [k + 1] else famS m k := by
  unfold famS
  rw [List.range_succ, List.filter_append, List.map_append]
  by_cases h : m.testBit k = true <;> simp [h]
theorem famS_len (m k : Nat) : (famS m k).length ≤ k := by
  have := List.length_filter_le (fun x => m.testBit x) (List.range k)
  simp [famS] at this ⊢; exact this
theorem mem_famS {m k x : Nat} : x ∈ famS m k ↔ ∃ y, x = y + 1 ∧ y < k ∧ m.testBit y = true := by
  simp only [famS, List.mem_map, List.mem_filter, List.mem_range]
  constructor
  · rintro ⟨y, ⟨h1, h2⟩, rfl⟩; exact ⟨y, rfl, h1, h2⟩
  · rintro ⟨y, rfl, h1, h2⟩; exact ⟨y, ⟨h1, h2⟩, rfl⟩
def famL (n m : Nat) : List Nat := 0 :: (famS m (bit n - 2) ++ [bit n - 1])
theorem famL_srt {n m : Nat} (hn : 1 ≤ n) : (famL n m).Pairwise (· < ·) := by
  have hb : 2 ≤ bit n := bit_mono (i := 1) hn
  have h1 : (famS m (bit n - 2)).Pairwise (· < ·) := by
    unfold famS
    rw [List.pairwise_map]
    exact (List.Pairwise.filter _ List.pairwise_lt_range).imp fun h => by omega
  rw [famL, List.pairwise_cons, List.pairwise_append]
  refine ⟨fun x hx => ?_, h1, List.pairwise_singleton _ _, fun x hx y hy => ?_⟩
  · rcases List.mem_append.1 hx with h | h
    · obtain ⟨y, rfl, _⟩ := mem_famS.1 h; omega
    · simp at h; omega
  · obtain ⟨z, rfl, h2, _⟩ := mem_famS.1 hx
    simp at hy; omega
theorem famL_lt {n m : Nat} (hn : 1 ≤ n) : ∀ x ∈ famL n m, x < bit n := by
  have hb : 2 ≤ bit n := bit_mono (i := 1) hn
  intro x hx
  rcases List.mem_cons.1 hx with h | h
  · omega
  · rcases List.mem_append.1 h with h | h
    · obtain ⟨y, rfl, h1, _⟩ := mem_famS.1 h; omega
    · simp at h; omega
theorem famL_len (n m : Nat) (hn : 1 ≤ n) : (famL n m).length ≤ bit n := by
  have hb : 2 ≤ bit n := bit_mono (i := 1) hn
  have := famS_len m (bit n - 2)
  simp [famL]; omega
theorem famL_inj {n a b : Nat} (hn : 1 ≤ n) (ha : a < 2 ^ (bit n - 2)) (hb : b < 2 ^ (bit n - 2)) (h : famL n a = famL n b) : a = b := by
  have hb2 : 2 ≤ bit n := bit_mono (i := 1) hn
  have key : ∀ c i, i < bit n - 2 → (i + 1 ∈ famL n c ↔ c.testBit i = true) := fun c i hi => by
    simp only [famL, List.mem_cons, List.mem_append, List.mem_singleton, List.not_mem_nil, or_false]
    constructor
    · rintro (h | h | h)
      · omega
      · obtain ⟨y, e, _, h3⟩ := mem_famS.1 h
        have : y = i := by omega
        subst this; exact h3
      · omega
    · intro h
      exact .inr (.inl (mem_famS.2 ⟨i, rfl, hi, h⟩))
  apply Nat.eq_of_testBit_eq
  intro i
  by_cases hi : i < bit n - 2
  · rw [Bool.eq_iff_iff, ← key a i hi, ← key b i hi, h]
  · rw [Nat.testBit_lt_two_pow (Nat.lt_of_lt_of_le ha (Nat.pow_le_pow_right (by omega) (by omega))), Nat.testBit_lt_two_pow (Nat.lt_of_lt_of_le hb (Nat.pow_le_pow_right (by omega) (by omega)))]
noncomputable def candK (n f : Nat) : List (List Nat) := ((List.range f).map (famL n)).filter fun xs => spB n (toN xs)
theorem candK_succ (n f : Nat) : candK n (f + 1) = if spB n (toN (famL n f)) = true then candK n f ++ [famL n f] else candK n f := by
  unfold candK
  rw [List.range_succ, List.map_append, List.filter_append]
  by_cases h : spB n (toN (famL n f)) = true <;> simp [h]
theorem candK_len (n f : Nat) : (candK n f).length ≤ f := by
  have := List.length_filter_le (fun xs => spB n (toN xs)) ((List.range f).map (famL n))
  simpa [candK] using this
theorem candK_mem {n f : Nat} {xs : List Nat} : xs ∈ candK n f ↔ (∃ m, m < f ∧ famL n m = xs) ∧ spB n (toN xs) = true := by
  simp [candK]
theorem candK_nodup {n f : Nat} (hn : 1 ≤ n) (hf : f ≤ 2 ^ (bit n - 2)) : (candK n f).Nodup := by
  unfold List.Nodup candK
  refine List.Pairwise.filter _ ?_
  rw [List.pairwise_map]
  refine List.Pairwise.imp_of_mem ?_ (List.nodup_range (n := f))
  intro a b ha hb hne e
  simp at ha hb
  exact hne (famL_inj hn (by omega) (by omega) e)
noncomputable def spacesL (n : Nat) : List (List Nat) := (candK n (2 ^ (bit n - 2))).mergeSort fun x y => !(Go.Proofs.ltOf cmpN y x)
theorem spacesL_len (n : Nat) : (spacesL n).length = (candK n (2 ^ (bit n - 2))).length := List.length_mergeSort _
theorem spacesL_mem {n : Nat} {xs : List Nat} : xs ∈ spacesL n ↔ xs ∈ candK n (2 ^ (bit n - 2)) := List.mem_mergeSort
theorem spacesL_good {n : Nat} {xs : List Nat} (h : xs ∈ spacesL n) : SpGood n xs := by
  obtain ⟨m, ys, h1, h2, g⟩ := spB_true (candK_mem.1 (spacesL_mem.1 h)).2
  have e1 : n = m := by omega
  have e2 : xs = ys := toN_inj.1 h2
  subst e1 e2; exact g
theorem spacesL_srt {n : Nat} (hn : 1 ≤ n) : (spacesL n).Pairwise fun x y => cmpN x y < 0 := by
  have h1 : (spacesL n).Pairwise fun x y => (!(Go.Proofs.ltOf cmpN y x)) = true := by
    refine List.pairwise_mergeSort (le := fun x y => !(Go.Proofs.ltOf cmpN y x)) (fun a b c h1 h2 => ?_) (fun a b => ?_) _
    · simp only [Bool.not_eq_true'] at *
      exact cmpN_swo.ntrans _ _ _ h2 h1
    · simp only [Bool.or_eq_true, Bool.not_eq_true', Go.Proofs.ltOf, decide_eq_false_iff_not]
      have := cmpL_neg (toN a) (toN b)
      unfold cmpN; omega
  have h2 : (spacesL n).Nodup := (List.mergeSort_perm _ _).nodup_iff.2 (candK_nodup hn (Nat.le_refl _))
  refine (List.pairwise_and_iff.2 ⟨h1, h2⟩).imp fun {a b} ⟨p, q⟩ => ?_
  simp only [Bool.not_eq_true', Go.Proofs.ltOf, decide_eq_false_iff_not] at p
  apply Classical.byContradiction
  intro h
  exact q (cmpN_total h p)
theorem spacesL_uniq {n : Nat} (hn : 1 ≤ n) {L : List (List Nat)} (h1 : L.Pairwise fun x y => cmpN x y < 0) (h2 : L.Perm (candK n (2 ^ (bit n - 2)))) : L = spacesL n := by
  refine List.Perm.eq_of_pairwise (le := fun x y => cmpN x y < 0) (fun x y _ _ h3 h4 => ?_) h1 (spacesL_srt hn) (h2.trans (List.mergeSort_perm _ _).symm)
  exact absurd (cmpL_trans h3 h4) (cmpN_irr x)
theorem put_in {L : List (List Nat)} {s : List Nat} {k : Nat} (hs : L.Pairwise fun x y => cmpN x y < 0) (hk : k ≤ L.length) (h1 : ∀ j (hj : j < L.length), k ≤ j → cmpN s L[j] < 0) (h2 : ∀ hk : 0 < k, ¬ cmpN s (L[k - 1]'(by omega)) < 0) (hn : ¬ s ∈ L) :
    (L.take k ++ [s] ++ L.drop k).Pairwise (fun x y => cmpN x y < 0) ∧ (L.take k ++ [s] ++ L.drop k).Perm (L ++ [s]) := by
  constructor
  · have hp := List.pairwise_append.1 (by rw [List.take_append_drop]; exact hs : (L.take k ++ L.drop k).Pairwise fun x y => cmpN x y < 0)
    have ht : ∀ x ∈ L.take k, cmpN x s < 0 := by
      intro x hx
      obtain ⟨i, hi, rfl⟩ := List.mem_iff_getElem.1 hx
      have hi' : i < k := by simp at hi; omega
      rw [List.getElem_take]
      have hil : i < L.length := by omega
      have h3 := h2 (by omega)
      have h4 : ¬ cmpN s L[i] < 0 := by
        by_cases e : i = k - 1
        · subst e; exact h3
        · intro h5
          exact h3 (cmpL_trans h5 (List.pairwise_iff_getElem.1 hs i (k - 1) hil (by omega) (by omega)))
      apply Classical.byContradiction
      intro h5
      exact hn (cmpN_total h4 h5 ▸ List.getElem_mem hil)
    have hd : ∀ x ∈ L.drop k, cmpN s x < 0 := by
      intro x hx
      obtain ⟨i, hi, rfl⟩ := List.mem_iff_getElem.1 hx
      simp at hi
      rw [List.getElem_drop]
      exact h1 _ (by omega) (by omega)
    rw [List.pairwise_append, List.pairwise_append]
    refine ⟨⟨hp.1, List.pairwise_singleton _ _, fun x hx y hy => ?_⟩, hp.2.1, fun x hx y hy => ?_⟩
    · simp at hy; subst hy; exact ht x hx
    · rcases List.mem_append.1 hx with h | h
      · exact hp.2.2 x h y hy
      · simp at h; subst h; exact hd y hy
  · have : (L.take k ++ [s] ++ L.drop k).Perm (L.take k ++ L.drop k ++ [s]) := by
      rw [List.append_assoc, List.append_assoc]
      exact List.Perm.append_left _ List.perm_append_comm
    rwa [List.take_append_drop] at this
end Go.Proofs.Ytnncipcldbopgaa
namespace Go.Proofs
open Go.Shelf
def Srtf.lay6_ren : Go.Shelf.Ren := ⟨fun | 6 => 224 | 15 => 260 | 14 => 259 | 28 => 277 | 29 => 278 | 20 => 269 | 21 => 270 | 22 => 271 | 23 => 272 | 24 => 273 | 25 => 274 | 26 => 275 | 27 => 276 | 46 => 281 | 47 => 282 | 48 => 283 | 49 => 284 | 50 => 285 | 57 => 286 | n => n, fun | 22 => 43 | 24 => 26 | 25 => 107 | 3 => 3 | 39 => 159 | 0 => 0 | 53 => 185 | 55 => 91 | 4 => 4 | 46 => 192 | 45 => 191 | 50 => 29 | 5 => 5 | 9 => 9 | 66 => 197 | 70 => 201 | 76 => 203 | 77 => 37 | n => n, fun | n => n⟩
theorem Srtf.lay6 : Go.Proofs.SlLaysF0.n6 Try.prog Srtf.lay6_ren := {
  mixed := by kernel_rfl
  f6 := ⟨Try.f224.name, by decide, Try.func224.trans (congrArg some (by kernel_rfl))⟩
  f14 := ⟨Try.f259.name, by decide, Try.func259.trans (congrArg some (by kernel_rfl))⟩
  f15 := Try.func260.trans (congrArg some (by kernel_rfl))
  f20 := ⟨Try.f269.name, by decide, Try.func269.trans (congrArg some (by kernel_rfl))⟩
  f21 := ⟨Try.f270.name, by decide, Try.func270.trans (congrArg some (by kernel_rfl))⟩
  f22 := ⟨Try.f271.name, by decide, Try.func271.trans (congrArg some (by kernel_rfl))⟩
  f23 := ⟨Try.f272.name, by decide, Try.func272.trans (congrArg some (by kernel_rfl))⟩
  f24 := ⟨Try.f273.name, by decide, Try.func273.trans (congrArg some (by kernel_rfl))⟩
  f25 := ⟨Try.f274.name, by decide, Try.func274.trans (congrArg some (by kernel_rfl))⟩
  f26 := ⟨Try.f275.name, by decide, Try.func275.trans (congrArg some (by kernel_rfl))⟩
  f27 := ⟨Try.f276.name, by decide, Try.func276.trans (congrArg some (by kernel_rfl))⟩
  f28 := Try.func277.trans (congrArg some (by kernel_rfl))
  f29 := Try.func278.trans (congrArg some (by kernel_rfl))
  f46 := ⟨Try.f281.name, by decide, Try.func281.trans (congrArg some (by kernel_rfl))⟩
  f47 := Try.func282.trans (congrArg some (by kernel_rfl))
  f48 := Try.func283.trans (congrArg some (by kernel_rfl))
  f49 := ⟨Try.f284.name, by decide, Try.func284.trans (congrArg some (by kernel_rfl))⟩
  f50 := ⟨Try.f285.name, by decide, Try.func285.trans (congrArg some (by kernel_rfl))⟩
  f57 := ⟨Try.f286.name, by decide, Try.func286.trans (congrArg some (by kernel_rfl))⟩
  t0 := Try.underlying0
  a0 := Try.isAgg0
  z0 := Try.sizeOf0
  v0 := Try.zeroValue0
  t3 := Try.underlying3
  a3 := Try.isAgg3
  z3 := Try.sizeOf3
  v3 := Try.zeroValue3
  t4 := Try.underlying4
  a4 := Try.isAgg4
  z4 := Try.sizeOf4
  v4 := Try.zeroValue4
  t5 := Try.underlying5
  a5 := Try.isAgg5
  z5 := Try.sizeOf5
  v5 := Try.zeroValue5
  t9 := Try.underlying9
  a9 := Try.isAgg9
  z9 := Try.sizeOf9
  v9 := Try.zeroValue9
  t22 := Try.underlying43
  a22 := Try.isAgg43
  z22 := Try.sizeOf43
  v22 := Try.zeroValue43
  t25 := Try.underlying107
  a25 := Try.isAgg107
  z25 := Try.sizeOf107
  v25 := Try.zeroValue107
  t39 := Try.underlying159
  a39 := Try.isAgg159
  z39 := Try.sizeOf159
  v39 := Try.zeroValue159
  t45 := Try.underlying191
  a45 := Try.isAgg191
  z45 := Try.sizeOf191
  v45 := Try.zeroValue191
  t46 := Try.underlying192
  a46 := Try.isAgg192
  z46 := Try.sizeOf192
  v46 := Try.zeroValue192
  t50 := Try.underlying29
  a50 := Try.isAgg29
  z50 := Try.sizeOf29
  v50 := Try.zeroValue29
  t53 := Try.underlying185
  a53 := Try.isAgg185
  z53 := Try.sizeOf185
  v53 := Try.zeroValue185
  t55 := Try.underlying91
  a55 := Try.isAgg91
  z55 := Try.sizeOf91
  v55 := Try.zeroValue91
  t66 := Try.underlying197
  a66 := Try.isAgg197
  z66 := Try.sizeOf197
  v66 := Try.zeroValue197
  t70 := Try.underlying201
  a70 := Try.isAgg201
  z70 := Try.sizeOf201
  v70 := Try.zeroValue201
  t76 := Try.underlying203
  a76 := Try.isAgg203
  z76 := Try.sizeOf203
  v76 := Try.zeroValue203
  t77 := Try.underlying37
  a77 := Try.isAgg37
  z77 := Try.sizeOf37
  v77 := Try.zeroValue37 }
end Go.Proofs
namespace Go.Proofs.Ytnncipcldbopgaa
set_option linter.unusedSimpArgs false
set_option linter.unusedVariables false
set_option maxHeartbeats 4000000
open Go Go.Eng
attribute [local irreducible] WD RunD PreD Runs CallOK
theorem appI3 {n : Nat} {h0 h : Hp} {v : Value} {xs : List Int} (hs : IntsA n h v xs) (x : Int) (hl : xs.length < 2 ^ 40) (hn : n ≤ h.next) (hA : Adds h0 h) (h0n : h0.next ≤ n) :
    ∃ v' h', appendD Try.prog 24 24 v (.slice (some ⟨h.next, 0, none⟩) 1 1) (h.alloc (.cells [.int .i64 x] true true 1)) = some (v', h') ∧ IntsA n h' v' (xs ++ [x]) ∧ Adds h0 h' ∧ h.next < h'.next ∧
      (∀ F : Nat → Prop, (∀ o, F o → o < h.next) → OffF F v → Same F h h' ∧ OffF F v') := by
  obtain ⟨v', h', g1, g2, g3, g4, g5, g6⟩ := append_one2 (P := Try.prog) (t := 24) (t' := 24) (x := x) (q := h.next) (h := h.alloc (.cells [.int .i64 x] true true 1)) (qx := true) (n := n) (v := v) (xs := xs) (by
    rcases hs with ⟨a, b⟩ | ⟨o, ex, a, b, c, d⟩
    · exact .inl ⟨a, b⟩
    · exact .inr ⟨o, ex, a, b, Nat.lt_succ_of_lt c, by simp [Nat.ne_of_lt c, d]⟩) ty_elT_24 ty_szT_3 ty_zeroT_3 ty_byT_3 (by decide) (by decide) (by simp) (by simp) hl (by simp; omega) (show Adds h0 _ from (by first | exact aK | exact kK)) h0n
  refine ⟨v', h', g1, g2, g3, Nat.lt_of_le_of_lt (by simp) g4, fun F hF hO => ⟨?_, g6 F fun o ho => Nat.lt_succ_of_lt (hF o ho)⟩⟩
  have := g5 F hO
  exact ⟨Nat.le_trans (Nat.le_succ _) this.1, fun o ho ho' => by rw [this.2 o ho (Nat.lt_succ_of_lt ho')]; simp [Nat.ne_of_lt ho']⟩
def spO (n : Nat) (F : Nat → Prop) (h : Hp) (u : List Value) (x : List Nat) : Prop := ∃ w, u = [.int .i64 (n : Int), w] ∧ IntsO F h w (toN x)
def spF (n : Nat) (F : Nat → Prop) (h : Hp) (u : List Value) (x : List Nat) : Prop := ∃ w, u = [.int .i64 (n : Int), w] ∧ IntsF F h w (toN x)
theorem intsO_low {F : Nat → Prop} {h : Hp} {v : Value} {xs : List Int} (hs : IntsO F h v xs) : IntsO (fun o => F o ∧ o < h.next) h v xs := by
  obtain ⟨s, c, e, h1, h2, h3⟩ := hs
  refine ⟨s, c, e, h1, h2, ?_⟩
  rcases h3 with h3 | ⟨o, i, cs, ex, g1, g2, g3, g4⟩
  · exact .inl h3
  · exact .inr ⟨o, i, cs, ex, g1, ⟨g2, g3⟩, g3, g4⟩
theorem spO_steady (n : Nat) : Steady (spO n) where
  mono F G h h' u x := by
    rintro ⟨w, rfl, hw⟩ hfg hk
    exact ⟨w, rfl, (hw.same hk).sub hfg⟩
  low F h u x := by
    rintro ⟨w, rfl, hw⟩
    exact ⟨w, rfl, intsO_low hw⟩
theorem intsF_ro {F : Nat → Prop} {h : Hp} {o : Nat} {v : Value} {xs : List Int} (hs : IntsF F h v xs) (hF : ∀ p, F p → p ≠ o) : IntsF F (roHp o h) v xs := by
  obtain ⟨s, c, e, h1, h2, h3⟩ := hs
  refine ⟨s, c, e, h1, h2, fun k x hk => ?_⟩
  obtain ⟨p, i, cs, own, ex, es, g1, g2, g3, g4, g5, g6⟩ := h3 k x hk
  exact ⟨p, i, cs, false, ex, es, g1, g2, g3, by simp [roHp, hF p g2, g4, roObj], g5, g6⟩
theorem spO_ro (n : Nat) (h : Hp) (F : Nat → Prop) (o : Nat) (u : List Value) (x : List Nat) (hs : spO n F h u x) (hF : ∀ p, F p → p ≠ o) : spF n F (roHp o h) u x := by
  obtain ⟨w, rfl, hw⟩ := hs
  exact ⟨w, rfl, intsF_ro hw.read hF⟩
theorem spF_cmp (n : Nat) (h : Hp) (F : Nat → Prop) (a b : List Value) (x y : List Nat) (hx : spF n F h a x) (hy : spF n F h b y) : CallOK Try.prog 142 #[.agg a.toArray, .agg b.toArray] h (.int .i64 (cmpN x y)) h := by
  obtain ⟨w, rfl, hw⟩ := hx
  obtain ⟨w2, rfl, hw2⟩ := hy
  exact compare_ok h _ _ n n _ _ (.mk hw.ints) (.mk hw2.ints)
theorem opBitU (y : Int) (hy : 0 ≤ y) (hy2 : y < 40) : bShl .u64 1 y = ((bit y.toNat : Nat) : Int) := by
  obtain ⟨k, rfl⟩ := Int.eq_ofNat_of_zero_le hy
  have hk : k < 40 := by omega
  have : ∀ k : Nat, k < 40 → bShl .u64 1 (k : Int) = ((bit k : Nat) : Int) := by decide +kernel
  simpa using this k hk
theorem wrapU64 (x : Int) (h1 : 0 ≤ x) (h2 : x < 18446744073709551616) : IntKind.wrap .u64 x = x := by
  have e : IntKind.wrap .u64 x = x % 18446744073709551616 := rfl
  rw [e]; omega
@[simp] theorem zarrZ (z : Array Value) : zarr z 0 = #[] := by unfold zarr; apply Array.ext <;> simp
@[simp] theorem zarr2_2 (a b : Value) : zarr #[a, b] 2 = #[a, b] := by
  unfold zarr
  apply Array.ext
  · simp
  · intro i h1 h2
    have : i < 2 := by simpa using h2
    rcases Nat.lt_or_ge i 1 with h | h
    · have : i = 0 := by omega
      subst this; simp
    · have : i = 1 := by omega
      subst this; simp
@[simp] theorem famS_zero (m : Nat) : famS m 0 = [] := rfl
theorem ia_putoff {n o : Nat} {h : Hp} {v : Value} {xs : List Int} (hs : IntsA n h v xs) (ho : OffF (fun p => p = o) v) (x : AObj) : IntsA n (h.put o x) v xs := by
  rcases hs with ⟨a, b⟩ | ⟨p, ex, rfl, b, c, d⟩
  · exact .inl ⟨a, b⟩
  · exact .inr ⟨p, ex, rfl, b, c, by simp [show p ≠ o from fun e => ho p 0 _ _ rfl e, d]⟩
theorem appS {n B : Nat} {h0 hq h : Hp} {v w : Value} {L : List (List Nat)} {xs : List Nat} (hs : GL 2 (spO n) B hq v L) (hk : Keeps hq h) (hw : IntsO (fun o => hq.next ≤ o) h w (toN xs)) (hl : L.length < 2 ^ 39) (hB : B ≤ hq.next) (hA : Adds h0 h) (h0n : h0.next ≤ B) :
    ∃ v' h', appendD Try.prog 43 43 v (.slice (some ⟨h.next, 0, none⟩) 1 1) (h.alloc (.cells [.int .i64 (n : Int), w] true true 2)) = some (v', h') ∧ GL 2 (spO n) B h' v' (L ++ [xs]) ∧ Adds h0 h' ∧ h.next < h'.next := by
  have k2 : Adds h (h.alloc (.cells [.int .i64 (n : Int), w] true true 2)) := (by first | exact aK | exact kK)
  obtain ⟨v', h', g1, g2, g3, g4, g5⟩ := GL.append (P := Try.prog) (t := 43) (t' := 43) (z := .agg #[.int .i64 0, .slice none 0 0]) (b := 32) (e := 26) (K := [xs]) (ys := [.int .i64 (n : Int), w]) (F := fun x => hq.next ≤ x ∧ x < h.next) (y := .slice (some ⟨h.next, 0, none⟩) 1 1) (h0 := h0) (spO_steady n)
    (hs.keep (spO_steady n) (hk.trans k2.1)) (by simp [srcV, srcW]) rfl (fun k hk' => by
      have : k = 0 := by simp at hk'; exact hk'
      subst this
      exact ⟨w, rfl, ((intsO_low hw).sub fun o ho => ⟨ho.1, ho.2⟩).keep k2.1⟩)
    (fun x hx => ⟨by omega, by simp; omega, fun hob => by have := (hs.obj hob).2; omega⟩) (by simp) (by simp) (by simp) rfl (by simp) (by decide) (by decide) (by simp) (by simp; omega) (by simp; have := hk.1; omega) (hA.trans k2) h0n
  exact ⟨v', h', g1, g2, g3, by simp at g4; omega⟩
theorem nodup_ix {α : Type} {L : List α} (hn : L.Nodup) {i j : Nat} (hi : i < L.length) (hj : j < L.length) (h : L[i] = L[j]) : i = j := by
  rcases Nat.lt_trichotomy i j with h1 | h1 | h1
  · exact absurd h (List.pairwise_iff_getElem.1 hn i j hi hj h1)
  · exact h1
  · exact absurd h.symm (List.pairwise_iff_getElem.1 hn j i hj hi h1)
theorem famL_free {n : Nat} (hn : 1 ≤ n) : famL n (2 ^ (bit n - 2) - 1) = List.range (bit n) := by
  have hb : 2 ≤ bit n := bit_mono (i := 1) hn
  refine srt_ext (famL_srt hn) List.pairwise_lt_range fun x => ?_
  constructor
  · intro hx; simpa using famL_lt hn x hx
  · intro hx
    have hx' : x < bit n := by simpa using hx
    simp only [famL, List.mem_cons, List.mem_append, List.not_mem_nil, or_false]
    by_cases h0 : x = 0
    · exact .inl h0
    · by_cases h1 : x = bit n - 1
      · exact .inr (.inr h1)
      · exact .inr (.inl (mem_famS.2 ⟨x - 1, by omega, by omega, by rw [Nat.testBit_two_pow_sub_one]; simp; omega⟩))
theorem candK_ne {n : Nat} (h1 : 1 ≤ n) (h7 : n ≤ 7) : candK n (2 ^ (bit n - 2)) ≠ [] := fun e => by
  have hm : List.range (bit n) ∈ candK n (2 ^ (bit n - 2)) := candK_mem.2 ⟨⟨2 ^ (bit n - 2) - 1, by have := Nat.two_pow_pos (bit n - 2); omega, famL_free h1⟩, spB_of (free_good h1 h7)⟩
  rw [e] at hm; cases hm
theorem spaces_ok (h : Hp) (n : Nat) (p1 : 1 ≤ n) (p4 : n ≤ 4) :
    ∃ v' h', CallOK Try.prog 141 #[.int .i64 (n : Int)] h v' h' ∧ Adds h h' ∧ GL 2 (spO n) h.next h' v' (spacesL n) := by
  refine callY_L (args := [.int .i64 (n : Int)]) 55 _ [.tmp 2] Try.func141 rfl rfl rfl ?_
  have hb16 : 2 ≤ bit n ∧ bit n ≤ 16 := ⟨bit_mono (i := 1) p1, bit_mono (j := 4) p4⟩
  have hbb : bit (bit n - 2) ≤ 16384 := bit_mono (j := 14) (by omega)
  have hbp := bit_pos (bit n - 2)
  have hu1 : IntKind.wrap .u64 (((bit n : Nat) : Int) - 2) = ((bit n - 2 : Nat) : Int) := by rw [wrapU64 _ (by omega) (by omega)]; omega
  have hu2 : IntKind.wrap .i64 (((bit n : Nat) : Int) - 1) = ((bit n - 1 : Nat) : Int) := by rw [wrap64c _ (by omega) (by omega)]; omega
  try simp (disch := first | omega | (simp; done) | fail) [wrap64c, if_pos, if_neg, opAnd, opOr, opXor, opDiff, opShr, opBit, hu1, hu2]
  refine WD_drawC 5 rfl (by kernel_rfl) ?_
  try simp (disch := first | omega | (simp; done) | fail) [wrap64c, if_pos, if_neg, opAnd, opOr, opXor, opDiff, opShr, opBit, hu1, hu2, opBitU]
  refine WD_loopC [0, 4, 15] (fun m tm h' => ∃ f u, m = bit (bit n - 2) - f ∧ tm 3 = u ∧ tm 16 = .int .i64 (f : Int) ∧ (f ≤ bit (bit n - 2)) ∧ (Adds h h') ∧ (GL 2 (spO n) h.next h' u (candK n f))) _ ⟨0, _, rfl, (by simp (disch := first | omega | (simp; done) | fail) [wrap64c, if_pos, if_neg, opAnd, opOr, opXor, opDiff, opShr, opBit, hu1, hu2]), (by simp (disch := first | omega | (simp; done) | fail) [wrap64c, if_pos, if_neg, opAnd, opOr, opXor, opDiff, opShr, opBit, hu1, hu2]), (by first | omega | assumption | (simp (disch := first | omega | (simp; done) | fail) [wrap64c, if_pos, if_neg, opAnd, opOr, opXor, opDiff, opShr, opBit, hu1, hu2] <;> omega)), (by first | exact aK | exact kK), (.lit (ex := true) (Nat.le_refl _) (by simp) (by simp))⟩ ?_
  rintro m tm h' hFr ⟨f, u, rfl, e3, e16, hm, ha, hu⟩
  simp only [FrameL] at hFr
  obtain ⟨f0_0, f4_0, f15_0, -⟩ := hFr
  try simp (disch := first | omega | (simp; done) | fail) [wrap64c, if_pos, if_neg, opAnd, opOr, opXor, opDiff, opShr, opBit, hu1, hu2] at f0_0 f4_0 f15_0
  have e0 := f0_0
  have e4 := f4_0
  have e15 := f15_0
  by_cases hlt : f < bit (bit n - 2)
  · have hcl := candK_len n f
    have hcs := candK_succ n f
    rename Hp => hq
    try simp (disch := first | omega | (simp; done) | fail) [wrap64c, if_pos, if_neg, opAnd, opOr, opXor, opDiff, opShr, opBit, hu1, hu2, e0, e3, e4, e15, e16, hlt, putCells]
    first | refine WY_heap fun h1 q_h1 => ?_ | refine callG_heap fun h1 q_h1 => ?_ | refine callP_heap fun h1 q_h1 => ?_ | refine callS_heap fun h1 q_h1 => ?_ | refine RY_heap fun h1 q_h1 => ?_ | refine PY_heap fun h1 q_h1 => ?_ | refine SY_heap fun h1 q_h1 => ?_ | refine doneY_heap fun h1 q_h1 => ?_ | refine loopK_heap fun h1 q_h1 => ?_ | refine thenY_heap fun h1 q_h1 => ?_ | refine thenM_heap fun h1 q_h1 => ?_
    have k1 : Adds hq h1 := by rw [q_h1]; exact (by first | exact aK | exact kK)
    have n1 : h1.next = hq.next + 2 := by simp [q_h1]
    have gb1 : h1.get (hq.next + 1) = .cells [.int .i64 (n : Int), .slice (some ⟨hq.next, 0, none⟩) 1 1] true true 1 := by simp [q_h1]
    have gl1 : h1.get hq.next = .cells [.int .i64 0] true true 1 := by simp [q_h1]
    refine WD_loopC [0, 3, 4, 5, 6, 15, 16] (fun m tm h' => ∃ x w, m = bit n - 1 - x ∧ tm 7 = .int .i64 (x : Int) ∧ (x ≤ bit n - 1 ∧ 1 ≤ x) ∧ (Adds hq h') ∧ (IntsA hq.next h' w (toN (0 :: famS f (x - 1)))) ∧ (h'.get (hq.next + 1) = .cells [.int .i64 (n : Int), w] true true 1) ∧ (OffF (fun o => o = hq.next + 1) w) ∧ (hq.next + 1 < h'.next)) _ ⟨1, .slice (some ⟨hq.next, 0, none⟩) 1 1, rfl, (by simp (disch := first | omega | (simp; done) | fail) [wrap64c, if_pos, if_neg, opAnd, opOr, opXor, opDiff, opShr, opBit, hu1, hu2, e0, e3, e4, e15, e16, hlt]), (by first | omega | assumption | (simp (disch := first | omega | (simp; done) | fail) [wrap64c, if_pos, if_neg, opAnd, opOr, opXor, opDiff, opShr, opBit, hu1, hu2, e0, e3, e4, e15, e16, hlt] <;> omega)), k1, (.inr ⟨hq.next, true, by simp, Nat.le_refl _, by omega, by simp [gl1, toN]⟩), gb1, (.mk (by omega)), (by omega)⟩ ?_
    rintro m tm h' hFr ⟨x, w, rfl, e7, hx, ha2, hw, hg, ho, hnn⟩
    simp only [FrameL] at hFr
    obtain ⟨f0_1, f3_1, f4_1, f5_1, f6_1, f15_1, f16_1, -⟩ := hFr
    try simp (disch := first | omega | (simp; done) | fail) [wrap64c, if_pos, if_neg, opAnd, opOr, opXor, opDiff, opShr, opBit, hu1, hu2, e0, e3, e4, e15, e16, hlt] at f0_1 f3_1 f4_1 f5_1 f6_1 f15_1 f16_1
    have e0 := f0_1
    have e3 := f3_1
    have e4 := f4_1
    have e5 := f5_1
    have e6 := f6_1
    have e15 := f15_1
    have e16 := f16_1
    have hfl := famS_len f (x - 1)
    by_cases hlx : x < bit n - 1
    · have hlx' : (x : Int) < ((bit n - 1 : Nat) : Int) := by omega
      have hx1 : IntKind.wrap .i64 ((x : Int) - 1) = ((x - 1 : Nat) : Int) := by rw [wrap64c _ (by omega) (by omega)]; omega
      have hfs := famS_succ f (x - 1)
      rw [show x - 1 + 1 = x by omega] at hfs
      have h01 := nShr_and01 f (x - 1)
      have hsl := nShr_le f (x - 1)
      cases hc : f.testBit (x - 1)
      · rw [hc] at h01 hfs
        have h01 := h01
        try simp (disch := first | omega | (simp; done) | fail) [wrap64c, if_pos, if_neg, opAnd, opOr, opXor, opDiff, opShr, opBit, hu1, hu2, e0, e3, e4, e15, e16, hlt, e5, e6, e7, hg, hlx', hx1, h01]
        refine loopK_next _ ?hm ?hf ⟨x + 1, w, rfl, (by simp (disch := first | omega | (simp; done) | fail) [wrap64c, if_pos, if_neg, opAnd, opOr, opXor, opDiff, opShr, opBit, hu1, hu2, e0, e3, e4, e15, e16, hlt, e5, e6, e7, hg, hlx', hx1, h01] <;> omega), (by first | omega | assumption | (simp (disch := first | omega | (simp; done) | fail) [wrap64c, if_pos, if_neg, opAnd, opOr, opXor, opDiff, opShr, opBit, hu1, hu2, e0, e3, e4, e15, e16, hlt, e5, e6, e7, hg, hlx', hx1, h01] <;> omega)), (by first | omega | assumption | (simp (disch := first | omega | (simp; done) | fail) [wrap64c, if_pos, if_neg, opAnd, opOr, opXor, opDiff, opShr, opBit, hu1, hu2, e0, e3, e4, e15, e16, hlt, e5, e6, e7, hg, hlx', hx1, h01] <;> omega)), (by rw [show x + 1 - 1 = x by omega, hfs]; exact hw), (by first | omega | assumption | (simp (disch := first | omega | (simp; done) | fail) [wrap64c, if_pos, if_neg, opAnd, opOr, opXor, opDiff, opShr, opBit, hu1, hu2, e0, e3, e4, e15, e16, hlt, e5, e6, e7, hg, hlx', hx1, h01] <;> omega)), (by first | omega | assumption | (simp (disch := first | omega | (simp; done) | fail) [wrap64c, if_pos, if_neg, opAnd, opOr, opXor, opDiff, opShr, opBit, hu1, hu2, e0, e3, e4, e15, e16, hlt, e5, e6, e7, hg, hlx', hx1, h01] <;> omega)), (by first | omega | assumption | (simp (disch := first | omega | (simp; done) | fail) [wrap64c, if_pos, if_neg, opAnd, opOr, opXor, opDiff, opShr, opBit, hu1, hu2, e0, e3, e4, e15, e16, hlt, e5, e6, e7, hg, hlx', hx1, h01] <;> omega))⟩
        (case hm => first | omega | (simp; omega))
        (case hf => simp [FrameL, hu1, hu2, e0, e3, e4, e15, e16, hlt, e5, e6, e7, hg, hlx', hx1, h01, f0_1, f3_1, f4_1, f5_1, f6_1, f15_1, f16_1])
      · rw [hc] at h01 hfs
        have h01 := h01
        have ntw := (hw.own (by simp; omega)).nt
        have csw := (hw.own (by simp; omega)).cs
        try simp (disch := first | omega | (simp; done) | fail) [wrap64c, if_pos, if_neg, opAnd, opOr, opXor, opDiff, opShr, opBit, hu1, hu2, e0, e3, e4, e15, e16, hlt, e5, e6, e7, hg, hlx', hx1, h01, ntw, csw]
        obtain ⟨w2, h2, hap, hw2, ha3, hn3, hs3⟩ := appI3 hw (x : Int) (by simp; omega) ha2.1.1 ha2 (Nat.le_refl _)
        obtain ⟨hsm, ho2⟩ := hs3 (fun o => o = hq.next + 1) (fun o e => by omega) ho
        have gb2 : h2.get (hq.next + 1) = .cells [.int .i64 (n : Int), w] true true 1 := by rw [hsm.2 _ rfl hnn]; exact hg
        have ntw2 := (hw2.own (by simp; omega)).nt
        have csw2 := (hw2.own (by simp; omega)).cs
        try simp (disch := first | omega | (simp; done) | fail) [wrap64c, if_pos, if_neg, opAnd, opOr, opXor, opDiff, opShr, opBit, hu1, hu2, e0, e3, e4, e15, e16, hlt, e5, e6, e7, hg, hlx', hx1, h01, ntw, csw, gb2, ntw2, csw2, hap, putCells]
        refine loopK_next _ ?hm ?hf ⟨x + 1, w2, rfl, (by simp (disch := first | omega | (simp; done) | fail) [wrap64c, if_pos, if_neg, opAnd, opOr, opXor, opDiff, opShr, opBit, hu1, hu2, e0, e3, e4, e15, e16, hlt, e5, e6, e7, hg, hlx', hx1, h01, ntw, csw, gb2, ntw2, csw2] <;> omega), (by first | omega | assumption | (simp (disch := first | omega | (simp; done) | fail) [wrap64c, if_pos, if_neg, opAnd, opOr, opXor, opDiff, opShr, opBit, hu1, hu2, e0, e3, e4, e15, e16, hlt, e5, e6, e7, hg, hlx', hx1, h01, ntw, csw, gb2, ntw2, csw2] <;> omega)), (by first | exact aK | exact kK), ?c_hw, (by simp), ho2, (by simp; omega)⟩
        (case hm => first | omega | (simp; omega))
        (case hf => simp [FrameL, hu1, hu2, e0, e3, e4, e15, e16, hlt, e5, e6, e7, hg, hlx', hx1, h01, ntw, csw, gb2, ntw2, csw2, f0_1, f3_1, f4_1, f5_1, f6_1, f15_1, f16_1])
        case c_hw =>
          exact (by
            rw [show x + 1 - 1 = x by omega, hfs, if_pos rfl, show (0 :: (famS f (x - 1) ++ [x])) = (0 :: famS f (x - 1)) ++ [x] from rfl, toN_snoc]
            exact ia_putoff hw2 ho2 _)
    · have hxe : x = bit n - 1 := by omega
      have hlx' : ¬ (x : Int) < ((bit n - 1 : Nat) : Int) := by omega
      rw [show x - 1 = bit n - 2 by omega] at hw hfl
      have ntw := (hw.own (by simp; omega)).nt
      have csw := (hw.own (by simp; omega)).cs
      try simp (disch := first | omega | (simp; done) | fail) [wrap64c, if_pos, if_neg, opAnd, opOr, opXor, opDiff, opShr, opBit, hu1, hu2, e0, e3, e4, e15, e16, hlt, e5, e6, e7, hg, hlx', ntw, csw]
      obtain ⟨w2, h2, hap, hw2, ha3, hn3, hs3⟩ := appI3 hw ((bit n - 1 : Nat) : Int) (by simp; omega) ha2.1.1 ha2 (Nat.le_refl _)
      obtain ⟨hsm, ho2⟩ := hs3 (fun o => o = hq.next + 1) (fun o e => by omega) ho
      have gb2 : h2.get (hq.next + 1) = .cells [.int .i64 (n : Int), w] true true 1 := by rw [hsm.2 _ rfl hnn]; exact hg
      rw [← toN_snoc] at hw2
      have hfe : 0 :: famS f (bit n - 2) ++ [bit n - 1] = famL n f := rfl
      rw [hfe] at hw2
      have hfll := famL_len n f p1
      have ntw2 := (hw2.own (by simp; omega)).nt
      have csw2 := (hw2.own (by simp; omega)).cs
      try simp (disch := first | omega | (simp; done) | fail) [wrap64c, if_pos, if_neg, opAnd, opOr, opXor, opDiff, opShr, opBit, hu1, hu2, e0, e3, e4, e15, e16, hlt, e5, e6, e7, hg, hlx', ntw, csw, gb2, ntw2, csw2, hap, putCells]
      first | refine WY_heap fun h3 q_h3 => ?_ | refine callG_heap fun h3 q_h3 => ?_ | refine callP_heap fun h3 q_h3 => ?_ | refine callS_heap fun h3 q_h3 => ?_ | refine RY_heap fun h3 q_h3 => ?_ | refine PY_heap fun h3 q_h3 => ?_ | refine SY_heap fun h3 q_h3 => ?_ | refine doneY_heap fun h3 q_h3 => ?_ | refine loopK_heap fun h3 q_h3 => ?_ | refine thenY_heap fun h3 q_h3 => ?_ | refine thenM_heap fun h3 q_h3 => ?_
      have k3 : Adds hq h3 := by rw [q_h3]; exact (by first | exact aK | exact kK)
      have n3 : h3.next = h2.next := by simp [q_h3]
      have gb3 : h3.get (hq.next + 1) = .cells [.int .i64 (n : Int), w2] true true 1 := by simp [q_h3]
      have hw3 : IntsA hq.next h3 w2 (toN (famL n f)) := by rw [q_h3]; exact ia_putoff hw2 ho2 _
      have hO3 := hw3.own (by simp; omega)
      refine callG_c (by simp) (by simp) ?ha (isSpace_ok h3 (.agg #[.int .i64 (n : Int), w2]) n (toN (famL n f)) (.mk hO3.ints) (by simp; omega)) ?_
      (case ha => simp (disch := first | omega | (simp; done) | fail) [wrap64c, if_pos, if_neg, opAnd, opOr, opXor, opDiff, opShr, opBit, hu1, hu2, e0, e3, e4, e15, e16, hlt, e5, e6, e7, hg, hlx', ntw, csw, gb2, ntw2, csw2, gb3])
      cases hc : spB n (toN (famL n f))
      · rw [hc] at hcs
        try simp (disch := first | omega | (simp; done) | fail) [wrap64c, if_pos, if_neg, opAnd, opOr, opXor, opDiff, opShr, opBit, hu1, hu2, e0, e3, e4, e15, e16, hlt, e5, e6, e7, hg, hlx', ntw, csw, gb2, ntw2, csw2, gb3, hc]
        refine loopK_next _ ?hm ?hf ⟨f + 1, u, rfl, (by simp (disch := first | omega | (simp; done) | fail) [wrap64c, if_pos, if_neg, opAnd, opOr, opXor, opDiff, opShr, opBit, hu1, hu2, e0, e3, e4, e15, e16, hlt, e5, e6, e7, hg, hlx', ntw, csw, gb2, ntw2, csw2, gb3, hc] <;> omega), (by simp (disch := first | omega | (simp; done) | fail) [wrap64c, if_pos, if_neg, opAnd, opOr, opXor, opDiff, opShr, opBit, hu1, hu2, e0, e3, e4, e15, e16, hlt, e5, e6, e7, hg, hlx', ntw, csw, gb2, ntw2, csw2, gb3, hc] <;> omega), (by first | omega | assumption | (simp (disch := first | omega | (simp; done) | fail) [wrap64c, if_pos, if_neg, opAnd, opOr, opXor, opDiff, opShr, opBit, hu1, hu2, e0, e3, e4, e15, e16, hlt, e5, e6, e7, hg, hlx', ntw, csw, gb2, ntw2, csw2, gb3, hc] <;> omega)), (ha.trans k3), (by rw [hcs]; exact hu.keep (spO_steady n) k3.1)⟩
        (case hm => first | omega | (simp; omega))
        (case hf => simp [FrameL, hu1, hu2, e0, e3, e4, e15, e16, hlt, e5, e6, e7, hg, hlx', ntw, csw, gb2, ntw2, csw2, gb3, hc, f0_0, f4_0, f15_0])
      · rw [hc] at hcs
        try simp (disch := first | omega | (simp; done) | fail) [wrap64c, if_pos, if_neg, opAnd, opOr, opXor, opDiff, opShr, opBit, hu1, hu2, e0, e3, e4, e15, e16, hlt, e5, e6, e7, hg, hlx', ntw, csw, gb2, ntw2, csw2, gb3, hc]
        obtain ⟨u4, h4, hap4, hu4, ha4, hn4⟩ := appS hu k3.1 (hO3.sub fun o ho => ho.1) (by omega) ha.1.1 (ha.trans k3) (Nat.le_refl _)
        try simp (disch := first | omega | (simp; done) | fail) [wrap64c, if_pos, if_neg, opAnd, opOr, opXor, opDiff, opShr, opBit, hu1, hu2, e0, e3, e4, e15, e16, hlt, e5, e6, e7, hg, hlx', ntw, csw, gb2, ntw2, csw2, gb3, hc, hap4]
        refine loopK_next _ ?hm ?hf ⟨f + 1, u4, rfl, (by simp (disch := first | omega | (simp; done) | fail) [wrap64c, if_pos, if_neg, opAnd, opOr, opXor, opDiff, opShr, opBit, hu1, hu2, e0, e3, e4, e15, e16, hlt, e5, e6, e7, hg, hlx', ntw, csw, gb2, ntw2, csw2, gb3, hc] <;> omega), (by simp (disch := first | omega | (simp; done) | fail) [wrap64c, if_pos, if_neg, opAnd, opOr, opXor, opDiff, opShr, opBit, hu1, hu2, e0, e3, e4, e15, e16, hlt, e5, e6, e7, hg, hlx', ntw, csw, gb2, ntw2, csw2, gb3, hc] <;> omega), (by first | omega | assumption | (simp (disch := first | omega | (simp; done) | fail) [wrap64c, if_pos, if_neg, opAnd, opOr, opXor, opDiff, opShr, opBit, hu1, hu2, e0, e3, e4, e15, e16, hlt, e5, e6, e7, hg, hlx', ntw, csw, gb2, ntw2, csw2, gb3, hc] <;> omega)), ha4, (by rw [hcs]; exact hu4)⟩
        (case hm => first | omega | (simp; omega))
        (case hf => simp [FrameL, hu1, hu2, e0, e3, e4, e15, e16, hlt, e5, e6, e7, hg, hlx', ntw, csw, gb2, ntw2, csw2, gb3, hc, f0_0, f4_0, f15_0])
  · have hfe : f = bit (bit n - 2) := by omega
    rw [hfe] at hu
    have hcl := candK_len n (bit (bit n - 2))
    have hne : candK n (bit (bit n - 2)) ≠ [] := candK_ne p1 (by omega)
    try simp (disch := first | omega | (simp; done) | fail) [wrap64c, if_pos, if_neg, opAnd, opOr, opXor, opDiff, opShr, opBit, hu1, hu2, e0, e3, e4, e15, e16, hlt]
    obtain ⟨h2, hc2, hu2, hn2, ha2, hs2⟩ := sortF_ok (P := Try.prog) Go.Proofs.Srtf.lay6 (fun w => run_aggT ty_aggT_26) (fun w => run_szT ty_szT_26) (g := 142) (enters_of Try.func142 (by kernel_rfl) rfl) (spO_steady n) (R' := spF n) cmpN cmpN_swo hu hne (by omega)
      (fun F o u x => spO_ro n _ F o u x) (fun h' F a b x y hx hy => spF_cmp n h' F a b x y hx hy) (fun i j hi hj h1 h2 => by
        simp only [Go.Proofs.ltOf, decide_eq_false_iff_not] at h1 h2
        exact nodup_ix (candK_nodup p1 (Nat.le_refl _)) hi hj (cmpN_total h1 h2))
    refine callG_c (by simp) (by simp) ?ha (hc2) ?_
    (case ha => simp (disch := first | omega | (simp; done) | fail) [wrap64c, if_pos, if_neg, opAnd, opOr, opXor, opDiff, opShr, opBit, hu1, hu2, e0, e3, e4, e15, e16, hlt])
    try simp (disch := first | omega | (simp; done) | fail) [wrap64c, if_pos, if_neg, opAnd, opOr, opXor, opDiff, opShr, opBit, hu1, hu2, e0, e3, e4, e15, e16, hlt]
    exact done_ret rfl ⟨ha2 _ ha (Nat.le_refl _), hu2⟩
end Go.Proofs.Ytnncipcldbopgaa
namespace Go.Proofs.Ytnncipcldbopgaa
set_option linter.unusedSimpArgs false
set_option linter.unusedVariables false
set_option maxHeartbeats 4000000
open Go Go.Eng
attribute [local irreducible] WD RunD PreD Runs CallOK
theorem alGood_ok (h : Hp) (v : Value) (n : Nat) (xs : List Nat) (hv : Space h v n (toN xs)) (hs : xs.Pairwise (· < ·)) (hx : ∀ x ∈ xs, x < 128) (hl : xs.length < 2 ^ 30) (hne : 0 < xs.length) :
    CallOK Try.prog 222 #[v] h (.bool (spB n (toN xs))) h := by
  refine callY_P 21 _ [.tmp 2] Try.func222 rfl rfl rfl (by first | rfl | simp) ?_
  obtain ⟨b, rfl, hX⟩ := hv
  have hln := toN_length xs
  have hgt := toN_get xs
  obtain ⟨o_x, i_x, c_x, cs_x, own_x, ex_x, es_x, q_x, b_x, g_x, l_x, r_x⟩ := hX.open ((by omega))
  have z_x : ∀ h2 : i_x < cs_x.length, cs_x[i_x] = _ := fun h2 => r_x 0 ((by omega)) h2
  have hXq := hX
  rw [q_x] at hXq
  have hD := sl_drop (k := 1) hXq (by omega)
  have hcx : xs.length ≤ c_x ∧ c_x < 2 ^ 63 := by
    obtain ⟨s, c, e, h1, h2⟩ := Sl.form hXq
    cases e
    omega
  rw [hln] at hD q_x
  have hDI : Ints h (.slice (some ⟨o_x, i_x + 1, none⟩) (xs.length - 1) (c_x - 1)) ((toN xs).drop 1) := hD
  have hnl : ((xs.length - 1 : Nat) : Int) = (xs.length : Int) - 1 := by omega
  try simp (disch := first | omega | (simp; done) | fail) [wrap64c, if_pos, if_neg, opAnd, opOr, opXor, opDiff, opShr, opBit, hgt, q_x, g_x, l_x, r_x, z_x]
  first | refine WY_heap fun h0 q_h0 => ?_ | refine callG_heap fun h0 q_h0 => ?_ | refine callP_heap fun h0 q_h0 => ?_ | refine callS_heap fun h0 q_h0 => ?_ | refine RY_heap fun h0 q_h0 => ?_ | refine PY_heap fun h0 q_h0 => ?_ | refine SY_heap fun h0 q_h0 => ?_ | refine doneY_heap fun h0 q_h0 => ?_ | refine loopK_heap fun h0 q_h0 => ?_ | refine thenY_heap fun h0 q_h0 => ?_ | refine thenM_heap fun h0 q_h0 => ?_
  have k0 : Adds h h0 := by rw [q_h0]; exact (by first | exact aK | exact kK)
  have g0 : h0.get h.next = .cells [.int .i64 (n : Int), .slice (some ⟨o_x, i_x, none⟩) xs.length c_x] true true 1 := by simp [q_h0]
  have hD0 := hDI.keep k0.1
  have hX0 : Ints h0 (.slice (some ⟨o_x, i_x, none⟩) xs.length c_x) (toN xs) := by have := hX.keep k0.1; rw [q_x] at this; exact this
  have hdl : ((toN xs).drop 1).length = xs.length - 1 := by simp
  try simp (disch := first | omega | (simp; done) | fail) [wrap64c, if_pos, if_neg, opAnd, opOr, opXor, opDiff, opShr, opBit, hgt, q_x, g_x, l_x, r_x, z_x, g0]
  refine WD_loopC [1, 7, 8] (fun m tm h' => ∃ j, m = xs.length - 1 - j ∧ h0 = h' ∧ tm 9 = .int .i64 (j : Int) ∧ (j ≤ xs.length - 1)) _ ⟨0, rfl, rfl, (by simp (disch := first | omega | (simp; done) | fail) [wrap64c, if_pos, if_neg, opAnd, opOr, opXor, opDiff, opShr, opBit, hgt, q_x, g_x, l_x, r_x, z_x, g0]), (by first | omega | assumption | (simp (disch := first | omega | (simp; done) | fail) [wrap64c, if_pos, if_neg, opAnd, opOr, opXor, opDiff, opShr, opBit, hgt, q_x, g_x, l_x, r_x, z_x, g0] <;> omega))⟩ ?_
  rintro m tm h' hFr ⟨j, rfl, rfl, e9, hj⟩
  simp only [FrameL] at hFr
  obtain ⟨f1_0, f7_0, f8_0, -⟩ := hFr
  try simp (disch := first | omega | (simp; done) | fail) [wrap64c, if_pos, if_neg, opAnd, opOr, opXor, opDiff, opShr, opBit, hgt, q_x, g_x, l_x, r_x, z_x, g0] at f1_0 f7_0 f8_0
  have e1 := f1_0
  have e7 := f7_0
  have e8 := f8_0
  by_cases hlt : j < xs.length - 1
  · obtain ⟨y, hy⟩ : ∃ y, y = xs[j + 1]'(by omega) := ⟨_, rfl⟩
    have hyx : y ∈ xs := hy ▸ List.getElem_mem _
    have hy7 := hx y hyx
    have hd1 : ((toN xs).drop 1)[j]'(by rw [hdl]; exact hlt) = (y : Int) := by rw [List.getElem_drop, hgt _ (by simp; omega), hy]; congr 2; omega
    have hjl : (j : Int) < ((xs.length - 1 : Nat) : Int) := by omega
    obtain ⟨o, i, c, cs, own, ex, es, e1, e2, e3, e4⟩ := hD0.at (k := j) (by rw [hdl]; exact hlt)
    simp only [Value.slice.injEq, Option.some.injEq, Addr.mk.injEq] at e1
    obtain ⟨⟨y1, y2, _⟩, _, y3⟩ := e1
    subst y1 y2 y3
    have e2 := e2
    rw [hd1] at e4
    have e5 : ∀ h2 : i_x + 1 + j < cs.length, cs[i_x + 1 + j] = .int .i64 (y : Int) := fun _ => e4
    try simp (disch := first | omega | (simp; done) | fail) [wrap64c, if_pos, if_neg, opAnd, opOr, opXor, opDiff, opShr, opBit, hgt, q_x, g_x, l_x, r_x, z_x, g0, e1, e7, e8, e9, hlt, hjl, e2, e5, e3]
    refine callG_c (by simp) (by simp) ?ha (spInner_ok h0 _ xs y hX0 (by omega) hs hy7) ?_
    (case ha => simp (disch := first | omega | (simp; done) | fail) [wrap64c, if_pos, if_neg, opAnd, opOr, opXor, opDiff, opShr, opBit, hgt, q_x, g_x, l_x, r_x, z_x, g0, e1, e7, e8, e9, hlt, hjl, e2, e5, e3])
    by_cases hin : innerN (fam xs) y = 0
    · have hz : ((innerN (fam xs) y : Nat) : Int) == 0 := by simp [hin]
      have hb : spB n (toN xs) = false := spB_no fun g => g.inn y hyx (fun e => by
        have := List.pairwise_iff_getElem.1 hs 0 (j + 1) (by omega) (by omega) (by omega)
        omega) hin
      try simp (disch := first | omega | (simp; done) | fail) [wrap64c, if_pos, if_neg, opAnd, opOr, opXor, opDiff, opShr, opBit, hgt, q_x, g_x, l_x, r_x, z_x, g0, e1, e7, e8, e9, hlt, hjl, e2, e5, e3, hin]
      exact done_ret rfl (by simp [hb, k0.1])
    · have hz : (((innerN (fam xs) y : Nat) : Int) == 0) = false := by simp [hin]
      try simp (disch := first | omega | (simp; done) | fail) [wrap64c, if_pos, if_neg, opAnd, opOr, opXor, opDiff, opShr, opBit, hgt, q_x, g_x, l_x, r_x, z_x, g0, e1, e7, e8, e9, hlt, hjl, e2, e5, e3, hz, hin]
      refine loopK_next _ ?hm ?hf ⟨j + 1, rfl, rfl, (by simp (disch := first | omega | (simp; done) | fail) [wrap64c, if_pos, if_neg, opAnd, opOr, opXor, opDiff, opShr, opBit, hgt, q_x, g_x, l_x, r_x, z_x, g0, e1, e7, e8, e9, hlt, hjl, e2, e5, e3] <;> omega), (by first | omega | assumption | (simp (disch := first | omega | (simp; done) | fail) [wrap64c, if_pos, if_neg, opAnd, opOr, opXor, opDiff, opShr, opBit, hgt, q_x, g_x, l_x, r_x, z_x, g0, e1, e7, e8, e9, hlt, hjl, e2, e5, e3] <;> omega))⟩
      (case hm => first | omega | (simp; omega))
      (case hf => simp [FrameL, hgt, q_x, g_x, l_x, r_x, z_x, g0, e1, e7, e8, e9, hlt, hjl, e2, e5, e3, f1_0, f7_0, f8_0])
  · try simp (disch := first | omega | (simp; done) | fail) [wrap64c, if_pos, if_neg, opAnd, opOr, opXor, opDiff, opShr, opBit, hgt, q_x, g_x, l_x, r_x, z_x, g0, e1, e7, e8, e9, hlt]
    refine callG_c (by simp) (by simp) ?ha (spGood_ok h0 (.agg #[.int .i64 (n : Int), .slice (some ⟨o_x, i_x, none⟩) xs.length c_x]) n (toN xs) (.mk hX0) (by omega)) ?_
    (case ha => simp (disch := first | omega | (simp; done) | fail) [wrap64c, if_pos, if_neg, opAnd, opOr, opXor, opDiff, opShr, opBit, hgt, q_x, g_x, l_x, r_x, z_x, g0, e1, e7, e8, e9, hlt])
    try simp (disch := first | omega | (simp; done) | fail) [wrap64c, if_pos, if_neg, opAnd, opOr, opXor, opDiff, opShr, opBit, hgt, q_x, g_x, l_x, r_x, z_x, g0, e1, e7, e8, e9, hlt]
    exact done_ret rfl (by simp [k0.1])
theorem alFamily_ok (h : Hp) (n f : Nat) (p1 : 1 ≤ n) (p4 : n ≤ 4) (hf : f < bit (bit n - 2)) :
    CallOK Try.prog 149 #[.int .i64 (f : Int), .int .i64 ((bit n - 1 : Nat) : Int)] h (.bool (spB n (toN (famL n f)))) h := by
  refine callY_P 44 _ [.tmp 4] Try.func149 rfl rfl rfl (by first | rfl | simp) ?_
  have hb16 : 2 ≤ bit n ∧ bit n ≤ 16 := ⟨bit_mono (i := 1) p1, bit_mono (j := 4) p4⟩
  have hbb : bit (bit n - 2) ≤ 16384 := bit_mono (j := 14) (by omega)
  try simp (disch := first | omega | (simp; done) | fail) [wrap64c, if_pos, if_neg, opAnd, opOr, opXor, opDiff, opShr, opBit, putCells]
  first | refine WY_heap fun h1 q_h1 => ?_ | refine callG_heap fun h1 q_h1 => ?_ | refine callP_heap fun h1 q_h1 => ?_ | refine callS_heap fun h1 q_h1 => ?_ | refine RY_heap fun h1 q_h1 => ?_ | refine PY_heap fun h1 q_h1 => ?_ | refine SY_heap fun h1 q_h1 => ?_ | refine doneY_heap fun h1 q_h1 => ?_ | refine loopK_heap fun h1 q_h1 => ?_ | refine thenY_heap fun h1 q_h1 => ?_ | refine thenM_heap fun h1 q_h1 => ?_
  have k1 : Adds h h1 := by rw [q_h1]; exact (by first | exact aK | exact kK)
  have n1 : h1.next = h.next + 2 := by simp [q_h1]
  have gb1 : h1.get (h.next + 1) = .cells [.int .i64 1, .slice (some ⟨h.next, 0, none⟩) 1 1] true true 1 := by simp [q_h1]
  have gl1 : h1.get h.next = .cells [.int .i64 0] true true 1 := by simp [q_h1]
  refine WD_loopC [0, 1, 5] (fun m tm h' => ∃ i, m = n - i ∧ (1 ≤ i ∧ i ≤ n) ∧ (Adds h h') ∧ (h'.next = h.next + 2) ∧ (h'.get (h.next + 1) = .cells [.int .i64 (i : Int), .slice (some ⟨h.next, 0, none⟩) 1 1] true true 1) ∧ (h'.get h.next = .cells [.int .i64 0] true true 1)) _ ⟨1, rfl, (by first | omega | assumption | (simp (disch := first | omega | (simp; done) | fail) [wrap64c, if_pos, if_neg, opAnd, opOr, opXor, opDiff, opShr, opBit] <;> omega)), k1, n1, gb1, gl1⟩ ?_
  rintro m tm h' hFr ⟨i, rfl, hi, ha, hnx, hgA, hgl⟩
  simp only [FrameL] at hFr
  obtain ⟨f0_0, f1_0, f5_0, -⟩ := hFr
  try simp (disch := first | omega | (simp; done) | fail) [wrap64c, if_pos, if_neg, opAnd, opOr, opXor, opDiff, opShr, opBit] at f0_0 f1_0 f5_0
  have e0 := f0_0
  have e1 := f1_0
  have e5 := f5_0
  have hbi : 1 ≤ bit i ∧ bit i ≤ bit n := ⟨bit_pos i, bit_mono hi.2⟩
  have hbi16 : bit i ≤ 16 := by omega
  have hbs : ((bit n - 1 : Nat) : Int) = (bit n : Int) - 1 := by omega
  by_cases hlt : i < n
  · have hbl := bit_lt_bit hlt
    have hg := hgA
    have hc : ((bit i : Nat) : Int) - 1 < ((bit n - 1 : Nat) : Int) := by omega
    try simp (disch := first | omega | (simp; done) | fail) [wrap64c, if_pos, if_neg, opAnd, opOr, opXor, opDiff, opShr, opBit, e0, e1, e5, hg, hc, putCells]
    refine loopK_next _ ?hm ?hf ⟨i + 1, rfl, (by first | omega | assumption | (simp (disch := first | omega | (simp; done) | fail) [wrap64c, if_pos, if_neg, opAnd, opOr, opXor, opDiff, opShr, opBit, e0, e1, e5, hg, hc] <;> omega)), (by first | exact aK | exact kK), (by simpa using hnx), (by simp), (by simp [hgl])⟩
    (case hm => first | omega | (simp; omega))
    (case hf => simp [FrameL, e0, e1, e5, hg, hc, f0_0, f1_0, f5_0])
  · have hin : i = n := by omega
    have hc : ¬ (((bit i : Nat) : Int) - 1 < ((bit n - 1 : Nat) : Int)) := by rw [hin]; omega
    rename Hp => hq
    have hg2 : hq.get (h.next + 1) = .cells [.int .i64 (n : Int), .slice (some ⟨h.next, 0, none⟩) 1 1] true true 1 := by rw [← hin]; exact hgA
    try simp (disch := first | omega | (simp; done) | fail) [wrap64c, if_pos, if_neg, opAnd, opOr, opXor, opDiff, opShr, opBit, e0, e1, e5, hc, hgA, hin]
    refine WD_loopC [0, 1, 5] (fun m tm h' => ∃ x w, m = bit n - 1 - x ∧ tm 6 = .int .i64 (x : Int) ∧ (x ≤ bit n - 1 ∧ 1 ≤ x) ∧ (Adds h h') ∧ (IntsA h.next h' w (toN (0 :: famS f (x - 1)))) ∧ (h'.get (h.next + 1) = .cells [.int .i64 (n : Int), w] true true 1) ∧ (OffF (fun o => o = h.next + 1) w) ∧ (h.next + 1 < h'.next)) _ ⟨1, .slice (some ⟨h.next, 0, none⟩) 1 1, rfl, (by simp (disch := first | omega | (simp; done) | fail) [wrap64c, if_pos, if_neg, opAnd, opOr, opXor, opDiff, opShr, opBit, e0, e1, e5, hc]), (by first | omega | assumption | (simp (disch := first | omega | (simp; done) | fail) [wrap64c, if_pos, if_neg, opAnd, opOr, opXor, opDiff, opShr, opBit, e0, e1, e5, hc] <;> omega)), ha, (.inr ⟨h.next, true, by simp, Nat.le_refl _, by omega, by simp [hgl, toN]⟩), hg2, (.mk (by omega)), (by omega)⟩ ?_
    rintro m tm h' hFr ⟨x, w, rfl, e6, hx, ha2, hw, hg, ho, hnn⟩
    simp only [FrameL] at hFr
    obtain ⟨f0_1, f1_1, f5_1, -⟩ := hFr
    try simp (disch := first | omega | (simp; done) | fail) [wrap64c, if_pos, if_neg, opAnd, opOr, opXor, opDiff, opShr, opBit, e0, e1, e5, hc] at f0_1 f1_1 f5_1
    have e0 := f0_1
    have e1 := f1_1
    have e5 := f5_1
    have hfl := famS_len f (x - 1)
    rename Hp => hr
    by_cases hlx : x < bit n - 1
    · have hlx' : (x : Int) < ((bit n - 1 : Nat) : Int) := by omega
      have hx1 : IntKind.wrap .i64 ((x : Int) - 1) = ((x - 1 : Nat) : Int) := by rw [wrap64c _ (by omega) (by omega)]; omega
      have hfs := famS_succ f (x - 1)
      rw [show x - 1 + 1 = x by omega] at hfs
      try simp (disch := first | omega | (simp; done) | fail) [wrap64c, if_pos, if_neg, opAnd, opOr, opXor, opDiff, opShr, opBit, e0, e1, e5, hc, e6, hg, hlx', hx1]
      refine callG_c (by simp) (by simp) ?ha (spIn_ok hr f (x - 1) (by omega) (by omega)) ?_
      (case ha => simp (disch := first | omega | (simp; done) | fail) [wrap64c, if_pos, if_neg, opAnd, opOr, opXor, opDiff, opShr, opBit, e0, e1, e5, hc, e6, hg, hlx', hx1])
      cases hc : f.testBit (x - 1)
      · rw [hc] at hfs
        try simp (disch := first | omega | (simp; done) | fail) [wrap64c, if_pos, if_neg, opAnd, opOr, opXor, opDiff, opShr, opBit, e0, e1, e5, hc, e6, hg, hlx', hx1]
        refine loopK_next _ ?hm ?hf ⟨x + 1, w, rfl, (by simp (disch := first | omega | (simp; done) | fail) [wrap64c, if_pos, if_neg, opAnd, opOr, opXor, opDiff, opShr, opBit, e0, e1, e5, hc, e6, hg, hlx', hx1] <;> omega), (by first | omega | assumption | (simp (disch := first | omega | (simp; done) | fail) [wrap64c, if_pos, if_neg, opAnd, opOr, opXor, opDiff, opShr, opBit, e0, e1, e5, hc, e6, hg, hlx', hx1] <;> omega)), (by first | omega | assumption | (simp (disch := first | omega | (simp; done) | fail) [wrap64c, if_pos, if_neg, opAnd, opOr, opXor, opDiff, opShr, opBit, e0, e1, e5, hc, e6, hg, hlx', hx1] <;> omega)), (by rw [show x + 1 - 1 = x by omega, hfs]; exact hw), (by first | omega | assumption | (simp (disch := first | omega | (simp; done) | fail) [wrap64c, if_pos, if_neg, opAnd, opOr, opXor, opDiff, opShr, opBit, e0, e1, e5, hc, e6, hg, hlx', hx1] <;> omega)), (by first | omega | assumption | (simp (disch := first | omega | (simp; done) | fail) [wrap64c, if_pos, if_neg, opAnd, opOr, opXor, opDiff, opShr, opBit, e0, e1, e5, hc, e6, hg, hlx', hx1] <;> omega)), (by first | omega | assumption | (simp (disch := first | omega | (simp; done) | fail) [wrap64c, if_pos, if_neg, opAnd, opOr, opXor, opDiff, opShr, opBit, e0, e1, e5, hc, e6, hg, hlx', hx1] <;> omega))⟩
        (case hm => first | omega | (simp; omega))
        (case hf => simp [FrameL, e0, e1, e5, hc, e6, hg, hlx', hx1, f0_1, f1_1, f5_1])
      · rw [hc] at hfs
        have ntw := (hw.own (by simp; omega)).nt
        have csw := (hw.own (by simp; omega)).cs
        try simp (disch := first | omega | (simp; done) | fail) [wrap64c, if_pos, if_neg, opAnd, opOr, opXor, opDiff, opShr, opBit, e0, e1, e5, hc, e6, hg, hlx', hx1, ntw, csw]
        obtain ⟨w2, h2, hap, hw2, ha3, hn3, hs3⟩ := appI3 hw (x : Int) (by simp; omega) ha2.1.1 ha2 (Nat.le_refl _)
        obtain ⟨hsm, ho2⟩ := hs3 (fun o => o = h.next + 1) (fun o e => by omega) ho
        have gb2 : h2.get (h.next + 1) = .cells [.int .i64 (n : Int), w] true true 1 := by rw [hsm.2 _ rfl hnn]; exact hg
        have ntw2 := (hw2.own (by simp; omega)).nt
        have csw2 := (hw2.own (by simp; omega)).cs
        try simp (disch := first | omega | (simp; done) | fail) [wrap64c, if_pos, if_neg, opAnd, opOr, opXor, opDiff, opShr, opBit, e0, e1, e5, hc, e6, hg, hlx', hx1, ntw, csw, gb2, ntw2, csw2, hap, putCells]
        refine loopK_next _ ?hm ?hf ⟨x + 1, w2, rfl, (by simp (disch := first | omega | (simp; done) | fail) [wrap64c, if_pos, if_neg, opAnd, opOr, opXor, opDiff, opShr, opBit, e0, e1, e5, hc, e6, hg, hlx', hx1, ntw, csw, gb2, ntw2, csw2] <;> omega), (by first | omega | assumption | (simp (disch := first | omega | (simp; done) | fail) [wrap64c, if_pos, if_neg, opAnd, opOr, opXor, opDiff, opShr, opBit, e0, e1, e5, hc, e6, hg, hlx', hx1, ntw, csw, gb2, ntw2, csw2] <;> omega)), (by first | exact aK | exact kK), ?c_hw, (by simp), ho2, (by simp; omega)⟩
        (case hm => first | omega | (simp; omega))
        (case hf => simp [FrameL, e0, e1, e5, hc, e6, hg, hlx', hx1, ntw, csw, gb2, ntw2, csw2, f0_1, f1_1, f5_1])
        case c_hw =>
          exact (by
            rw [show x + 1 - 1 = x by omega, hfs, if_pos rfl, show (0 :: (famS f (x - 1) ++ [x])) = (0 :: famS f (x - 1)) ++ [x] from rfl, toN_snoc]
            exact ia_putoff hw2 ho2 _)
    · have hxe : x = bit n - 1 := by omega
      have hlx' : ¬ (x : Int) < ((bit n - 1 : Nat) : Int) := by omega
      rw [show x - 1 = bit n - 2 by omega] at hw hfl
      have ntw := (hw.own (by simp; omega)).nt
      have csw := (hw.own (by simp; omega)).cs
      have hpos : 0 < ((bit n - 1 : Nat) : Int) := by omega
      try simp (disch := first | omega | (simp; done) | fail) [wrap64c, if_pos, if_neg, opAnd, opOr, opXor, opDiff, opShr, opBit, e0, e1, e5, hc, e6, hg, hlx', ntw, csw, hpos]
      obtain ⟨w2, h2, hap, hw2, ha3, hn3, hs3⟩ := appI3 hw ((bit n - 1 : Nat) : Int) (by simp; omega) ha2.1.1 ha2 (Nat.le_refl _)
      obtain ⟨hsm, ho2⟩ := hs3 (fun o => o = h.next + 1) (fun o e => by omega) ho
      have gb2 : h2.get (h.next + 1) = .cells [.int .i64 (n : Int), w] true true 1 := by rw [hsm.2 _ rfl hnn]; exact hg
      rw [← toN_snoc] at hw2
      have hfe : 0 :: famS f (bit n - 2) ++ [bit n - 1] = famL n f := rfl
      rw [hfe] at hw2
      have hfll := famL_len n f p1
      have ntw2 := (hw2.own (by simp; omega)).nt
      have csw2 := (hw2.own (by simp; omega)).cs
      try simp (disch := first | omega | (simp; done) | fail) [wrap64c, if_pos, if_neg, opAnd, opOr, opXor, opDiff, opShr, opBit, e0, e1, e5, hc, e6, hg, hlx', ntw, csw, hpos, gb2, ntw2, csw2, hap, putCells]
      first | refine WY_heap fun h3 q_h3 => ?_ | refine callG_heap fun h3 q_h3 => ?_ | refine callP_heap fun h3 q_h3 => ?_ | refine callS_heap fun h3 q_h3 => ?_ | refine RY_heap fun h3 q_h3 => ?_ | refine PY_heap fun h3 q_h3 => ?_ | refine SY_heap fun h3 q_h3 => ?_ | refine doneY_heap fun h3 q_h3 => ?_ | refine loopK_heap fun h3 q_h3 => ?_ | refine thenY_heap fun h3 q_h3 => ?_ | refine thenM_heap fun h3 q_h3 => ?_
      have k3 : Adds h h3 := by rw [q_h3]; exact (by first | exact aK | exact kK)
      have hw3 : IntsA h.next h3 w2 (toN (famL n f)) := by rw [q_h3]; exact ia_putoff hw2 ho2 _
      have hO3 := hw3.own (by simp; omega)
      have gb3 : h3.get (h.next + 1) = .cells [.int .i64 (n : Int), w2] true true 1 := by simp [q_h3]
      try simp (disch := first | omega | (simp; done) | fail) [wrap64c, if_pos, if_neg, opAnd, opOr, opXor, opDiff, opShr, opBit, e0, e1, e5, hc, e6, hg, hlx', ntw, csw, hpos, gb2, ntw2, csw2, gb3]
      refine callG_c (by simp) (by simp) ?ha (alGood_ok h3 (.agg #[.int .i64 (n : Int), w2]) n (famL n f) (.mk hO3.ints) (famL_srt p1) (fun y hy => by have := famL_lt p1 y hy; omega) (by omega) (by simp [famL])) ?_
      (case ha => simp (disch := first | omega | (simp; done) | fail) [wrap64c, if_pos, if_neg, opAnd, opOr, opXor, opDiff, opShr, opBit, e0, e1, e5, hc, e6, hg, hlx', ntw, csw, hpos, gb2, ntw2, csw2, gb3])
      try simp (disch := first | omega | (simp; done) | fail) [wrap64c, if_pos, if_neg, opAnd, opOr, opXor, opDiff, opShr, opBit, e0, e1, e5, hc, e6, hg, hlx', ntw, csw, hpos, gb2, ntw2, csw2, gb3]
      exact done_ret rfl (by simp [k3.1])
noncomputable def cntSpR (N : Int) : Int := if 1 ≤ N ∧ N ≤ 4 then ((spacesL N.toNat).length : Int) else 0
theorem specCount_ok (h : Hp) (N : Int) : CallOK Try.prog 40 #[.int .i64 N] h (.tuple #[.int .i64 (cntSpR N), .bool (decide (1 ≤ N ∧ N ≤ 4))]) h := by
  by_cases hc : 1 ≤ N ∧ N ≤ 4
  · obtain ⟨n, rfl⟩ := Int.eq_ofNat_of_zero_le (show 0 ≤ N by omega)
    have hc1 := hc
    refine callY_P 26 _ [.tmp 2, .tmp 3] Try.func40 rfl rfl rfl (by first | rfl | simp) ?_
    try simp (disch := first | omega | (simp; done) | fail) [wrap64c, if_pos, if_neg, opAnd, opOr, opXor, opDiff, opShr, opBit, hc1]
    refine callG_c (by simp) (by simp) ?ha (l1In_ok h n 1 4) ?_
    (case ha => simp (disch := first | omega | (simp; done) | fail) [wrap64c, if_pos, if_neg, opAnd, opOr, opXor, opDiff, opShr, opBit, hc1])
    have p1 : 1 ≤ n := by omega
    have p4 : n ≤ 4 := by omega
    have hb16 : 2 ≤ bit n ∧ bit n ≤ 16 := ⟨bit_mono (i := 1) p1, bit_mono (j := 4) p4⟩
    have hbb : bit (bit n - 2) ≤ 16384 := bit_mono (j := 14) (by omega)
    have hu2 : IntKind.wrap .i64 (((bit n : Nat) : Int) - 1) = ((bit n - 1 : Nat) : Int) := by rw [wrap64c _ (by omega) (by omega)]; omega
    have hu3 : IntKind.wrap .i64 (((bit n - 1 : Nat) : Int) - 1) = ((bit n - 2 : Nat) : Int) := by rw [wrap64c _ (by omega) (by omega)]; omega
    try simp (disch := first | omega | (simp; done) | fail) [wrap64c, if_pos, if_neg, opAnd, opOr, opXor, opDiff, opShr, opBit, hc1, hu2, hu3]
    refine WD_loopC [5] (fun m tm h' => ∃ f, m = bit (bit n - 2) - f ∧ h = h' ∧ tm 4 = .int .i64 ((candK n f).length : Int) ∧ tm 6 = .int .i64 (f : Int) ∧ (f ≤ bit (bit n - 2))) _ ⟨0, rfl, rfl, (by simp [candK]), (by simp (disch := first | omega | (simp; done) | fail) [wrap64c, if_pos, if_neg, opAnd, opOr, opXor, opDiff, opShr, opBit, hc1, hu2, hu3]), (by first | omega | assumption | (simp (disch := first | omega | (simp; done) | fail) [wrap64c, if_pos, if_neg, opAnd, opOr, opXor, opDiff, opShr, opBit, hc1, hu2, hu3] <;> omega))⟩ ?_
    rintro m tm h' hFr ⟨f, rfl, rfl, e4, e6, hf⟩
    simp only [FrameL] at hFr
    obtain ⟨f5_0, -⟩ := hFr
    try simp (disch := first | omega | (simp; done) | fail) [wrap64c, if_pos, if_neg, opAnd, opOr, opXor, opDiff, opShr, opBit, hc1, hu2, hu3] at f5_0
    have e5 := f5_0
    have hcl := candK_len n f
    have hcs := candK_succ n f
    by_cases hlt : f < bit (bit n - 2)
    · try simp (disch := first | omega | (simp; done) | fail) [wrap64c, if_pos, if_neg, opAnd, opOr, opXor, opDiff, opShr, opBit, hc1, hu2, hu3, e4, e5, e6, hlt]
      refine callG_c (by simp) (by simp) ?ha (alFamily_ok h n f p1 p4 hlt) ?_
      (case ha => simp (disch := first | omega | (simp; done) | fail) [wrap64c, if_pos, if_neg, opAnd, opOr, opXor, opDiff, opShr, opBit, hc1, hu2, hu3, e4, e5, e6, hlt])
      cases hc2 : spB n (toN (famL n f))
      · rw [hc2] at hcs
        try simp (disch := first | omega | (simp; done) | fail) [wrap64c, if_pos, if_neg, opAnd, opOr, opXor, opDiff, opShr, opBit, hc1, hu2, hu3, e4, e5, e6, hlt, hc2]
        refine loopK_next _ ?hm ?hf ⟨f + 1, rfl, rfl, (by simp [hcs, e4]), (by simp (disch := first | omega | (simp; done) | fail) [wrap64c, if_pos, if_neg, opAnd, opOr, opXor, opDiff, opShr, opBit, hc1, hu2, hu3, e4, e5, e6, hlt, hc2] <;> omega), (by first | omega | assumption | (simp (disch := first | omega | (simp; done) | fail) [wrap64c, if_pos, if_neg, opAnd, opOr, opXor, opDiff, opShr, opBit, hc1, hu2, hu3, e4, e5, e6, hlt, hc2] <;> omega))⟩
        (case hm => first | omega | (simp; omega))
        (case hf => simp [FrameL, hc1, hu2, hu3, e4, e5, e6, hlt, hc2, f5_0])
      · rw [hc2] at hcs
        try simp (disch := first | omega | (simp; done) | fail) [wrap64c, if_pos, if_neg, opAnd, opOr, opXor, opDiff, opShr, opBit, hc1, hu2, hu3, e4, e5, e6, hlt, hc2]
        refine loopK_next _ ?hm ?hf ⟨f + 1, rfl, rfl, (by simp [hcs]), (by simp (disch := first | omega | (simp; done) | fail) [wrap64c, if_pos, if_neg, opAnd, opOr, opXor, opDiff, opShr, opBit, hc1, hu2, hu3, e4, e5, e6, hlt, hc2] <;> omega), (by first | omega | assumption | (simp (disch := first | omega | (simp; done) | fail) [wrap64c, if_pos, if_neg, opAnd, opOr, opXor, opDiff, opShr, opBit, hc1, hu2, hu3, e4, e5, e6, hlt, hc2] <;> omega))⟩
        (case hm => first | omega | (simp; omega))
        (case hf => simp [FrameL, hc1, hu2, hu3, e4, e5, e6, hlt, hc2, f5_0])
    · have hfe : f = bit (bit n - 2) := by omega
      try simp (disch := first | omega | (simp; done) | fail) [wrap64c, if_pos, if_neg, opAnd, opOr, opXor, opDiff, opShr, opBit, hc1, hu2, hu3, e4, e5, e6, hlt]
      have hc3 : 1 ≤ (n : Int) ∧ (n : Int) ≤ 4 := hc
      exact done_ret rfl (by simp [cntSpR, hc3.1, hc3.2, spacesL_len, hfe, bit])
  · have hc1 := hc
    refine callY_P 26 _ [.tmp 2, .tmp 3] Try.func40 rfl rfl rfl (by first | rfl | simp) ?_
    try simp (disch := first | omega | (simp; done) | fail) [wrap64c, if_pos, if_neg, opAnd, opOr, opXor, opDiff, opShr, opBit, hc1]
    refine callG_c (by simp) (by simp) ?ha (l1In_ok h N 1 4) ?_
    (case ha => simp (disch := first | omega | (simp; done) | fail) [wrap64c, if_pos, if_neg, opAnd, opOr, opXor, opDiff, opShr, opBit, hc1])
    have hc' : (decide (1 ≤ N ∧ N ≤ 4)) = false := decide_eq_false hc
    try simp (disch := first | omega | (simp; done) | fail) [wrap64c, if_pos, if_neg, opAnd, opOr, opXor, opDiff, opShr, opBit, hc1, hc']
    exact done_ret rfl (by simp [cntSpR, hc])
theorem implCount_ok (h : Hp) (N : Int) : CallOK Try.prog 35 #[.int .i64 N] h (.tuple #[.int .i64 (cntSpR N), .bool (decide (1 ≤ N ∧ N ≤ 4))]) h := by
  by_cases hc : 1 ≤ N ∧ N ≤ 4
  · obtain ⟨n, rfl⟩ := Int.eq_ofNat_of_zero_le (show 0 ≤ N by omega)
    have hc1 := hc
    refine callY_P 10 _ [.tmp 2, .tmp 3] Try.func35 rfl rfl rfl (by first | rfl | simp) ?_
    try simp (disch := first | omega | (simp; done) | fail) [wrap64c, if_pos, if_neg, opAnd, opOr, opXor, opDiff, opShr, opBit, hc1]
    refine callG_c (by simp) (by simp) ?ha (within_ok h n 1 4) ?_
    (case ha => simp (disch := first | omega | (simp; done) | fail) [wrap64c, if_pos, if_neg, opAnd, opOr, opXor, opDiff, opShr, opBit, hc1])
    obtain ⟨v, h2, hc2, ha2, hG⟩ := spaces_ok h n (by omega) (by omega)
    have hL := hG.lenD
    try simp (disch := first | omega | (simp; done) | fail) [wrap64c, if_pos, if_neg, opAnd, opOr, opXor, opDiff, opShr, opBit, hc1, hL]
    refine callG_c (by simp) (by simp) ?ha (hc2) ?_
    (case ha => simp (disch := first | omega | (simp; done) | fail) [wrap64c, if_pos, if_neg, opAnd, opOr, opXor, opDiff, opShr, opBit, hc1, hL])
    try simp (disch := first | omega | (simp; done) | fail) [wrap64c, if_pos, if_neg, opAnd, opOr, opXor, opDiff, opShr, opBit, hc1, hL]
    have hc3 : 1 ≤ (n : Int) ∧ (n : Int) ≤ 4 := hc
    exact done_ret rfl (by simp [cntSpR, hc3.1, hc3.2, ha2.1])
  · have hc1 := hc
    refine callY_P 10 _ [.tmp 2, .tmp 3] Try.func35 rfl rfl rfl (by first | rfl | simp) ?_
    try simp (disch := first | omega | (simp; done) | fail) [wrap64c, if_pos, if_neg, opAnd, opOr, opXor, opDiff, opShr, opBit, hc1]
    refine callG_c (by simp) (by simp) ?ha (within_ok h N 1 4) ?_
    (case ha => simp (disch := first | omega | (simp; done) | fail) [wrap64c, if_pos, if_neg, opAnd, opOr, opXor, opDiff, opShr, opBit, hc1])
    have hc' : (decide (1 ≤ N ∧ N ≤ 4)) = false := decide_eq_false hc
    try simp (disch := first | omega | (simp; done) | fail) [wrap64c, if_pos, if_neg, opAnd, opOr, opXor, opDiff, opShr, opBit, hc1, hc']
    exact done_ret rfl (by simp [cntSpR, hc])
end Go.Proofs.Ytnncipcldbopgaa
namespace Go.Proofs.Ytnncipcldbopgaa
set_option linter.unusedSimpArgs false
set_option linter.unusedVariables false
set_option maxHeartbeats 4000000
open Go Go.Eng
attribute [local irreducible] WD RunD PreD Runs CallOK
theorem alSpaces_ok (h : Hp) (n : Nat) (p1 : 1 ≤ n) (p4 : n ≤ 4) :
    ∃ v' h', CallOK Try.prog 140 #[.int .i64 (n : Int)] h v' h' ∧ Adds h h' ∧ GL 2 (spO n) h.next h' v' (spacesL n) := by
  refine callY_L (args := [.int .i64 (n : Int)]) 78 _ [.tmp 2] Try.func140 rfl rfl rfl ?_
  have hb16 : 2 ≤ bit n ∧ bit n ≤ 16 := ⟨bit_mono (i := 1) p1, bit_mono (j := 4) p4⟩
  have hbb : bit (bit n - 2) ≤ 16384 := bit_mono (j := 14) (by omega)
  have hbp := bit_pos (bit n - 2)
  have hu2 : IntKind.wrap .i64 (((bit n : Nat) : Int) - 1) = ((bit n - 1 : Nat) : Int) := by rw [wrap64c _ (by omega) (by omega)]; omega
  have hu3 : IntKind.wrap .i64 (((bit n - 1 : Nat) : Int) - 1) = ((bit n - 2 : Nat) : Int) := by rw [wrap64c _ (by omega) (by omega)]; omega
  try simp (disch := first | omega | (simp; done) | fail) [wrap64c, if_pos, if_neg, opAnd, opOr, opXor, opDiff, opShr, opBit, hu2, hu3]
  refine WD_loopC [0, 3] (fun m tm h' => ∃ f u O, m = bit (bit n - 2) - f ∧ tm 4 = u ∧ tm 5 = .int .i64 (f : Int) ∧ (f ≤ bit (bit n - 2)) ∧ (Adds h h') ∧ (GL 2 (spO n) h.next h' u O) ∧ (O.Pairwise (fun x y => cmpN x y < 0)) ∧ (O.Perm (candK n f))) _ ⟨0, _, [], rfl, (by simp (disch := first | omega | (simp; done) | fail) [wrap64c, if_pos, if_neg, opAnd, opOr, opXor, opDiff, opShr, opBit, hu2, hu3]), (by simp (disch := first | omega | (simp; done) | fail) [wrap64c, if_pos, if_neg, opAnd, opOr, opXor, opDiff, opShr, opBit, hu2, hu3]), (by first | omega | assumption | (simp (disch := first | omega | (simp; done) | fail) [wrap64c, if_pos, if_neg, opAnd, opOr, opXor, opDiff, opShr, opBit, hu2, hu3] <;> omega)), (adds_self _), (.nil _ _), .nil, (by simp [candK])⟩ ?_
  rintro m tm h' hFr ⟨f, u, O, rfl, e4, e5, hf, ha, hu, hO1, hO2⟩
  simp only [FrameL] at hFr
  obtain ⟨f0_0, f3_0, -⟩ := hFr
  try simp (disch := first | omega | (simp; done) | fail) [wrap64c, if_pos, if_neg, opAnd, opOr, opXor, opDiff, opShr, opBit, hu2, hu3] at f0_0 f3_0
  have e0 := f0_0
  have e3 := f3_0
  have hcl := candK_len n f
  have hcs := candK_succ n f
  have hOl : O.length ≤ f := by rw [hO2.length_eq]; exact hcl
  by_cases hlt : f < bit (bit n - 2)
  · rename Hp => hq
    try simp (disch := first | omega | (simp; done) | fail) [wrap64c, if_pos, if_neg, opAnd, opOr, opXor, opDiff, opShr, opBit, hu2, hu3, e0, e3, e4, e5, hlt, putCells]
    first | refine WY_heap fun h1 q_h1 => ?_ | refine callG_heap fun h1 q_h1 => ?_ | refine callP_heap fun h1 q_h1 => ?_ | refine callS_heap fun h1 q_h1 => ?_ | refine RY_heap fun h1 q_h1 => ?_ | refine PY_heap fun h1 q_h1 => ?_ | refine SY_heap fun h1 q_h1 => ?_ | refine doneY_heap fun h1 q_h1 => ?_ | refine loopK_heap fun h1 q_h1 => ?_ | refine thenY_heap fun h1 q_h1 => ?_ | refine thenM_heap fun h1 q_h1 => ?_
    have k1 : Adds hq h1 := by rw [q_h1]; exact (by first | exact aK | exact kK)
    have n1 : h1.next = hq.next + 2 := by simp [q_h1]
    have gb1 : h1.get (hq.next + 1) = .cells [.int .i64 (n : Int), .slice (some ⟨hq.next, 0, none⟩) 1 1] true true 1 := by simp [q_h1]
    have gl1 : h1.get hq.next = .cells [.int .i64 0] true true 1 := by simp [q_h1]
    refine WD_loopC [0, 3, 4, 5, 6] (fun m tm h' => ∃ x w, m = bit n - 1 - x ∧ tm 7 = .int .i64 (x : Int) ∧ (x ≤ bit n - 1 ∧ 1 ≤ x) ∧ (Adds hq h') ∧ (IntsA hq.next h' w (toN (0 :: famS f (x - 1)))) ∧ (h'.get (hq.next + 1) = .cells [.int .i64 (n : Int), w] true true 1) ∧ (OffF (fun o => o = hq.next + 1) w) ∧ (hq.next + 1 < h'.next)) _ ⟨1, .slice (some ⟨hq.next, 0, none⟩) 1 1, rfl, (by simp (disch := first | omega | (simp; done) | fail) [wrap64c, if_pos, if_neg, opAnd, opOr, opXor, opDiff, opShr, opBit, hu2, hu3, e0, e3, e4, e5, hlt]), (by first | omega | assumption | (simp (disch := first | omega | (simp; done) | fail) [wrap64c, if_pos, if_neg, opAnd, opOr, opXor, opDiff, opShr, opBit, hu2, hu3, e0, e3, e4, e5, hlt] <;> omega)), k1, (.inr ⟨hq.next, true, by simp, Nat.le_refl _, by omega, by simp [gl1, toN]⟩), gb1, (.mk (by omega)), (by omega)⟩ ?_
    rintro m tm h' hFr ⟨x, w, rfl, e7, hx, ha2, hw, hg, ho, hnn⟩
    simp only [FrameL] at hFr
    obtain ⟨f0_1, f3_1, f4_1, f5_1, f6_1, -⟩ := hFr
    try simp (disch := first | omega | (simp; done) | fail) [wrap64c, if_pos, if_neg, opAnd, opOr, opXor, opDiff, opShr, opBit, hu2, hu3, e0, e3, e4, e5, hlt] at f0_1 f3_1 f4_1 f5_1 f6_1
    have e0 := f0_1
    have e3 := f3_1
    have e4 := f4_1
    have e5 := f5_1
    have e6 := f6_1
    have hfl := famS_len f (x - 1)
    rename Hp => hr
    by_cases hlx : x < bit n - 1
    · have hlx' : (x : Int) < ((bit n - 1 : Nat) : Int) := by omega
      have hx1 : IntKind.wrap .i64 ((x : Int) - 1) = ((x - 1 : Nat) : Int) := by rw [wrap64c _ (by omega) (by omega)]; omega
      have hfs := famS_succ f (x - 1)
      rw [show x - 1 + 1 = x by omega] at hfs
      try simp (disch := first | omega | (simp; done) | fail) [wrap64c, if_pos, if_neg, opAnd, opOr, opXor, opDiff, opShr, opBit, hu2, hu3, e0, e3, e4, e5, hlt, e6, e7, hg, hlx', hx1]
      refine callG_c (by simp) (by simp) ?ha (spIn_ok hr f (x - 1) (by omega) (by omega)) ?_
      (case ha => simp (disch := first | omega | (simp; done) | fail) [wrap64c, if_pos, if_neg, opAnd, opOr, opXor, opDiff, opShr, opBit, hu2, hu3, e0, e3, e4, e5, hlt, e6, e7, hg, hlx', hx1])
      cases hc : f.testBit (x - 1)
      · rw [hc] at hfs
        try simp (disch := first | omega | (simp; done) | fail) [wrap64c, if_pos, if_neg, opAnd, opOr, opXor, opDiff, opShr, opBit, hu2, hu3, e0, e3, e4, e5, hlt, e6, e7, hg, hlx', hx1, hc]
        refine loopK_next _ ?hm ?hf ⟨x + 1, w, rfl, (by simp (disch := first | omega | (simp; done) | fail) [wrap64c, if_pos, if_neg, opAnd, opOr, opXor, opDiff, opShr, opBit, hu2, hu3, e0, e3, e4, e5, hlt, e6, e7, hg, hlx', hx1, hc] <;> omega), (by first | omega | assumption | (simp (disch := first | omega | (simp; done) | fail) [wrap64c, if_pos, if_neg, opAnd, opOr, opXor, opDiff, opShr, opBit, hu2, hu3, e0, e3, e4, e5, hlt, e6, e7, hg, hlx', hx1, hc] <;> omega)), (by first | omega | assumption | (simp (disch := first | omega | (simp; done) | fail) [wrap64c, if_pos, if_neg, opAnd, opOr, opXor, opDiff, opShr, opBit, hu2, hu3, e0, e3, e4, e5, hlt, e6, e7, hg, hlx', hx1, hc] <;> omega)), (by rw [show x + 1 - 1 = x by omega, hfs]; exact hw), (by first | omega | assumption | (simp (disch := first | omega | (simp; done) | fail) [wrap64c, if_pos, if_neg, opAnd, opOr, opXor, opDiff, opShr, opBit, hu2, hu3, e0, e3, e4, e5, hlt, e6, e7, hg, hlx', hx1, hc] <;> omega)), (by first | omega | assumption | (simp (disch := first | omega | (simp; done) | fail) [wrap64c, if_pos, if_neg, opAnd, opOr, opXor, opDiff, opShr, opBit, hu2, hu3, e0, e3, e4, e5, hlt, e6, e7, hg, hlx', hx1, hc] <;> omega)), (by first | omega | assumption | (simp (disch := first | omega | (simp; done) | fail) [wrap64c, if_pos, if_neg, opAnd, opOr, opXor, opDiff, opShr, opBit, hu2, hu3, e0, e3, e4, e5, hlt, e6, e7, hg, hlx', hx1, hc] <;> omega))⟩
        (case hm => first | omega | (simp; omega))
        (case hf => simp [FrameL, hu2, hu3, e0, e3, e4, e5, hlt, e6, e7, hg, hlx', hx1, hc, f0_1, f3_1, f4_1, f5_1, f6_1])
      · rw [hc] at hfs
        have ntw := (hw.own (by simp; omega)).nt
        have csw := (hw.own (by simp; omega)).cs
        try simp (disch := first | omega | (simp; done) | fail) [wrap64c, if_pos, if_neg, opAnd, opOr, opXor, opDiff, opShr, opBit, hu2, hu3, e0, e3, e4, e5, hlt, e6, e7, hg, hlx', hx1, hc, ntw, csw]
        obtain ⟨w2, h2, hap, hw2, ha3, hn3, hs3⟩ := appI3 hw (x : Int) (by simp; omega) ha2.1.1 ha2 (Nat.le_refl _)
        obtain ⟨hsm, ho2⟩ := hs3 (fun o => o = hq.next + 1) (fun o e => by omega) ho
        have gb2 : h2.get (hq.next + 1) = .cells [.int .i64 (n : Int), w] true true 1 := by rw [hsm.2 _ rfl hnn]; exact hg
        have ntw2 := (hw2.own (by simp; omega)).nt
        have csw2 := (hw2.own (by simp; omega)).cs
        try simp (disch := first | omega | (simp; done) | fail) [wrap64c, if_pos, if_neg, opAnd, opOr, opXor, opDiff, opShr, opBit, hu2, hu3, e0, e3, e4, e5, hlt, e6, e7, hg, hlx', hx1, hc, ntw, csw, gb2, ntw2, csw2, hap, putCells]
        refine loopK_next _ ?hm ?hf ⟨x + 1, w2, rfl, (by simp (disch := first | omega | (simp; done) | fail) [wrap64c, if_pos, if_neg, opAnd, opOr, opXor, opDiff, opShr, opBit, hu2, hu3, e0, e3, e4, e5, hlt, e6, e7, hg, hlx', hx1, hc, ntw, csw, gb2, ntw2, csw2] <;> omega), (by first | omega | assumption | (simp (disch := first | omega | (simp; done) | fail) [wrap64c, if_pos, if_neg, opAnd, opOr, opXor, opDiff, opShr, opBit, hu2, hu3, e0, e3, e4, e5, hlt, e6, e7, hg, hlx', hx1, hc, ntw, csw, gb2, ntw2, csw2] <;> omega)), (by first | exact aK | exact kK), ?c_hw, (by simp), ho2, (by simp; omega)⟩
        (case hm => first | omega | (simp; omega))
        (case hf => simp [FrameL, hu2, hu3, e0, e3, e4, e5, hlt, e6, e7, hg, hlx', hx1, hc, ntw, csw, gb2, ntw2, csw2, f0_1, f3_1, f4_1, f5_1, f6_1])
        case c_hw =>
          exact (by
            rw [show x + 1 - 1 = x by omega, hfs, if_pos rfl, show (0 :: (famS f (x - 1) ++ [x])) = (0 :: famS f (x - 1)) ++ [x] from rfl, toN_snoc]
            exact ia_putoff hw2 ho2 _)
    · have hxe : x = bit n - 1 := by omega
      have hlx' : ¬ (x : Int) < ((bit n - 1 : Nat) : Int) := by omega
      rw [show x - 1 = bit n - 2 by omega] at hw hfl
      have ntw := (hw.own (by simp; omega)).nt
      have csw := (hw.own (by simp; omega)).cs
      try simp (disch := first | omega | (simp; done) | fail) [wrap64c, if_pos, if_neg, opAnd, opOr, opXor, opDiff, opShr, opBit, hu2, hu3, e0, e3, e4, e5, hlt, e6, e7, hg, hlx', ntw, csw]
      obtain ⟨w2, h2, hap, hw2, ha3, hn3, hs3⟩ := appI3 hw ((bit n - 1 : Nat) : Int) (by simp; omega) ha2.1.1 ha2 (Nat.le_refl _)
      obtain ⟨hsm, ho2⟩ := hs3 (fun o => o = hq.next + 1) (fun o e => by omega) ho
      have gb2 : h2.get (hq.next + 1) = .cells [.int .i64 (n : Int), w] true true 1 := by rw [hsm.2 _ rfl hnn]; exact hg
      rw [← toN_snoc] at hw2
      have hfe : 0 :: famS f (bit n - 2) ++ [bit n - 1] = famL n f := rfl
      rw [hfe] at hw2
      have hfll := famL_len n f p1
      have ntw2 := (hw2.own (by simp; omega)).nt
      have csw2 := (hw2.own (by simp; omega)).cs
      try simp (disch := first | omega | (simp; done) | fail) [wrap64c, if_pos, if_neg, opAnd, opOr, opXor, opDiff, opShr, opBit, hu2, hu3, e0, e3, e4, e5, hlt, e6, e7, hg, hlx', ntw, csw, gb2, ntw2, csw2, hap, putCells]
      first | refine WY_heap fun h3 q_h3 => ?_ | refine callG_heap fun h3 q_h3 => ?_ | refine callP_heap fun h3 q_h3 => ?_ | refine callS_heap fun h3 q_h3 => ?_ | refine RY_heap fun h3 q_h3 => ?_ | refine PY_heap fun h3 q_h3 => ?_ | refine SY_heap fun h3 q_h3 => ?_ | refine doneY_heap fun h3 q_h3 => ?_ | refine loopK_heap fun h3 q_h3 => ?_ | refine thenY_heap fun h3 q_h3 => ?_ | refine thenM_heap fun h3 q_h3 => ?_
      have k3 : Adds hq h3 := by rw [q_h3]; exact (by first | exact aK | exact kK)
      have n3 : h3.next = h2.next := by simp [q_h3]
      have n4 : hq.next + 1 < h3.next := by omega
      have gb3 : h3.get (hq.next + 1) = .cells [.int .i64 (n : Int), w2] true true 1 := by simp [q_h3]
      have hw3 : IntsA hq.next h3 w2 (toN (famL n f)) := by rw [q_h3]; exact ia_putoff hw2 ho2 _
      have hO3 := hw3.own (by simp; omega)
      try simp (disch := first | omega | (simp; done) | fail) [wrap64c, if_pos, if_neg, opAnd, opOr, opXor, opDiff, opShr, opBit, hu2, hu3, e0, e3, e4, e5, hlt, e6, e7, hg, hlx', ntw, csw, gb2, ntw2, csw2, gb3]
      refine callG_c (by simp) (by simp) ?ha (alGood_ok h3 (.agg #[.int .i64 (n : Int), w2]) n (famL n f) (.mk hO3.ints) (famL_srt p1) (fun y hy => by have := famL_lt p1 y hy; omega) (by omega) (by simp [famL])) ?_
      (case ha => simp (disch := first | omega | (simp; done) | fail) [wrap64c, if_pos, if_neg, opAnd, opOr, opXor, opDiff, opShr, opBit, hu2, hu3, e0, e3, e4, e5, hlt, e6, e7, hg, hlx', ntw, csw, gb2, ntw2, csw2, gb3])
      cases hc : spB n (toN (famL n f))
      · rw [hc] at hcs
        try simp (disch := first | omega | (simp; done) | fail) [wrap64c, if_pos, if_neg, opAnd, opOr, opXor, opDiff, opShr, opBit, hu2, hu3, e0, e3, e4, e5, hlt, e6, e7, hg, hlx', ntw, csw, gb2, ntw2, csw2, gb3, hc]
        refine loopK_next _ ?hm ?hf ⟨f + 1, u, O, rfl, (by simp (disch := first | omega | (simp; done) | fail) [wrap64c, if_pos, if_neg, opAnd, opOr, opXor, opDiff, opShr, opBit, hu2, hu3, e0, e3, e4, e5, hlt, e6, e7, hg, hlx', ntw, csw, gb2, ntw2, csw2, gb3, hc] <;> omega), (by simp (disch := first | omega | (simp; done) | fail) [wrap64c, if_pos, if_neg, opAnd, opOr, opXor, opDiff, opShr, opBit, hu2, hu3, e0, e3, e4, e5, hlt, e6, e7, hg, hlx', ntw, csw, gb2, ntw2, csw2, gb3, hc] <;> omega), (by first | omega | assumption | (simp (disch := first | omega | (simp; done) | fail) [wrap64c, if_pos, if_neg, opAnd, opOr, opXor, opDiff, opShr, opBit, hu2, hu3, e0, e3, e4, e5, hlt, e6, e7, hg, hlx', ntw, csw, gb2, ntw2, csw2, gb3, hc] <;> omega)), (ha.trans k3), (hu.keep (spO_steady n) k3.1), (by first | omega | assumption | (simp (disch := first | omega | (simp; done) | fail) [wrap64c, if_pos, if_neg, opAnd, opOr, opXor, opDiff, opShr, opBit, hu2, hu3, e0, e3, e4, e5, hlt, e6, e7, hg, hlx', ntw, csw, gb2, ntw2, csw2, gb3, hc] <;> omega)), (by rw [hcs]; exact hO2)⟩
        (case hm => first | omega | (simp; omega))
        (case hf => simp [FrameL, hu2, hu3, e0, e3, e4, e5, hlt, e6, e7, hg, hlx', ntw, csw, gb2, ntw2, csw2, gb3, hc, f0_0, f3_0])
      · rw [hc, if_pos rfl] at hcs
        have hnin : ¬ famL n f ∈ O := fun hm => by
          obtain ⟨⟨m, hm1, hm2⟩, _⟩ := candK_mem.1 (hO2.mem_iff.1 hm)
          have := famL_inj p1 (show m < 2 ^ (bit n - 2) by unfold bit at *; omega) (show f < 2 ^ (bit n - 2) from hlt) hm2
          omega
        have hu3' := hu.keep (spO_steady n) k3.1
        have hLu := hu3'.lenD
        rcases hu with ⟨y1, y2⟩ | ⟨o, ex, cs, y2, y3, y4, y5, y6, y7⟩
        · have y2' := y2
          have hOn : O.length = 0 := by rw [y1]; rfl
          try simp (disch := first | omega | (simp; done) | fail) [wrap64c, if_pos, if_neg, opAnd, opOr, opXor, opDiff, opShr, opBit, hu2, hu3, e0, e3, e4, e5, hlt, e6, e7, hg, hlx', ntw, csw, gb2, ntw2, csw2, gb3, hc, hLu, y2', hOn]
          refine WD_loopC [0, 3, 4, 5, 6] (fun m tm h' => ∃ k, m = k + 0 * O.length ∧ h3 = h' ∧ tm 8 = .int .i64 (k : Int) ∧ (k ≤ O.length) ∧ (∀ j (hj : j < O.length), k ≤ j → cmpN (famL n f) O[j] < 0)) _ ⟨0, rfl, rfl, (by simp (disch := first | omega | (simp; done) | fail) [wrap64c, if_pos, if_neg, opAnd, opOr, opXor, opDiff, opShr, opBit, hu2, hu3, e0, e3, e4, e5, hlt, e6, e7, hg, hlx', ntw, csw, gb2, ntw2, csw2, gb3, hc, hLu, y2', hOn]), (by first | omega | assumption | (simp (disch := first | omega | (simp; done) | fail) [wrap64c, if_pos, if_neg, opAnd, opOr, opXor, opDiff, opShr, opBit, hu2, hu3, e0, e3, e4, e5, hlt, e6, e7, hg, hlx', ntw, csw, gb2, ntw2, csw2, gb3, hc, hLu, y2', hOn] <;> omega)), (by intro j h1 h2; omega)⟩ ?_
          rintro m tm h' hFr ⟨k, rfl, rfl, e8, hk, hkk⟩
          simp only [FrameL] at hFr
          obtain ⟨f0_2, f3_2, f4_2, f5_2, f6_2, -⟩ := hFr
          try simp (disch := first | omega | (simp; done) | fail) [wrap64c, if_pos, if_neg, opAnd, opOr, opXor, opDiff, opShr, opBit, hu2, hu3, e0, e3, e4, e5, hlt, e6, e7, hg, hlx', ntw, csw, gb2, ntw2, csw2, gb3, hc, hLu, y2', hOn] at f0_2 f3_2 f4_2 f5_2 f6_2
          have e0 := f0_2
          have e3 := f3_2
          have e4 := f4_2
          have e5 := f5_2
          have e6 := f6_2
          have hk0 : k = 0 := by omega
          have hkf : ¬ (0 < (k : Int)) := by omega
          have hkz : (k : Int) = 0 := by omega
          try simp (disch := first | omega | (simp; done) | fail) [wrap64c, if_pos, if_neg, opAnd, opOr, opXor, opDiff, opShr, opBit, hu2, hu3, e0, e3, e4, e5, hlt, e6, e7, hg, hlx', ntw, csw, gb2, ntw2, csw2, gb3, hc, hLu, y2', hOn, e8, hkf, hkz]
          refine WD_drawC 13 rfl (by kernel_rfl) ?_
          try simp (disch := first | omega | (simp; done) | fail) [wrap64c, if_pos, if_neg, opAnd, opOr, opXor, opDiff, opShr, opBit, hu2, hu3, e0, e3, e4, e5, hlt, e6, e7, hg, hlx', ntw, csw, gb2, ntw2, csw2, gb3, hc, hLu, y2', hOn, e8, hkf, hkz]
          obtain ⟨hs1, hs2⟩ := put_in (k := k) hO1 hk hkk (fun h => by omega) hnin
          try simp (disch := first | omega | (simp; done) | fail) [wrap64c, if_pos, if_neg, opAnd, opOr, opXor, opDiff, opShr, opBit, hu2, hu3, e0, e3, e4, e5, hlt, e6, e7, hg, hlx', ntw, csw, gb2, ntw2, csw2, gb3, hc, hLu, y2', hOn, e8, hkf, hkz]
          first | refine WY_heap fun h6 q_h6 => ?_ | refine callG_heap fun h6 q_h6 => ?_ | refine callP_heap fun h6 q_h6 => ?_ | refine callS_heap fun h6 q_h6 => ?_ | refine RY_heap fun h6 q_h6 => ?_ | refine PY_heap fun h6 q_h6 => ?_ | refine SY_heap fun h6 q_h6 => ?_ | refine doneY_heap fun h6 q_h6 => ?_ | refine loopK_heap fun h6 q_h6 => ?_ | refine thenY_heap fun h6 q_h6 => ?_ | refine thenM_heap fun h6 q_h6 => ?_
          have k6 : Adds h3 h6 := by rw [q_h6]; exact (by first | exact aK | exact kK)
          have n6 : h6.next = h3.next + 1 := by simp [q_h6]
          have hA6 : GL 2 (spO n) h.next h6 (.slice (some ⟨h3.next, 0, none⟩) 0 0) [] := .lit (ex := true) (by have := ha.1.1; omega) (by omega) (by simp [q_h6])
          have hsm6 : Same (fun x => h.next ≤ x) hq h6 := ⟨(k3.trans k6).1.1, fun x _ hx => (k3.trans k6).1.2 x hx⟩
          obtain ⟨src1, len1, el1⟩ : srcV h6 2 (.slice none 0 0) = some ((O.take k).length, []) ∧ ([] : List Value).length = (O.take k).length * 2 ∧ ∀ i (hi : i < (O.take k).length), spO n (fun x => h.next ≤ x ∧ x < hq.next) h6 (chunk 2 [] i) (O.take k)[i] := ⟨by rw [y1]; simp [srcV, srcW], by rw [y1]; simp, fun i hi => by rw [List.length_take] at hi; omega⟩
          obtain ⟨v7, h7, hap7, hG7, A7, n7, S7, O7⟩ := GL.append2 (P := Try.prog) (t := 43) (t' := 43) (z := .agg #[.int .i64 0, .slice none 0 0]) (b := 32) (e := 26) (F := fun x => h.next ≤ x ∧ x < hq.next) (h0 := h) (K := O.take k) (spO_steady n) hA6 src1 len1 el1 (fun x hx => ⟨hx.1, by omega, fun e => absurd (show h3.next = _ from e) (by omega)⟩)
            (by simp) (by simp) (by simp) rfl (by simp) (by decide) (by decide) (by simp) (by simp <;> omega) (by have := ha.1.1; omega) ((ha.trans k3).trans k6) (Nat.le_refl _)
          rw [List.nil_append] at hG7
          try simp (disch := first | omega | (simp; done) | fail) [wrap64c, if_pos, if_neg, opAnd, opOr, opXor, opDiff, opShr, opBit, hu2, hu3, e0, e3, e4, e5, hlt, e6, e7, hg, hlx', ntw, csw, gb2, ntw2, csw2, gb3, hc, hLu, y2', hOn, e8, hkf, hkz, hap7]
          have gb7 : h7.get (hq.next + 1) = .cells [.int .i64 (n : Int), w2] true true 1 := by rw [S7 _ (by omega) (fun e => absurd (show h3.next = _ from e) (by omega)), k6.1.2 _ (by omega)]; exact gb3
          refine WD_chainC rfl (by kernel_rfl) (by kernel_rfl) ?_
          try simp (disch := first | omega | (simp; done) | fail) [wrap64c, if_pos, if_neg, opAnd, opOr, opXor, opDiff, opShr, opBit, hu2, hu3, e0, e3, e4, e5, hlt, e6, e7, hg, hlx', ntw, csw, gb2, ntw2, csw2, gb3, hc, hLu, y2', hOn, e8, hkf, hkz, gb7]
          first | refine WY_heap fun h8 q_h8 => ?_ | refine callG_heap fun h8 q_h8 => ?_ | refine callP_heap fun h8 q_h8 => ?_ | refine callS_heap fun h8 q_h8 => ?_ | refine RY_heap fun h8 q_h8 => ?_ | refine PY_heap fun h8 q_h8 => ?_ | refine SY_heap fun h8 q_h8 => ?_ | refine doneY_heap fun h8 q_h8 => ?_ | refine loopK_heap fun h8 q_h8 => ?_ | refine thenY_heap fun h8 q_h8 => ?_ | refine thenM_heap fun h8 q_h8 => ?_
          have k8 : Adds h7 h8 := by rw [q_h8]; exact (by first | exact aK | exact kK)
          have n8 : h8.next = h7.next + 1 := by simp [q_h8]
          have hsmw : Same (Btw hq.next h3.next) h3 h8 := ⟨by omega, fun x hx hl => by
            unfold Btw at hx
            rw [k8.1.2 _ (by omega), S7 _ (by omega) (fun e => absurd (show h3.next = _ from e) (by omega)), k6.1.2 _ hl]⟩
          have hw8 := hO3.same hsmw
          obtain ⟨v9, h9, hap9, hG9, A9, n9, S9, O9⟩ := GL.append2 (P := Try.prog) (t := 43) (t' := 43) (z := .agg #[.int .i64 0, .slice none 0 0]) (b := 32) (e := 26) (K := [famL n f]) (ys := [.int .i64 (n : Int), w2]) (F := Btw hq.next h3.next) (y := .slice (some ⟨h7.next, 0, none⟩) 1 1) (h0 := h) (spO_steady n) (hG7.keep (spO_steady n) k8.1)
            (by simp [srcV, srcW, q_h8]) rfl (fun i hi => by
              have : i = 0 := by simp at hi; exact hi
              subst this
              exact ⟨w2, rfl, hw8⟩) (fun x hx => ⟨by have := hx.1; have := ha.1.1; omega, by have := hx.2; omega, fun e => by
              have := hx.2
              rcases O7 _ e with e | e
              · exact absurd (show h3.next = x from e) (by omega)
              · omega⟩) (by simp) (by simp) (by simp) rfl (by simp) (by decide) (by decide) (by simp) (by simp <;> omega) (by have := ha.1.1; omega) (A7.trans k8) (Nat.le_refl _)
          try simp (disch := first | omega | (simp; done) | fail) [wrap64c, if_pos, if_neg, opAnd, opOr, opXor, opDiff, opShr, opBit, hu2, hu3, e0, e3, e4, e5, hlt, e6, e7, hg, hlx', ntw, csw, gb2, ntw2, csw2, gb3, hc, hLu, y2', hOn, e8, hkf, hkz, gb7, hap9]
          have hsm9 : Same (fun x => h.next ≤ x) hq h9 := ⟨by have := k3.1.1; omega, fun x _ hx => by
            have hx3 := k3.1.1
            have hno : ¬ ObjIn v7 x := fun e => by
              rcases O7 _ e with e | e
              · exact absurd (show h3.next = x from e) (by omega)
              · omega
            rw [S9 _ (by omega) hno, k8.1.2 _ (by omega), S7 _ (by omega) (fun e => absurd (show h3.next = _ from e) (by omega))]
            exact (k3.trans k6).1.2 x hx⟩
          obtain ⟨src2, len2, el2⟩ : srcV h9 2 (.slice none 0 0) = some ((O.drop k).length, []) ∧ ([] : List Value).length = (O.drop k).length * 2 ∧ ∀ i (hi : i < (O.drop k).length), spO n (fun x => h.next ≤ x ∧ x < hq.next) h9 (chunk 2 [] i) (O.drop k)[i] := ⟨by rw [y1]; simp [srcV, srcW], by rw [y1]; simp, fun i hi => by rw [List.length_drop] at hi; omega⟩
          obtain ⟨v10, h10, hap10, hG10, A10, n10, S10, O10⟩ := GL.append2 (P := Try.prog) (t := 43) (t' := 43) (z := .agg #[.int .i64 0, .slice none 0 0]) (b := 32) (e := 26) (F := fun x => h.next ≤ x ∧ x < hq.next) (h0 := h) (K := O.drop k) (spO_steady n) hG9 src2 len2 el2 (fun x hx => ⟨hx.1, by have := k3.1.1; omega, fun e => by
              have hx3 := k3.1.1
              rcases O9 _ e with e | e
              · rcases O7 _ e with e | e
                · exact absurd (show h3.next = x from e) (by omega)
                · omega
              · omega⟩)
            (by simp) (by simp) (by simp) rfl (by simp) (by decide) (by decide) (by simp) (by simp <;> omega) (by have := ha.1.1; have := k3.1.1; omega) A9 (Nat.le_refl _)
          try simp (disch := first | omega | (simp; done) | fail) [wrap64c, if_pos, if_neg, opAnd, opOr, opXor, opDiff, opShr, opBit, hu2, hu3, e0, e3, e4, e5, hlt, e6, e7, hg, hlx', ntw, csw, gb2, ntw2, csw2, gb3, hc, hLu, y2', hOn, e8, hkf, hkz, gb7, hap10]
          refine loopK_next _ ?hm ?hf ⟨f + 1, v10, O.take k ++ [famL n f] ++ O.drop k, rfl, (by simp (disch := first | omega | (simp; done) | fail) [wrap64c, if_pos, if_neg, opAnd, opOr, opXor, opDiff, opShr, opBit, hu2, hu3, e0, e3, e4, e5, hlt, e6, e7, hg, hlx', ntw, csw, gb2, ntw2, csw2, gb3, hc, hLu, y2', hOn, e8, hkf, hkz, gb7] <;> omega), (by simp (disch := first | omega | (simp; done) | fail) [wrap64c, if_pos, if_neg, opAnd, opOr, opXor, opDiff, opShr, opBit, hu2, hu3, e0, e3, e4, e5, hlt, e6, e7, hg, hlx', ntw, csw, gb2, ntw2, csw2, gb3, hc, hLu, y2', hOn, e8, hkf, hkz, gb7] <;> omega), (by first | omega | assumption | (simp (disch := first | omega | (simp; done) | fail) [wrap64c, if_pos, if_neg, opAnd, opOr, opXor, opDiff, opShr, opBit, hu2, hu3, e0, e3, e4, e5, hlt, e6, e7, hg, hlx', ntw, csw, gb2, ntw2, csw2, gb3, hc, hLu, y2', hOn, e8, hkf, hkz, gb7] <;> omega)), A10, hG10, hs1, (by rw [hcs]; exact hs2.trans (List.Perm.append_right _ hO2))⟩
          (case hm => first | omega | (simp; omega))
          (case hf => simp [FrameL, hu2, hu3, e0, e3, e4, e5, hlt, e6, e7, hg, hlx', ntw, csw, gb2, ntw2, csw2, gb3, hc, hLu, y2', hOn, e8, hkf, hkz, gb7, f0_0, f3_0])
        · have hu : GL 2 (spO n) h.next hq u O := .inr ⟨o, ex, cs, y2, y3, y4, y5, y6, y7⟩
          have y2' := y2
          have g3o : h3.get o = .cells cs true ex 2 := by rw [k3.1.2 _ y4]; exact y5
          try simp (disch := first | omega | (simp; done) | fail) [wrap64c, if_pos, if_neg, opAnd, opOr, opXor, opDiff, opShr, opBit, hu2, hu3, e0, e3, e4, e5, hlt, e6, e7, hg, hlx', ntw, csw, gb2, ntw2, csw2, gb3, hc, hLu, y2', g3o]
          refine WD_loopC [0, 3, 4, 5, 6] (fun m tm h' => ∃ k, m = k + 0 * O.length ∧ h3 = h' ∧ tm 8 = .int .i64 (k : Int) ∧ (k ≤ O.length) ∧ (∀ j (hj : j < O.length), k ≤ j → cmpN (famL n f) O[j] < 0)) _ ⟨O.length, rfl, rfl, (by simp (disch := first | omega | (simp; done) | fail) [wrap64c, if_pos, if_neg, opAnd, opOr, opXor, opDiff, opShr, opBit, hu2, hu3, e0, e3, e4, e5, hlt, e6, e7, hg, hlx', ntw, csw, gb2, ntw2, csw2, gb3, hc, hLu, y2', g3o]), (by first | omega | assumption | (simp (disch := first | omega | (simp; done) | fail) [wrap64c, if_pos, if_neg, opAnd, opOr, opXor, opDiff, opShr, opBit, hu2, hu3, e0, e3, e4, e5, hlt, e6, e7, hg, hlx', ntw, csw, gb2, ntw2, csw2, gb3, hc, hLu, y2', g3o] <;> omega)), (by intro j h1 h2; omega)⟩ ?_
          rintro m tm h' hFr ⟨k, rfl, rfl, e8, hk, hkk⟩
          simp only [FrameL] at hFr
          obtain ⟨f0_3, f3_3, f4_3, f5_3, f6_3, -⟩ := hFr
          try simp (disch := first | omega | (simp; done) | fail) [wrap64c, if_pos, if_neg, opAnd, opOr, opXor, opDiff, opShr, opBit, hu2, hu3, e0, e3, e4, e5, hlt, e6, e7, hg, hlx', ntw, csw, gb2, ntw2, csw2, gb3, hc, hLu, y2', g3o] at f0_3 f3_3 f4_3 f5_3 f6_3
          have e0 := f0_3
          have e3 := f3_3
          have e4 := f4_3
          have e5 := f5_3
          have e6 := f6_3
          by_cases hk0 : k = 0
          · have hk0' := hk0
            try simp (disch := first | omega | (simp; done) | fail) [wrap64c, if_pos, if_neg, opAnd, opOr, opXor, opDiff, opShr, opBit, hu2, hu3, e0, e3, e4, e5, hlt, e6, e7, hg, hlx', ntw, csw, gb2, ntw2, csw2, gb3, hc, hLu, y2', g3o, e8, hk0']
            refine WD_drawC 13 rfl (by kernel_rfl) ?_
            try simp (disch := first | omega | (simp; done) | fail) [wrap64c, if_pos, if_neg, opAnd, opOr, opXor, opDiff, opShr, opBit, hu2, hu3, e0, e3, e4, e5, hlt, e6, e7, hg, hlx', ntw, csw, gb2, ntw2, csw2, gb3, hc, hLu, y2', g3o, e8, hk0']
            obtain ⟨hs1, hs2⟩ := put_in (k := 0) hO1 (Nat.zero_le _) (fun j hj _ => hkk j hj (by omega)) (fun h => by omega) hnin
            try simp (disch := first | omega | (simp; done) | fail) [wrap64c, if_pos, if_neg, opAnd, opOr, opXor, opDiff, opShr, opBit, hu2, hu3, e0, e3, e4, e5, hlt, e6, e7, hg, hlx', ntw, csw, gb2, ntw2, csw2, gb3, hc, hLu, y2', g3o, e8, hk0']
            first | refine WY_heap fun h6 q_h6 => ?_ | refine callG_heap fun h6 q_h6 => ?_ | refine callP_heap fun h6 q_h6 => ?_ | refine callS_heap fun h6 q_h6 => ?_ | refine RY_heap fun h6 q_h6 => ?_ | refine PY_heap fun h6 q_h6 => ?_ | refine SY_heap fun h6 q_h6 => ?_ | refine doneY_heap fun h6 q_h6 => ?_ | refine loopK_heap fun h6 q_h6 => ?_ | refine thenY_heap fun h6 q_h6 => ?_ | refine thenM_heap fun h6 q_h6 => ?_
            have k6 : Adds h3 h6 := by rw [q_h6]; exact (by first | exact aK | exact kK)
            have n6 : h6.next = h3.next + 1 := by simp [q_h6]
            have hA6 : GL 2 (spO n) h.next h6 (.slice (some ⟨h3.next, 0, none⟩) 0 0) [] := .lit (ex := true) (by have := ha.1.1; omega) (by omega) (by simp [q_h6])
            have hsm6 : Same (fun x => h.next ≤ x) hq h6 := ⟨(k3.trans k6).1.1, fun x _ hx => (k3.trans k6).1.2 x hx⟩
            obtain ⟨ys1, src1, len1, el1⟩ := (hu.partsAt (spO_steady n) y2 hsm6).1 0 (Nat.zero_le _)
            obtain ⟨v7, h7, hap7, hG7, A7, n7, S7, O7⟩ := GL.append2 (P := Try.prog) (t := 43) (t' := 43) (z := .agg #[.int .i64 0, .slice none 0 0]) (b := 32) (e := 26) (F := fun x => h.next ≤ x ∧ x < hq.next) (h0 := h) (K := O.take 0) (spO_steady n) hA6 src1 len1 el1 (fun x hx => ⟨hx.1, by omega, fun e => absurd (show h3.next = _ from e) (by omega)⟩)
              (by simp) (by simp) (by simp) rfl (by simp) (by decide) (by decide) (by simp) (by simp <;> omega) (by have := ha.1.1; omega) ((ha.trans k3).trans k6) (Nat.le_refl _)
            rw [List.nil_append] at hG7
            try simp (disch := first | omega | (simp; done) | fail) [wrap64c, if_pos, if_neg, opAnd, opOr, opXor, opDiff, opShr, opBit, hu2, hu3, e0, e3, e4, e5, hlt, e6, e7, hg, hlx', ntw, csw, gb2, ntw2, csw2, gb3, hc, hLu, y2', g3o, e8, hk0', hap7]
            have gb7 : h7.get (hq.next + 1) = .cells [.int .i64 (n : Int), w2] true true 1 := by rw [S7 _ (by omega) (fun e => absurd (show h3.next = _ from e) (by omega)), k6.1.2 _ (by omega)]; exact gb3
            refine WD_chainC rfl (by kernel_rfl) (by kernel_rfl) ?_
            try simp (disch := first | omega | (simp; done) | fail) [wrap64c, if_pos, if_neg, opAnd, opOr, opXor, opDiff, opShr, opBit, hu2, hu3, e0, e3, e4, e5, hlt, e6, e7, hg, hlx', ntw, csw, gb2, ntw2, csw2, gb3, hc, hLu, y2', g3o, e8, hk0', gb7]
            first | refine WY_heap fun h8 q_h8 => ?_ | refine callG_heap fun h8 q_h8 => ?_ | refine callP_heap fun h8 q_h8 => ?_ | refine callS_heap fun h8 q_h8 => ?_ | refine RY_heap fun h8 q_h8 => ?_ | refine PY_heap fun h8 q_h8 => ?_ | refine SY_heap fun h8 q_h8 => ?_ | refine doneY_heap fun h8 q_h8 => ?_ | refine loopK_heap fun h8 q_h8 => ?_ | refine thenY_heap fun h8 q_h8 => ?_ | refine thenM_heap fun h8 q_h8 => ?_
            have k8 : Adds h7 h8 := by rw [q_h8]; exact (by first | exact aK | exact kK)
            have n8 : h8.next = h7.next + 1 := by simp [q_h8]
            have hsmw : Same (Btw hq.next h3.next) h3 h8 := ⟨by omega, fun x hx hl => by
              unfold Btw at hx
              rw [k8.1.2 _ (by omega), S7 _ (by omega) (fun e => absurd (show h3.next = _ from e) (by omega)), k6.1.2 _ hl]⟩
            have hw8 := hO3.same hsmw
            obtain ⟨v9, h9, hap9, hG9, A9, n9, S9, O9⟩ := GL.append2 (P := Try.prog) (t := 43) (t' := 43) (z := .agg #[.int .i64 0, .slice none 0 0]) (b := 32) (e := 26) (K := [famL n f]) (ys := [.int .i64 (n : Int), w2]) (F := Btw hq.next h3.next) (y := .slice (some ⟨h7.next, 0, none⟩) 1 1) (h0 := h) (spO_steady n) (hG7.keep (spO_steady n) k8.1)
              (by simp [srcV, srcW, q_h8]) rfl (fun i hi => by
                have : i = 0 := by simp at hi; exact hi
                subst this
                exact ⟨w2, rfl, hw8⟩) (fun x hx => ⟨by have := hx.1; have := ha.1.1; omega, by have := hx.2; omega, fun e => by
                have := hx.2
                rcases O7 _ e with e | e
                · exact absurd (show h3.next = x from e) (by omega)
                · omega⟩) (by simp) (by simp) (by simp) rfl (by simp) (by decide) (by decide) (by simp) (by simp <;> omega) (by have := ha.1.1; omega) (A7.trans k8) (Nat.le_refl _)
            try simp (disch := first | omega | (simp; done) | fail) [wrap64c, if_pos, if_neg, opAnd, opOr, opXor, opDiff, opShr, opBit, hu2, hu3, e0, e3, e4, e5, hlt, e6, e7, hg, hlx', ntw, csw, gb2, ntw2, csw2, gb3, hc, hLu, y2', g3o, e8, hk0', gb7, hap9]
            have hsm9 : Same (fun x => h.next ≤ x) hq h9 := ⟨by have := k3.1.1; omega, fun x _ hx => by
              have hx3 := k3.1.1
              have hno : ¬ ObjIn v7 x := fun e => by
                rcases O7 _ e with e | e
                · exact absurd (show h3.next = x from e) (by omega)
                · omega
              rw [S9 _ (by omega) hno, k8.1.2 _ (by omega), S7 _ (by omega) (fun e => absurd (show h3.next = _ from e) (by omega))]
              exact (k3.trans k6).1.2 x hx⟩
            obtain ⟨ys2, src2, len2, el2⟩ := (by have := (hu.partsAt (spO_steady n) y2 hsm9).2 0 (Nat.zero_le _); rw [Nat.zero_mul, Nat.sub_zero] at this; exact this : _)
            obtain ⟨v10, h10, hap10, hG10, A10, n10, S10, O10⟩ := GL.append2 (P := Try.prog) (t := 43) (t' := 43) (z := .agg #[.int .i64 0, .slice none 0 0]) (b := 32) (e := 26) (F := fun x => h.next ≤ x ∧ x < hq.next) (h0 := h) (K := O.drop 0) (spO_steady n) hG9 src2 len2 el2 (fun x hx => ⟨hx.1, by have := k3.1.1; omega, fun e => by
                have hx3 := k3.1.1
                rcases O9 _ e with e | e
                · rcases O7 _ e with e | e
                  · exact absurd (show h3.next = x from e) (by omega)
                  · omega
                · omega⟩)
              (by simp) (by simp) (by simp) rfl (by simp) (by decide) (by decide) (by simp) (by simp <;> omega) (by have := ha.1.1; have := k3.1.1; omega) A9 (Nat.le_refl _)
            try simp (disch := first | omega | (simp; done) | fail) [wrap64c, if_pos, if_neg, opAnd, opOr, opXor, opDiff, opShr, opBit, hu2, hu3, e0, e3, e4, e5, hlt, e6, e7, hg, hlx', ntw, csw, gb2, ntw2, csw2, gb3, hc, hLu, y2', g3o, e8, hk0', gb7, hap10]
            refine loopK_next _ ?hm ?hf ⟨f + 1, v10, O.take 0 ++ [famL n f] ++ O.drop 0, rfl, (by simp (disch := first | omega | (simp; done) | fail) [wrap64c, if_pos, if_neg, opAnd, opOr, opXor, opDiff, opShr, opBit, hu2, hu3, e0, e3, e4, e5, hlt, e6, e7, hg, hlx', ntw, csw, gb2, ntw2, csw2, gb3, hc, hLu, y2', g3o, e8, hk0', gb7] <;> omega), (by simp (disch := first | omega | (simp; done) | fail) [wrap64c, if_pos, if_neg, opAnd, opOr, opXor, opDiff, opShr, opBit, hu2, hu3, e0, e3, e4, e5, hlt, e6, e7, hg, hlx', ntw, csw, gb2, ntw2, csw2, gb3, hc, hLu, y2', g3o, e8, hk0', gb7] <;> omega), (by first | omega | assumption | (simp (disch := first | omega | (simp; done) | fail) [wrap64c, if_pos, if_neg, opAnd, opOr, opXor, opDiff, opShr, opBit, hu2, hu3, e0, e3, e4, e5, hlt, e6, e7, hg, hlx', ntw, csw, gb2, ntw2, csw2, gb3, hc, hLu, y2', g3o, e8, hk0', gb7] <;> omega)), A10, hG10, hs1, (by rw [hcs]; exact hs2.trans (List.Perm.append_right _ hO2))⟩
            (case hm => first | omega | (simp; omega))
            (case hf => simp [FrameL, hu2, hu3, e0, e3, e4, e5, hlt, e6, e7, hg, hlx', ntw, csw, gb2, ntw2, csw2, gb3, hc, hLu, y2', g3o, e8, hk0', gb7, f0_0, f3_0])
          · obtain ⟨kk, hkk1⟩ : ∃ kk, k = kk + 1 := ⟨k - 1, by omega⟩
            have hkl : kk < O.length := by omega
            have hkp : 0 < k := by omega
            have hk1 : IntKind.wrap .i64 ((k : Int) - 1) = (kk : Int) := by rw [wrap64c _ (by omega) (by omega)]; omega
            obtain ⟨wk, hwk, hIk⟩ := y7 kk hkl
            obtain ⟨c1, c2⟩ := chunk2_at hwk
            have c3 : ∀ h2 : kk * 2 + 1 < cs.length, cs[kk * 2 + 1] = wk := fun h2 => by rw [List.getElem?_eq_getElem h2] at c2; exact Option.some.inj c2
            have hIk3 := hIk.keep k3.1
            try simp (disch := first | omega | (simp; done) | fail) [wrap64c, if_pos, if_neg, opAnd, opOr, opXor, opDiff, opShr, opBit, hu2, hu3, e0, e3, e4, e5, hlt, e6, e7, hg, hlx', ntw, csw, gb2, ntw2, csw2, gb3, hc, hLu, y2', g3o, e8, hkl, hkp, hk1, c3, y6]
            refine WD_drawC 13 rfl (by kernel_rfl) ?_
            try simp (disch := first | omega | (simp; done) | fail) [wrap64c, if_pos, if_neg, opAnd, opOr, opXor, opDiff, opShr, opBit, hu2, hu3, e0, e3, e4, e5, hlt, e6, e7, hg, hlx', ntw, csw, gb2, ntw2, csw2, gb3, hc, hLu, y2', g3o, e8, hkl, hkp, hk1, c3, y6]
            refine callP_c (by simp) (by simp) ?ha (alBefore_ok h3 w2 wk _ _ hO3.ints hIk3.ints) ?hadd ?_
            (case ha => simp (disch := first | omega | (simp; done) | fail) [wrap64c, if_pos, if_neg, opAnd, opOr, opXor, opDiff, opShr, opBit, hu2, hu3, e0, e3, e4, e5, hlt, e6, e7, hg, hlx', ntw, csw, gb2, ntw2, csw2, gb3, hc, hLu, y2', g3o, e8, hkl, hkp, hk1, c3, y6])
            (case hadd => first | assumption | exact adds_self _ | (simp; done))
            by_cases hcb : cmpL (toN (famL n f)) (toN O[kk]) < 0
            · try simp (disch := first | omega | (simp; done) | fail) [wrap64c, if_pos, if_neg, opAnd, opOr, opXor, opDiff, opShr, opBit, hu2, hu3, e0, e3, e4, e5, hlt, e6, e7, hg, hlx', ntw, csw, gb2, ntw2, csw2, gb3, hc, hLu, y2', g3o, e8, hkl, hkp, hk1, c3, y6, hcb]
              refine loopK_next _ ?hm ?hf ⟨kk, rfl, rfl, (by simp (disch := first | omega | (simp; done) | fail) [wrap64c, if_pos, if_neg, opAnd, opOr, opXor, opDiff, opShr, opBit, hu2, hu3, e0, e3, e4, e5, hlt, e6, e7, hg, hlx', ntw, csw, gb2, ntw2, csw2, gb3, hc, hLu, y2', g3o, e8, hkl, hkp, hk1, c3, y6, hcb] <;> omega), (by first | omega | assumption | (simp (disch := first | omega | (simp; done) | fail) [wrap64c, if_pos, if_neg, opAnd, opOr, opXor, opDiff, opShr, opBit, hu2, hu3, e0, e3, e4, e5, hlt, e6, e7, hg, hlx', ntw, csw, gb2, ntw2, csw2, gb3, hc, hLu, y2', g3o, e8, hkl, hkp, hk1, c3, y6, hcb] <;> omega)), ?c_hkk⟩
              (case hm => first | omega | (simp; omega))
              (case hf => simp [FrameL, hu2, hu3, e0, e3, e4, e5, hlt, e6, e7, hg, hlx', ntw, csw, gb2, ntw2, csw2, gb3, hc, hLu, y2', g3o, e8, hkl, hkp, hk1, c3, y6, hcb, f0_3, f3_3, f4_3, f5_3, f6_3])
              case c_hkk =>
                exact (fun j hj hkj => by
                  by_cases e : j = kk
                  · subst e; exact hcb
                  · exact hkk j hj (by omega))
            · try simp (disch := first | omega | (simp; done) | fail) [wrap64c, if_pos, if_neg, opAnd, opOr, opXor, opDiff, opShr, opBit, hu2, hu3, e0, e3, e4, e5, hlt, e6, e7, hg, hlx', ntw, csw, gb2, ntw2, csw2, gb3, hc, hLu, y2', g3o, e8, hkl, hkp, hk1, c3, y6, hcb]
              obtain ⟨hs1, hs2⟩ := put_in (k := k) hO1 hk hkk (fun h9 => by rw [getElem_congr_idx (show k - 1 = kk by omega)]; exact hcb) hnin
              try simp (disch := first | omega | (simp; done) | fail) [wrap64c, if_pos, if_neg, opAnd, opOr, opXor, opDiff, opShr, opBit, hu2, hu3, e0, e3, e4, e5, hlt, e6, e7, hg, hlx', ntw, csw, gb2, ntw2, csw2, gb3, hc, hLu, y2', g3o, e8, hkl, hkp, hk1, c3, y6, hcb]
              first | refine WY_heap fun h6 q_h6 => ?_ | refine callG_heap fun h6 q_h6 => ?_ | refine callP_heap fun h6 q_h6 => ?_ | refine callS_heap fun h6 q_h6 => ?_ | refine RY_heap fun h6 q_h6 => ?_ | refine PY_heap fun h6 q_h6 => ?_ | refine SY_heap fun h6 q_h6 => ?_ | refine doneY_heap fun h6 q_h6 => ?_ | refine loopK_heap fun h6 q_h6 => ?_ | refine thenY_heap fun h6 q_h6 => ?_ | refine thenM_heap fun h6 q_h6 => ?_
              have k6 : Adds h3 h6 := by rw [q_h6]; exact (by first | exact aK | exact kK)
              have n6 : h6.next = h3.next + 1 := by simp [q_h6]
              have hA6 : GL 2 (spO n) h.next h6 (.slice (some ⟨h3.next, 0, none⟩) 0 0) [] := .lit (ex := true) (by have := ha.1.1; omega) (by omega) (by simp [q_h6])
              have hsm6 : Same (fun x => h.next ≤ x) hq h6 := ⟨(k3.trans k6).1.1, fun x _ hx => (k3.trans k6).1.2 x hx⟩
              obtain ⟨ys1, src1, len1, el1⟩ := (hu.partsAt (spO_steady n) y2 hsm6).1 k hk
              obtain ⟨v7, h7, hap7, hG7, A7, n7, S7, O7⟩ := GL.append2 (P := Try.prog) (t := 43) (t' := 43) (z := .agg #[.int .i64 0, .slice none 0 0]) (b := 32) (e := 26) (F := fun x => h.next ≤ x ∧ x < hq.next) (h0 := h) (K := O.take k) (spO_steady n) hA6 src1 len1 el1 (fun x hx => ⟨hx.1, by omega, fun e => absurd (show h3.next = _ from e) (by omega)⟩)
                (by simp) (by simp) (by simp) rfl (by simp) (by decide) (by decide) (by simp) (by simp <;> omega) (by have := ha.1.1; omega) ((ha.trans k3).trans k6) (Nat.le_refl _)
              rw [List.nil_append] at hG7
              try simp (disch := first | omega | (simp; done) | fail) [wrap64c, if_pos, if_neg, opAnd, opOr, opXor, opDiff, opShr, opBit, hu2, hu3, e0, e3, e4, e5, hlt, e6, e7, hg, hlx', ntw, csw, gb2, ntw2, csw2, gb3, hc, hLu, y2', g3o, e8, hkl, hkp, hk1, c3, y6, hcb, hap7]
              have gb7 : h7.get (hq.next + 1) = .cells [.int .i64 (n : Int), w2] true true 1 := by rw [S7 _ (by omega) (fun e => absurd (show h3.next = _ from e) (by omega)), k6.1.2 _ (by omega)]; exact gb3
              refine WD_chainC rfl (by kernel_rfl) (by kernel_rfl) ?_
              try simp (disch := first | omega | (simp; done) | fail) [wrap64c, if_pos, if_neg, opAnd, opOr, opXor, opDiff, opShr, opBit, hu2, hu3, e0, e3, e4, e5, hlt, e6, e7, hg, hlx', ntw, csw, gb2, ntw2, csw2, gb3, hc, hLu, y2', g3o, e8, hkl, hkp, hk1, c3, y6, hcb, gb7]
              first | refine WY_heap fun h8 q_h8 => ?_ | refine callG_heap fun h8 q_h8 => ?_ | refine callP_heap fun h8 q_h8 => ?_ | refine callS_heap fun h8 q_h8 => ?_ | refine RY_heap fun h8 q_h8 => ?_ | refine PY_heap fun h8 q_h8 => ?_ | refine SY_heap fun h8 q_h8 => ?_ | refine doneY_heap fun h8 q_h8 => ?_ | refine loopK_heap fun h8 q_h8 => ?_ | refine thenY_heap fun h8 q_h8 => ?_ | refine thenM_heap fun h8 q_h8 => ?_
              have k8 : Adds h7 h8 := by rw [q_h8]; exact (by first | exact aK | exact kK)
              have n8 : h8.next = h7.next + 1 := by simp [q_h8]
              have hsmw : Same (Btw hq.next h3.next) h3 h8 := ⟨by omega, fun x hx hl => by
                unfold Btw at hx
                rw [k8.1.2 _ (by omega), S7 _ (by omega) (fun e => absurd (show h3.next = _ from e) (by omega)), k6.1.2 _ hl]⟩
              have hw8 := hO3.same hsmw
              obtain ⟨v9, h9, hap9, hG9, A9, n9, S9, O9⟩ := GL.append2 (P := Try.prog) (t := 43) (t' := 43) (z := .agg #[.int .i64 0, .slice none 0 0]) (b := 32) (e := 26) (K := [famL n f]) (ys := [.int .i64 (n : Int), w2]) (F := Btw hq.next h3.next) (y := .slice (some ⟨h7.next, 0, none⟩) 1 1) (h0 := h) (spO_steady n) (hG7.keep (spO_steady n) k8.1)
                (by simp [srcV, srcW, q_h8]) rfl (fun i hi => by
                  have : i = 0 := by simp at hi; exact hi
                  subst this
                  exact ⟨w2, rfl, hw8⟩) (fun x hx => ⟨by have := hx.1; have := ha.1.1; omega, by have := hx.2; omega, fun e => by
                  have := hx.2
                  rcases O7 _ e with e | e
                  · exact absurd (show h3.next = x from e) (by omega)
                  · omega⟩) (by simp) (by simp) (by simp) rfl (by simp) (by decide) (by decide) (by simp) (by simp <;> omega) (by have := ha.1.1; omega) (A7.trans k8) (Nat.le_refl _)
              try simp (disch := first | omega | (simp; done) | fail) [wrap64c, if_pos, if_neg, opAnd, opOr, opXor, opDiff, opShr, opBit, hu2, hu3, e0, e3, e4, e5, hlt, e6, e7, hg, hlx', ntw, csw, gb2, ntw2, csw2, gb3, hc, hLu, y2', g3o, e8, hkl, hkp, hk1, c3, y6, hcb, gb7, hap9]
              have hsm9 : Same (fun x => h.next ≤ x) hq h9 := ⟨by have := k3.1.1; omega, fun x _ hx => by
                have hx3 := k3.1.1
                have hno : ¬ ObjIn v7 x := fun e => by
                  rcases O7 _ e with e | e
                  · exact absurd (show h3.next = x from e) (by omega)
                  · omega
                rw [S9 _ (by omega) hno, k8.1.2 _ (by omega), S7 _ (by omega) (fun e => absurd (show h3.next = _ from e) (by omega))]
                exact (k3.trans k6).1.2 x hx⟩
              obtain ⟨ys2, src2, len2, el2⟩ := (hu.partsAt (spO_steady n) y2 hsm9).2 k hk
              obtain ⟨v10, h10, hap10, hG10, A10, n10, S10, O10⟩ := GL.append2 (P := Try.prog) (t := 43) (t' := 43) (z := .agg #[.int .i64 0, .slice none 0 0]) (b := 32) (e := 26) (F := fun x => h.next ≤ x ∧ x < hq.next) (h0 := h) (K := O.drop k) (spO_steady n) hG9 src2 len2 el2 (fun x hx => ⟨hx.1, by have := k3.1.1; omega, fun e => by
                  have hx3 := k3.1.1
                  rcases O9 _ e with e | e
                  · rcases O7 _ e with e | e
                    · exact absurd (show h3.next = x from e) (by omega)
                    · omega
                  · omega⟩)
                (by simp) (by simp) (by simp) rfl (by simp) (by decide) (by decide) (by simp) (by simp <;> omega) (by have := ha.1.1; have := k3.1.1; omega) A9 (Nat.le_refl _)
              try simp (disch := first | omega | (simp; done) | fail) [wrap64c, if_pos, if_neg, opAnd, opOr, opXor, opDiff, opShr, opBit, hu2, hu3, e0, e3, e4, e5, hlt, e6, e7, hg, hlx', ntw, csw, gb2, ntw2, csw2, gb3, hc, hLu, y2', g3o, e8, hkl, hkp, hk1, c3, y6, hcb, gb7, hap10]
              refine loopK_next _ ?hm ?hf ⟨f + 1, v10, O.take k ++ [famL n f] ++ O.drop k, rfl, (by simp (disch := first | omega | (simp; done) | fail) [wrap64c, if_pos, if_neg, opAnd, opOr, opXor, opDiff, opShr, opBit, hu2, hu3, e0, e3, e4, e5, hlt, e6, e7, hg, hlx', ntw, csw, gb2, ntw2, csw2, gb3, hc, hLu, y2', g3o, e8, hkl, hkp, hk1, c3, y6, hcb, gb7] <;> omega), (by simp (disch := first | omega | (simp; done) | fail) [wrap64c, if_pos, if_neg, opAnd, opOr, opXor, opDiff, opShr, opBit, hu2, hu3, e0, e3, e4, e5, hlt, e6, e7, hg, hlx', ntw, csw, gb2, ntw2, csw2, gb3, hc, hLu, y2', g3o, e8, hkl, hkp, hk1, c3, y6, hcb, gb7] <;> omega), (by first | omega | assumption | (simp (disch := first | omega | (simp; done) | fail) [wrap64c, if_pos, if_neg, opAnd, opOr, opXor, opDiff, opShr, opBit, hu2, hu3, e0, e3, e4, e5, hlt, e6, e7, hg, hlx', ntw, csw, gb2, ntw2, csw2, gb3, hc, hLu, y2', g3o, e8, hkl, hkp, hk1, c3, y6, hcb, gb7] <;> omega)), A10, hG10, hs1, (by rw [hcs]; exact hs2.trans (List.Perm.append_right _ hO2))⟩
              (case hm => first | omega | (simp; omega))
              (case hf => simp [FrameL, hu2, hu3, e0, e3, e4, e5, hlt, e6, e7, hg, hlx', ntw, csw, gb2, ntw2, csw2, gb3, hc, hLu, y2', g3o, e8, hkl, hkp, hk1, c3, y6, hcb, gb7, f0_0, f3_0])
  · have hfe : f = bit (bit n - 2) := by omega
    have hOe : O = spacesL n := spacesL_uniq p1 hO1 (by rw [hfe] at hO2; exact hO2)
    rw [hOe] at hu
    try simp (disch := first | omega | (simp; done) | fail) [wrap64c, if_pos, if_neg, opAnd, opOr, opXor, opDiff, opShr, opBit, hu2, hu3, e0, e3, e4, e5, hlt]
    exact done_ret rfl ⟨ha, hu⟩
end Go.Proofs.Ytnncipcldbopgaa
namespace Go.Proofs.Ytnncipcldbopgaa
set_option linter.unusedSimpArgs false
set_option linter.unusedVariables false
set_option maxHeartbeats 4000000
open Go Go.Eng
attribute [local irreducible] WD RunD PreD Runs CallOK
noncomputable def alikeB (N : Int) (X : List Int) (M : Int) (Y : List Int) : Bool := fewB N X && fewB M Y && (decide (N = M) && decide (leastRX N X = leastRX M Y))
end Go.Proofs.Ytnncipcldbopgaa
namespace Go.Proofs.Ytnncipcldbopgaa
set_option linter.unusedSimpArgs false
set_option linter.unusedVariables false
set_option maxHeartbeats 4000000
open Go Go.Eng
attribute [local irreducible] WD RunD PreD Runs CallOK
theorem spG_at {m n : Nat} {h : Hp} {v : Value} {L : List (List Nat)} (hs : GL 2 (spO m) n h v L) {k : Nat} (hk : k < L.length) :
    ∃ o cs ex w, v = .slice (some ⟨o, 0, none⟩) L.length L.length ∧ (n ≤ o ∧ o < h.next) ∧ h.get o = .cells cs true ex 2 ∧ cs.length = L.length * 2 ∧ (cs.drop (k * 2)).take 2 = [.int .i64 (m : Int), w] ∧ IntsO (fun x => n ≤ x ∧ x ≠ o) h w (toN L[k]) := by
  rcases hs with ⟨rfl, _⟩ | ⟨o, ex, cs, e, h1, h2, h3, h4, h5⟩
  · simp at hk
  · obtain ⟨w, hw, hI⟩ := h5 k hk
    exact ⟨o, cs, ex, w, e, ⟨h1, h2⟩, h3, h4, hw, hI⟩
theorem good_lt {n : Nat} {xs : List Nat} (g : SpGood n xs) : (toN xs).length < 2 ^ 40 := by
  have := g.len7
  simp; omega
theorem spacesL_le {n : Nat} (p1 : 1 ≤ n) (p4 : n ≤ 4) : (spacesL n).length ≤ 16384 := by
  rw [spacesL_len]
  exact Nat.le_trans (candK_len _ _) (bit_mono (j := 14) (by have : bit n ≤ bit 4 := bit_mono p4; have : bit 4 = 16 := rfl; omega))
noncomputable def upN (n : Nat) : Nat := ((spacesL n).filter fun x => decide (leastN n x = x)).length
noncomputable def upR (N : Int) : Int := if 1 ≤ N ∧ N ≤ 4 then (upN N.toNat : Int) else 0
theorem implUp_ok (h : Hp) (N : Int) : CallOK Try.prog 36 #[.int .i64 N] h (.tuple #[.int .i64 (upR N), .bool (decide (1 ≤ N ∧ N ≤ 4))]) h := by
  by_cases hc : 1 ≤ N ∧ N ≤ 4
  case neg =>
    refine callY_P 26 _ [.tmp 2, .tmp 3] Try.func36 rfl rfl rfl (by first | rfl | simp) ?_
    have hc' : (decide (1 ≤ N ∧ N ≤ 4)) = false := decide_eq_false hc
    have hc1 := hc
    try simp (disch := first | omega | (simp; done) | fail) [wrap64c, if_pos, if_neg, opAnd, opOr, opXor, opDiff, opShr, opBit, hc', hc1]
    refine callG_c (by simp) (by simp) ?ha (within_ok h N 1 4) ?_
    (case ha => simp (disch := first | omega | (simp; done) | fail) [wrap64c, if_pos, if_neg, opAnd, opOr, opXor, opDiff, opShr, opBit, hc', hc1])
    try simp (disch := first | omega | (simp; done) | fail) [wrap64c, if_pos, if_neg, opAnd, opOr, opXor, opDiff, opShr, opBit, hc', hc1]
    exact done_ret rfl (by simp [upR, hc])
  obtain ⟨n, rfl⟩ := Int.eq_ofNat_of_zero_le (show 0 ≤ N by omega)
  have p1 : 1 ≤ n := by omega
  have p4 : n ≤ 4 := by omega
  have hcc : (decide (1 ≤ (n : Int) ∧ (n : Int) ≤ 4)) = true := decide_eq_true hc
  refine callY_P 26 _ [.tmp 2, .tmp 3] Try.func36 rfl rfl rfl (by first | rfl | simp) ?_
  have hc1 := hcc
  try simp (disch := first | omega | (simp; done) | fail) [wrap64c, if_pos, if_neg, opAnd, opOr, opXor, opDiff, opShr, opBit, hc1]
  refine callG_c (by simp) (by simp) ?ha (within_ok h n 1 4) ?_
  (case ha => simp (disch := first | omega | (simp; done) | fail) [wrap64c, if_pos, if_neg, opAnd, opOr, opXor, opDiff, opShr, opBit, hc1])
  obtain ⟨v, h2, hc2, ha2, hG⟩ := spaces_ok h n p1 p4
  obtain ⟨L, hLe⟩ : ∃ L, L = spacesL n := ⟨_, rfl⟩
  have hLl : L.length ≤ 16384 := by rw [hLe]; exact spacesL_le p1 p4
  have hLg : ∀ x ∈ L, SpGood n x := fun x hx => spacesL_good (hLe ▸ hx)
  rw [← hLe] at hG
  have hL := hG.lenD
  try simp (disch := first | omega | (simp; done) | fail) [wrap64c, if_pos, if_neg, opAnd, opOr, opXor, opDiff, opShr, opBit, hc1, hL]
  refine callG_c (by simp) (by simp) ?ha (hc2) ?_
  (case ha => simp (disch := first | omega | (simp; done) | fail) [wrap64c, if_pos, if_neg, opAnd, opOr, opXor, opDiff, opShr, opBit, hc1, hL])
  try simp (disch := first | omega | (simp; done) | fail) [wrap64c, if_pos, if_neg, opAnd, opOr, opXor, opDiff, opShr, opBit, hc1, hL]
  refine WD_loopC [11, 12] (fun m tm h' => ∃ j, m = L.length - j ∧ tm 4 = .int .i64 ((((L.take j).filter fun x => decide (leastN n x = x)).length : Nat) : Int) ∧ tm 13 = .int .i64 (j : Int) ∧ (j ≤ L.length) ∧ (Adds h2 h')) _ ⟨0, rfl, (by simp), (by simp (disch := first | omega | (simp; done) | fail) [wrap64c, if_pos, if_neg, opAnd, opOr, opXor, opDiff, opShr, opBit, hc1, hL]), (by first | omega | assumption | (simp (disch := first | omega | (simp; done) | fail) [wrap64c, if_pos, if_neg, opAnd, opOr, opXor, opDiff, opShr, opBit, hc1, hL] <;> omega)), (adds_self _)⟩ ?_
  rintro m tm h' hFr ⟨j, rfl, e4, e13, hj, ha⟩
  simp only [FrameL] at hFr
  obtain ⟨f11_0, f12_0, -⟩ := hFr
  try simp (disch := first | omega | (simp; done) | fail) [wrap64c, if_pos, if_neg, opAnd, opOr, opXor, opDiff, opShr, opBit, hc1, hL] at f11_0 f12_0
  have e11 := f11_0
  have e12 := f12_0
  by_cases hlt : j < L.length
  · obtain ⟨o, cs, ex, w, y1, y2, y3, y4, y5, y6⟩ := spG_at (hG.keep (spO_steady n) ha.1) hlt
    have y1' := y1
    have g := hLg _ (List.getElem_mem hlt)
    have ntw := y6.nt
    have csw := y6.cs
    have hfl := filter_take_le (fun x => decide (leastN n x = x)) L j
    rename Hp => hq
    try simp (disch := first | omega | (simp; done) | fail) [wrap64c, if_pos, if_neg, opAnd, opOr, opXor, opDiff, opShr, opBit, hc1, hL, e4, e11, e12, e13, hlt, y1', y3, y4, y5, ntw, csw, putCells]
    first | refine WY_heap fun h3 q_h3 => ?_ | refine callG_heap fun h3 q_h3 => ?_ | refine callP_heap fun h3 q_h3 => ?_ | refine callS_heap fun h3 q_h3 => ?_ | refine RY_heap fun h3 q_h3 => ?_ | refine PY_heap fun h3 q_h3 => ?_ | refine SY_heap fun h3 q_h3 => ?_ | refine doneY_heap fun h3 q_h3 => ?_ | refine loopK_heap fun h3 q_h3 => ?_ | refine thenY_heap fun h3 q_h3 => ?_ | refine thenM_heap fun h3 q_h3 => ?_
    have k3 : Adds hq h3 := by rw [q_h3]; exact (by first | exact aK | exact kK)
    have n3 : h3.next = hq.next + 1 := by simp [q_h3]
    have gb3 : h3.get hq.next = .cells [.int .i64 (n : Int), w] true true 1 := by simp [q_h3]
    have hw3 := y6.keep k3.1
    obtain ⟨_, h4, hc4, ha4, d, rfl, hd⟩ := leastNamed_ok h3 (.agg #[.int .i64 (n : Int), w]) n L[j] (.mk hw3.ints) g
    refine WD_drawC 3 rfl (by kernel_rfl) ?_
    try simp (disch := first | omega | (simp; done) | fail) [wrap64c, if_pos, if_neg, opAnd, opOr, opXor, opDiff, opShr, opBit, hc1, hL, e4, e11, e12, e13, hlt, y1', y3, y4, y5, ntw, csw, gb3]
    refine callP_c (by simp) (by simp) ?ha (hc4) ?hadd ?_
    (case ha => simp (disch := first | omega | (simp; done) | fail) [wrap64c, if_pos, if_neg, opAnd, opOr, opXor, opDiff, opShr, opBit, hc1, hL, e4, e11, e12, e13, hlt, y1', y3, y4, y5, ntw, csw, gb3])
    (case hadd => first | assumption | exact adds_self _ | (simp; done))
    have ntd := hd.nt
    have csd := hd.cs
    try simp (disch := first | omega | (simp; done) | fail) [wrap64c, if_pos, if_neg, opAnd, opOr, opXor, opDiff, opShr, opBit, hc1, hL, e4, e11, e12, e13, hlt, y1', y3, y4, y5, ntw, csw, gb3, ntd, csd]
    refine callG_c (by simp) (by simp) ?ha (compare_ok h4 (.agg #[.int .i64 (n : Int), w]) (.agg #[.int .i64 (n : Int), d]) n n _ _ (.mk (hw3.keep ha4.1).ints) (.mk hd.ints)) ?_
    (case ha => simp (disch := first | omega | (simp; done) | fail) [wrap64c, if_pos, if_neg, opAnd, opOr, opXor, opDiff, opShr, opBit, hc1, hL, e4, e11, e12, e13, hlt, y1', y3, y4, y5, ntw, csw, gb3, ntd, csd])
    by_cases hcmp : leastN n L[j] = L[j]
    · have hz : cmpL (toN L[j]) (toN (leastN n L[j])) = 0 := by rw [cmpL_zero, hcmp]
      try simp (disch := first | omega | (simp; done) | fail) [wrap64c, if_pos, if_neg, opAnd, opOr, opXor, opDiff, opShr, opBit, hc1, hL, e4, e11, e12, e13, hlt, y1', y3, y4, y5, ntw, csw, gb3, ntd, csd, hz]
      refine loopK_next _ ?hm ?hf ⟨j + 1, rfl, (by simp [List.take_succ_eq_append_getElem hlt, hcmp, -List.take_append_getElem]), (by simp (disch := first | omega | (simp; done) | fail) [wrap64c, if_pos, if_neg, opAnd, opOr, opXor, opDiff, opShr, opBit, hc1, hL, e4, e11, e12, e13, hlt, y1', y3, y4, y5, ntw, csw, gb3, ntd, csd, hz] <;> omega), (by first | omega | assumption | (simp (disch := first | omega | (simp; done) | fail) [wrap64c, if_pos, if_neg, opAnd, opOr, opXor, opDiff, opShr, opBit, hc1, hL, e4, e11, e12, e13, hlt, y1', y3, y4, y5, ntw, csw, gb3, ntd, csd, hz] <;> omega)), ((ha.trans k3).trans ha4)⟩
      (case hm => first | omega | (simp; omega))
      (case hf => simp [FrameL, hc1, hL, e4, e11, e12, e13, hlt, y1', y3, y4, y5, ntw, csw, gb3, ntd, csd, hz, f11_0, f12_0])
    · have hz : (cmpL (toN L[j]) (toN (leastN n L[j])) == 0) = false := by
        have : ¬ cmpL (toN L[j]) (toN (leastN n L[j])) = 0 := by rw [cmpL_zero, toN_inj]; exact fun e => hcmp e.symm
        simp [this]
      try simp (disch := first | omega | (simp; done) | fail) [wrap64c, if_pos, if_neg, opAnd, opOr, opXor, opDiff, opShr, opBit, hc1, hL, e4, e11, e12, e13, hlt, y1', y3, y4, y5, ntw, csw, gb3, ntd, csd, hz]
      refine loopK_next _ ?hm ?hf ⟨j + 1, rfl, (by simp [List.take_succ_eq_append_getElem hlt, hcmp, e4, -List.take_append_getElem]), (by simp (disch := first | omega | (simp; done) | fail) [wrap64c, if_pos, if_neg, opAnd, opOr, opXor, opDiff, opShr, opBit, hc1, hL, e4, e11, e12, e13, hlt, y1', y3, y4, y5, ntw, csw, gb3, ntd, csd] <;> omega), (by first | omega | assumption | (simp (disch := first | omega | (simp; done) | fail) [wrap64c, if_pos, if_neg, opAnd, opOr, opXor, opDiff, opShr, opBit, hc1, hL, e4, e11, e12, e13, hlt, y1', y3, y4, y5, ntw, csw, gb3, ntd, csd] <;> omega)), ((ha.trans k3).trans ha4)⟩
      (case hm => first | omega | (simp; omega))
      (case hf => simp [FrameL, hc1, hL, e4, e11, e12, e13, hlt, y1', y3, y4, y5, ntw, csw, gb3, ntd, csd, f11_0, f12_0])
  · have hft : L.take j = L := List.take_of_length_le (by omega)
    try simp (disch := first | omega | (simp; done) | fail) [wrap64c, if_pos, if_neg, opAnd, opOr, opXor, opDiff, opShr, opBit, hc1, hL, e4, e11, e12, e13, hlt]
    exact done_ret rfl (by simp [upR, hc.1, hc.2, upN, ← hLe, hft, (ha2.trans ha).1])
theorem specUp_ok (h : Hp) (N : Int) : CallOK Try.prog 42 #[.int .i64 N] h (.tuple #[.int .i64 (upR N), .bool (decide (1 ≤ N ∧ N ≤ 4))]) h := by
  by_cases hc : 1 ≤ N ∧ N ≤ 4
  case neg =>
    refine callY_P 26 _ [.tmp 2, .tmp 3] Try.func42 rfl rfl rfl (by first | rfl | simp) ?_
    have hc' : (decide (1 ≤ N ∧ N ≤ 4)) = false := decide_eq_false hc
    have hc1 := hc
    try simp (disch := first | omega | (simp; done) | fail) [wrap64c, if_pos, if_neg, opAnd, opOr, opXor, opDiff, opShr, opBit, hc', hc1]
    refine callG_c (by simp) (by simp) ?ha (l1In_ok h N 1 4) ?_
    (case ha => simp (disch := first | omega | (simp; done) | fail) [wrap64c, if_pos, if_neg, opAnd, opOr, opXor, opDiff, opShr, opBit, hc', hc1])
    try simp (disch := first | omega | (simp; done) | fail) [wrap64c, if_pos, if_neg, opAnd, opOr, opXor, opDiff, opShr, opBit, hc', hc1]
    exact done_ret rfl (by simp [upR, hc])
  obtain ⟨n, rfl⟩ := Int.eq_ofNat_of_zero_le (show 0 ≤ N by omega)
  have p1 : 1 ≤ n := by omega
  have p4 : n ≤ 4 := by omega
  have hcc : (decide (1 ≤ (n : Int) ∧ (n : Int) ≤ 4)) = true := decide_eq_true hc
  refine callY_P 26 _ [.tmp 2, .tmp 3] Try.func42 rfl rfl rfl (by first | rfl | simp) ?_
  have hc1 := hcc
  try simp (disch := first | omega | (simp; done) | fail) [wrap64c, if_pos, if_neg, opAnd, opOr, opXor, opDiff, opShr, opBit, hc1]
  refine callG_c (by simp) (by simp) ?ha (l1In_ok h n 1 4) ?_
  (case ha => simp (disch := first | omega | (simp; done) | fail) [wrap64c, if_pos, if_neg, opAnd, opOr, opXor, opDiff, opShr, opBit, hc1])
  obtain ⟨v, h2, hc2, ha2, hG⟩ := alSpaces_ok h n p1 p4
  obtain ⟨L, hLe⟩ : ∃ L, L = spacesL n := ⟨_, rfl⟩
  have hLl : L.length ≤ 16384 := by rw [hLe]; exact spacesL_le p1 p4
  have hLg : ∀ x ∈ L, SpGood n x := fun x hx => spacesL_good (hLe ▸ hx)
  rw [← hLe] at hG
  have hL := hG.lenD
  try simp (disch := first | omega | (simp; done) | fail) [wrap64c, if_pos, if_neg, opAnd, opOr, opXor, opDiff, opShr, opBit, hc1, hL]
  refine callG_c (by simp) (by simp) ?ha (hc2) ?_
  (case ha => simp (disch := first | omega | (simp; done) | fail) [wrap64c, if_pos, if_neg, opAnd, opOr, opXor, opDiff, opShr, opBit, hc1, hL])
  try simp (disch := first | omega | (simp; done) | fail) [wrap64c, if_pos, if_neg, opAnd, opOr, opXor, opDiff, opShr, opBit, hc1, hL]
  refine WD_loopC [11, 12] (fun m tm h' => ∃ j, m = L.length - j ∧ tm 4 = .int .i64 ((((L.take j).filter fun x => decide (leastN n x = x)).length : Nat) : Int) ∧ tm 13 = .int .i64 (j : Int) ∧ (j ≤ L.length) ∧ (Adds h2 h')) _ ⟨0, rfl, (by simp), (by simp (disch := first | omega | (simp; done) | fail) [wrap64c, if_pos, if_neg, opAnd, opOr, opXor, opDiff, opShr, opBit, hc1, hL]), (by first | omega | assumption | (simp (disch := first | omega | (simp; done) | fail) [wrap64c, if_pos, if_neg, opAnd, opOr, opXor, opDiff, opShr, opBit, hc1, hL] <;> omega)), (adds_self _)⟩ ?_
  rintro m tm h' hFr ⟨j, rfl, e4, e13, hj, ha⟩
  simp only [FrameL] at hFr
  obtain ⟨f11_0, f12_0, -⟩ := hFr
  try simp (disch := first | omega | (simp; done) | fail) [wrap64c, if_pos, if_neg, opAnd, opOr, opXor, opDiff, opShr, opBit, hc1, hL] at f11_0 f12_0
  have e11 := f11_0
  have e12 := f12_0
  by_cases hlt : j < L.length
  · obtain ⟨o, cs, ex, w, y1, y2, y3, y4, y5, y6⟩ := spG_at (hG.keep (spO_steady n) ha.1) hlt
    have y1' := y1
    have g := hLg _ (List.getElem_mem hlt)
    have ntw := y6.nt
    have csw := y6.cs
    have hfl := filter_take_le (fun x => decide (leastN n x = x)) L j
    rename Hp => hq
    try simp (disch := first | omega | (simp; done) | fail) [wrap64c, if_pos, if_neg, opAnd, opOr, opXor, opDiff, opShr, opBit, hc1, hL, e4, e11, e12, e13, hlt, y1', y3, y4, y5, ntw, csw, putCells]
    first | refine WY_heap fun h3 q_h3 => ?_ | refine callG_heap fun h3 q_h3 => ?_ | refine callP_heap fun h3 q_h3 => ?_ | refine callS_heap fun h3 q_h3 => ?_ | refine RY_heap fun h3 q_h3 => ?_ | refine PY_heap fun h3 q_h3 => ?_ | refine SY_heap fun h3 q_h3 => ?_ | refine doneY_heap fun h3 q_h3 => ?_ | refine loopK_heap fun h3 q_h3 => ?_ | refine thenY_heap fun h3 q_h3 => ?_ | refine thenM_heap fun h3 q_h3 => ?_
    have k3 : Adds hq h3 := by rw [q_h3]; exact (by first | exact aK | exact kK)
    have n3 : h3.next = hq.next + 1 := by simp [q_h3]
    have gb3 : h3.get hq.next = .cells [.int .i64 (n : Int), w] true true 1 := by simp [q_h3]
    have hw3 := y6.keep k3.1
    obtain ⟨d, h4, hc4, ha4, hd⟩ := alLeast_ok h3 (.agg #[.int .i64 (n : Int), w]) n L[j] (.mk hw3.ints) g
    have gb4 : h4.get hq.next = .cells [.int .i64 (n : Int), w] true true 1 := by rw [ha4.1.2 _ (by omega)]; exact gb3
    refine WD_drawC 4 rfl (by kernel_rfl) ?_
    try simp (disch := first | omega | (simp; done) | fail) [wrap64c, if_pos, if_neg, opAnd, opOr, opXor, opDiff, opShr, opBit, hc1, hL, e4, e11, e12, e13, hlt, y1', y3, y4, y5, ntw, csw, gb3, gb4]
    refine callP_c (by simp) (by simp) ?ha (hc4) ?hadd ?_
    (case ha => simp (disch := first | omega | (simp; done) | fail) [wrap64c, if_pos, if_neg, opAnd, opOr, opXor, opDiff, opShr, opBit, hc1, hL, e4, e11, e12, e13, hlt, y1', y3, y4, y5, ntw, csw, gb3, gb4])
    (case hadd => first | assumption | exact adds_self _ | (simp; done))
    have ntd := hd.nt
    have csd := hd.cs
    try simp (disch := first | omega | (simp; done) | fail) [wrap64c, if_pos, if_neg, opAnd, opOr, opXor, opDiff, opShr, opBit, hc1, hL, e4, e11, e12, e13, hlt, y1', y3, y4, y5, ntw, csw, gb3, gb4, ntd, csd]
    refine callG_c (by simp) (by simp) ?ha (l1Same_ok h4 d w _ _ hd.ints (hw3.keep ha4.1).ints) ?_
    (case ha => simp (disch := first | omega | (simp; done) | fail) [wrap64c, if_pos, if_neg, opAnd, opOr, opXor, opDiff, opShr, opBit, hc1, hL, e4, e11, e12, e13, hlt, y1', y3, y4, y5, ntw, csw, gb3, gb4, ntd, csd])
    by_cases hcmp : leastN n L[j] = L[j]
    · have hz : cmpL (toN (leastN n L[j])) (toN L[j]) = 0 := by rw [cmpL_zero, hcmp]
      try simp (disch := first | omega | (simp; done) | fail) [wrap64c, if_pos, if_neg, opAnd, opOr, opXor, opDiff, opShr, opBit, hc1, hL, e4, e11, e12, e13, hlt, y1', y3, y4, y5, ntw, csw, gb3, gb4, ntd, csd, hz]
      refine loopK_next _ ?hm ?hf ⟨j + 1, rfl, (by simp [List.take_succ_eq_append_getElem hlt, hcmp, -List.take_append_getElem]), (by simp (disch := first | omega | (simp; done) | fail) [wrap64c, if_pos, if_neg, opAnd, opOr, opXor, opDiff, opShr, opBit, hc1, hL, e4, e11, e12, e13, hlt, y1', y3, y4, y5, ntw, csw, gb3, gb4, ntd, csd, hz] <;> omega), (by first | omega | assumption | (simp (disch := first | omega | (simp; done) | fail) [wrap64c, if_pos, if_neg, opAnd, opOr, opXor, opDiff, opShr, opBit, hc1, hL, e4, e11, e12, e13, hlt, y1', y3, y4, y5, ntw, csw, gb3, gb4, ntd, csd, hz] <;> omega)), ((ha.trans k3).trans ha4)⟩
      (case hm => first | omega | (simp; omega))
      (case hf => simp [FrameL, hc1, hL, e4, e11, e12, e13, hlt, y1', y3, y4, y5, ntw, csw, gb3, gb4, ntd, csd, hz, f11_0, f12_0])
    · have hz : ¬ cmpL (toN (leastN n L[j])) (toN L[j]) = 0 := by rw [cmpL_zero, toN_inj]; exact hcmp
      try simp (disch := first | omega | (simp; done) | fail) [wrap64c, if_pos, if_neg, opAnd, opOr, opXor, opDiff, opShr, opBit, hc1, hL, e4, e11, e12, e13, hlt, y1', y3, y4, y5, ntw, csw, gb3, gb4, ntd, csd, hz]
      refine loopK_next _ ?hm ?hf ⟨j + 1, rfl, (by simp [List.take_succ_eq_append_getElem hlt, hcmp, e4, -List.take_append_getElem]), (by simp (disch := first | omega | (simp; done) | fail) [wrap64c, if_pos, if_neg, opAnd, opOr, opXor, opDiff, opShr, opBit, hc1, hL, e4, e11, e12, e13, hlt, y1', y3, y4, y5, ntw, csw, gb3, gb4, ntd, csd, hz] <;> omega), (by first | omega | assumption | (simp (disch := first | omega | (simp; done) | fail) [wrap64c, if_pos, if_neg, opAnd, opOr, opXor, opDiff, opShr, opBit, hc1, hL, e4, e11, e12, e13, hlt, y1', y3, y4, y5, ntw, csw, gb3, gb4, ntd, csd, hz] <;> omega)), ((ha.trans k3).trans ha4)⟩
      (case hm => first | omega | (simp; omega))
      (case hf => simp [FrameL, hc1, hL, e4, e11, e12, e13, hlt, y1', y3, y4, y5, ntw, csw, gb3, gb4, ntd, csd, hz, f11_0, f12_0])
  · have hft : L.take j = L := List.take_of_length_le (by omega)
    try simp (disch := first | omega | (simp; done) | fail) [wrap64c, if_pos, if_neg, opAnd, opOr, opXor, opDiff, opShr, opBit, hc1, hL, e4, e11, e12, e13, hlt]
    exact done_ret rfl (by simp [upR, hc.1, hc.2, upN, ← hLe, hft, (ha2.trans ha).1])
end Go.Proofs.Ytnncipcldbopgaa
