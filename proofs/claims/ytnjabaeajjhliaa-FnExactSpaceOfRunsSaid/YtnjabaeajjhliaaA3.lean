/- Rows of whole numbers: copies, comparisons, marks; growing; lists copied by the program and by the reference. -/
import Derived.Test.YtnjabaeajjhliaaA2
namespace Go.Proofs.Ytnjabaeajjhliaa
set_option linter.unusedSimpArgs false
set_option linter.unusedVariables false
open Go Go.Eng
attribute [local irreducible] WD RunD PreD Runs CallOK

theorem toIntSS_ok (h : Hp) (v : Value) (xs : List (List Int)) (hv : IRows h v xs) (hl : xs.length < 2 ^ 40) (hr : ∀ x ∈ xs, x.length < 2 ^ 40) : ∃ v' h', CallOK Try.prog 46 #[v] h v' h' ∧ Adds h h' ∧ IRowsO (Btw h.next h'.next) h' v' xs := by
  refine callY_L (args := [v]) 23 _ [.tmp 2] Try.func46 rfl rfl rfl ?_
  have hL := hv.lenD
  try simp (disch := first | omega | (simp; done) | fail) [wrap64c, if_pos, if_neg, hL, (by omega : (xs.length : Int) < 140737488355328), (by omega : (24 : Int) * xs.length ≤ 281474976710656)]
  refine WD_loopC [0, 3] (fun m tm h' => ∃ j us zs, m = xs.length - j ∧ tm 4 = .int .i64 (j : Int) ∧ (j ≤ xs.length) ∧ (Adds h h') ∧ (h.next < h'.next) ∧ (h'.get h.next = .cells (us ++ zs) true true 1) ∧ (us.length = j ∧ zs.length = xs.length - j) ∧ (RowsB h.next h.next h' us (xs.take j))) _ ⟨0, [], _, rfl, (by simp (disch := first | omega | (simp; done) | fail) [wrap64c, if_pos, if_neg, hL]), (by first | omega | assumption | (simp (disch := first | omega | (simp; done) | fail) [wrap64c, if_pos, if_neg, hL] <;> omega)), (by first | exact aK | exact kK), (by simp), (by simp; exact (List.nil_append _).symm), (by simp), (by simpa using RowsB.nil _ _ _)⟩ ?_
  rintro m tm h' hFr ⟨j, us, zs, rfl, e4, hj, ha, hn, hg, hzs, hB⟩
  simp only [FrameL] at hFr
  obtain ⟨f0_0, f3_0, -⟩ := hFr
  try simp (disch := first | omega | (simp; done) | fail) [wrap64c, if_pos, if_neg, hL] at f0_0 f3_0
  have e0 := f0_0
  have e3 := f3_0
  obtain ⟨hus, hzs⟩ := hzs
  by_cases hlt : j < xs.length
  · obtain ⟨z, zs', rfl⟩ : ∃ z zs', zs = z :: zs' := by
      cases zs with
      | nil => simp at hzs; omega
      | cons z zs' => exact ⟨z, zs', rfl⟩
    obtain ⟨o_x, i_x, c_x, cs_x, own_x, ex_x, es_x, us_x, q_x, b_x, g_x, l_x, r_x, R_x⟩ := (hv.keep ha.1).open ((by omega))
    have z_x : ∀ h2 : i_x < cs_x.length, cs_x[i_x] = _ := fun h2 => r_x 0 ((by omega)) h2
    try simp (disch := first | omega | (simp; done) | fail) [wrap64c, if_pos, if_neg, hL, e0, e3, e4, hg, hlt, q_x, g_x, l_x, r_x, z_x, hus]
    obtain ⟨v1, h1, hc1, ha1, hi1⟩ := toIntS_ok h' (us_x j) xs[j] (R_x j hlt) (hr _ (List.getElem_mem hlt))
    refine callG_c (by simp) (by simp) ?ha (hc1) ?_
    (case ha => simp (disch := first | omega | (simp; done) | fail) [wrap64c, if_pos, if_neg, hL, e0, e3, e4, hg, hlt, q_x, g_x, l_x, r_x, z_x])
    have hn1 : h.next < h1.next := Nat.lt_of_lt_of_le hn ha1.1.1
    have hg1 : h1.get h.next = .cells (us ++ z :: zs') true true 1 := by rw [ha1.1.2 _ hn, hg]
    have nt1 := hi1.nt
    have cs1 := hi1.cs
    try simp (disch := first | omega | (simp; done) | fail) [wrap64c, if_pos, if_neg, hL, e0, e3, e4, hg, hlt, q_x, g_x, l_x, r_x, z_x, hg1, nt1, cs1, hus]
    refine loopK_next _ ?hm ?hf ⟨j + 1, us ++ [v1], zs', rfl, (by simp (disch := first | omega | (simp; done) | fail) [wrap64c, if_pos, if_neg, hL, e0, e3, e4, hg, hlt, q_x, g_x, l_x, r_x, z_x, hg1, nt1, cs1] <;> omega), (by first | omega | assumption | (simp (disch := first | omega | (simp; done) | fail) [wrap64c, if_pos, if_neg, hL, e0, e3, e4, hg, hlt, q_x, g_x, l_x, r_x, z_x, hg1, nt1, cs1] <;> omega)), (by have := ha.trans ha1; exact (by first | exact aK | exact kK)), (by simpa using hn1), (by simp [putCells, ← hus]), (by simp at hzs ⊢; omega), ?c_hB⟩
    (case hm => first | omega | (simp; omega))
    (case hf => simp [FrameL, hL, e0, e3, e4, hg, hlt, q_x, g_x, l_x, r_x, z_x, hg1, nt1, cs1, f0_0, f3_0])
    case c_hB =>
      exact (by
        have hB1 : RowsB h.next h.next h1 (us ++ [v1]) (xs.take j ++ [xs[j]]) := hB.snoc ha1.1 hn (Nat.le_of_lt hn) hi1
        rw [List.take_succ_eq_append_getElem hlt]
        exact hB1.same (Same.put (Same.refl _ _) (by simp) _))
  · try simp (disch := first | omega | (simp; done) | fail) [wrap64c, if_pos, if_neg, hL, e0, e3, e4, hg, hlt]
    have hj' : j = xs.length := by omega
    subst hj'
    have hz0 : zs = [] := List.length_eq_zero_iff.1 (by omega)
    subst hz0
    rw [List.take_length] at hB
    refine done_ret rfl ⟨ha, ?_⟩
    have hq : IRowsA h.next h' (.slice (some ⟨h.next, 0, none⟩) xs.length xs.length) xs := .inr ⟨h.next, true, us, rfl, Nat.le_refl _, hn, by simpa using hg, hB⟩
    exact hq.own (by omega)

theorem eqIntSS_ok (h : Hp) (v w : Value) (xs ys : List (List Int)) (hv : IRows h v xs) (hw : IRows h w ys) : CallOK Try.prog 50 #[v, w] h (.bool (decide (xs = ys))) h := by
  refine callY_P 27 _ [.tmp 4] Try.func50 rfl rfl rfl (by first | rfl | simp) ?_
  have hs := hv.len
  have hL := hv.lenD
  have hM := hw.lenD
  by_cases hl : xs.length = ys.length
  · have hlb : ((xs.length : Int) != (ys.length : Int)) = false := by simp [hl]
    try simp (disch := first | omega | (simp; done) | fail) [wrap64c, if_pos, if_neg, hL, hM, hlb]
    refine WD_loopC [0, 1] (fun m tm h' => ∃ j, m = xs.length - j ∧ h = h' ∧ tm 5 = .int .i64 (j : Int) ∧ (j ≤ xs.length) ∧ (xs.take j = ys.take j)) _ ⟨0, rfl, rfl, (by simp (disch := first | omega | (simp; done) | fail) [wrap64c, if_pos, if_neg, hL, hM, hlb]), (by first | omega | assumption | (simp (disch := first | omega | (simp; done) | fail) [wrap64c, if_pos, if_neg, hL, hM, hlb] <;> omega)), (by first | omega | assumption | (simp (disch := first | omega | (simp; done) | fail) [wrap64c, if_pos, if_neg, hL, hM, hlb] <;> omega))⟩ ?_
    rintro m tm h' hFr ⟨j, rfl, rfl, e5, hj, hx⟩
    simp only [FrameL] at hFr
    obtain ⟨f0_0, f1_0, -⟩ := hFr
    try simp (disch := first | omega | (simp; done) | fail) [wrap64c, if_pos, if_neg, hL, hM, hlb] at f0_0 f1_0
    have e0 := f0_0
    have e1 := f1_0
    by_cases hlt : j < xs.length
    · have hlt2 : j < ys.length := by omega
      obtain ⟨o_x, i_x, c_x, cs_x, own_x, ex_x, es_x, us_x, q_x, b_x, g_x, l_x, r_x, R_x⟩ := hv.open ((by omega))
      have z_x : ∀ h2 : i_x < cs_x.length, cs_x[i_x] = _ := fun h2 => r_x 0 ((by omega)) h2
      obtain ⟨o_y, i_y, c_y, cs_y, own_y, ex_y, es_y, us_y, q_y, b_y, g_y, l_y, r_y, R_y⟩ := hw.open ((by omega))
      have z_y : ∀ h2 : i_y < cs_y.length, cs_y[i_y] = _ := fun h2 => r_y 0 ((by omega)) h2
      try simp (disch := first | omega | (simp; done) | fail) [wrap64c, if_pos, if_neg, hL, hM, hlb, e0, e1, e5, hlt, hlt2, q_x, g_x, l_x, r_x, z_x, q_y, g_y, l_y, r_y, z_y]
      refine WD_drawC 8 rfl (by kernel_rfl) ?_
      try simp (disch := first | omega | (simp; done) | fail) [wrap64c, if_pos, if_neg, hL, hM, hlb, e0, e1, e5, hlt, hlt2, q_x, g_x, l_x, r_x, z_x, q_y, g_y, l_y, r_y, z_y]
      by_cases hq : xs[j] = ys[j]
      · refine callG_c (by simp) (by simp) ?ha (eqIntS_ok h _ _ _ _ (R_x j hlt) (R_y j hlt2)) ?_
        (case ha => simp (disch := first | omega | (simp; done) | fail) [wrap64c, if_pos, if_neg, hL, hM, hlb, e0, e1, e5, hlt, hlt2, q_x, g_x, l_x, r_x, z_x, q_y, g_y, l_y, r_y, z_y])
        try simp (disch := first | omega | (simp; done) | fail) [wrap64c, if_pos, if_neg, hL, hM, hlb, e0, e1, e5, hlt, hlt2, q_x, g_x, l_x, r_x, z_x, q_y, g_y, l_y, r_y, z_y, hq]
        refine loopK_next _ ?hm ?hf ⟨j + 1, rfl, rfl, (by simp (disch := first | omega | (simp; done) | fail) [wrap64c, if_pos, if_neg, hL, hM, hlb, e0, e1, e5, hlt, hlt2, q_x, g_x, l_x, r_x, z_x, q_y, g_y, l_y, r_y, z_y] <;> omega), (by first | omega | assumption | (simp (disch := first | omega | (simp; done) | fail) [wrap64c, if_pos, if_neg, hL, hM, hlb, e0, e1, e5, hlt, hlt2, q_x, g_x, l_x, r_x, z_x, q_y, g_y, l_y, r_y, z_y] <;> omega)), (by rw [List.take_succ_eq_append_getElem hlt, List.take_succ_eq_append_getElem hlt2, hx, hq])⟩
        (case hm => first | omega | (simp; omega))
        (case hf => simp [FrameL, hL, hM, hlb, e0, e1, e5, hlt, hlt2, q_x, g_x, l_x, r_x, z_x, q_y, g_y, l_y, r_y, z_y, f0_0, f1_0])
      · refine callG_c (by simp) (by simp) ?ha (eqIntS_ok h _ _ _ _ (R_x j hlt) (R_y j hlt2)) ?_
        (case ha => simp (disch := first | omega | (simp; done) | fail) [wrap64c, if_pos, if_neg, hL, hM, hlb, e0, e1, e5, hlt, hlt2, q_x, g_x, l_x, r_x, z_x, q_y, g_y, l_y, r_y, z_y])
        try simp (disch := first | omega | (simp; done) | fail) [wrap64c, if_pos, if_neg, hL, hM, hlb, e0, e1, e5, hlt, hlt2, q_x, g_x, l_x, r_x, z_x, q_y, g_y, l_y, r_y, z_y, hq]
        have : xs ≠ ys := fun q => hq (by subst q; rfl)
        exact done_ret rfl (by simp [this])
    · try simp (disch := first | omega | (simp; done) | fail) [wrap64c, if_pos, if_neg, hL, hM, hlb, e0, e1, e5, hlt]
      rw [show j = xs.length by omega, List.take_length, hl, List.take_length] at hx
      exact done_ret rfl (by simp [hx])
  · have hlb : ((xs.length : Int) != (ys.length : Int)) = true := by simp [hl]
    try simp (disch := first | omega | (simp; done) | fail) [wrap64c, if_pos, if_neg, hL, hM, hlb]
    have : xs ≠ ys := fun q => hl (by rw [q])
    exact done_ret rfl (by simp [this])

/-- Marks, row by row. -/
def mkR : Int → List (List Int) → List (List Int)
  | _, [] => []
  | k, r :: L => mkL k r.length :: mkR (k + r.length) L
/-- How many numbers there are. -/
def tot : List (List Int) → Nat
  | [] => 0
  | r :: L => r.length + tot L
@[simp] theorem mkR_length : ∀ (L : List (List Int)) (k : Int), (mkR k L).length = L.length
  | [], _ => rfl
  | _ :: L, k => by simp [mkR, mkR_length L]
theorem tot_take_succ : ∀ (L : List (List Int)) (j : Nat) (h : j < L.length), tot (L.take (j + 1)) = tot (L.take j) + L[j].length
  | r :: L, 0, h => by simp [tot]
  | r :: L, j + 1, h => by simp [tot, tot_take_succ L j (by simpa using h)]; omega
theorem mkR_get : ∀ (L : List (List Int)) (k : Int) (j : Nat) (h : j < L.length) (h' : j < (mkR k L).length), (mkR k L)[j] = mkL (k + tot (L.take j)) L[j].length
  | r :: L, k, 0, h, _ => by simp [mkR, tot]
  | r :: L, k, j + 1, h, h' => by
    simp only [mkR, List.getElem_cons_succ, List.take_succ_cons, tot]
    rw [mkR_get L (k + r.length) j (by simpa using h) (by simpa using h)]
    congr 1; push_cast; omega
theorem tot_le : ∀ (L : List (List Int)) (j : Nat), tot (L.take j) ≤ tot L
  | [], j => by simp [tot]
  | r :: L, 0 => by simp [tot]
  | r :: L, j + 1 => by simp [tot]; exact tot_le L j
theorem len_le_tot : ∀ (L : List (List Int)) (j : Nat) (h : j < L.length), L[j].length ≤ tot L
  | r :: L, 0, h => by simp [tot]
  | r :: L, j + 1, h => by simp [tot]; have := len_le_tot L j (by simpa using h); omega

theorem markIntSS_ok (S : Nat → Prop) (h : Hp) (v : Value) (xs : List (List Int)) (k : Int) (hv : IRowsO S h v xs) (h0 : 0 ≤ k) (h1 : k < 2 ^ 49) (hl : xs.length < 2 ^ 49) (ht : tot xs < 2 ^ 49) :
    ∃ v' h', CallOK Try.prog 51 #[v, .int .i64 k] h v' h' ∧ v' = .int .i64 (k + tot xs) ∧ h'.next = h.next ∧ Upd S h h' ∧ IRowsO S h' v (mkR k xs) := by
  refine callY_L (args := [v, .int .i64 k]) 19 _ [.tmp 4] Try.func51 rfl rfl rfl ?_
  try simp (disch := first | omega | (simp; done) | fail) [wrap64c, if_pos, if_neg]
  refine WD_loopC [0] (fun m tm h' => ∃ j ys, m = xs.length - j ∧ tm 1 = .int .i64 (k + (tot (xs.take j) : Int)) ∧ tm 5 = .int .i64 (j : Int) ∧ (j ≤ xs.length) ∧ (h'.next = h.next) ∧ (Upd S h h') ∧ (IRowsO S h' v ys) ∧ (ys.length = xs.length) ∧ (∀ i (hi : i < ys.length) (hi' : i < xs.length), (i < j → ys[i] = mkL (k + tot (xs.take i)) xs[i].length) ∧ (j ≤ i → ys[i] = xs[i]))) _ ⟨0, xs, rfl, (by simp [tot]), (by simp (disch := first | omega | (simp; done) | fail) [wrap64c, if_pos, if_neg]), (by first | omega | assumption | (simp (disch := first | omega | (simp; done) | fail) [wrap64c, if_pos, if_neg] <;> omega)), (by first | omega | assumption | (simp (disch := first | omega | (simp; done) | fail) [wrap64c, if_pos, if_neg] <;> omega)), (Upd.refl S h), hv, rfl, (fun i hi _ => ⟨fun q => absurd q (by omega), fun _ => rfl⟩)⟩ ?_
  rintro m tm h' hFr ⟨j, ys, rfl, e1, e5, hj, hn, hu, hy, hyl, hx⟩
  simp only [FrameL] at hFr
  obtain ⟨f0_0, -⟩ := hFr
  try simp (disch := first | omega | (simp; done) | fail) [wrap64c, if_pos, if_neg] at f0_0
  have e0 := f0_0
  have hL := hy.lenD
  by_cases hlt : j < xs.length
  · obtain ⟨o, i, c, cs, ex, us, T, q, So, bo, g, l, r, t, d, R⟩ := hy.open (by omega)
    have r' := getForm r
    try simp (disch := first | omega | (simp; done) | fail) [wrap64c, if_pos, if_neg, e0, e1, e5, hL, hlt, q, g, l, r', hyl]
    have hxj := (hx j (by omega) hlt).2 (Nat.le_refl _)
    have hb1 := tot_le xs j
    have hb2 := len_le_tot xs j hlt
    obtain ⟨v1, h1, hc1, rfl, hn1, hu1, hi1⟩ := markIntS_ok (T j) h' (us j) ys[j] (k + tot (xs.take j)) (R j (by omega)) (by omega) (by omega) (by rw [hxj]; omega)
    refine callG_c (by simp) (by simp) ?ha (hc1) ?_
    (case ha => simp (disch := first | omega | (simp; done) | fail) [wrap64c, if_pos, if_neg, e0, e1, e5, hL, hlt, q, g, l, r'])
    try simp (disch := first | omega | (simp; done) | fail) [wrap64c, if_pos, if_neg, e0, e1, e5, hL, hlt, q, g, l, r']
    refine loopK_next _ ?hm ?hf ⟨j + 1, ys.set j (mkL (k + tot (xs.take j)) ys[j].length), rfl, (by simp [hxj, tot_take_succ xs j hlt]; omega), (by simp (disch := first | omega | (simp; done) | fail) [wrap64c, if_pos, if_neg, e0, e1, e5, hL, hlt, q, g, l, r'] <;> omega), (by first | omega | assumption | (simp (disch := first | omega | (simp; done) | fail) [wrap64c, if_pos, if_neg, e0, e1, e5, hL, hlt, q, g, l, r'] <;> omega)), (by omega), (hu.trans (hu1.mono fun o _ ho => (t j o ho).1)), (hy.row q So bo g l r t d R (by omega) hu1 hi1), (by simpa using hyl), ?c_hx⟩
    (case hm => first | omega | (simp; omega))
    (case hf => simp [FrameL, e0, e1, e5, hL, hlt, q, g, l, r', f0_0])
    case c_hx =>
      exact (fun i hi hi' => by
        rw [List.getElem_set]
        by_cases e : j = i
        · subst e; rw [if_pos rfl, hxj]; exact ⟨fun _ => rfl, fun q => absurd q (by omega)⟩
        · rw [if_neg e]
          have := hx i (by simpa using hi) hi'
          exact ⟨fun q => this.1 (by omega), fun q => this.2 (by omega)⟩)
  · try simp (disch := first | omega | (simp; done) | fail) [wrap64c, if_pos, if_neg, e0, e1, e5, hL, hlt, hyl]
    have hj' : j = xs.length := by omega
    have e : ys = mkR k xs := List.ext_getElem (by simp [hyl]) fun i h1 h2 => by
      have hi : i < xs.length := by omega
      rw [mkR_get xs k i hi h2]; exact (hx i h1 hi).1 (by omega)
    exact done_ret rfl ⟨by simp [hj'], hn, hu, e ▸ hy⟩

/-- One number more, as the program does it: a literal of one number is appended. -/
theorem appI {n : Nat} {h0 h : Hp} {v : Value} {xs : List Int} (hs : IntsA n h v xs) (x : Int) (hl : xs.length < 2 ^ 40) (hn : n ≤ h.next) (hA : Adds h0 h) (h0n : h0.next ≤ n) :
    ∃ v' h', appendD Try.prog 30 30 v (.slice (some ⟨h.next, 0, none⟩) 1 1) (h.alloc (.cells [.int .i64 x] true true 1)) = some (v', h') ∧ IntsA n h' v' (xs ++ [x]) ∧ Adds h0 h' ∧ h.next < h'.next ∧ ∀ o, o < h.next → o < n → h'.get o = h.get o := by
  obtain ⟨v', h', g1, g2, g3, g4, g5⟩ := append_one (P := Try.prog) (t := 30) (t' := 30) (x := x) (q := h.next) (h := h.alloc (.cells [.int .i64 x] true true 1)) (qx := true) (n := n) (v := v) (xs := xs) (by
    rcases hs with ⟨a, b⟩ | ⟨o, ex, a, b, c, d⟩
    · exact .inl ⟨a, b⟩
    · exact .inr ⟨o, ex, a, b, Nat.lt_succ_of_lt c, by simp [Nat.ne_of_lt c, d]⟩) ty_elT_30 ty_szT_3 ty_zeroT_3 ty_byT_3 (by decide) (by decide) (by simp) (by simp) hl (by simp; omega) (show Adds h0 _ from (by first | exact aK | exact kK)) h0n
  exact ⟨v', h', g1, g2, g3, Nat.lt_of_le_of_lt (by simp) g4, fun o ho hn => by rw [g5 o (by simp; omega) hn]; simp [Nat.ne_of_lt ho]⟩
theorem appR {n : Nat} {h0 h1 h : Hp} {v u : Value} {L : List (List Int)} {r : List Int} (hs : IRowsA n h1 v L) (hk1 : Keeps h1 h) (hu : IntsO (Btw h1.next h.next) h u r) (hl : L.length < 2 ^ 40) (hn : n ≤ h1.next) (hA : Adds h0 h) (h0n : h0.next ≤ n) :
    ∃ v' h', appendD Try.prog 54 54 v (.slice (some ⟨h.next, 0, none⟩) 1 1) (h.alloc (.cells [u] true true 1)) = some (v', h') ∧ IRowsA n h' v' (L ++ [r]) ∧ Adds h0 h' ∧ h.next < h'.next ∧ ∀ o, o < h.next → o < n → h'.get o = h.get o := by
  obtain ⟨v', h', g1, g2, g3, g4, g5⟩ := append_row (P := Try.prog) (t := 54) (t' := 54) (q := h.next) (h := h.alloc (.cells [u] true true 1)) (qx := true) (n := n) (u := u) (r := r) hs (hk1.trans (Keeps.alloc _ _)) ((hu.keep (Keeps.alloc _ _)).sub fun o ho => ⟨ho.1, Nat.lt_succ_of_lt ho.2⟩)
    ty_elT_54 ty_szT_30 ty_zeroT_30 ty_byT_30 (by decide) (by decide) (by simp) (by simp) hl hn (show Adds h0 _ from (by first | exact aK | exact kK)) h0n
  exact ⟨v', h', g1, g2, g3, Nat.lt_of_le_of_lt (by simp) g4, fun o ho hn => by rw [g5 o (by simp; omega) hn]; simp [Nat.ne_of_lt ho]⟩

theorem l1Own_ok (h : Hp) (v : Value) (xs : List Int) (hv : Ints h v xs) (hl : xs.length < 2 ^ 39) : ∃ v' h', CallOK Try.prog 127 #[v] h v' h' ∧ Adds h h' ∧ IntsO (Btw h.next h'.next) h' v' xs ∧ IntsA h.next h' v' xs := by
  refine callY_L (args := [v]) 6 _ [.tmp 2] Try.func127 rfl rfl rfl ?_
  try simp (disch := first | omega | (simp; done) | fail) [wrap64c, if_pos, if_neg]
  first | refine WY_heap fun h1 q_h1 => ?_ | refine callG_heap fun h1 q_h1 => ?_ | refine callP_heap fun h1 q_h1 => ?_ | refine RY_heap fun h1 q_h1 => ?_ | refine PY_heap fun h1 q_h1 => ?_ | refine doneY_heap fun h1 q_h1 => ?_ | refine loopK_heap fun h1 q_h1 => ?_ | refine thenY_heap fun h1 q_h1 => ?_ | refine thenM_heap fun h1 q_h1 => ?_
  have k1 : Adds h h1 := by rw [q_h1]; exact (by first | exact aK | exact kK)
  have hA : IntsA h.next h1 (.slice (some ⟨h.next, 0, none⟩) 0 0) [] := .lit (ex := true) (Nat.le_refl _) (by simp [q_h1]) (by simp [q_h1, zarr])
  obtain ⟨v2, h2, hap, hA2, k2, n2, s2⟩ := append_ints (P := Try.prog) (t := 30) (t' := 30) hA (hv.keep k1.1) ty_elT_30 ty_szT_3 ty_zeroT_3 ty_byT_3 (by decide) (by decide) (by simp) (by simp; omega) (by simp [q_h1]) k1 (Nat.le_refl _)
  simp only [List.nil_append] at hA2
  try simp (disch := first | omega | (simp; done) | fail) [wrap64c, if_pos, if_neg, hap]
  exact done_ret rfl ⟨k2, hA2.own (by omega), hA2⟩
end Go.Proofs.Ytnjabaeajjhliaa
