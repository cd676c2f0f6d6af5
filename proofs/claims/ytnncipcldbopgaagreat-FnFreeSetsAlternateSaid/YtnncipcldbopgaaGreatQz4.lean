/- Part 4 of the proof of freeSetsAlternate_holds: what it uses of the texts that lie in the notes, merged. -/
import Derived.Test.YtnncipcldbopgaaGreatQz3
namespace Go.Proofs.YtnncipcldbopgaaGreat
set_option linter.unusedSimpArgs false
set_option linter.unusedVariables false
set_option maxHeartbeats 4000000
open Go Go.Eng
attribute [local irreducible] WD RunD PreD Runs CallOK
def SrtB (k : Nat) (l : List Nat) : Prop := l.Pairwise (· < ·) ∧ ∀ a ∈ l, a < k
theorem SrtB.len {k : Nat} {l : List Nat} (h : SrtB k l) : l.length ≤ k := by
  have := srt_len (lo := 0) (m := k) h.1 (fun x hx => ⟨Nat.zero_le _, h.2 x hx⟩)
  omega
theorem SrtB.put {k a : Nat} {l : List Nat} (h : SrtB k l) (ha : a < k) : SrtB k (putL l a) := ⟨putL_srt h.1 a, fun x hx => by
  rcases (putL_mem l a x).1 hx with rfl | hx
  · exact ha
  · exact h.2 x hx⟩
theorem SrtB.zero {k : Nat} (h : 0 < k) : SrtB k [0] := ⟨List.pairwise_singleton _ _, fun x hx => by simp at hx; omega⟩
theorem spPut_ok (h : Hp) (m : Nat) (v : Value) (l : List Nat) (a : Nat) (hv : IntsA m h v (toN l)) (hs : l.Pairwise (· < ·)) (hl : l.length < 2 ^ 38) (hm : m ≤ h.next) :
    ∃ v' h', CallOK Tryz.prog 134 #[v, .int .i64 (a : Int)] h v' h' ∧ Adds h h' ∧ IntsA m h' v' (toN (putL l a)) := by
  obtain ⟨v', h', c, a', i⟩ := l1Put_ok h m v l a hv hs hl hm
  exact ⟨v', h', spPut_of h v v' a h' c, a', i⟩
theorem subI {h : Hp} {o : Nat} {xs : List Int} {own ex : Bool} {es : Nat} (hg : h.get o = .cells (xs.map (.int .i64)) own ex es) (ho : o < h.next) {i n c : Nat} (hi : i + n ≤ xs.length) (hc : n ≤ c) (hc2 : c < 2 ^ 63) : Ints h (.slice (some ⟨o, i, none⟩) n c) ((xs.drop i).take n) := by
  have hl : ((xs.drop i).take n).length = n := by simp; omega
  refine ⟨some ⟨o, i, none⟩, c, by rw [hl], by omega, hc2, fun k x hk => ?_⟩
  obtain ⟨q1, q2⟩ := List.getElem?_eq_some_iff.1 hk
  rw [hl] at q1
  subst q2
  refine ⟨o, i, _, own, ex, es, rfl, ho, hg, by simp; omega, ?_⟩
  have : i + k < xs.length := by omega
  simp [isInt, List.getD_eq_getElem?_getD, this]
theorem spFree_ok (h : Hp) (n : Nat) (hn : n ≤ 7) : ∃ v' h', CallOK Tryz.prog 170 #[.int .i64 (n : Int)] h v' h' ∧ Adds h h' ∧ IntsA h.next h' v' (toN (List.range (bit n))) := by
  have hb := bit7 hn
  refine callY_L (args := [.int .i64 (n : Int)]) 16 _ [.tmp 2] Tryz.func170 rfl rfl rfl ?_
  try simp (disch := first | omega | (simp; done) | fail) [wrap64c, if_pos, if_neg, opAnd, opOr, opXor, opDiff, opShr, opBit]
  refine WD_loopC [0] (fun m tm h' => ∃ v a, m = bit n - a ∧ tm 3 = v ∧ tm 4 = .int .i64 ((a : Nat) : Int) ∧ (a ≤ bit n) ∧ (Adds h h') ∧ (IntsA h.next h' v (toN (List.range a)))) _ ⟨Value.slice none 0 0, 0, rfl, (by simp (disch := first | omega | (simp; done) | fail) [wrap64c, if_pos, if_neg, opAnd, opOr, opXor, opDiff, opShr, opBit]), (by simp (disch := first | omega | (simp; done) | fail) [wrap64c, if_pos, if_neg, opAnd, opOr, opXor, opDiff, opShr, opBit]), (by first | omega | assumption | (simp (disch := first | omega | (simp; done) | fail) [wrap64c, if_pos, if_neg, opAnd, opOr, opXor, opDiff, opShr, opBit] <;> omega)), (adds_self _), (.nil _ _)⟩ ?_
  rintro m tm h' hFr ⟨v, a, rfl, e3, e4, ha, hd, hi⟩
  simp only [FrameL] at hFr
  obtain ⟨f0_0, -⟩ := hFr
  try simp (disch := first | omega | (simp; done) | fail) [wrap64c, if_pos, if_neg, opAnd, opOr, opXor, opDiff, opShr, opBit] at f0_0
  have e0 := f0_0
  have nd := hd.1.1
  by_cases hlt : a < bit n
  · have hlt' : (a : Int) < ((bit n : Nat) : Int) := by omega
    obtain ⟨v3, h3, hap, hi3, k3, n3, s3⟩ := appI hi (a : Int) (by simp; omega) nd hd (Nat.le_refl _)
    try simp (disch := first | omega | (simp; done) | fail) [wrap64c, if_pos, if_neg, opAnd, opOr, opXor, opDiff, opShr, opBit, e0, e3, e4, hlt', hap]
    refine loopK_next _ ?hm ?hf ⟨v3, a + 1, rfl, (by simp (disch := first | omega | (simp; done) | fail) [wrap64c, if_pos, if_neg, opAnd, opOr, opXor, opDiff, opShr, opBit, e0, e3, e4, hlt'] <;> omega), (by simp (disch := first | omega | (simp; done) | fail) [wrap64c, if_pos, if_neg, opAnd, opOr, opXor, opDiff, opShr, opBit, e0, e3, e4, hlt'] <;> omega), (by first | omega | assumption | (simp (disch := first | omega | (simp; done) | fail) [wrap64c, if_pos, if_neg, opAnd, opOr, opXor, opDiff, opShr, opBit, e0, e3, e4, hlt'] <;> omega)), k3, (by rw [List.range_succ, toN_snoc]; exact hi3)⟩
    (case hm => first | omega | (simp; omega))
    (case hf => simp [FrameL, e0, e3, e4, hlt', f0_0])
  · have hlt' : ¬ (a : Int) < ((bit n : Nat) : Int) := by omega
    have hae : a = bit n := by omega
    subst hae
    try simp (disch := first | omega | (simp; done) | fail) [wrap64c, if_pos, if_neg, opAnd, opOr, opXor, opDiff, opShr, opBit, e0, e3, e4, hlt']
    exact done_ret rfl ⟨hd, hi⟩
theorem spChain_ok (h : Hp) (v : Value) (l : List Nat) (n : Nat) (hv : Ints h v (toN l)) (hl : ∀ x ∈ l, x < n) (hn : n ≤ 7) (hll : l.length ≤ 1000) :
    ∃ v' h', CallOK Tryz.prog 172 #[v] h v' h' ∧ Adds h h' ∧ ∃ L, IntsA h.next h' v' (toN L) ∧ SrtB (bit n) L ∧ 0 ∈ L := by
  have hb := bit7 hn
  have lv := hv.lenD
  have hgt := toN_get l
  have hln := toN_length l
  refine callY_L (args := [v]) 23 _ [.tmp 2] Tryz.func172 rfl rfl rfl ?_
  try simp (disch := first | omega | (simp; done) | fail) [wrap64c, if_pos, if_neg, opAnd, opOr, opXor, opDiff, opShr, opBit, lv, hgt, hln]
  first | refine WY_heap fun h1 q_h1 => ?_ | refine callG_heap fun h1 q_h1 => ?_ | refine callP_heap fun h1 q_h1 => ?_ | refine callS_heap fun h1 q_h1 => ?_ | refine RY_heap fun h1 q_h1 => ?_ | refine PY_heap fun h1 q_h1 => ?_ | refine SY_heap fun h1 q_h1 => ?_ | refine doneY_heap fun h1 q_h1 => ?_ | refine loopK_heap fun h1 q_h1 => ?_ | refine thenY_heap fun h1 q_h1 => ?_ | refine thenM_heap fun h1 q_h1 => ?_
  have k1 : Adds h h1 := by rw [q_h1]; exact (by first | exact aK | exact kK)
  have n1 : h1.next = h.next + 1 := by simp [q_h1]
  have i1 : IntsA h.next h1 (.slice (some ⟨h.next, 0, none⟩) 1 1) (toN [0]) := .inr ⟨h.next, true, rfl, Nat.le_refl _, by omega, by simp [q_h1, toN]⟩
  refine WD_loopC [8, 9] (fun m tm h' => ∃ u a j L, m = l.length - j ∧ tm 3 = u ∧ tm 4 = .int .i64 ((a : Nat) : Int) ∧ tm 10 = .int .i64 (j : Int) ∧ (j ≤ l.length) ∧ (a < bit n) ∧ (Adds h h') ∧ (IntsA h.next h' u (toN L)) ∧ (SrtB (bit n) L) ∧ (0 ∈ L)) _ ⟨_, 0, 0, [0], rfl, (by simp (disch := first | omega | (simp; done) | fail) [wrap64c, if_pos, if_neg, opAnd, opOr, opXor, opDiff, opShr, opBit, lv, hgt, hln]), (by simp (disch := first | omega | (simp; done) | fail) [wrap64c, if_pos, if_neg, opAnd, opOr, opXor, opDiff, opShr, opBit, lv, hgt, hln]), (by simp (disch := first | omega | (simp; done) | fail) [wrap64c, if_pos, if_neg, opAnd, opOr, opXor, opDiff, opShr, opBit, lv, hgt, hln]), (by first | omega | assumption | (simp (disch := first | omega | (simp; done) | fail) [wrap64c, if_pos, if_neg, opAnd, opOr, opXor, opDiff, opShr, opBit, lv, hgt, hln] <;> omega)), (by first | omega | assumption | (simp (disch := first | omega | (simp; done) | fail) [wrap64c, if_pos, if_neg, opAnd, opOr, opXor, opDiff, opShr, opBit, lv, hgt, hln] <;> omega)), k1, i1, (SrtB.zero (by omega)), (by simp)⟩ ?_
  rintro m tm h' hFr ⟨u, a, j, L, rfl, e3, e4, e10, hj, ha, hd, hi, hL, h0⟩
  simp only [FrameL] at hFr
  obtain ⟨f8_0, f9_0, -⟩ := hFr
  try simp (disch := first | omega | (simp; done) | fail) [wrap64c, if_pos, if_neg, opAnd, opOr, opXor, opDiff, opShr, opBit, lv, hgt, hln] at f8_0 f9_0
  have e8 := f8_0
  have e9 := f9_0
  have nd := hd.1.1
  have lL := hL.len
  by_cases hlt : j < l.length
  · have hv' := hv.keep hd.1
    have hx := hl _ (List.getElem_mem hlt)
    obtain ⟨i, hie⟩ : ∃ i, i = l[j] := ⟨_, rfl⟩
    have hie' : l[j] = i := hie.symm
    have hi7 : i < 7 := by omega
    have hb7 := bit_lt7 hi7
    have hor := nOr_lt (n := n) ha (bit_lt_bit (show i < n by omega))
    obtain ⟨o_x, i_x, c_x, cs_x, own_x, ex_x, es_x, q_x, b_x, g_x, l_x, r_x⟩ := hv'.open ((by simp; omega))
    have z_x : ∀ h2 : i_x < cs_x.length, cs_x[i_x] = _ := fun h2 => r_x 0 ((by simp; omega)) h2
    try simp (disch := first | omega | (simp; done) | fail) [wrap64c, if_pos, if_neg, opAnd, opOr, opXor, opDiff, opShr, opBit, lv, hgt, hln, e3, e4, e8, e9, e10, hlt, hie', q_x, g_x, l_x, r_x, z_x]
    obtain ⟨u2, h2, c2, a2, i2⟩ := spPut_ok h' h.next u L (nOr a (bit i)) hi hL.1 (by omega) nd
    refine callG_c (by simp) (by simp) ?ha (c2) ?_
    (case ha => simp (disch := first | omega | (simp; done) | fail) [wrap64c, if_pos, if_neg, opAnd, opOr, opXor, opDiff, opShr, opBit, lv, hgt, hln, e3, e4, e8, e9, e10, hlt, hie', q_x, g_x, l_x, r_x, z_x])
    try simp (disch := first | omega | (simp; done) | fail) [wrap64c, if_pos, if_neg, opAnd, opOr, opXor, opDiff, opShr, opBit, lv, hgt, hln, e3, e4, e8, e9, e10, hlt, hie', q_x, g_x, l_x, r_x, z_x]
    refine loopK_next _ ?hm ?hf ⟨u2, nOr a (bit i), j + 1, putL L (nOr a (bit i)), rfl, (by simp (disch := first | omega | (simp; done) | fail) [wrap64c, if_pos, if_neg, opAnd, opOr, opXor, opDiff, opShr, opBit, lv, hgt, hln, e3, e4, e8, e9, e10, hlt, hie', q_x, g_x, l_x, r_x, z_x] <;> omega), (by simp (disch := first | omega | (simp; done) | fail) [wrap64c, if_pos, if_neg, opAnd, opOr, opXor, opDiff, opShr, opBit, lv, hgt, hln, e3, e4, e8, e9, e10, hlt, hie', q_x, g_x, l_x, r_x, z_x] <;> omega), (by simp (disch := first | omega | (simp; done) | fail) [wrap64c, if_pos, if_neg, opAnd, opOr, opXor, opDiff, opShr, opBit, lv, hgt, hln, e3, e4, e8, e9, e10, hlt, hie', q_x, g_x, l_x, r_x, z_x] <;> omega), (by first | omega | assumption | (simp (disch := first | omega | (simp; done) | fail) [wrap64c, if_pos, if_neg, opAnd, opOr, opXor, opDiff, opShr, opBit, lv, hgt, hln, e3, e4, e8, e9, e10, hlt, hie', q_x, g_x, l_x, r_x, z_x] <;> omega)), hor, (hd.trans a2), i2, (hL.put hor), ((putL_mem _ _ _).2 (.inr h0))⟩
    (case hm => first | omega | (simp; omega))
    (case hf => simp [FrameL, lv, hgt, hln, e3, e4, e8, e9, e10, hlt, hie', q_x, g_x, l_x, r_x, z_x, f8_0, f9_0])
  · try simp (disch := first | omega | (simp; done) | fail) [wrap64c, if_pos, if_neg, opAnd, opOr, opXor, opDiff, opShr, opBit, lv, hgt, hln, e3, e4, e8, e9, e10, hlt]
    exact done_ret rfl ⟨hd, L, hi, hL, h0⟩
theorem spUnions_ok (h : Hp) (v : Value) (l : List Nat) (n : Nat) (hv : Ints h v (toN l)) (hl : ∀ x ∈ l, x < bit n) (hn : n ≤ 7) (hll : l.length ≤ 1000) :
    ∃ v' h', CallOK Tryz.prog 173 #[v] h v' h' ∧ Adds h h' ∧ ∃ L, IntsA h.next h' v' (toN L) ∧ SrtB (bit n) L ∧ 0 ∈ L := by
  have hb := bit7 hn
  have lv := hv.lenD
  have hgt := toN_get l
  have hln := toN_length l
  refine callY_L (args := [v]) 30 _ [.tmp 2] Tryz.func173 rfl rfl rfl ?_
  try simp (disch := first | omega | (simp; done) | fail) [wrap64c, if_pos, if_neg, opAnd, opOr, opXor, opDiff, opShr, opBit, lv, hgt, hln]
  first | refine WY_heap fun h1 q_h1 => ?_ | refine callG_heap fun h1 q_h1 => ?_ | refine callP_heap fun h1 q_h1 => ?_ | refine callS_heap fun h1 q_h1 => ?_ | refine RY_heap fun h1 q_h1 => ?_ | refine PY_heap fun h1 q_h1 => ?_ | refine SY_heap fun h1 q_h1 => ?_ | refine doneY_heap fun h1 q_h1 => ?_ | refine loopK_heap fun h1 q_h1 => ?_ | refine thenY_heap fun h1 q_h1 => ?_ | refine thenM_heap fun h1 q_h1 => ?_
  have k1 : Adds h h1 := by rw [q_h1]; exact (by first | exact aK | exact kK)
  have n1 : h1.next = h.next + 1 := by simp [q_h1]
  have i1 : IntsA h.next h1 (.slice (some ⟨h.next, 0, none⟩) 1 1) (toN [0]) := .inr ⟨h.next, true, rfl, Nat.le_refl _, by omega, by simp [q_h1, toN]⟩
  refine WD_loopC [9, 10] (fun m tm h' => ∃ u j L, m = l.length - j ∧ tm 3 = u ∧ tm 11 = .int .i64 (j : Int) ∧ (j ≤ l.length) ∧ (Adds h h') ∧ (IntsA h.next h' u (toN L)) ∧ (SrtB (bit n) L) ∧ (0 ∈ L)) _ ⟨_, 0, [0], rfl, (by simp (disch := first | omega | (simp; done) | fail) [wrap64c, if_pos, if_neg, opAnd, opOr, opXor, opDiff, opShr, opBit, lv, hgt, hln]), (by simp (disch := first | omega | (simp; done) | fail) [wrap64c, if_pos, if_neg, opAnd, opOr, opXor, opDiff, opShr, opBit, lv, hgt, hln]), (by first | omega | assumption | (simp (disch := first | omega | (simp; done) | fail) [wrap64c, if_pos, if_neg, opAnd, opOr, opXor, opDiff, opShr, opBit, lv, hgt, hln] <;> omega)), k1, i1, (SrtB.zero (by omega)), (by simp)⟩ ?_
  rintro m tm h' hFr ⟨u, j, L, rfl, e3, e11, hj, hd, hi, hL, h0⟩
  simp only [FrameL] at hFr
  obtain ⟨f9_0, f10_0, -⟩ := hFr
  try simp (disch := first | omega | (simp; done) | fail) [wrap64c, if_pos, if_neg, opAnd, opOr, opXor, opDiff, opShr, opBit, lv, hgt, hln] at f9_0 f10_0
  have e9 := f9_0
  have e10 := f10_0
  have nd := hd.1.1
  have lL := hL.len
  by_cases hlt : j < l.length
  · have hv' := hv.keep hd.1
    have hx := hl _ (List.getElem_mem hlt)
    obtain ⟨a, hae⟩ : ∃ i, i = l[j] := ⟨_, rfl⟩
    have hae' : l[j] = a := hae.symm
    rename Hp => hq
    obtain ⟨u2, h2, c2, a2, _, i2⟩ := l1Own_ok hq u (toN L) ((hi.own (by simp; omega)).ints) (by simp; omega)
    have lu2 := i2.lenD
    have hgL := toN_get L
    have hlL := toN_length L
    have n2 := a2.1.1
    obtain ⟨o_x, i_x, c_x, cs_x, own_x, ex_x, es_x, q_x, b_x, g_x, l_x, r_x⟩ := hv'.open ((by simp; omega))
    have z_x : ∀ h2 : i_x < cs_x.length, cs_x[i_x] = _ := fun h2 => r_x 0 ((by simp; omega)) h2
    try simp (disch := first | omega | (simp; done) | fail) [wrap64c, if_pos, if_neg, opAnd, opOr, opXor, opDiff, opShr, opBit, lv, hgt, hln, e3, e9, e10, e11, hlt, hae', lu2, hgL, hlL, q_x, g_x, l_x, r_x, z_x]
    refine callG_c (by simp) (by simp) ?ha (c2) ?_
    (case ha => simp (disch := first | omega | (simp; done) | fail) [wrap64c, if_pos, if_neg, opAnd, opOr, opXor, opDiff, opShr, opBit, lv, hgt, hln, e3, e9, e10, e11, hlt, hae', lu2, hgL, hlL, q_x, g_x, l_x, r_x, z_x])
    try simp (disch := first | omega | (simp; done) | fail) [wrap64c, if_pos, if_neg, opAnd, opOr, opXor, opDiff, opShr, opBit, lv, hgt, hln, e3, e9, e10, e11, hlt, hae', lu2, hgL, hlL, q_x, g_x, l_x, r_x, z_x]
    refine WD_loopC [5, 9, 10, 11, 16, 17] (fun m tm h' => ∃ w q M, m = L.length - q ∧ tm 3 = w ∧ tm 18 = .int .i64 (q : Int) ∧ (q ≤ L.length) ∧ (Adds h2 h') ∧ (IntsA h.next h' w (toN M)) ∧ (SrtB (bit n) M) ∧ (0 ∈ M)) _ ⟨_, 0, L, rfl, (by simp (disch := first | omega | (simp; done) | fail) [wrap64c, if_pos, if_neg, opAnd, opOr, opXor, opDiff, opShr, opBit, lv, hgt, hln, e3, e9, e10, e11, hlt, hae', lu2, hgL, hlL, q_x, g_x, l_x, r_x, z_x]), (by simp (disch := first | omega | (simp; done) | fail) [wrap64c, if_pos, if_neg, opAnd, opOr, opXor, opDiff, opShr, opBit, lv, hgt, hln, e3, e9, e10, e11, hlt, hae', lu2, hgL, hlL, q_x, g_x, l_x, r_x, z_x]), (by first | omega | assumption | (simp (disch := first | omega | (simp; done) | fail) [wrap64c, if_pos, if_neg, opAnd, opOr, opXor, opDiff, opShr, opBit, lv, hgt, hln, e3, e9, e10, e11, hlt, hae', lu2, hgL, hlL, q_x, g_x, l_x, r_x, z_x] <;> omega)), (adds_self _), (hi.keep a2.1), hL, h0⟩ ?_
    rintro m tm h' hFr ⟨w, q, M, rfl, e3, e18, hq1, hd2, hi2, hM, h02⟩
    simp only [FrameL] at hFr
    obtain ⟨f5_1, f9_1, f10_1, f11_1, f16_1, f17_1, -⟩ := hFr
    try simp (disch := first | omega | (simp; done) | fail) [wrap64c, if_pos, if_neg, opAnd, opOr, opXor, opDiff, opShr, opBit, lv, hgt, hln, e3, e9, e10, e11, hlt, hae', lu2, hgL, hlL, q_x, g_x, l_x, r_x, z_x] at f5_1 f9_1 f10_1 f11_1 f16_1 f17_1
    have e5 := f5_1
    have e9 := f9_1
    have e10 := f10_1
    have e11 := f11_1
    have e16 := f16_1
    have e17 := f17_1
    have nd2 := hd2.1.1
    have lM := hM.len
    by_cases hlq : q < L.length
    · have i2' := ((i2.own (by simp; omega)).ints).keep hd2.1
      have hy := hL.2 _ (List.getElem_mem hlq)
      obtain ⟨b, hbe⟩ : ∃ i, i = L[q] := ⟨_, rfl⟩
      have hbe' : L[q] = b := hbe.symm
      have hor := nOr_lt (n := n) (show a < bit n by omega) (show b < bit n by omega)
      obtain ⟨o_y, i_y, c_y, cs_y, own_y, ex_y, es_y, q_y, b_y, g_y, l_y, r_y⟩ := i2'.open ((by simp; omega))
      have z_y : ∀ h2 : i_y < cs_y.length, cs_y[i_y] = _ := fun h2 => r_y 0 ((by simp; omega)) h2
      try simp (disch := first | omega | (simp; done) | fail) [wrap64c, if_pos, if_neg, opAnd, opOr, opXor, opDiff, opShr, opBit, lv, hgt, hln, e3, e9, e10, e11, hlt, hae', lu2, hgL, hlL, q_x, g_x, l_x, r_x, z_x, e5, e16, e17, e18, hlq, hbe', q_y, g_y, l_y, r_y, z_y]
      obtain ⟨u3, h3, c3, a3, i3⟩ := spPut_ok h' h.next w M (nOr a b) hi2 hM.1 (by omega) (by omega)
      refine callG_c (by simp) (by simp) ?ha (c3) ?_
      (case ha => simp (disch := first | omega | (simp; done) | fail) [wrap64c, if_pos, if_neg, opAnd, opOr, opXor, opDiff, opShr, opBit, lv, hgt, hln, e3, e9, e10, e11, hlt, hae', lu2, hgL, hlL, q_x, g_x, l_x, r_x, z_x, e5, e16, e17, e18, hlq, hbe', q_y, g_y, l_y, r_y, z_y])
      try simp (disch := first | omega | (simp; done) | fail) [wrap64c, if_pos, if_neg, opAnd, opOr, opXor, opDiff, opShr, opBit, lv, hgt, hln, e3, e9, e10, e11, hlt, hae', lu2, hgL, hlL, q_x, g_x, l_x, r_x, z_x, e5, e16, e17, e18, hlq, hbe', q_y, g_y, l_y, r_y, z_y]
      refine loopK_next _ ?hm ?hf ⟨u3, q + 1, putL M (nOr a b), rfl, (by simp (disch := first | omega | (simp; done) | fail) [wrap64c, if_pos, if_neg, opAnd, opOr, opXor, opDiff, opShr, opBit, lv, hgt, hln, e3, e9, e10, e11, hlt, hae', lu2, hgL, hlL, q_x, g_x, l_x, r_x, z_x, e5, e16, e17, e18, hlq, hbe', q_y, g_y, l_y, r_y, z_y] <;> omega), (by simp (disch := first | omega | (simp; done) | fail) [wrap64c, if_pos, if_neg, opAnd, opOr, opXor, opDiff, opShr, opBit, lv, hgt, hln, e3, e9, e10, e11, hlt, hae', lu2, hgL, hlL, q_x, g_x, l_x, r_x, z_x, e5, e16, e17, e18, hlq, hbe', q_y, g_y, l_y, r_y, z_y] <;> omega), (by first | omega | assumption | (simp (disch := first | omega | (simp; done) | fail) [wrap64c, if_pos, if_neg, opAnd, opOr, opXor, opDiff, opShr, opBit, lv, hgt, hln, e3, e9, e10, e11, hlt, hae', lu2, hgL, hlL, q_x, g_x, l_x, r_x, z_x, e5, e16, e17, e18, hlq, hbe', q_y, g_y, l_y, r_y, z_y] <;> omega)), (hd2.trans a3), i3, (hM.put hor), ((putL_mem _ _ _).2 (.inr h02))⟩
      (case hm => first | omega | (simp; omega))
      (case hf => simp [FrameL, lv, hgt, hln, e3, e9, e10, e11, hlt, hae', lu2, hgL, hlL, q_x, g_x, l_x, r_x, z_x, e5, e16, e17, e18, hlq, hbe', q_y, g_y, l_y, r_y, z_y, f5_1, f9_1, f10_1, f11_1, f16_1, f17_1])
    · try simp (disch := first | omega | (simp; done) | fail) [wrap64c, if_pos, if_neg, opAnd, opOr, opXor, opDiff, opShr, opBit, lv, hgt, hln, e3, e9, e10, e11, hlt, hae', lu2, hgL, hlL, q_x, g_x, l_x, r_x, z_x, e5, e16, e17, e18, hlq]
      refine loopK_next _ ?hm ?hf ⟨w, j + 1, M, rfl, (by simp (disch := first | omega | (simp; done) | fail) [wrap64c, if_pos, if_neg, opAnd, opOr, opXor, opDiff, opShr, opBit, lv, hgt, hln, e3, e9, e10, e11, hlt, hae', lu2, hgL, hlL, q_x, g_x, l_x, r_x, z_x, e5, e16, e17, e18, hlq] <;> omega), (by simp (disch := first | omega | (simp; done) | fail) [wrap64c, if_pos, if_neg, opAnd, opOr, opXor, opDiff, opShr, opBit, lv, hgt, hln, e3, e9, e10, e11, hlt, hae', lu2, hgL, hlL, q_x, g_x, l_x, r_x, z_x, e5, e16, e17, e18, hlq] <;> omega), (by first | omega | assumption | (simp (disch := first | omega | (simp; done) | fail) [wrap64c, if_pos, if_neg, opAnd, opOr, opXor, opDiff, opShr, opBit, lv, hgt, hln, e3, e9, e10, e11, hlt, hae', lu2, hgL, hlL, q_x, g_x, l_x, r_x, z_x, e5, e16, e17, e18, hlq] <;> omega)), ((hd.trans a2).trans hd2), hi2, hM, h02⟩
      (case hm => first | omega | (simp; omega))
      (case hf => simp [FrameL, lv, hgt, hln, e3, e9, e10, e11, hlt, hae', lu2, hgL, hlL, q_x, g_x, l_x, r_x, z_x, e5, e16, e17, e18, hlq, f9_0, f10_0])
  · try simp (disch := first | omega | (simp; done) | fail) [wrap64c, if_pos, if_neg, opAnd, opOr, opXor, opDiff, opShr, opBit, lv, hgt, hln, e3, e9, e10, e11, hlt]
    exact done_ret rfl ⟨hd, L, hi, hL, h0⟩
end Go.Proofs.YtnncipcldbopgaaGreat
namespace Go.Proofs.YtnncipcldbopgaaGreat
set_option linter.unusedSimpArgs false
set_option linter.unusedVariables false
set_option maxHeartbeats 4000000
open Go Go.Eng
attribute [local irreducible] WD RunD PreD Runs CallOK
theorem natsP {l : List Nat} {n : Nat} (h : ∀ x ∈ l, x < n) {r : Nat} : ∀ x ∈ l.take r ++ [n] ++ l.drop r, x < n + 1 := by
  intro x hx
  simp only [List.mem_append, List.mem_singleton] at hx
  rcases hx with (hx | rfl) | hx
  · have := h x (List.mem_of_mem_take hx); omega
  · omega
  · have := h x (List.mem_of_mem_drop hx); omega
theorem nodupP {l : List Nat} {n : Nat} (h : ∀ x ∈ l, x < n) (hd : l.Nodup) (r : Nat) : (l.take r ++ [n] ++ l.drop r).Nodup := by
  have hp : (l.take r ++ [n] ++ l.drop r).Perm (n :: l) := by
    rw [List.append_assoc]
    refine (List.perm_append_comm).trans ?_
    show ([n] ++ l.drop r ++ l.take r).Perm _
    rw [List.append_assoc]
    refine List.Perm.cons n ?_
    have := List.perm_append_comm (l₁ := l.drop r) (l₂ := l.take r)
    rwa [List.take_append_drop] at this
  rw [hp.nodup_iff, List.nodup_cons]
  exact ⟨fun hm => by have := h n hm; omega, hd⟩
theorem order_ok (hB h : Hp) (o k n : Nat) (hA : Adds hB h) (hc : CurS hB.next o k h) (hk : k + 1000 < 2 ^ 40) (hn : n ≤ 100) :
    ∃ v h', CallOK Tryz.prog 81 #[.pointer (some ⟨o, 0, none⟩), .int .i64 (n : Int)] h v h' ∧ DrW hB o (k + 2 * n) h h' ∧ ∃ l : List Nat, IntsA h.next h' v (toN l) ∧ l.length = n ∧ (∀ x ∈ l, x < n) ∧ l.Nodup := by
  refine callY_L (args := [.pointer (some ⟨o, 0, none⟩), .int .i64 (n : Int)]) 31 _ [.tmp 4] Tryz.func81 rfl rfl rfl ?_
  try simp (disch := first | omega | (simp; done) | fail) [wrap64c, if_pos, if_neg, opAnd, opOr, opXor, opDiff, opShr, opBit]
  refine WD_loopC [0, 1] (fun m tm h' => ∃ v i l, m = n - i ∧ tm 5 = v ∧ tm 6 = .int .i64 (i : Int) ∧ (i ≤ n) ∧ (DrW hB o (k + 2 * i) h h') ∧ (IntsA h.next h' v (toN l)) ∧ (l.length = i) ∧ (∀ x ∈ l, x < i) ∧ (l.Nodup)) _ ⟨Value.slice none 0 0, 0, [], rfl, (by simp (disch := first | omega | (simp; done) | fail) [wrap64c, if_pos, if_neg, opAnd, opOr, opXor, opDiff, opShr, opBit]), (by simp (disch := first | omega | (simp; done) | fail) [wrap64c, if_pos, if_neg, opAnd, opOr, opXor, opDiff, opShr, opBit]), (by first | omega | assumption | (simp (disch := first | omega | (simp; done) | fail) [wrap64c, if_pos, if_neg, opAnd, opOr, opXor, opDiff, opShr, opBit] <;> omega)), (DrW.refl hA hc), (.nil _ _), rfl, (by simp), List.nodup_nil⟩ ?_
  rintro m tm h' hFr ⟨v, i, l, rfl, e5, e6, hin, hd, hi, hl, hx, hnd⟩
  simp only [FrameL] at hFr
  obtain ⟨f0_0, f1_0, -⟩ := hFr
  try simp (disch := first | omega | (simp; done) | fail) [wrap64c, if_pos, if_neg, opAnd, opOr, opXor, opDiff, opShr, opBit] at f0_0 f1_0
  have e0 := f0_0
  have e1 := f1_0
  have hbo := hc.bo
  have nd := hd.nx
  by_cases hlt : i < n
  · have hlt' : (i : Int) < (n : Int) := by omega
    obtain ⟨v1, h1, c1, r, q1, l1, w1⟩ := pick_ok hB.next o (k + 2 * i) h' ((i : Int) + 1) hd.cur (by omega)
    subst q1
    have hr := l1 (by omega)
    have d1 := hd.trans (w1.dr hd.add hd.cur)
    have n1 := w1.nx
    have hi1 : IntsA h.next h1 v (toN l) := ints_cur hi (by omega) (fun p h1 h2 => w1.get p h2 (by omega))
    have htk : (toN l).take r = toN (l.take r) := by simp [toN, List.map_take]
    have hdr : (toN l).drop r = toN (l.drop r) := by simp [toN, List.map_drop]
    have hP := natsP hx (r := r)
    have hQ := nodupP hx hnd r
    have lP : (l.take r ++ [i] ++ l.drop r).length = i + 1 := by simp; omega
    rcases hi1 with ⟨y1, y2⟩ | ⟨oq, eq_, y2, z1, z2, z3⟩
    · have l0 : l = [] := List.length_eq_zero_iff.1 (by have := congrArg List.length y1; simpa using this)
      have i0 : i = 0 := by rw [← hl, l0]; rfl
      have r0 : r = 0 := by omega
      subst y2
      have r0' := r0
      have hnil : Ints h1 (.slice none 0 0) (toN (l.take r)) := by rw [l0]; simp; exact (IntsO.nil (fun _ => False) h1).ints
      obtain ⟨v2, h2, c2, a2, _, i2⟩ := l1Own_ok h1 (.slice none 0 0) (toN (l.take r)) hnil (by simp; omega)
      have n2 := a2.1.1
      have d2 := d1.trans (DrW.of_adds d1.add d1.cur a2)
      obtain ⟨v3, h3, hap3, i3, k3, n3, s3⟩ := appI i2 (i : Int) (by simp; omega) n2 d2.add (by have := hA.1.1; omega)
      obtain ⟨s3a, s3b⟩ : h2.next ≤ h3.next ∧ ∀ p, p < h2.next → p < h1.next → h3.get p = h2.get p := ⟨by omega, s3⟩
      have hr3 : Ints h3 (.slice none 0 0) (toN (l.drop r)) := (by rw [l0]; simp; exact (IntsO.nil (fun _ => False) h3).ints)
      rw [← toN_snoc] at i3
      obtain ⟨v4, h4, hap4, i4, k4, n4, s4⟩ := append_ints (P := Tryz.prog) (t := 24) (t' := 24) i3 hr3 ty_elT_24 ty_szT_3 ty_zeroT_3 ty_byT_3 (by decide) (by decide) (by simp) (by simp; omega) (by omega) k3 (by have := hA.1.1; omega)
      rw [← toN_append] at i4
      have d4 : DrW hB o (k + 2 * i + 2) h h4 := by
        refine ⟨k4, by omega, fun p hp hne => ?_, ?_⟩
        · rw [s4 p (by omega) (by omega), s3b p (by omega) (by omega)]
          exact d2.sm p hp hne
        · exact d2.cur.same ⟨by omega, fun p hp hl => by
            have hb' : p < h1.next := by rcases hp with hp | hp <;> have := hA.1.1 <;> omega
            rw [s4 p (by omega) hb', s3b p hl hb']⟩
      skip
      try simp (disch := first | omega | (simp; done) | fail) [wrap64c, if_pos, if_neg, opAnd, opOr, opXor, opDiff, opShr, opBit, e0, e1, e5, e6, hlt', r0']
      refine callG_c (by simp) (by simp) ?ha (c1) ?_
      (case ha => simp (disch := first | omega | (simp; done) | fail) [wrap64c, if_pos, if_neg, opAnd, opOr, opXor, opDiff, opShr, opBit, e0, e1, e5, e6, hlt', r0'])
      try simp (disch := first | omega | (simp; done) | fail) [wrap64c, if_pos, if_neg, opAnd, opOr, opXor, opDiff, opShr, opBit, e0, e1, e5, e6, hlt', r0']
      refine callG_c (by simp) (by simp) ?ha (c2) ?_
      (case ha => simp (disch := first | omega | (simp; done) | fail) [wrap64c, if_pos, if_neg, opAnd, opOr, opXor, opDiff, opShr, opBit, e0, e1, e5, e6, hlt', r0'])
      try simp (disch := first | omega | (simp; done) | fail) [wrap64c, if_pos, if_neg, opAnd, opOr, opXor, opDiff, opShr, opBit, e0, e1, e5, e6, hlt', r0', hap3, hap4]
      refine loopK_next _ ?hm ?hf ⟨v4, i + 1, l.take r ++ [i] ++ l.drop r, rfl, (by simp (disch := first | omega | (simp; done) | fail) [wrap64c, if_pos, if_neg, opAnd, opOr, opXor, opDiff, opShr, opBit, e0, e1, e5, e6, hlt', r0'] <;> omega), (by simp (disch := first | omega | (simp; done) | fail) [wrap64c, if_pos, if_neg, opAnd, opOr, opXor, opDiff, opShr, opBit, e0, e1, e5, e6, hlt', r0'] <;> omega), (by first | omega | assumption | (simp (disch := first | omega | (simp; done) | fail) [wrap64c, if_pos, if_neg, opAnd, opOr, opXor, opDiff, opShr, opBit, e0, e1, e5, e6, hlt', r0'] <;> omega)), (d4.mono (by omega)), (IntsA.lower i4 (by omega)), lP, hP, hQ⟩
      (case hm => first | omega | (simp; omega))
      (case hf => simp [FrameL, e0, e1, e5, e6, hlt', r0', f0_0, f1_0])
    · have ll : (toN l).length = i := by rw [toN_length, hl]
      rw [ll] at y2
      subst y2
      have hri : r ≤ i := by omega
      have hI1 : Ints h1 (.slice (some ⟨oq, 0, none⟩) r i) (toN (l.take r)) := by
        have := subI z3 z2 (i := 0) (n := r) (c := i) (by omega) (by omega) (by omega)
        rwa [List.drop_zero, htk] at this
      have hI2 : Ints h1 (.slice (some ⟨oq, r, none⟩) (i - r) (i - r)) (toN (l.drop r)) := by
        have := subI z3 z2 (i := r) (n := i - r) (c := i - r) (by omega) (by omega) (by omega)
        rwa [hdr, List.take_of_length_le (by rw [toN_length, List.length_drop, hl]; exact Nat.le_refl _)] at this
      obtain ⟨v2, h2, c2, a2, _, i2⟩ := l1Own_ok h1 (.slice (some ⟨oq, 0, none⟩) r i) (toN (l.take r)) hI1 (by simp; omega)
      have n2 := a2.1.1
      have d2 := d1.trans (DrW.of_adds d1.add d1.cur a2)
      obtain ⟨v3, h3, hap3, i3, k3, n3, s3⟩ := appI i2 (i : Int) (by simp; omega) n2 d2.add (by have := hA.1.1; omega)
      obtain ⟨s3a, s3b⟩ : h2.next ≤ h3.next ∧ ∀ p, p < h2.next → p < h1.next → h3.get p = h2.get p := ⟨by omega, s3⟩
      have hr3 : Ints h3 (.slice (some ⟨oq, r, none⟩) (i - r) (i - r)) (toN (l.drop r)) := ((hI2.old.same (h' := h3) ⟨by omega, fun p hp _ => by rw [s3 p (by omega) hp, a2.1.2 p hp]⟩).ints)
      rw [← toN_snoc] at i3
      obtain ⟨v4, h4, hap4, i4, k4, n4, s4⟩ := append_ints (P := Tryz.prog) (t := 24) (t' := 24) i3 hr3 ty_elT_24 ty_szT_3 ty_zeroT_3 ty_byT_3 (by decide) (by decide) (by simp) (by simp; omega) (by omega) k3 (by have := hA.1.1; omega)
      rw [← toN_append] at i4
      have d4 : DrW hB o (k + 2 * i + 2) h h4 := by
        refine ⟨k4, by omega, fun p hp hne => ?_, ?_⟩
        · rw [s4 p (by omega) (by omega), s3b p (by omega) (by omega)]
          exact d2.sm p hp hne
        · exact d2.cur.same ⟨by omega, fun p hp hl => by
            have hb' : p < h1.next := by rcases hp with hp | hp <;> have := hA.1.1 <;> omega
            rw [s4 p (by omega) hb', s3b p hl hb']⟩
      skip
      try simp (disch := first | omega | (simp; done) | fail) [wrap64c, if_pos, if_neg, opAnd, opOr, opXor, opDiff, opShr, opBit, e0, e1, e5, e6, hlt', hri]
      refine callG_c (by simp) (by simp) ?ha (c1) ?_
      (case ha => simp (disch := first | omega | (simp; done) | fail) [wrap64c, if_pos, if_neg, opAnd, opOr, opXor, opDiff, opShr, opBit, e0, e1, e5, e6, hlt', hri])
      try simp (disch := first | omega | (simp; done) | fail) [wrap64c, if_pos, if_neg, opAnd, opOr, opXor, opDiff, opShr, opBit, e0, e1, e5, e6, hlt', hri]
      refine callG_c (by simp) (by simp) ?ha (c2) ?_
      (case ha => simp (disch := first | omega | (simp; done) | fail) [wrap64c, if_pos, if_neg, opAnd, opOr, opXor, opDiff, opShr, opBit, e0, e1, e5, e6, hlt', hri])
      try simp (disch := first | omega | (simp; done) | fail) [wrap64c, if_pos, if_neg, opAnd, opOr, opXor, opDiff, opShr, opBit, e0, e1, e5, e6, hlt', hri, hap3, hap4]
      refine loopK_next _ ?hm ?hf ⟨v4, i + 1, l.take r ++ [i] ++ l.drop r, rfl, (by simp (disch := first | omega | (simp; done) | fail) [wrap64c, if_pos, if_neg, opAnd, opOr, opXor, opDiff, opShr, opBit, e0, e1, e5, e6, hlt', hri] <;> omega), (by simp (disch := first | omega | (simp; done) | fail) [wrap64c, if_pos, if_neg, opAnd, opOr, opXor, opDiff, opShr, opBit, e0, e1, e5, e6, hlt', hri] <;> omega), (by first | omega | assumption | (simp (disch := first | omega | (simp; done) | fail) [wrap64c, if_pos, if_neg, opAnd, opOr, opXor, opDiff, opShr, opBit, e0, e1, e5, e6, hlt', hri] <;> omega)), (d4.mono (by omega)), (IntsA.lower i4 (by omega)), lP, hP, hQ⟩
      (case hm => first | omega | (simp; omega))
      (case hf => simp [FrameL, e0, e1, e5, e6, hlt', hri, f0_0, f1_0])
  · have hlt' : ¬ (i : Int) < (n : Int) := by omega
    have hie : i = n := by omega
    subst hie
    try simp (disch := first | omega | (simp; done) | fail) [wrap64c, if_pos, if_neg, opAnd, opOr, opXor, opDiff, opShr, opBit, e0, e1, e5, e6, hlt']
    exact done_ret rfl ⟨hd, l, hi, hl, hx, hnd⟩
def lineS (n i j : Nat) : Nat := ndiff (bit n - 1) (bit j - bit i)
theorem ia_put {n : Nat} {h : Hp} {v : Value} {xs : List Int} (hs : IntsA n h v xs) {o : Nat} (ho : o < n) (x : AObj) : IntsA n (h.put o x) v xs := by
  rcases hs with ⟨a, b⟩ | ⟨p, ex, a, b, c, d⟩
  · exact .inl ⟨a, b⟩
  · exact .inr ⟨p, ex, a, b, c, by simp [show p ≠ o by omega, d]⟩
theorem specLine_ok (h : Hp) (n : Nat) (h1 : 1 ≤ n) (hn : n ≤ 7) : ∃ v' h', CallOK Tryz.prog 169 #[.int .i64 (n : Int)] h v' h' ∧ Adds h h' ∧ ∃ b L, v' = .tuple #[.agg #[.int .i64 (n : Int), b], .bool true] ∧ IntsA (h.next + 2) h' b (toN L) ∧ SrtB (bit n) L ∧ ∀ a, a ∈ L ↔ ∃ i j, i ≤ j ∧ j ≤ n ∧ a = lineS n i j := by
  have hb := bit7 hn
  have hsz := sizeB_of h1 hn
  refine callY_L (args := [.int .i64 (n : Int)]) 40 _ [.cell 2 26, .tmp 3] Tryz.func169 rfl rfl rfl ?_
  try simp (disch := first | omega | (simp; done) | fail) [wrap64c, if_pos, if_neg, opAnd, opOr, opXor, opDiff, opShr, opBit, hsz]
  first | refine WY_heap fun h0 q_h0 => ?_ | refine callG_heap fun h0 q_h0 => ?_ | refine callP_heap fun h0 q_h0 => ?_ | refine callS_heap fun h0 q_h0 => ?_ | refine RY_heap fun h0 q_h0 => ?_ | refine PY_heap fun h0 q_h0 => ?_ | refine SY_heap fun h0 q_h0 => ?_ | refine doneY_heap fun h0 q_h0 => ?_ | refine loopK_heap fun h0 q_h0 => ?_ | refine thenY_heap fun h0 q_h0 => ?_ | refine thenM_heap fun h0 q_h0 => ?_
  have k0 : Adds h h0 := by rw [q_h0]; exact (by first | exact aK | exact kK)
  have n0 : h0.next = h.next + 1 := by simp [q_h0]
  refine callG_c (by simp) (by simp) ?ha (spItems_ok h0 (n : Int)) ?_
  (case ha => simp (disch := first | omega | (simp; done) | fail) [wrap64c, if_pos, if_neg, opAnd, opOr, opXor, opDiff, opShr, opBit, hsz])
  try simp (disch := first | omega | (simp; done) | fail) [wrap64c, if_pos, if_neg, opAnd, opOr, opXor, opDiff, opShr, opBit, hsz, putCells]
  first | refine WY_heap fun h2 q_h2 => ?_ | refine callG_heap fun h2 q_h2 => ?_ | refine callP_heap fun h2 q_h2 => ?_ | refine callS_heap fun h2 q_h2 => ?_ | refine RY_heap fun h2 q_h2 => ?_ | refine PY_heap fun h2 q_h2 => ?_ | refine SY_heap fun h2 q_h2 => ?_ | refine doneY_heap fun h2 q_h2 => ?_ | refine loopK_heap fun h2 q_h2 => ?_ | refine thenY_heap fun h2 q_h2 => ?_ | refine thenM_heap fun h2 q_h2 => ?_
  have k2 : Adds h0 h2 := by rw [q_h2]; exact (by first | exact aK | exact kK)
  have n2 : h2.next = h0.next + 1 := by simp [q_h2]
  have n0' := n0
  have gr2 : h2.get h.next = .cells [.int .i64 0, .slice none 0 0] true true 1 := by rw [k2.1.2 _ (by omega)]; simp [q_h0]
  have gb2 : h2.get (h.next + 1) = .cells [.int .i64 (n : Int), .slice none 0 0] true true 1 := by rw [← n0]; simp [q_h2]
  have ini0 : SrtB (bit n) [] := ⟨List.Pairwise.nil, fun a ha => by cases ha⟩
  refine WD_loopC [0, 2, 4, 5] (fun m tm h' => ∃ i u L, m = n + 1 - i ∧ tm 6 = .int .i64 ((i : Nat) : Int) ∧ (i ≤ n + 1) ∧ (Adds h h') ∧ (h.next + 2 ≤ h'.next) ∧ (h'.get h.next = .cells [.int .i64 0, .slice none 0 0] true true 1) ∧ (h'.get (h.next + 1) = .cells [.int .i64 (n : Int), u] true true 1) ∧ (IntsA (h.next + 2) h' u (toN L)) ∧ (SrtB (bit n) L) ∧ (∀ a, a ∈ L ↔ ∃ i' j', i' ≤ j' ∧ j' ≤ n ∧ i' < i ∧ a = lineS n i' j')) _ ⟨0, Value.slice none 0 0, [], rfl, (by simp (disch := first | omega | (simp; done) | fail) [wrap64c, if_pos, if_neg, opAnd, opOr, opXor, opDiff, opShr, opBit, hsz, n0']), (by first | omega | assumption | (simp (disch := first | omega | (simp; done) | fail) [wrap64c, if_pos, if_neg, opAnd, opOr, opXor, opDiff, opShr, opBit, hsz, n0'] <;> omega)), (k0.trans k2), (by omega), gr2, gb2, (.nil _ _), ini0, (by simp)⟩ ?_
  rintro m tm h' hFr ⟨i, u, L, rfl, e6, hi, hd, hnx, hgr, hgb, hA, hL, hm⟩
  simp only [FrameL] at hFr
  obtain ⟨f0_0, f2_0, f4_0, f5_0, -⟩ := hFr
  try simp (disch := first | omega | (simp; done) | fail) [wrap64c, if_pos, if_neg, opAnd, opOr, opXor, opDiff, opShr, opBit, hsz, n0'] at f0_0 f2_0 f4_0 f5_0
  have e0 := f0_0
  have e2 := f2_0
  have e4 := f4_0
  have e5 := f5_0
  have nd := hd.1.1
  by_cases hlt : i ≤ n
  · have hlt' : (i : Int) ≤ (n : Int) := by omega
    have ini2 : ∀ a, a ∈ L ↔ ∃ i' j', i' ≤ j' ∧ j' ≤ n ∧ (i' < i ∨ (i' = i ∧ j' < i)) ∧ a = lineS n i' j' := fun a => by
      rw [hm a]
      constructor
      · rintro ⟨i', j', q1, q2, q3, q4⟩; exact ⟨i', j', q1, q2, .inl q3, q4⟩
      · rintro ⟨i', j', q1, q2, q3 | q3, q4⟩
        · exact ⟨i', j', q1, q2, q3, q4⟩
        · omega
    try simp (disch := first | omega | (simp; done) | fail) [wrap64c, if_pos, if_neg, opAnd, opOr, opXor, opDiff, opShr, opBit, hsz, n0', e0, e2, e4, e5, e6, hlt']
    refine WD_loopC [0, 2, 4, 5, 6] (fun m tm h' => ∃ j w M, m = n + 1 - j ∧ tm 7 = .int .i64 ((j : Nat) : Int) ∧ (i ≤ j ∧ j ≤ n + 1) ∧ (Adds h h') ∧ (h.next + 2 ≤ h'.next) ∧ (h'.get h.next = .cells [.int .i64 0, .slice none 0 0] true true 1) ∧ (h'.get (h.next + 1) = .cells [.int .i64 (n : Int), w] true true 1) ∧ (IntsA (h.next + 2) h' w (toN M)) ∧ (SrtB (bit n) M) ∧ (∀ a, a ∈ M ↔ ∃ i' j', i' ≤ j' ∧ j' ≤ n ∧ (i' < i ∨ (i' = i ∧ j' < j)) ∧ a = lineS n i' j')) _ ⟨i, u, L, rfl, (by simp (disch := first | omega | (simp; done) | fail) [wrap64c, if_pos, if_neg, opAnd, opOr, opXor, opDiff, opShr, opBit, hsz, n0', e0, e2, e4, e5, e6, hlt']), (by omega), hd, hnx, hgr, hgb, hA, hL, ini2⟩ ?_
    rintro m tm h' hFr ⟨j, w, M, rfl, e7, hj, hd2, hnx2, hgr2, hgb2, hA2, hM, hm2⟩
    simp only [FrameL] at hFr
    obtain ⟨f0_1, f2_1, f4_1, f5_1, f6_1, -⟩ := hFr
    try simp (disch := first | omega | (simp; done) | fail) [wrap64c, if_pos, if_neg, opAnd, opOr, opXor, opDiff, opShr, opBit, hsz, n0', e0, e2, e4, e5, e6, hlt'] at f0_1 f2_1 f4_1 f5_1 f6_1
    have e0 := f0_1
    have e2 := f2_1
    have e4 := f4_1
    have e5 := f5_1
    have e6 := f6_1
    have nd2 := hd2.1.1
    by_cases hlj : j ≤ n
    · have hlj' : (j : Int) ≤ (n : Int) := by omega
      have hgb2' := hgb2
      have hbj := bit7 (i := j) (by omega)
      have hbi := bit7 (i := i) (by omega)
      have hbm := bit_mono hj.1
      obtain ⟨d, hde⟩ : ∃ d, d = bit j - bit i := ⟨_, rfl⟩
      have hsub : ((bit j : Nat) : Int) - ((bit i : Nat) : Int) = (d : Int) := by omega
      obtain ⟨w0, hw0⟩ : ∃ w, w = bit n - 1 := ⟨_, rfl⟩
      have hall : ((bit n : Nat) : Int) - 1 = (w0 : Int) := by omega
      have hlS : lineS n i j < bit n := ndiff_lt (by omega)
      have hlw : ndiff w0 d = lineS n i j := by rw [hw0, hde]; rfl
      have lM := hM.len
      have ntw := hA2.nt
      obtain ⟨u3, h3, c3, a3, i3⟩ := spPut_ok h' (h.next + 2) w M (lineS n i j) hA2 hM.1 (by omega) (by omega)
      have gb3 : h3.get (h.next + 1) = .cells [.int .i64 (n : Int), w] true true 1 := by rw [a3.1.2 _ (by omega)]; exact hgb2
      have gr3 : h3.get h.next = .cells [.int .i64 0, .slice none 0 0] true true 1 := by rw [a3.1.2 _ (by omega)]; exact hgr2
      have ntu := i3.nt
      have csu := (i3.own (by simp [(hM.put hlS).len]; have := (hM.put hlS).len; omega)).ints.cs
      have hu2 : ∀ a b c : Value, putCells [a, b] 1 [c] = [a, c] := fun _ _ _ => rfl
      try simp (disch := first | omega | (simp; done) | fail) [wrap64c, if_pos, if_neg, opAnd, opOr, opXor, opDiff, opShr, opBit, hsz, n0', e0, e2, e4, e5, e6, hlt', e7, hlj', hgb2', hsub, hall, hlw, ntw, gb3, gr3, ntu, csu, hu2]
      refine WD_chainC rfl (by kernel_rfl) (by kernel_rfl) ?_
      try simp (disch := first | omega | (simp; done) | fail) [wrap64c, if_pos, if_neg, opAnd, opOr, opXor, opDiff, opShr, opBit, hsz, n0', e0, e2, e4, e5, e6, hlt', e7, hlj', hgb2', hsub, hall, hlw, ntw, gb3, gr3, ntu, csu, hu2]
      refine callG_c (by simp) (by simp) ?ha (c3) ?_
      (case ha => simp (disch := first | omega | (simp; done) | fail) [wrap64c, if_pos, if_neg, opAnd, opOr, opXor, opDiff, opShr, opBit, hsz, n0', e0, e2, e4, e5, e6, hlt', e7, hlj', hgb2', hsub, hall, hlw, ntw, gb3, gr3, ntu, csu, hu2])
      try simp (disch := first | omega | (simp; done) | fail) [wrap64c, if_pos, if_neg, opAnd, opOr, opXor, opDiff, opShr, opBit, hsz, n0', e0, e2, e4, e5, e6, hlt', e7, hlj', hgb2', hsub, hall, hlw, ntw, gb3, gr3, ntu, csu, hu2]
      refine loopK_next _ ?hm ?hf ⟨j + 1, u3, putL M (lineS n i j), rfl, (by simp (disch := first | omega | (simp; done) | fail) [wrap64c, if_pos, if_neg, opAnd, opOr, opXor, opDiff, opShr, opBit, hsz, n0', e0, e2, e4, e5, e6, hlt', e7, hlj', hgb2', hsub, hall, hlw, ntw, gb3, gr3, ntu, csu, hu2] <;> omega), (by first | omega | assumption | (simp (disch := first | omega | (simp; done) | fail) [wrap64c, if_pos, if_neg, opAnd, opOr, opXor, opDiff, opShr, opBit, hsz, n0', e0, e2, e4, e5, e6, hlt', e7, hlj', hgb2', hsub, hall, hlw, ntw, gb3, gr3, ntu, csu, hu2] <;> omega)), ((hd2.trans a3).put (by omega) (fun _ => rfl)), (by have := a3.1.1; simp; omega), (by simp [gr3]), (by simp), (ia_put i3 (by omega) _), (hM.put hlS), ?c_hm2⟩
      (case hm => first | omega | (simp; omega))
      (case hf => simp [FrameL, hsz, n0', e0, e2, e4, e5, e6, hlt', e7, hlj', hgb2', hsub, hall, hlw, ntw, gb3, gr3, ntu, csu, hu2, f0_1, f2_1, f4_1, f5_1, f6_1])
      case c_hm2 =>
        exact (fun a => by
          rw [putL_mem, hm2 a]
          constructor
          · rintro (rfl | ⟨i', j', q1, q2, q3, q4⟩)
            · exact ⟨i, j, hj.1, hlj, .inr ⟨rfl, by omega⟩, rfl⟩
            · exact ⟨i', j', q1, q2, by omega, q4⟩
          · rintro ⟨i', j', q1, q2, q3, q4⟩
            by_cases e : i' = i ∧ j' = j
            · obtain ⟨rfl, rfl⟩ := e
              exact .inl q4
            · exact .inr ⟨i', j', q1, q2, by omega, q4⟩)
    · have hlj' : ¬ (j : Int) ≤ (n : Int) := by omega
      try simp (disch := first | omega | (simp; done) | fail) [wrap64c, if_pos, if_neg, opAnd, opOr, opXor, opDiff, opShr, opBit, hsz, n0', e0, e2, e4, e5, e6, hlt', e7, hlj']
      refine loopK_next _ ?hm ?hf ⟨i + 1, w, M, rfl, (by simp (disch := first | omega | (simp; done) | fail) [wrap64c, if_pos, if_neg, opAnd, opOr, opXor, opDiff, opShr, opBit, hsz, n0', e0, e2, e4, e5, e6, hlt', e7, hlj'] <;> omega), (by first | omega | assumption | (simp (disch := first | omega | (simp; done) | fail) [wrap64c, if_pos, if_neg, opAnd, opOr, opXor, opDiff, opShr, opBit, hsz, n0', e0, e2, e4, e5, e6, hlt', e7, hlj'] <;> omega)), hd2, hnx2, hgr2, hgb2, hA2, hM, ?c_hm⟩
      (case hm => first | omega | (simp; omega))
      (case hf => simp [FrameL, hsz, n0', e0, e2, e4, e5, e6, hlt', e7, hlj', f0_0, f2_0, f4_0, f5_0])
      case c_hm =>
        exact (fun a => by
          rw [hm2 a]
          constructor
          · rintro ⟨i', j', q1, q2, q3, q4⟩; exact ⟨i', j', q1, q2, by omega, q4⟩
          · rintro ⟨i', j', q1, q2, q3, q4⟩; exact ⟨i', j', q1, q2, by omega, q4⟩)
  · have hlt' : ¬ (i : Int) ≤ (n : Int) := by omega
    have hgb' := hgb
    have ntu := hA.nt
    have lL := hL.len
    have csu := (hA.own (by simp; omega)).ints.cs
    have hu2 : ∀ a b c d : Value, putCells [a, b] 0 [c, d] = [c, d] := fun _ _ _ _ => rfl
    try simp (disch := first | omega | (simp; done) | fail) [wrap64c, if_pos, if_neg, opAnd, opOr, opXor, opDiff, opShr, opBit, hsz, n0', e0, e2, e4, e5, e6, hlt', hgb', hgr, ntu, csu, hu2]
    exact done_ret (vs := [.agg #[.int .i64 (n : Int), u], .bool true]) (by simp [resL, e2]) ⟨hd.put (Nat.le_refl _) (fun _ => rfl), u, L, rfl, ia_put hA (by omega) _, hL, fun a => by
      rw [hm a]
      constructor
      · rintro ⟨i', j', q1, q2, q3, q4⟩; exact ⟨i', j', q1, q2, q4⟩
      · rintro ⟨i', j', q1, q2, q4⟩; exact ⟨i', j', q1, q2, by omega, q4⟩⟩
end Go.Proofs.YtnncipcldbopgaaGreat
namespace Go.Proofs.YtnncipcldbopgaaGreat
set_option linter.unusedSimpArgs false
set_option linter.unusedVariables false
set_option maxHeartbeats 4000000
open Go Go.Eng
attribute [local irreducible] WD RunD PreD Runs CallOK
def idxF (q : List Int → Bool) (L : List (List Int)) : Int := if L.any q = true then (L.findIdx q : Int) else -1
def pairB (N : Int) (x : List Int) : Bool := decide (x.length = 2) && (decide (0 ≤ x.getD 0 0 ∧ x.getD 0 0 ≤ N - 1) && (decide (0 ≤ x.getD 1 0 ∧ x.getD 1 0 ≤ N - 1) && !decide (x.getD 0 0 = x.getD 1 0)))
def pairsB (N : Int) (L : List (List Int)) : Bool := decide (L.length ≤ 40) && !L.any fun x => !pairB N x
def breaks (a : Nat) (x : List Int) : Bool := a.testBit (x.getD 1 0).toNat && !a.testBit (x.getD 0 0).toNat
end Go.Proofs.YtnncipcldbopgaaGreat
namespace Go.Proofs.YtnncipcldbopgaaGreat
set_option linter.unusedSimpArgs false
set_option linter.unusedVariables false
set_option maxHeartbeats 4000000
open Go Go.Eng
attribute [local irreducible] WD RunD PreD Runs CallOK
theorem spCount_ok (h : Hp) (a : Nat) (ha : a < 128) : CallOK Tryz.prog 64 #[.int .i64 (a : Int)] h (.int .i64 ((pcN a : Nat) : Int)) h := by
  refine callY_P 13 _ [.tmp 2] Tryz.func64 rfl rfl rfl (by first | rfl | simp) ?_
  try simp (disch := first | omega | (simp; done) | fail) [wrap64c, if_pos, if_neg, opAnd, opOr, opXor, opDiff, opShr, opBit]
  refine WD_loopC [] (fun m tm h' => ∃ r c k, m = 2 * r + 0 * c ∧ h = h' ∧ tm 0 = .int .i64 (r : Int) ∧ tm 3 = .int .i64 (c : Int) ∧ (r < 2 ^ k) ∧ (k ≤ 7 ∧ c ≤ 7) ∧ (c + pcF k r = pcN a)) _ ⟨a, 0, 7, rfl, rfl, (by simp (disch := first | omega | (simp; done) | fail) [wrap64c, if_pos, if_neg, opAnd, opOr, opXor, opDiff, opShr, opBit]), (by simp (disch := first | omega | (simp; done) | fail) [wrap64c, if_pos, if_neg, opAnd, opOr, opXor, opDiff, opShr, opBit]), (by first | omega | assumption | (simp (disch := first | omega | (simp; done) | fail) [wrap64c, if_pos, if_neg, opAnd, opOr, opXor, opDiff, opShr, opBit] <;> omega)), (by first | omega | assumption | (simp (disch := first | omega | (simp; done) | fail) [wrap64c, if_pos, if_neg, opAnd, opOr, opXor, opDiff, opShr, opBit] <;> omega)), (by simp [pcN])⟩ ?_
  rintro m tm h' hFr ⟨r, c, k, rfl, rfl, e0, e3, hr, hk, hc⟩
  clear hFr
  by_cases hlt : 0 < r
  · have hk0 : k ≠ 0 := by rintro rfl; simp at hr; omega
    obtain ⟨k, rfl⟩ : ∃ q, k = q + 1 := ⟨k - 1, by omega⟩
    have h1 : nShr r 1 = r / 2 := by unfold nShr; rw [Nat.shiftRight_eq_div_pow]
    have h2 : Int.tmod (r : Int) 2 = ((r % 2 : Nat) : Int) := by rw [Int.tmod_eq_emod_of_nonneg (by omega)]; omega
    obtain ⟨q, hq⟩ : ∃ q, q = r % 2 := ⟨_, rfl⟩
    rw [← hq] at h2
    have h2 := h2
    have hr7 : r < 128 := Nat.lt_of_lt_of_le hr (Nat.pow_le_pow_right (by omega) (show k + 1 ≤ 7 by omega))
    simp only [pcF] at hc
    have := pcF_le k (r / 2)
    obtain ⟨s, hs⟩ : ∃ s, s = r / 2 := ⟨_, rfl⟩
    rw [← hs] at h1 hc
    have hpc := pcN_le a
    try simp (disch := first | omega | (simp; done) | fail) [wrap64c, if_pos, if_neg, opAnd, opOr, opXor, opDiff, opShr, opBit, e0, e3, hlt, h1, h2]
    refine loopK_next _ ?hm ?hf ⟨s, c + q, k, rfl, rfl, (by simp (disch := first | omega | (simp; done) | fail) [wrap64c, if_pos, if_neg, opAnd, opOr, opXor, opDiff, opShr, opBit, e0, e3, hlt, h1, h2] <;> omega), (by simp (disch := first | omega | (simp; done) | fail) [wrap64c, if_pos, if_neg, opAnd, opOr, opXor, opDiff, opShr, opBit, e0, e3, hlt, h1, h2] <;> omega), (by rw [Nat.pow_succ] at hr; omega), (by first | omega | assumption | (simp (disch := first | omega | (simp; done) | fail) [wrap64c, if_pos, if_neg, opAnd, opOr, opXor, opDiff, opShr, opBit, e0, e3, hlt, h1, h2] <;> omega)), (by omega)⟩
    (case hm => first | omega | (simp; omega))
    (case hf => simp [FrameL, e0, e3, hlt, h1, h2])
  · try simp (disch := first | omega | (simp; done) | fail) [wrap64c, if_pos, if_neg, opAnd, opOr, opXor, opDiff, opShr, opBit, e0, e3, hlt]
    have : r = 0 := by omega
    subst this
    rw [pcF_zero] at hc
    exact done_ret rfl (by simp [← hc])
def on1 (x : Int) : Int := IntKind.wrap .u64 (bAnd .u64 (bShr .u64 x 1) 6148914691236517205 + bAnd .u64 x 6148914691236517205)
def on2 (x : Int) : Int := IntKind.wrap .u64 (bAnd .u64 (bShr .u64 x 2) 3689348814741910323 + bAnd .u64 x 3689348814741910323)
def on3 (x : Int) : Int := bAnd .u64 (IntKind.wrap .u64 (bShr .u64 x 4 + x)) 1085102592571150095
def on4 (x : Int) (k : Int) : Int := IntKind.wrap .u64 (x + bShr .u64 x k)
theorem onesD : ∀ a : Nat, a < 128 → bAnd .i64 (IntKind.wrap .i64 (on4 (on4 (on4 (on3 (on2 (on1 (a : Int)))) 8) 16) 32)) 127 = ((pcN a : Nat) : Int) := by decide +kernel
theorem ones64_ok (h : Hp) (a : Nat) (ha : a < 128) : CallOK Tryz.prog 168 #[.int .u64 (a : Int)] h (.int .i64 ((pcN a : Nat) : Int)) h := by
  refine callY_P 35 _ [.tmp 2] Tryz.func168 rfl rfl rfl (by first | rfl | simp) ?_
  try simp (disch := first | omega | (simp; done) | fail) [wrap64c, if_pos, if_neg]
  refine done_ret rfl ⟨?_, by simp⟩
  simp
  exact onesD a ha
theorem ones_ok (h : Hp) (a : Nat) (ha : a < 128) : CallOK Tryz.prog 127 #[.int .u64 (a : Int)] h (.int .i64 ((pcN a : Nat) : Int)) h := by
  refine callY_P 8 _ [.tmp 2] Tryz.func127 rfl rfl rfl (by first | rfl | simp) ?_
  try simp (disch := first | omega | (simp; done) | fail) [wrap64c, if_pos, if_neg]
  refine callG_c (by simp) (by simp) ?ha (ones64_ok h a ha) ?_
  (case ha => simp (disch := first | omega | (simp; done) | fail) [wrap64c, if_pos, if_neg])
  try simp (disch := first | omega | (simp; done) | fail) [wrap64c, if_pos, if_neg]
  exact done_ret rfl (by simp)
theorem wrapU (a : Nat) (ha : a < 128) : IntKind.wrap .u64 (a : Int) = a := by
  have e : IntKind.wrap .u64 (a : Int) = (a : Int) % 18446744073709551616 := rfl
  rw [e]; omega
theorem count_ok (h : Hp) (a : Nat) (ha : a < 128) : CallOK Tryz.prog 65 #[.int .i64 (a : Int)] h (.int .i64 ((pcN a : Nat) : Int)) h := by
  refine callY_P 6 _ [.tmp 2] Tryz.func65 rfl rfl rfl (by first | rfl | simp) ?_
  have hw := wrapU a ha
  try simp (disch := first | omega | (simp; done) | fail) [wrap64c, if_pos, if_neg, hw]
  refine callG_c (by simp) (by simp) ?ha (ones_ok h a ha) ?_
  (case ha => simp (disch := first | omega | (simp; done) | fail) [wrap64c, if_pos, if_neg, hw])
  try simp (disch := first | omega | (simp; done) | fail) [wrap64c, if_pos, if_neg, hw]
  exact done_ret rfl (by simp)
def idxI (p : Int → Bool) (xs : List Int) : Int := match xs.findIdx? p with
  | some i => i
  | none => -1
theorem idxI_at {p : Int → Bool} {xs : List Int} {j : Nat} (h1 : ∀ i (hi : i < xs.length), i < j → p xs[i] = false) (hj : j < xs.length) (hp : p xs[j] = true) : idxI p xs = j := by
  have : xs.findIdx? p = some j := by
    rw [List.findIdx?_eq_some_iff_getElem]
    exact ⟨hj, hp, fun i hi => by simpa using h1 i (by omega) hi⟩
  rw [idxI, this]
theorem idxI_none {p : Int → Bool} {xs : List Int} (h1 : ∀ i (hi : i < xs.length), p xs[i] = false) : idxI p xs = -1 := by
  have : xs.findIdx? p = none := by
    rw [List.findIdx?_eq_none_iff]
    intro x hx
    obtain ⟨i, hi, rfl⟩ := List.getElem_of_mem hx
    exact h1 i hi
  rw [idxI, this]
theorem idxI_any (p : Int → Bool) (xs : List Int) : decide (0 ≤ idxI p xs) = xs.any p := by
  unfold idxI
  cases h : xs.findIdx? p with
  | none =>
    rw [List.findIdx?_eq_none_iff] at h
    have : xs.any p = false := by rw [List.any_eq_false]; intro x hx; simp [h x hx]
    rw [this]; rfl
  | some i =>
    rw [List.findIdx?_eq_some_iff_getElem] at h
    obtain ⟨hi, hp, _⟩ := h
    have : xs.any p = true := by rw [List.any_eq_true]; exact ⟨_, List.getElem_mem hi, hp⟩
    rw [this]; simp
theorem indexFunc_ok (h : Hp) (v : Value) (xs : List Int) (p : Int → Bool) (f : Nat) (fst cap : Array Value) (hv : Ints h v xs) (hf : fnOK Tryz.prog f = true)
    (hp : ∀ x ∈ xs, CallOK Tryz.prog f (fst ++ #[.int .i64 x] ++ cap) h (.bool (p x)) h) : CallOK Tryz.prog 155 #[v, .func (.func f) fst cap] h (.int .i64 (idxI p xs)) h := by
  refine callY_P 19 _ [.tmp 4] Tryz.func155 rfl rfl rfl (by first | rfl | simp) ?_
  have hL := hv.lenD
  have hln := hv.len
  have hf1 := hf
  try simp (disch := first | omega | (simp; done) | fail) [wrap64c, if_pos, if_neg, opAnd, opOr, opXor, opDiff, opShr, opBit, hL, hf1]
  refine WD_loopC [0, 1, 7] (fun m tm h' => ∃ j, m = xs.length - j ∧ h = h' ∧ tm 8 = .int .i64 (j : Int) ∧ (j ≤ xs.length) ∧ (∀ i (h1 : i < xs.length), i < j → p xs[i] = false)) _ ⟨0, rfl, rfl, (by simp (disch := first | omega | (simp; done) | fail) [wrap64c, if_pos, if_neg, opAnd, opOr, opXor, opDiff, opShr, opBit, hL, hf1]), (by first | omega | assumption | (simp (disch := first | omega | (simp; done) | fail) [wrap64c, if_pos, if_neg, opAnd, opOr, opXor, opDiff, opShr, opBit, hL, hf1] <;> omega)), (by intro i h1 h0; omega)⟩ ?_
  rintro m tm h' hFr ⟨j, rfl, rfl, e8, hj, hx⟩
  simp only [FrameL] at hFr
  obtain ⟨f0_0, f1_0, f7_0, -⟩ := hFr
  try simp (disch := first | omega | (simp; done) | fail) [wrap64c, if_pos, if_neg, opAnd, opOr, opXor, opDiff, opShr, opBit, hL, hf1] at f0_0 f1_0 f7_0
  have e0 := f0_0
  have e1 := f1_0
  have e7 := f7_0
  by_cases hlt : j < xs.length
  · obtain ⟨o_x, i_x, c_x, cs_x, own_x, ex_x, es_x, q_x, b_x, g_x, l_x, r_x⟩ := hv.open ((by omega))
    have z_x : ∀ h2 : i_x < cs_x.length, cs_x[i_x] = _ := fun h2 => r_x 0 ((by omega)) h2
    try simp (disch := first | omega | (simp; done) | fail) [wrap64c, if_pos, if_neg, opAnd, opOr, opXor, opDiff, opShr, opBit, hL, hf1, e0, e1, e7, e8, hlt, q_x, g_x, l_x, r_x, z_x]
    refine callG_f (fst := fst) (cap := cap) (by simp) (by simp) ?hf ?hk ?ha (hp xs[j] (List.getElem_mem hlt)) ?_
    (case hf => simp (disch := first | omega | (simp; done) | fail) [wrap64c, if_pos, if_neg, opAnd, opOr, opXor, opDiff, opShr, opBit, hL, hf1, e0, e1, e7, e8, hlt, q_x, g_x, l_x, r_x, z_x]; try rfl)
    (case hk => simp (disch := first | omega | (simp; done) | fail) [wrap64c, if_pos, if_neg, opAnd, opOr, opXor, opDiff, opShr, opBit, hL, hf1, e0, e1, e7, e8, hlt, q_x, g_x, l_x, r_x, z_x])
    (case ha => simp (disch := first | omega | (simp; done) | fail) [wrap64c, if_pos, if_neg, opAnd, opOr, opXor, opDiff, opShr, opBit, hL, hf1, e0, e1, e7, e8, hlt, q_x, g_x, l_x, r_x, z_x])
    cases hc : p xs[j]
    · try simp (disch := first | omega | (simp; done) | fail) [wrap64c, if_pos, if_neg, opAnd, opOr, opXor, opDiff, opShr, opBit, hL, hf1, e0, e1, e7, e8, hlt, q_x, g_x, l_x, r_x, z_x, hc]
      refine loopK_next _ ?hm ?hf ⟨j + 1, rfl, rfl, (by simp (disch := first | omega | (simp; done) | fail) [wrap64c, if_pos, if_neg, opAnd, opOr, opXor, opDiff, opShr, opBit, hL, hf1, e0, e1, e7, e8, hlt, q_x, g_x, l_x, r_x, z_x, hc] <;> omega), (by first | omega | assumption | (simp (disch := first | omega | (simp; done) | fail) [wrap64c, if_pos, if_neg, opAnd, opOr, opXor, opDiff, opShr, opBit, hL, hf1, e0, e1, e7, e8, hlt, q_x, g_x, l_x, r_x, z_x, hc] <;> omega)), ?c_hx⟩
      (case hm => first | omega | (simp; omega))
      (case hf => simp [FrameL, hL, hf1, e0, e1, e7, e8, hlt, q_x, g_x, l_x, r_x, z_x, hc, f0_0, f1_0, f7_0])
      case c_hx =>
        exact (fun i h1 hi => by
          by_cases e : i = j
          · subst e; exact hc
          · exact hx i h1 (by omega))
    · try simp (disch := first | omega | (simp; done) | fail) [wrap64c, if_pos, if_neg, opAnd, opOr, opXor, opDiff, opShr, opBit, hL, hf1, e0, e1, e7, e8, hlt, q_x, g_x, l_x, r_x, z_x, hc]
      exact done_ret rfl (by simp [idxI_at hx hlt hc])
  · try simp (disch := first | omega | (simp; done) | fail) [wrap64c, if_pos, if_neg, opAnd, opOr, opXor, opDiff, opShr, opBit, hL, hf1, e0, e1, e7, e8, hlt]
    exact done_ret rfl (by simp [idxI_none fun i h1 => hx i h1 (by omega)])
theorem containsFunc_ok (h : Hp) (v : Value) (xs : List Int) (p : Int → Bool) (f : Nat) (fst cap : Array Value) (hv : Ints h v xs) (hf : fnOK Tryz.prog f = true)
    (hp : ∀ x ∈ xs, CallOK Tryz.prog f (fst ++ #[.int .i64 x] ++ cap) h (.bool (p x)) h) : CallOK Tryz.prog 120 #[v, .func (.func f) fst cap] h (.bool (xs.any p)) h := by
  refine callY_P 9 _ [.tmp 4] Tryz.func120 rfl rfl rfl (by first | rfl | simp) ?_
  try simp (disch := first | omega | (simp; done) | fail) [wrap64c, if_pos, if_neg, opAnd, opOr, opXor, opDiff, opShr, opBit]
  refine callG_c (by simp) (by simp) ?ha (indexFunc_ok h v xs p f fst cap hv hf hp) ?_
  (case ha => simp (disch := first | omega | (simp; done) | fail) [wrap64c, if_pos, if_neg, opAnd, opOr, opXor, opDiff, opShr, opBit])
  have e := idxI_any p xs
  try simp (disch := first | omega | (simp; done) | fail) [wrap64c, if_pos, if_neg, opAnd, opOr, opXor, opDiff, opShr, opBit, e]
  exact done_ret rfl (by simp [← e])
theorem isNeg_ok (h : Hp) (x : Int) : CallOK Tryz.prog 130 #[.int .i64 x] h (.bool (decide (x < 0))) h := by
  refine callY_P 5 _ [.tmp 2] Tryz.func130 rfl rfl rfl (by first | rfl | simp) ?_
  try simp (disch := first | omega | (simp; done) | fail) [wrap64c, if_pos, if_neg, opAnd, opOr, opXor, opDiff, opShr, opBit]
  exact done_ret rfl (by simp)
def chB (ch : List Int) (m : Int) : Bool := decide ((ch.length : Int) ≤ m) && !ch.any fun x => decide (x < 0)
theorem chB_pos {ch : List Int} {m : Int} (h : chB ch m = true) : ((ch.length : Int) ≤ m) ∧ ∀ x ∈ ch, 0 ≤ x := by
  unfold chB at h
  simp only [Bool.and_eq_true, decide_eq_true_eq, Bool.not_eq_true', List.any_eq_false] at h
  exact ⟨h.1, fun x hx => by have := h.2 x hx; omega⟩
theorem areChoices_ok (h : Hp) (v : Value) (ch : List Int) (m : Int) (hv : Ints h v ch) : CallOK Tryz.prog 70 #[v, .int .i64 m] h (.bool (chB ch m)) h := by
  refine callY_P 14 _ [.tmp 4] Tryz.func70 rfl rfl rfl (by first | rfl | simp) ?_
  have hL := hv.lenD
  by_cases hc : (ch.length : Int) ≤ m
  · try simp (disch := first | omega | (simp; done) | fail) [wrap64c, if_pos, if_neg, opAnd, opOr, opXor, opDiff, opShr, opBit, hL, hc]
    refine callG_c (by simp) (by simp) ?ha (containsFunc_ok h v ch (fun x => decide (x < 0)) 130 #[] #[] hv (by simp) (fun x _ => isNeg_ok h x)) ?_
    (case ha => simp (disch := first | omega | (simp; done) | fail) [wrap64c, if_pos, if_neg, opAnd, opOr, opXor, opDiff, opShr, opBit, hL, hc])
    try simp (disch := first | omega | (simp; done) | fail) [wrap64c, if_pos, if_neg, opAnd, opOr, opXor, opDiff, opShr, opBit, hL, hc]
    exact done_ret rfl (by simp [chB, hc])
  · try simp (disch := first | omega | (simp; done) | fail) [wrap64c, if_pos, if_neg, opAnd, opOr, opXor, opDiff, opShr, opBit, hL, hc]
    exact done_ret rfl (by simp [chB, hc])
theorem chosen_ok (h : Hp) (v w : Value) (l : List Nat) (ch : List Int) (k : Nat) (hv : Ints h v (toN l)) (hw : Ints h w ch) (hne : l ≠ []) (hll : l.length < 2 ^ 40) (hp : ∀ x ∈ ch, 0 ≤ x) :
    CallOK Tryz.prog 71 #[v, w, .int .i64 (k : Int)] h (.int .i64 ((pickN ch k l : Nat) : Int)) h := by
  refine callY_P 24 _ [.tmp 6] Tryz.func71 rfl rfl rfl (by first | rfl | simp) ?_
  have hL := hv.lenD
  have hM := hw.lenD
  have hgt := toN_get l
  have hln := toN_length l
  have hl0 : 0 < l.length := List.length_pos_iff.2 hne
  obtain ⟨o_x, i_x, c_x, cs_x, own_x, ex_x, es_x, q_x, b_x, g_x, l_x, r_x⟩ := hv.open ((by omega))
  have z_x : ∀ h2 : i_x < cs_x.length, cs_x[i_x] = _ := fun h2 => r_x 0 ((by omega)) h2
  by_cases hk : k < ch.length
  · obtain ⟨o_y, i_y, c_y, cs_y, own_y, ex_y, es_y, q_y, b_y, g_y, l_y, r_y⟩ := hw.open ((by omega))
    have z_y : ∀ h2 : i_y < cs_y.length, cs_y[i_y] = _ := fun h2 => r_y 0 ((by omega)) h2
    obtain ⟨q, hq⟩ : ∃ q : Nat, ch[k] = q := ⟨ch[k].toNat, by have := hp _ (List.getElem_mem hk); omega⟩
    have hml := Nat.mod_lt q hl0
    obtain ⟨r, hr⟩ : ∃ r, r = q % l.length := ⟨_, rfl⟩
    rw [← hr] at hml
    have hmd : Int.tmod (q : Int) (l.length : Int) = r := by rw [Int.tmod_eq_emod_of_nonneg (by omega), hr]; rfl
    have hne0 : ¬ ((l.length : Int) = 0) := by omega
    have hne1 : ¬ l = [] := hne
    have hpk : pickN ch k l = l[r] := by
      unfold pickN
      rw [dif_pos hk, hq, Int.toNat_natCast, ← hr, List.getD_eq_getElem?_getD, List.getElem?_eq_getElem hml]; rfl
    try simp (disch := first | omega | (simp; done) | fail) [wrap64c, if_pos, if_neg, opAnd, opOr, opXor, opDiff, opShr, opBit, hL, hM, hgt, q_x, g_x, l_x, r_x, z_x, hk, q_y, g_y, l_y, r_y, z_y, hq, hmd, hne0, hne1]
    exact done_ret rfl (by simp [hpk])
  · have hpk : pickN ch k l = l[0] := by
      unfold pickN
      rw [dif_neg hk, List.getD_eq_getElem?_getD, List.getElem?_eq_getElem hl0]; rfl
    try simp (disch := first | omega | (simp; done) | fail) [wrap64c, if_pos, if_neg, opAnd, opOr, opXor, opDiff, opShr, opBit, hL, hM, hgt, q_x, g_x, l_x, r_x, z_x, hk]
    exact done_ret rfl (by simp [hpk])
end Go.Proofs.YtnncipcldbopgaaGreat
namespace Go.Proofs.YtnncipcldbopgaaGreat
set_option linter.unusedSimpArgs false
set_option linter.unusedVariables false
set_option maxHeartbeats 4000000
open Go Go.Eng
attribute [local irreducible] WD RunD PreD Runs CallOK
def natsOf (X : List Int) : List Nat := X.map Int.toNat
@[simp] theorem natsOf_toN (xs : List Nat) : natsOf (toN xs) = xs := by
  unfold natsOf toN
  rw [List.map_map]
  conv => rhs; rw [← List.map_id xs]
  apply List.map_congr_left
  intro x _
  simp
noncomputable def freeB (N : Int) (X : List Int) : Bool := spB N X && ((X.length : Int) == ((bit N.toNat : Nat) : Int))
theorem specIsFree_ok (h : Hp) (v : Value) (N : Int) (X : List Int) (hv : Space h v N X) (hl : X.length < 2 ^ 40) : CallOK Tryz.prog 21 #[v] h (.tuple #[.bool (freeB N X), .bool (spB N X)]) h := by
  refine callY_P 14 _ [.tmp 2, .tmp 3] Tryz.func21 rfl rfl rfl (by first | rfl | simp) ?_
  obtain ⟨b, rfl, hX⟩ := hv
  refine WD_first ?_
  try simp (disch := first | omega | (simp; done) | fail) [wrap64c, if_pos, if_neg, opAnd, opOr, opXor, opDiff, opShr, opBit]
  refine stopK_heap fun h0 q_h0 => ?_
  refine stopK_go ?_
  have g_h0 : h0.get h.next = .cells [.int .i64 N, b] true true 1 := by simp [q_h0]
  have k_h0 : Adds h h0 := by rw [q_h0]; exact (by first | exact aK | exact kK)
  have n_h0 : h.next < h0.next := by simp [q_h0]; try omega
  have hX0 := hX.keep k_h0.1
  have hL := hX0.lenD
  have K0 := k_h0.1
  try simp (disch := first | omega | (simp; done) | fail) [wrap64c, if_pos, if_neg, opAnd, opOr, opXor, opDiff, opShr, opBit, g_h0, hL]
  refine callG_c (by simp) (by simp) ?ha (spGood_ok h0 (.agg #[.int .i64 N, b]) N X (.mk hX0) hl) ?_
  (case ha => simp (disch := first | omega | (simp; done) | fail) [wrap64c, if_pos, if_neg, opAnd, opOr, opXor, opDiff, opShr, opBit, g_h0, hL])
  cases c1 : spB N X
  · try simp (disch := first | omega | (simp; done) | fail) [wrap64c, if_pos, if_neg, opAnd, opOr, opXor, opDiff, opShr, opBit, g_h0, hL, c1]
    exact done_ret rfl (by simp [freeB, c1, K0])
  · obtain ⟨n, xs, hN, hXe, g⟩ := spB_true c1
    have hNt : N.toNat = n := by omega
    have n7 := g.n7
    try simp (disch := first | omega | (simp; done) | fail) [wrap64c, if_pos, if_neg, opAnd, opOr, opXor, opDiff, opShr, opBit, g_h0, hL, c1, hNt]
    refine WD_drawC 6 rfl (by kernel_rfl) ?_
    try simp (disch := first | omega | (simp; done) | fail) [wrap64c, if_pos, if_neg, opAnd, opOr, opXor, opDiff, opShr, opBit, g_h0, hL, c1, hNt]
    exact done_ret rfl (by simp [freeB, c1, K0, hNt])
theorem implIsFree_ok (h : Hp) (v : Value) (N : Int) (X : List Int) (hv : Space h v N X) (hl : X.length < 2 ^ 40) : CallOK Tryz.prog 20 #[v] h (.tuple #[.bool (freeB N X), .bool (spB N X)]) h := by
  refine callY_P 14 _ [.tmp 2, .tmp 3] Tryz.func20 rfl rfl rfl (by first | rfl | simp) ?_
  obtain ⟨b, rfl, hX⟩ := hv
  refine WD_first ?_
  try simp (disch := first | omega | (simp; done) | fail) [wrap64c, if_pos, if_neg, opAnd, opOr, opXor, opDiff, opShr, opBit]
  refine stopK_heap fun h0 q_h0 => ?_
  refine stopK_go ?_
  have g_h0 : h0.get h.next = .cells [.int .i64 N, b] true true 1 := by simp [q_h0]
  have k_h0 : Adds h h0 := by rw [q_h0]; exact (by first | exact aK | exact kK)
  have n_h0 : h.next < h0.next := by simp [q_h0]; try omega
  have hX0 := hX.keep k_h0.1
  have hL := hX0.lenD
  have K0 := k_h0.1
  try simp (disch := first | omega | (simp; done) | fail) [wrap64c, if_pos, if_neg, opAnd, opOr, opXor, opDiff, opShr, opBit, g_h0, hL]
  refine callG_c (by simp) (by simp) ?ha (isSpace_ok h0 (.agg #[.int .i64 N, b]) N X (.mk hX0) hl) ?_
  (case ha => simp (disch := first | omega | (simp; done) | fail) [wrap64c, if_pos, if_neg, opAnd, opOr, opXor, opDiff, opShr, opBit, g_h0, hL])
  cases c1 : spB N X
  · try simp (disch := first | omega | (simp; done) | fail) [wrap64c, if_pos, if_neg, opAnd, opOr, opXor, opDiff, opShr, opBit, g_h0, hL, c1]
    exact done_ret rfl (by simp [freeB, c1, K0])
  · obtain ⟨n, xs, hN, hXe, g⟩ := spB_true c1
    have hNt : N.toNat = n := by omega
    have n7 := g.n7
    try simp (disch := first | omega | (simp; done) | fail) [wrap64c, if_pos, if_neg, opAnd, opOr, opXor, opDiff, opShr, opBit, g_h0, hL, c1, hNt]
    refine WD_drawC 6 rfl (by kernel_rfl) ?_
    try simp (disch := first | omega | (simp; done) | fail) [wrap64c, if_pos, if_neg, opAnd, opOr, opXor, opDiff, opShr, opBit, g_h0, hL, c1, hNt]
    exact done_ret rfl (by simp [freeB, c1, K0, hNt])
theorem toN_set (l : List Nat) (i x : Nat) : (toN l).set i ((x : Int)) = toN (l.set i x) := by simp [toN, List.map_set]
theorem toN_map (l : List Nat) : (toN l).map (Value.int .i64) = l.map fun (n : Nat) => Value.int .i64 (n : Int) := by simp [toN]
theorem sizes_zero (n : Nat) : List.replicate (n + 1) (Value.int .i64 0) = (toN (sizesN n [])).map (Value.int .i64) := by
  rw [toN_map]
  apply List.ext_getElem (by simp)
  intro i h1 h2
  simp [sizesN_get]
theorem sizes_step {n : Nat} {xs : List Nat} {j : Nat} (hj : j < xs.length) (hp : pcN xs[j] ≤ n) (y : Nat) (hy : (sizesN n (xs.take j))[pcN xs[j]]'(by simp; omega) = y) :
    (toN (sizesN n (xs.take j))).set (pcN xs[j]) ((y : Int) + 1) = toN (sizesN n (xs.take (j + 1))) := by
  rw [List.take_succ_eq_append_getElem hj, sizesN_snoc _ _ _ hp, ← toN_set, hy]
  push_cast; rfl
noncomputable def sizesR (N : Int) (X : List Int) : List Int := if spB N X = true then toN (sizesN N.toNat (natsOf X)) else []
def sizesC (n : Nat) (xs : List Nat) : List Value := (toN (sizesN n xs)).map (.int .i64)
@[simp] theorem sizesC_length (n : Nat) (xs : List Nat) : (sizesC n xs).length = n + 1 := by simp [sizesC]
theorem sizesC_zero (n : Nat) : List.replicate (n + 1) (Value.int .i64 0) = sizesC n [] := sizes_zero n
theorem sizesC_step {n : Nat} {xs : List Nat} {j : Nat} (hj : j < xs.length) (hp : pcN xs[j] ≤ n) : ∃ y : Nat, y ≤ xs.length ∧ (sizesC n (xs.take j))[pcN xs[j]]?.getD undef = .int .i64 (y : Int) ∧ (∀ (hh : pcN xs[j] < (sizesC n (xs.take j)).length), (sizesC n (xs.take j))[pcN xs[j]] = .int .i64 (y : Int)) ∧
    (sizesC n (xs.take j)).set (pcN xs[j]) (.int .i64 ((y : Int) + 1)) = sizesC n (xs.take (j + 1)) := by
  have hk : pcN xs[j] < (sizesN n (xs.take j)).length := by simp; omega
  have h1 : ∀ (hh : pcN xs[j] < (sizesC n (xs.take j)).length), (sizesC n (xs.take j))[pcN xs[j]] = .int .i64 (((sizesN n (xs.take j))[pcN xs[j]] : Nat) : Int) := fun hh => by
    simp only [sizesC, List.getElem_map, toN_get]
  refine ⟨(sizesN n (xs.take j))[pcN xs[j]], ?_, ?_, h1, ?_⟩
  · have := sizesN_le n (xs.take j) _ hk
    have h2 : (xs.take j).length ≤ xs.length := by simp; omega
    omega
  · rw [List.getElem?_eq_getElem (by simpa using hk), h1]; rfl
  · rw [sizesC, sizesC, ← sizes_step hj hp _ rfl, List.map_set]
theorem bySize_ok (h : Hp) (v : Value) (n : Nat) (xs : List Nat) (hv : Ints h v (toN xs)) (hn : n ≤ 7) (hl : xs.length < 2 ^ 40) (hx : ∀ x ∈ xs, x < bit n) :
    ∃ v' h', CallOK Tryz.prog 63 #[.int .i64 (n : Int), v] h v' h' ∧ Adds h h' ∧ IntsO (Btw h.next h'.next) h' v' (toN (sizesN n xs)) := by
  refine callY_L (args := [.int .i64 (n : Int), v]) 26 _ [.tmp 4] Tryz.func63 rfl rfl rfl ?_
  have hL := hv.lenD
  have hgt := toN_get xs
  have hln := toN_length xs
  have hb7 := bit7 hn
  try simp (disch := first | omega | (simp; done) | fail) [wrap64c, if_pos, if_neg, opAnd, opOr, opXor, opDiff, opShr, opBit, hL, hgt]
  refine WD_loopC [5, 11, 12] (fun m tm h' => ∃ j, m = xs.length - j ∧ tm 13 = .int .i64 (j : Int) ∧ (j ≤ xs.length) ∧ (Adds h h') ∧ (h'.next = h.next + 1) ∧ (h'.get h.next = .cells (sizesC n (xs.take j)) true true 1)) _ ⟨0, rfl, (by simp (disch := first | omega | (simp; done) | fail) [wrap64c, if_pos, if_neg, opAnd, opOr, opXor, opDiff, opShr, opBit, hL, hgt]), (by first | omega | assumption | (simp (disch := first | omega | (simp; done) | fail) [wrap64c, if_pos, if_neg, opAnd, opOr, opXor, opDiff, opShr, opBit, hL, hgt] <;> omega)), (by first | exact aK | exact kK), (by simp), (by simp [← sizesC_zero])⟩ ?_
  rintro m tm h' hFr ⟨j, rfl, e13, hj, ha, hn1, hg⟩
  simp only [FrameL] at hFr
  obtain ⟨f5_0, f11_0, f12_0, -⟩ := hFr
  try simp (disch := first | omega | (simp; done) | fail) [wrap64c, if_pos, if_neg, opAnd, opOr, opXor, opDiff, opShr, opBit, hL, hgt] at f5_0 f11_0 f12_0
  have e5 := f5_0
  have e11 := f11_0
  have e12 := f12_0
  by_cases hlt : j < xs.length
  · have hxj := hx _ (List.getElem_mem hlt)
    have hp := (pcN_lt hn hxj).1
    obtain ⟨o_x, i_x, c_x, cs_x, own_x, ex_x, es_x, q_x, b_x, g_x, l_x, r_x⟩ := (hv.keep ha.1).open ((by omega))
    have z_x : ∀ h2 : i_x < cs_x.length, cs_x[i_x] = _ := fun h2 => r_x 0 ((by omega)) h2
    obtain ⟨y, hy1, hy2, hy3, hy4⟩ := sizesC_step hlt hp
    try simp (disch := first | omega | (simp; done) | fail) [wrap64c, if_pos, if_neg, opAnd, opOr, opXor, opDiff, opShr, opBit, hL, hgt, e5, e11, e12, e13, hg, hlt, q_x, g_x, l_x, r_x, z_x, hy2, hy3]
    refine callG_c (by simp) (by simp) ?ha (count_ok h' xs[j] (by omega)) ?_
    (case ha => simp (disch := first | omega | (simp; done) | fail) [wrap64c, if_pos, if_neg, opAnd, opOr, opXor, opDiff, opShr, opBit, hL, hgt, e5, e11, e12, e13, hg, hlt, q_x, g_x, l_x, r_x, z_x, hy2, hy3])
    try simp (disch := first | omega | (simp; done) | fail) [wrap64c, if_pos, if_neg, opAnd, opOr, opXor, opDiff, opShr, opBit, hL, hgt, e5, e11, e12, e13, hg, hlt, q_x, g_x, l_x, r_x, z_x, hy2, hy3]
    refine loopK_next _ ?hm ?hf ⟨j + 1, rfl, (by simp (disch := first | omega | (simp; done) | fail) [wrap64c, if_pos, if_neg, opAnd, opOr, opXor, opDiff, opShr, opBit, hL, hgt, e5, e11, e12, e13, hg, hlt, q_x, g_x, l_x, r_x, z_x, hy2, hy3] <;> omega), (by first | omega | assumption | (simp (disch := first | omega | (simp; done) | fail) [wrap64c, if_pos, if_neg, opAnd, opOr, opXor, opDiff, opShr, opBit, hL, hgt, e5, e11, e12, e13, hg, hlt, q_x, g_x, l_x, r_x, z_x, hy2, hy3] <;> omega)), (by first | exact aK | exact kK), (by simpa using hn1), (by rw [← hy4]; simp [putCells_one, show pcN xs[j] < n + 1 by omega])⟩
    (case hm => first | omega | (simp; omega))
    (case hf => simp [FrameL, hL, hgt, e5, e11, e12, e13, hg, hlt, q_x, g_x, l_x, r_x, z_x, hy2, hy3, f5_0, f11_0, f12_0])
  · try simp (disch := first | omega | (simp; done) | fail) [wrap64c, if_pos, if_neg, opAnd, opOr, opXor, opDiff, opShr, opBit, hL, hgt, e5, e11, e12, e13, hg, hlt]
    rw [List.take_of_length_le (by omega)] at hg
    refine done_ret rfl ⟨ha, ?_⟩
    have := IntsO.mk (S := Btw h.next h'.next) (h := h') (o := h.next) (xs := toN (sizesN n xs)) (ex := true) ⟨Nat.le_refl _, by omega⟩ (by omega) (by simp; omega) hg
    simpa using this
theorem specSizes_ok (h : Hp) (v : Value) (N : Int) (X : List Int) (hv : Space h v N X) (hl : X.length < 2 ^ 40) :
    ∃ v' h', CallOK Tryz.prog 15 #[v] h v' h' ∧ Adds h h' ∧ ∃ u, v' = .tuple #[u, .bool (spB N X)] ∧ IntsO (Btw h.next h'.next) h' u (sizesR N X) := by
  refine callY_L (args := [v]) 30 _ [.tmp 2, .tmp 3] Tryz.func15 rfl rfl rfl ?_
  obtain ⟨b, rfl, hX⟩ := hv
  refine WD_first ?_
  try simp (disch := first | omega | (simp; done) | fail) [wrap64c, if_pos, if_neg, opAnd, opOr, opXor, opDiff, opShr, opBit]
  refine stopK_heap fun h0 q_h0 => ?_
  refine stopK_go ?_
  have g_h0 : h0.get h.next = .cells [.int .i64 N, b] true true 1 := by simp [q_h0]
  have k_h0 : Adds h h0 := by rw [q_h0]; exact (by first | exact aK | exact kK)
  have n_h0 : h.next < h0.next := by simp [q_h0]; try omega
  have hX0 := hX.keep k_h0.1
  have hL := hX0.lenD
  have K0 := k_h0.1
  try simp (disch := first | omega | (simp; done) | fail) [wrap64c, if_pos, if_neg, opAnd, opOr, opXor, opDiff, opShr, opBit, g_h0, hL]
  refine callG_c (by simp) (by simp) ?ha (spGood_ok h0 (.agg #[.int .i64 N, b]) N X (.mk hX0) hl) ?_
  (case ha => simp (disch := first | omega | (simp; done) | fail) [wrap64c, if_pos, if_neg, opAnd, opOr, opXor, opDiff, opShr, opBit, g_h0, hL])
  cases c1 : spB N X
  · try simp (disch := first | omega | (simp; done) | fail) [wrap64c, if_pos, if_neg, opAnd, opOr, opXor, opDiff, opShr, opBit, g_h0, hL, c1]
    refine done_ret rfl ⟨k_h0, _, by simp [c1]; rfl, ?_⟩
    rw [sizesR, if_neg (by simp [c1])]
    exact .nil _ _
  · obtain ⟨n, xs, hN, hXe, g⟩ := spB_true c1
    have hNt : N = (n : Int) := hN
    have hX1 : Ints h0 b (toN xs) := hXe ▸ hX0
    have hgt := toN_get xs
    have hln := toN_length xs
    have hXl : X.length = xs.length := by rw [hXe, toN_length]
    have n7 := g.n7
    have hb7 := bit7 n7
    try simp (disch := first | omega | (simp; done) | fail) [wrap64c, if_pos, if_neg, opAnd, opOr, opXor, opDiff, opShr, opBit, g_h0, hL, c1, hNt, hgt, hXl]
    refine WD_loopC [4, 15, 16] (fun m tm h' => ∃ j, m = xs.length - j ∧ tm 17 = .int .i64 (j : Int) ∧ (j ≤ xs.length) ∧ (Adds h h') ∧ (Keeps h0 h') ∧ (h'.next = h0.next + 1) ∧ (h'.get h0.next = .cells (sizesC n (xs.take j)) true true 1)) _ ⟨0, rfl, (by simp (disch := first | omega | (simp; done) | fail) [wrap64c, if_pos, if_neg, opAnd, opOr, opXor, opDiff, opShr, opBit, g_h0, hL, c1, hNt, hgt, hXl]), (by first | omega | assumption | (simp (disch := first | omega | (simp; done) | fail) [wrap64c, if_pos, if_neg, opAnd, opOr, opXor, opDiff, opShr, opBit, g_h0, hL, c1, hNt, hgt, hXl] <;> omega)), (by first | exact aK | exact kK), (by simp), (by simp), (by simp [← sizesC_zero])⟩ ?_
    rintro m tm h' hFr ⟨j, rfl, e17, hj, ha, ha0, hn1, hg⟩
    simp only [FrameL] at hFr
    obtain ⟨f4_0, f15_0, f16_0, -⟩ := hFr
    try simp (disch := first | omega | (simp; done) | fail) [wrap64c, if_pos, if_neg, opAnd, opOr, opXor, opDiff, opShr, opBit, g_h0, hL, c1, hNt, hgt, hXl] at f4_0 f15_0 f16_0
    have e4 := f4_0
    have e15 := f15_0
    have e16 := f16_0
    by_cases hlt : j < xs.length
    · have hxj := g.lt _ (List.getElem_mem hlt)
      have hp := (pcN_lt n7 hxj).1
      obtain ⟨o_x, i_x, c_x, cs_x, own_x, ex_x, es_x, q_x, b_x, g_x, l_x, r_x⟩ := (hX1.keep ha0).open ((by omega))
      have z_x : ∀ h2 : i_x < cs_x.length, cs_x[i_x] = _ := fun h2 => r_x 0 ((by omega)) h2
      obtain ⟨y, hy1, hy2, hy3, hy4⟩ := sizesC_step hlt hp
      try simp (disch := first | omega | (simp; done) | fail) [wrap64c, if_pos, if_neg, opAnd, opOr, opXor, opDiff, opShr, opBit, g_h0, hL, c1, hNt, hgt, hXl, e4, e15, e16, e17, hg, hlt, q_x, g_x, l_x, r_x, z_x, hy2, hy3]
      refine callG_c (by simp) (by simp) ?ha (spCount_ok h' xs[j] (by omega)) ?_
      (case ha => simp (disch := first | omega | (simp; done) | fail) [wrap64c, if_pos, if_neg, opAnd, opOr, opXor, opDiff, opShr, opBit, g_h0, hL, c1, hNt, hgt, hXl, e4, e15, e16, e17, hg, hlt, q_x, g_x, l_x, r_x, z_x, hy2, hy3])
      try simp (disch := first | omega | (simp; done) | fail) [wrap64c, if_pos, if_neg, opAnd, opOr, opXor, opDiff, opShr, opBit, g_h0, hL, c1, hNt, hgt, hXl, e4, e15, e16, e17, hg, hlt, q_x, g_x, l_x, r_x, z_x, hy2, hy3]
      refine loopK_next _ ?hm ?hf ⟨j + 1, rfl, (by simp (disch := first | omega | (simp; done) | fail) [wrap64c, if_pos, if_neg, opAnd, opOr, opXor, opDiff, opShr, opBit, g_h0, hL, c1, hNt, hgt, hXl, e4, e15, e16, e17, hg, hlt, q_x, g_x, l_x, r_x, z_x, hy2, hy3] <;> omega), (by first | omega | assumption | (simp (disch := first | omega | (simp; done) | fail) [wrap64c, if_pos, if_neg, opAnd, opOr, opXor, opDiff, opShr, opBit, g_h0, hL, c1, hNt, hgt, hXl, e4, e15, e16, e17, hg, hlt, q_x, g_x, l_x, r_x, z_x, hy2, hy3] <;> omega)), (by first | exact aK | exact kK), (by first | exact aK | exact kK), (by simpa using hn1), (by rw [← hy4]; simp [putCells_one, show pcN xs[j] < n + 1 by omega])⟩
      (case hm => first | omega | (simp; omega))
      (case hf => simp [FrameL, g_h0, hL, c1, hNt, hgt, hXl, e4, e15, e16, e17, hg, hlt, q_x, g_x, l_x, r_x, z_x, hy2, hy3, f4_0, f15_0, f16_0])
    · try simp (disch := first | omega | (simp; done) | fail) [wrap64c, if_pos, if_neg, opAnd, opOr, opXor, opDiff, opShr, opBit, g_h0, hL, c1, hNt, hgt, hXl, e4, e15, e16, e17, hg, hlt]
      rw [List.take_of_length_le (by omega)] at hg
      refine done_ret rfl ⟨ha, _, by simp [c1]; rfl, ?_⟩
      rw [sizesR, if_pos c1, hXe, natsOf_toN, hN, Int.toNat_natCast]
      have := IntsO.mk (S := Btw h.next h'.next) (h := h') (o := h0.next) (xs := toN (sizesN n xs)) (ex := true) ⟨by omega, by omega⟩ (by omega) (by simp; omega) hg
      simpa using this
theorem implSizes_ok (h : Hp) (v : Value) (N : Int) (X : List Int) (hv : Space h v N X) (hl : X.length < 2 ^ 40) :
    ∃ v' h', CallOK Tryz.prog 14 #[v] h v' h' ∧ Adds h h' ∧ ∃ u, v' = .tuple #[u, .bool (spB N X)] ∧ IntsO (Btw h.next h'.next) h' u (sizesR N X) := by
  refine callY_L (args := [v]) 12 _ [.tmp 2, .tmp 3] Tryz.func14 rfl rfl rfl ?_
  obtain ⟨b, rfl, hX⟩ := hv
  refine WD_first ?_
  try simp (disch := first | omega | (simp; done) | fail) [wrap64c, if_pos, if_neg, opAnd, opOr, opXor, opDiff, opShr, opBit]
  refine stopK_heap fun h0 q_h0 => ?_
  refine stopK_go ?_
  have g_h0 : h0.get h.next = .cells [.int .i64 N, b] true true 1 := by simp [q_h0]
  have k_h0 : Adds h h0 := by rw [q_h0]; exact (by first | exact aK | exact kK)
  have n_h0 : h.next < h0.next := by simp [q_h0]; try omega
  have hX0 := hX.keep k_h0.1
  have K0 := k_h0.1
  try simp (disch := first | omega | (simp; done) | fail) [wrap64c, if_pos, if_neg, opAnd, opOr, opXor, opDiff, opShr, opBit, g_h0]
  refine callG_c (by simp) (by simp) ?ha (isSpace_ok h0 (.agg #[.int .i64 N, b]) N X (.mk hX0) hl) ?_
  (case ha => simp (disch := first | omega | (simp; done) | fail) [wrap64c, if_pos, if_neg, opAnd, opOr, opXor, opDiff, opShr, opBit, g_h0])
  cases c1 : spB N X
  · try simp (disch := first | omega | (simp; done) | fail) [wrap64c, if_pos, if_neg, opAnd, opOr, opXor, opDiff, opShr, opBit, g_h0, c1]
    refine done_ret rfl ⟨k_h0, _, by simp [c1]; rfl, ?_⟩
    rw [sizesR, if_neg (by simp [c1])]
    exact .nil _ _
  · obtain ⟨n, xs, hN, hXe, g⟩ := spB_true c1
    have hNt : N = (n : Int) := hN
    have hX1 : Ints h0 b (toN xs) := hXe ▸ hX0
    try simp (disch := first | omega | (simp; done) | fail) [wrap64c, if_pos, if_neg, opAnd, opOr, opXor, opDiff, opShr, opBit, g_h0, c1, hNt]
    obtain ⟨u, h1, hc1, ha1, hi1⟩ := bySize_ok h0 b n xs hX1 g.n7 (by have := g.len7; omega) g.lt
    refine callG_c (by simp) (by simp) ?ha (hc1) ?_
    (case ha => simp (disch := first | omega | (simp; done) | fail) [wrap64c, if_pos, if_neg, opAnd, opOr, opXor, opDiff, opShr, opBit, g_h0, c1, hNt])
    try simp (disch := first | omega | (simp; done) | fail) [wrap64c, if_pos, if_neg, opAnd, opOr, opXor, opDiff, opShr, opBit, g_h0, c1, hNt]
    refine done_ret rfl ⟨k_h0.trans ha1, _, by simp [c1]; rfl, ?_⟩
    rw [sizesR, if_pos c1, hXe, natsOf_toN, hN, Int.toNat_natCast]
    exact hi1.sub fun o ho => ⟨by have := ho.1; omega, ho.2⟩
end Go.Proofs.YtnncipcldbopgaaGreat
namespace Go.Proofs.YtnncipcldbopgaaGreat
set_option linter.unusedSimpArgs false
set_option linter.unusedVariables false
set_option maxHeartbeats 4000000
open Go Go.Eng
attribute [local irreducible] WD RunD PreD Runs CallOK
def keepsB (L : List (List Int)) (a : Nat) : Bool := !L.any (breaks a)
def ordL (n : Nat) (L : List (List Int)) : List Nat := famK (keepsB L) (bit n)
noncomputable def ordOK (N : Int) (L : List (List Int)) : Bool := sizeB N && pairsB N L && spB N (toN (ordL N.toNat L))
noncomputable def ordN (N : Int) (L : List (List Int)) : Int := if ordOK N L = true then N else 0
noncomputable def ordX (N : Int) (L : List (List Int)) : List Int := if ordOK N L = true then toN (ordL N.toNat L) else []
theorem ordL_len (n : Nat) (L : List (List Int)) : (ordL n L).length ≤ bit n := by
  unfold ordL famK
  have := List.length_filter_le (keepsB L) (List.range (bit n))
  simpa using this
end Go.Proofs.YtnncipcldbopgaaGreat
namespace Go.Proofs.YtnncipcldbopgaaGreat
set_option linter.unusedSimpArgs false
set_option linter.unusedVariables false
set_option maxHeartbeats 4000000
open Go Go.Eng
attribute [local irreducible] WD RunD PreD Runs CallOK
theorem l1All_ok (h : Hp) (v : Value) (xs : List Int) (a b : Int) (hv : Ints h v xs) : CallOK Tryz.prog 118 #[v, .int .i64 a, .int .i64 b] h (.bool (decide (∀ x ∈ xs, a ≤ x ∧ x ≤ b))) h := by
  refine callY_P 21 _ [.tmp 6] Tryz.func118 rfl rfl rfl (by first | rfl | simp) ?_
  have hs := hv.len
  have hL := hv.lenD
  try simp (disch := first | omega | (simp; done) | fail) [wrap64c, if_pos, if_neg, hL]
  refine WD_loopC [1, 2, 9, 10] (fun m tm h' => ∃ j, m = xs.length - j ∧ h = h' ∧ tm 11 = .int .i64 (j : Int) ∧ (j ≤ xs.length) ∧ (∀ i (hi : i < xs.length), i < j → a ≤ xs[i] ∧ xs[i] ≤ b)) _ ⟨0, rfl, rfl, (by simp (disch := first | omega | (simp; done) | fail) [wrap64c, if_pos, if_neg, hL]), (by first | omega | assumption | (simp (disch := first | omega | (simp; done) | fail) [wrap64c, if_pos, if_neg, hL] <;> omega)), (by intro i hi h0; omega)⟩ ?_
  rintro m tm h' hFr ⟨j, rfl, rfl, e11, hj, hx⟩
  simp only [FrameL] at hFr
  obtain ⟨f1_0, f2_0, f9_0, f10_0, -⟩ := hFr
  try simp (disch := first | omega | (simp; done) | fail) [wrap64c, if_pos, if_neg, hL] at f1_0 f2_0 f9_0 f10_0
  have e1 := f1_0
  have e2 := f2_0
  have e9 := f9_0
  have e10 := f10_0
  by_cases hlt : j < xs.length
  · obtain ⟨o_x, i_x, c_x, cs_x, own_x, ex_x, es_x, q_x, b_x, g_x, l_x, r_x⟩ := hv.open ((by omega))
    have z_x : ∀ h2 : i_x < cs_x.length, cs_x[i_x] = _ := fun h2 => r_x 0 ((by omega)) h2
    try simp (disch := first | omega | (simp; done) | fail) [wrap64c, if_pos, if_neg, hL, e1, e2, e9, e10, e11, hlt, q_x, g_x, l_x, r_x, z_x]
    have hc := l1In_ok h xs[j] a b
    by_cases hq : a ≤ xs[j] ∧ xs[j] ≤ b
    · rw [decide_eq_true hq] at hc
      refine callG_c (by simp) (by simp) ?ha (hc) ?_
      (case ha => simp (disch := first | omega | (simp; done) | fail) [wrap64c, if_pos, if_neg, hL, e1, e2, e9, e10, e11, hlt, q_x, g_x, l_x, r_x, z_x])
      try simp (disch := first | omega | (simp; done) | fail) [wrap64c, if_pos, if_neg, hL, e1, e2, e9, e10, e11, hlt, q_x, g_x, l_x, r_x, z_x]
      refine loopK_next _ ?hm ?hf ⟨j + 1, rfl, rfl, (by simp (disch := first | omega | (simp; done) | fail) [wrap64c, if_pos, if_neg, hL, e1, e2, e9, e10, e11, hlt, q_x, g_x, l_x, r_x, z_x] <;> omega), (by first | omega | assumption | (simp (disch := first | omega | (simp; done) | fail) [wrap64c, if_pos, if_neg, hL, e1, e2, e9, e10, e11, hlt, q_x, g_x, l_x, r_x, z_x] <;> omega)), ?c_hx⟩
      (case hm => first | omega | (simp; omega))
      (case hf => simp [FrameL, hL, e1, e2, e9, e10, e11, hlt, q_x, g_x, l_x, r_x, z_x, f1_0, f2_0, f9_0, f10_0])
      case c_hx =>
        exact (fun i hi hij => by
          rcases Nat.lt_succ_iff_lt_or_eq.1 hij with h1 | h1
          · exact hx i hi h1
          · subst h1; exact hq)
    · rw [decide_eq_false hq] at hc
      refine callG_c (by simp) (by simp) ?ha (hc) ?_
      (case ha => simp (disch := first | omega | (simp; done) | fail) [wrap64c, if_pos, if_neg, hL, e1, e2, e9, e10, e11, hlt, q_x, g_x, l_x, r_x, z_x])
      try simp (disch := first | omega | (simp; done) | fail) [wrap64c, if_pos, if_neg, hL, e1, e2, e9, e10, e11, hlt, q_x, g_x, l_x, r_x, z_x]
      have : ¬ ∀ x ∈ xs, a ≤ x ∧ x ≤ b := fun q => hq (q _ (List.getElem_mem hlt))
      exact done_ret rfl (by rw [decide_eq_false this]; simp)
  · try simp (disch := first | omega | (simp; done) | fail) [wrap64c, if_pos, if_neg, hL, e1, e2, e9, e10, e11, hlt]
    have : ∀ x ∈ xs, a ≤ x ∧ x ≤ b := fun x hx' => by
      obtain ⟨i, hi, rfl⟩ := List.getElem_of_mem hx'
      exact hx i hi (by omega)
    exact done_ret rfl (by rw [decide_eq_true this]; simp)
end Go.Proofs.YtnncipcldbopgaaGreat
namespace Go.Proofs.YtnncipcldbopgaaGreat
set_option linter.unusedSimpArgs false
set_option linter.unusedVariables false
set_option maxHeartbeats 4000000
open Go Go.Eng
attribute [local irreducible] WD RunD PreD Runs CallOK
theorem spIf_ok (h : Hp) (b : Value) (N : Int) (X : List Int) (S : Nat → Prop) (hX : IntsO S h b X) (hS : ∀ o, S o → o < h.next) (hl : X.length < 2 ^ 40) :
    ∃ h', CallOK Tryz.prog 193 #[.agg #[.int .i64 N, b]] h (.tuple #[if spB N X = true then .agg #[.int .i64 N, b] else .agg #[.int .i64 0, .slice none 0 0], .bool (spB N X)]) h' ∧ Adds h h' := by
  have nt := hX.nt
  have cs := hX.cs
  have key : ∃ v' h', CallOK Tryz.prog 193 #[.agg #[.int .i64 N, b]] h v' h' ∧ v' = .tuple #[if spB N X = true then .agg #[.int .i64 N, b] else .agg #[.int .i64 0, .slice none 0 0], .bool (spB N X)] ∧ Adds h h' := by
    refine callY_L (args := [.agg #[.int .i64 N, b]]) 9 _ [.cell 2 26, .tmp 3] Tryz.func193 rfl rfl rfl ?_
    refine WD_first ?_
    try simp (disch := first | omega | (simp; done) | fail) [wrap64c, if_pos, if_neg, opAnd, opOr, opXor, opDiff, opShr, opBit, nt, cs]
    refine stopK_heap fun h0 q_h0 => ?_
    refine stopK_go ?_
    have k0 : Adds h h0 := by rw [q_h0]; exact (by first | exact aK | exact kK)
    have n0 : h0.next = h.next + 2 := by simp [q_h0]
    have g0 : h0.get h.next = .cells [.int .i64 N, b] true true 1 := by simp [q_h0]
    have g1 : h0.get (h.next + 1) = .cells [.int .i64 0, .slice none 0 0] true true 1 := by simp [q_h0]
    try simp (disch := first | omega | (simp; done) | fail) [wrap64c, if_pos, if_neg, opAnd, opOr, opXor, opDiff, opShr, opBit, nt, cs, g0, g1]
    refine callG_c (by simp) (by simp) ?ha (spGood_ok h0 (.agg #[.int .i64 N, b]) N X (.mk (hX.ints.keep k0.1)) hl) ?_
    (case ha => simp (disch := first | omega | (simp; done) | fail) [wrap64c, if_pos, if_neg, opAnd, opOr, opXor, opDiff, opShr, opBit, nt, cs, g0, g1])
    cases c : spB N X
    · try simp (disch := first | omega | (simp; done) | fail) [wrap64c, if_pos, if_neg, opAnd, opOr, opXor, opDiff, opShr, opBit, nt, cs, g0, g1, c, putCells]
      exact done_ret (by simp [putCells]; rfl) ⟨by simp [c], (by first | exact aK | exact kK)⟩
    · try simp (disch := first | omega | (simp; done) | fail) [wrap64c, if_pos, if_neg, opAnd, opOr, opXor, opDiff, opShr, opBit, nt, cs, g0, g1, c, putCells]
      exact done_ret (by simp [putCells]; rfl) ⟨by simp [c], (by first | exact aK | exact kK)⟩
  obtain ⟨_, h', hc, rfl, ha⟩ := key
  exact ⟨h', hc, ha⟩
end Go.Proofs.YtnncipcldbopgaaGreat
namespace Go.Proofs.YtnncipcldbopgaaGreat
set_option linter.unusedSimpArgs false
set_option linter.unusedVariables false
set_option maxHeartbeats 4000000
open Go Go.Eng
attribute [local irreducible] WD RunD PreD Runs CallOK
theorem pairB_two {N a b : Int} : pairB N [a, b] = (decide (∀ x ∈ [a, b], 0 ≤ x ∧ x ≤ N - 1) && !(a == b)) := by
  rw [Bool.eq_iff_iff]
  simp [pairB, and_assoc]
theorem ordOK_no {N : Int} {L : List (List Int)} (c1 : sizeB N = true) {j : Nat} (hj : j < L.length) (hp : pairB N L[j] = false) : ordOK N L = false := by
  have : (L.any fun x => !pairB N x) = true := List.any_eq_true.2 ⟨_, List.getElem_mem hj, by rw [hp]; rfl⟩
  simp [ordOK, pairsB, this]
theorem pairsB_of {N : Int} {L : List (List Int)} (h : L.length ≤ 40) (hp : ∀ x ∈ L, pairB N x = true) : pairsB N L = true := by
  unfold pairsB
  simp only [Bool.and_eq_true, decide_eq_true_eq, Bool.not_eq_true', List.any_eq_false]
  exact ⟨h, fun x hx => by rw [hp x hx]; simp⟩
theorem pair_two {n : Nat} {x : List Int} (h : pairB n x = true) : ∃ c d : Nat, c < n ∧ d < n ∧ x = [(c : Int), (d : Int)] := by
  unfold pairB at h
  simp only [Bool.and_eq_true, decide_eq_true_eq] at h
  obtain ⟨h2, ⟨p1, p2⟩, ⟨p3, p4⟩, _⟩ := h
  match x, h2 with
  | [c, d], _ =>
    simp at p1 p2 p3 p4
    exact ⟨c.toNat, d.toNat, by omega, by omega, by simp; omega⟩
theorem specOrder_ok (h : Hp) (v : Value) (L : List (List Int)) (N : Int) (hv : IRows h v L) :
    ∃ v' h', CallOK Tryz.prog 171 #[.int .i64 N, v] h v' h' ∧ Adds h h' ∧ ∃ u, v' = .tuple #[u, .bool (ordOK N L)] ∧ SpaceO (Btw h.next h'.next) h' u (ordN N L) (ordX N L) := by
  have hnt := hv.nt
  have hcs := hv.cs
  have hL := hv.lenD
  have hs := hv.len
  cases c1 : sizeB N
  · have hk : ordOK N L = false := by simp [ordOK, c1]
    refine callY_L (args := [.int .i64 N, v]) 91 _ [.cell 4 26, .tmp 5] Tryz.func171 rfl rfl rfl ?_
    try simp (disch := first | omega | (simp; done) | fail) [wrap64c, if_pos, if_neg, opAnd, opOr, opXor, opDiff, opShr, opBit, hnt, hcs, hL, c1, hk]
    refine callG_c (by simp) (by simp) ?ha (spItems_ok _ N) ?_
    (case ha => simp (disch := first | omega | (simp; done) | fail) [wrap64c, if_pos, if_neg, opAnd, opOr, opXor, opDiff, opShr, opBit, hnt, hcs, hL, c1, hk])
    try simp (disch := first | omega | (simp; done) | fail) [wrap64c, if_pos, if_neg, opAnd, opOr, opXor, opDiff, opShr, opBit, hnt, hcs, hL, c1, hk, putCells]
    refine done_ret (by simp [putCells]; rfl) ⟨(by first | exact aK | exact kK), .agg #[.int .i64 0, .slice none 0 0], by simp [hk], ?_⟩
    simp only [ordN, ordX, hk]
    exact ⟨_, rfl, .nil _ _⟩
  · obtain ⟨n, rfl, n1, n7⟩ := sizeB_true c1
    by_cases h40 : L.length ≤ 40
    case neg =>
      have h40' : ¬ (L.length : Int) ≤ 40 := by omega
      have hk : ordOK n L = false := by simp [ordOK, c1, pairsB, h40]
      refine callY_L (args := [.int .i64 (n : Int), v]) 91 _ [.cell 4 26, .tmp 5] Tryz.func171 rfl rfl rfl ?_
      try simp (disch := first | omega | (simp; done) | fail) [wrap64c, if_pos, if_neg, opAnd, opOr, opXor, opDiff, opShr, opBit, hnt, hcs, hL, c1, h40', hk]
      refine callG_c (by simp) (by simp) ?ha (spItems_ok _ n) ?_
      (case ha => simp (disch := first | omega | (simp; done) | fail) [wrap64c, if_pos, if_neg, opAnd, opOr, opXor, opDiff, opShr, opBit, hnt, hcs, hL, c1, h40', hk])
      try simp (disch := first | omega | (simp; done) | fail) [wrap64c, if_pos, if_neg, opAnd, opOr, opXor, opDiff, opShr, opBit, hnt, hcs, hL, c1, h40', hk, putCells]
      refine done_ret (by simp [putCells]; rfl) ⟨(by first | exact aK | exact kK), .agg #[.int .i64 0, .slice none 0 0], by simp [hk], ?_⟩
      simp only [ordN, ordX, hk]
      exact ⟨_, rfl, .nil _ _⟩
    have h40' : (L.length : Int) ≤ 40 := by omega
    refine callY_L (args := [.int .i64 (n : Int), v]) 91 _ [.cell 4 26, .tmp 5] Tryz.func171 rfl rfl rfl ?_
    try simp (disch := first | omega | (simp; done) | fail) [wrap64c, if_pos, if_neg, opAnd, opOr, opXor, opDiff, opShr, opBit, hnt, hcs, hL, c1, h40']
    refine callG_c (by simp) (by simp) ?ha (spItems_ok _ n) ?_
    (case ha => simp (disch := first | omega | (simp; done) | fail) [wrap64c, if_pos, if_neg, opAnd, opOr, opXor, opDiff, opShr, opBit, hnt, hcs, hL, c1, h40'])
    try simp (disch := first | omega | (simp; done) | fail) [wrap64c, if_pos, if_neg, opAnd, opOr, opXor, opDiff, opShr, opBit, hnt, hcs, hL, c1, h40']
    refine WD_loopC [0, 1, 4, 22, 23] (fun m tm h' => ∃ j, m = L.length - j ∧ tm 24 = .int .i64 (j : Int) ∧ (j ≤ L.length) ∧ (Adds h h') ∧ (h'.next = h.next + 1) ∧ (h'.get h.next = .cells [.int .i64 0, .slice none 0 0] true true 1) ∧ (∀ i (hi : i < L.length), i < j → pairB n L[i] = true)) _ ⟨0, rfl, (by simp (disch := first | omega | (simp; done) | fail) [wrap64c, if_pos, if_neg, opAnd, opOr, opXor, opDiff, opShr, opBit, hnt, hcs, hL, c1, h40']), (by first | omega | assumption | (simp (disch := first | omega | (simp; done) | fail) [wrap64c, if_pos, if_neg, opAnd, opOr, opXor, opDiff, opShr, opBit, hnt, hcs, hL, c1, h40'] <;> omega)), (by first | exact aK | exact kK), (by simp), (by simp), (fun i hi h0 => by omega)⟩ ?_
    rintro m tm h' hFr ⟨j, rfl, e24, hj, ha, hn1, hg, hx⟩
    simp only [FrameL] at hFr
    obtain ⟨f0_0, f1_0, f4_0, f22_0, f23_0, -⟩ := hFr
    try simp (disch := first | omega | (simp; done) | fail) [wrap64c, if_pos, if_neg, opAnd, opOr, opXor, opDiff, opShr, opBit, hnt, hcs, hL, c1, h40'] at f0_0 f1_0 f4_0 f22_0 f23_0
    have e0 := f0_0
    have e1 := f1_0
    have e4 := f4_0
    have e22 := f22_0
    have e23 := f23_0
    rename Hp => hq
    have hv1 := hv.keep ha.1
    by_cases hlt : j < L.length
    · obtain ⟨o_x, i_x, c_x, cs_x, own_x, ex_x, es_x, us_x, q_x, b_x, g_x, l_x, r_x, R_x⟩ := hv1.open ((by omega))
      have z_x : ∀ h2 : i_x < cs_x.length, cs_x[i_x] = _ := fun h2 => r_x 0 ((by omega)) h2
      try simp (disch := first | omega | (simp; done) | fail) [wrap64c, if_pos, if_neg, opAnd, opOr, opXor, opDiff, opShr, opBit, hnt, hcs, hL, c1, h40', e0, e1, e4, e22, e23, e24, hg, hlt, q_x, g_x, l_x, r_x, z_x]
      refine WD_drawC 19 rfl (by kernel_rfl) ?_
      by_cases h2 : L[j].length = 2
      · obtain ⟨a, b, hab⟩ : ∃ a b, L[j] = [a, b] := by
          match L[j], h2 with
          | [a, b], _ => exact ⟨a, b, rfl⟩
        have hR := R_x j hlt
        rw [hab] at hR
        have hLj := hR.lenD
        obtain ⟨o_y, i_y, c_y, cs_y, own_y, ex_y, es_y, q_y, b_y, g_y, l_y, r_y⟩ := hR.open ((by simp))
        have z_y : ∀ h2 : i_y < cs_y.length, cs_y[i_y] = _ := fun h2 => r_y 0 ((by simp)) h2
        have l2_y : i_y + 1 < cs_y.length := by have := l_y; simp at this; omega
        have l3_y : i_y < cs_y.length := by omega
        have z2_y := r_y 1 (by simp)
        try simp (disch := first | omega | (simp; done) | fail) [wrap64c, if_pos, if_neg, opAnd, opOr, opXor, opDiff, opShr, opBit, hnt, hcs, hL, c1, h40', e0, e1, e4, e22, e23, e24, hg, hlt, q_x, g_x, l_x, r_x, z_x, hLj, q_y, g_y, l_y, r_y, z_y, l2_y, l3_y, z2_y]
        refine callP_c (by simp) (by simp) ?ha (l1All_ok hq (us_x j) [a, b] 0 (n - 1) hR) ?hadd ?_
        (case ha => simp (disch := first | omega | (simp; done) | fail) [wrap64c, if_pos, if_neg, opAnd, opOr, opXor, opDiff, opShr, opBit, hnt, hcs, hL, c1, h40', e0, e1, e4, e22, e23, e24, hg, hlt, q_x, g_x, l_x, r_x, z_x, hLj, q_y, g_y, l_y, r_y, z_y, l2_y, l3_y, z2_y])
        (case hadd => first | assumption | exact adds_self _ | (simp; done))
        cases d1 : decide (∀ x ∈ [a, b], 0 ≤ x ∧ x ≤ (n : Int) - 1)
        · have hp : pairB n L[j] = false := by rw [hab, pairB_two, d1]; rfl
          have hk := ordOK_no c1 hlt hp
          try simp (disch := first | omega | (simp; done) | fail) [wrap64c, if_pos, if_neg, opAnd, opOr, opXor, opDiff, opShr, opBit, hnt, hcs, hL, c1, h40', e0, e1, e4, e22, e23, e24, hg, hlt, q_x, g_x, l_x, r_x, z_x, hLj, q_y, g_y, l_y, r_y, z_y, l2_y, l3_y, z2_y, d1, hk, putCells]
          refine done_ret (by simp [putCells, e4]; rfl) ⟨(by first | exact aK | exact kK), .agg #[.int .i64 0, .slice none 0 0], by simp [hk], ?_⟩
          simp only [ordN, ordX, hk]
          exact ⟨_, rfl, .nil _ _⟩
        · cases d2 : (a == b)
          · have hp : pairB n L[j] = true := by rw [hab, pairB_two, d1, d2]; rfl
            try simp (disch := first | omega | (simp; done) | fail) [wrap64c, if_pos, if_neg, opAnd, opOr, opXor, opDiff, opShr, opBit, hnt, hcs, hL, c1, h40', e0, e1, e4, e22, e23, e24, hg, hlt, q_x, g_x, l_x, r_x, z_x, hLj, q_y, g_y, l_y, r_y, z_y, l2_y, l3_y, z2_y, d1, d2]
            refine loopK_next _ ?hm ?hf ⟨j + 1, rfl, (by simp (disch := first | omega | (simp; done) | fail) [wrap64c, if_pos, if_neg, opAnd, opOr, opXor, opDiff, opShr, opBit, hnt, hcs, hL, c1, h40', e0, e1, e4, e22, e23, e24, hg, hlt, q_x, g_x, l_x, r_x, z_x, hLj, q_y, g_y, l_y, r_y, z_y, l2_y, l3_y, z2_y, d1, d2] <;> omega), (by first | omega | assumption | (simp (disch := first | omega | (simp; done) | fail) [wrap64c, if_pos, if_neg, opAnd, opOr, opXor, opDiff, opShr, opBit, hnt, hcs, hL, c1, h40', e0, e1, e4, e22, e23, e24, hg, hlt, q_x, g_x, l_x, r_x, z_x, hLj, q_y, g_y, l_y, r_y, z_y, l2_y, l3_y, z2_y, d1, d2] <;> omega)), (by first | omega | assumption | (simp (disch := first | omega | (simp; done) | fail) [wrap64c, if_pos, if_neg, opAnd, opOr, opXor, opDiff, opShr, opBit, hnt, hcs, hL, c1, h40', e0, e1, e4, e22, e23, e24, hg, hlt, q_x, g_x, l_x, r_x, z_x, hLj, q_y, g_y, l_y, r_y, z_y, l2_y, l3_y, z2_y, d1, d2] <;> omega)), (by first | omega | assumption | (simp (disch := first | omega | (simp; done) | fail) [wrap64c, if_pos, if_neg, opAnd, opOr, opXor, opDiff, opShr, opBit, hnt, hcs, hL, c1, h40', e0, e1, e4, e22, e23, e24, hg, hlt, q_x, g_x, l_x, r_x, z_x, hLj, q_y, g_y, l_y, r_y, z_y, l2_y, l3_y, z2_y, d1, d2] <;> omega)), (by first | omega | assumption | (simp (disch := first | omega | (simp; done) | fail) [wrap64c, if_pos, if_neg, opAnd, opOr, opXor, opDiff, opShr, opBit, hnt, hcs, hL, c1, h40', e0, e1, e4, e22, e23, e24, hg, hlt, q_x, g_x, l_x, r_x, z_x, hLj, q_y, g_y, l_y, r_y, z_y, l2_y, l3_y, z2_y, d1, d2] <;> omega)), ?c_hx⟩
            (case hm => first | omega | (simp; omega))
            (case hf => simp [FrameL, hnt, hcs, hL, c1, h40', e0, e1, e4, e22, e23, e24, hg, hlt, q_x, g_x, l_x, r_x, z_x, hLj, q_y, g_y, l_y, r_y, z_y, l2_y, l3_y, z2_y, d1, d2, f0_0, f1_0, f4_0, f22_0, f23_0])
            case c_hx =>
              exact (fun i hi h1 => by
                by_cases e : i = j
                · subst e; exact hp
                · exact hx i hi (by omega))
          · have hp : pairB n L[j] = false := by rw [hab, pairB_two, d1, d2]; rfl
            have hk := ordOK_no c1 hlt hp
            try simp (disch := first | omega | (simp; done) | fail) [wrap64c, if_pos, if_neg, opAnd, opOr, opXor, opDiff, opShr, opBit, hnt, hcs, hL, c1, h40', e0, e1, e4, e22, e23, e24, hg, hlt, q_x, g_x, l_x, r_x, z_x, hLj, q_y, g_y, l_y, r_y, z_y, l2_y, l3_y, z2_y, d1, d2, hk, putCells]
            refine done_ret (by simp [putCells, e4]; rfl) ⟨(by first | exact aK | exact kK), .agg #[.int .i64 0, .slice none 0 0], by simp [hk], ?_⟩
            simp only [ordN, ordX, hk]
            exact ⟨_, rfl, .nil _ _⟩
      · have h2' : ((L[j].length : Int) != 2) = true := by simp; omega
        have hp : pairB n L[j] = false := by simp [pairB, h2]
        have hk := ordOK_no c1 hlt hp
        have hLj := (R_x j hlt).lenD
        try simp (disch := first | omega | (simp; done) | fail) [wrap64c, if_pos, if_neg, opAnd, opOr, opXor, opDiff, opShr, opBit, hnt, hcs, hL, c1, h40', e0, e1, e4, e22, e23, e24, hg, hlt, q_x, g_x, l_x, r_x, z_x, h2', hk, hLj, putCells]
        refine done_ret (by simp [putCells, e4]; rfl) ⟨(by first | exact aK | exact kK), .agg #[.int .i64 0, .slice none 0 0], by simp [hk], ?_⟩
        simp only [ordN, ordX, hk]
        exact ⟨_, rfl, .nil _ _⟩
    · have hje : j = L.length := by omega
      have hall : ∀ x ∈ L, pairB n x = true := fun x hx' => by
        obtain ⟨k, hk, rfl⟩ := List.getElem_of_mem hx'
        exact hx k hk (by omega)
      have c2 := pairsB_of h40 hall
      have hb7 := bit7 n7
      try simp (disch := first | omega | (simp; done) | fail) [wrap64c, if_pos, if_neg, opAnd, opOr, opXor, opDiff, opShr, opBit, hnt, hcs, hL, c1, h40', e0, e1, e4, e22, e23, e24, hg, hlt, putCells]
      refine WD_loopC [0, 1, 4, 8] (fun m tm h' => ∃ a w, m = bit n - a ∧ tm 9 = .int .i64 (a : Int) ∧ (a ≤ bit n) ∧ (Adds hq h') ∧ (IntsA (hq.next + 1) h' w (toN (famK (keepsB L) a))) ∧ (h'.get hq.next = .cells [.int .i64 (n : Int), w] true true 1) ∧ (hq.next + 1 ≤ h'.next)) _ ⟨0, .slice none 0 0, rfl, (by simp (disch := first | omega | (simp; done) | fail) [wrap64c, if_pos, if_neg, opAnd, opOr, opXor, opDiff, opShr, opBit, hnt, hcs, hL, c1, h40', e0, e1, e4, e22, e23, e24, hg, hlt]), (by first | omega | assumption | (simp (disch := first | omega | (simp; done) | fail) [wrap64c, if_pos, if_neg, opAnd, opOr, opXor, opDiff, opShr, opBit, hnt, hcs, hL, c1, h40', e0, e1, e4, e22, e23, e24, hg, hlt] <;> omega)), (by first | exact aK | exact kK), (.nil _ _), (by simp), (by simp)⟩ ?_
      rintro m tm h' hFr ⟨a, w, rfl, e9, hb, ha2, hw, hg2, hnn⟩
      simp only [FrameL] at hFr
      obtain ⟨f0_1, f1_1, f4_1, f8_1, -⟩ := hFr
      try simp (disch := first | omega | (simp; done) | fail) [wrap64c, if_pos, if_neg, opAnd, opOr, opXor, opDiff, opShr, opBit, hnt, hcs, hL, c1, h40', e0, e1, e4, e22, e23, e24, hg, hlt] at f0_1 f1_1 f4_1 f8_1
      have e0 := f0_1
      have e1 := f1_1
      have e4 := f4_1
      have e8 := f8_1
      rename Hp => hq2
      have hv2 := (hv.keep ha.1).keep ha2.1
      have hkl : (famK (keepsB L) a).length ≤ a := by
        have := List.length_filter_le (keepsB L) (List.range a)
        unfold famK; simpa using this
      by_cases hab : a < bit n
      · try simp (disch := first | omega | (simp; done) | fail) [wrap64c, if_pos, if_neg, opAnd, opOr, opXor, opDiff, opShr, opBit, hnt, hcs, hL, c1, h40', e0, e1, e4, e22, e23, e24, hg, hlt, e8, e9, hg2, hab]
        refine WD_loopC [0, 1, 4, 8, 9, 57, 58] (fun m tm h' => ∃ i, m = L.length - i ∧ hq2 = h' ∧ tm 10 = .bool (!(L.take i).any (breaks a)) ∧ tm 59 = .int .i64 (i : Int) ∧ (i ≤ L.length)) _ ⟨0, rfl, rfl, (by simp), (by simp (disch := first | omega | (simp; done) | fail) [wrap64c, if_pos, if_neg, opAnd, opOr, opXor, opDiff, opShr, opBit, hnt, hcs, hL, c1, h40', e0, e1, e4, e22, e23, e24, hg, hlt, e8, e9, hg2, hab]), (by first | omega | assumption | (simp (disch := first | omega | (simp; done) | fail) [wrap64c, if_pos, if_neg, opAnd, opOr, opXor, opDiff, opShr, opBit, hnt, hcs, hL, c1, h40', e0, e1, e4, e22, e23, e24, hg, hlt, e8, e9, hg2, hab] <;> omega))⟩ ?_
        rintro m tm h' hFr ⟨i, rfl, rfl, e10, e59, hi⟩
        simp only [FrameL] at hFr
        obtain ⟨f0_2, f1_2, f4_2, f8_2, f9_2, f57_2, f58_2, -⟩ := hFr
        try simp (disch := first | omega | (simp; done) | fail) [wrap64c, if_pos, if_neg, opAnd, opOr, opXor, opDiff, opShr, opBit, hnt, hcs, hL, c1, h40', e0, e1, e4, e22, e23, e24, hg, hlt, e8, e9, hg2, hab] at f0_2 f1_2 f4_2 f8_2 f9_2 f57_2 f58_2
        have e0 := f0_2
        have e1 := f1_2
        have e4 := f4_2
        have e8 := f8_2
        have e9 := f9_2
        have e57 := f57_2
        have e58 := f58_2
        by_cases hli : i < L.length
        · obtain ⟨c, d, hc, hd, hcd⟩ := pair_two (hall _ (List.getElem_mem hli))
          obtain ⟨o_x, i_x, c_x, cs_x, own_x, ex_x, es_x, us_x, q_x, b_x, g_x, l_x, r_x, R_x⟩ := hv2.open ((by omega))
          have z_x : ∀ h2 : i_x < cs_x.length, cs_x[i_x] = _ := fun h2 => r_x 0 ((by omega)) h2
          have hR := R_x i hli
          rw [hcd] at hR
          have htk : L.take (i + 1) = L.take i ++ [L[i]] := List.take_succ_eq_append_getElem hli
          obtain ⟨o_y, i_y, c_y, cs_y, own_y, ex_y, es_y, q_y, b_y, g_y, l_y, r_y⟩ := hR.open ((by simp))
          have z_y : ∀ h2 : i_y < cs_y.length, cs_y[i_y] = _ := fun h2 => r_y 0 ((by simp)) h2
          have l2_y : i_y + 1 < cs_y.length := by have := l_y; simp at this; omega
          have l3_y : i_y < cs_y.length := by omega
          have z2_y := r_y 1 (by simp)
          cases hgd : (L.take i).any (breaks a)
          · try simp (disch := first | omega | (simp; done) | fail) [wrap64c, if_pos, if_neg, opAnd, opOr, opXor, opDiff, opShr, opBit, hnt, hcs, hL, c1, h40', e0, e1, e4, e22, e23, e24, hg, hlt, e8, e9, hg2, hab, e10, e57, e58, e59, hli, q_x, g_x, l_x, r_x, z_x, q_y, g_y, l_y, r_y, z_y, l2_y, l3_y, z2_y, hgd]
            refine callG_c (by simp) (by simp) ?ha (spIn_ok hq2 a d (by omega) (by omega)) ?_
            (case ha => simp (disch := first | omega | (simp; done) | fail) [wrap64c, if_pos, if_neg, opAnd, opOr, opXor, opDiff, opShr, opBit, hnt, hcs, hL, c1, h40', e0, e1, e4, e22, e23, e24, hg, hlt, e8, e9, hg2, hab, e10, e57, e58, e59, hli, q_x, g_x, l_x, r_x, z_x, q_y, g_y, l_y, r_y, z_y, l2_y, l3_y, z2_y, hgd])
            cases h2 : a.testBit d
            · try simp (disch := first | omega | (simp; done) | fail) [wrap64c, if_pos, if_neg, opAnd, opOr, opXor, opDiff, opShr, opBit, hnt, hcs, hL, c1, h40', e0, e1, e4, e22, e23, e24, hg, hlt, e8, e9, hg2, hab, e10, e57, e58, e59, hli, q_x, g_x, l_x, r_x, z_x, q_y, g_y, l_y, r_y, z_y, l2_y, l3_y, z2_y, hgd, h2]
              refine loopK_next _ ?hm ?hf ⟨i + 1, rfl, rfl, (by simp [htk, hgd, hcd, breaks, h2, -List.take_append_getElem]), (by simp (disch := first | omega | (simp; done) | fail) [wrap64c, if_pos, if_neg, opAnd, opOr, opXor, opDiff, opShr, opBit, hnt, hcs, hL, c1, h40', e0, e1, e4, e22, e23, e24, hg, hlt, e8, e9, hg2, hab, e10, e57, e58, e59, hli, q_x, g_x, l_x, r_x, z_x, q_y, g_y, l_y, r_y, z_y, l2_y, l3_y, z2_y, hgd, h2] <;> omega), (by first | omega | assumption | (simp (disch := first | omega | (simp; done) | fail) [wrap64c, if_pos, if_neg, opAnd, opOr, opXor, opDiff, opShr, opBit, hnt, hcs, hL, c1, h40', e0, e1, e4, e22, e23, e24, hg, hlt, e8, e9, hg2, hab, e10, e57, e58, e59, hli, q_x, g_x, l_x, r_x, z_x, q_y, g_y, l_y, r_y, z_y, l2_y, l3_y, z2_y, hgd, h2] <;> omega))⟩
              (case hm => first | omega | (simp; omega))
              (case hf => simp [FrameL, hnt, hcs, hL, c1, h40', e0, e1, e4, e22, e23, e24, hg, hlt, e8, e9, hg2, hab, e10, e57, e58, e59, hli, q_x, g_x, l_x, r_x, z_x, q_y, g_y, l_y, r_y, z_y, l2_y, l3_y, z2_y, hgd, h2, f0_2, f1_2, f4_2, f8_2, f9_2, f57_2, f58_2])
            · try simp (disch := first | omega | (simp; done) | fail) [wrap64c, if_pos, if_neg, opAnd, opOr, opXor, opDiff, opShr, opBit, hnt, hcs, hL, c1, h40', e0, e1, e4, e22, e23, e24, hg, hlt, e8, e9, hg2, hab, e10, e57, e58, e59, hli, q_x, g_x, l_x, r_x, z_x, q_y, g_y, l_y, r_y, z_y, l2_y, l3_y, z2_y, hgd, h2]
              refine callG_c (by simp) (by simp) ?ha (spIn_ok hq2 a c (by omega) (by omega)) ?_
              (case ha => simp (disch := first | omega | (simp; done) | fail) [wrap64c, if_pos, if_neg, opAnd, opOr, opXor, opDiff, opShr, opBit, hnt, hcs, hL, c1, h40', e0, e1, e4, e22, e23, e24, hg, hlt, e8, e9, hg2, hab, e10, e57, e58, e59, hli, q_x, g_x, l_x, r_x, z_x, q_y, g_y, l_y, r_y, z_y, l2_y, l3_y, z2_y, hgd, h2])
              cases h3 : a.testBit c
              · try simp (disch := first | omega | (simp; done) | fail) [wrap64c, if_pos, if_neg, opAnd, opOr, opXor, opDiff, opShr, opBit, hnt, hcs, hL, c1, h40', e0, e1, e4, e22, e23, e24, hg, hlt, e8, e9, hg2, hab, e10, e57, e58, e59, hli, q_x, g_x, l_x, r_x, z_x, q_y, g_y, l_y, r_y, z_y, l2_y, l3_y, z2_y, hgd, h2, h3]
                refine loopK_next _ ?hm ?hf ⟨i + 1, rfl, rfl, (by simp [htk, hgd, hcd, breaks, h2, h3, -List.take_append_getElem]), (by simp (disch := first | omega | (simp; done) | fail) [wrap64c, if_pos, if_neg, opAnd, opOr, opXor, opDiff, opShr, opBit, hnt, hcs, hL, c1, h40', e0, e1, e4, e22, e23, e24, hg, hlt, e8, e9, hg2, hab, e10, e57, e58, e59, hli, q_x, g_x, l_x, r_x, z_x, q_y, g_y, l_y, r_y, z_y, l2_y, l3_y, z2_y, hgd, h2, h3] <;> omega), (by first | omega | assumption | (simp (disch := first | omega | (simp; done) | fail) [wrap64c, if_pos, if_neg, opAnd, opOr, opXor, opDiff, opShr, opBit, hnt, hcs, hL, c1, h40', e0, e1, e4, e22, e23, e24, hg, hlt, e8, e9, hg2, hab, e10, e57, e58, e59, hli, q_x, g_x, l_x, r_x, z_x, q_y, g_y, l_y, r_y, z_y, l2_y, l3_y, z2_y, hgd, h2, h3] <;> omega))⟩
                (case hm => first | omega | (simp; omega))
                (case hf => simp [FrameL, hnt, hcs, hL, c1, h40', e0, e1, e4, e22, e23, e24, hg, hlt, e8, e9, hg2, hab, e10, e57, e58, e59, hli, q_x, g_x, l_x, r_x, z_x, q_y, g_y, l_y, r_y, z_y, l2_y, l3_y, z2_y, hgd, h2, h3, f0_2, f1_2, f4_2, f8_2, f9_2, f57_2, f58_2])
              · try simp (disch := first | omega | (simp; done) | fail) [wrap64c, if_pos, if_neg, opAnd, opOr, opXor, opDiff, opShr, opBit, hnt, hcs, hL, c1, h40', e0, e1, e4, e22, e23, e24, hg, hlt, e8, e9, hg2, hab, e10, e57, e58, e59, hli, q_x, g_x, l_x, r_x, z_x, q_y, g_y, l_y, r_y, z_y, l2_y, l3_y, z2_y, hgd, h2, h3]
                refine loopK_next _ ?hm ?hf ⟨i + 1, rfl, rfl, (by simp [htk, hgd, hcd, breaks, h2, h3, -List.take_append_getElem]), (by simp (disch := first | omega | (simp; done) | fail) [wrap64c, if_pos, if_neg, opAnd, opOr, opXor, opDiff, opShr, opBit, hnt, hcs, hL, c1, h40', e0, e1, e4, e22, e23, e24, hg, hlt, e8, e9, hg2, hab, e10, e57, e58, e59, hli, q_x, g_x, l_x, r_x, z_x, q_y, g_y, l_y, r_y, z_y, l2_y, l3_y, z2_y, hgd, h2, h3] <;> omega), (by first | omega | assumption | (simp (disch := first | omega | (simp; done) | fail) [wrap64c, if_pos, if_neg, opAnd, opOr, opXor, opDiff, opShr, opBit, hnt, hcs, hL, c1, h40', e0, e1, e4, e22, e23, e24, hg, hlt, e8, e9, hg2, hab, e10, e57, e58, e59, hli, q_x, g_x, l_x, r_x, z_x, q_y, g_y, l_y, r_y, z_y, l2_y, l3_y, z2_y, hgd, h2, h3] <;> omega))⟩
                (case hm => first | omega | (simp; omega))
                (case hf => simp [FrameL, hnt, hcs, hL, c1, h40', e0, e1, e4, e22, e23, e24, hg, hlt, e8, e9, hg2, hab, e10, e57, e58, e59, hli, q_x, g_x, l_x, r_x, z_x, q_y, g_y, l_y, r_y, z_y, l2_y, l3_y, z2_y, hgd, h2, h3, f0_2, f1_2, f4_2, f8_2, f9_2, f57_2, f58_2])
          · try simp (disch := first | omega | (simp; done) | fail) [wrap64c, if_pos, if_neg, opAnd, opOr, opXor, opDiff, opShr, opBit, hnt, hcs, hL, c1, h40', e0, e1, e4, e22, e23, e24, hg, hlt, e8, e9, hg2, hab, e10, e57, e58, e59, hli, q_x, g_x, l_x, r_x, z_x, q_y, g_y, l_y, r_y, z_y, l2_y, l3_y, z2_y, hgd]
            refine loopK_next _ ?hm ?hf ⟨i + 1, rfl, rfl, (by simp [htk, hgd, -List.take_append_getElem]), (by simp (disch := first | omega | (simp; done) | fail) [wrap64c, if_pos, if_neg, opAnd, opOr, opXor, opDiff, opShr, opBit, hnt, hcs, hL, c1, h40', e0, e1, e4, e22, e23, e24, hg, hlt, e8, e9, hg2, hab, e10, e57, e58, e59, hli, q_x, g_x, l_x, r_x, z_x, q_y, g_y, l_y, r_y, z_y, l2_y, l3_y, z2_y, hgd] <;> omega), (by first | omega | assumption | (simp (disch := first | omega | (simp; done) | fail) [wrap64c, if_pos, if_neg, opAnd, opOr, opXor, opDiff, opShr, opBit, hnt, hcs, hL, c1, h40', e0, e1, e4, e22, e23, e24, hg, hlt, e8, e9, hg2, hab, e10, e57, e58, e59, hli, q_x, g_x, l_x, r_x, z_x, q_y, g_y, l_y, r_y, z_y, l2_y, l3_y, z2_y, hgd] <;> omega))⟩
            (case hm => first | omega | (simp; omega))
            (case hf => simp [FrameL, hnt, hcs, hL, c1, h40', e0, e1, e4, e22, e23, e24, hg, hlt, e8, e9, hg2, hab, e10, e57, e58, e59, hli, q_x, g_x, l_x, r_x, z_x, q_y, g_y, l_y, r_y, z_y, l2_y, l3_y, z2_y, hgd, f0_2, f1_2, f4_2, f8_2, f9_2, f57_2, f58_2])
        · have hie : i = L.length := by omega
          have hfs := famK_succ (keepsB L) a
          rw [hie, List.take_length] at e10
          cases hc : L.any (breaks a)
          · rw [if_pos (by simp [keepsB, hc])] at hfs
            have ntu := (hw.own (by simp; omega)).nt
            have csu := (hw.own (by simp; omega)).cs
            have gq0 : hq2.get h.next = .cells [.int .i64 0, .slice none 0 0] true true 1 := by rw [ha2.1.2 _ (by omega)]; exact hg
            try simp (disch := first | omega | (simp; done) | fail) [wrap64c, if_pos, if_neg, opAnd, opOr, opXor, opDiff, opShr, opBit, hnt, hcs, hL, c1, h40', e0, e1, e4, e22, e23, e24, hg, hlt, e8, e9, hg2, hab, e10, e57, e58, e59, hli, hc, ntu, csu]
            obtain ⟨u2, h4, hap, hu2, ha4, hn4, hs4⟩ := appI hw (a : Int) (by simp; omega) hnn ha2 (by omega)
            have gq : h4.get hq.next = .cells [.int .i64 (n : Int), w] true true 1 := by rw [hs4 _ (by omega) (by omega)]; exact hg2
            have nt2 := (hu2.own (by simp; omega)).nt
            have cs2 := (hu2.own (by simp; omega)).cs
            try simp (disch := first | omega | (simp; done) | fail) [wrap64c, if_pos, if_neg, opAnd, opOr, opXor, opDiff, opShr, opBit, hnt, hcs, hL, c1, h40', e0, e1, e4, e22, e23, e24, hg, hlt, e8, e9, hg2, hab, e10, e57, e58, e59, hli, hc, ntu, csu, gq, nt2, cs2, hap, putCells]
            refine loopK_next _ ?hm ?hf ⟨a + 1, u2, rfl, (by simp (disch := first | omega | (simp; done) | fail) [wrap64c, if_pos, if_neg, opAnd, opOr, opXor, opDiff, opShr, opBit, hnt, hcs, hL, c1, h40', e0, e1, e4, e22, e23, e24, hg, hlt, e8, e9, hg2, hab, e10, e57, e58, e59, hli, hc, ntu, csu, gq, nt2, cs2] <;> omega), (by first | omega | assumption | (simp (disch := first | omega | (simp; done) | fail) [wrap64c, if_pos, if_neg, opAnd, opOr, opXor, opDiff, opShr, opBit, hnt, hcs, hL, c1, h40', e0, e1, e4, e22, e23, e24, hg, hlt, e8, e9, hg2, hab, e10, e57, e58, e59, hli, hc, ntu, csu, gq, nt2, cs2] <;> omega)), (by first | exact aK | exact kK), (by rw [hfs, toN_snoc]; exact IntsA.putB hu2 (by omega) _), (by simp), (by simp; omega)⟩
            (case hm => first | omega | (simp; omega))
            (case hf => simp [FrameL, hnt, hcs, hL, c1, h40', e0, e1, e4, e22, e23, e24, hg, hlt, e8, e9, hg2, hab, e10, e57, e58, e59, hli, hc, ntu, csu, gq, nt2, cs2, f0_1, f1_1, f4_1, f8_1])
          · rw [if_neg (by simp [keepsB, hc])] at hfs
            try simp (disch := first | omega | (simp; done) | fail) [wrap64c, if_pos, if_neg, opAnd, opOr, opXor, opDiff, opShr, opBit, hnt, hcs, hL, c1, h40', e0, e1, e4, e22, e23, e24, hg, hlt, e8, e9, hg2, hab, e10, e57, e58, e59, hli, hc]
            refine loopK_next _ ?hm ?hf ⟨a + 1, w, rfl, (by simp (disch := first | omega | (simp; done) | fail) [wrap64c, if_pos, if_neg, opAnd, opOr, opXor, opDiff, opShr, opBit, hnt, hcs, hL, c1, h40', e0, e1, e4, e22, e23, e24, hg, hlt, e8, e9, hg2, hab, e10, e57, e58, e59, hli, hc] <;> omega), (by first | omega | assumption | (simp (disch := first | omega | (simp; done) | fail) [wrap64c, if_pos, if_neg, opAnd, opOr, opXor, opDiff, opShr, opBit, hnt, hcs, hL, c1, h40', e0, e1, e4, e22, e23, e24, hg, hlt, e8, e9, hg2, hab, e10, e57, e58, e59, hli, hc] <;> omega)), (by first | omega | assumption | (simp (disch := first | omega | (simp; done) | fail) [wrap64c, if_pos, if_neg, opAnd, opOr, opXor, opDiff, opShr, opBit, hnt, hcs, hL, c1, h40', e0, e1, e4, e22, e23, e24, hg, hlt, e8, e9, hg2, hab, e10, e57, e58, e59, hli, hc] <;> omega)), (by rw [hfs]; exact hw), (by first | omega | assumption | (simp (disch := first | omega | (simp; done) | fail) [wrap64c, if_pos, if_neg, opAnd, opOr, opXor, opDiff, opShr, opBit, hnt, hcs, hL, c1, h40', e0, e1, e4, e22, e23, e24, hg, hlt, e8, e9, hg2, hab, e10, e57, e58, e59, hli, hc] <;> omega)), (by first | omega | assumption | (simp (disch := first | omega | (simp; done) | fail) [wrap64c, if_pos, if_neg, opAnd, opOr, opXor, opDiff, opShr, opBit, hnt, hcs, hL, c1, h40', e0, e1, e4, e22, e23, e24, hg, hlt, e8, e9, hg2, hab, e10, e57, e58, e59, hli, hc] <;> omega))⟩
            (case hm => first | omega | (simp; omega))
            (case hf => simp [FrameL, hnt, hcs, hL, c1, h40', e0, e1, e4, e22, e23, e24, hg, hlt, e8, e9, hg2, hab, e10, e57, e58, e59, hli, hc, f0_1, f1_1, f4_1, f8_1])
      · have hae : a = bit n := by omega
        rw [hae] at hw
        have hol := ordL_len n L
        have hO : IntsO (Btw (hq.next + 1) hq2.next) hq2 w (toN (ordL n L)) := hw.own (by show (toN (ordL n L)).length < _; simp; omega)
        obtain ⟨h5, hc5, ha5⟩ := spIf_ok hq2 w n (toN (ordL n L)) _ hO (fun o ho => ho.2) (by simp; omega)
        have A := (ha.trans ha2).trans ha5
        have m5 := ha5.1.1
        have gq0 : h5.get h.next = .cells [.int .i64 0, .slice none 0 0] true true 1 := by rw [ha5.1.2 _ (by omega), ha2.1.2 _ (by omega)]; exact hg
        have ntu := hO.nt
        have csu := hO.cs
        try simp (disch := first | omega | (simp; done) | fail) [wrap64c, if_pos, if_neg, opAnd, opOr, opXor, opDiff, opShr, opBit, hnt, hcs, hL, c1, h40', e0, e1, e4, e22, e23, e24, hg, hlt, e8, e9, hg2, hab, gq0, ntu, csu]
        refine callG_c (by simp) (by simp) ?ha (hc5) ?_
        (case ha => simp (disch := first | omega | (simp; done) | fail) [wrap64c, if_pos, if_neg, opAnd, opOr, opXor, opDiff, opShr, opBit, hnt, hcs, hL, c1, h40', e0, e1, e4, e22, e23, e24, hg, hlt, e8, e9, hg2, hab, gq0, ntu, csu])
        cases c3 : spB n (toN (ordL n L))
        · have hk : ordOK n L = false := by simp [ordOK, c1, c2, c3]
          try simp (disch := first | omega | (simp; done) | fail) [wrap64c, if_pos, if_neg, opAnd, opOr, opXor, opDiff, opShr, opBit, hnt, hcs, hL, c1, h40', e0, e1, e4, e22, e23, e24, hg, hlt, e8, e9, hg2, hab, gq0, ntu, csu, c3, hk, putCells]
          refine done_ret (by simp [putCells, e4]; rfl) ⟨(by first | exact aK | exact kK), .agg #[.int .i64 0, .slice none 0 0], by simp [hk], ?_⟩
          simp only [ordN, ordX, hk]
          exact ⟨_, rfl, .nil _ _⟩
        · have hk : ordOK n L = true := by simp [ordOK, c1, c2, c3]
          try simp (disch := first | omega | (simp; done) | fail) [wrap64c, if_pos, if_neg, opAnd, opOr, opXor, opDiff, opShr, opBit, hnt, hcs, hL, c1, h40', e0, e1, e4, e22, e23, e24, hg, hlt, e8, e9, hg2, hab, gq0, ntu, csu, c3, hk, putCells]
          refine done_ret (by simp [putCells, e4]; rfl) ⟨(by first | exact aK | exact kK), .agg #[.int .i64 n, w], by simp [hk], ?_⟩
          simp only [ordN, ordX, hk, if_true]
          exact ⟨w, rfl, ((hO.keep ha5.1).same (Same.put (Same.refl _ _) (by unfold Btw; omega) _)).sub fun o ho => ⟨by have := ho.1; omega, by have := ho.2; simp; omega⟩⟩
end Go.Proofs.YtnncipcldbopgaaGreat
namespace Go.Proofs.YtnncipcldbopgaaGreat
set_option linter.unusedSimpArgs false
set_option linter.unusedVariables false
set_option maxHeartbeats 4000000
open Go Go.Eng
attribute [local irreducible] WD RunD PreD Runs CallOK
def upPairs (n : Nat) (L : List (List Int)) : Prop := ∀ x ∈ L, ∃ a b : Nat, x = [(a : Int), (b : Int)] ∧ a < b ∧ b < n
theorem top_bit {x : Nat} (h0 : x ≠ 0) : ∀ n, x < bit n → ∃ i, i < n ∧ x.testBit i = true ∧ ∀ j, i < j → x.testBit j = false
  | 0, h => by simp [bit] at h; omega
  | n + 1, h => by
    by_cases hb : x.testBit n = true
    · exact ⟨n, by omega, hb, fun j hj => hi_bit h (by omega)⟩
    · have : x < bit n := lt_bit_of fun i hi => by
        by_cases e : i = n
        · subst e; simpa using hb
        · exact hi_bit h (by omega)
      obtain ⟨i, h1, h2, h3⟩ := top_bit h0 n this
      exact ⟨i, by omega, h2, h3⟩
theorem keeps_iff {n : Nat} {L : List (List Int)} (hp : upPairs n L) {a : Nat} : keepsB L a = true ↔ ∀ x ∈ L, ∀ p q : Nat, x = [(p : Int), (q : Int)] → a.testBit q = true → a.testBit p = true := by
  unfold keepsB
  rw [Bool.not_eq_true', List.any_eq_false]
  constructor
  · intro h x hx p q e hq
    have := h x hx
    subst e
    simpa [breaks, hq] using this
  · intro h x hx
    obtain ⟨p, q, e, _, _⟩ := hp x hx
    have := h x hx p q e
    subst e
    simp only [breaks, List.getD_cons_succ, List.getD_cons_zero, Int.toNat_natCast]
    by_cases hq : a.testBit q = true
    · simp [this hq]
    · simp [hq]
theorem ord_mem {n : Nat} {L : List (List Int)} {a : Nat} : a ∈ ordL n L ↔ a < bit n ∧ keepsB L a = true := by
  unfold ordL famK
  rw [List.mem_filter, List.mem_range]
theorem ord_good {n : Nat} {L : List (List Int)} (h1 : 1 ≤ n) (h7 : n ≤ 7) (hp : upPairs n L) : SpGood n (ordL n L) where
  n1 := h1
  n7 := h7
  srt := List.Pairwise.filter _ List.pairwise_lt_range
  lt := fun a ha => (ord_mem.1 ha).1
  zero := ord_mem.2 ⟨by have := bit_pos n; omega, (keeps_iff hp).2 fun x _ p q _ hq => by simp at hq⟩
  full := ord_mem.2 ⟨by have := bit_pos n; omega, (keeps_iff hp).2 fun x hx p q e hq => by
    obtain ⟨a, b, e2, h2, h3⟩ := hp x hx
    rw [e] at e2
    simp only [List.cons.injEq, and_true] at e2
    rw [full_bit]
    exact decide_eq_true (by omega)⟩
  inn := fun x hx h0 => by
    obtain ⟨hx1, hx2⟩ := ord_mem.1 hx
    obtain ⟨i, hi, hb, hj⟩ := top_bit h0 n hx1
    unfold innerN
    rw [maskN_ne]
    refine ⟨i, by omega, ?_⟩
    rw [Bool.and_eq_true]
    refine ⟨hb, ?_⟩
    unfold fam
    refine decide_eq_true (ord_mem.2 ⟨nXor_lt hx1 (bit_lt_bit hi), (keeps_iff hp).2 fun y hy p q e hq => ?_⟩)
    obtain ⟨a, b, e2, h2, h3⟩ := hp y hy
    rw [e] at e2
    simp only [List.cons.injEq, and_true] at e2
    have hqx : x.testBit q = true := by
      rw [nXor_bit, bit_bit] at hq
      by_cases e3 : i = q
      · subst e3; simp [hb] at hq
      · simpa [e3] using hq
    have hpx := (keeps_iff hp).1 hx2 y hy p q e hqx
    have hpi : ¬ i = p := fun e3 => by
      have := hj q (by omega)
      rw [hqx] at this; cases this
    rw [nXor_bit, bit_bit, hpx]
    simp [hpi]
  uni := fun x hx y hy => by
    obtain ⟨hx1, hx2⟩ := ord_mem.1 hx
    obtain ⟨hy1, hy2⟩ := ord_mem.1 hy
    refine ord_mem.2 ⟨nOr_lt hx1 hy1, (keeps_iff hp).2 fun z hz p q e hq => ?_⟩
    rw [nOr_bit, Bool.or_eq_true] at hq ⊢
    rcases hq with hq | hq
    · exact .inl ((keeps_iff hp).1 hx2 z hz p q e hq)
    · exact .inr ((keeps_iff hp).1 hy2 z hz p q e hq)
theorem ord_up {n : Nat} {L : List (List Int)} (h1 : 1 ≤ n) (h7 : n ≤ 7) (hl : L.length ≤ 40) (hp : upPairs n L) : ordOK n L = true := by
  unfold ordOK
  rw [sizeB_of h1 h7, Bool.true_and, Bool.and_eq_true]
  refine ⟨?_, spB_of (ord_good h1 h7 hp)⟩
  unfold pairsB
  rw [decide_eq_true hl, Bool.true_and, Bool.not_eq_true', List.any_eq_false]
  intro x hx
  obtain ⟨a, b, e, h2, h3⟩ := hp x hx
  subst e
  have : ¬ (a : Int) = (b : Int) := by omega
  simp [pairB, this]
  omega
def SpaceF (F : Nat → Prop) (h : Hp) (v : Value) (N : Int) (X : List Int) : Prop := ∃ b, v = .agg #[.int .i64 N, b] ∧ IntsF F h b X
theorem appPair {n : Nat} {h0 h : Hp} {v : Value} {L : List (List Int)} (hs : IRowsA n h v L) (a b : Int) (hl : L.length < 2 ^ 39) (hn : n ≤ h.next) (hA : Adds h0 h) (h0n : h0.next ≤ n) :
    ∃ v' h', appendD Tryz.prog 49 49 v (.slice (some ⟨h.next + 1, 0, none⟩) 1 1) ((h.alloc (.cells [.int .i64 a, .int .i64 b] true true 1)).alloc (.cells [.slice (some ⟨h.next, 0, none⟩) 2 2] true true 1)) = some (v', h') ∧ IRowsA n h' v' (L ++ [[a, b]]) ∧ Adds h0 h' ∧ h.next < h'.next ∧ ∀ o, o < h.next → o < n → h'.get o = h.get o := by
  have k1 : Adds h (h.alloc (.cells [.int .i64 a, .int .i64 b] true true 1)) := (by first | exact aK | exact kK)
  obtain ⟨v', h', g1, g2, g3, g4, g5⟩ := appR (h := h.alloc (.cells [.int .i64 a, .int .i64 b] true true 1)) (u := .slice (some ⟨h.next, 0, none⟩) 2 2) (r := [a, b]) hs k1.1 (IntsO.mk (xs := [a, b]) (ex := true) (show Btw h.next _ h.next from ⟨Nat.le_refl _, by simp⟩) (by simp) (by simp) (by simp)) (by omega) hn (hA.trans k1) h0n
  exact ⟨v', h', g1, g2, g3, by simp at g4; omega, fun o ho hon => by rw [g5 o (by simp; omega) hon]; simp [Nat.ne_of_lt ho]⟩
theorem fin_space {hB h hh : Hp} {o K k' : Nat} {b : Value} {L : List Nat} (hA : Adds hB h) (ho : o < h.next) (d : DrW hB o K h hh) (hi : IntsF (fun x => h.next < x) hh b (toN L)) (hK : K ≤ k') (cs : List Value) (e : Bool) (es : Nat) :
    DrW hB o k' h (hh.put h.next (.cells cs true e es)) ∧ IntsF (fun x => h.next < x) (hh.put h.next (.cells cs true e es)) b (toN L) :=
  ⟨(d.put hA ho (Nat.le_refl _) _ _ _).mono hK, hi.same (h := hh) (h' := hh.put h.next _) ⟨Nat.le_refl _, fun x hx _ => by simp [show x ≠ h.next by omega]⟩⟩
theorem sureSpace_ok (hB h : Hp) (o k : Nat) (most : Int) (hA : Adds hB h) (hc : CurS hB.next o k h) (hk : k + 2000 < 2 ^ 40) (hm : 1 ≤ most ∧ most ≤ 7) :
    ∃ v h', CallOK Tryz.prog 128 #[.pointer (some ⟨o, 0, none⟩), .int .i64 most] h v h' ∧ DrW hB o (k + 200) h h' ∧ ∃ (n : Nat) (b : Value) (L : List Nat), v = .agg #[.int .i64 (n : Int), b] ∧ IntsF (fun x => h.next < x) h' b (toN L) ∧ 1 ≤ n ∧ (n : Int) ≤ most ∧ SrtB (bit n) L ∧ L ≠ [] := by
  have hbo := hc.bo
  refine callY_L (args := [.pointer (some ⟨o, 0, none⟩), .int .i64 most]) 92 _ [.cell 4 26] Tryz.func128 rfl rfl rfl ?_
  try simp (disch := first | omega | (simp; done) | fail) [wrap64c, if_pos, if_neg, opAnd, opOr, opXor, opDiff, opShr, opBit]
  first | refine WY_heap fun h0 q_h0 => ?_ | refine callG_heap fun h0 q_h0 => ?_ | refine callP_heap fun h0 q_h0 => ?_ | refine callS_heap fun h0 q_h0 => ?_ | refine RY_heap fun h0 q_h0 => ?_ | refine PY_heap fun h0 q_h0 => ?_ | refine SY_heap fun h0 q_h0 => ?_ | refine doneY_heap fun h0 q_h0 => ?_ | refine loopK_heap fun h0 q_h0 => ?_ | refine thenY_heap fun h0 q_h0 => ?_ | refine thenM_heap fun h0 q_h0 => ?_
  have k0 : Adds h h0 := by rw [q_h0]; exact (by first | exact aK | exact kK)
  have n0 : h0.next = h.next + 1 := by simp [q_h0]
  have d0 := DrW.of_adds hA hc k0
  have gr0 : h0.get h.next = .cells [.int .i64 0, .slice none 0 0] true true 1 := by simp [q_h0]
  obtain ⟨v1, h1, p1, r1, q1, l1, w1⟩ := pick_ok hB.next o k h0 most d0.cur (by omega)
  subst q1
  have hr1 := l1 (by omega)
  have d1 := d0.trans (w1.dr d0.add d0.cur)
  have n1 := w1.nx
  obtain ⟨n, hn⟩ : ∃ n, n = 1 + r1 := ⟨_, rfl⟩
  have hn7 : n ≤ 7 := by omega
  have hn1 : 1 ≤ n := by omega
  have e1n : (1 : Int) + (r1 : Int) = (n : Int) := by omega
  have hb7 := bit7 hn7
  obtain ⟨v2, h2, p2, r2, q2, l2, w2⟩ := pick_ok hB.next o (k + 2) h1 6 d1.cur (by omega)
  subst q2
  have hr2 := l2 (by omega)
  have d2 := d1.trans (w2.dr d1.add d1.cur)
  have n2 := w2.nx
  have gr2 : h2.get h.next = .cells [.int .i64 0, .slice none 0 0] true true 1 := by rw [w2.get _ (by omega) (by omega), w1.get _ (by omega) (by omega)]; exact gr0
  have hu2 : ∀ a b c d : Value, putCells [a, b] 0 [c, d] = [c, d] := fun _ _ _ _ => rfl
  refine callG_c (by simp) (by simp) ?ha (p1) ?_
  (case ha => simp (disch := first | omega | (simp; done) | fail) [wrap64c, if_pos, if_neg, opAnd, opOr, opXor, opDiff, opShr, opBit, e1n, hu2])
  try simp (disch := first | omega | (simp; done) | fail) [wrap64c, if_pos, if_neg, opAnd, opOr, opXor, opDiff, opShr, opBit, e1n, hu2]
  refine callG_c (by simp) (by simp) ?ha (p2) ?_
  (case ha => simp (disch := first | omega | (simp; done) | fail) [wrap64c, if_pos, if_neg, opAnd, opOr, opXor, opDiff, opShr, opBit, e1n, hu2])
  by_cases z0 : r2 = 0
  · subst z0
    obtain ⟨_, h3, p3, a3, b, L, rfl, i3, hL, hmem⟩ := specLine_ok h2 n hn1 hn7
    have d3 := d2.trans (DrW.of_adds d2.add d2.cur a3)
    have n3 := a3.1.1
    have lL := hL.len
    have ntb := i3.nt
    have csb := (i3.own (by simp; omega)).ints.cs
    have gr3 : h3.get h.next = .cells [.int .i64 0, .slice none 0 0] true true 1 := by rw [a3.1.2 _ (by omega)]; exact gr2
    have hne3 : ¬ h.next = h3.next := by omega
    have hLne : L ≠ [] := fun e => by
      have := (hmem (lineS n 0 0)).2 ⟨0, 0, Nat.le_refl _, Nat.zero_le _, rfl⟩
      rw [e] at this; cases this
    try simp (disch := first | omega | (simp; done) | fail) [wrap64c, if_pos, if_neg, opAnd, opOr, opXor, opDiff, opShr, opBit, e1n, hu2, ntb, csb, gr3, hne3]
    refine callG_c (by simp) (by simp) ?ha (p3) ?_
    (case ha => simp (disch := first | omega | (simp; done) | fail) [wrap64c, if_pos, if_neg, opAnd, opOr, opXor, opDiff, opShr, opBit, e1n, hu2, ntb, csb, gr3, hne3])
    try simp (disch := first | omega | (simp; done) | fail) [wrap64c, if_pos, if_neg, opAnd, opOr, opXor, opDiff, opShr, opBit, e1n, hu2, ntb, csb, gr3, hne3]
    obtain ⟨hz, hzE⟩ : ∃ hz, hz = (h3.alloc (.cells [.int .i64 0, .slice none 0 0] true true 1)).put h3.next (.cells [.int .i64 (n : Int), b] true true 1) := ⟨_, rfl⟩
    have kz : Adds h3 hz := by rw [hzE]; exact (by first | exact aK | exact kK)
    rw [← hzE]
    have hI : IntsF (fun x => h.next < x) hz b (toN L) := (((i3.own (by simp; omega)).read).sub fun x hx => by have := hx.1; omega).keep kz.1
    obtain ⟨f1, f2⟩ := fin_space hA hbo.2 (d3.trans (DrW.of_adds d3.add d3.cur kz)) hI (show k + 2 + 2 ≤ k + 200 by omega) [.int .i64 (n : Int), b] true 1
    exact done_ret (vs := [.agg #[.int .i64 (n : Int), b]]) (by simp [resL]) ⟨f1, n, b, _, rfl, f2, hn1, by omega, hL, hLne⟩
  have z0' : ¬ (r2 : Int) = 0 := by omega
  by_cases z1 : r2 = 1
  · subst z1
    obtain ⟨b, h3, p3, a3, i3⟩ := spFree_ok h2 n hn7
    have d3 := d2.trans (DrW.of_adds d2.add d2.cur a3)
    have n3 := a3.1.1
    have ntb := i3.nt
    have csb := (i3.own (by simp; omega)).ints.cs
    have gr3 : h3.get h.next = .cells [.int .i64 0, .slice none 0 0] true true 1 := by rw [a3.1.2 _ (by omega)]; exact gr2
    try simp (disch := first | omega | (simp; done) | fail) [wrap64c, if_pos, if_neg, opAnd, opOr, opXor, opDiff, opShr, opBit, e1n, hu2, z0', ntb, csb, gr3]
    refine callG_c (by simp) (by simp) ?ha (p3) ?_
    (case ha => simp (disch := first | omega | (simp; done) | fail) [wrap64c, if_pos, if_neg, opAnd, opOr, opXor, opDiff, opShr, opBit, e1n, hu2, z0', ntb, csb, gr3])
    try simp (disch := first | omega | (simp; done) | fail) [wrap64c, if_pos, if_neg, opAnd, opOr, opXor, opDiff, opShr, opBit, e1n, hu2, z0', ntb, csb, gr3]
    have hI : IntsF (fun x => h.next < x) h3 b (toN (List.range (bit n))) := ((i3.own (by simp; omega)).read).sub fun x hx => by have := hx.1; omega
    obtain ⟨f1, f2⟩ := fin_space hA hbo.2 d3 hI (show k + 2 + 2 ≤ k + 200 by omega) [.int .i64 (n : Int), b] true 1
    exact done_ret (vs := [.agg #[.int .i64 (n : Int), b]]) (by simp [resL]) ⟨f1, n, b, _, rfl, f2, hn1, by omega, ⟨List.pairwise_lt_range, fun a ha => List.mem_range.1 ha⟩, by simp; omega⟩
  have z1' : ¬ (r2 : Int) = 1 := by omega
  by_cases z2 : r2 = 2
  · subst z2
    obtain ⟨v3, h3, p3, r3, q3, l3, w3⟩ := pick_ok hB.next o (k + 2 + 2) h2 ((n : Int) + 1) d2.cur (by omega)
    subst q3
    have hr3 := l3 (by omega)
    have d3 := d2.trans (w3.dr d2.add d2.cur)
    have n3 := w3.nx
    have gr3 : h3.get h.next = .cells [.int .i64 0, .slice none 0 0] true true 1 := by rw [w3.get _ (by omega) (by omega)]; exact gr2
    have up0 : upPairs n [] := fun x hx => by cases hx
    try simp (disch := first | omega | (simp; done) | fail) [wrap64c, if_pos, if_neg, opAnd, opOr, opXor, opDiff, opShr, opBit, e1n, hu2, z0', z1']
    refine callG_c (by simp) (by simp) ?ha (p3) ?_
    (case ha => simp (disch := first | omega | (simp; done) | fail) [wrap64c, if_pos, if_neg, opAnd, opOr, opXor, opDiff, opShr, opBit, e1n, hu2, z0', z1'])
    try simp (disch := first | omega | (simp; done) | fail) [wrap64c, if_pos, if_neg, opAnd, opOr, opXor, opDiff, opShr, opBit, e1n, hu2, z0', z1']
    refine WD_loopC [0, 4, 5] (fun m tm h' => ∃ pv q L, m = r3 - q ∧ tm 8 = pv ∧ tm 9 = .int .i64 ((r3 : Int) - ((q : Nat) : Int)) ∧ (q ≤ r3 ∧ L.length = q) ∧ (DrW hB o (k + 6 + 4 * q) h h') ∧ (IRowsA h2.next h' pv L) ∧ (upPairs n L) ∧ (h'.get h.next = .cells [.int .i64 0, .slice none 0 0] true true 1) ∧ (h2.next ≤ h'.next)) _ ⟨Value.slice none 0 0, 0, [], rfl, (by simp (disch := first | omega | (simp; done) | fail) [wrap64c, if_pos, if_neg, opAnd, opOr, opXor, opDiff, opShr, opBit, e1n, hu2, z0', z1']), (by simp), (by simp), d3, (.nil _ _), up0, gr3, (by first | omega | assumption | (simp (disch := first | omega | (simp; done) | fail) [wrap64c, if_pos, if_neg, opAnd, opOr, opXor, opDiff, opShr, opBit, e1n, hu2, z0', z1'] <;> omega))⟩ ?_
    rintro m tm h' hFr ⟨pv, q, L, rfl, e8, e9, hq, hd, hi, hp, hg, hnx⟩
    simp only [FrameL] at hFr
    obtain ⟨f0_0, f4_0, f5_0, -⟩ := hFr
    try simp (disch := first | omega | (simp; done) | fail) [wrap64c, if_pos, if_neg, opAnd, opOr, opXor, opDiff, opShr, opBit, e1n, hu2, z0', z1'] at f0_0 f4_0 f5_0
    have e0 := f0_0
    have e4 := f4_0
    have e5 := f5_0
    have ntv := hi.nt
    by_cases hlq : q < r3 ∧ 1 < n
    · have hlq1 : 0 < (r3 : Int) - ((q : Nat) : Int) := by omega
      have hlq2 : 1 < (n : Int) := by omega
      obtain ⟨v4, h4, p4, r4, q4, l4, w4⟩ := pick_ok hB.next o (k + 6 + 4 * q) h' ((n : Int) - 1) hd.cur (by omega)
      subst q4
      have hr4 := l4 (by omega)
      have d4 := hd.trans (w4.dr hd.add hd.cur)
      have n4 := w4.nx
      obtain ⟨v5, h5, p5, r5, q5, l5, w5⟩ := pick_ok hB.next o (k + 6 + 4 * q + 2) h4 ((n : Int) - 1 - r4) d4.cur (by omega)
      subst q5
      have hr5 := l5 (by omega)
      have d5 := d4.trans (w5.dr d4.add d4.cur)
      have n5 := w5.nx
      have hi5 : IRowsA h2.next h5 pv L := rows_cur hi (by omega) (fun p h1 h2 => by rw [w5.get p (by omega) (by omega), w4.get p (by omega) (by omega)])
      have hg5 : h5.get h.next = .cells [.int .i64 0, .slice none 0 0] true true 1 := by rw [w5.get _ (by omega) (by omega), w4.get _ (by omega) (by omega)]; exact hg
      obtain ⟨sq, hsq⟩ : ∃ s : Nat, s = r4 + 1 + r5 := ⟨_, rfl⟩
      have hsqe : (r4 : Int) + 1 + (r5 : Int) = (sq : Int) := by omega
      obtain ⟨v6, h6, hap, hi6, k6, n6, s6⟩ := appPair hi5 (r4 : Int) (sq : Int) (by omega) (by omega) d5.add (by have := hA.1.1; omega)
      try simp (disch := first | omega | (simp; done) | fail) [wrap64c, if_pos, if_neg, opAnd, opOr, opXor, opDiff, opShr, opBit, e1n, hu2, z0', z1', e0, e4, e5, e8, e9, ntv, hlq1, hlq2, hsqe]
      refine callG_c (by simp) (by simp) ?ha (p4) ?_
      (case ha => simp (disch := first | omega | (simp; done) | fail) [wrap64c, if_pos, if_neg, opAnd, opOr, opXor, opDiff, opShr, opBit, e1n, hu2, z0', z1', e0, e4, e5, e8, e9, ntv, hlq1, hlq2, hsqe])
      try simp (disch := first | omega | (simp; done) | fail) [wrap64c, if_pos, if_neg, opAnd, opOr, opXor, opDiff, opShr, opBit, e1n, hu2, z0', z1', e0, e4, e5, e8, e9, ntv, hlq1, hlq2, hsqe]
      refine callG_c (by simp) (by simp) ?ha (p5) ?_
      (case ha => simp (disch := first | omega | (simp; done) | fail) [wrap64c, if_pos, if_neg, opAnd, opOr, opXor, opDiff, opShr, opBit, e1n, hu2, z0', z1', e0, e4, e5, e8, e9, ntv, hlq1, hlq2, hsqe])
      try simp (disch := first | omega | (simp; done) | fail) [wrap64c, if_pos, if_neg, opAnd, opOr, opXor, opDiff, opShr, opBit, e1n, hu2, z0', z1', e0, e4, e5, e8, e9, ntv, hlq1, hlq2, hsqe, hap]
      refine loopK_next _ ?hm ?hf ⟨v6, q + 1, L ++ [[(r4 : Int), (sq : Int)]], rfl, (by simp (disch := first | omega | (simp; done) | fail) [wrap64c, if_pos, if_neg, opAnd, opOr, opXor, opDiff, opShr, opBit, e1n, hu2, z0', z1', e0, e4, e5, e8, e9, ntv, hlq1, hlq2, hsqe] <;> omega), (by simp; omega), (by simp; omega), ((d5.app hA hbo.2 k6 (by omega) (fun p h1 h2 => s6 p h1 (by omega))).mono (by omega)), hi6, ?c_hp, (by rw [s6 _ (by omega) (by omega)]; exact hg5), (by omega)⟩
      (case hm => first | omega | (simp; omega))
      (case hf => simp [FrameL, e1n, hu2, z0', z1', e0, e4, e5, e8, e9, ntv, hlq1, hlq2, hsqe, f0_0, f4_0, f5_0])
      case c_hp =>
        exact (fun x hx => by
          rcases List.mem_append.1 hx with hx | hx
          · exact hp x hx
          · simp at hx
            exact ⟨r4, sq, hx, by omega, by omega⟩)
    · have hok := ord_up hn1 hn7 (show L.length ≤ 40 by omega) hp
      have hgd := ord_good hn1 hn7 hp
      have eN : ordN n L = (n : Int) := by rw [ordN, if_pos hok]
      have eX : ordX n L = toN (ordL n L) := by rw [ordX, if_pos hok]; rfl
      obtain ⟨_, h4, p4, a4, u4, rfl, hu4⟩ := specOrder_ok h' pv L n ((hi.own (by omega)).rows)
      rw [eN, eX] at hu4
      rw [hok] at p4
      obtain ⟨b, rfl, hb4⟩ := hu4
      have d4 := hd.trans (DrW.of_adds hd.add hd.cur a4)
      have n4 := a4.1.1
      have ntb := hb4.nt
      have csb := hb4.cs
      have hne4 : ¬ h.next = h4.next := by omega
      have hg4 : h4.get h.next = .cells [.int .i64 0, .slice none 0 0] true true 1 := by rw [a4.1.2 _ (by omega)]; exact hg
      have hcnd : ¬ (0 < (r3 : Int) - ((q : Nat) : Int) ∧ 1 < (n : Int)) := by omega
      obtain ⟨hz, hzE⟩ : ∃ hz, hz = (h4.alloc (.cells [.int .i64 0, .slice none 0 0] true true 1)).put h4.next (.cells [.int .i64 (n : Int), b] true true 1) := ⟨_, rfl⟩
      have kz : Adds h4 hz := by rw [hzE]; exact (by first | exact aK | exact kK)
      have hI : IntsF (fun x => h.next < x) hz b (toN (ordL n L)) := ((hb4.read).sub fun x hx => by have := hx.1; omega).keep kz.1
      obtain ⟨f1, f2⟩ := fin_space hA hbo.2 (d4.trans (DrW.of_adds d4.add d4.cur kz)) hI (show k + 6 + 4 * q ≤ k + 200 by omega) [.int .i64 (n : Int), b] true 1
      have hOL : ordL n L ≠ [] := fun e => by have := hgd.zero; rw [e] at this; cases this
      by_cases hq3 : q < r3
      · have hq3' : 0 < (r3 : Int) - ((q : Nat) : Int) := by omega
        have hq4' : ¬ 1 < (n : Int) := by omega
        try simp (disch := first | omega | (simp; done) | fail) [wrap64c, if_pos, if_neg, opAnd, opOr, opXor, opDiff, opShr, opBit, e1n, hu2, z0', z1', e0, e4, e5, e8, e9, ntv, ntb, csb, hne4, hg4, hq3', hq4']
        refine callG_c (by simp) (by simp) ?ha (p4) ?_
        (case ha => simp (disch := first | omega | (simp; done) | fail) [wrap64c, if_pos, if_neg, opAnd, opOr, opXor, opDiff, opShr, opBit, e1n, hu2, z0', z1', e0, e4, e5, e8, e9, ntv, ntb, csb, hne4, hg4, hq3', hq4'])
        try simp (disch := first | omega | (simp; done) | fail) [wrap64c, if_pos, if_neg, opAnd, opOr, opXor, opDiff, opShr, opBit, e1n, hu2, z0', z1', e0, e4, e5, e8, e9, ntv, ntb, csb, hne4, hg4, hq3', hq4']
        rw [← hzE]
        exact done_ret (vs := [.agg #[.int .i64 (n : Int), b]]) (by simp [resL, e4]) ⟨f1, n, b, _, rfl, f2, hn1, by omega, ⟨hgd.srt, hgd.lt⟩, hOL⟩
      · have hq3' : ¬ 0 < (r3 : Int) - ((q : Nat) : Int) := by omega
        try simp (disch := first | omega | (simp; done) | fail) [wrap64c, if_pos, if_neg, opAnd, opOr, opXor, opDiff, opShr, opBit, e1n, hu2, z0', z1', e0, e4, e5, e8, e9, ntv, ntb, csb, hne4, hg4, hq3']
        refine callG_c (by simp) (by simp) ?ha (p4) ?_
        (case ha => simp (disch := first | omega | (simp; done) | fail) [wrap64c, if_pos, if_neg, opAnd, opOr, opXor, opDiff, opShr, opBit, e1n, hu2, z0', z1', e0, e4, e5, e8, e9, ntv, ntb, csb, hne4, hg4, hq3'])
        try simp (disch := first | omega | (simp; done) | fail) [wrap64c, if_pos, if_neg, opAnd, opOr, opXor, opDiff, opShr, opBit, e1n, hu2, z0', z1', e0, e4, e5, e8, e9, ntv, ntb, csb, hne4, hg4, hq3']
        rw [← hzE]
        exact done_ret (vs := [.agg #[.int .i64 (n : Int), b]]) (by simp [resL, e4]) ⟨f1, n, b, _, rfl, f2, hn1, by omega, ⟨hgd.srt, hgd.lt⟩, hOL⟩
  have z2' : ¬ (r2 : Int) = 2 := by omega
  try simp (disch := first | omega | (simp; done) | fail) [wrap64c, if_pos, if_neg, opAnd, opOr, opXor, opDiff, opShr, opBit, e1n, hu2, z0', z1', z2']
  first | refine WY_heap fun h3 q_h3 => ?_ | refine callG_heap fun h3 q_h3 => ?_ | refine callP_heap fun h3 q_h3 => ?_ | refine callS_heap fun h3 q_h3 => ?_ | refine RY_heap fun h3 q_h3 => ?_ | refine PY_heap fun h3 q_h3 => ?_ | refine SY_heap fun h3 q_h3 => ?_ | refine doneY_heap fun h3 q_h3 => ?_ | refine loopK_heap fun h3 q_h3 => ?_ | refine thenY_heap fun h3 q_h3 => ?_ | refine thenM_heap fun h3 q_h3 => ?_
  have k3 : Adds h2 h3 := by rw [q_h3]; exact (by first | exact aK | exact kK)
  have n3 : h3.next = h2.next + 1 := by simp [q_h3]
  have d3 := d2.trans (DrW.of_adds d2.add d2.cur k3)
  have i3 : IntsA h2.next h3 (.slice (some ⟨h2.next, 0, none⟩) 1 1) (toN [0]) := .inr ⟨h2.next, true, rfl, Nat.le_refl _, by omega, by simp [q_h3, toN]⟩
  obtain ⟨v4, h4, p4, r4, q4, l4, w4⟩ := pick_ok hB.next o (k + 2 + 2) h3 3 d3.cur (by omega)
  subst q4
  have hr4 := l4 (by omega)
  have d4 := d3.trans (w4.dr d3.add d3.cur)
  have n4 := w4.nx
  have i4 : IntsA h2.next h4 (.slice (some ⟨h2.next, 0, none⟩) 1 1) (toN [0]) := ints_cur i3 (by omega) (fun p h1 h2 => w4.get p h2 (by omega))
  have gr4 : h4.get h.next = .cells [.int .i64 0, .slice none 0 0] true true 1 := by rw [w4.get _ (by omega) (by omega), k3.1.2 _ (by omega)]; exact gr2
  have ini : ∀ a ∈ [0], a < bit n := fun a ha => by simp at ha; omega
  refine callG_c (by simp) (by simp) ?ha (p4) ?_
  (case ha => simp (disch := first | omega | (simp; done) | fail) [wrap64c, if_pos, if_neg, opAnd, opOr, opXor, opDiff, opShr, opBit, e1n, hu2, z0', z1', z2'])
  try simp (disch := first | omega | (simp; done) | fail) [wrap64c, if_pos, if_neg, opAnd, opOr, opXor, opDiff, opShr, opBit, e1n, hu2, z0', z1', z2']
  refine WD_loopC [0, 4, 5] (fun m tm h' => ∃ sv q S, m = 1 + r4 - q ∧ tm 13 = sv ∧ tm 14 = .int .i64 (1 + (r4 : Int) - ((q : Nat) : Int)) ∧ (q ≤ 1 + r4) ∧ (DrW hB o (k + 6 + 14 * q) h h') ∧ (IntsA h2.next h' sv (toN S)) ∧ (∀ a ∈ S, a < bit n) ∧ (S.length ≤ 1 + 128 * q) ∧ (h'.get h.next = .cells [.int .i64 0, .slice none 0 0] true true 1) ∧ (h2.next ≤ h'.next)) _ ⟨_, 0, [0], rfl, (by simp (disch := first | omega | (simp; done) | fail) [wrap64c, if_pos, if_neg, opAnd, opOr, opXor, opDiff, opShr, opBit, e1n, hu2, z0', z1', z2']), (by simp), (by first | omega | assumption | (simp (disch := first | omega | (simp; done) | fail) [wrap64c, if_pos, if_neg, opAnd, opOr, opXor, opDiff, opShr, opBit, e1n, hu2, z0', z1', z2'] <;> omega)), d4, i4, ini, (by simp), gr4, (by first | omega | assumption | (simp (disch := first | omega | (simp; done) | fail) [wrap64c, if_pos, if_neg, opAnd, opOr, opXor, opDiff, opShr, opBit, e1n, hu2, z0', z1', z2'] <;> omega))⟩ ?_
  rintro m tm h' hFr ⟨sv, q, S, rfl, e13, e14, hq, hd, hi, hS, hl, hg, hnx⟩
  simp only [FrameL] at hFr
  obtain ⟨f0_1, f4_1, f5_1, -⟩ := hFr
  try simp (disch := first | omega | (simp; done) | fail) [wrap64c, if_pos, if_neg, opAnd, opOr, opXor, opDiff, opShr, opBit, e1n, hu2, z0', z1', z2'] at f0_1 f4_1 f5_1
  have e0 := f0_1
  have e4 := f4_1
  have e5 := f5_1
  have hk4 : q ≤ 3 := by omega
  by_cases hlq : q < 1 + r4
  · have hlq1 : 0 < 1 + (r4 : Int) - ((q : Nat) : Int) := by omega
    obtain ⟨v5, h5, p5, d5, l5, i5, ll5, lx5, _⟩ := order_ok hB h' o (k + 6 + 14 * q) n hd.add hd.cur (by omega) (by omega)
    have n5 := d5.nx
    obtain ⟨v6, h6, p6, a6, L6, i6, hL6, _⟩ := spChain_ok h5 v5 l5 n ((i5.own (by simp; omega)).ints) lx5 hn7 (by omega)
    have n6 := a6.1.1
    have lL6 := hL6.len
    have dq := hd.trans d5
    have d6 := dq.trans (DrW.of_adds dq.add dq.cur a6)
    have hi6 : IntsA h2.next h6 sv (toN S) := ints_cur hi (by omega) (fun p h1 h2 => by rw [a6.1.2 p (by omega)]; exact d5.sm p h2 (by omega))
    have hg6 : h6.get h.next = .cells [.int .i64 0, .slice none 0 0] true true 1 := by rw [a6.1.2 _ (by omega), d5.sm _ (by omega) (by omega)]; exact hg
    obtain ⟨v7, h7, hap, i7, k7, n7, s7⟩ := append_ints (P := Tryz.prog) (t := 24) (t' := 24) hi6 ((i6.own (by simp; omega)).ints) ty_elT_24 ty_szT_3 ty_zeroT_3 ty_byT_3 (by decide) (by decide) (by simp) (by simp; omega) (by omega) d6.add (by have := hA.1.1; omega)
    rw [← toN_append] at i7
    try simp (disch := first | omega | (simp; done) | fail) [wrap64c, if_pos, if_neg, opAnd, opOr, opXor, opDiff, opShr, opBit, e1n, hu2, z0', z1', z2', e0, e4, e5, e13, e14, hlq1]
    refine callG_c (by simp) (by simp) ?ha (p5) ?_
    (case ha => simp (disch := first | omega | (simp; done) | fail) [wrap64c, if_pos, if_neg, opAnd, opOr, opXor, opDiff, opShr, opBit, e1n, hu2, z0', z1', z2', e0, e4, e5, e13, e14, hlq1])
    try simp (disch := first | omega | (simp; done) | fail) [wrap64c, if_pos, if_neg, opAnd, opOr, opXor, opDiff, opShr, opBit, e1n, hu2, z0', z1', z2', e0, e4, e5, e13, e14, hlq1]
    refine callG_c (by simp) (by simp) ?ha (p6) ?_
    (case ha => simp (disch := first | omega | (simp; done) | fail) [wrap64c, if_pos, if_neg, opAnd, opOr, opXor, opDiff, opShr, opBit, e1n, hu2, z0', z1', z2', e0, e4, e5, e13, e14, hlq1])
    try simp (disch := first | omega | (simp; done) | fail) [wrap64c, if_pos, if_neg, opAnd, opOr, opXor, opDiff, opShr, opBit, e1n, hu2, z0', z1', z2', e0, e4, e5, e13, e14, hlq1, hap]
    refine loopK_next _ ?hm ?hf ⟨v7, q + 1, S ++ L6, rfl, (by simp (disch := first | omega | (simp; done) | fail) [wrap64c, if_pos, if_neg, opAnd, opOr, opXor, opDiff, opShr, opBit, e1n, hu2, z0', z1', z2', e0, e4, e5, e13, e14, hlq1] <;> omega), (by simp; omega), (by first | omega | assumption | (simp (disch := first | omega | (simp; done) | fail) [wrap64c, if_pos, if_neg, opAnd, opOr, opXor, opDiff, opShr, opBit, e1n, hu2, z0', z1', z2', e0, e4, e5, e13, e14, hlq1] <;> omega)), ((d6.app hA hbo.2 k7 (by omega) (fun p h1 h2 => s7 p h1 (by omega))).mono (by omega)), i7, ?c_hS, (by simp; omega), (by rw [s7 _ (by omega) (by omega)]; exact hg6), (by omega)⟩
    (case hm => first | omega | (simp; omega))
    (case hf => simp [FrameL, e1n, hu2, z0', z1', z2', e0, e4, e5, e13, e14, hlq1, f0_1, f4_1, f5_1])
    case c_hS =>
      exact (fun a ha => by
        rcases List.mem_append.1 ha with ha | ha
        · exact hS a ha
        · exact hL6.2 a ha)
  · have hlq1 : ¬ 0 < 1 + (r4 : Int) - ((q : Nat) : Int) := by omega
    obtain ⟨b, h5, p5, a5, L, i5, hL, h0⟩ := spUnions_ok h' sv S n ((hi.own (by simp; omega)).ints) hS hn7 (by omega)
    have d5 := hd.trans (DrW.of_adds hd.add hd.cur a5)
    have n5 := a5.1.1
    have lL := hL.len
    have ntb := i5.nt
    have csb := (i5.own (by simp; omega)).ints.cs
    have hg5 : h5.get h.next = .cells [.int .i64 0, .slice none 0 0] true true 1 := by rw [a5.1.2 _ (by omega)]; exact hg
    have hI : IntsF (fun x => h.next < x) h5 b (toN L) := ((i5.own (by simp; omega)).read).sub fun x hx => by have := hx.1; omega
    obtain ⟨f1, f2⟩ := fin_space hA hbo.2 d5 hI (show k + 6 + 14 * q ≤ k + 200 by omega) [.int .i64 (n : Int), b] true 1
    try simp (disch := first | omega | (simp; done) | fail) [wrap64c, if_pos, if_neg, opAnd, opOr, opXor, opDiff, opShr, opBit, e1n, hu2, z0', z1', z2', e0, e4, e5, e13, e14, hlq1, ntb, csb, hg5]
    refine callG_c (by simp) (by simp) ?ha (p5) ?_
    (case ha => simp (disch := first | omega | (simp; done) | fail) [wrap64c, if_pos, if_neg, opAnd, opOr, opXor, opDiff, opShr, opBit, e1n, hu2, z0', z1', z2', e0, e4, e5, e13, e14, hlq1, ntb, csb, hg5])
    try simp (disch := first | omega | (simp; done) | fail) [wrap64c, if_pos, if_neg, opAnd, opOr, opXor, opDiff, opShr, opBit, e1n, hu2, z0', z1', z2', e0, e4, e5, e13, e14, hlq1, ntb, csb, hg5]
    exact done_ret (vs := [.agg #[.int .i64 (n : Int), b]]) (by simp [resL, e4]) ⟨f1, n, b, _, rfl, f2, hn1, by omega, hL, fun e => by rw [e] at h0; cases h0⟩
end Go.Proofs.YtnncipcldbopgaaGreat
namespace Go.Proofs.YtnncipcldbopgaaGreat
set_option linter.unusedSimpArgs false
set_option linter.unusedVariables false
set_option maxHeartbeats 4000000
open Go Go.Eng
attribute [local irreducible] WD RunD PreD Runs CallOK
theorem putI {ys : List Int} {j : Nat} (hj : j < ys.length) (x : Int) : putCells (ys.map (.int .i64)) j [.int .i64 x] = (ys.set j x).map (.int .i64) := by
  rw [putCells_one (by simpa using hj), List.map_set]
theorem fin_spaceI {hB h hh : Hp} {o K k' : Nat} {b : Value} {X : List Int} (hA : Adds hB h) (ho : o < h.next) (d : DrW hB o K h hh) (hi : IntsF (fun x => h.next < x) hh b X) (hK : K ≤ k') (cs : List Value) (e : Bool) (es : Nat) :
    DrW hB o k' h (hh.put h.next (.cells cs true e es)) ∧ IntsF (fun x => h.next < x) (hh.put h.next (.cells cs true e es)) b X :=
  ⟨(d.put hA ho (Nat.le_refl _) _ _ _).mono hK, hi.same (h := hh) (h' := hh.put h.next _) ⟨Nat.le_refl _, fun x hx _ => by simp [show x ≠ h.next by omega]⟩⟩
theorem subF {F : Nat → Prop} {h : Hp} {o : Nat} {xs : List Int} {own ex : Bool} {es : Nat} (hg : h.get o = .cells (xs.map (.int .i64)) own ex es) (ho : o < h.next) (hF : F o) {n c : Nat} (hi : n ≤ xs.length) (hc : n ≤ c) (hc2 : c < 2 ^ 63) : IntsF F h (.slice (some ⟨o, 0, none⟩) n c) (xs.take n) := by
  have hl : (xs.take n).length = n := by simp; omega
  refine ⟨some ⟨o, 0, none⟩, c, by rw [hl], by omega, hc2, fun k x hk => ?_⟩
  obtain ⟨q1, q2⟩ := List.getElem?_eq_some_iff.1 hk
  rw [hl] at q1
  subst q2
  refine ⟨o, 0, _, own, ex, es, rfl, hF, ho, hg, by simp; omega, ?_⟩
  have : k < xs.length := by omega
  simp [isInt, List.getD_eq_getElem?_getD, this]
theorem del_ok {h : Hp} {o r ln : Nat} {xs : List Int} {ex : Bool} (hg : h.get o = .cells (xs.map (.int .i64)) true ex 1) (ho : o < h.next) (hl : xs.length = ln) (hr : r < ln) (hs : ln ≤ 1000) :
    ∃ (h' : Hp) (zs : List Int), appendD Tryz.prog 24 24 (.slice (some ⟨o, 0, none⟩) r ln) (.slice (some ⟨o, r + 1, none⟩) (ln - (r + 1)) (ln - (r + 1))) h = some (.slice (some ⟨o, 0, none⟩) (ln - 1) ln, h') ∧ h'.next = h.next ∧ (∀ p, p ≠ o → h'.get p = h.get p) ∧ h'.get o = .cells (zs.map (.int .i64)) true ex 1 ∧ zs.length = ln ∧ (∀ a, Adds a h → a.next ≤ o → Adds a h') := by
  have hI := subI hg ho (i := r + 1) (n := ln - (r + 1)) (c := ln - (r + 1)) (by omega) (Nat.le_refl _) (by omega)
  have hsrc := hI.src
  have hlen : ((xs.drop (r + 1)).take (ln - (r + 1))).length = ln - (r + 1) := by simp; omega
  by_cases hz : ln - (r + 1) = 0
  · refine ⟨h, xs, ?_, rfl, fun _ _ => rfl, hg, hl, fun _ a _ => a⟩
    have hr1 : r = ln - 1 := by omega
    simp only [appendD, ty_elT_24, ty_szT_3, ty_zeroT_3, ty_byT_3, hsrc, hlen, hz]
    subst hr1
    simp [Value.cells, hg, hl, show ln - 1 + 1 = ln by omega]
  · refine ⟨h.put o (.cells (putCells (xs.map (.int .i64)) r (((xs.drop (r + 1)).take (ln - (r + 1))).map (.int .i64))) true ex 1), xs.take r ++ ((xs.drop (r + 1)).take (ln - (r + 1)) ++ xs.drop (r + (ln - (r + 1)))), ?_, rfl, fun p hp => by simp [hp], ?_, ?_, fun a ha hle => ha.put hle (fun _ => rfl)⟩
    · simp only [appendD, ty_elT_24, ty_szT_3, ty_zeroT_3, ty_byT_3, hsrc, hlen, hg]
      simp [Value.cells, hz, hl, show r + (ln - (r + 1)) ≤ ln by omega, show r + (ln - (r + 1)) = ln - 1 by omega]
    · simp [putCells, hlen, hl]
    · simp [hl]; omega
theorem space_ok (hB h : Hp) (o k : Nat) (most : Int) (hA : Adds hB h) (hc : CurS hB.next o k h) (hk : k + 3000 < 2 ^ 40) (hm : 1 ≤ most ∧ most ≤ 7) :
    ∃ v h', CallOK Tryz.prog 68 #[.pointer (some ⟨o, 0, none⟩), .int .i64 most] h v h' ∧ DrW hB o (k + 300) h h' ∧ ∃ N X, SpaceF (fun x => h.next < x) h' v N X ∧ X.length ≤ 128 := by
  have hbo := hc.bo
  refine callY_L (args := [.pointer (some ⟨o, 0, none⟩), .int .i64 most]) 59 _ [.cell 4 26] Tryz.func68 rfl rfl rfl ?_
  try simp (disch := first | omega | (simp; done) | fail) [wrap64c, if_pos, if_neg, opAnd, opOr, opXor, opDiff, opShr, opBit]
  first | refine WY_heap fun h0 q_h0 => ?_ | refine callG_heap fun h0 q_h0 => ?_ | refine callP_heap fun h0 q_h0 => ?_ | refine callS_heap fun h0 q_h0 => ?_ | refine RY_heap fun h0 q_h0 => ?_ | refine PY_heap fun h0 q_h0 => ?_ | refine SY_heap fun h0 q_h0 => ?_ | refine doneY_heap fun h0 q_h0 => ?_ | refine loopK_heap fun h0 q_h0 => ?_ | refine thenY_heap fun h0 q_h0 => ?_ | refine thenM_heap fun h0 q_h0 => ?_
  have k0 : Adds h h0 := by rw [q_h0]; exact (by first | exact aK | exact kK)
  have n0 : h0.next = h.next + 1 := by simp [q_h0]
  have d0 := DrW.of_adds hA hc k0
  have gr0 : h0.get h.next = .cells [.int .i64 0, .slice none 0 0] true true 1 := by simp [q_h0]
  obtain ⟨_, h1, p1, d1, n, b, L, rfl, i1, hn1, hnm, hL, hne⟩ := sureSpace_ok hB h0 o k most d0.add d0.cur (by omega) hm
  have hn7 : n ≤ 7 := by omega
  have hb7 := bit7 hn7
  have lL := hL.len
  have n1 := d1.nx
  have gr1 : h1.get h.next = .cells [.int .i64 0, .slice none 0 0] true true 1 := by rw [d1.sm _ (by omega) (by omega)]; exact gr0
  have d01 := d0.trans d1
  have ntb := i1.ints.nt
  have csb := i1.ints.cs
  have hu2 : ∀ a b c d : Value, putCells [a, b] 0 [c, d] = [c, d] := fun _ _ _ _ => rfl
  have hu1 : ∀ a b c : Value, putCells [a, b] 0 [c] = [c, b] := fun _ _ _ => rfl
  have hu1' : ∀ a b c : Value, putCells [a, b] 1 [c] = [a, c] := fun _ _ _ => rfl
  refine callG_c (by simp) (by simp) ?ha (p1) ?_
  (case ha => simp (disch := first | omega | (simp; done) | fail) [wrap64c, if_pos, if_neg, opAnd, opOr, opXor, opDiff, opShr, opBit, ntb, csb, hu2, hu1, hu1'])
  try simp (disch := first | omega | (simp; done) | fail) [wrap64c, if_pos, if_neg, opAnd, opOr, opXor, opDiff, opShr, opBit, ntb, csb, hu2, hu1, hu1']
  first | refine WY_heap fun h2 q_h2 => ?_ | refine callG_heap fun h2 q_h2 => ?_ | refine callP_heap fun h2 q_h2 => ?_ | refine callS_heap fun h2 q_h2 => ?_ | refine RY_heap fun h2 q_h2 => ?_ | refine PY_heap fun h2 q_h2 => ?_ | refine SY_heap fun h2 q_h2 => ?_ | refine doneY_heap fun h2 q_h2 => ?_ | refine loopK_heap fun h2 q_h2 => ?_ | refine thenY_heap fun h2 q_h2 => ?_ | refine thenM_heap fun h2 q_h2 => ?_
  have k2 : Adds h1 h2 := by rw [q_h2]; exact (by first | exact aK | exact kK)
  have n2 : h2.next = h1.next + 1 := by simp [q_h2]
  have d2 := d01.trans (DrW.of_adds d01.add d01.cur k2)
  have gs2 : h2.get h1.next = .cells [.int .i64 (n : Int), b] true true 1 := by simp [q_h2]
  have gr2 : h2.get h.next = .cells [.int .i64 0, .slice none 0 0] true true 1 := by rw [k2.1.2 _ (by omega)]; exact gr1
  obtain ⟨c, h3, p3, a3, _, i3⟩ := l1Own_ok h2 b (toN L) (i1.ints.keep k2.1) (by simp; omega)
  have n3 := a3.1.1
  have d3 := d2.trans (DrW.of_adds d2.add d2.cur a3)
  have gs3 : h3.get h1.next = .cells [.int .i64 (n : Int), b] true true 1 := by rw [a3.1.2 _ (by omega)]; exact gs2
  have gr3 : h3.get h.next = .cells [.int .i64 0, .slice none 0 0] true true 1 := by rw [a3.1.2 _ (by omega)]; exact gr2
  obtain ⟨ln, hln⟩ : ∃ l, l = L.length := ⟨_, rfl⟩
  have ln1 : 1 ≤ ln := by rw [hln]; exact List.length_pos_iff.2 hne
  have hlt : (toN L).length = ln := by rw [toN_length, hln]
  rcases i3 with ⟨y1, _⟩ | ⟨oq, eq_, y2, z1, z2, z3⟩
  · rw [y1] at hlt; simp at hlt; omega
  rw [hlt] at y2
  subst y2
  try simp (disch := first | omega | (simp; done) | fail) [wrap64c, if_pos, if_neg, opAnd, opOr, opXor, opDiff, opShr, opBit, ntb, csb, hu2, hu1, hu1', gs2, gs3]
  refine WD_drawC 5 rfl (by kernel_rfl) ?_
  try simp (disch := first | omega | (simp; done) | fail) [wrap64c, if_pos, if_neg, opAnd, opOr, opXor, opDiff, opShr, opBit, ntb, csb, hu2, hu1, hu1', gs2, gs3]
  refine callP_c (by simp) (by simp) ?ha (p3) ?hadd ?_
  (case ha => simp (disch := first | omega | (simp; done) | fail) [wrap64c, if_pos, if_neg, opAnd, opOr, opXor, opDiff, opShr, opBit, ntb, csb, hu2, hu1, hu1', gs2, gs3])
  (case hadd => first | assumption | exact adds_self _ | (simp; done))
  try simp (disch := first | omega | (simp; done) | fail) [wrap64c, if_pos, if_neg, opAnd, opOr, opXor, opDiff, opShr, opBit, ntb, csb, hu2, hu1, hu1', gs2, gs3]
  obtain ⟨h4, h4E⟩ : ∃ hz, hz = h3.put h1.next (.cells [.int .i64 (n : Int), .slice (some ⟨oq, 0, none⟩) ln ln] true true 1) := ⟨_, rfl⟩
  have d4 : DrW hB o (k + 200) h h4 := by rw [h4E]; exact d3.put hA hbo.2 (by omega) _ _ _
  have n4 : h4.next = h3.next := by rw [h4E]; rfl
  rw [← h4E]
  obtain ⟨v5, h5, p5, r5, q5, l5, w5⟩ := pick_ok hB.next o (k + 200) h4 20 d4.cur (by omega)
  subst q5
  have hr5 := l5 (by omega)
  have d5 := d4.trans (w5.dr d4.add d4.cur)
  have n5 := w5.nx
  have gs5 : h5.get h1.next = .cells [.int .i64 (n : Int), .slice (some ⟨oq, 0, none⟩) ln ln] true true 1 := by rw [w5.get _ (by omega) (by omega), h4E]; simp
  have z5 : h5.get oq = .cells ((toN L).map (.int .i64)) true eq_ 1 := by rw [w5.get _ (by omega) (by omega), h4E]; simp [show oq ≠ h1.next by omega, z3]
  have gr5 : h5.get h.next = .cells [.int .i64 0, .slice none 0 0] true true 1 := by rw [w5.get _ (by omega) (by omega), h4E]; simp [show h.next ≠ h1.next by omega, gr3]
  have hne1 : ¬ h.next = h1.next := by omega
  have hne2 : ¬ h1.next = oq := by omega
  have hne3 : ¬ h.next = oq := by omega
  refine callG_c (by simp) (by simp) ?ha (p5) ?_
  (case ha => simp (disch := first | omega | (simp; done) | fail) [wrap64c, if_pos, if_neg, opAnd, opOr, opXor, opDiff, opShr, opBit, ntb, csb, hu2, hu1, hu1', gs2, gs3, gs5, hne1, hne2, hne3])
  by_cases c0 : r5 = 0
  · subst c0
    obtain ⟨hl6, hl6E⟩ : ∃ hz, hz = h5.alloc (.cells [.int .i64 0, .int .i64 (-1), .int .i64 ((n : Int) + 1), .int .i64 8, .int .i64 4611686018427387904] true true 1) := ⟨_, rfl⟩
    have k6 : Adds h5 hl6 := by rw [hl6E]; exact (by first | exact aK | exact kK)
    have n6 : hl6.next = h5.next + 1 := by rw [hl6E]; rfl
    have d6 := d5.trans (DrW.of_adds d5.add d5.cur k6)
    have i6 : IntsF (fun x => x ≠ o) hl6 (.slice (some ⟨h5.next, 0, none⟩) 5 5) [0, -1, (n : Int) + 1, 8, 4611686018427387904] := lit_ints (xs := [0, -1, (n : Int) + 1, 8, 4611686018427387904]) (own := true) (ex := true) (es := 1) (by simp [hl6E]) (by omega) (by omega) (by simp)
    obtain ⟨v7, h7, p7, r7, q7, e7_, w7⟩ := among_ok hB.next o (k + 200 + 2) hl6 _ _ d6.cur (by omega) i6 (by simp)
    subst e7_
    generalize hx7 : [0, -1, (n : Int) + 1, 8, 4611686018427387904][r7] = x7 at p7
    have d7 := d6.trans (w7.dr d6.add d6.cur)
    have n7 := w7.nx
    have gs7 : h7.get h1.next = .cells [.int .i64 (n : Int), .slice (some ⟨oq, 0, none⟩) ln ln] true true 1 := by rw [w7.get _ (by omega) (by omega), k6.1.2 _ (by omega)]; exact gs5
    have gr7 : h7.get h.next = .cells [.int .i64 0, .slice none 0 0] true true 1 := by rw [w7.get _ (by omega) (by omega), k6.1.2 _ (by omega)]; exact gr5
    have z7 : h7.get oq = .cells ((toN L).map (.int .i64)) true eq_ 1 := by rw [w7.get _ (by omega) (by omega), k6.1.2 _ (by omega)]; exact z5
    try simp (disch := first | omega | (simp; done) | fail) [wrap64c, if_pos, if_neg, opAnd, opOr, opXor, opDiff, opShr, opBit, ntb, csb, hu2, hu1, hu1', gs2, gs3, gs5, hne1, hne2, hne3, gs7, gr7]
    rw [← hl6E]
    refine callG_c (by simp) (by simp) ?ha (p7) ?_
    (case ha => simp (disch := first | omega | (simp; done) | fail) [wrap64c, if_pos, if_neg, opAnd, opOr, opXor, opDiff, opShr, opBit, ntb, csb, hu2, hu1, hu1', gs2, gs3, gs5, hne1, hne2, hne3, gs7, gr7])
    try simp (disch := first | omega | (simp; done) | fail) [wrap64c, if_pos, if_neg, opAnd, opOr, opXor, opDiff, opShr, opBit, ntb, csb, hu2, hu1, hu1', gs2, gs3, gs5, hne1, hne2, hne3, gs7, gr7]
    have d8 := d7.put hA hbo.2 (show h.next ≤ h1.next by omega) [.int .i64 x7, .slice (some ⟨oq, 0, none⟩) ln ln] true 1
    have hI := subF (F := fun x => h.next < x) (h := h7.put h1.next (.cells [.int .i64 x7, .slice (some ⟨oq, 0, none⟩) ln ln] true true 1)) (o := oq) (xs := toN L) (own := true) (ex := eq_) (es := 1) (by simp [show oq ≠ h1.next by omega, z7]) (by simp; omega) (by omega) (n := ln) (c := ln) (by omega) (Nat.le_refl _) (by omega)
    obtain ⟨f1, f2⟩ := fin_spaceI hA hbo.2 d8 hI (show k + 200 + 2 + 2 ≤ k + 300 by omega) [.int .i64 x7, .slice (some ⟨oq, 0, none⟩) ln ln] true 1
    exact done_ret (vs := [.agg #[.int .i64 x7, .slice (some ⟨oq, 0, none⟩) ln ln]]) (by simp [resL]) ⟨f1, _, _, ⟨_, rfl, f2⟩, by simp; omega⟩
  have c0' : ¬ (r5 : Int) = 0 := by omega
  by_cases c1 : r5 = 1
  · subst c1
    obtain ⟨v6, h6, p6, r6, q6, l6, w6⟩ := pick_ok hB.next o (k + 200 + 2) h5 (ln : Int) d5.cur (by omega)
    subst q6
    have hr6 := l6 (by omega)
    have hr6' : r6 + 1 ≤ ln := by omega
    have d6 := d5.trans (w6.dr d5.add d5.cur)
    have n6 := w6.nx
    have gs6 : h6.get h1.next = .cells [.int .i64 (n : Int), .slice (some ⟨oq, 0, none⟩) ln ln] true true 1 := by rw [w6.get _ (by omega) (by omega)]; exact gs5
    have gr6 : h6.get h.next = .cells [.int .i64 0, .slice none 0 0] true true 1 := by rw [w6.get _ (by omega) (by omega)]; exact gr5
    have z6 : h6.get oq = .cells ((toN L).map (.int .i64)) true eq_ 1 := by rw [w6.get _ (by omega) (by omega)]; exact z5
    obtain ⟨h7, zs, hap, n7, s7, z7, lz7, ad7⟩ := del_ok z6 (by omega) hlt (show r6 < ln by omega) (by omega)
    have d7 : DrW hB o (k + 200 + 2 + 2) h h7 := ⟨ad7 _ d6.add (by have := hA.1.1; omega), by have := d6.nx; omega, fun p hp hne => by rw [s7 p (by omega)]; exact d6.sm p hp hne, d6.cur.same ⟨by omega, fun p hp hl => s7 p (by rcases hp with hp | hp <;> omega)⟩⟩
    have gs7 : h7.get h1.next = .cells [.int .i64 (n : Int), .slice (some ⟨oq, 0, none⟩) ln ln] true true 1 := by rw [s7 _ (by omega)]; exact gs6
    have gr7 : h7.get h.next = .cells [.int .i64 0, .slice none 0 0] true true 1 := by rw [s7 _ (by omega)]; exact gr6
    try simp (disch := first | omega | (simp; done) | fail) [wrap64c, if_pos, if_neg, opAnd, opOr, opXor, opDiff, opShr, opBit, ntb, csb, hu2, hu1, hu1', gs2, gs3, gs5, hne1, hne2, hne3, c0', hr6', gs6, gs7, gr7]
    refine callG_c (by simp) (by simp) ?ha (p6) ?_
    (case ha => simp (disch := first | omega | (simp; done) | fail) [wrap64c, if_pos, if_neg, opAnd, opOr, opXor, opDiff, opShr, opBit, ntb, csb, hu2, hu1, hu1', gs2, gs3, gs5, hne1, hne2, hne3, c0', hr6', gs6, gs7, gr7])
    try simp (disch := first | omega | (simp; done) | fail) [wrap64c, if_pos, if_neg, opAnd, opOr, opXor, opDiff, opShr, opBit, ntb, csb, hu2, hu1, hu1', gs2, gs3, gs5, hne1, hne2, hne3, c0', hr6', gs6, gs7, gr7]
    refine WD_drawC 9 rfl (by kernel_rfl) ?_
    try simp (disch := first | omega | (simp; done) | fail) [wrap64c, if_pos, if_neg, opAnd, opOr, opXor, opDiff, opShr, opBit, ntb, csb, hu2, hu1, hu1', gs2, gs3, gs5, hne1, hne2, hne3, c0', hr6', gs6, gs7, gr7, hap]
    have d8 := d7.put hA hbo.2 (show h.next ≤ h1.next by omega) [.int .i64 (n : Int), .slice (some ⟨oq, 0, none⟩) (ln - 1) ln] true 1
    have hI := subF (F := fun x => h.next < x) (h := h7.put h1.next (.cells [.int .i64 (n : Int), .slice (some ⟨oq, 0, none⟩) (ln - 1) ln] true true 1)) (o := oq) (xs := zs) (own := true) (ex := eq_) (es := 1) (by simp [show oq ≠ h1.next by omega, z7]) (by simp; omega) (by omega) (n := ln - 1) (c := ln) (by omega) (by omega) (by omega)
    obtain ⟨f1, f2⟩ := fin_spaceI hA hbo.2 d8 hI (show k + 200 + 2 + 2 ≤ k + 300 by omega) [.int .i64 (n : Int), .slice (some ⟨oq, 0, none⟩) (ln - 1) ln] true 1
    exact done_ret (vs := [.agg #[.int .i64 (n : Int), .slice (some ⟨oq, 0, none⟩) (ln - 1) ln]]) (by simp [resL]) ⟨f1, _, _, ⟨_, rfl, f2⟩, by simp; omega⟩
  have c1' : ¬ (r5 : Int) = 1 := by omega
  by_cases c2 : r5 = 2
  · subst c2
    obtain ⟨hl6, hl6E⟩ : ∃ hz, hz = h5.alloc (.cells [.int .i64 (-1), .int .i64 0, .int .i64 3, .int .i64 128, .int .i64 4611686018427387904] true true 1) := ⟨_, rfl⟩
    have k6 : Adds h5 hl6 := by rw [hl6E]; exact (by first | exact aK | exact kK)
    have n6 : hl6.next = h5.next + 1 := by rw [hl6E]; rfl
    have d6 := d5.trans (DrW.of_adds d5.add d5.cur k6)
    obtain ⟨v7, h7, p7, r7, q7, l7, w7⟩ := pick_ok hB.next o (k + 200 + 2) hl6 (ln : Int) d6.cur (by omega)
    subst q7
    have hr7 := l7 (by omega)
    have d7 := d6.trans (w7.dr d6.add d6.cur)
    have n7 := w7.nx
    have g6 : hl6.get h5.next = .cells [.int .i64 (-1), .int .i64 0, .int .i64 3, .int .i64 128, .int .i64 4611686018427387904] true true 1 := by rw [hl6E]; simp
    have g7 : h7.get h5.next = .cells [.int .i64 (-1), .int .i64 0, .int .i64 3, .int .i64 128, .int .i64 4611686018427387904] true true 1 := by rw [w7.get _ (by omega) (by omega)]; exact g6
    have i7 : IntsF (fun x => x ≠ o) h7 (.slice (some ⟨h5.next, 0, none⟩) 5 5) [-1, 0, 3, 128, 4611686018427387904] := lit_ints (xs := [-1, 0, 3, 128, 4611686018427387904]) (own := true) (ex := true) (es := 1) (by simpa using g7) (by omega) (by omega) (by simp)
    obtain ⟨v8, h8, p8, r8, q8, e8_, w8⟩ := among_ok hB.next o (k + 200 + 2 + 2) h7 _ _ d7.cur (by omega) i7 (by simp)
    subst e8_
    generalize hx8 : [-1, 0, 3, 128, 4611686018427387904][r8] = x8 at p8
    have d8 := d7.trans (w8.dr d7.add d7.cur)
    have n8 := w8.nx
    have gs6 : hl6.get h1.next = .cells [.int .i64 (n : Int), .slice (some ⟨oq, 0, none⟩) ln ln] true true 1 := by rw [k6.1.2 _ (by omega)]; exact gs5
    have gs8 : h8.get h1.next = .cells [.int .i64 (n : Int), .slice (some ⟨oq, 0, none⟩) ln ln] true true 1 := by rw [w8.get _ (by omega) (by omega), w7.get _ (by omega) (by omega)]; exact gs6
    have gr8 : h8.get h.next = .cells [.int .i64 0, .slice none 0 0] true true 1 := by rw [w8.get _ (by omega) (by omega), w7.get _ (by omega) (by omega), k6.1.2 _ (by omega)]; exact gr5
    have z8 : h8.get oq = .cells ((toN L).map (.int .i64)) true eq_ 1 := by rw [w8.get _ (by omega) (by omega), w7.get _ (by omega) (by omega), k6.1.2 _ (by omega)]; exact z5
    have hr7' : r7 < ln := by omega
    have hr7L : r7 < L.length := by omega
    have kf1 : KeepF (fun b => b = h1.next ∨ litF [55] h5.next b) hl6 h7 := fun b hb => by
      rcases hb with rfl | rfl | hb
      · exact w7.get _ (by omega) (by omega)
      · exact w7.get _ (by omega) (by omega)
      · exact hb.elim
    have kf2 : KeepF (fun b => b = h1.next ∨ litF [55] h5.next b) h7 h8 := fun b hb => by
      rcases hb with rfl | rfl | hb
      · exact w8.get _ (by omega) (by omega)
      · exact w8.get _ (by omega) (by omega)
      · exact hb.elim
    have lnL : L.length = ln := hln.symm
    try simp (disch := first | omega | (simp; done) | fail) [wrap64c, if_pos, if_neg, opAnd, opOr, opXor, opDiff, opShr, opBit, ntb, csb, hu2, hu1, hu1', gs2, gs3, gs5, hne1, hne2, hne3, c0', c1', hr7']
    refine WD_softC [48,51] [55] [([.int .i64 (-1), .int .i64 0, .int .i64 3, .int .i64 128, .int .i64 4611686018427387904], 1)] (fun b => b = h1.next) rfl (by kernel_rfl) (by kernel_rfl) rfl ?_
    simp only [allocL_c, allocL_n]
    rw [← hl6E]
    have gs6' := gs6
    try simp (disch := first | omega | (simp; done) | fail) [wrap64c, if_pos, if_neg, opAnd, opOr, opXor, opDiff, opShr, opBit, ntb, csb, hu2, hu1, hu1', gs2, gs3, gs5, hne1, hne2, hne3, c0', c1', hr7', gs6', g6, n6, g7]
    refine callS_c (by simp) (by simp) ?ha (p7) ?hkf ?_
    (case ha => simp (disch := first | omega | (simp; done) | fail) [wrap64c, if_pos, if_neg, opAnd, opOr, opXor, opDiff, opShr, opBit, ntb, csb, hu2, hu1, hu1', gs2, gs3, gs5, hne1, hne2, hne3, c0', c1', hr7', gs6', g6, n6, g7])
    (case hkf => assumption)
    try simp (disch := first | omega | (simp; done) | fail) [wrap64c, if_pos, if_neg, opAnd, opOr, opXor, opDiff, opShr, opBit, ntb, csb, hu2, hu1, hu1', gs2, gs3, gs5, hne1, hne2, hne3, c0', c1', hr7', gs6', g6, n6, g7]
    refine callS_c (by simp) (by simp) ?ha (p8) ?hkf ?_
    (case ha => simp (disch := first | omega | (simp; done) | fail) [wrap64c, if_pos, if_neg, opAnd, opOr, opXor, opDiff, opShr, opBit, ntb, csb, hu2, hu1, hu1', gs2, gs3, gs5, hne1, hne2, hne3, c0', c1', hr7', gs6', g6, n6, g7])
    (case hkf => assumption)
    have gs8' := gs8
    have lnL' := lnL
    try simp (disch := first | omega | (simp; done) | fail) [wrap64c, if_pos, if_neg, opAnd, opOr, opXor, opDiff, opShr, opBit, ntb, csb, hu2, hu1, hu1', gs2, gs3, gs5, hne1, hne2, hne3, c0', c1', hr7', gs6', g6, n6, g7, gs8', gr8, z8, lnL']
    obtain ⟨h9, h9E⟩ : ∃ hz, hz = h8.put oq (.cells (putCells ((toN L).map (.int .i64)) r7 [.int .i64 x8]) true eq_ 1) := ⟨_, rfl⟩
    have d9 : DrW hB o (k + 200 + 2 + 2 + 2) h h9 := by rw [h9E]; exact d8.put hA hbo.2 (by omega) _ _ _
    rw [← h9E]
    have hI := subF (F := fun x => h.next < x) (h := h9) (o := oq) (xs := (toN L).set r7 x8) (own := true) (ex := eq_) (es := 1) (by rw [h9E, putI (by omega)]; simp) (by rw [h9E]; simp; omega) (by omega) (n := ln) (c := ln) (by simp; omega) (Nat.le_refl _) (by omega)
    obtain ⟨f1, f2⟩ := fin_spaceI hA hbo.2 d9 hI (show k + 200 + 2 + 2 + 2 ≤ k + 300 by omega) [.int .i64 (n : Int), .slice (some ⟨oq, 0, none⟩) ln ln] true 1
    exact done_ret (vs := [.agg #[.int .i64 (n : Int), .slice (some ⟨oq, 0, none⟩) ln ln]]) (by simp [resL]) ⟨f1, _, _, ⟨_, rfl, f2⟩, by simp; omega⟩
  have c2' : ¬ (r5 : Int) = 2 := by omega
  have gr5' := gr5
  try simp (disch := first | omega | (simp; done) | fail) [wrap64c, if_pos, if_neg, opAnd, opOr, opXor, opDiff, opShr, opBit, ntb, csb, hu2, hu1, hu1', gs2, gs3, gs5, hne1, hne2, hne3, c0', c1', c2', gr5']
  have hI := subF (F := fun x => h.next < x) (h := h5) (o := oq) (xs := toN L) (own := true) (ex := eq_) (es := 1) z5 (by omega) (by omega) (n := ln) (c := ln) (by omega) (Nat.le_refl _) (by omega)
  obtain ⟨f1, f2⟩ := fin_spaceI hA hbo.2 d5 hI (show k + 200 + 2 ≤ k + 300 by omega) [.int .i64 (n : Int), .slice (some ⟨oq, 0, none⟩) ln ln] true 1
  exact done_ret (vs := [.agg #[.int .i64 (n : Int), .slice (some ⟨oq, 0, none⟩) ln ln]]) (by simp [resL]) ⟨f1, _, _, ⟨_, rfl, f2⟩, by simp; omega⟩
end Go.Proofs.YtnncipcldbopgaaGreat
namespace Go.Proofs.YtnncipcldbopgaaGreat
set_option linter.unusedSimpArgs false
set_option linter.unusedVariables false
set_option maxHeartbeats 4000000
open Go Go.Eng
attribute [local irreducible] WD RunD PreD Runs CallOK
end Go.Proofs.YtnncipcldbopgaaGreat
namespace Go.Proofs.YtnncipcldbopgaaGreat
set_option linter.unusedSimpArgs false
set_option linter.unusedVariables false
set_option maxHeartbeats 4000000
open Go Go.Eng
attribute [local irreducible] WD RunD PreD Runs CallOK
theorem bytes_old {h : Hp} {v : Value} {xs : List Int} (hs : Bytes h v xs) : BytesF h.next h v xs := by
  obtain ⟨s, c, e, hc, hc', hx⟩ := hs
  exact ⟨s, c, e, hc, hc', fun k x hk => let ⟨o, i, cs, own, ex, es, h1, h2, h3, h4, h5⟩ := hx k x hk; ⟨o, i, cs, own, ex, es, h1, h2, h2, h3, h4, h5⟩⟩
theorem big_ok (h : Hp) (v w : Value) (xs ys : List Int) (hv : Bytes h v xs) (hw : Bytes h w ys) : CallOK Tryz.prog 6 #[v, w] h (.bool (decide (1048576 < xs.length ∨ 1048576 - (xs.length : Int) < ys.length))) h := by
  refine callY_P 16 _ [.tmp 4] Tryz.func6 rfl rfl rfl (by first | rfl | simp) ?_
  have hL := hv.lenD
  have hM := hw.lenD
  have l1 := hv.len
  have l2 := hw.len
  by_cases c1 : 1048576 < xs.length
  · have c1' : (1048576 : Int) < (xs.length : Int) := by omega
    try simp (disch := first | omega | (simp; done) | fail) [wrap64c, if_pos, if_neg, hL, hM, c1']
    exact done_ret rfl (by simp [c1])
  · have c1' : ¬ (1048576 : Int) < (xs.length : Int) := by omega
    by_cases c2 : 1048576 - (xs.length : Int) < ys.length
    · try simp (disch := first | omega | (simp; done) | fail) [wrap64c, if_pos, if_neg, hL, hM, c1', c2]
      exact done_ret rfl (by simp [c2])
    · try simp (disch := first | omega | (simp; done) | fail) [wrap64c, if_pos, if_neg, hL, hM, c1', c2]
      exact done_ret rfl (by simp [c1, c2])
theorem iSame_ok (h : Hp) (v w : Value) (X Y : List Int) (hv : Ints h v X) (hw : Ints h w Y) : CallOK Tryz.prog 16 #[v, w] h (.bool (decide (X = Y))) h := by
  refine callY_P 26 _ [.tmp 4] Tryz.func16 rfl rfl rfl (by first | rfl | simp) ?_
  have hL := hv.lenD
  have hM := hw.lenD
  have hlx := hv.len
  have hly := hw.len
  by_cases hl : X.length = Y.length
  · have hlb : ((X.length : Int) != (Y.length : Int)) = false := by simp [hl]
    try simp (disch := first | omega | (simp; done) | fail) [wrap64c, if_pos, if_neg, hL, hM, hlb]
    refine WD_loopC [0, 1, 12] (fun m tm h' => ∃ j, m = X.length - j ∧ h = h' ∧ tm 13 = .int .i64 (j : Int) ∧ (j ≤ X.length) ∧ (∀ i (h1 : i < X.length) (h2 : i < Y.length), i < j → X[i] = Y[i])) _ ⟨0, rfl, rfl, (by simp (disch := first | omega | (simp; done) | fail) [wrap64c, if_pos, if_neg, hL, hM, hlb]), (by first | omega | assumption | (simp (disch := first | omega | (simp; done) | fail) [wrap64c, if_pos, if_neg, hL, hM, hlb] <;> omega)), (by intro i h1 h2 h3; omega)⟩ ?_
    rintro m tm h' hFr ⟨j, rfl, rfl, e13, hj, hx⟩
    simp only [FrameL] at hFr
    obtain ⟨f0_0, f1_0, f12_0, -⟩ := hFr
    try simp (disch := first | omega | (simp; done) | fail) [wrap64c, if_pos, if_neg, hL, hM, hlb] at f0_0 f1_0 f12_0
    have e0 := f0_0
    have e1 := f1_0
    have e12 := f12_0
    by_cases hlt : j < X.length
    · have hlt2 : j < Y.length := by omega
      obtain ⟨o_x, i_x, c_x, cs_x, own_x, ex_x, es_x, q_x, b_x, g_x, l_x, r_x⟩ := hv.open ((by omega))
      have z_x : ∀ h2 : i_x < cs_x.length, cs_x[i_x] = _ := fun h2 => r_x 0 ((by omega)) h2
      obtain ⟨o_y, i_y, c_y, cs_y, own_y, ex_y, es_y, q_y, b_y, g_y, l_y, r_y⟩ := hw.open ((by omega))
      have z_y : ∀ h2 : i_y < cs_y.length, cs_y[i_y] = _ := fun h2 => r_y 0 ((by omega)) h2
      try simp (disch := first | omega | (simp; done) | fail) [wrap64c, if_pos, if_neg, hL, hM, hlb, e0, e1, e12, e13, hlt, hlt2, q_x, g_x, l_x, r_x, z_x, q_y, g_y, l_y, r_y, z_y]
      refine WD_drawC 8 rfl (by kernel_rfl) ?_
      by_cases he : X[j] = Y[j]
      · have hb : (X[j] != Y[j]) = false := by simp [he]
        try simp (disch := first | omega | (simp; done) | fail) [wrap64c, if_pos, if_neg, hL, hM, hlb, e0, e1, e12, e13, hlt, hlt2, q_x, g_x, l_x, r_x, z_x, q_y, g_y, l_y, r_y, z_y, hb]
        refine loopK_next _ ?hm ?hf ⟨j + 1, rfl, rfl, (by simp (disch := first | omega | (simp; done) | fail) [wrap64c, if_pos, if_neg, hL, hM, hlb, e0, e1, e12, e13, hlt, hlt2, q_x, g_x, l_x, r_x, z_x, q_y, g_y, l_y, r_y, z_y] <;> omega), (by first | omega | assumption | (simp (disch := first | omega | (simp; done) | fail) [wrap64c, if_pos, if_neg, hL, hM, hlb, e0, e1, e12, e13, hlt, hlt2, q_x, g_x, l_x, r_x, z_x, q_y, g_y, l_y, r_y, z_y] <;> omega)), ?c_hx⟩
        (case hm => first | omega | (simp; omega))
        (case hf => simp [FrameL, hL, hM, hlb, e0, e1, e12, e13, hlt, hlt2, q_x, g_x, l_x, r_x, z_x, q_y, g_y, l_y, r_y, z_y, f0_0, f1_0, f12_0])
        case c_hx =>
          exact (fun i h1 h2 hi => by
            by_cases e : i = j
            · subst e; exact he
            · exact hx i h1 h2 (by omega))
      · have hb : (X[j] != Y[j]) = true := by simp [he]
        have hne : ¬ X = Y := fun e => he (by subst e; rfl)
        try simp (disch := first | omega | (simp; done) | fail) [wrap64c, if_pos, if_neg, hL, hM, hlb, e0, e1, e12, e13, hlt, hlt2, q_x, g_x, l_x, r_x, z_x, q_y, g_y, l_y, r_y, z_y, hb]
        exact done_ret rfl (by simp [hne])
    · try simp (disch := first | omega | (simp; done) | fail) [wrap64c, if_pos, if_neg, hL, hM, hlb, e0, e1, e12, e13, hlt]
      have e : X = Y := List.ext_getElem hl fun i h1 h2 => hx i h1 h2 (by omega)
      exact done_ret rfl (by simp [e])
  · have hlb : ((X.length : Int) != (Y.length : Int)) = true := by simp; omega
    have hne : ¬ X = Y := fun e => hl (by rw [e])
    try simp (disch := first | omega | (simp; done) | fail) [wrap64c, if_pos, if_neg, hL, hM, hlb]
    exact done_ret rfl (by simp [hne])
theorem sum_takeH {A : List Int} {b : Int} (hb : 0 ≤ b) (hA : ∀ x ∈ A, 0 ≤ x ∧ x ≤ b) : ∀ k, k ≤ A.length → 0 ≤ (A.take k).sum ∧ (A.take k).sum ≤ b * (k : Int)
  | 0, _ => by simp
  | k + 1, hk => by
    have h1 := sum_takeH hb hA k (by omega)
    have h2 := hA _ (List.getElem_mem (show k < A.length by omega))
    rw [List.take_succ_eq_append_getElem (show k < A.length by omega), List.sum_append]
    simp only [List.sum_cons, List.sum_nil]
    have : b * ((k + 1 : Nat) : Int) = b * (k : Int) + b := by rw [Int.natCast_add, Int.mul_add]; simp
    omega
theorem sum_stepH {A : List Int} {j : Nat} (hj : j < A.length) : (A.take (j + 1)).sum = (A.take j).sum + A[j] := by
  rw [List.take_succ_eq_append_getElem hj, List.sum_append]; simp
theorem iSum_ok (h : Hp) (v : Value) (X : List Int) (hv : Ints h v X) (hl : X.length ≤ 100000) (hb : ∀ x ∈ X, 0 ≤ x ∧ x ≤ 100000) : CallOK Tryz.prog 17 #[v] h (.int .i64 X.sum) h := by
  refine callY_P 17 _ [.tmp 2] Tryz.func17 rfl rfl rfl (by first | rfl | simp) ?_
  have hL := hv.lenD
  try simp (disch := first | omega | (simp; done) | fail) [wrap64c, if_pos, if_neg, hL]
  refine WD_loopC [6, 7] (fun m tm h' => ∃ j, m = X.length - j ∧ h = h' ∧ tm 3 = .int .i64 (X.take j).sum ∧ tm 8 = .int .i64 (j : Int) ∧ (j ≤ X.length)) _ ⟨0, rfl, rfl, (by simp (disch := first | omega | (simp; done) | fail) [wrap64c, if_pos, if_neg, hL]), (by simp (disch := first | omega | (simp; done) | fail) [wrap64c, if_pos, if_neg, hL]), (by first | omega | assumption | (simp (disch := first | omega | (simp; done) | fail) [wrap64c, if_pos, if_neg, hL] <;> omega))⟩ ?_
  rintro m tm h' hFr ⟨j, rfl, rfl, e3, e8, hj⟩
  simp only [FrameL] at hFr
  obtain ⟨f6_0, f7_0, -⟩ := hFr
  try simp (disch := first | omega | (simp; done) | fail) [wrap64c, if_pos, if_neg, hL] at f6_0 f7_0
  have e6 := f6_0
  have e7 := f7_0
  by_cases hlt : j < X.length
  · obtain ⟨o_x, i_x, c_x, cs_x, own_x, ex_x, es_x, q_x, b_x, g_x, l_x, r_x⟩ := hv.open ((by omega))
    have z_x : ∀ h2 : i_x < cs_x.length, cs_x[i_x] = _ := fun h2 => r_x 0 ((by omega)) h2
    have b1 := sum_takeH (b := 100000) (by omega) hb j (by omega)
    have b2 := hb _ (List.getElem_mem hlt)
    try simp (disch := first | omega | (simp; done) | fail) [wrap64c, if_pos, if_neg, hL, e3, e6, e7, e8, hlt, q_x, g_x, l_x, r_x, z_x]
    refine loopK_next _ ?hm ?hf ⟨j + 1, rfl, rfl, (by simp [sum_stepH hlt]), (by simp (disch := first | omega | (simp; done) | fail) [wrap64c, if_pos, if_neg, hL, e3, e6, e7, e8, hlt, q_x, g_x, l_x, r_x, z_x] <;> omega), (by first | omega | assumption | (simp (disch := first | omega | (simp; done) | fail) [wrap64c, if_pos, if_neg, hL, e3, e6, e7, e8, hlt, q_x, g_x, l_x, r_x, z_x] <;> omega))⟩
    (case hm => first | omega | (simp; omega))
    (case hf => simp [FrameL, hL, e3, e6, e7, e8, hlt, q_x, g_x, l_x, r_x, z_x, f6_0, f7_0])
  · try simp (disch := first | omega | (simp; done) | fail) [wrap64c, if_pos, if_neg, hL, e3, e6, e7, e8, hlt]
    have hj' : j = X.length := by omega
    subst hj'
    exact done_ret rfl (by simp [e3])
end Go.Proofs.YtnncipcldbopgaaGreat
namespace Go.Proofs.YtnncipcldbopgaaGreat
set_option linter.unusedSimpArgs false
set_option linter.unusedVariables false
set_option maxHeartbeats 4000000
open Go Go.Eng
attribute [local irreducible] WD RunD PreD Runs CallOK
def greatF (y : Nat) : List Nat → Nat → Nat
  | [], o => o
  | x :: l, o => greatF y l (if ndiff x y = 0 then nOr o x else o)
def greatN (xs : List Nat) (y : Nat) : Nat := greatF y xs 0
theorem greatF_snoc (y a : Nat) : ∀ (l : List Nat) (o : Nat), greatF y (l ++ [a]) o = if ndiff a y = 0 then nOr (greatF y l o) a else greatF y l o
  | [], o => by simp [greatF]
  | x :: l, o => by simp only [List.cons_append, greatF, greatF_snoc y a l]
theorem greatF_bit (y i : Nat) : ∀ (l : List Nat) (o : Nat), (greatF y l o).testBit i = true ↔ o.testBit i = true ∨ ∃ x ∈ l, ndiff x y = 0 ∧ x.testBit i = true
  | [], o => by simp [greatF]
  | x :: l, o => by
    rw [greatF, greatF_bit y i l]
    by_cases h : ndiff x y = 0
    · rw [if_pos h, nOr_bit, Bool.or_eq_true]
      constructor
      · rintro ((h1 | h1) | ⟨z, h1, h2⟩)
        · exact .inl h1
        · exact .inr ⟨x, by simp, h, h1⟩
        · exact .inr ⟨z, by simp [h1], h2⟩
      · rintro (h1 | ⟨z, h1, h2, h3⟩)
        · exact .inl (.inl h1)
        · rcases List.mem_cons.1 h1 with e | h1
          · subst e; exact .inl (.inr h3)
          · exact .inr ⟨z, h1, h2, h3⟩
    · rw [if_neg h]
      constructor
      · rintro (h1 | ⟨z, h1, h2⟩)
        · exact .inl h1
        · exact .inr ⟨z, by simp [h1], h2⟩
      · rintro (h1 | ⟨z, h1, h2, h3⟩)
        · exact .inl h1
        · rcases List.mem_cons.1 h1 with e | h1
          · subst e; exact absurd h2 h
          · exact .inr ⟨z, h1, h2, h3⟩
theorem greatF_lt (y : Nat) : ∀ (l : List Nat) (o : Nat), o < 128 → (∀ x ∈ l, x < 128) → greatF y l o < 128
  | [], o, h, _ => h
  | x :: l, o, h, hx => by
    rw [greatF]
    refine greatF_lt y l _ ?_ (fun z hz => hx z (by simp [hz]))
    split
    · exact nOr128 h (hx x (by simp))
    · exact h
theorem greatN_lt {xs : List Nat} (y : Nat) (hx : ∀ x ∈ xs, x < 128) : greatN xs y < 128 := greatF_lt y xs 0 (by omega) hx
theorem greatN_snoc (xs : List Nat) (y a : Nat) : greatN (xs ++ [a]) y = if ndiff a y = 0 then nOr (greatN xs y) a else greatN xs y := greatF_snoc y a xs 0
def hullN (n : Nat) (xs : List Nat) (s : Nat) : Nat := ndiff (bit n - 1) (greatN xs (ndiff (bit n - 1) s))
def outHull (n : Nat) (xs : List Nat) (s i : Nat) : Bool := !(hullN n xs (ndiff s (bit i))).testBit i
def extN (n : Nat) (xs : List Nat) (s : Nat) : Nat := maskL (outHull n xs s) (itemsN s) 0
theorem extN_outer {n : Nat} {xs : List Nat} (g : SpGood n xs) {x : Nat} (hx : x ∈ xs) : extN n xs (ndiff (bit n - 1) x) = outerN (fam xs) n x := by
  have n7 := g.n7
  have hxn := g.lt x hx
  apply eq_bits
  intro i
  rw [extN, maskL_bit, outerN_bit, Nat.zero_testBit, Bool.false_or]
  by_cases hi : i < n
  · by_cases hb : x.testBit i = true
    · have h1 : ¬ i ∈ itemsN (ndiff (bit n - 1) x) := by
        rw [mem_items, ndiff_bit, hb]; simp
      simp [h1, hb]
    · have hb' : x.testBit i = false := by simpa using hb
      have h1 : i ∈ itemsN (ndiff (bit n - 1) x) := by
        rw [mem_items, ndiff_bit, full_bit, hb']; simp [hi]; omega
      have hY : ndiff (bit n - 1) (ndiff (ndiff (bit n - 1) x) (bit i)) = nOr x (bit i) := by
        apply eq_bits
        intro j
        rw [ndiff_bit, ndiff_bit, ndiff_bit, nOr_bit, full_bit, bit_bit]
        by_cases hj : j < n
        · by_cases e : i = j
          · subst e; simp [hj]
          · cases x.testBit j <;> simp [hj, e]
        · have e : ¬ i = j := by omega
          rw [hi_bit hxn (by omega)]
          simp [hj, e]
      have hg : (greatN xs (nOr x (bit i))).testBit i = fam xs (nOr x (bit i)) := by
        rw [Bool.eq_iff_iff, greatN, greatF_bit]
        simp only [fam, Nat.zero_testBit, Bool.false_eq_true, false_or, decide_eq_true_eq]
        constructor
        · rintro ⟨z, hz, h2, h3⟩
          have h4 := g.uni x hx z hz
          have : nOr x z = nOr x (bit i) := by
            rw [ndiff_zero] at h2
            apply eq_bits
            intro j
            have h5 := h2 j
            rw [nOr_bit, bit_bit] at h5
            rw [nOr_bit, nOr_bit, bit_bit]
            by_cases e : i = j
            · subst e; simp [h3]
            · cases hz : z.testBit j
              · simp [e]
              · have := h5 hz; simp [e] at this ⊢; exact this
          rw [this] at h4; exact h4
        · intro h2
          exact ⟨_, h2, by rw [ndiff_zero]; exact fun _ h => h, by rw [nOr_bit, bit_bit]; simp⟩
      simp only [outHull, hullN, hY, ndiff_bit, full_bit, hg]
      simp [h1, hi, hb']
  · have h1 : ¬ i ∈ itemsN (ndiff (bit n - 1) x) := by
      rw [mem_items, ndiff_bit, full_bit]; simp [hi]
    simp [h1, hi]
theorem partF_ok (h : Hp) (a b : Nat) (ha : a < 128) (hb : b < 128) : CallOK Tryz.prog 185 #[.int .i64 (a : Int), .int .i64 (b : Int)] h (.bool (decide (ndiff a b = 0))) h := by
  refine callY_P 9 _ [.tmp 4] Tryz.func185 rfl rfl rfl (by first | rfl | simp) ?_
  have hd := ndiff128 (a := a) (b := b) ha
  have hd2 : (((ndiff a b : Nat) : Int) == 0) = decide (ndiff a b = 0) := by rw [Bool.eq_iff_iff]; simp
  try simp (disch := first | omega | (simp; done) | fail) [wrap64c, if_pos, if_neg, opAnd, opOr, opXor, opDiff, opShr, opBit]
  exact done_ret rfl (by simp [hd2])
theorem greatest_ok (h : Hp) (v : Value) (N : Int) (xs : List Nat) (y : Nat) (hv : Space h v N (toN xs)) (hx : ∀ x ∈ xs, x < 128) (hy : y < 128) (hl : xs.length < 2 ^ 40) :
    CallOK Tryz.prog 150 #[v, .int .i64 (y : Int)] h (.int .i64 ((greatN xs y : Nat) : Int)) h := by
  refine callY_P 23 _ [.tmp 4] Tryz.func150 rfl rfl rfl (by first | rfl | simp) ?_
  obtain ⟨b, rfl, hX⟩ := hv
  refine WD_first ?_
  try simp (disch := first | omega | (simp; done) | fail) [wrap64c, if_pos, if_neg, opAnd, opOr, opXor, opDiff, opShr, opBit]
  refine stopK_heap fun h0 q_h0 => ?_
  refine stopK_go ?_
  have g_h0 : h0.get h.next = .cells [.int .i64 N, b] true true 1 := by simp [q_h0]
  have k_h0 : Adds h h0 := by rw [q_h0]; exact (by first | exact aK | exact kK)
  have n_h0 : h.next < h0.next := by simp [q_h0]; try omega
  have hX0 := hX.keep k_h0.1
  have hL := hX0.lenD
  have hgt := toN_get xs
  have hln := toN_length xs
  try simp (disch := first | omega | (simp; done) | fail) [wrap64c, if_pos, if_neg, opAnd, opOr, opXor, opDiff, opShr, opBit, g_h0, hL, hgt]
  refine WD_loopC [1, 9, 10] (fun m tm h' => ∃ j, m = xs.length - j ∧ h0 = h' ∧ tm 5 = .int .i64 ((greatN (xs.take j) y : Nat) : Int) ∧ tm 11 = .int .i64 (j : Int) ∧ (j ≤ xs.length)) _ ⟨0, rfl, rfl, (by simp [greatN, greatF]), (by simp (disch := first | omega | (simp; done) | fail) [wrap64c, if_pos, if_neg, opAnd, opOr, opXor, opDiff, opShr, opBit, g_h0, hL, hgt]), (by first | omega | assumption | (simp (disch := first | omega | (simp; done) | fail) [wrap64c, if_pos, if_neg, opAnd, opOr, opXor, opDiff, opShr, opBit, g_h0, hL, hgt] <;> omega))⟩ ?_
  rintro m tm h' hFr ⟨j, rfl, rfl, e5, e11, hj⟩
  simp only [FrameL] at hFr
  obtain ⟨f1_0, f9_0, f10_0, -⟩ := hFr
  try simp (disch := first | omega | (simp; done) | fail) [wrap64c, if_pos, if_neg, opAnd, opOr, opXor, opDiff, opShr, opBit, g_h0, hL, hgt] at f1_0 f9_0 f10_0
  have e1 := f1_0
  have e9 := f9_0
  have e10 := f10_0
  by_cases hlt : j < xs.length
  · have hxj := hx _ (List.getElem_mem hlt)
    have hm := greatN_lt (xs := xs.take j) y (fun x h => hx x (List.mem_of_mem_take h))
    have hs : greatN (xs.take (j + 1)) y = if ndiff xs[j] y = 0 then nOr (greatN (xs.take j) y) xs[j] else greatN (xs.take j) y := by rw [List.take_succ_eq_append_getElem hlt]; exact greatN_snoc _ _ _
    obtain ⟨o_x, i_x, c_x, cs_x, own_x, ex_x, es_x, q_x, b_x, g_x, l_x, r_x⟩ := hX0.open ((by omega))
    have z_x : ∀ h2 : i_x < cs_x.length, cs_x[i_x] = _ := fun h2 => r_x 0 ((by omega)) h2
    try simp (disch := first | omega | (simp; done) | fail) [wrap64c, if_pos, if_neg, opAnd, opOr, opXor, opDiff, opShr, opBit, g_h0, hL, hgt, e1, e5, e9, e10, e11, hlt, q_x, g_x, l_x, r_x, z_x]
    refine callG_c (by simp) (by simp) ?ha (partF_ok h0 xs[j] y hxj hy) ?_
    (case ha => simp (disch := first | omega | (simp; done) | fail) [wrap64c, if_pos, if_neg, opAnd, opOr, opXor, opDiff, opShr, opBit, g_h0, hL, hgt, e1, e5, e9, e10, e11, hlt, q_x, g_x, l_x, r_x, z_x])
    by_cases hc : ndiff xs[j] y = 0
    · rw [if_pos hc] at hs
      try simp (disch := first | omega | (simp; done) | fail) [wrap64c, if_pos, if_neg, opAnd, opOr, opXor, opDiff, opShr, opBit, g_h0, hL, hgt, e1, e5, e9, e10, e11, hlt, q_x, g_x, l_x, r_x, z_x, hc]
      refine loopK_next _ ?hm ?hf ⟨j + 1, rfl, rfl, (by simp [hs, e5]), (by simp (disch := first | omega | (simp; done) | fail) [wrap64c, if_pos, if_neg, opAnd, opOr, opXor, opDiff, opShr, opBit, g_h0, hL, hgt, e1, e5, e9, e10, e11, hlt, q_x, g_x, l_x, r_x, z_x, hc] <;> omega), (by first | omega | assumption | (simp (disch := first | omega | (simp; done) | fail) [wrap64c, if_pos, if_neg, opAnd, opOr, opXor, opDiff, opShr, opBit, g_h0, hL, hgt, e1, e5, e9, e10, e11, hlt, q_x, g_x, l_x, r_x, z_x, hc] <;> omega))⟩
      (case hm => first | omega | (simp; omega))
      (case hf => simp [FrameL, g_h0, hL, hgt, e1, e5, e9, e10, e11, hlt, q_x, g_x, l_x, r_x, z_x, hc, f1_0, f9_0, f10_0])
    · rw [if_neg hc] at hs
      try simp (disch := first | omega | (simp; done) | fail) [wrap64c, if_pos, if_neg, opAnd, opOr, opXor, opDiff, opShr, opBit, g_h0, hL, hgt, e1, e5, e9, e10, e11, hlt, q_x, g_x, l_x, r_x, z_x, hc]
      refine loopK_next _ ?hm ?hf ⟨j + 1, rfl, rfl, (by simp [hs, e5]), (by simp (disch := first | omega | (simp; done) | fail) [wrap64c, if_pos, if_neg, opAnd, opOr, opXor, opDiff, opShr, opBit, g_h0, hL, hgt, e1, e5, e9, e10, e11, hlt, q_x, g_x, l_x, r_x, z_x, hc] <;> omega), (by first | omega | assumption | (simp (disch := first | omega | (simp; done) | fail) [wrap64c, if_pos, if_neg, opAnd, opOr, opXor, opDiff, opShr, opBit, g_h0, hL, hgt, e1, e5, e9, e10, e11, hlt, q_x, g_x, l_x, r_x, z_x, hc] <;> omega))⟩
      (case hm => first | omega | (simp; omega))
      (case hf => simp [FrameL, g_h0, hL, hgt, e1, e5, e9, e10, e11, hlt, q_x, g_x, l_x, r_x, z_x, hc, f1_0, f9_0, f10_0])
  · try simp (disch := first | omega | (simp; done) | fail) [wrap64c, if_pos, if_neg, opAnd, opOr, opXor, opDiff, opShr, opBit, g_h0, hL, hgt, e1, e5, e9, e10, e11, hlt]
    exact done_ret rfl (by simp [k_h0.1, List.take_of_length_le (show xs.length ≤ j by omega)])
theorem hull_ok (h : Hp) (v : Value) (n : Nat) (xs : List Nat) (s : Nat) (hv : Space h v n (toN xs)) (hn : n ≤ 7) (hx : ∀ x ∈ xs, x < 128) (hs : s < 128) (hl : xs.length < 2 ^ 40) :
    CallOK Tryz.prog 107 #[v, .int .i64 (s : Int)] h (.int .i64 ((hullN n xs s : Nat) : Int)) h := by
  refine callY_P 14 _ [.tmp 4] Tryz.func107 rfl rfl rfl (by first | rfl | simp) ?_
  obtain ⟨b, rfl, hX⟩ := hv
  refine WD_first ?_
  try simp (disch := first | omega | (simp; done) | fail) [wrap64c, if_pos, if_neg, opAnd, opOr, opXor, opDiff, opShr, opBit]
  refine stopK_heap fun h0 q_h0 => ?_
  refine stopK_go ?_
  have g_h0 : h0.get h.next = .cells [.int .i64 n, b] true true 1 := by simp [q_h0]
  have k_h0 : Adds h h0 := by rw [q_h0]; exact (by first | exact aK | exact kK)
  have n_h0 : h.next < h0.next := by simp [q_h0]; try omega
  have hX0 := hX.keep k_h0.1
  have hb := bit7 hn
  have hd := ndiff128 (a := bit n - 1) (b := s) (by omega)
  have hg := greatN_lt (xs := xs) (ndiff (bit n - 1) s) hx
  try simp (disch := first | omega | (simp; done) | fail) [wrap64c, if_pos, if_neg, opAnd, opOr, opXor, opDiff, opShr, opBit, g_h0]
  refine WD_drawC 7 rfl (by kernel_rfl) ?_
  try simp (disch := first | omega | (simp; done) | fail) [wrap64c, if_pos, if_neg, opAnd, opOr, opXor, opDiff, opShr, opBit, g_h0]
  refine callP_c (by simp) (by simp) ?ha (all_ok h0 (.agg #[.int .i64 n, b]) n (toN xs) (.mk hX0) (by omega)) ?hadd ?_
  (case ha => simp (disch := first | omega | (simp; done) | fail) [wrap64c, if_pos, if_neg, opAnd, opOr, opXor, opDiff, opShr, opBit, g_h0])
  (case hadd => first | assumption | exact adds_self _ | (simp; done))
  try simp (disch := first | omega | (simp; done) | fail) [wrap64c, if_pos, if_neg, opAnd, opOr, opXor, opDiff, opShr, opBit, g_h0]
  refine callP_c (by simp) (by simp) ?ha (all_ok h0 (.agg #[.int .i64 n, b]) n (toN xs) (.mk hX0) (by omega)) ?hadd ?_
  (case ha => simp (disch := first | omega | (simp; done) | fail) [wrap64c, if_pos, if_neg, opAnd, opOr, opXor, opDiff, opShr, opBit, g_h0])
  (case hadd => first | assumption | exact adds_self _ | (simp; done))
  try simp (disch := first | omega | (simp; done) | fail) [wrap64c, if_pos, if_neg, opAnd, opOr, opXor, opDiff, opShr, opBit, g_h0]
  refine callG_c (by simp) (by simp) ?ha (greatest_ok h0 (.agg #[.int .i64 n, b]) n xs (ndiff (bit n - 1) s) (.mk hX0) hx hd hl) ?_
  (case ha => simp (disch := first | omega | (simp; done) | fail) [wrap64c, if_pos, if_neg, opAnd, opOr, opXor, opDiff, opShr, opBit, g_h0])
  try simp (disch := first | omega | (simp; done) | fail) [wrap64c, if_pos, if_neg, opAnd, opOr, opXor, opDiff, opShr, opBit, g_h0]
  exact done_ret rfl (by simp [hullN, k_h0.1])
theorem hullN_lt {n : Nat} (hn : n ≤ 7) (xs : List Nat) (s : Nat) : hullN n xs s < 128 := by
  have hb := bit7 hn
  exact ndiff128 (by omega)
theorem extreme_ok (h : Hp) (v : Value) (n : Nat) (xs : List Nat) (s : Nat) (hv : Space h v n (toN xs)) (hn : n ≤ 7) (hx : ∀ x ∈ xs, x < 128) (ha : s < 128) (hl : xs.length < 2 ^ 40) :
    CallOK Tryz.prog 59 #[v, .int .i64 (s : Int)] h (.int .i64 ((extN n xs s : Nat) : Int)) h := by
  refine callY_P 31 _ [.tmp 4] Tryz.func59 rfl rfl rfl (by first | rfl | simp) ?_
  obtain ⟨b, rfl, hX⟩ := hv
  refine WD_first ?_
  try simp (disch := first | omega | (simp; done) | fail) [wrap64c, if_pos, if_neg, opAnd, opOr, opXor, opDiff, opShr, opBit]
  refine stopK_heap fun h0 q_h0 => ?_
  refine stopK_go ?_
  have g_h0 : h0.get h.next = .cells [.int .i64 n, b] true true 1 := by simp [q_h0]
  have k_h0 : Adds h h0 := by rw [q_h0]; exact (by first | exact aK | exact kK)
  have n_h0 : h.next < h0.next := by simp [q_h0]; try omega
  have hX0 := hX.keep k_h0.1
  try simp (disch := first | omega | (simp; done) | fail) [wrap64c, if_pos, if_neg, opAnd, opOr, opXor, opDiff, opShr, opBit, g_h0]
  obtain ⟨u, h1, hc1, ha1, hi1, _⟩ := items_ok h0 s (by omega)
  refine callG_c (by simp) (by simp) ?ha (hc1) ?_
  (case ha => simp (disch := first | omega | (simp; done) | fail) [wrap64c, if_pos, if_neg, opAnd, opOr, opXor, opDiff, opShr, opBit, g_h0])
  have hL := hi1.ints.lenD
  have hgt := toN_get (itemsN s)
  have hln := toN_length (itemsN s)
  have hX1 := hX0.keep ha1.1
  have hg1 : h1.get h.next = .cells [.int .i64 n, b] true true 1 := by rw [ha1.1.2 h.next (by omega)]; exact g_h0
  try simp (disch := first | omega | (simp; done) | fail) [wrap64c, if_pos, if_neg, opAnd, opOr, opXor, opDiff, opShr, opBit, g_h0, hL, hgt, hg1]
  refine WD_loopC [1, 2, 9, 10] (fun m tm h' => ∃ j, m = (itemsN s).length - j ∧ h1 = h' ∧ tm 5 = .int .i64 ((maskL (outHull n xs s) ((itemsN s).take j) 0 : Nat) : Int) ∧ tm 11 = .int .i64 (j : Int) ∧ (j ≤ (itemsN s).length) ∧ (maskL (outHull n xs s) ((itemsN s).take j) 0 < 128)) _ ⟨0, rfl, rfl, (by simp [maskL]), (by simp (disch := first | omega | (simp; done) | fail) [wrap64c, if_pos, if_neg, opAnd, opOr, opXor, opDiff, opShr, opBit, g_h0, hL, hgt, hg1]), (by first | omega | assumption | (simp (disch := first | omega | (simp; done) | fail) [wrap64c, if_pos, if_neg, opAnd, opOr, opXor, opDiff, opShr, opBit, g_h0, hL, hgt, hg1] <;> omega)), (by simp [maskL])⟩ ?_
  rintro m tm h' hFr ⟨j, rfl, rfl, e5, e11, hj, hm⟩
  simp only [FrameL] at hFr
  obtain ⟨f1_0, f2_0, f9_0, f10_0, -⟩ := hFr
  try simp (disch := first | omega | (simp; done) | fail) [wrap64c, if_pos, if_neg, opAnd, opOr, opXor, opDiff, opShr, opBit, g_h0, hL, hgt, hg1] at f1_0 f2_0 f9_0 f10_0
  have e1 := f1_0
  have e2 := f2_0
  have e9 := f9_0
  have e10 := f10_0
  by_cases hlt : j < (itemsN s).length
  · obtain ⟨o_x, i_x, c_x, cs_x, own_x, ex_x, es_x, q_x, b_x, g_x, l_x, r_x⟩ := hi1.ints.open ((by simp; omega))
    have z_x : ∀ h2 : i_x < cs_x.length, cs_x[i_x] = _ := fun h2 => r_x 0 ((by simp; omega)) h2
    have hi7 := items_lt (List.getElem_mem hlt)
    have hl7 := items_len s
    have hb := bit_lt7 hi7
    have hd := ndiff128 (a := s) (b := bit (itemsN s)[j]) ha
    have hq := nOr128 (b := bit (itemsN s)[j]) hm (by omega)
    have hh := hullN_lt hn xs (ndiff s (bit (itemsN s)[j]))
    have hsl := nShr_le (hullN n xs (ndiff s (bit (itemsN s)[j]))) (itemsN s)[j]
    have hz := nShr_and01 (hullN n xs (ndiff s (bit (itemsN s)[j]))) (itemsN s)[j]
    have hs : maskL (outHull n xs s) ((itemsN s).take (j + 1)) 0 = if outHull n xs s (itemsN s)[j] = true then nOr (maskL (outHull n xs s) ((itemsN s).take j) 0) (bit (itemsN s)[j]) else maskL (outHull n xs s) ((itemsN s).take j) 0 := by rw [List.take_succ_eq_append_getElem hlt]; exact maskL_snoc _ _ _ _
    try simp (disch := first | omega | (simp; done) | fail) [wrap64c, if_pos, if_neg, opAnd, opOr, opXor, opDiff, opShr, opBit, g_h0, hL, hgt, hg1, e1, e2, e5, e9, e10, e11, hlt, q_x, g_x, l_x, r_x, z_x]
    refine WD_drawC 10 rfl (by kernel_rfl) ?_
    try simp (disch := first | omega | (simp; done) | fail) [wrap64c, if_pos, if_neg, opAnd, opOr, opXor, opDiff, opShr, opBit, g_h0, hL, hgt, hg1, e1, e2, e5, e9, e10, e11, hlt, q_x, g_x, l_x, r_x, z_x]
    refine callP_c (by simp) (by simp) ?ha (hull_ok h1 (.agg #[.int .i64 n, b]) n xs (ndiff s (bit (itemsN s)[j])) (.mk hX1) hn hx hd hl) ?hadd ?_
    (case ha => simp (disch := first | omega | (simp; done) | fail) [wrap64c, if_pos, if_neg, opAnd, opOr, opXor, opDiff, opShr, opBit, g_h0, hL, hgt, hg1, e1, e2, e5, e9, e10, e11, hlt, q_x, g_x, l_x, r_x, z_x])
    (case hadd => first | assumption | exact adds_self _ | (simp; done))
    cases hc : (hullN n xs (ndiff s (bit (itemsN s)[j]))).testBit (itemsN s)[j]
    · have ho : outHull n xs s (itemsN s)[j] = true := by simp [outHull, hc]
      have hz0 : nAnd (nShr (hullN n xs (ndiff s (bit (itemsN s)[j]))) (itemsN s)[j]) 1 = 0 := by rw [hz, hc]; rfl
      rw [if_pos ho] at hs
      try simp (disch := first | omega | (simp; done) | fail) [wrap64c, if_pos, if_neg, opAnd, opOr, opXor, opDiff, opShr, opBit, g_h0, hL, hgt, hg1, e1, e2, e5, e9, e10, e11, hlt, q_x, g_x, l_x, r_x, z_x, hz0]
      refine loopK_next _ ?hm ?hf ⟨j + 1, rfl, rfl, (by simp [hs, e5]), (by simp (disch := first | omega | (simp; done) | fail) [wrap64c, if_pos, if_neg, opAnd, opOr, opXor, opDiff, opShr, opBit, g_h0, hL, hgt, hg1, e1, e2, e5, e9, e10, e11, hlt, q_x, g_x, l_x, r_x, z_x, hz0] <;> omega), (by first | omega | assumption | (simp (disch := first | omega | (simp; done) | fail) [wrap64c, if_pos, if_neg, opAnd, opOr, opXor, opDiff, opShr, opBit, g_h0, hL, hgt, hg1, e1, e2, e5, e9, e10, e11, hlt, q_x, g_x, l_x, r_x, z_x, hz0] <;> omega)), (by simpa [hs] using hq)⟩
      (case hm => first | omega | (simp; omega))
      (case hf => simp [FrameL, g_h0, hL, hgt, hg1, e1, e2, e5, e9, e10, e11, hlt, q_x, g_x, l_x, r_x, z_x, hz0, f1_0, f2_0, f9_0, f10_0])
    · have ho : ¬ outHull n xs s (itemsN s)[j] = true := by simp [outHull, hc]
      have hz0 : nAnd (nShr (hullN n xs (ndiff s (bit (itemsN s)[j]))) (itemsN s)[j]) 1 = 1 := by rw [hz, hc]; rfl
      rw [if_neg ho] at hs
      try simp (disch := first | omega | (simp; done) | fail) [wrap64c, if_pos, if_neg, opAnd, opOr, opXor, opDiff, opShr, opBit, g_h0, hL, hgt, hg1, e1, e2, e5, e9, e10, e11, hlt, q_x, g_x, l_x, r_x, z_x, hz0]
      refine loopK_next _ ?hm ?hf ⟨j + 1, rfl, rfl, (by simp [hs, e5]), (by simp (disch := first | omega | (simp; done) | fail) [wrap64c, if_pos, if_neg, opAnd, opOr, opXor, opDiff, opShr, opBit, g_h0, hL, hgt, hg1, e1, e2, e5, e9, e10, e11, hlt, q_x, g_x, l_x, r_x, z_x, hz0] <;> omega), (by first | omega | assumption | (simp (disch := first | omega | (simp; done) | fail) [wrap64c, if_pos, if_neg, opAnd, opOr, opXor, opDiff, opShr, opBit, g_h0, hL, hgt, hg1, e1, e2, e5, e9, e10, e11, hlt, q_x, g_x, l_x, r_x, z_x, hz0] <;> omega)), (by simpa [hs] using hm)⟩
      (case hm => first | omega | (simp; omega))
      (case hf => simp [FrameL, g_h0, hL, hgt, hg1, e1, e2, e5, e9, e10, e11, hlt, q_x, g_x, l_x, r_x, z_x, hz0, f1_0, f2_0, f9_0, f10_0])
  · try simp (disch := first | omega | (simp; done) | fail) [wrap64c, if_pos, if_neg, opAnd, opOr, opXor, opDiff, opShr, opBit, g_h0, hL, hgt, hg1, e1, e2, e5, e9, e10, e11, hlt]
    exact done_ret rfl (by simp [extN, List.take_of_length_le (show (itemsN s).length ≤ j by omega), k_h0.1.trans ha1.1])
def isFreeN (n : Nat) (xs : List Nat) (a : Nat) : Bool := fam xs (ndiff (bit n - 1) a) && (outerN (fam xs) n (ndiff (bit n - 1) a) == a)
def freeK (n : Nat) (xs : List Nat) (k : Nat) : List Nat := (List.range k).filter (isFreeN n xs)
theorem freeK_succ (n : Nat) (xs : List Nat) (k : Nat) : freeK n xs (k + 1) = if isFreeN n xs k = true then freeK n xs k ++ [k] else freeK n xs k := by
  unfold freeK
  rw [List.range_succ, List.filter_append]
  by_cases h : isFreeN n xs k = true <;> simp [h]
theorem freeK_len (n : Nat) (xs : List Nat) (k : Nat) : (freeK n xs k).length ≤ k := by
  unfold freeK
  have := List.length_filter_le (isFreeN n xs) (List.range k)
  simpa using this
def freeN (n : Nat) (xs : List Nat) : List Nat := freeK n xs (bit n)
theorem freeN_lt {n : Nat} {xs : List Nat} {a : Nat} (h : a ∈ freeN n xs) : a < bit n := by
  simp only [freeN, freeK, List.mem_filter, List.mem_range] at h; exact h.1
theorem alFree_ok (h : Hp) (v : Value) (n : Nat) (xs : List Nat) (hv : Space h v n (toN xs)) (hn : n ≤ 7) (hl : xs.length < 2 ^ 40) (hsrt : xs.Pairwise (· < ·)) :
    ∃ v' h', CallOK Tryz.prog 62 #[v] h v' h' ∧ Adds h h' ∧ IntsO (Btw h.next h'.next) h' v' (toN (freeN n xs)) := by
  refine callY_L (args := [v]) 35 _ [.tmp 2] Tryz.func62 rfl rfl rfl ?_
  obtain ⟨b, rfl, hX⟩ := hv
  refine WD_first ?_
  try simp (disch := first | omega | (simp; done) | fail) [wrap64c, if_pos, if_neg, opAnd, opOr, opXor, opDiff, opShr, opBit]
  refine stopK_heap fun h0 q_h0 => ?_
  refine stopK_go ?_
  have g_h0 : h0.get h.next = .cells [.int .i64 n, b] true true 1 := by simp [q_h0]
  have k_h0 : Adds h h0 := by rw [q_h0]; exact (by first | exact aK | exact kK)
  have n_h0 : h.next < h0.next := by simp [q_h0]; try omega
  have hX0 := hX.keep k_h0.1
  have hb7 := bit7 hn
  try simp (disch := first | omega | (simp; done) | fail) [wrap64c, if_pos, if_neg, opAnd, opOr, opXor, opDiff, opShr, opBit, g_h0]
  refine WD_loopC [1, 4] (fun m tm h' => ∃ k u, m = bit n - k ∧ tm 3 = u ∧ tm 5 = .int .i64 (k : Int) ∧ (k ≤ bit n) ∧ (Adds h h') ∧ (Keeps h0 h') ∧ (h'.get h.next = .cells [.int .i64 n, b] true true 1) ∧ (IntsA h0.next h' u (toN (freeK n xs k)))) _ ⟨0, .slice none 0 0, rfl, (by simp (disch := first | omega | (simp; done) | fail) [wrap64c, if_pos, if_neg, opAnd, opOr, opXor, opDiff, opShr, opBit, g_h0]), (by simp (disch := first | omega | (simp; done) | fail) [wrap64c, if_pos, if_neg, opAnd, opOr, opXor, opDiff, opShr, opBit, g_h0]), (by first | omega | assumption | (simp (disch := first | omega | (simp; done) | fail) [wrap64c, if_pos, if_neg, opAnd, opOr, opXor, opDiff, opShr, opBit, g_h0] <;> omega)), (by first | exact aK | exact kK), (by simp), (by simp [g_h0]), (by simp [freeK, toN]; exact IntsA.nil _ _)⟩ ?_
  rintro m tm h' hFr ⟨k, u, rfl, e3, e5, hk, ha, ha0, hg, hu⟩
  simp only [FrameL] at hFr
  obtain ⟨f1_0, f4_0, -⟩ := hFr
  try simp (disch := first | omega | (simp; done) | fail) [wrap64c, if_pos, if_neg, opAnd, opOr, opXor, opDiff, opShr, opBit, g_h0] at f1_0 f4_0
  have e1 := f1_0
  have e4 := f4_0
  by_cases hlt : k < bit n
  · have hs := freeK_succ n xs k
    have hd := ndiff128 (a := bit n - 1) (b := k) (by omega)
    have hX1 := hX0.keep ha0
    try simp (disch := first | omega | (simp; done) | fail) [wrap64c, if_pos, if_neg, opAnd, opOr, opXor, opDiff, opShr, opBit, g_h0, e1, e3, e4, e5, hg, hlt]
    refine callG_c (by simp) (by simp) ?ha (spHasN_ok h' b xs (ndiff (bit n - 1) k) hX1 hl hsrt) ?_
    (case ha => simp (disch := first | omega | (simp; done) | fail) [wrap64c, if_pos, if_neg, opAnd, opOr, opXor, opDiff, opShr, opBit, g_h0, e1, e3, e4, e5, hg, hlt])
    cases hc : fam xs (ndiff (bit n - 1) k)
    · have hf : ¬ isFreeN n xs k = true := by simp [isFreeN, hc]
      rw [if_neg hf] at hs
      try simp (disch := first | omega | (simp; done) | fail) [wrap64c, if_pos, if_neg, opAnd, opOr, opXor, opDiff, opShr, opBit, g_h0, e1, e3, e4, e5, hg, hlt, hc]
      refine loopK_next _ ?hm ?hf ⟨k + 1, u, rfl, (by simp (disch := first | omega | (simp; done) | fail) [wrap64c, if_pos, if_neg, opAnd, opOr, opXor, opDiff, opShr, opBit, g_h0, e1, e3, e4, e5, hg, hlt, hc] <;> omega), (by simp (disch := first | omega | (simp; done) | fail) [wrap64c, if_pos, if_neg, opAnd, opOr, opXor, opDiff, opShr, opBit, g_h0, e1, e3, e4, e5, hg, hlt, hc] <;> omega), (by first | omega | assumption | (simp (disch := first | omega | (simp; done) | fail) [wrap64c, if_pos, if_neg, opAnd, opOr, opXor, opDiff, opShr, opBit, g_h0, e1, e3, e4, e5, hg, hlt, hc] <;> omega)), (by first | omega | assumption | (simp (disch := first | omega | (simp; done) | fail) [wrap64c, if_pos, if_neg, opAnd, opOr, opXor, opDiff, opShr, opBit, g_h0, e1, e3, e4, e5, hg, hlt, hc] <;> omega)), (by first | omega | assumption | (simp (disch := first | omega | (simp; done) | fail) [wrap64c, if_pos, if_neg, opAnd, opOr, opXor, opDiff, opShr, opBit, g_h0, e1, e3, e4, e5, hg, hlt, hc] <;> omega)), (by first | omega | assumption | (simp (disch := first | omega | (simp; done) | fail) [wrap64c, if_pos, if_neg, opAnd, opOr, opXor, opDiff, opShr, opBit, g_h0, e1, e3, e4, e5, hg, hlt, hc] <;> omega)), (by rw [hs]; exact hu)⟩
      (case hm => first | omega | (simp; omega))
      (case hf => simp [FrameL, g_h0, e1, e3, e4, e5, hg, hlt, hc, f1_0, f4_0])
    · try simp (disch := first | omega | (simp; done) | fail) [wrap64c, if_pos, if_neg, opAnd, opOr, opXor, opDiff, opShr, opBit, g_h0, e1, e3, e4, e5, hg, hlt, hc]
      refine callG_c (by simp) (by simp) ?ha (spOuter_ok h' (.agg #[.int .i64 n, b]) n xs (ndiff (bit n - 1) k) (.mk hX1) hn hl hsrt hd) ?_
      (case ha => simp (disch := first | omega | (simp; done) | fail) [wrap64c, if_pos, if_neg, opAnd, opOr, opXor, opDiff, opShr, opBit, g_h0, e1, e3, e4, e5, hg, hlt, hc])
      by_cases hc2 : outerN (fam xs) n (ndiff (bit n - 1) k) = k
      · have hf : isFreeN n xs k = true := by simp [isFreeN, hc, hc2]
        rw [if_pos hf] at hs
        try simp (disch := first | omega | (simp; done) | fail) [wrap64c, if_pos, if_neg, opAnd, opOr, opXor, opDiff, opShr, opBit, g_h0, e1, e3, e4, e5, hg, hlt, hc, hc2]
        have hle := freeK_len n xs k
        obtain ⟨u2, h2, hap, hu2, ha2, hn2, hs2⟩ := appI hu (k : Int) (by simp; omega) ha0.1 ha (by omega)
        try simp (disch := first | omega | (simp; done) | fail) [wrap64c, if_pos, if_neg, opAnd, opOr, opXor, opDiff, opShr, opBit, g_h0, e1, e3, e4, e5, hg, hlt, hc, hc2, hap]
        refine loopK_next _ ?hm ?hf ⟨k + 1, u2, rfl, (by simp (disch := first | omega | (simp; done) | fail) [wrap64c, if_pos, if_neg, opAnd, opOr, opXor, opDiff, opShr, opBit, g_h0, e1, e3, e4, e5, hg, hlt, hc, hc2] <;> omega), (by simp (disch := first | omega | (simp; done) | fail) [wrap64c, if_pos, if_neg, opAnd, opOr, opXor, opDiff, opShr, opBit, g_h0, e1, e3, e4, e5, hg, hlt, hc, hc2] <;> omega), (by first | omega | assumption | (simp (disch := first | omega | (simp; done) | fail) [wrap64c, if_pos, if_neg, opAnd, opOr, opXor, opDiff, opShr, opBit, g_h0, e1, e3, e4, e5, hg, hlt, hc, hc2] <;> omega)), (by first | omega | assumption | (simp (disch := first | omega | (simp; done) | fail) [wrap64c, if_pos, if_neg, opAnd, opOr, opXor, opDiff, opShr, opBit, g_h0, e1, e3, e4, e5, hg, hlt, hc, hc2] <;> omega)), ⟨by have := ha0.1; omega, fun o ho => (hs2 o (by have := ha0.1; omega) ho).trans (ha0.2 o ho)⟩, ((hs2 h.next (by have := ha0.1; omega) (by omega)).trans hg), (by rw [hs, toN_snoc]; exact hu2)⟩
        (case hm => first | omega | (simp; omega))
        (case hf => simp [FrameL, g_h0, e1, e3, e4, e5, hg, hlt, hc, hc2, f1_0, f4_0])
      · have hf : ¬ isFreeN n xs k = true := by simp [isFreeN, hc, hc2]
        rw [if_neg hf] at hs
        have hci : ¬ ((outerN (fam xs) n (ndiff (bit n - 1) k) : Nat) : Int) = (k : Int) := by omega
        try simp (disch := first | omega | (simp; done) | fail) [wrap64c, if_pos, if_neg, opAnd, opOr, opXor, opDiff, opShr, opBit, g_h0, e1, e3, e4, e5, hg, hlt, hc, hc2, hci]
        refine loopK_next _ ?hm ?hf ⟨k + 1, u, rfl, (by simp (disch := first | omega | (simp; done) | fail) [wrap64c, if_pos, if_neg, opAnd, opOr, opXor, opDiff, opShr, opBit, g_h0, e1, e3, e4, e5, hg, hlt, hc, hc2, hci] <;> omega), (by simp (disch := first | omega | (simp; done) | fail) [wrap64c, if_pos, if_neg, opAnd, opOr, opXor, opDiff, opShr, opBit, g_h0, e1, e3, e4, e5, hg, hlt, hc, hc2, hci] <;> omega), (by first | omega | assumption | (simp (disch := first | omega | (simp; done) | fail) [wrap64c, if_pos, if_neg, opAnd, opOr, opXor, opDiff, opShr, opBit, g_h0, e1, e3, e4, e5, hg, hlt, hc, hc2, hci] <;> omega)), (by first | omega | assumption | (simp (disch := first | omega | (simp; done) | fail) [wrap64c, if_pos, if_neg, opAnd, opOr, opXor, opDiff, opShr, opBit, g_h0, e1, e3, e4, e5, hg, hlt, hc, hc2, hci] <;> omega)), (by first | omega | assumption | (simp (disch := first | omega | (simp; done) | fail) [wrap64c, if_pos, if_neg, opAnd, opOr, opXor, opDiff, opShr, opBit, g_h0, e1, e3, e4, e5, hg, hlt, hc, hc2, hci] <;> omega)), (by first | omega | assumption | (simp (disch := first | omega | (simp; done) | fail) [wrap64c, if_pos, if_neg, opAnd, opOr, opXor, opDiff, opShr, opBit, g_h0, e1, e3, e4, e5, hg, hlt, hc, hc2, hci] <;> omega)), (by rw [hs]; exact hu)⟩
        (case hm => first | omega | (simp; omega))
        (case hf => simp [FrameL, g_h0, e1, e3, e4, e5, hg, hlt, hc, hc2, hci, f1_0, f4_0])
  · try simp (disch := first | omega | (simp; done) | fail) [wrap64c, if_pos, if_neg, opAnd, opOr, opXor, opDiff, opShr, opBit, g_h0, e1, e3, e4, e5, hg, hlt]
    have e : k = bit n := by omega
    subst e
    have hle := freeK_len n xs (bit n)
    exact done_ret rfl ⟨ha, (hu.own (by simp; omega)).sub fun o ho => ⟨by have := ho.1; omega, ho.2⟩⟩
end Go.Proofs.YtnncipcldbopgaaGreat
namespace Go.Proofs.YtnncipcldbopgaaGreat
set_option linter.unusedSimpArgs false
set_option linter.unusedVariables false
set_option maxHeartbeats 4000000
open Go Go.Eng
attribute [local irreducible] WD RunD PreD Runs CallOK
noncomputable def inB (N : Int) (X : List Int) (a : Int) : Bool := spB N X && setB N.toNat a
noncomputable def outerR (N : Int) (X : List Int) (a : Int) : Int := if oneB N X a = true then ((outerN (fam (natsOf X)) N.toNat a.toNat : Nat) : Int) else 0
noncomputable def innerR (N : Int) (X : List Int) (a : Int) : Int := if oneB N X a = true then ((innerN (fam (natsOf X)) a.toNat : Nat) : Int) else 0
noncomputable def greatR (N : Int) (X : List Int) (a : Int) : Int := if inB N X a = true then ((greatN (natsOf X) a.toNat : Nat) : Int) else 0
end Go.Proofs.YtnncipcldbopgaaGreat
namespace Go.Proofs.YtnncipcldbopgaaGreat
set_option linter.unusedSimpArgs false
set_option linter.unusedVariables false
set_option maxHeartbeats 4000000
open Go Go.Eng
attribute [local irreducible] WD RunD PreD Runs CallOK
end Go.Proofs.YtnncipcldbopgaaGreat
namespace Go.Proofs.YtnncipcldbopgaaGreat
set_option linter.unusedSimpArgs false
set_option linter.unusedVariables false
set_option maxHeartbeats 4000000
open Go Go.Eng
attribute [local irreducible] WD RunD PreD Runs CallOK
theorem drawSizes_ok (h : Hp) (v : Value) (bs : List Int) (hb : BytesF h.next h v bs) : ∃ u h', CallOK Tryz.prog 57 #[v] h u h' ∧ Adds h h' ∧ ∃ s N X, u = s ∧ SpaceF (fun x => h.next ≤ x) h' s N X ∧ X.length ≤ 128 := by
  have ntv := hb.bytes.nt
  have csv := hb.bytes.cs
  refine callY_L (args := [v]) 9 _ [.cell 2 26] Tryz.func57 rfl rfl rfl ?_
  try simp (disch := first | omega | (simp; done) | fail) [wrap64c, if_pos, if_neg, opAnd, opOr, opXor, opDiff, opShr, opBit, ntv, csv]
  first | refine WY_heap fun h0 q_h0 => ?_ | refine callG_heap fun h0 q_h0 => ?_ | refine callP_heap fun h0 q_h0 => ?_ | refine callS_heap fun h0 q_h0 => ?_ | refine RY_heap fun h0 q_h0 => ?_ | refine PY_heap fun h0 q_h0 => ?_ | refine SY_heap fun h0 q_h0 => ?_ | refine doneY_heap fun h0 q_h0 => ?_ | refine loopK_heap fun h0 q_h0 => ?_ | refine thenY_heap fun h0 q_h0 => ?_ | refine thenM_heap fun h0 q_h0 => ?_
  have k0 : Adds h h0 := by rw [q_h0]; exact (by first | exact aK | exact kK)
  have n0 : h0.next = h.next + 2 := by simp [q_h0]
  have g0 : h0.get (h.next + 1) = .cells [v, .int .i64 0, .int .u64 0] true true 1 := by simp [q_h0]
  have gr0 : h0.get h.next = .cells [.int .i64 0, .slice none 0 0] true true 1 := by simp [q_h0]
  have c0 := cur_mk hb k0.1 ⟨by omega, by omega⟩ g0
  obtain ⟨_, h1, p1, d1, N, X, ⟨b, rfl, i1⟩, lX⟩ := space_ok h h0 (h.next + 1) 0 6 k0 c0 (by decide) (by decide)
  have ntb := i1.ints.nt
  have csb := i1.ints.cs
  have gr1 : h1.get h.next = .cells [.int .i64 0, .slice none 0 0] true true 1 := by rw [d1.sm _ (by omega) (by omega)]; exact gr0
  have hu2 : ∀ a b c d : Value, putCells [a, b] 0 [c, d] = [c, d] := fun _ _ _ _ => rfl
  refine callG_c (by simp) (by simp) ?ha (p1) ?_
  (case ha => simp (disch := first | omega | (simp; done) | fail) [wrap64c, if_pos, if_neg, opAnd, opOr, opXor, opDiff, opShr, opBit, ntv, csv, ntb, csb, gr1, hu2])
  try simp (disch := first | omega | (simp; done) | fail) [wrap64c, if_pos, if_neg, opAnd, opOr, opXor, opDiff, opShr, opBit, ntv, csv, ntb, csb, gr1, hu2]
  have hI : IntsF (fun x => h.next ≤ x) (h1.put h.next (.cells [.int .i64 N, b] true true 1)) b X := (i1.same (h := h1) (h' := h1.put h.next _) ⟨Nat.le_refl _, fun x hx _ => by simp [show x ≠ h.next by omega]⟩).sub fun x hx => by omega
  exact done_ret (vs := [.agg #[.int .i64 N, b]]) (by simp [resL]) ⟨d1.add.put (Nat.le_refl _) (fun _ => rfl), _, _, _, rfl, ⟨_, rfl, hI⟩, lX⟩
theorem drawFree_ok (h : Hp) (v : Value) (bs : List Int) (hb : BytesF h.next h v bs) : ∃ u h', CallOK Tryz.prog 7 #[v] h u h' ∧ Adds h h' ∧ ∃ s N X, u = s ∧ SpaceF (fun x => h.next ≤ x) h' s N X ∧ X.length ≤ 128 := by
  have ntv := hb.bytes.nt
  have csv := hb.bytes.cs
  refine callY_L (args := [v]) 5 _ [.cell 2 26] Tryz.func7 rfl rfl rfl ?_
  try simp (disch := first | omega | (simp; done) | fail) [wrap64c, if_pos, if_neg, opAnd, opOr, opXor, opDiff, opShr, opBit, ntv, csv]
  first | refine WY_heap fun h0 q_h0 => ?_ | refine callG_heap fun h0 q_h0 => ?_ | refine callP_heap fun h0 q_h0 => ?_ | refine callS_heap fun h0 q_h0 => ?_ | refine RY_heap fun h0 q_h0 => ?_ | refine PY_heap fun h0 q_h0 => ?_ | refine SY_heap fun h0 q_h0 => ?_ | refine doneY_heap fun h0 q_h0 => ?_ | refine loopK_heap fun h0 q_h0 => ?_ | refine thenY_heap fun h0 q_h0 => ?_ | refine thenM_heap fun h0 q_h0 => ?_
  have k0 : Adds h h0 := by rw [q_h0]; exact (by first | exact aK | exact kK)
  have n0 : h0.next = h.next + 1 := by simp [q_h0]
  have gr0 : h0.get h.next = .cells [.int .i64 0, .slice none 0 0] true true 1 := by simp [q_h0]
  obtain ⟨_, h1, p1, a1, s, N, X, rfl, ⟨b, rfl, i1⟩, lX⟩ := drawSizes_ok h0 v bs (bytes_old (hb.bytes.keep k0.1))
  have ntb := i1.ints.nt
  have csb := i1.ints.cs
  have gr1 : h1.get h.next = .cells [.int .i64 0, .slice none 0 0] true true 1 := by rw [a1.1.2 _ (by omega)]; exact gr0
  have hu2 : ∀ a b c d : Value, putCells [a, b] 0 [c, d] = [c, d] := fun _ _ _ _ => rfl
  refine callG_c (by simp) (by simp) ?ha (p1) ?_
  (case ha => simp (disch := first | omega | (simp; done) | fail) [wrap64c, if_pos, if_neg, opAnd, opOr, opXor, opDiff, opShr, opBit, ntv, csv, ntb, csb, gr1, hu2])
  try simp (disch := first | omega | (simp; done) | fail) [wrap64c, if_pos, if_neg, opAnd, opOr, opXor, opDiff, opShr, opBit, ntv, csv, ntb, csb, gr1, hu2]
  have hI : IntsF (fun x => h.next ≤ x) (h1.put h.next (.cells [.int .i64 N, b] true true 1)) b X := (i1.same (h := h1) (h' := h1.put h.next _) ⟨Nat.le_refl _, fun x hx _ => by simp [show x ≠ h.next by omega]⟩).sub fun x hx => by omega
  exact done_ret (vs := [.agg #[.int .i64 N, b]]) (by simp [resL]) ⟨(k0.trans a1).put (Nat.le_refl _) (fun _ => rfl), _, _, _, rfl, ⟨_, rfl, hI⟩, lX⟩
theorem drawWalk_ok (h : Hp) (v : Value) (bs : List Int) (hb : BytesF h.next h v bs) : ∃ u h', CallOK Tryz.prog 23 #[v] h u h' ∧ Adds h h' ∧ ∃ s N X w ch, u = .tuple #[s, w] ∧ SpaceF (fun x => h.next ≤ x) h' s N X ∧ X.length ≤ 128 ∧ Ints h' w ch ∧ ch.length ≤ 13 := by
  have ntv := hb.bytes.nt
  have csv := hb.bytes.cs
  refine callY_L (args := [v]) 12 _ [.cell 2 26, .tmp 3] Tryz.func23 rfl rfl rfl ?_
  try simp (disch := first | omega | (simp; done) | fail) [wrap64c, if_pos, if_neg, opAnd, opOr, opXor, opDiff, opShr, opBit, ntv, csv]
  first | refine WY_heap fun h0 q_h0 => ?_ | refine callG_heap fun h0 q_h0 => ?_ | refine callP_heap fun h0 q_h0 => ?_ | refine callS_heap fun h0 q_h0 => ?_ | refine RY_heap fun h0 q_h0 => ?_ | refine PY_heap fun h0 q_h0 => ?_ | refine SY_heap fun h0 q_h0 => ?_ | refine doneY_heap fun h0 q_h0 => ?_ | refine loopK_heap fun h0 q_h0 => ?_ | refine thenY_heap fun h0 q_h0 => ?_ | refine thenM_heap fun h0 q_h0 => ?_
  have k0 : Adds h h0 := by rw [q_h0]; exact (by first | exact aK | exact kK)
  have n0 : h0.next = h.next + 2 := by simp [q_h0]
  have g0 : h0.get (h.next + 1) = .cells [v, .int .i64 0, .int .u64 0] true true 1 := by simp [q_h0]
  have gr0 : h0.get h.next = .cells [.int .i64 0, .slice none 0 0] true true 1 := by simp [q_h0]
  have c0 := cur_mk hb k0.1 ⟨by omega, by omega⟩ g0
  obtain ⟨_, h1, p1, d1, N, X, ⟨b, rfl, i1⟩, lX⟩ := space_ok h h0 (h.next + 1) 0 6 k0 c0 (by decide) (by decide)
  have n1 := d1.nx
  have ntb := i1.ints.nt
  have csb := i1.ints.cs
  obtain ⟨w, h2, p2, d2, ch, i2, lch⟩ := choices_ok h h1 (h.next + 1) 300 d1.add (d1.cur.mono (by omega)) (by decide)
  have n2 := d2.nx
  have ntw := i2.nt
  have csw := (i2.own (by omega)).ints.cs
  have gr2 : h2.get h.next = .cells [.int .i64 0, .slice none 0 0] true true 1 := by rw [d2.sm _ (by omega) (by omega), d1.sm _ (by omega) (by omega)]; exact gr0
  have hu2 : ∀ a b c d : Value, putCells [a, b] 0 [c, d] = [c, d] := fun _ _ _ _ => rfl
  have i12 := i1.same (d2.same (S := fun x => h0.next < x) (fun p hp => by omega))
  refine callG_c (by simp) (by simp) ?ha (p1) ?_
  (case ha => simp (disch := first | omega | (simp; done) | fail) [wrap64c, if_pos, if_neg, opAnd, opOr, opXor, opDiff, opShr, opBit, ntv, csv, ntb, csb, ntw, csw, gr2, hu2])
  try simp (disch := first | omega | (simp; done) | fail) [wrap64c, if_pos, if_neg, opAnd, opOr, opXor, opDiff, opShr, opBit, ntv, csv, ntb, csb, ntw, csw, gr2, hu2]
  refine callG_c (by simp) (by simp) ?ha (p2) ?_
  (case ha => simp (disch := first | omega | (simp; done) | fail) [wrap64c, if_pos, if_neg, opAnd, opOr, opXor, opDiff, opShr, opBit, ntv, csv, ntb, csb, ntw, csw, gr2, hu2])
  try simp (disch := first | omega | (simp; done) | fail) [wrap64c, if_pos, if_neg, opAnd, opOr, opXor, opDiff, opShr, opBit, ntv, csv, ntb, csb, ntw, csw, gr2, hu2]
  have hI : IntsF (fun x => h.next ≤ x) (h2.put h.next (.cells [.int .i64 N, b] true true 1)) b X := (i12.same (h := h2) (h' := h2.put h.next _) ⟨Nat.le_refl _, fun x hx _ => by simp [show x ≠ h.next by omega]⟩).sub fun x hx => by omega
  have hW : Ints (h2.put h.next (.cells [.int .i64 N, b] true true 1)) w ch := (ints_cur (b := h2.put h.next (.cells [.int .i64 N, b] true true 1)) i2 (Nat.le_refl _) (fun p h1 h2 => by simp [show p ≠ h.next by omega])).own (by omega) |>.ints
  exact done_ret (vs := [.agg #[.int .i64 N, b], w]) (by simp [resL]) ⟨d2.add.put (Nat.le_refl _) (fun _ => rfl), _, _, _, _, _, rfl, ⟨_, rfl, hI⟩, lX, hW, lch⟩
end Go.Proofs.YtnncipcldbopgaaGreat
namespace Go.Proofs.YtnncipcldbopgaaGreat
set_option linter.unusedSimpArgs false
set_option linter.unusedVariables false
set_option maxHeartbeats 4000000
open Go Go.Eng
attribute [local irreducible] WD RunD PreD Runs CallOK
end Go.Proofs.YtnncipcldbopgaaGreat
namespace Go.Proofs.YtnncipcldbopgaaGreat
set_option linter.unusedSimpArgs false
set_option linter.unusedVariables false
set_option maxHeartbeats 4000000
open Go Go.Eng
attribute [local irreducible] WD RunD PreD Runs CallOK
theorem iHas_ok (h : Hp) (v : Value) (X : List Int) (c : Int) (hv : Ints h v X) : CallOK Tryz.prog 22 #[v, .int .i64 c] h (.bool (decide (c ∈ X))) h := by
  refine callY_P 17 _ [.tmp 4] Tryz.func22 rfl rfl rfl (by first | rfl | simp) ?_
  have hL := hv.lenD
  have hlen := hv.len
  try simp (disch := first | omega | (simp; done) | fail) [wrap64c, if_pos, if_neg, opAnd, opOr, opXor, opDiff, opShr, opBit, hL]
  refine WD_loopC [1, 7, 8] (fun m tm h' => ∃ j, m = X.length - j ∧ h = h' ∧ tm 9 = .int .i64 (j : Int) ∧ (j ≤ X.length) ∧ (¬ c ∈ X.take j)) _ ⟨0, rfl, rfl, (by simp (disch := first | omega | (simp; done) | fail) [wrap64c, if_pos, if_neg, opAnd, opOr, opXor, opDiff, opShr, opBit, hL]), (by first | omega | assumption | (simp (disch := first | omega | (simp; done) | fail) [wrap64c, if_pos, if_neg, opAnd, opOr, opXor, opDiff, opShr, opBit, hL] <;> omega)), (by simp)⟩ ?_
  rintro m tm h' hFr ⟨j, rfl, rfl, e9, hj, hn⟩
  simp only [FrameL] at hFr
  obtain ⟨f1_0, f7_0, f8_0, -⟩ := hFr
  try simp (disch := first | omega | (simp; done) | fail) [wrap64c, if_pos, if_neg, opAnd, opOr, opXor, opDiff, opShr, opBit, hL] at f1_0 f7_0 f8_0
  have e1 := f1_0
  have e7 := f7_0
  have e8 := f8_0
  by_cases hlt : j < X.length
  · obtain ⟨o_x, i_x, c_x, cs_x, own_x, ex_x, es_x, q_x, b_x, g_x, l_x, r_x⟩ := hv.open ((by omega))
    have z_x : ∀ h2 : i_x < cs_x.length, cs_x[i_x] = _ := fun h2 => r_x 0 ((by omega)) h2
    by_cases he : X[j] = c
    · have he' : (X[j] == c) = true := by simp [he]
      try simp (disch := first | omega | (simp; done) | fail) [wrap64c, if_pos, if_neg, opAnd, opOr, opXor, opDiff, opShr, opBit, hL, e1, e7, e8, e9, hlt, q_x, g_x, l_x, r_x, z_x, he']
      have : c ∈ X := he ▸ List.getElem_mem hlt
      exact done_ret rfl (by simp [this])
    · have he' : (X[j] == c) = false := by simp [he]
      try simp (disch := first | omega | (simp; done) | fail) [wrap64c, if_pos, if_neg, opAnd, opOr, opXor, opDiff, opShr, opBit, hL, e1, e7, e8, e9, hlt, q_x, g_x, l_x, r_x, z_x, he']
      refine loopK_next _ ?hm ?hf ⟨j + 1, rfl, rfl, (by simp (disch := first | omega | (simp; done) | fail) [wrap64c, if_pos, if_neg, opAnd, opOr, opXor, opDiff, opShr, opBit, hL, e1, e7, e8, e9, hlt, q_x, g_x, l_x, r_x, z_x, he'] <;> omega), (by first | omega | assumption | (simp (disch := first | omega | (simp; done) | fail) [wrap64c, if_pos, if_neg, opAnd, opOr, opXor, opDiff, opShr, opBit, hL, e1, e7, e8, e9, hlt, q_x, g_x, l_x, r_x, z_x, he'] <;> omega)), (by rw [List.take_succ_eq_append_getElem hlt]; simp only [List.mem_append, List.mem_singleton, not_or]; exact ⟨hn, fun e => he e.symm⟩)⟩
      (case hm => first | omega | (simp; omega))
      (case hf => simp [FrameL, hL, e1, e7, e8, e9, hlt, q_x, g_x, l_x, r_x, z_x, he', f1_0, f7_0, f8_0])
  · have hft : X.take j = X := List.take_of_length_le (by omega)
    rw [hft] at hn
    try simp (disch := first | omega | (simp; done) | fail) [wrap64c, if_pos, if_neg, opAnd, opOr, opXor, opDiff, opShr, opBit, hL, e1, e7, e8, e9, hlt]
    exact done_ret rfl (by simp [hn])
theorem implExtOf_ok (h : Hp) (v : Value) (n : Nat) (xs : List Nat) (a : Nat) (hv : Space h v n (toN xs)) (g : SpGood n xs) (ha : a < bit n) : CallOK Tryz.prog 19 #[v, .int .i64 (a : Int)] h (.tuple #[.int .i64 ((extN n xs a : Nat) : Int), .bool true]) h := by
  refine callY_P 13 _ [.tmp 4, .tmp 5] Tryz.func19 rfl rfl rfl (by first | rfl | simp) ?_
  obtain ⟨b, rfl, hX⟩ := hv
  refine WD_first ?_
  try simp (disch := first | omega | (simp; done) | fail) [wrap64c, if_pos, if_neg, opAnd, opOr, opXor, opDiff, opShr, opBit]
  refine stopK_heap fun h0 q_h0 => ?_
  refine stopK_go ?_
  have g_h0 : h0.get h.next = .cells [.int .i64 n, b] true true 1 := by simp [q_h0]
  have k_h0 : Adds h h0 := by rw [q_h0]; exact (by first | exact aK | exact kK)
  have n_h0 : h.next < h0.next := by simp [q_h0]; try omega
  have hX0 := hX.keep k_h0.1
  have K0 := k_h0.1
  have hb := bit7 g.n7
  have hl : (toN xs).length < 2 ^ 40 := by rw [toN_length]; have := g.len7; omega
  have hin : (spB (n : Int) (toN xs) && setB ((n : Int)).toNat (a : Int)) = true := by
    rw [spB_of g, Bool.true_and]
    unfold setB
    simp
    omega
  have p0 := hasSet_ok h0 (.agg #[.int .i64 n, b]) n (toN xs) (a : Int) (.mk hX0) hl
  rw [hin] at p0
  try simp (disch := first | omega | (simp; done) | fail) [wrap64c, if_pos, if_neg, opAnd, opOr, opXor, opDiff, opShr, opBit, g_h0]
  refine callG_c (by simp) (by simp) ?ha (p0) ?_
  (case ha => simp (disch := first | omega | (simp; done) | fail) [wrap64c, if_pos, if_neg, opAnd, opOr, opXor, opDiff, opShr, opBit, g_h0])
  try simp (disch := first | omega | (simp; done) | fail) [wrap64c, if_pos, if_neg, opAnd, opOr, opXor, opDiff, opShr, opBit, g_h0]
  refine callG_c (by simp) (by simp) ?ha (extreme_ok h0 (.agg #[.int .i64 n, b]) n xs a (.mk hX0) g.n7 g.lt7 (by omega) (by rw [toN_length] at hl; exact hl)) ?_
  (case ha => simp (disch := first | omega | (simp; done) | fail) [wrap64c, if_pos, if_neg, opAnd, opOr, opXor, opDiff, opShr, opBit, g_h0])
  try simp (disch := first | omega | (simp; done) | fail) [wrap64c, if_pos, if_neg, opAnd, opOr, opXor, opDiff, opShr, opBit, g_h0]
  exact done_ret rfl (by simp [K0])
theorem implConvex_ok (h : Hp) (v : Value) (n : Nat) (xs : List Nat) (a : Nat) (hv : Space h v n (toN xs)) (g : SpGood n xs) (ha : a < bit n) : CallOK Tryz.prog 18 #[v, .int .i64 (a : Int)] h (.tuple #[.bool (fam xs (ndiff (bit n - 1) a)), .bool true]) h := by
  refine callY_P 19 _ [.tmp 4, .tmp 5] Tryz.func18 rfl rfl rfl (by first | rfl | simp) ?_
  obtain ⟨b, rfl, hX⟩ := hv
  refine WD_first ?_
  try simp (disch := first | omega | (simp; done) | fail) [wrap64c, if_pos, if_neg, opAnd, opOr, opXor, opDiff, opShr, opBit]
  refine stopK_heap fun h0 q_h0 => ?_
  refine stopK_go ?_
  have g_h0 : h0.get h.next = .cells [.int .i64 n, b] true true 1 := by simp [q_h0]
  have k_h0 : Adds h h0 := by rw [q_h0]; exact (by first | exact aK | exact kK)
  have n_h0 : h.next < h0.next := by simp [q_h0]; try omega
  have hX0 := hX.keep k_h0.1
  have K0 := k_h0.1
  have hb := bit7 g.n7
  have hl : (toN xs).length < 2 ^ 40 := by rw [toN_length]; have := g.len7; omega
  have hin : (spB (n : Int) (toN xs) && setB ((n : Int)).toNat (a : Int)) = true := by
    rw [spB_of g, Bool.true_and]
    unfold setB
    simp
    omega
  have p0 := hasSet_ok h0 (.agg #[.int .i64 n, b]) n (toN xs) (a : Int) (.mk hX0) hl
  rw [hin] at p0
  obtain ⟨_, h1, p1, o1, rfl, a1, b1, b2, q1⟩ := family_ok h0 (.agg #[.int .i64 n, b]) n xs (.mk hX0) g.lt7 (by simpa using hl)
  have K1 := K0.trans a1.1
  have hX1 := hX0.keep a1.1
  have q1' := q1
  have g1 : h1.get h.next = .cells [.int .i64 n, b] true true 1 := by rw [a1.1.2 _ n_h0]; exact g_h0
  obtain ⟨z, hz⟩ : ∃ z, z = ndiff (bit n - 1) a := ⟨_, rfl⟩
  have z128 : z < 128 := by have := ndiff128 (a := bit n - 1) (b := a) (by omega); omega
  rw [← hz]
  have hze : ndiff (bit n - 1) a = z := hz.symm
  have hf := famC_getD (fam xs) z z128
  have hfl : z < (famC (fam xs)).length := by simp [famC]; exact z128
  have hfa := famC_at (fam xs)
  try simp (disch := first | omega | (simp; done) | fail) [wrap64c, if_pos, if_neg, opAnd, opOr, opXor, opDiff, opShr, opBit, g_h0, q1', g1, hze, hf, hfl, hfa]
  refine callG_c (by simp) (by simp) ?ha (p0) ?_
  (case ha => simp (disch := first | omega | (simp; done) | fail) [wrap64c, if_pos, if_neg, opAnd, opOr, opXor, opDiff, opShr, opBit, g_h0, q1', g1, hze, hf, hfl, hfa])
  try simp (disch := first | omega | (simp; done) | fail) [wrap64c, if_pos, if_neg, opAnd, opOr, opXor, opDiff, opShr, opBit, g_h0, q1', g1, hze, hf, hfl, hfa]
  refine WD_drawC 7 rfl (by kernel_rfl) ?_
  try simp (disch := first | omega | (simp; done) | fail) [wrap64c, if_pos, if_neg, opAnd, opOr, opXor, opDiff, opShr, opBit, g_h0, q1', g1, hze, hf, hfl, hfa]
  refine callP_c (by simp) (by simp) ?ha (p1) ?hadd ?_
  (case ha => simp (disch := first | omega | (simp; done) | fail) [wrap64c, if_pos, if_neg, opAnd, opOr, opXor, opDiff, opShr, opBit, g_h0, q1', g1, hze, hf, hfl, hfa])
  (case hadd => first | assumption | exact adds_self _ | (simp; done))
  try simp (disch := first | omega | (simp; done) | fail) [wrap64c, if_pos, if_neg, opAnd, opOr, opXor, opDiff, opShr, opBit, g_h0, q1', g1, hze, hf, hfl, hfa]
  refine callP_c (by simp) (by simp) ?ha (all_ok h1 (.agg #[.int .i64 n, b]) n (toN xs) (.mk hX1) (by have := g.n7; omega)) ?hadd ?_
  (case ha => simp (disch := first | omega | (simp; done) | fail) [wrap64c, if_pos, if_neg, opAnd, opOr, opXor, opDiff, opShr, opBit, g_h0, q1', g1, hze, hf, hfl, hfa])
  (case hadd => first | assumption | exact adds_self _ | (simp; done))
  try simp (disch := first | omega | (simp; done) | fail) [wrap64c, if_pos, if_neg, opAnd, opOr, opXor, opDiff, opShr, opBit, g_h0, q1', g1, hze, hf, hfl, hfa]
  exact done_ret rfl (by simp [K1])
end Go.Proofs.YtnncipcldbopgaaGreat
namespace Go.Proofs.YtnncipcldbopgaaGreat
set_option linter.unusedSimpArgs false
set_option linter.unusedVariables false
set_option maxHeartbeats 4000000
open Go Go.Eng
attribute [local irreducible] WD RunD PreD Runs CallOK
def frP (n : Nat) (xs : List Nat) (i o : Int) (x : Nat) : Bool := ((innerN (fam xs) x : Nat) : Int) == i && ((outerN (fam xs) n x : Nat) : Int) == o
noncomputable def frR (N : Int) (X : List Int) (i o : Int) : Option Nat := if (inB N X i && setB N.toNat o) = true then (natsOf X).find? (frP N.toNat (natsOf X) i o) else none
noncomputable def frV (N : Int) (X : List Int) (i o : Int) : Int := match frR N X i o with | some x => (x : Int) | none => 0
end Go.Proofs.YtnncipcldbopgaaGreat
namespace Go.Proofs.YtnncipcldbopgaaGreat
set_option linter.unusedSimpArgs false
set_option linter.unusedVariables false
set_option maxHeartbeats 4000000
open Go Go.Eng
attribute [local irreducible] WD RunD PreD Runs CallOK
def kle (a b : Nat) : Prop := pcN a < pcN b ∨ pcN a = pcN b ∧ a ≤ b
def lasI (a o x : Nat) : Nat := if ndiff a x = 0 ∧ (pcN x < pcN o ∨ pcN x = pcN o ∧ x < o) then x else o
def lasS (a o x : Nat) : Nat := if ndiff a x = 0 ∧ pcN x ≤ pcN o then x else o
structure LeastOf (a f : Nat) (l : List Nat) (o : Nat) : Prop where
  mem : o ∈ l ∨ o = f
  abv : ndiff a o = 0
  top : kle o f
  low : ∀ x ∈ l, ndiff a x = 0 → kle o x
def aboveF (a f : Nat) (l : List Nat) : Nat := l.foldl (lasI a) f
def aboveB (a f : Nat) (l : List Nat) : Nat := l.foldr (fun x o => lasS a o x) f
noncomputable def aboveR (N : Int) (X : List Int) (a : Int) : Int := if inB N X a = true then ((aboveF a.toNat (bit N.toNat - 1) (natsOf X) : Nat) : Int) else 0
end Go.Proofs.YtnncipcldbopgaaGreat
namespace Go.Proofs.YtnncipcldbopgaaGreat
set_option linter.unusedSimpArgs false
set_option linter.unusedVariables false
set_option maxHeartbeats 4000000
open Go Go.Eng
attribute [local irreducible] WD RunD PreD Runs CallOK
theorem great_sub (xs : List Nat) (a : Nat) : ndiff (greatN xs a) a = 0 := by
  rw [ndiff_zero]
  intro i hi
  unfold greatN at hi
  rw [greatF_bit] at hi
  rcases hi with h | ⟨x, h1, h2, h3⟩
  · simp at h
  · exact (ndiff_zero _ _).1 h2 i h3
theorem great_top {xs : List Nat} {a y : Nat} (hy : y ∈ xs) (h : ndiff y a = 0) : ndiff y (greatN xs a) = 0 := by
  rw [ndiff_zero]
  intro i hi
  unfold greatN
  rw [greatF_bit]
  exact .inr ⟨y, hy, h, hi⟩
theorem greatF_mem {n : Nat} {xs : List Nat} (g : SpGood n xs) (a : Nat) : ∀ (l : List Nat) (o : Nat), o ∈ xs → (∀ x ∈ l, x ∈ xs) → greatF a l o ∈ xs
  | [], o, h, _ => h
  | x :: l, o, h, hl => by
    rw [greatF]
    apply greatF_mem g a l _ _ fun y hy => hl y (by simp [hy])
    split
    · exact g.uni o h x (hl x (by simp))
    · exact h
theorem great_mem {n : Nat} {xs : List Nat} (g : SpGood n xs) (a : Nat) : greatN xs a ∈ xs := greatF_mem g a xs 0 g.zero fun _ h => h
theorem ndiff_anti {a b : Nat} (h1 : ndiff a b = 0) (h2 : ndiff b a = 0) : a = b := by
  apply Nat.eq_of_testBit_eq
  intro i
  rw [Bool.eq_iff_iff]
  exact ⟨(ndiff_zero _ _).1 h1 i, (ndiff_zero _ _).1 h2 i⟩
end Go.Proofs.YtnncipcldbopgaaGreat
