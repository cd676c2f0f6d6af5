/- NamesKept by both sides. -/
import Derived.Test.YtnjabaeajjhliaaT11
import Derived.Test.YtnjabaeajjhliaaS8
namespace Go.Proofs.Ytnjabaeajjhliaa
set_option linter.unusedSimpArgs false
set_option linter.unusedVariables false
set_option maxHeartbeats 4000000
open Go Go.Eng
attribute [local irreducible] WD RunD PreD Runs CallOK

def OrdN (n : Nat) (w : List Nat) : Prop := w.length = n ∧ ∀ k, k < w.length → w.getD k 0 < n
theorem ordN_perms (n : Nat) : ∀ w ∈ permsF n n [], OrdN n w := fun w hw => by
  have := permsF_mem n n [] (fun x hx => by cases hx) w hw
  exact ⟨by simpa using this.1, fun k hk => by
    rw [List.getD_eq_getElem?_getD, List.getElem?_eq_getElem hk]
    exact this.2 _ (List.getElem_mem hk)⟩
/-- How many orders make the same sets. -/
def keptN (n : Nat) (xs : List Nat) : Nat := ((permsF n n []).filter fun w => decide (namedN n w xs = xs)).length
noncomputable def keptR (N : Int) (X : List Int) : Int := if fewB N X = true then (keptN N.toNat (natsOf X) : Int) else 0
theorem foldl_count {α : Type} (p : α → Bool) : ∀ (l : List α) (s : Nat), l.foldl (fun s w => if p w = true then s + 1 else s) s = s + (l.filter p).length
  | [], s => rfl
  | a :: l, s => by
    rw [List.foldl_cons, foldl_count p l]
    by_cases h : p a = true <;> simp [h]; omega
theorem perms_lt {n : Nat} (hn : n ≤ 7) (k : Nat) (hk : k ≤ 7) (l : List Nat) : (permsF n k l).length ≤ 823543 := by
  have h1 := permsF_len n k l
  have h2 : n ^ k ≤ 7 ^ k := Nat.pow_le_pow_left hn k
  have h3 : 7 ^ k ≤ 7 ^ 7 := Nat.pow_le_pow_right (by omega) hk
  have h4 : (7 : Nat) ^ 7 = 823543 := by decide
  omega
theorem kept_le {n : Nat} (hn : n ≤ 7) (xs : List Nat) : keptN n xs ≤ 823543 := by
  have h1 := perms_lt hn n hn []
  have h2 := List.length_filter_le (fun w => decide (namedN n w xs = xs)) (permsF n n [])
  unfold keptN; omega

theorem wrap_eq (x : Int) : IntKind.wrap .i64 x = if x % 18446744073709551616 ≥ 9223372036854775808 then x % 18446744073709551616 - 18446744073709551616 else x % 18446744073709551616 := by
  have e : IntKind.wrap .i64 x = if (true && decide (x % 18446744073709551616 ≥ 9223372036854775808)) = true then x % 18446744073709551616 - 18446744073709551616 else x % 18446744073709551616 := rfl
  rw [e]; simp
theorem wrap_succ (x : Int) : IntKind.wrap .i64 (IntKind.wrap .i64 x + 1) = IntKind.wrap .i64 (x + 1) := by
  rw [wrap_eq (IntKind.wrap .i64 x + 1), wrap_eq x, wrap_eq (x + 1)]
  split <;> split <;> split <;> omega
theorem cmp_named {n : Nat} {w xs : List Nat} : cmpL (toN (namedN n w xs)) (toN xs) = 0 ↔ namedN n w xs = xs := by
  rw [cmpL_zero, toN_inj]

theorem implKept_ok (h : Hp) (v : Value) (N : Int) (X : List Int) (hv : Space h v N X) (hl : X.length < 2 ^ 40) :
    CallOK Try.prog 34 #[v] h (.tuple #[.int .i64 (keptR N X), .bool (fewB N X)]) h := by
  refine callY_P 13 _ [.tmp 2, .tmp 3] Try.func34 rfl rfl rfl (by first | rfl | simp) ?_
  obtain ⟨b, rfl, hX⟩ := hv
  refine WD_first ?_
  try simp (disch := first | omega | (simp; done) | fail) [wrap64c, if_pos, if_neg, opAnd, opOr, opXor, opDiff, opShr, opBit]
  refine stopK_heap fun h0 q_h0 => ?_
  refine stopK_go ?_
  have g_h0 : h0.get h.next = .cells [.int .i64 N, b] true true 1 := by simp [q_h0]
  have k_h0 : Adds h h0 := by rw [q_h0]; exact (by first | exact aK | exact kK)
  have n_h0 : h.next < h0.next := by simp [q_h0]; try omega
  have hX0 := hX.keep k_h0.1
  have K0 := k_h0.1
  try simp (disch := first | omega | (simp; done) | fail) [wrap64c, if_pos, if_neg, opAnd, opOr, opXor, opDiff, opShr, opBit, g_h0]
  refine callG_c (by simp) (by simp) ?ha (isFew_ok h0 (.agg #[.int .i64 N, b]) N X (.mk hX0) hl) ?_
  (case ha => simp (disch := first | omega | (simp; done) | fail) [wrap64c, if_pos, if_neg, opAnd, opOr, opXor, opDiff, opShr, opBit, g_h0])
  cases c1 : fewB N X
  · try simp (disch := first | omega | (simp; done) | fail) [wrap64c, if_pos, if_neg, opAnd, opOr, opXor, opDiff, opShr, opBit, g_h0, c1]
    exact done_ret rfl (by simp [c1, keptR, K0])
  · obtain ⟨n, xs, hN, hXe, g, h5⟩ := fewB_true c1
    have hNt : N = (n : Int) := hN
    have n7 := g.n7
    have hb7 := bit7 n7
    have hl7 := g.len7
    try simp (disch := first | omega | (simp; done) | fail) [wrap64c, if_pos, if_neg, opAnd, opOr, opXor, opDiff, opShr, opBit, g_h0, c1, hNt, putCells]
    first | refine WY_heap fun h1 q_h1 => ?_ | refine callG_heap fun h1 q_h1 => ?_ | refine callP_heap fun h1 q_h1 => ?_ | refine RY_heap fun h1 q_h1 => ?_ | refine PY_heap fun h1 q_h1 => ?_ | refine doneY_heap fun h1 q_h1 => ?_ | refine loopK_heap fun h1 q_h1 => ?_ | refine thenY_heap fun h1 q_h1 => ?_ | refine thenM_heap fun h1 q_h1 => ?_
    have k1 : Adds h0 h1 := by rw [q_h1]; exact (by first | exact aK | exact kK)
    have n1 : h1.next = h0.next + 1 := by simp [q_h1]
    have g1 : h1.get h.next = .cells [.int .i64 N, b] true true 1 := by rw [k1.1.2 _ (by omega)]; exact g_h0
    have gc1 : h1.get h0.next = .cells [.int .i64 0] true true 1 := by simp [q_h1]
    have hX1 := hX0.keep k1.1
    have D : DoerN (fun (s : Nat) (T : Nat → Prop) h' => (∀ o, T o → False) ∧ h'.get h.next = .cells [.int .i64 N, b] true true 1 ∧ h'.get h0.next = .cells [.int .i64 (IntKind.wrap .i64 (s : Int))] true true 1 ∧ IntsF (fun x => x < h0.next) h' b X) (fun s w => if decide (namedN n w xs = xs) = true then s + 1 else s) (OrdN n) h1.next (fun o => o = h0.next) 82 #[.pointer (some ⟨h.next, 0, none⟩), .pointer (some ⟨h0.next, 0, none⟩)] := {
      stab := fun s T h' h'' hp hb1 hb2 hs => ⟨hp.1, by rw [hs _ (by omega) (.inl (by omega))]; exact hp.2.1, by rw [hs _ (by omega) (.inl (by omega))]; exact hp.2.2.1, hp.2.2.2.same ⟨hb2, fun q hq hl => hs q hl (.inl (by omega))⟩⟩
      run := fun s T h' w v hp hb1 hv hg => by
        obtain ⟨hT, gs, gc, hb⟩ := hp
        have gs := gs
        have gc := gc
        have key : ∃ v' h'', CallOK Try.prog 82 #[v, .pointer (some ⟨h.next, 0, none⟩), .pointer (some ⟨h0.next, 0, none⟩)] h' v' h'' ∧ ∃ h2, Adds h' h2 ∧ h'' = if decide (namedN n w xs = xs) = true then h2.put h0.next (.cells [.int .i64 (IntKind.wrap .i64 ((s + 1 : Nat) : Int))] true true 1) else h2 := by
          refine callY_L (args := [v, .pointer (some ⟨h.next, 0, none⟩), .pointer (some ⟨h0.next, 0, none⟩)]) 12 _ [] Try.func82 rfl rfl rfl ?_
          have hbb := hb.ints
          rw [hXe] at hbb
          obtain ⟨_, h2, hc2, ha2, d, rfl, hd⟩ := rename_ok h' (.agg #[.int .i64 (n : Int), b]) v n xs w (.mk hbb) hv n7 g.lt (by omega) hg.1 hg.2
          try simp (disch := first | omega | (simp; done) | fail) [wrap64c, if_pos, if_neg, opAnd, opOr, opXor, opDiff, opShr, opBit, g_h0, c1, hNt, gs, gc]
          refine WD_drawC 4 rfl (by kernel_rfl) ?_
          try simp (disch := first | omega | (simp; done) | fail) [wrap64c, if_pos, if_neg, opAnd, opOr, opXor, opDiff, opShr, opBit, g_h0, c1, hNt, gs, gc]
          refine callP_c (by simp) (by simp) ?ha (hc2) ?hadd ?_
          (case ha => simp (disch := first | omega | (simp; done) | fail) [wrap64c, if_pos, if_neg, opAnd, opOr, opXor, opDiff, opShr, opBit, g_h0, c1, hNt, gs, gc])
          (case hadd => first | assumption | exact adds_self _ | (simp; done))
          have gs2 : h2.get h.next = .cells [.int .i64 N, b] true true 1 := by rw [ha2.1.2 _ (by omega)]; exact gs
          have gc2 : h2.get h0.next = .cells [.int .i64 (IntKind.wrap .i64 (s : Int))] true true 1 := by rw [ha2.1.2 _ (by omega)]; exact gc
          try simp (disch := first | omega | (simp; done) | fail) [wrap64c, if_pos, if_neg, opAnd, opOr, opXor, opDiff, opShr, opBit, g_h0, c1, hNt, gs, gc, gs2, gc2]
          refine callG_c (by simp) (by simp) ?ha (compare_ok h2 (.agg #[.int .i64 (n : Int), d]) (.agg #[.int .i64 (n : Int), b]) n n _ (toN xs) (.mk hd.ints) (.mk (hbb.keep ha2.1))) ?_
          (case ha => simp (disch := first | omega | (simp; done) | fail) [wrap64c, if_pos, if_neg, opAnd, opOr, opXor, opDiff, opShr, opBit, g_h0, c1, hNt, gs, gc, gs2, gc2])
          by_cases hc : namedN n w xs = xs
          · have hz : cmpL (toN (namedN n w xs)) (toN xs) = 0 := cmp_named.2 hc
            try simp (disch := first | omega | (simp; done) | fail) [wrap64c, if_pos, if_neg, opAnd, opOr, opXor, opDiff, opShr, opBit, g_h0, c1, hNt, gs, gc, gs2, gc2, hz, putCells, wrap_succ]
            exact done_end rfl ⟨h2, ha2, by simp [hc]⟩
          · have hz : (cmpL (toN (namedN n w xs)) (toN xs) == 0) = false := by simp [cmp_named, hc]
            try simp (disch := first | omega | (simp; done) | fail) [wrap64c, if_pos, if_neg, opAnd, opOr, opXor, opDiff, opShr, opBit, g_h0, c1, hNt, gs, gc, gs2, gc2, hz, putCells]
            exact done_end rfl ⟨h2, ha2, by simp [hc]⟩
        obtain ⟨u, h3, hc3, h2, ha2, he⟩ := key
        refine ⟨u, h3, hc3, ?_, fun _ => False, ⟨fun _ hf => hf, ?_, ?_, ?_⟩, fun _ hf => hf.elim⟩
        · rw [he]
          split
          · exact (Wr.of_adds ha2).put (.inl rfl) fun _ => rfl
          · exact .of_adds ha2
        · rw [he]
          split
          · simp [show h.next ≠ h0.next by omega]
            rw [ha2.1.2 _ (by omega)]; exact gs
          · rw [ha2.1.2 _ (by omega)]; exact gs
        · rw [he]
          split
          · simp
          · rw [ha2.1.2 _ (by omega)]; exact gc
        · rw [he]
          have h1 := hb.keep ha2.1
          split
          · exact h1.same ⟨by simp, fun q hq hl => by simp [show q ≠ h0.next by omega]⟩
          · exact h1
      low := fun o ho => by omega
      fn := by simp }
    obtain ⟨u, h2, hc2, W2, T2, P2, hT2⟩ := orders_ok _ _ _ _ _ _ _ D n g.n1 n7 h1 0 ⟨fun _ hf => hf, g1, gc1, ((hX.old.keep k_h0.1).keep k1.1).sub fun o ho => by omega⟩ (Nat.le_refl _) (ordN_perms n)
    refine callG_c (by simp) (by simp) ?ha (hc2) ?_
    (case ha => simp (disch := first | omega | (simp; done) | fail) [wrap64c, if_pos, if_neg, opAnd, opOr, opXor, opDiff, opShr, opBit, g_h0, c1, hNt])
    rw [foldl_count] at P2
    have hk := kept_le n7 xs
    have gc2 := P2.2.2.1
    rw [wrap64c _ (by unfold keptN at hk; omega) (by unfold keptN at hk; omega)] at gc2
    have gc2 := gc2
    try simp (disch := first | omega | (simp; done) | fail) [wrap64c, if_pos, if_neg, opAnd, opOr, opXor, opDiff, opShr, opBit, g_h0, c1, hNt, gc2]
    have A2 : Keeps h h2 := ⟨by have := K0.1; have := k1.1.1; have := W2.upd.1; omega, fun o ho => by rw [W2.upd.2 o (by omega) (by omega), k1.1.2 o (by omega), K0.2 o ho]⟩
    have c2 : fewB (n : Int) (toN xs) = true := by rw [← hNt, ← hXe]; exact c1
    exact done_ret rfl (by simp [c2, keptR, A2, hNt, hXe, keptN])

theorem nilInts (h : Hp) : Ints h (.slice none 0 0) (toN []) := (IntsO.nil (fun _ => False) h).ints
theorem filter_take_le {α : Type} (p : α → Bool) (l : List α) (j : Nat) : ((l.take j).filter p).length ≤ l.length := by
  have h1 := List.length_filter_le p (l.take j)
  have h2 : (l.take j).length ≤ l.length := by simp; omega
  omega

theorem specKept_ok (h : Hp) (v : Value) (N : Int) (X : List Int) (hv : Space h v N X) (hl : X.length < 2 ^ 40) :
    CallOK Try.prog 33 #[v] h (.tuple #[.int .i64 (keptR N X), .bool (fewB N X)]) h := by
  refine callY_P 28 _ [.tmp 2, .tmp 3] Try.func33 rfl rfl rfl (by first | rfl | simp) ?_
  obtain ⟨b, rfl, hX⟩ := hv
  refine WD_first ?_
  try simp (disch := first | omega | (simp; done) | fail) [wrap64c, if_pos, if_neg, opAnd, opOr, opXor, opDiff, opShr, opBit]
  refine stopK_heap fun h0 q_h0 => ?_
  refine stopK_go ?_
  have g_h0 : h0.get h.next = .cells [.int .i64 N, b] true true 1 := by simp [q_h0]
  have k_h0 : Adds h h0 := by rw [q_h0]; exact (by first | exact aK | exact kK)
  have n_h0 : h.next < h0.next := by simp [q_h0]; try omega
  have hX0 := hX.keep k_h0.1
  have K0 := k_h0.1
  try simp (disch := first | omega | (simp; done) | fail) [wrap64c, if_pos, if_neg, opAnd, opOr, opXor, opDiff, opShr, opBit, g_h0]
  refine callG_c (by simp) (by simp) ?ha (alFew_ok h0 (.agg #[.int .i64 N, b]) N X (.mk hX0) hl) ?_
  (case ha => simp (disch := first | omega | (simp; done) | fail) [wrap64c, if_pos, if_neg, opAnd, opOr, opXor, opDiff, opShr, opBit, g_h0])
  cases c1 : fewB N X
  · try simp (disch := first | omega | (simp; done) | fail) [wrap64c, if_pos, if_neg, opAnd, opOr, opXor, opDiff, opShr, opBit, g_h0, c1]
    exact done_ret rfl (by simp [c1, keptR, K0])
  · obtain ⟨n, xs, hN, hXe, g, h5⟩ := fewB_true c1
    have hNt : N = (n : Int) := hN
    have n7 := g.n7
    have hb7 := bit7 n7
    have hl7 := g.len7
    have hb0 : Ints h0 b (toN xs) := hXe ▸ hX0
    try simp (disch := first | omega | (simp; done) | fail) [wrap64c, if_pos, if_neg, opAnd, opOr, opXor, opDiff, opShr, opBit, g_h0, c1, hNt]
    obtain ⟨u, h1, hc1, ha1, hG1⟩ := alOrders_ok n n7 n h0 (.slice none 0 0) [] (nilInts h0) (by simp)
    refine callG_c (by simp) (by simp) ?ha (hc1) ?_
    (case ha => simp (disch := first | omega | (simp; done) | fail) [wrap64c, if_pos, if_neg, opAnd, opOr, opXor, opDiff, opShr, opBit, g_h0, c1, hNt])
    obtain ⟨L, hLe⟩ : ∃ L, L = permsF n n [] := ⟨_, rfl⟩
    have hLl : L.length ≤ 823543 := by rw [hLe]; exact perms_lt n7 n n7 []
    have hLg : ∀ w ∈ L, OrdN n w := by rw [hLe]; exact ordN_perms n
    rw [← hLe] at hG1
    have hR1 := (hG1.read (by rw [rowsN_length]; omega)).rows
    have hM := hR1.lenD
    have hln := rowsN_length L
    have g1 : h1.get h.next = .cells [.int .i64 N, b] true true 1 := by rw [ha1.1.2 _ (by omega)]; exact g_h0
    have K1 := K0.trans ha1.1
    try simp (disch := first | omega | (simp; done) | fail) [wrap64c, if_pos, if_neg, opAnd, opOr, opXor, opDiff, opShr, opBit, g_h0, c1, hNt, hM, hln]
    refine WD_loopC [1, 12, 13] (fun m tm h' => ∃ j, m = L.length - j ∧ tm 4 = .int .i64 ((((L.take j).filter fun w => decide (namedN n w xs = xs)).length : Nat) : Int) ∧ tm 14 = .int .i64 (j : Int) ∧ (j ≤ L.length) ∧ (Adds h1 h')) _ ⟨0, rfl, (by simp), (by simp (disch := first | omega | (simp; done) | fail) [wrap64c, if_pos, if_neg, opAnd, opOr, opXor, opDiff, opShr, opBit, g_h0, c1, hNt, hM, hln]), (by first | omega | assumption | (simp (disch := first | omega | (simp; done) | fail) [wrap64c, if_pos, if_neg, opAnd, opOr, opXor, opDiff, opShr, opBit, g_h0, c1, hNt, hM, hln] <;> omega)), (adds_self _)⟩ ?_
    rintro m tm h' hFr ⟨j, rfl, e4, e14, hj, ha⟩
    simp only [FrameL] at hFr
    obtain ⟨f1_0, f12_0, f13_0, -⟩ := hFr
    try simp (disch := first | omega | (simp; done) | fail) [wrap64c, if_pos, if_neg, opAnd, opOr, opXor, opDiff, opShr, opBit, g_h0, c1, hNt, hM, hln] at f1_0 f12_0 f13_0
    have e1 := f1_0
    have e12 := f12_0
    have e13 := f13_0
    have g2 : h'.get h.next = .cells [.int .i64 N, b] true true 1 := by rw [ha.1.2 _ (by have := ha1.1.1; omega)]; exact g1
    by_cases hlt : j < L.length
    · obtain ⟨o_x, i_x, c_x, cs_x, own_x, ex_x, es_x, us_x, q_x, b_x, g_x, l_x, r_x, R_x⟩ := (hR1.keep ha.1).open ((by omega))
      have z_x : ∀ h2 : i_x < cs_x.length, cs_x[i_x] = _ := fun h2 => r_x 0 ((by omega)) h2
      have hw := R_x j (by omega)
      have hwe : (rowsN L)[j]'(by simp; omega) = toN L[j] := by simp [rowsN]
      rw [hwe] at hw
      obtain ⟨w1, w2⟩ := hLg _ (List.getElem_mem hlt)
      have hfl := filter_take_le (fun w => decide (namedN n w xs = xs)) L j
      rename Hp => hq
      obtain ⟨u2, h2, hc2, ha2, hA2⟩ := alNamed_ok hq (.agg #[.int .i64 (n : Int), b]) (us_x j) n xs L[j] (.mk ((hb0.keep ha1.1).keep ha.1)) hw (by omega) g.lt7 (by omega) (fun k hk => by have := w2 k hk; omega)
      rw [putAll_named (n := n) w2] at hA2
      have hb2 := ((hb0.keep ha1.1).keep ha.1).keep ha2.1
      have g3 : h2.get h.next = .cells [.int .i64 N, b] true true 1 := by rw [ha2.1.2 _ (by have := ha1.1.1; have := ha.1.1; omega)]; exact g2
      try simp (disch := first | omega | (simp; done) | fail) [wrap64c, if_pos, if_neg, opAnd, opOr, opXor, opDiff, opShr, opBit, g_h0, c1, hNt, hM, hln, e1, e4, e12, e13, e14, g2, hlt, q_x, g_x, l_x, r_x, z_x, g3]
      refine WD_drawC 5 rfl (by kernel_rfl) ?_
      try simp (disch := first | omega | (simp; done) | fail) [wrap64c, if_pos, if_neg, opAnd, opOr, opXor, opDiff, opShr, opBit, g_h0, c1, hNt, hM, hln, e1, e4, e12, e13, e14, g2, hlt, q_x, g_x, l_x, r_x, z_x, g3]
      refine callP_c (by simp) (by simp) ?ha (hc2) ?hadd ?_
      (case ha => simp (disch := first | omega | (simp; done) | fail) [wrap64c, if_pos, if_neg, opAnd, opOr, opXor, opDiff, opShr, opBit, g_h0, c1, hNt, hM, hln, e1, e4, e12, e13, e14, g2, hlt, q_x, g_x, l_x, r_x, z_x, g3])
      (case hadd => first | assumption | exact adds_self _ | (simp; done))
      try simp (disch := first | omega | (simp; done) | fail) [wrap64c, if_pos, if_neg, opAnd, opOr, opXor, opDiff, opShr, opBit, g_h0, c1, hNt, hM, hln, e1, e4, e12, e13, e14, g2, hlt, q_x, g_x, l_x, r_x, z_x, g3]
      have hnl : (namedN n L[j] xs).length < 2 ^ 63 := by
        have : (namedN n L[j] xs).length ≤ (List.range (bit n)).length := List.length_filter_le _ _
        simp at this; omega
      refine callG_c (by simp) (by simp) ?ha (l1Same_ok h2 u2 b _ (toN xs) (hA2.own (by simp; omega)).ints hb2) ?_
      (case ha => simp (disch := first | omega | (simp; done) | fail) [wrap64c, if_pos, if_neg, opAnd, opOr, opXor, opDiff, opShr, opBit, g_h0, c1, hNt, hM, hln, e1, e4, e12, e13, e14, g2, hlt, q_x, g_x, l_x, r_x, z_x, g3])
      by_cases hc : namedN n L[j] xs = xs
      · have hz : cmpL (toN (namedN n L[j] xs)) (toN xs) = 0 := cmp_named.2 hc
        try simp (disch := first | omega | (simp; done) | fail) [wrap64c, if_pos, if_neg, opAnd, opOr, opXor, opDiff, opShr, opBit, g_h0, c1, hNt, hM, hln, e1, e4, e12, e13, e14, g2, hlt, q_x, g_x, l_x, r_x, z_x, g3, hz]
        refine loopK_next _ ?hm ?hf ⟨j + 1, rfl, (by simp [List.take_succ_eq_append_getElem hlt, hc, -List.take_append_getElem]), (by simp (disch := first | omega | (simp; done) | fail) [wrap64c, if_pos, if_neg, opAnd, opOr, opXor, opDiff, opShr, opBit, g_h0, c1, hNt, hM, hln, e1, e4, e12, e13, e14, g2, hlt, q_x, g_x, l_x, r_x, z_x, g3, hz] <;> omega), (by first | omega | assumption | (simp (disch := first | omega | (simp; done) | fail) [wrap64c, if_pos, if_neg, opAnd, opOr, opXor, opDiff, opShr, opBit, g_h0, c1, hNt, hM, hln, e1, e4, e12, e13, e14, g2, hlt, q_x, g_x, l_x, r_x, z_x, g3, hz] <;> omega)), (ha.trans ha2)⟩
        (case hm => first | omega | (simp; omega))
        (case hf => simp [FrameL, g_h0, c1, hNt, hM, hln, e1, e4, e12, e13, e14, g2, hlt, q_x, g_x, l_x, r_x, z_x, g3, hz, f1_0, f12_0, f13_0])
      · have hz : ¬ cmpL (toN (namedN n L[j] xs)) (toN xs) = 0 := by rw [cmp_named]; exact hc
        try simp (disch := first | omega | (simp; done) | fail) [wrap64c, if_pos, if_neg, opAnd, opOr, opXor, opDiff, opShr, opBit, g_h0, c1, hNt, hM, hln, e1, e4, e12, e13, e14, g2, hlt, q_x, g_x, l_x, r_x, z_x, g3, hz]
        refine loopK_next _ ?hm ?hf ⟨j + 1, rfl, (by simp [List.take_succ_eq_append_getElem hlt, hc, e4, -List.take_append_getElem]), (by simp (disch := first | omega | (simp; done) | fail) [wrap64c, if_pos, if_neg, opAnd, opOr, opXor, opDiff, opShr, opBit, g_h0, c1, hNt, hM, hln, e1, e4, e12, e13, e14, g2, hlt, q_x, g_x, l_x, r_x, z_x, g3, hz] <;> omega), (by first | omega | assumption | (simp (disch := first | omega | (simp; done) | fail) [wrap64c, if_pos, if_neg, opAnd, opOr, opXor, opDiff, opShr, opBit, g_h0, c1, hNt, hM, hln, e1, e4, e12, e13, e14, g2, hlt, q_x, g_x, l_x, r_x, z_x, g3, hz] <;> omega)), (ha.trans ha2)⟩
        (case hm => first | omega | (simp; omega))
        (case hf => simp [FrameL, g_h0, c1, hNt, hM, hln, e1, e4, e12, e13, e14, g2, hlt, q_x, g_x, l_x, r_x, z_x, g3, hz, f1_0, f12_0, f13_0])
    · have hft : L.take j = L := List.take_of_length_le (by omega)
      try simp (disch := first | omega | (simp; done) | fail) [wrap64c, if_pos, if_neg, opAnd, opOr, opXor, opDiff, opShr, opBit, g_h0, c1, hNt, hM, hln, e1, e4, e12, e13, e14, g2, hlt]
      have c2 : fewB (n : Int) (toN xs) = true := by rw [← hNt, ← hXe]; exact c1
      exact done_ret rfl (by simp [c2, keptR, K1.trans ha.1, hNt, hXe, keptN, hft, ← hLe])
end Go.Proofs.Ytnjabaeajjhliaa
