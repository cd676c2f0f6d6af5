/- Part 6 of the proof of runsAreWords_holds: what it uses of the texts that lie in the notes, merged. -/
import Derived.Test.YtnnjehonbolliaaQB5
namespace Go.Proofs.Ytnnjehonbolliaa
set_option linter.unusedSimpArgs false
set_option linter.unusedVariables false
set_option maxHeartbeats 4000000
open Go Go.Eng
attribute [local irreducible] WD RunD PreD Runs CallOK
theorem famC_cons (xs : List Nat) (a : Nat) (ha : a < 128) : putCells (famC (fam xs)) a [.bool true] = famC (fam (a :: xs)) := by
  rw [putCells_one (by simp; omega), famC_set xs a ha]
  refine famC_ext fun i _ => ?_
  unfold fam
  exact decide_eq_decide.2 ⟨fun h => by simp at h ⊢; exact h.symm, fun h => by simp at h ⊢; exact h.symm⟩
structure SetSt (base b5 b8 b11 o : Nat) (u q : Value) (F : List Int) (n : Nat) (s : List (List Int)) (h : Hp) : Prop where
  lt : b5 < base ∧ b8 < base ∧ b11 < base ∧ o < base
  ne : b5 ≠ o ∧ b8 ≠ o ∧ b11 ≠ o
  g5 : h.get b5 = .cells [u] true true 1
  g8 : h.get b8 = .cells [q] true true 1
  g11 : h.get b11 = .cells [.pointer (some ⟨o, 0, none⟩)] true true 1
  gf : h.get o = .cells (famC (fam (s.map fun x => setN F x n))) true true 1
  hu : IntsF (fun x => x < base ∧ x ≠ o) h u F
  hq : IntsF (fun x => x < base ∧ x ≠ o) h q (startsL F n)
theorem SetSt.stab {base b5 b8 b11 o : Nat} {u q : Value} {F : List Int} {n : Nat} {s : List (List Int)} {h h' : Hp} (k : SetSt base b5 b8 b11 o u q F n s h) (hn : h.next ≤ h'.next) (hs : ∀ x, x < base → h'.get x = h.get x) : SetSt base b5 b8 b11 o u q F n s h' where
  lt := k.lt
  ne := k.ne
  g5 := by rw [hs _ k.lt.1]; exact k.g5
  g8 := by rw [hs _ k.lt.2.1]; exact k.g8
  g11 := by rw [hs _ k.lt.2.2.1]; exact k.g11
  gf := by rw [hs _ k.lt.2.2.2]; exact k.gf
  hu := k.hu.same ⟨hn, fun x hx _ => hs x hx.1⟩
  hq := k.hq.same ⟨hn, fun x hx _ => hs x hx.1⟩
theorem setRun_ok {base b5 b8 b11 o : Nat} {u q : Value} {F : List Int} {n : Nat} (h5 : n ≤ 5) (hF : F.length = n) (hF7 : ∀ k, k ≤ n → startN F k ≤ 7) (s : List (List Int)) (h : Hp) (x : List Int) (hk : SetSt base b5 b8 b11 o u q F n s h) (hb : base ≤ h.next) (hxl : x.length = n)
    (hxF : ∀ i, x.getD i 0 ≤ F.getD i 0) (hxb : ∀ y ∈ x, 0 ≤ y ∧ y ≤ 60) (hx7 : x.sum ≤ 7) :
    ∃ v h', CallOK Try.prog 78 #[keyC x, .pointer (some ⟨b5, 0, none⟩), .pointer (some ⟨b8, 0, none⟩), .pointer (some ⟨b11, 0, none⟩)] h v h' ∧ Wr (fun p => p = o) h h' ∧ SetSt base b5 b8 b11 o u q F n (x :: s) h' := by
  obtain ⟨a1, a2, a3, a4, a5, hpd⟩ := pad_five (x := x) (by omega)
  rw [keyC_five hpd]
  obtain ⟨l1, l2, l3, l4⟩ := hk.lt
  obtain ⟨m1, m2, m3⟩ := hk.ne
  refine callY_L (args := [.agg #[.int .i64 a1, .int .i64 a2, .int .i64 a3, .int .i64 a4, .int .i64 a5], .pointer (some ⟨b5, 0, none⟩), .pointer (some ⟨b8, 0, none⟩), .pointer (some ⟨b11, 0, none⟩)]) 29 _ [] Try.func78 rfl rfl rfl ?_
  refine WD_first ?_
  try simp (disch := first | omega | (simp; done) | fail) [wrap64c, if_pos, if_neg, opAnd, opOr, opXor, opDiff, opShr, opBit]
  refine stopK_heap fun h0 q_h0 => ?_
  refine stopK_go ?_
  have k0 : Adds h h0 := by rw [q_h0]; exact (by first | exact aK | exact kK)
  have n0 : h0.next = h.next + 1 := by simp [q_h0]
  have hk0 := hk.stab k0.1.1 fun p hp => k0.1.2 p (by omega)
  have gk0 : h0.get h.next = .cells ((pad x).map (.int .i64)) true true 1 := by rw [hpd]; simp [q_h0]
  have hpl := pad_len (x := x) (by omega)
  have g5 := hk0.g5
  have g8 := hk0.g8
  have g11 := hk0.g11
  have gf := hk0.gf
  have lU := hk0.hu.lenD
  have hFn := hF
  have lq := hk0.hq.lenD
  have hsl := startsL_len F n
  have hsv : ∀ k, k ≤ n → setN F x k < 128 := fun k hk => Nat.lt_of_lt_of_le (setN_lt hxF k) (bit7 (hF7 k hk)).2
  try simp (disch := first | omega | (simp; done) | fail) [wrap64c, if_pos, if_neg, opAnd, opOr, opXor, opDiff, opShr, opBit, gk0, hpl, g5, g8, g11, gf, lU, hFn, lq, hsl]
  refine WD_loopC [2, 3, 4, 8] (fun m tm h' => ∃ k, m = n - k ∧ h0 = h' ∧ tm 5 = .int .i64 ((setN F x k : Nat) : Int) ∧ tm 9 = .int .i64 (k : Int) ∧ (k ≤ n)) _ ⟨0, rfl, rfl, (by simp [setN]), (by simp (disch := first | omega | (simp; done) | fail) [wrap64c, if_pos, if_neg, opAnd, opOr, opXor, opDiff, opShr, opBit, gk0, hpl, g5, g8, g11, gf, lU, hFn, lq, hsl]), (by first | omega | assumption | (simp (disch := first | omega | (simp; done) | fail) [wrap64c, if_pos, if_neg, opAnd, opOr, opXor, opDiff, opShr, opBit, gk0, hpl, g5, g8, g11, gf, lU, hFn, lq, hsl] <;> omega))⟩ ?_
  rintro m tm h' hFr ⟨k, rfl, rfl, e5, e9, hkn⟩
  simp only [FrameL] at hFr
  obtain ⟨f2_0, f3_0, f4_0, f8_0, -⟩ := hFr
  try simp (disch := first | omega | (simp; done) | fail) [wrap64c, if_pos, if_neg, opAnd, opOr, opXor, opDiff, opShr, opBit, gk0, hpl, g5, g8, g11, gf, lU, hFn, lq, hsl] at f2_0 f3_0 f4_0 f8_0
  have e2 := f2_0
  have e3 := f3_0
  have e4 := f4_0
  have e8 := f8_0
  by_cases hkl : k < n
  · have hkx : k < x.length := by omega
    have hk5 : k < 5 := by omega
    have hkp : k < (pad x).length := by omega
    have hpi := pad_at hkx hkp
    obtain ⟨o_s, i_s, c_s, cs_s, own_s, ex_s, es_s, q_s, b_s, g_s, l_s, r_s⟩ := (hk0.hq.ints).open ((by simp; omega))
    have z_s : ∀ h2 : i_s < cs_s.length, cs_s[i_s] = _ := fun h2 => r_s 0 ((by simp; omega)) h2
    have hxk := hxb _ (List.getElem_mem hkx)
    have hxk7 := le_sum (fun y hy => (hxb y hy).1) (List.getElem_mem hkx)
    obtain ⟨c, hc⟩ : ∃ c : Nat, x[k] = (c : Int) := ⟨x[k].toNat, by omega⟩
    have hcc := hc
    have hc7 : c ≤ 7 := by omega
    have hs7 := hF7 k (by omega)
    have hbb := bit7 hc7
    have hsh := shl_op c (startN F k) hc7 hs7
    have hsg := startsL_get F n k (by simp; omega)
    have hsk := hsv k (by omega)
    have hsl2 : shN c (startN F k) < 2 ^ 20 := Nat.lt_of_lt_of_le (shl_lt c (startN F k)) (bit_mono (by omega))
    try simp (disch := first | omega | (simp; done) | fail) [wrap64c, if_pos, if_neg, opAnd, opOr, opXor, opDiff, opShr, opBit, gk0, hpl, g5, g8, g11, gf, lU, hFn, lq, hsl, e2, e3, e4, e5, e8, e9, hkl, hk5, hkp, hpi, q_s, g_s, l_s, r_s, z_s, hcc, hsh, hsg]
    refine WD_drawC 11 rfl (by kernel_rfl) ?_
    try simp (disch := first | omega | (simp; done) | fail) [wrap64c, if_pos, if_neg, opAnd, opOr, opXor, opDiff, opShr, opBit, gk0, hpl, g5, g8, g11, gf, lU, hFn, lq, hsl, e2, e3, e4, e5, e8, e9, hkl, hk5, hkp, hpi, q_s, g_s, l_s, r_s, z_s, hcc, hsh, hsg]
    refine loopK_next _ ?hm ?hf ⟨k + 1, rfl, rfl, (by rw [setN, getD_at hkx, hc, Int.toNat_natCast]; simp), (by simp (disch := first | omega | (simp; done) | fail) [wrap64c, if_pos, if_neg, opAnd, opOr, opXor, opDiff, opShr, opBit, gk0, hpl, g5, g8, g11, gf, lU, hFn, lq, hsl, e2, e3, e4, e5, e8, e9, hkl, hk5, hkp, hpi, q_s, g_s, l_s, r_s, z_s, hcc, hsh, hsg] <;> omega), (by first | omega | assumption | (simp (disch := first | omega | (simp; done) | fail) [wrap64c, if_pos, if_neg, opAnd, opOr, opXor, opDiff, opShr, opBit, gk0, hpl, g5, g8, g11, gf, lU, hFn, lq, hsl, e2, e3, e4, e5, e8, e9, hkl, hk5, hkp, hpi, q_s, g_s, l_s, r_s, z_s, hcc, hsh, hsg] <;> omega))⟩
    (case hm => first | omega | (simp; omega))
    (case hf => simp [FrameL, gk0, hpl, g5, g8, g11, gf, lU, hFn, lq, hsl, e2, e3, e4, e5, e8, e9, hkl, hk5, hkp, hpi, q_s, g_s, l_s, r_s, z_s, hcc, hsh, hsg, f2_0, f3_0, f4_0, f8_0])
  · have hke : k = n := by omega
    have hsk := hsv n (Nat.le_refl _)
    obtain ⟨a0, ha0⟩ : ∃ a, a = setN F x n := ⟨_, rfl⟩
    rw [hke, ← ha0] at e5
    rw [← ha0] at hsk
    have hfl := famC_length (fam (s.map fun x => setN F x n))
    have hpc := famC_cons (s.map fun x => setN F x n) a0 hsk
    try simp (disch := first | omega | (simp; done) | fail) [wrap64c, if_pos, if_neg, opAnd, opOr, opXor, opDiff, opShr, opBit, gk0, hpl, g5, g8, g11, gf, lU, hFn, lq, hsl, e2, e3, e4, e5, e8, e9, hkl, hfl, hpc]
    refine done_end rfl ⟨Wr.put (S := fun p => p = o) (Wr.of_adds k0) (o := o) rfl (fun _ => rfl), ?_⟩
    have hS : Same (fun x => x < base ∧ x ≠ o) h0 (h0.put o (.cells (famC (fam (a0 :: s.map fun x => setN F x n))) true true 1)) := Same.put (Same.refl _ _) (fun e => e.2 rfl) _
    exact ⟨hk0.lt, hk0.ne, by simp [m1, g5], by simp [m2, g8], by simp [m3, g11], by simp [← ha0], hk0.hu.same hS, hk0.hq.same hS⟩
end Go.Proofs.Ytnnjehonbolliaa
namespace Go.Proofs.Ytnnjehonbolliaa
set_option linter.unusedSimpArgs false
set_option linter.unusedVariables false
set_option maxHeartbeats 4000000
open Go Go.Eng
attribute [local irreducible] WD RunD PreD Runs CallOK
theorem ia_box1 {n o : Nat} {h : Hp} {w s : Value} {xs : List Int} {p : Option Addr} {i c : Nat} (hw : IntsA n h w xs) (hg : h.get o = .cells [s] true true 1) (hs : s = .slice p i c) : ¬ ObjIn w o := by
  intro ho
  rcases hw with ⟨_, rfl⟩ | ⟨q, ex, rfl, g1, g2, g3⟩
  · exact ho
  · cases ho
    rw [hg] at g3
    have e := congrArg (fun l => (match l with | AObj.cells c _ _ _ => c[0]? | _ => none)) g3
    simp only [List.getElem?_cons_zero, List.getElem?_map] at e
    rw [hs] at e
    cases h1 : xs[0]? with
    | none => rw [h1] at e; cases e
    | some y => rw [h1] at e; cases e
theorem off_of {n o : Nat} {h : Hp} {v : Value} {xs : List Int} (hv : IntsA n h v xs) (ho : ¬ ObjIn v o) : OffF (fun x => x = o) v := by
  intro p i m c e hf
  rcases hv with ⟨_, e'⟩ | ⟨q, ex, e', _⟩
  · rw [e'] at e; cases e
  · rw [e'] at e; cases e; subst hf; exact ho (by rw [e']; rfl)
theorem off_low {n : Nat} {h : Hp} {v : Value} {xs : List Int} (hv : IntsA n h v xs) : OffF (fun x => x < n) v := by
  intro p i m c e hf
  rcases hv with ⟨_, e'⟩ | ⟨q, ex, e', q1, _⟩
  · rw [e'] at e; cases e
  · rw [e'] at e; cases e; omega
theorem implRS_ok (h : Hp) (v : Value) (L : List (List Int)) (A : List Int) (hv : Chips h v L A) :
    ∃ v' h', CallOK Try.prog 34 #[v] h v' h' ∧ Adds h h' ∧ ∃ u1 u2, v' = .tuple #[u1, u2, .bool (rsB L A)] ∧ SpL h h' u1 u2 (rsN L A) (rsX L A) (rsP L A) := by
  refine callY_L (args := [v]) 56 _ [.cell 2 48, .tmp 3, .tmp 4] Try.func34 rfl rfl rfl ?_
  have hv0 := hv
  obtain ⟨a, b, rfl, hL, hA⟩ := hv
  refine WD_first ?_
  try simp (disch := first | omega | (simp; done) | fail) [wrap64c, if_pos, if_neg, opAnd, opOr, opXor, opDiff, opShr, opBit]
  refine stopK_heap fun h0 q_h0 => ?_
  refine stopK_go ?_
  have k0 : Adds h h0 := by rw [q_h0]; exact (by first | exact aK | exact kK)
  have n0 : h0.next = h.next + 2 := by simp [q_h0]
  have gc0 : h0.get h.next = .cells [a, b] true true 1 := by simp [q_h0]
  have gz0 : h0.get (h.next + 1) = .cells [.int .i64 0, .slice none 0 0] true true 1 := by simp [q_h0]
  try simp (disch := first | omega | (simp; done) | fail) [wrap64c, if_pos, if_neg, opAnd, opOr, opXor, opDiff, opShr, opBit, gc0, gz0]
  obtain ⟨_, h1, hc1, ha1, u1, rfl, hu1⟩ := imMoveCounts_ok h0 (.agg #[a, b]) L A (hv0.keep k0.1)
  refine callG_c (by simp) (by simp) ?ha (hc1) ?_
  (case ha => simp (disch := first | omega | (simp; done) | fail) [wrap64c, if_pos, if_neg, opAnd, opOr, opXor, opDiff, opShr, opBit, gc0, gz0])
  have n1 := ha1.1.1
  have K1 := k0.trans ha1
  have nt1 := hu1.nt
  have cs1 := hu1.cs
  have gc1 : h1.get h.next = .cells [a, b] true true 1 := by rw [ha1.1.2 _ (by omega)]; exact gc0
  have gz1 : h1.get (h.next + 1) = .cells [.int .i64 0, .slice none 0 0] true true 1 := by rw [ha1.1.2 _ (by omega)]; exact gz0
  cases hf : fullR L A [] with
  | none =>
    have hcn : countsR L A = none := by simp [countsR, hf, fst?]
    have hk : rsB L A = false := by simp [rsB, hcn]
    try simp (disch := first | omega | (simp; done) | fail) [wrap64c, if_pos, if_neg, opAnd, opOr, opXor, opDiff, opShr, opBit, gc0, gz0, nt1, cs1, gc1, gz1, hcn, putCells, -wd_region, wd_region 0, wd_region 1, wd_region 2, wd_region 4, wd_region 5, wd_region 6, wd_region 7, wd_region 8, wd_region 9, wd_region 10, wd_region 11, wd_region 12, wd_region 13, wd_region 14, wd_region 15]
    first | refine WY_heap fun h2 q_h2 => ?_ | refine callG_heap fun h2 q_h2 => ?_ | refine callP_heap fun h2 q_h2 => ?_ | refine callS_heap fun h2 q_h2 => ?_ | refine RY_heap fun h2 q_h2 => ?_ | refine PY_heap fun h2 q_h2 => ?_ | refine SY_heap fun h2 q_h2 => ?_ | refine doneY_heap fun h2 q_h2 => ?_ | refine loopK_heap fun h2 q_h2 => ?_ | refine thenY_heap fun h2 q_h2 => ?_ | refine thenM_heap fun h2 q_h2 => ?_
    have k2 : Adds h1 h2 := by rw [q_h2]; exact (by first | exact aK | exact kK)
    have K2 := K1.trans k2
    have gz2 : h2.get (h.next + 1) = .cells [.int .i64 0, .slice none 0 0] true true 1 := by rw [k2.1.2 _ (by omega)]; exact gz1
    try simp (disch := first | omega | (simp; done) | fail) [wrap64c, if_pos, if_neg, opAnd, opOr, opXor, opDiff, opShr, opBit, gc0, gz0, nt1, cs1, gc1, gz1, hcn, gz2, putCells]
    refine done_ret (by simp [putCells, gz2]; rfl) ⟨by have := K2; exact (by first | exact aK | exact kK), .agg #[.int .i64 0, .slice none 0 0], .slice none 0 0, by rw [hk]; rfl, _, by have := K2.1.1; simp; omega, Nat.le_refl _, ?_, ?_⟩
    · rw [(rsN_no hk).1, (rsN_no hk).2.1]
      exact .nil _ _
    · rw [(rsN_no hk).2.2]
      exact .nil _ _
  | some p =>
  obtain ⟨run, E⟩ := p
  have f := fullR_fin (by simp) hf
  have hR : run.length ≤ 60 := (fullR_len (by simp) hf).1
  have c1 : goodB L A = true := by
    cases hg : goodB L A with
    | true => rfl
    | false => simp [fullR, hg] at hf
  have ho := (good_of c1).ok
  have h5 := ho.sh.le
  obtain ⟨r1, r2, r3, r4, r5, r6, r7⟩ := rs_full hf ho.sh
  have hcn : countsR L A = some (rsF L A) := by rw [r1]; simp [countsR, hf, fst?]
  rw [hcn] at hu1
  obtain ⟨F, hF⟩ : ∃ F, F = rsF L A := ⟨_, rfl⟩
  replace hu1 : IntsO (Btw h0.next h1.next) h1 u1 F := by rw [hF]; exact hu1
  rw [← hF] at r1 r2 r3 r4 r5 r6
  have lu1 := hu1.lenD
  have lx := r3
  try simp (disch := first | omega | (simp; done) | fail) [wrap64c, if_pos, if_neg, opAnd, opOr, opXor, opDiff, opShr, opBit, gc0, gz0, nt1, cs1, gc1, gz1, hcn, lu1, lx, putCells, -wd_region, wd_region 0, wd_region 1, wd_region 2, wd_region 3, wd_region 5, wd_region 6, wd_region 7, wd_region 8, wd_region 9, wd_region 10, wd_region 11, wd_region 12, wd_region 13, wd_region 14, wd_region 15]
  first | refine WY_heap fun h2 q_h2 => ?_ | refine callG_heap fun h2 q_h2 => ?_ | refine callP_heap fun h2 q_h2 => ?_ | refine callS_heap fun h2 q_h2 => ?_ | refine RY_heap fun h2 q_h2 => ?_ | refine PY_heap fun h2 q_h2 => ?_ | refine SY_heap fun h2 q_h2 => ?_ | refine doneY_heap fun h2 q_h2 => ?_ | refine loopK_heap fun h2 q_h2 => ?_ | refine thenY_heap fun h2 q_h2 => ?_ | refine thenM_heap fun h2 q_h2 => ?_
  have k2 : Adds h1 h2 := by rw [q_h2]; exact (by first | exact aK | exact kK)
  have n2 : h2.next = h1.next + 1 := by simp [q_h2]
  have K2 := K1.trans k2
  have m2 := K2.1.1
  have gc2 : h2.get h.next = .cells [a, b] true true 1 := by rw [k2.1.2 _ (by omega)]; exact gc1
  have gz2 : h2.get (h.next + 1) = .cells [.int .i64 0, .slice none 0 0] true true 1 := by rw [k2.1.2 _ (by omega)]; exact gz1
  have g52 : h2.get h1.next = .cells [u1] true true 1 := by simp [q_h2]
  have hu2 := hu1.keep k2.1
  have hz0 : zarr #[Value.int .i64 0] 0 = #[] := by simp [zarr]
  try simp (disch := first | omega | (simp; done) | fail) [wrap64c, if_pos, if_neg, opAnd, opOr, opXor, opDiff, opShr, opBit, gc0, gz0, nt1, cs1, gc1, gz1, hcn, lu1, lx, gc2, gz2, g52, hz0, putCells]
  first | refine WY_heap fun h3 q_h3 => ?_ | refine callG_heap fun h3 q_h3 => ?_ | refine callP_heap fun h3 q_h3 => ?_ | refine callS_heap fun h3 q_h3 => ?_ | refine RY_heap fun h3 q_h3 => ?_ | refine PY_heap fun h3 q_h3 => ?_ | refine SY_heap fun h3 q_h3 => ?_ | refine doneY_heap fun h3 q_h3 => ?_ | refine loopK_heap fun h3 q_h3 => ?_ | refine thenY_heap fun h3 q_h3 => ?_ | refine thenM_heap fun h3 q_h3 => ?_
  have k3 : Adds h2 h3 := by rw [q_h3]; exact (by first | exact aK | exact kK)
  have n3 : h3.next = h2.next + 3 := by simp [q_h3]
  have K3 := K2.trans k3
  have hpz : IntsA h2.next h3 (.slice (some ⟨h2.next, 0, none⟩) 0 0) [] := .inr ⟨h2.next, true, rfl, Nat.le_refl _, by omega, by simp [q_h3]⟩
  have hqz : IntsA h2.next h3 (.slice (some ⟨h2.next + 1, 0, none⟩) 0 0) [] := .inr ⟨h2.next + 1, true, rfl, by omega, by omega, by simp [q_h3]⟩
  refine WD_loopC [1, 2, 5, 8, 22, 23] (fun m tm h' => ∃ i p q, m = A.length - i ∧ tm 7 = p ∧ tm 24 = .int .i64 (i : Int) ∧ (i ≤ A.length) ∧ (Keeps h2 h') ∧ (Adds h h') ∧ (IntsA h2.next h' p (placesN F i)) ∧ (IntsA h2.next h' q (startsL F i)) ∧ (OffF (ObjIn p) q) ∧ (h'.get (h2.next + 2) = .cells [q] true true 1) ∧ (h2.next + 2 < h'.next)) _ ⟨0, _, .slice (some ⟨h2.next + 1, 0, none⟩) 0 0, rfl, (by simp (disch := first | omega | (simp; done) | fail) [wrap64c, if_pos, if_neg, opAnd, opOr, opXor, opDiff, opShr, opBit, gc0, gz0, nt1, cs1, gc1, gz1, hcn, lu1, lx, gc2, gz2, g52, hz0]), (by simp (disch := first | omega | (simp; done) | fail) [wrap64c, if_pos, if_neg, opAnd, opOr, opXor, opDiff, opShr, opBit, gc0, gz0, nt1, cs1, gc1, gz1, hcn, lu1, lx, gc2, gz2, g52, hz0]), (by first | omega | assumption | (simp (disch := first | omega | (simp; done) | fail) [wrap64c, if_pos, if_neg, opAnd, opOr, opXor, opDiff, opShr, opBit, gc0, gz0, nt1, cs1, gc1, gz1, hcn, lu1, lx, gc2, gz2, g52, hz0] <;> omega)), k3.1, K3, hpz, hqz, (OffF.mk (fun e => by have : h2.next = h2.next + 1 := e; omega)), (by simp [q_h3]), (by omega)⟩ ?_
  rintro m tm h' hFr ⟨i, p, q, rfl, e7, e24, hi, ha, hA4, hp, hq, hoff, g8, hnb⟩
  simp only [FrameL] at hFr
  obtain ⟨f1_0, f2_0, f5_0, f8_0, f22_0, f23_0, -⟩ := hFr
  try simp (disch := first | omega | (simp; done) | fail) [wrap64c, if_pos, if_neg, opAnd, opOr, opXor, opDiff, opShr, opBit, gc0, gz0, nt1, cs1, gc1, gz1, hcn, lu1, lx, gc2, gz2, g52, hz0] at f1_0 f2_0 f5_0 f8_0 f22_0 f23_0
  have e1 := f1_0
  have e2 := f2_0
  have e5 := f5_0
  have e8 := f8_0
  have e22 := f22_0
  have e23 := f23_0
  rename Hp => h4
  have n4 := ha.1
  have hpl : (placesN F i).length ≤ run.length := by rcases r5 i with h | h; exact h; omega
  have lp := hp.lenD
  have ntp := hp.nt
  have ntq := hq.nt
  obtain ⟨qp, qi, qc, hqf⟩ := ia_form hq
  obtain ⟨pp, pi, pc, hpf⟩ := ia_form hp
  have hnp := ia_box1 hp g8 hqf
  have hnq := ia_box1 hq g8 hqf
  by_cases hlt : i < A.length
  · obtain ⟨o_x, i_x, c_x, cs_x, own_x, ex_x, es_x, q_x, b_x, g_x, l_x, r_x⟩ := ((hu2.keep ha).ints).open ((by omega))
    have z_x : ∀ h2 : i_x < cs_x.length, cs_x[i_x] = _ := fun h2 => r_x 0 ((by omega)) h2
    have hiF : i < F.length := by omega
    have hFi := r4 _ (List.getElem_mem hiF)
    have hpl2 : (placesN F (i + 1)).length ≤ run.length := by rcases r5 (i + 1) with h | h; exact h; omega
    have hsl := startsL_len F i
    rw [placesN_succ, List.length_append, List.length_replicate, getD_at hiF] at hpl2
    have csq : q.cells = #[q] := by rw [hqf]; rfl
    try simp (disch := first | omega | (simp; done) | fail) [wrap64c, if_pos, if_neg, opAnd, opOr, opXor, opDiff, opShr, opBit, gc0, gz0, nt1, cs1, gc1, gz1, hcn, lu1, lx, gc2, gz2, g52, hz0, e1, e2, e5, e7, e8, e22, e23, e24, g8, lp, ntp, ntq, hlt, q_x, g_x, l_x, r_x, z_x, hiF, csq]
    obtain ⟨q2, h5', hap, hq2, hp2, hoff2, hA5, n5, hs5, hb5⟩ := app1of2 hq hp hoff ((placesN F i).length : Int) (by omega) (by omega) hA4 (by have := K3.1.1; omega)
    have g85 : h5'.get (h2.next + 2) = .cells [q] true true 1 := by rw [hb5 _ (by omega) (off_of hq hnq)]; exact g8
    obtain ⟨qp2, qi2, qc2, hqf2⟩ := ia_form hq2
    have ntq2 : notTup q2 = true := by rw [hqf2]; rfl
    have csq2 : q2.cells = #[q2] := by rw [hqf2]; rfl
    have hnp5 := ia_box1 hp2 g85 hqf
    have hnq5 := ia_box1 hq2 g85 hqf
    obtain ⟨c, hc⟩ : ∃ c : Nat, F[i] = (c : Int) := ⟨F[i].toNat, by omega⟩
    have hcc := hc
    try simp (disch := first | omega | (simp; done) | fail) [wrap64c, if_pos, if_neg, opAnd, opOr, opXor, opDiff, opShr, opBit, gc0, gz0, nt1, cs1, gc1, gz1, hcn, lu1, lx, gc2, gz2, g52, hz0, e1, e2, e5, e7, e8, e22, e23, e24, g8, lp, ntp, ntq, hlt, q_x, g_x, l_x, r_x, z_x, hiF, csq, g85, ntq2, csq2, hcc, hap, putCells]
    first | refine WY_heap fun h6 q_h6 => ?_ | refine callG_heap fun h6 q_h6 => ?_ | refine callP_heap fun h6 q_h6 => ?_ | refine callS_heap fun h6 q_h6 => ?_ | refine RY_heap fun h6 q_h6 => ?_ | refine PY_heap fun h6 q_h6 => ?_ | refine SY_heap fun h6 q_h6 => ?_ | refine doneY_heap fun h6 q_h6 => ?_ | refine loopK_heap fun h6 q_h6 => ?_ | refine thenY_heap fun h6 q_h6 => ?_ | refine thenM_heap fun h6 q_h6 => ?_
    have k6 : Same (fun x => x ≠ h2.next + 2) h5' h6 := by rw [q_h6]; exact ((Same.refl _ _).put (fun e => e rfl) _).trans (.of_keeps (Keeps.alloc _ _))
    have n6 : h6.next = h5'.next + 1 := by rw [q_h6]; simp
    have hA6 : Adds h h6 := by rw [q_h6]; have := K3.1.1; exact (by first | exact aK | exact kK)
    have g86 : h6.get (h2.next + 2) = .cells [q2] true true 1 := by rw [q_h6]; simp; omega
    have hone : Ints h6 (.slice (some ⟨h5'.next, 0, none⟩) 1 1) [(i : Int)] := (IntsO.mk (S := fun _ => True) (xs := [(i : Int)]) (ex := true) trivial (by omega) (by simp) (by rw [q_h6]; simp)).ints
    have hp6 := ia_same hp2 ⟨k6.1, fun o ho hl => k6.2 o (fun e => hnp5 (e ▸ ho)) hl⟩
    have hq6 := ia_same hq2 ⟨k6.1, fun o ho hl => k6.2 o (fun e => hnq5 (e ▸ ho)) hl⟩
    obtain ⟨u7, h7, hc7, ha7, hu7⟩ := repeat_ok h6 (.slice (some ⟨h5'.next, 0, none⟩) 1 1) (i : Int) c hone (by omega)
    refine callG_c (by simp) (by simp) ?ha (hc7) ?_
    (case ha => simp (disch := first | omega | (simp; done) | fail) [wrap64c, if_pos, if_neg, opAnd, opOr, opXor, opDiff, opShr, opBit, gc0, gz0, nt1, cs1, gc1, gz1, hcn, lu1, lx, gc2, gz2, g52, hz0, e1, e2, e5, e7, e8, e22, e23, e24, g8, lp, ntp, ntq, hlt, q_x, g_x, l_x, r_x, z_x, hiF, csq, g85, ntq2, csq2, hcc])
    have n7 := ha7.1.1
    have hp7 := ia_keep hp6 ha7.1
    have hq7 := ia_keep hq6 ha7.1
    have hqp := off_comm hp2 hq2 hoff2
    obtain ⟨p8, h8, hap8, hp8, hA8, n8, hsm8, hof8⟩ := append_ints2 (P := Try.prog) (t := 25) (t' := 25) hp7 hu7.ints ty_elT_25 ty_szT_3 ty_zeroT_3 ty_byT_3 (by decide) (by decide) (by simp) (by simp; omega) (by omega) (hA6.trans ha7) m2
    have nt7 := hu7.nt
    have g87 : h7.get (h2.next + 2) = .cells [q2] true true 1 := by rw [ha7.1.2 _ (by omega)]; exact g86
    have hnp7 := ia_box1 hp7 g87 hqf2
    have h58 : ∀ o, o < h2.next → h8.get o = h4.get o := fun o hl => by
      rw [(hsm8 (fun x => x < h2.next) (off_low hp7)).2 o hl (by omega), ha7.1.2 o (by omega), k6.2 o (by omega) (by omega), hs5 o hl]
    try simp (disch := first | omega | (simp; done) | fail) [wrap64c, if_pos, if_neg, opAnd, opOr, opXor, opDiff, opShr, opBit, gc0, gz0, nt1, cs1, gc1, gz1, hcn, lu1, lx, gc2, gz2, g52, hz0, e1, e2, e5, e7, e8, e22, e23, e24, g8, lp, ntp, ntq, hlt, q_x, g_x, l_x, r_x, z_x, hiF, csq, g85, ntq2, csq2, hcc, nt7, hap8]
    refine loopK_next _ ?hm ?hf ⟨i + 1, p8, q2, rfl, (by simp (disch := first | omega | (simp; done) | fail) [wrap64c, if_pos, if_neg, opAnd, opOr, opXor, opDiff, opShr, opBit, gc0, gz0, nt1, cs1, gc1, gz1, hcn, lu1, lx, gc2, gz2, g52, hz0, e1, e2, e5, e7, e8, e22, e23, e24, g8, lp, ntp, ntq, hlt, q_x, g_x, l_x, r_x, z_x, hiF, csq, g85, ntq2, csq2, hcc, nt7] <;> omega), (by simp (disch := first | omega | (simp; done) | fail) [wrap64c, if_pos, if_neg, opAnd, opOr, opXor, opDiff, opShr, opBit, gc0, gz0, nt1, cs1, gc1, gz1, hcn, lu1, lx, gc2, gz2, g52, hz0, e1, e2, e5, e7, e8, e22, e23, e24, g8, lp, ntp, ntq, hlt, q_x, g_x, l_x, r_x, z_x, hiF, csq, g85, ntq2, csq2, hcc, nt7] <;> omega), (by first | omega | assumption | (simp (disch := first | omega | (simp; done) | fail) [wrap64c, if_pos, if_neg, opAnd, opOr, opXor, opDiff, opShr, opBit, gc0, gz0, nt1, cs1, gc1, gz1, hcn, lu1, lx, gc2, gz2, g52, hz0, e1, e2, e5, e7, e8, e22, e23, e24, g8, lp, ntp, ntq, hlt, q_x, g_x, l_x, r_x, z_x, hiF, csq, g85, ntq2, csq2, hcc, nt7] <;> omega)), ⟨by omega, fun o hl => by rw [h58 o hl]; exact ha.2 o hl⟩, hA8, (by rw [placesN_succ, getD_at hiF, hc, Int.toNat_natCast]; exact hp8), (by rw [startsL_succ]; exact ia_same hq7 (hsm8 (ObjIn q2) hqp)), (off_comm (ia_same hq7 (hsm8 (ObjIn q2) hqp)) hp8 (hof8 (ObjIn q2) (fun o ho => (ia_obj hq7 o ho).2) hqp)), (by rw [(hsm8 (fun x => x = h2.next + 2) (off_of hp7 hnp7)).2 _ rfl (by omega)]; exact g87), (by first | omega | assumption | (simp (disch := first | omega | (simp; done) | fail) [wrap64c, if_pos, if_neg, opAnd, opOr, opXor, opDiff, opShr, opBit, gc0, gz0, nt1, cs1, gc1, gz1, hcn, lu1, lx, gc2, gz2, g52, hz0, e1, e2, e5, e7, e8, e22, e23, e24, g8, lp, ntp, ntq, hlt, q_x, g_x, l_x, r_x, z_x, hiF, csq, g85, ntq2, csq2, hcc, nt7] <;> omega))⟩
    (case hm => first | omega | (simp; omega))
    (case hf => simp [FrameL, gc0, gz0, nt1, cs1, gc1, gz1, hcn, lu1, lx, gc2, gz2, g52, hz0, e1, e2, e5, e7, e8, e22, e23, e24, g8, lp, ntp, ntq, hlt, q_x, g_x, l_x, r_x, z_x, hiF, csq, g85, ntq2, csq2, hcc, nt7, f1_0, f2_0, f5_0, f8_0, f22_0, f23_0])
  have hie : i = A.length := by omega
  subst hie
  have hplen : (placesN F A.length).length = run.length := r2
  have gz4 : h4.get (h.next + 1) = .cells [.int .i64 0, .slice none 0 0] true true 1 := by rw [ha.2 _ (by omega)]; exact gz2
  have gc4 : h4.get h.next = .cells [a, b] true true 1 := by rw [ha.2 _ (by omega)]; exact gc2
  have gz4' := gz4
  try simp (disch := first | omega | (simp; done) | fail) [wrap64c, if_pos, if_neg, opAnd, opOr, opXor, opDiff, opShr, opBit, gc0, gz0, nt1, cs1, gc1, gz1, hcn, lu1, lx, gc2, gz2, g52, hz0, e1, e2, e5, e7, e8, e22, e23, e24, g8, lp, ntp, ntq, hlt, hplen, gc4, gz4']
  refine callG_c (by simp) (by simp) ?ha (isSize_ok h4 (run.length : Int)) ?_
  (case ha => simp (disch := first | omega | (simp; done) | fail) [wrap64c, if_pos, if_neg, opAnd, opOr, opXor, opDiff, opShr, opBit, gc0, gz0, nt1, cs1, gc1, gz1, hcn, lu1, lx, gc2, gz2, g52, hz0, e1, e2, e5, e7, e8, e22, e23, e24, g8, lp, ntp, ntq, hlt, hplen, gc4, gz4'])
  cases c2 : sizeB (run.length : Int)
  · have hk : rsB L A = false := by rw [r7, c2]
    try simp (disch := first | omega | (simp; done) | fail) [wrap64c, if_pos, if_neg, opAnd, opOr, opXor, opDiff, opShr, opBit, gc0, gz0, nt1, cs1, gc1, gz1, hcn, lu1, lx, gc2, gz2, g52, hz0, e1, e2, e5, e7, e8, e22, e23, e24, g8, lp, ntp, ntq, hlt, hplen, gc4, gz4', c2, putCells]
    refine done_ret (by simp [putCells, gz4, e2]; rfl) ⟨by have := hA4; exact (by first | exact aK | exact kK), .agg #[.int .i64 0, .slice none 0 0], .slice none 0 0, by rw [hk]; rfl, _, by have := hA4.1.1; simp; omega, Nat.le_refl _, ?_, ?_⟩
    · rw [(rsN_no hk).1, (rsN_no hk).2.1]
      exact .nil _ _
    · rw [(rsN_no hk).2.2]
      exact .nil _ _
  have hk : rsB L A = true := by rw [r7, c2]
  have hR7 : 1 ≤ run.length ∧ run.length ≤ 7 := by obtain ⟨m, h1, h2, h3⟩ := sizeB_true c2; omega
  have hP := hp.own (by omega)
  have hQ := hq.own (by simp; omega)
  have ntP := hP.nt
  have csP := hP.cs
  have mA := hA4.1.1
  have g54 : h4.get h1.next = .cells [u1] true true 1 := by rw [ha.2 _ (by omega)]; exact g52
  try simp (disch := first | omega | (simp; done) | fail) [wrap64c, if_pos, if_neg, opAnd, opOr, opXor, opDiff, opShr, opBit, gc0, gz0, nt1, cs1, gc1, gz1, hcn, lu1, lx, gc2, gz2, g52, hz0, e1, e2, e5, e7, e8, e22, e23, e24, g8, lp, ntp, ntq, hlt, hplen, gc4, gz4', c2, ntP, csP, putCells]
  first | refine WY_heap fun h9 q_h9 => ?_ | refine callG_heap fun h9 q_h9 => ?_ | refine callP_heap fun h9 q_h9 => ?_ | refine callS_heap fun h9 q_h9 => ?_ | refine RY_heap fun h9 q_h9 => ?_ | refine PY_heap fun h9 q_h9 => ?_ | refine SY_heap fun h9 q_h9 => ?_ | refine doneY_heap fun h9 q_h9 => ?_ | refine loopK_heap fun h9 q_h9 => ?_ | refine thenY_heap fun h9 q_h9 => ?_ | refine thenM_heap fun h9 q_h9 => ?_
  have k9 : Adds h4 h9 := by rw [q_h9]; exact (by first | exact aK | exact kK)
  have n9 : h9.next = h4.next + 2 := by simp [q_h9]
  have gf9 : h9.get h4.next = .cells (famC (fam [])) true true 1 := by rw [← famC_zero]; simp [q_h9]
  have g119 : h9.get (h4.next + 1) = .cells [.pointer (some ⟨h4.next, 0, none⟩)] true true 1 := by simp [q_h9, putCells]
  have gc9 : h9.get h.next = .cells [a, b] true true 1 := by rw [k9.1.2 _ (by omega)]; exact gc4
  have K9 := hA4.trans k9
  have hst : SetSt h9.next h1.next (h2.next + 2) (h4.next + 1) h4.next u1 q F A.length [] h9 := {
    lt := ⟨by omega, by omega, by omega, by omega⟩
    ne := ⟨by omega, by omega, by omega⟩
    g5 := by rw [k9.1.2 _ (by omega)]; exact g54
    g8 := by rw [k9.1.2 _ (by omega)]; exact g8
    g11 := g119
    gf := gf9
    hu := (((hu2.keep ha).keep k9.1).read).sub fun o ho => by have := ho.2; omega
    hq := ((hQ.keep k9.1).read).sub fun o ho => by have := ho.2; omega }
  have D : DoerC L A (fun s hh => SetSt h9.next h1.next (h2.next + 2) (h4.next + 1) h4.next u1 q F A.length s hh) h9.next (fun o => o = h4.next) 78 #[.pointer (some ⟨h1.next, 0, none⟩), .pointer (some ⟨h2.next + 2, 0, none⟩), .pointer (some ⟨h4.next + 1, 0, none⟩)] := {
    stab := fun s h' h'' k hb hn hg => k.stab hn hg
    run := fun s h' x B k hb hr => by
      obtain ⟨u, h'', hc, hW, hk'⟩ := setRun_ok (n := A.length) h5 r3 (fun k hk => by rcases r5 k with h | h <;> omega) s h' x k hb hr.len.2 (r6 x B hr) (hr.small (by have := f.le ho.sh hr; omega)) (by have := f.le ho.sh hr; omega)
      exact ⟨u, h'', hc, hW, hk'⟩
    low := fun o e => by omega
    fn := by simp }
  obtain ⟨u10, h10, hc10, s10, rfl, W10, hs10, hall, hrch⟩ := reached_ok f ho.sh ho hR D h9 a b hst (Nat.le_refl _) ((hL.old.keep K9.1).sub fun o ho => ⟨by have := K9.1.1; omega, by omega⟩) ((hA.old.keep K9.1).sub fun o ho => ⟨by have := K9.1.1; omega, by omega⟩)
  refine callG_c (by simp) (by simp) ?ha (hc10) ?_
  (case ha => simp (disch := first | omega | (simp; done) | fail) [wrap64c, if_pos, if_neg, opAnd, opOr, opXor, opDiff, opShr, opBit, gc0, gz0, nt1, cs1, gc1, gz1, hcn, lu1, lx, gc2, gz2, g52, hz0, e1, e2, e5, e7, e8, e22, e23, e24, g8, lp, ntp, ntq, hlt, hplen, gc4, gz4', c2, ntP, csP, gc9])
  have n10 := W10.upd.1
  have hP10 := (hP.keep k9.1).same (W10.upd.same fun o ho e => by have := ho.2; omega)
  have gz10 : h10.get (h.next + 1) = .cells [.int .i64 0, .slice none 0 0] true true 1 := by rw [W10.upd.2 _ (by omega) (by omega), k9.1.2 _ (by omega)]; exact gz4
  have g1110 := hs10.g11
  obtain ⟨v11, h11, hc11, ha11, hs11⟩ := famSpace_ok h10 h4.next run.length (fam (s10.map fun x => setN F x A.length)) true true 1 (by omega) hs10.gf
  have n11 := ha11.1.1
  have hset : famK (fam (s10.map fun x => setN F x A.length)) 128 = runSets L A F := by
    refine runSets_eq (List.Pairwise.filter _ List.pairwise_lt_range) (fun a ha => ?_) fun x B hr => ?_
    · obtain ⟨h1, h2⟩ := List.mem_filter.1 ha
      refine ⟨by simpa using h1, ?_⟩
      have h3 := of_decide_eq_true (p := a ∈ s10.map fun x => setN F x A.length) h2
      obtain ⟨x, hx, rfl⟩ := List.mem_map.1 h3
      obtain ⟨C, hr⟩ := hrch x hx
      exact ⟨x, C, hr, rfl⟩
    · refine List.mem_filter.2 ⟨List.mem_range.2 ?_, decide_eq_true (List.mem_map.2 ⟨x, hall x B hr, rfl⟩)⟩
      exact Nat.lt_of_lt_of_le (setN_lt (r6 x B hr) _) (bit7 (by rcases r5 A.length with h | h <;> omega)).2
  rw [hset] at hs11
  have hs11' := hs11
  obtain ⟨b11, rfl, hb11⟩ := hs11'
  have ntb := hb11.nt
  have csb := hb11.cs
  have gz11 : h11.get (h.next + 1) = .cells [.int .i64 0, .slice none 0 0] true true 1 := by rw [ha11.1.2 _ (by omega)]; exact gz10
  try simp (disch := first | omega | (simp; done) | fail) [wrap64c, if_pos, if_neg, opAnd, opOr, opXor, opDiff, opShr, opBit, gc0, gz0, nt1, cs1, gc1, gz1, hcn, lu1, lx, gc2, gz2, g52, hz0, e1, e2, e5, e7, e8, e22, e23, e24, g8, lp, ntp, ntq, hlt, hplen, gc4, gz4', c2, ntP, csP, gc9, gz10, g1110, ntb, csb, gz11]
  refine callG_c (by simp) (by simp) ?ha (hc11) ?_
  (case ha => simp (disch := first | omega | (simp; done) | fail) [wrap64c, if_pos, if_neg, opAnd, opOr, opXor, opDiff, opShr, opBit, gc0, gz0, nt1, cs1, gc1, gz1, hcn, lu1, lx, gc2, gz2, g52, hz0, e1, e2, e5, e7, e8, e22, e23, e24, g8, lp, ntp, ntq, hlt, hplen, gc4, gz4', c2, ntP, csP, gc9, gz10, g1110, ntb, csb, gz11])
  try simp (disch := first | omega | (simp; done) | fail) [wrap64c, if_pos, if_neg, opAnd, opOr, opXor, opDiff, opShr, opBit, gc0, gz0, nt1, cs1, gc1, gz1, hcn, lu1, lx, gc2, gz2, g52, hz0, e1, e2, e5, e7, e8, e22, e23, e24, g8, lp, ntp, ntq, hlt, hplen, gc4, gz4', c2, ntP, csP, gc9, gz10, g1110, ntb, csb, gz11, putCells]
  have A10 : Adds h h10 := K9.wr W10 fun o e => by omega
  have A11 := A10.trans ha11
  refine done_ret (by simp [putCells, e2]; rfl) ⟨by have := mA; exact (by first | exact aK | exact kK), .agg #[.int .i64 (run.length : Int), b11], p, by rw [hk]; rfl, h10.next, by omega, by simp; omega, ?_, ?_⟩
  · have y1 : rsN L A = (run.length : Int) := by rw [rsN, if_pos hk, ← hF]; show ((startN F A.length : Nat) : Int) = _; rw [r2]
    have y2 : rsX L A = toN (runSets L A F) := by rw [rsX, if_pos hk, ← hF]
    rw [y1, y2]
    exact ⟨b11, rfl, (hb11.same (Same.put (Same.refl _ _) (by unfold Btw; omega) _)).sub fun o ho => ⟨ho.1, by have := ho.2; simp; omega⟩⟩
  · have y3 : rsP L A = placesN F A.length := by rw [rsP, if_pos hk, ← hF]
    rw [y3]
    exact ((hP10.keep ha11.1).same (Same.put (Same.refl _ _) (by unfold Btw; omega) _)).sub fun o ho => ⟨by have := ho.1; omega, by have := ho.2; omega⟩
end Go.Proofs.Ytnnjehonbolliaa
namespace Go.Proofs.Ytnnjehonbolliaa
set_option linter.unusedSimpArgs false
set_option linter.unusedVariables false
set_option maxHeartbeats 4000000
open Go Go.Eng
attribute [local irreducible] WD RunD PreD Runs CallOK
def on1 (x : Int) : Int := IntKind.wrap .u64 (bAnd .u64 (bShr .u64 x 1) 6148914691236517205 + bAnd .u64 x 6148914691236517205)
def on2 (x : Int) : Int := IntKind.wrap .u64 (bAnd .u64 (bShr .u64 x 2) 3689348814741910323 + bAnd .u64 x 3689348814741910323)
def on3 (x : Int) : Int := bAnd .u64 (IntKind.wrap .u64 (bShr .u64 x 4 + x)) 1085102592571150095
def on4 (x : Int) (k : Int) : Int := IntKind.wrap .u64 (x + bShr .u64 x k)
def idxI (p : Int → Bool) (xs : List Int) : Int := match xs.findIdx? p with
  | some i => i
  | none => -1
theorem idxI_at {p : Int → Bool} {xs : List Int} {j : Nat} (h1 : ∀ i (hi : i < xs.length), i < j → p xs[i] = false) (hj : j < xs.length) (hp : p xs[j] = true) : idxI p xs = j := by
  have : xs.findIdx? p = some j := by
    rw [List.findIdx?_eq_some_iff_getElem]
    exact ⟨hj, hp, fun i hi => by simpa using h1 i (by omega) hi⟩
  rw [idxI, this]
theorem idxI_none {p : Int → Bool} {xs : List Int} (h1 : ∀ i (hi : i < xs.length), p xs[i] = false) : idxI p xs = -1 := by
  have : xs.findIdx? p = none := by
    rw [List.findIdx?_eq_none_iff]
    intro x hx
    obtain ⟨i, hi, rfl⟩ := List.getElem_of_mem hx
    exact h1 i hi
  rw [idxI, this]
theorem idxI_any (p : Int → Bool) (xs : List Int) : decide (0 ≤ idxI p xs) = xs.any p := by
  unfold idxI
  cases h : xs.findIdx? p with
  | none =>
    rw [List.findIdx?_eq_none_iff] at h
    have : xs.any p = false := by rw [List.any_eq_false]; intro x hx; simp [h x hx]
    rw [this]; rfl
  | some i =>
    rw [List.findIdx?_eq_some_iff_getElem] at h
    obtain ⟨hi, hp, _⟩ := h
    have : xs.any p = true := by rw [List.any_eq_true]; exact ⟨_, List.getElem_mem hi, hp⟩
    rw [this]; simp
theorem indexFunc_ok (h : Hp) (v : Value) (xs : List Int) (p : Int → Bool) (f : Nat) (fst cap : Array Value) (hv : Ints h v xs) (hf : fnOK Try.prog f = true)
    (hp : ∀ x ∈ xs, CallOK Try.prog f (fst ++ #[.int .i64 x] ++ cap) h (.bool (p x)) h) : CallOK Try.prog 70 #[v, .func (.func f) fst cap] h (.int .i64 (idxI p xs)) h := by
  refine callY_P 19 _ [.tmp 4] Try.func70 rfl rfl rfl (by first | rfl | simp) ?_
  have hL := hv.lenD
  have hln := hv.len
  have hf1 := hf
  try simp (disch := first | omega | (simp; done) | fail) [wrap64c, if_pos, if_neg, opAnd, opOr, opXor, opDiff, opShr, opBit, hL, hf1]
  refine WD_loopC [0, 1, 7] (fun m tm h' => ∃ j, m = xs.length - j ∧ h = h' ∧ tm 8 = .int .i64 (j : Int) ∧ (j ≤ xs.length) ∧ (∀ i (h1 : i < xs.length), i < j → p xs[i] = false)) _ ⟨0, rfl, rfl, (by simp (disch := first | omega | (simp; done) | fail) [wrap64c, if_pos, if_neg, opAnd, opOr, opXor, opDiff, opShr, opBit, hL, hf1]), (by first | omega | assumption | (simp (disch := first | omega | (simp; done) | fail) [wrap64c, if_pos, if_neg, opAnd, opOr, opXor, opDiff, opShr, opBit, hL, hf1] <;> omega)), (by intro i h1 h0; omega)⟩ ?_
  rintro m tm h' hFr ⟨j, rfl, rfl, e8, hj, hx⟩
  simp only [FrameL] at hFr
  obtain ⟨f0_0, f1_0, f7_0, -⟩ := hFr
  try simp (disch := first | omega | (simp; done) | fail) [wrap64c, if_pos, if_neg, opAnd, opOr, opXor, opDiff, opShr, opBit, hL, hf1] at f0_0 f1_0 f7_0
  have e0 := f0_0
  have e1 := f1_0
  have e7 := f7_0
  by_cases hlt : j < xs.length
  · obtain ⟨o_x, i_x, c_x, cs_x, own_x, ex_x, es_x, q_x, b_x, g_x, l_x, r_x⟩ := hv.open ((by omega))
    have z_x : ∀ h2 : i_x < cs_x.length, cs_x[i_x] = _ := fun h2 => r_x 0 ((by omega)) h2
    try simp (disch := first | omega | (simp; done) | fail) [wrap64c, if_pos, if_neg, opAnd, opOr, opXor, opDiff, opShr, opBit, hL, hf1, e0, e1, e7, e8, hlt, q_x, g_x, l_x, r_x, z_x]
    refine callG_f (fst := fst) (cap := cap) (by simp) (by simp) ?hf ?hk ?ha (hp xs[j] (List.getElem_mem hlt)) ?_
    (case hf => simp (disch := first | omega | (simp; done) | fail) [wrap64c, if_pos, if_neg, opAnd, opOr, opXor, opDiff, opShr, opBit, hL, hf1, e0, e1, e7, e8, hlt, q_x, g_x, l_x, r_x, z_x]; try rfl)
    (case hk => simp (disch := first | omega | (simp; done) | fail) [wrap64c, if_pos, if_neg, opAnd, opOr, opXor, opDiff, opShr, opBit, hL, hf1, e0, e1, e7, e8, hlt, q_x, g_x, l_x, r_x, z_x])
    (case ha => simp (disch := first | omega | (simp; done) | fail) [wrap64c, if_pos, if_neg, opAnd, opOr, opXor, opDiff, opShr, opBit, hL, hf1, e0, e1, e7, e8, hlt, q_x, g_x, l_x, r_x, z_x])
    cases hc : p xs[j]
    · try simp (disch := first | omega | (simp; done) | fail) [wrap64c, if_pos, if_neg, opAnd, opOr, opXor, opDiff, opShr, opBit, hL, hf1, e0, e1, e7, e8, hlt, q_x, g_x, l_x, r_x, z_x, hc]
      refine loopK_next _ ?hm ?hf ⟨j + 1, rfl, rfl, (by simp (disch := first | omega | (simp; done) | fail) [wrap64c, if_pos, if_neg, opAnd, opOr, opXor, opDiff, opShr, opBit, hL, hf1, e0, e1, e7, e8, hlt, q_x, g_x, l_x, r_x, z_x, hc] <;> omega), (by first | omega | assumption | (simp (disch := first | omega | (simp; done) | fail) [wrap64c, if_pos, if_neg, opAnd, opOr, opXor, opDiff, opShr, opBit, hL, hf1, e0, e1, e7, e8, hlt, q_x, g_x, l_x, r_x, z_x, hc] <;> omega)), ?c_hx⟩
      (case hm => first | omega | (simp; omega))
      (case hf => simp [FrameL, hL, hf1, e0, e1, e7, e8, hlt, q_x, g_x, l_x, r_x, z_x, hc, f0_0, f1_0, f7_0])
      case c_hx =>
        exact (fun i h1 hi => by
          by_cases e : i = j
          · subst e; exact hc
          · exact hx i h1 (by omega))
    · try simp (disch := first | omega | (simp; done) | fail) [wrap64c, if_pos, if_neg, opAnd, opOr, opXor, opDiff, opShr, opBit, hL, hf1, e0, e1, e7, e8, hlt, q_x, g_x, l_x, r_x, z_x, hc]
      exact done_ret rfl (by simp [idxI_at hx hlt hc])
  · try simp (disch := first | omega | (simp; done) | fail) [wrap64c, if_pos, if_neg, opAnd, opOr, opXor, opDiff, opShr, opBit, hL, hf1, e0, e1, e7, e8, hlt]
    exact done_ret rfl (by simp [idxI_none fun i h1 => hx i h1 (by omega)])
theorem containsFunc_ok (h : Hp) (v : Value) (xs : List Int) (p : Int → Bool) (f : Nat) (fst cap : Array Value) (hv : Ints h v xs) (hf : fnOK Try.prog f = true)
    (hp : ∀ x ∈ xs, CallOK Try.prog f (fst ++ #[.int .i64 x] ++ cap) h (.bool (p x)) h) : CallOK Try.prog 67 #[v, .func (.func f) fst cap] h (.bool (xs.any p)) h := by
  refine callY_P 9 _ [.tmp 4] Try.func67 rfl rfl rfl (by first | rfl | simp) ?_
  try simp (disch := first | omega | (simp; done) | fail) [wrap64c, if_pos, if_neg, opAnd, opOr, opXor, opDiff, opShr, opBit]
  refine callG_c (by simp) (by simp) ?ha (indexFunc_ok h v xs p f fst cap hv hf hp) ?_
  (case ha => simp (disch := first | omega | (simp; done) | fail) [wrap64c, if_pos, if_neg, opAnd, opOr, opXor, opDiff, opShr, opBit])
  have e := idxI_any p xs
  try simp (disch := first | omega | (simp; done) | fail) [wrap64c, if_pos, if_neg, opAnd, opOr, opXor, opDiff, opShr, opBit, e]
  exact done_ret rfl (by simp [← e])
theorem isNeg_ok (h : Hp) (x : Int) : CallOK Try.prog 94 #[.int .i64 x] h (.bool (decide (x < 0))) h := by
  refine callY_P 5 _ [.tmp 2] Try.func94 rfl rfl rfl (by first | rfl | simp) ?_
  try simp (disch := first | omega | (simp; done) | fail) [wrap64c, if_pos, if_neg, opAnd, opOr, opXor, opDiff, opShr, opBit]
  exact done_ret rfl (by simp)
def chB (ch : List Int) (m : Int) : Bool := decide ((ch.length : Int) ≤ m) && !ch.any fun x => decide (x < 0)
theorem chB_pos {ch : List Int} {m : Int} (h : chB ch m = true) : ((ch.length : Int) ≤ m) ∧ ∀ x ∈ ch, 0 ≤ x := by
  unfold chB at h
  simp only [Bool.and_eq_true, decide_eq_true_eq, Bool.not_eq_true', List.any_eq_false] at h
  exact ⟨h.1, fun x hx => by have := h.2 x hx; omega⟩
theorem areChoices_ok (h : Hp) (v : Value) (ch : List Int) (m : Int) (hv : Ints h v ch) : CallOK Try.prog 44 #[v, .int .i64 m] h (.bool (chB ch m)) h := by
  refine callY_P 14 _ [.tmp 4] Try.func44 rfl rfl rfl (by first | rfl | simp) ?_
  have hL := hv.lenD
  by_cases hc : (ch.length : Int) ≤ m
  · try simp (disch := first | omega | (simp; done) | fail) [wrap64c, if_pos, if_neg, opAnd, opOr, opXor, opDiff, opShr, opBit, hL, hc]
    refine callG_c (by simp) (by simp) ?ha (containsFunc_ok h v ch (fun x => decide (x < 0)) 94 #[] #[] hv (by simp) (fun x _ => isNeg_ok h x)) ?_
    (case ha => simp (disch := first | omega | (simp; done) | fail) [wrap64c, if_pos, if_neg, opAnd, opOr, opXor, opDiff, opShr, opBit, hL, hc])
    try simp (disch := first | omega | (simp; done) | fail) [wrap64c, if_pos, if_neg, opAnd, opOr, opXor, opDiff, opShr, opBit, hL, hc]
    exact done_ret rfl (by simp [chB, hc])
  · try simp (disch := first | omega | (simp; done) | fail) [wrap64c, if_pos, if_neg, opAnd, opOr, opXor, opDiff, opShr, opBit, hL, hc]
    exact done_ret rfl (by simp [chB, hc])
theorem chosen_ok (h : Hp) (v w : Value) (l : List Nat) (ch : List Int) (k : Nat) (hv : Ints h v (toN l)) (hw : Ints h w ch) (hne : l ≠ []) (hll : l.length < 2 ^ 40) (hp : ∀ x ∈ ch, 0 ≤ x) :
    CallOK Try.prog 88 #[v, w, .int .i64 (k : Int)] h (.int .i64 ((pickN ch k l : Nat) : Int)) h := by
  refine callY_P 24 _ [.tmp 6] Try.func88 rfl rfl rfl (by first | rfl | simp) ?_
  have hL := hv.lenD
  have hM := hw.lenD
  have hgt := toN_get l
  have hln := toN_length l
  have hl0 : 0 < l.length := List.length_pos_iff.2 hne
  obtain ⟨o_x, i_x, c_x, cs_x, own_x, ex_x, es_x, q_x, b_x, g_x, l_x, r_x⟩ := hv.open ((by omega))
  have z_x : ∀ h2 : i_x < cs_x.length, cs_x[i_x] = _ := fun h2 => r_x 0 ((by omega)) h2
  by_cases hk : k < ch.length
  · obtain ⟨o_y, i_y, c_y, cs_y, own_y, ex_y, es_y, q_y, b_y, g_y, l_y, r_y⟩ := hw.open ((by omega))
    have z_y : ∀ h2 : i_y < cs_y.length, cs_y[i_y] = _ := fun h2 => r_y 0 ((by omega)) h2
    obtain ⟨q, hq⟩ : ∃ q : Nat, ch[k] = q := ⟨ch[k].toNat, by have := hp _ (List.getElem_mem hk); omega⟩
    have hml := Nat.mod_lt q hl0
    obtain ⟨r, hr⟩ : ∃ r, r = q % l.length := ⟨_, rfl⟩
    rw [← hr] at hml
    have hmd : Int.tmod (q : Int) (l.length : Int) = r := by rw [Int.tmod_eq_emod_of_nonneg (by omega), hr]; rfl
    have hne0 : ¬ ((l.length : Int) = 0) := by omega
    have hne1 : ¬ l = [] := hne
    have hpk : pickN ch k l = l[r] := by
      unfold pickN
      rw [dif_pos hk, hq, Int.toNat_natCast, ← hr, List.getD_eq_getElem?_getD, List.getElem?_eq_getElem hml]; rfl
    try simp (disch := first | omega | (simp; done) | fail) [wrap64c, if_pos, if_neg, opAnd, opOr, opXor, opDiff, opShr, opBit, hL, hM, hgt, q_x, g_x, l_x, r_x, z_x, hk, q_y, g_y, l_y, r_y, z_y, hq, hmd, hne0, hne1]
    exact done_ret rfl (by simp [hpk])
  · have hpk : pickN ch k l = l[0] := by
      unfold pickN
      rw [dif_neg hk, List.getD_eq_getElem?_getD, List.getElem?_eq_getElem hl0]; rfl
    try simp (disch := first | omega | (simp; done) | fail) [wrap64c, if_pos, if_neg, opAnd, opOr, opXor, opDiff, opShr, opBit, hL, hM, hgt, q_x, g_x, l_x, r_x, z_x, hk]
    exact done_ret rfl (by simp [hpk])
end Go.Proofs.Ytnnjehonbolliaa
namespace Go.Proofs.Ytnnjehonbolliaa
set_option linter.unusedSimpArgs false
set_option linter.unusedVariables false
set_option maxHeartbeats 4000000
open Go Go.Eng
attribute [local irreducible] WD RunD PreD Runs CallOK
def natsOf (X : List Int) : List Nat := X.map Int.toNat
@[simp] theorem natsOf_toN (xs : List Nat) : natsOf (toN xs) = xs := by
  unfold natsOf toN
  rw [List.map_map]
  conv => rhs; rw [← List.map_id xs]
  apply List.map_congr_left
  intro x _
  simp
noncomputable def walkR (N : Int) (X ch : List Int) : List Int := if (spB N X && chB ch 20) = true then toN (walkS (fam (natsOf X)) N.toNat ch N.toNat).1 else []
theorem chB_of {ch : List Int} {m : Int} (h1 : (ch.length : Int) ≤ m) (h2 : ∀ j (hj : j < ch.length), 0 ≤ ch[j]) : chB ch m = true := by
  unfold chB
  simp only [Bool.and_eq_true, decide_eq_true_eq, Bool.not_eq_true', List.any_eq_false]
  refine ⟨h1, fun x hx => ?_⟩
  obtain ⟨j, hj, rfl⟩ := List.getElem_of_mem hx
  have := h2 j hj
  omega
theorem implWalk_ok (h : Hp) (v w : Value) (N : Int) (X ch : List Int) (hv : Space h v N X) (hw : Ints h w ch) (hl : X.length < 2 ^ 40) (hcl : ch.length < 2 ^ 40) :
    ∃ v' h', CallOK Try.prog 40 #[v, w] h v' h' ∧ Adds h h' ∧ ∃ u, v' = .tuple #[u, .bool (spB N X && chB ch 20)] ∧ IntsO (Btw h.next h'.next) h' u (walkR N X ch) := by
  refine callY_L (args := [v, w]) 42 _ [.tmp 4, .tmp 5] Try.func40 rfl rfl rfl ?_
  obtain ⟨b, rfl, hX⟩ := hv
  have hM := hw.lenD
  refine WD_first ?_
  try simp (disch := first | omega | (simp; done) | fail) [wrap64c, if_pos, if_neg, opAnd, opOr, opXor, opDiff, opShr, opBit, hM]
  refine stopK_heap fun h0 q_h0 => ?_
  refine stopK_go ?_
  have g_h0 : h0.get h.next = .cells [.int .i64 N, b] true true 1 := by simp [q_h0]
  have k_h0 : Adds h h0 := by rw [q_h0]; exact (by first | exact aK | exact kK)
  have n_h0 : h.next < h0.next := by simp [q_h0]; try omega
  have hX0 := hX.keep k_h0.1
  have hw0 := hw.keep k_h0.1
  have K0 := k_h0.1
  try simp (disch := first | omega | (simp; done) | fail) [wrap64c, if_pos, if_neg, opAnd, opOr, opXor, opDiff, opShr, opBit, hM, g_h0]
  refine callG_c (by simp) (by simp) ?ha (isSpace_ok h0 (.agg #[.int .i64 N, b]) N X (.mk hX0) hl) ?_
  (case ha => simp (disch := first | omega | (simp; done) | fail) [wrap64c, if_pos, if_neg, opAnd, opOr, opXor, opDiff, opShr, opBit, hM, g_h0])
  cases c1 : spB N X
  · try simp (disch := first | omega | (simp; done) | fail) [wrap64c, if_pos, if_neg, opAnd, opOr, opXor, opDiff, opShr, opBit, hM, g_h0, c1]
    refine done_ret rfl ⟨k_h0, _, by simp [c1]; rfl, ?_⟩
    rw [walkR, if_neg (by simp [c1])]
    exact .nil _ _
  · try simp (disch := first | omega | (simp; done) | fail) [wrap64c, if_pos, if_neg, opAnd, opOr, opXor, opDiff, opShr, opBit, hM, g_h0, c1]
    refine callG_c (by simp) (by simp) ?ha (areChoices_ok h0 w ch 20 hw0) ?_
    (case ha => simp (disch := first | omega | (simp; done) | fail) [wrap64c, if_pos, if_neg, opAnd, opOr, opXor, opDiff, opShr, opBit, hM, g_h0, c1])
    cases c2 : chB ch 20
    · try simp (disch := first | omega | (simp; done) | fail) [wrap64c, if_pos, if_neg, opAnd, opOr, opXor, opDiff, opShr, opBit, hM, g_h0, c1, c2]
      refine done_ret rfl ⟨k_h0, _, by simp [c1, c2]; rfl, ?_⟩
      rw [walkR, if_neg (by simp [c1, c2])]
      exact .nil _ _
    · obtain ⟨n, xs, hN, hXe, g⟩ := spB_true c1
      have hNt : N = (n : Int) := hN
      have hX1 : Ints h0 b (toN xs) := hXe ▸ hX0
      have n7 := g.n7
      have hb7 := bit7 n7
      have hcp := (chB_pos c2).2
      try simp (disch := first | omega | (simp; done) | fail) [wrap64c, if_pos, if_neg, opAnd, opOr, opXor, opDiff, opShr, opBit, hM, g_h0, c1, c2, hNt]
      obtain ⟨_, h1, hc1, o1, rfl, ha1, ho1, ho2, hg1⟩ := family_ok h0 (.agg #[.int .i64 (n : Int), b]) n xs (.mk hX1) g.lt7 (by have := g.len7; omega)
      refine callG_c (by simp) (by simp) ?ha (hc1) ?_
      (case ha => simp (disch := first | omega | (simp; done) | fail) [wrap64c, if_pos, if_neg, opAnd, opOr, opXor, opDiff, opShr, opBit, hM, g_h0, c1, c2, hNt])
      have g1 : h1.get h.next = .cells [.int .i64 N, b] true true 1 := by rw [ha1.1.2 _ (by omega)]; exact g_h0
      have A1 := k_h0.trans ha1
      have hX2 := hX1.keep ha1.1
      have hw1 := hw0.keep ha1.1
      have hn1 := ha1.1.1
      try simp (disch := first | omega | (simp; done) | fail) [wrap64c, if_pos, if_neg, opAnd, opOr, opXor, opDiff, opShr, opBit, hM, g_h0, c1, c2, hNt, g1]
      refine WD_loopC [1, 2, 6] (fun m tm h' => ∃ k u, m = n - k ∧ tm 7 = u ∧ tm 8 = .int .i64 (((walkS (fam xs) n ch k).2 : Nat) : Int) ∧ (k ≤ n) ∧ (Adds h1 h') ∧ (IntsA h1.next h' u (toN (walkS (fam xs) n ch k).1))) _ ⟨0, _, rfl, (by simp (disch := first | omega | (simp; done) | fail) [wrap64c, if_pos, if_neg, opAnd, opOr, opXor, opDiff, opShr, opBit, hM, g_h0, c1, c2, hNt, g1]), (by simp [walkS]), (by first | omega | assumption | (simp (disch := first | omega | (simp; done) | fail) [wrap64c, if_pos, if_neg, opAnd, opOr, opXor, opDiff, opShr, opBit, hM, g_h0, c1, c2, hNt, g1] <;> omega)), (by first | exact aK | exact kK), (.lit (ex := true) (Nat.le_refl _) (by simp) (by simp [walkS, toN]))⟩ ?_
      rintro m tm h' hFr ⟨k, u, rfl, e7, e8, hk, ha, hu⟩
      simp only [FrameL] at hFr
      obtain ⟨f1_0, f2_0, f6_0, -⟩ := hFr
      try simp (disch := first | omega | (simp; done) | fail) [wrap64c, if_pos, if_neg, opAnd, opOr, opXor, opDiff, opShr, opBit, hM, g_h0, c1, c2, hNt, g1] at f1_0 f2_0 f6_0
      have e1 := f1_0
      have e2 := f2_0
      have e6 := f6_0
      have hlu := walk_len (fam xs) n ch k
      obtain ⟨hi1, hi2⟩ := walk_inv g ch k hk
      have hs128 := g.lt7 _ hi1
      have g1' : h'.get h.next = .cells [.int .i64 N, b] true true 1 := by rw [ha.1.2 _ (by omega)]; exact g1
      have hgf : h'.get o1 = .cells (famC (fam xs)) true true 1 := by rw [ha.1.2 _ (by omega)]; exact hg1
      have hn2 := ha.1.1
      have hlU := hu.lenD
      have hlu2 : (toN (walkS (fam xs) n ch k).1).length = k := by rw [toN_length, hlu]
      try simp (disch := first | omega | (simp; done) | fail) [wrap64c, if_pos, if_neg, opAnd, opOr, opXor, opDiff, opShr, opBit, hM, g_h0, c1, c2, hNt, g1, e1, e2, e6, e7, e8, g1', hlU, hlu2]
      refine callG_c (by simp) (by simp) ?ha (all_ok h' (.agg #[.int .i64 (n : Int), b]) n _ (.mk (hX2.keep ha.1)) (by omega)) ?_
      (case ha => simp (disch := first | omega | (simp; done) | fail) [wrap64c, if_pos, if_neg, opAnd, opOr, opXor, opDiff, opShr, opBit, hM, g_h0, c1, c2, hNt, g1, e1, e2, e6, e7, e8, g1', hlU, hlu2])
      by_cases hlt : k < n
      · have hne : ¬ ((walkS (fam xs) n ch k).2 = bit n - 1) := fun e => by have := (walk_end g ch hk).1 e; omega
        have hneb : ((((walkS (fam xs) n ch k).2 : Nat) : Int) != ((bit n - 1 : Nat) : Int)) = true := by simp [hne]
        obtain ⟨s, hs⟩ : ∃ s, s = (walkS (fam xs) n ch k).2 := ⟨_, rfl⟩
        have hout := outerN_lt (fam xs) n s
        have hwn := walk_ne g ch hlt
        have hmem := pickN_mem (ch := ch) (k := k) hwn
        obtain ⟨l1, l2, l3⟩ := g.learn hmem
        rw [← hs] at hwn hmem l1 l2 l3 hs128
        have hp64 := bit_lt7 (i := pickN ch k (itemsN (outerN (fam xs) n s))) (by omega)
        have hor := g.lt7 _ l3
        have hs2 := hs.symm
        try simp (disch := first | omega | (simp; done) | fail) [wrap64c, if_pos, if_neg, opAnd, opOr, opXor, opDiff, opShr, opBit, hM, g_h0, c1, c2, hNt, g1, e1, e2, e6, e7, e8, g1', hlU, hlu2, hneb, hs2]
        refine callG_c (by simp) (by simp) ?ha (imOuter_ok h' o1 (fam xs) true true 1 s (by omega) hgf (by omega)) ?_
        (case ha => simp (disch := first | omega | (simp; done) | fail) [wrap64c, if_pos, if_neg, opAnd, opOr, opXor, opDiff, opShr, opBit, hM, g_h0, c1, c2, hNt, g1, e1, e2, e6, e7, e8, g1', hlU, hlu2, hneb, hs2])
        have h7 := g.outer7 s
        try simp (disch := first | omega | (simp; done) | fail) [wrap64c, if_pos, if_neg, opAnd, opOr, opXor, opDiff, opShr, opBit, hM, g_h0, c1, c2, hNt, g1, e1, e2, e6, e7, e8, g1', hlU, hlu2, hneb, hs2, h7]
        obtain ⟨y, h2, hc2, ha2, hi2', _⟩ := items_ok h' (outerN (fam xs) n s) (by omega)
        refine callG_c (by simp) (by simp) ?ha (hc2) ?_
        (case ha => simp (disch := first | omega | (simp; done) | fail) [wrap64c, if_pos, if_neg, opAnd, opOr, opXor, opDiff, opShr, opBit, hM, g_h0, c1, c2, hNt, g1, e1, e2, e6, e7, e8, g1', hlU, hlu2, hneb, hs2, h7])
        have hu2 := hu.keep ha2.1
        have hn3 := ha2.1.1
        try simp (disch := first | omega | (simp; done) | fail) [wrap64c, if_pos, if_neg, opAnd, opOr, opXor, opDiff, opShr, opBit, hM, g_h0, c1, c2, hNt, g1, e1, e2, e6, e7, e8, g1', hlU, hlu2, hneb, hs2, h7]
        refine callG_c (by simp) (by simp) ?ha (chosen_ok h2 y w (itemsN (outerN (fam xs) n s)) ch k hi2'.ints ((hw1.keep ha.1).keep ha2.1) hwn (by have := items_len (outerN (fam xs) n s); omega) hcp) ?_
        (case ha => simp (disch := first | omega | (simp; done) | fail) [wrap64c, if_pos, if_neg, opAnd, opOr, opXor, opDiff, opShr, opBit, hM, g_h0, c1, c2, hNt, g1, e1, e2, e6, e7, e8, g1', hlU, hlu2, hneb, hs2, h7])
        try simp (disch := first | omega | (simp; done) | fail) [wrap64c, if_pos, if_neg, opAnd, opOr, opXor, opDiff, opShr, opBit, hM, g_h0, c1, c2, hNt, g1, e1, e2, e6, e7, e8, g1', hlU, hlu2, hneb, hs2, h7]
        refine WD_chainC rfl (by kernel_rfl) (by kernel_rfl) ?_
        try simp (disch := first | omega | (simp; done) | fail) [wrap64c, if_pos, if_neg, opAnd, opOr, opXor, opDiff, opShr, opBit, hM, g_h0, c1, c2, hNt, g1, e1, e2, e6, e7, e8, g1', hlU, hlu2, hneb, hs2, h7]
        obtain ⟨u3, h3, hap, hu3, ha3, hn4, hs3⟩ := appI2 hu2 ((pickN ch k (itemsN (outerN (fam xs) n s)) : Nat) : Int) (by rw [hlu2]; omega) (by omega) (ha.trans ha2) (Nat.le_refl _)
        try simp (disch := first | omega | (simp; done) | fail) [wrap64c, if_pos, if_neg, opAnd, opOr, opXor, opDiff, opShr, opBit, hM, g_h0, c1, c2, hNt, g1, e1, e2, e6, e7, e8, g1', hlU, hlu2, hneb, hs2, h7, hap]
        refine loopK_next _ ?hm ?hf ⟨k + 1, u3, rfl, (by simp (disch := first | omega | (simp; done) | fail) [wrap64c, if_pos, if_neg, opAnd, opOr, opXor, opDiff, opShr, opBit, hM, g_h0, c1, c2, hNt, g1, e1, e2, e6, e7, e8, g1', hlU, hlu2, hneb, hs2, h7] <;> omega), (by simp [walkS, ← hs]), (by first | omega | assumption | (simp (disch := first | omega | (simp; done) | fail) [wrap64c, if_pos, if_neg, opAnd, opOr, opXor, opDiff, opShr, opBit, hM, g_h0, c1, c2, hNt, g1, e1, e2, e6, e7, e8, g1', hlU, hlu2, hneb, hs2, h7] <;> omega)), ha3, (by simp only [walkS, ← hs]; rw [toN_snoc]; exact hu3)⟩
        (case hm => first | omega | (simp; omega))
        (case hf => simp [FrameL, hM, g_h0, c1, c2, hNt, g1, e1, e2, e6, e7, e8, g1', hlU, hlu2, hneb, hs2, h7, f1_0, f2_0, f6_0])
      · have hke : k = n := by omega
        have hee := (walk_end g ch hk).2 hke
        have hneb : ((((walkS (fam xs) n ch k).2 : Nat) : Int) != ((bit n - 1 : Nat) : Int)) = false := by simp [hee]
        try simp (disch := first | omega | (simp; done) | fail) [wrap64c, if_pos, if_neg, opAnd, opOr, opXor, opDiff, opShr, opBit, hM, g_h0, c1, c2, hNt, g1, e1, e2, e6, e7, e8, g1', hlU, hlu2, hneb]
        refine done_ret rfl ⟨A1.trans ha, _, by simp [c1, c2]; rfl, ?_⟩
        rw [walkR, if_pos (by simp [c1, c2]), hXe, natsOf_toN, hN, Int.toNat_natCast]
        rw [hke] at hu
        exact (hu.own (by simp [walk_len]; omega)).sub fun o ho => ⟨by have := ho.1; omega, ho.2⟩
end Go.Proofs.Ytnnjehonbolliaa
namespace Go.Proofs.Ytnnjehonbolliaa
set_option linter.unusedSimpArgs false
set_option linter.unusedVariables false
set_option maxHeartbeats 4000000
set_option maxRecDepth 20000
open Go Go.Eng
attribute [local irreducible] WD RunD PreD Runs CallOK
theorem lawRunsAreWords_ok (h0 : Hp) (v : Value) (xs : List Int) (hv : Bytes h0 v xs) (w : Value) (ys : List Int) (hw : Bytes h0 w ys) : CallOK Try.prog 4 #[v, w] h0 (.bool true) h0 := by
  have ntv := hv.nt
  have csv := hv.cs
  have ntw := hw.nt
  have csw := hw.cs
  refine callY_P 238 _ [.tmp 4] Try.func4 rfl rfl rfl (by first | rfl | simp) ?_
  try simp (disch := first | omega | (simp; done) | fail) [wrap64c, if_pos, if_neg, opAnd, opOr, opXor, opDiff, opShr, opBit, ntv, csv, ntw, csw]
  refine callG_c (by simp) (by simp) ?ha (big_ok h0 _ _ _ _ hv hw) ?_
  (case ha => simp (disch := first | omega | (simp; done) | fail) [wrap64c, if_pos, if_neg, opAnd, opOr, opXor, opDiff, opShr, opBit, ntv, csv, ntw, csw])
  by_cases hbig : 1048576 < xs.length ∨ 1048576 - (xs.length : Int) < ys.length
  case pos =>
    try simp (disch := first | omega | (simp; done) | fail) [wrap64c, if_pos, if_neg, opAnd, opOr, opXor, opDiff, opShr, opBit, ntv, csv, ntw, csw, hbig]
    exact done_ret rfl (by simp)
  have lxs : xs.length ≤ 1048576 := by omega
  have lys : ys.length ≤ 1048576 := by omega
  try simp (disch := first | omega | (simp; done) | fail) [wrap64c, if_pos, if_neg, opAnd, opOr, opXor, opDiff, opShr, opBit, ntv, csv, ntw, csw, hbig]
  have K0 : Keeps h0 h0 := .refl _
  obtain ⟨_, h1, p1, a1, L, A, hC, sm1⟩ := drawSpaceOfRuns_ok h0 v xs (bytes_old hv)
  refine callG_c (by simp) (by simp) ?ha (p1) ?_
  (case ha => simp (disch := first | omega | (simp; done) | fail) [wrap64c, if_pos, if_neg, opAnd, opOr, opXor, opDiff, opShr, opBit, ntv, csv, ntw, csw, hbig])
  have n1 := a1.1.1
  have K1 := K0.trans a1.1
  have hv := hv.keep a1.1
  have hw := hw.keep a1.1
  obtain ⟨c0, c1, rfl, hc0, hc1⟩ := hC
  have ntc0 := hc0.nt
  have csc0 := hc0.cs
  have ntc1 := hc1.nt
  have csc1 := hc1.cs
  have hC : Chips h1 (.agg #[c0, c1]) (L) (A) := ⟨c0, c1, rfl, hc0, hc1⟩
  try simp (disch := first | omega | (simp; done) | fail) [wrap64c, if_pos, if_neg, opAnd, opOr, opXor, opDiff, opShr, opBit, ntv, csv, ntw, csw, hbig, ntc0, csc0, ntc1, csc1, putCells]
  first | refine WY_heap fun h2 q_h2 => ?_ | refine callG_heap fun h2 q_h2 => ?_ | refine callP_heap fun h2 q_h2 => ?_ | refine callS_heap fun h2 q_h2 => ?_ | refine RY_heap fun h2 q_h2 => ?_ | refine PY_heap fun h2 q_h2 => ?_ | refine SY_heap fun h2 q_h2 => ?_ | refine doneY_heap fun h2 q_h2 => ?_ | refine loopK_heap fun h2 q_h2 => ?_ | refine thenY_heap fun h2 q_h2 => ?_ | refine thenM_heap fun h2 q_h2 => ?_
  have b2 : Adds h1 h2 := by rw [q_h2]; exact (by first | exact aK | exact kK)
  have n2 := b2.1.1
  have K2 := K1.trans b2.1
  have hv := hv.keep b2.1
  have hw := hw.keep b2.1
  have hC := hC.keep b2.1
  have m2 : h2.next = h1.next + 1 := by simp [q_h2]
  have gc : h2.get h1.next = .cells [c0, c1] true true 1 := by simp [q_h2]
  obtain ⟨_, h3, p3, a3, u1, u2, rfl, ⟨z1, _, _, hu1, hu2⟩⟩ := implRS_ok h2 _ L A hC
  refine callG_c (by simp) (by simp) ?ha (p3) ?_
  (case ha => simp (disch := first | omega | (simp; done) | fail) [wrap64c, if_pos, if_neg, opAnd, opOr, opXor, opDiff, opShr, opBit, ntv, csv, ntw, csw, hbig, ntc0, csc0, ntc1, csc1, gc])
  have n3 := a3.1.1
  have K3 := K2.trans a3.1
  have gc : h3.get h1.next = .cells [c0, c1] true true 1 := by rw [a3.1.2 _ (by omega)]; exact gc
  have hv := hv.keep a3.1
  have hw := hw.keep a3.1
  have hC := hC.keep a3.1
  have hu1 := hu1.space
  obtain ⟨s1, rfl, hs1⟩ := hu1
  have nts1 := hs1.nt
  have css1 := hs1.cs
  have hu1 : Space h3 (.agg #[.int .i64 (rsN L A), s1]) (rsN L A) (rsX L A) := ⟨s1, rfl, hs1⟩
  have ntu2 := hu2.nt
  have csu2 := hu2.cs
  try simp (disch := first | omega | (simp; done) | fail) [wrap64c, if_pos, if_neg, opAnd, opOr, opXor, opDiff, opShr, opBit, ntv, csv, ntw, csw, hbig, ntc0, csc0, ntc1, csc1, gc, nts1, css1, ntu2, csu2, putCells]
  first | refine WY_heap fun h4 q_h4 => ?_ | refine callG_heap fun h4 q_h4 => ?_ | refine callP_heap fun h4 q_h4 => ?_ | refine callS_heap fun h4 q_h4 => ?_ | refine RY_heap fun h4 q_h4 => ?_ | refine PY_heap fun h4 q_h4 => ?_ | refine SY_heap fun h4 q_h4 => ?_ | refine doneY_heap fun h4 q_h4 => ?_ | refine loopK_heap fun h4 q_h4 => ?_ | refine thenY_heap fun h4 q_h4 => ?_ | refine thenM_heap fun h4 q_h4 => ?_
  have b4 : Adds h3 h4 := by rw [q_h4]; exact (by first | exact aK | exact kK)
  have n4 := b4.1.1
  have K4 := K3.trans b4.1
  have gc : h4.get h1.next = .cells [c0, c1] true true 1 := by rw [b4.1.2 _ (by omega)]; exact gc
  have hv := hv.keep b4.1
  have hw := hw.keep b4.1
  have hC := hC.keep b4.1
  have hu2 := hu2.keep b4.1
  have hu1 := hu1.keep b4.1
  have m4 : h4.next = h3.next + 1 := by simp [q_h4]
  have gs : h4.get h3.next = .cells [.int .i64 (rsN L A), s1] true true 1 := by simp [q_h4]
  obtain ⟨_, h5, p5, a5, u3, u4, rfl, ⟨z2, _, _, hu3, hu4⟩⟩ := specRS_ok h4 _ L A hC
  refine callG_c (by simp) (by simp) ?ha (p5) ?_
  (case ha => simp (disch := first | omega | (simp; done) | fail) [wrap64c, if_pos, if_neg, opAnd, opOr, opXor, opDiff, opShr, opBit, ntv, csv, ntw, csw, hbig, ntc0, csc0, ntc1, csc1, gc, nts1, css1, ntu2, csu2, gs])
  have n5 := a5.1.1
  have K5 := K4.trans a5.1
  have gc : h5.get h1.next = .cells [c0, c1] true true 1 := by rw [a5.1.2 _ (by omega)]; exact gc
  have gs : h5.get h3.next = .cells [.int .i64 (rsN L A), s1] true true 1 := by rw [a5.1.2 _ (by omega)]; exact gs
  have hv := hv.keep a5.1
  have hw := hw.keep a5.1
  have hC := hC.keep a5.1
  have hu2 := hu2.keep a5.1
  have hu1 := hu1.keep a5.1
  have hu3 := hu3.space
  obtain ⟨s3, rfl, hs3⟩ := hu3
  have nts3 := hs3.nt
  have css3 := hs3.cs
  have hu3 : Space h5 (.agg #[.int .i64 (rsN L A), s3]) (rsN L A) (rsX L A) := ⟨s3, rfl, hs3⟩
  try simp (disch := first | omega | (simp; done) | fail) [wrap64c, if_pos, if_neg, opAnd, opOr, opXor, opDiff, opShr, opBit, ntv, csv, ntw, csw, hbig, ntc0, csc0, ntc1, csc1, gc, nts1, css1, ntu2, csu2, gs, nts3, css3, putCells]
  first | refine WY_heap fun h6 q_h6 => ?_ | refine callG_heap fun h6 q_h6 => ?_ | refine callP_heap fun h6 q_h6 => ?_ | refine callS_heap fun h6 q_h6 => ?_ | refine RY_heap fun h6 q_h6 => ?_ | refine PY_heap fun h6 q_h6 => ?_ | refine SY_heap fun h6 q_h6 => ?_ | refine doneY_heap fun h6 q_h6 => ?_ | refine loopK_heap fun h6 q_h6 => ?_ | refine thenY_heap fun h6 q_h6 => ?_ | refine thenM_heap fun h6 q_h6 => ?_
  have b6 : Adds h5 h6 := by rw [q_h6]; exact (by first | exact aK | exact kK)
  have n6 := b6.1.1
  have K6 := K5.trans b6.1
  have gc : h6.get h1.next = .cells [c0, c1] true true 1 := by rw [b6.1.2 _ (by omega)]; exact gc
  have gs : h6.get h3.next = .cells [.int .i64 (rsN L A), s1] true true 1 := by rw [b6.1.2 _ (by omega)]; exact gs
  have hv := hv.keep b6.1
  have hw := hw.keep b6.1
  have hC := hC.keep b6.1
  have hu2 := hu2.keep b6.1
  have hu1 := hu1.keep b6.1
  have hu4 := hu4.keep b6.1
  have hu3 := hu3.keep b6.1
  have m6 : h6.next = h5.next + 1 := by simp [q_h6]
  have gt : h6.get h5.next = .cells [.int .i64 (rsN L A), s3] true true 1 := by simp [q_h6]
  refine callG_c (by simp) (by simp) ?ha (implRuns_ok h6 _ L A hC) ?_
  (case ha => simp (disch := first | omega | (simp; done) | fail) [wrap64c, if_pos, if_neg, opAnd, opOr, opXor, opDiff, opShr, opBit, ntv, csv, ntw, csw, hbig, ntc0, csc0, ntc1, csc1, gc, nts1, css1, ntu2, csu2, gs, nts3, css3, gt])
  try simp (disch := first | omega | (simp; done) | fail) [wrap64c, if_pos, if_neg, opAnd, opOr, opXor, opDiff, opShr, opBit, ntv, csv, ntw, csw, hbig, ntc0, csc0, ntc1, csc1, gc, nts1, css1, ntu2, csu2, gs, nts3, css3, gt]
  refine callG_c (by simp) (by simp) ?ha (specRuns_ok h6 _ L A hC) ?_
  (case ha => simp (disch := first | omega | (simp; done) | fail) [wrap64c, if_pos, if_neg, opAnd, opOr, opXor, opDiff, opShr, opBit, ntv, csv, ntw, csw, hbig, ntc0, csc0, ntc1, csc1, gc, nts1, css1, ntu2, csu2, gs, nts3, css3, gt])
  try simp (disch := first | omega | (simp; done) | fail) [wrap64c, if_pos, if_neg, opAnd, opOr, opXor, opDiff, opShr, opBit, ntv, csv, ntw, csw, hbig, ntc0, csc0, ntc1, csc1, gc, nts1, css1, ntu2, csu2, gs, nts3, css3, gt]
  refine callG_c (by simp) (by simp) ?ha (iSpace_ok h6 _ _ _ _ _ _ hu1 hu3) ?_
  (case ha => simp (disch := first | omega | (simp; done) | fail) [wrap64c, if_pos, if_neg, opAnd, opOr, opXor, opDiff, opShr, opBit, ntv, csv, ntw, csw, hbig, ntc0, csc0, ntc1, csc1, gc, nts1, css1, ntu2, csu2, gs, nts3, css3, gt])
  try simp (disch := first | omega | (simp; done) | fail) [wrap64c, if_pos, if_neg, opAnd, opOr, opXor, opDiff, opShr, opBit, ntv, csv, ntw, csw, hbig, ntc0, csc0, ntc1, csc1, gc, nts1, css1, ntu2, csu2, gs, nts3, css3, gt]
  refine callG_c (by simp) (by simp) ?ha (iSame_ok h6 _ _ _ _ hu2.ints hu4.ints) ?_
  (case ha => simp (disch := first | omega | (simp; done) | fail) [wrap64c, if_pos, if_neg, opAnd, opOr, opXor, opDiff, opShr, opBit, ntv, csv, ntw, csw, hbig, ntc0, csc0, ntc1, csc1, gc, nts1, css1, ntu2, csu2, gs, nts3, css3, gt])
  by_cases hb : rsB L A = true
  case neg =>
    have hb' : rsB L A = false := by simpa using hb
    try simp (disch := first | omega | (simp; done) | fail) [wrap64c, if_pos, if_neg, opAnd, opOr, opXor, opDiff, opShr, opBit, ntv, csv, ntw, csw, hbig, ntc0, csc0, ntc1, csc1, gc, nts1, css1, ntu2, csu2, gs, nts3, css3, gt, hb']
    exact done_ret rfl (by simp [K6])
  have hb' := hb
  obtain ⟨E, R, hg, hsm, r, hcR, eN, eX, eP, lP, rb, rN, bF, lF⟩ := rs_of hb
  have st := r.st
  have gd := r.good
  have r7 := r.r7
  have r1 := r.r1
  have hA5 := r.sh.le
  obtain ⟨F, hF⟩ : ∃ F, F = rsF L A := ⟨_, rfl⟩
  rw [← hF] at r st gd hcR eX eP lP bF lF
  obtain ⟨P, hP⟩ : ∃ P, P = placesN F A.length := ⟨_, rfl⟩
  rw [← hP] at eP lP
  obtain ⟨S, hSe⟩ : ∃ S, S = runSets L A F := ⟨_, rfl⟩
  rw [← hSe] at eX gd
  rw [eN, eX] at hu1
  rw [eP] at hu2
  have hsp : spB (R : Int) (toN S) = true := spB_of gd
  have lS := gd.len7
  have rN' := rN
  have hwc : waysM (fam S) R 0 = wN L R A := by rw [hSe]; exact r.count
  have hcw : cwN (R : Int) (toN S) = ((wN L R A : Nat) : Int) := by rw [cwN_eq gd, hwc]
  have lXs : (xs.length : Int).tmod 7 = ((xs.length % 7 : Nat) : Int) := by rw [Int.tmod_eq_emod_of_nonneg (by omega)]; rfl
  have lYs : (ys.length : Int).tmod 5 = ((ys.length % 5 : Nat) : Int) := by rw [Int.tmod_eq_emod_of_nonneg (by omega)]; rfl
  obtain ⟨ra, hra⟩ : ∃ m, m = xs.length % 7 := ⟨_, rfl⟩
  obtain ⟨rc, hrc⟩ : ∃ m, m = ys.length % 5 := ⟨_, rfl⟩
  rw [← hra] at lXs
  rw [← hrc] at lYs
  have lXs' := lXs
  have lv := hv.lenD
  have lw' := hw.lenD
  try simp (disch := first | omega | (simp; done) | fail) [wrap64c, if_pos, if_neg, opAnd, opOr, opXor, opDiff, opShr, opBit, ntv, csv, ntw, csw, hbig, ntc0, csc0, ntc1, csc1, gc, nts1, css1, ntu2, csu2, gs, nts3, css3, gt, hb', hsp, rN', rb, eN, eX, hcw, lXs', lYs, lv, lw']
  refine callG_c (by simp) (by simp) ?ha (imCountWords_ok h6 _ _ _ hu1 (by simp; omega)) ?_
  (case ha => simp (disch := first | omega | (simp; done) | fail) [wrap64c, if_pos, if_neg, opAnd, opOr, opXor, opDiff, opShr, opBit, ntv, csv, ntw, csw, hbig, ntc0, csc0, ntc1, csc1, gc, nts1, css1, ntu2, csu2, gs, nts3, css3, gt, hb', hsp, rN', rb, eN, eX, hcw, lXs', lYs, lv, lw'])
  try simp (disch := first | omega | (simp; done) | fail) [wrap64c, if_pos, if_neg, opAnd, opOr, opXor, opDiff, opShr, opBit, ntv, csv, ntw, csw, hbig, ntc0, csc0, ntc1, csc1, gc, nts1, css1, ntu2, csu2, gs, nts3, css3, gt, hb', hsp, rN', rb, eN, eX, hcw, lXs', lYs, lv, lw']
  first | refine WY_heap fun h7 q_h7 => ?_ | refine callG_heap fun h7 q_h7 => ?_ | refine callP_heap fun h7 q_h7 => ?_ | refine callS_heap fun h7 q_h7 => ?_ | refine RY_heap fun h7 q_h7 => ?_ | refine PY_heap fun h7 q_h7 => ?_ | refine SY_heap fun h7 q_h7 => ?_ | refine doneY_heap fun h7 q_h7 => ?_ | refine loopK_heap fun h7 q_h7 => ?_ | refine thenY_heap fun h7 q_h7 => ?_ | refine thenM_heap fun h7 q_h7 => ?_
  have b7 : Adds h6 h7 := by rw [q_h7]; exact (by first | exact aK | exact kK)
  have n7 := b7.1.1
  have K7 := K6.trans b7.1
  have gc : h7.get h1.next = .cells [c0, c1] true true 1 := by rw [b7.1.2 _ (by omega)]; exact gc
  have gs : h7.get h3.next = .cells [.int .i64 (rsN L A), s1] true true 1 := by rw [b7.1.2 _ (by omega)]; exact gs
  have gt : h7.get h5.next = .cells [.int .i64 (rsN L A), s3] true true 1 := by rw [b7.1.2 _ (by omega)]; exact gt
  have hv := hv.keep b7.1
  have hw := hw.keep b7.1
  have hC := hC.keep b7.1
  have hu2 := hu2.keep b7.1
  have hu1 := hu1.keep b7.1
  have hu4 := hu4.keep b7.1
  have hu3 := hu3.keep b7.1
  have hch : Ints h7 (.slice (some ⟨h6.next, 0, none⟩) 4 4) [(ra : Int), (rc : Int), 3, 1] := (lit_ints (F := fun _ => True) (xs := [(ra : Int), (rc : Int), 3, 1]) (own := true) (ex := true) (es := 1) (by simp [q_h7]) (by simp [q_h7]) trivial (by simp)).ints
  have hcb : chB [(ra : Int), (rc : Int), 3, 1] 20 = true := chB_of (by simp) (fun j hj => by
    have hj4 : j < 4 := by simpa using hj
    match j, hj4 with
    | 0, _ => exact Int.natCast_nonneg _
    | 1, _ => exact Int.natCast_nonneg _
    | 2, _ => exact (by decide : (0 : Int) ≤ 3)
    | 3, _ => exact (by decide : (0 : Int) ≤ 1))
  have hcb' := hcb
  obtain ⟨_, h8, p8, a8, u5, rfl, hu5⟩ := implWalk_ok h7 _ _ (R : Int) (toN S) _ hu1 hch (by simp; omega) (by simp)
  refine callG_c (by simp) (by simp) ?ha (p8) ?_
  (case ha => simp (disch := first | omega | (simp; done) | fail) [wrap64c, if_pos, if_neg, opAnd, opOr, opXor, opDiff, opShr, opBit, ntv, csv, ntw, csw, hbig, ntc0, csc0, ntc1, csc1, gc, nts1, css1, ntu2, csu2, gs, nts3, css3, gt, hb', hsp, rN', rb, eN, eX, hcw, lXs', lYs, lv, lw', hcb'])
  have n8 := a8.1.1
  have K8 := K7.trans a8.1
  have gc : h8.get h1.next = .cells [c0, c1] true true 1 := by rw [a8.1.2 _ (by omega)]; exact gc
  have gs : h8.get h3.next = .cells [.int .i64 (rsN L A), s1] true true 1 := by rw [a8.1.2 _ (by omega)]; exact gs
  have gt : h8.get h5.next = .cells [.int .i64 (rsN L A), s3] true true 1 := by rw [a8.1.2 _ (by omega)]; exact gt
  have hv := hv.keep a8.1
  have hw := hw.keep a8.1
  have hC := hC.keep a8.1
  have hu2 := hu2.keep a8.1
  have hu1 := hu1.keep a8.1
  have hu4 := hu4.keep a8.1
  have hu3 := hu3.keep a8.1
  obtain ⟨wl, hwl⟩ : ∃ l, l = (walkS (fam S) R [(ra : Int), (rc : Int), 3, 1] R).1 := ⟨_, rfl⟩
  have hwR : walkR (R : Int) (toN S) [(ra : Int), (rc : Int), 3, 1] = toN wl := by rw [walkR, if_pos (by simp [hsp, hcb]), natsOf_toN, hwl]; rfl
  have lwl : wl.length = R := by rw [hwl]; exact walk_len _ _ _ _
  rw [hwR] at hu5
  obtain ⟨xw, Bw, hrw, _, hrun⟩ := r.walk [(ra : Int), (rc : Int), 3, 1] R (Nat.le_refl _)
  rw [← hSe, ← hP, ← hwl] at hrun
  try simp (disch := first | omega | (simp; done) | fail) [wrap64c, if_pos, if_neg, opAnd, opOr, opXor, opDiff, opShr, opBit, ntv, csv, ntw, csw, hbig, ntc0, csc0, ntc1, csc1, gc, nts1, css1, ntu2, csu2, gs, nts3, css3, gt, hb', hsp, rN', rb, eN, eX, hcw, lXs', lYs, lv, lw', hcb']
  refine callG_c (by simp) (by simp) ?ha (isSpace_ok h8 _ _ _ hu1 (by simp; omega)) ?_
  (case ha => simp (disch := first | omega | (simp; done) | fail) [wrap64c, if_pos, if_neg, opAnd, opOr, opXor, opDiff, opShr, opBit, ntv, csv, ntw, csw, hbig, ntc0, csc0, ntc1, csc1, gc, nts1, css1, ntu2, csu2, gs, nts3, css3, gt, hb', hsp, rN', rb, eN, eX, hcw, lXs', lYs, lv, lw', hcb'])
  have lu5 := hu5.ints.lenD
  have lwt : (toN wl).length = R := by rw [toN_length]; exact lwl
  have lwt' := lwt
  try simp (disch := first | omega | (simp; done) | fail) [wrap64c, if_pos, if_neg, opAnd, opOr, opXor, opDiff, opShr, opBit, ntv, csv, ntw, csw, hbig, ntc0, csc0, ntc1, csc1, gc, nts1, css1, ntu2, csu2, gs, nts3, css3, gt, hb', hsp, rN', rb, eN, eX, hcw, lXs', lYs, lv, lw', hcb', lu5, lwt']
  have hwi : ∀ t ∈ wl, t < R := by rw [hwl]; exact walk_items gd _ R (Nat.le_refl _)
  obtain ⟨runL, hrl⟩ : ∃ f : Nat → List Int, f = fun j => (wl.take j).map (fun t => P.getD t 0) := ⟨_, rfl⟩
  refine WD_loopC [0, 1, 5, 6, 7, 128, 129] (fun m tm h' => ∃ j u, m = R - j ∧ tm 20 = u ∧ tm 130 = .int .i64 (j : Int) ∧ (j ≤ R) ∧ (Adds h8 h') ∧ (IntsA h8.next h' u (runL j))) _ ⟨0, Value.slice none 0 0, rfl, (by simp (disch := first | omega | (simp; done) | fail) [wrap64c, if_pos, if_neg, opAnd, opOr, opXor, opDiff, opShr, opBit, ntv, csv, ntw, csw, hbig, ntc0, csc0, ntc1, csc1, gc, nts1, css1, ntu2, csu2, gs, nts3, css3, gt, hb', hsp, rN', rb, eN, eX, hcw, lXs', lYs, lv, lw', hcb', lu5, lwt']), (by simp (disch := first | omega | (simp; done) | fail) [wrap64c, if_pos, if_neg, opAnd, opOr, opXor, opDiff, opShr, opBit, ntv, csv, ntw, csw, hbig, ntc0, csc0, ntc1, csc1, gc, nts1, css1, ntu2, csu2, gs, nts3, css3, gt, hb', hsp, rN', rb, eN, eX, hcw, lXs', lYs, lv, lw', hcb', lu5, lwt']), (by first | omega | assumption | (simp (disch := first | omega | (simp; done) | fail) [wrap64c, if_pos, if_neg, opAnd, opOr, opXor, opDiff, opShr, opBit, ntv, csv, ntw, csw, hbig, ntc0, csc0, ntc1, csc1, gc, nts1, css1, ntu2, csu2, gs, nts3, css3, gt, hb', hsp, rN', rb, eN, eX, hcw, lXs', lYs, lv, lw', hcb', lu5, lwt'] <;> omega)), (by first | exact aK | exact kK), (by rw [hrl]; exact .nil _ _)⟩ ?_
  rintro m tm h' hFr ⟨j, u, rfl, e20, e130, hj, hd, hi⟩
  simp only [FrameL] at hFr
  obtain ⟨f0_0, f1_0, f5_0, f6_0, f7_0, f128_0, f129_0, -⟩ := hFr
  try simp (disch := first | omega | (simp; done) | fail) [wrap64c, if_pos, if_neg, opAnd, opOr, opXor, opDiff, opShr, opBit, ntv, csv, ntw, csw, hbig, ntc0, csc0, ntc1, csc1, gc, nts1, css1, ntu2, csu2, gs, nts3, css3, gt, hb', hsp, rN', rb, eN, eX, hcw, lXs', lYs, lv, lw', hcb', lu5, lwt'] at f0_0 f1_0 f5_0 f6_0 f7_0 f128_0 f129_0
  have e0 := f0_0
  have e1 := f1_0
  have e5 := f5_0
  have e6 := f6_0
  have e7 := f7_0
  have e128 := f128_0
  have e129 := f129_0
  have lrj : (runL j).length = j := by rw [hrl]; simp [lwl]; omega
  have nd := hd.1.1
  by_cases hlt : j < R
  · have hu5' := (hu5.keep hd.1).ints
    have hu2' := (hu2.keep hd.1).ints
    have hlt2 : j < (toN wl).length := by omega
    have hgt := toN_get wl
    obtain ⟨t, ht⟩ : ∃ t, t = wl[j]'(by omega) := ⟨_, rfl⟩
    have ht' : wl[j]'(by omega) = t := ht.symm
    have htR : t < R := hwi t (by rw [ht]; exact List.getElem_mem _)
    have htP : t < P.length := by omega
    obtain ⟨pq, hpq⟩ : ∃ q, q = P[t] := ⟨_, rfl⟩
    have hpq' : P[t] = pq := hpq.symm
    obtain ⟨o_x, i_x, c_x, cs_x, own_x, ex_x, es_x, q_x, b_x, g_x, l_x, r_x⟩ := hu5'.open ((by omega))
    have z_x : ∀ h2 : i_x < cs_x.length, cs_x[i_x] = _ := fun h2 => r_x 0 ((by omega)) h2
    obtain ⟨o_y, i_y, c_y, cs_y, own_y, ex_y, es_y, q_y, b_y, g_y, l_y, r_y⟩ := hu2'.open ((by omega))
    have z_y : ∀ h2 : i_y < cs_y.length, cs_y[i_y] = _ := fun h2 => r_y 0 ((by omega)) h2
    obtain ⟨u9, h9, hap, hi9, ha9, hn9, hs9⟩ := appI2 hi pq (by omega) nd hd (Nat.le_refl _)
    have er : runL (j + 1) = runL j ++ [pq] := by rw [hrl]; simp only; rw [List.take_succ_eq_append_getElem (show j < wl.length by omega), List.map_append]; simp [ht', hpq, htP]
    try simp (disch := first | omega | (simp; done) | fail) [wrap64c, if_pos, if_neg, opAnd, opOr, opXor, opDiff, opShr, opBit, ntv, csv, ntw, csw, hbig, ntc0, csc0, ntc1, csc1, gc, nts1, css1, ntu2, csu2, gs, nts3, css3, gt, hb', hsp, rN', rb, eN, eX, hcw, lXs', lYs, lv, lw', hcb', lu5, lwt', e0, e1, e5, e6, e7, e20, e128, e129, e130, hlt, hgt, ht', htP, hpq', q_x, g_x, l_x, r_x, z_x, q_y, g_y, l_y, r_y, z_y, hap]
    refine loopK_next _ ?hm ?hf ⟨j + 1, u9, rfl, (by simp (disch := first | omega | (simp; done) | fail) [wrap64c, if_pos, if_neg, opAnd, opOr, opXor, opDiff, opShr, opBit, ntv, csv, ntw, csw, hbig, ntc0, csc0, ntc1, csc1, gc, nts1, css1, ntu2, csu2, gs, nts3, css3, gt, hb', hsp, rN', rb, eN, eX, hcw, lXs', lYs, lv, lw', hcb', lu5, lwt', e0, e1, e5, e6, e7, e20, e128, e129, e130, hlt, hgt, ht', htP, hpq', q_x, g_x, l_x, r_x, z_x, q_y, g_y, l_y, r_y, z_y] <;> omega), (by simp (disch := first | omega | (simp; done) | fail) [wrap64c, if_pos, if_neg, opAnd, opOr, opXor, opDiff, opShr, opBit, ntv, csv, ntw, csw, hbig, ntc0, csc0, ntc1, csc1, gc, nts1, css1, ntu2, csu2, gs, nts3, css3, gt, hb', hsp, rN', rb, eN, eX, hcw, lXs', lYs, lv, lw', hcb', lu5, lwt', e0, e1, e5, e6, e7, e20, e128, e129, e130, hlt, hgt, ht', htP, hpq', q_x, g_x, l_x, r_x, z_x, q_y, g_y, l_y, r_y, z_y] <;> omega), (by first | omega | assumption | (simp (disch := first | omega | (simp; done) | fail) [wrap64c, if_pos, if_neg, opAnd, opOr, opXor, opDiff, opShr, opBit, ntv, csv, ntw, csw, hbig, ntc0, csc0, ntc1, csc1, gc, nts1, css1, ntu2, csu2, gs, nts3, css3, gt, hb', hsp, rN', rb, eN, eX, hcw, lXs', lYs, lv, lw', hcb', lu5, lwt', e0, e1, e5, e6, e7, e20, e128, e129, e130, hlt, hgt, ht', htP, hpq', q_x, g_x, l_x, r_x, z_x, q_y, g_y, l_y, r_y, z_y] <;> omega)), ha9, (by rw [er]; exact hi9)⟩
    (case hm => first | omega | (simp; omega))
    (case hf => simp [FrameL, ntv, csv, ntw, csw, hbig, ntc0, csc0, ntc1, csc1, gc, nts1, css1, ntu2, csu2, gs, nts3, css3, gt, hb', hsp, rN', rb, eN, eX, hcw, lXs', lYs, lv, lw', hcb', lu5, lwt', e0, e1, e5, e6, e7, e20, e128, e129, e130, hlt, hgt, ht', htP, hpq', q_x, g_x, l_x, r_x, z_x, q_y, g_y, l_y, r_y, z_y, f0_0, f1_0, f5_0, f6_0, f7_0, f128_0, f129_0])
  · have hje : j = R := by omega
    subst hje
    obtain ⟨h9, hh9⟩ : ∃ x, x = h' := ⟨_, rfl⟩
    rw [← hh9] at hd hi
    try rw [← hh9]
    have n9 := hd.1.1
    have K9 := K8.trans hd.1
    have gc : h9.get h1.next = .cells [c0, c1] true true 1 := by rw [hd.1.2 _ (by omega)]; exact gc
    have gs : h9.get h3.next = .cells [.int .i64 (rsN L A), s1] true true 1 := by rw [hd.1.2 _ (by omega)]; exact gs
    have gt : h9.get h5.next = .cells [.int .i64 (rsN L A), s3] true true 1 := by rw [hd.1.2 _ (by omega)]; exact gt
    have hv := hv.keep hd.1
    have hw := hw.keep hd.1
    have hC := hC.keep hd.1
    have hu2 := hu2.keep hd.1
    have hu1 := hu1.keep hd.1
    have hu4 := hu4.keep hd.1
    have hu3 := hu3.keep hd.1
    have hu5 := hu5.keep hd.1
    obtain ⟨rl, hrle⟩ : ∃ l, l = runL j := ⟨_, rfl⟩
    rw [← hrle] at hi lrj
    have hR : Ints h9 u rl := (hi.own (by omega)).ints
    have hrun2 : runA L A rl = some Bw := by rw [hrle, hrl]; simp only; rw [List.take_of_length_le (by omega)]; exact hrun
    have hrR : runR L A rl = some Bw := by rw [runR, if_pos ⟨hg, by omega⟩]; exact hrun2
    have bR : isR L A rl = true := by rw [isR, hrR]; rfl
    have bG : isG L A rl = true := by rw [isG, hg, Bool.true_and]; exact decide_eq_true (by omega)
    have lR := hR.lenD
    try simp (disch := first | omega | (simp; done) | fail) [wrap64c, if_pos, if_neg, opAnd, opOr, opXor, opDiff, opShr, opBit, ntv, csv, ntw, csw, hbig, ntc0, csc0, ntc1, csc1, gc, nts1, css1, ntu2, csu2, gs, nts3, css3, gt, hb', hsp, rN', rb, eN, eX, hcw, lXs', lYs, lv, lw', hcb', lu5, lwt', e0, e1, e5, e6, e7, e20, e128, e129, e130, hlt, bR, bG, lR, lrj]
    refine callG_c (by simp) (by simp) ?ha (imIsRun_ok h9 _ u L A rl hC hR) ?_
    (case ha => simp (disch := first | omega | (simp; done) | fail) [wrap64c, if_pos, if_neg, opAnd, opOr, opXor, opDiff, opShr, opBit, ntv, csv, ntw, csw, hbig, ntc0, csc0, ntc1, csc1, gc, nts1, css1, ntu2, csu2, gs, nts3, css3, gt, hb', hsp, rN', rb, eN, eX, hcw, lXs', lYs, lv, lw', hcb', lu5, lwt', e0, e1, e5, e6, e7, e20, e128, e129, e130, hlt, bR, bG, lR, lrj])
    try simp (disch := first | omega | (simp; done) | fail) [wrap64c, if_pos, if_neg, opAnd, opOr, opXor, opDiff, opShr, opBit, ntv, csv, ntw, csw, hbig, ntc0, csc0, ntc1, csc1, gc, nts1, css1, ntu2, csu2, gs, nts3, css3, gt, hb', hsp, rN', rb, eN, eX, hcw, lXs', lYs, lv, lw', hcb', lu5, lwt', e0, e1, e5, e6, e7, e20, e128, e129, e130, hlt, bR, bG, lR, lrj]
    obtain ⟨_, h10, p10, a10, u10, rfl, hu10⟩ := imMoveCounts_ok h9 _ L A hC
    refine callG_c (by simp) (by simp) ?ha (p10) ?_
    (case ha => simp (disch := first | omega | (simp; done) | fail) [wrap64c, if_pos, if_neg, opAnd, opOr, opXor, opDiff, opShr, opBit, ntv, csv, ntw, csw, hbig, ntc0, csc0, ntc1, csc1, gc, nts1, css1, ntu2, csu2, gs, nts3, css3, gt, hb', hsp, rN', rb, eN, eX, hcw, lXs', lYs, lv, lw', hcb', lu5, lwt', e0, e1, e5, e6, e7, e20, e128, e129, e130, hlt, bR, bG, lR, lrj])
    have n10 := a10.1.1
    have K10 := K9.trans a10.1
    have gc : h10.get h1.next = .cells [c0, c1] true true 1 := by rw [a10.1.2 _ (by omega)]; exact gc
    have gs : h10.get h3.next = .cells [.int .i64 (rsN L A), s1] true true 1 := by rw [a10.1.2 _ (by omega)]; exact gs
    have gt : h10.get h5.next = .cells [.int .i64 (rsN L A), s3] true true 1 := by rw [a10.1.2 _ (by omega)]; exact gt
    have hv := hv.keep a10.1
    have hw := hw.keep a10.1
    have hC := hC.keep a10.1
    have hu2 := hu2.keep a10.1
    have hu1 := hu1.keep a10.1
    have hu4 := hu4.keep a10.1
    have hu3 := hu3.keep a10.1
    have hu5 := hu5.keep a10.1
    have hR := hR.keep a10.1
    have zc : (countsR L A).getD [] = F := by rw [hcR]; rfl
    have zd : (countsR L A).isSome = true := by rw [hcR]; rfl
    rw [zc] at hu10
    have lu10 := hu10.ints.lenD
    have lu2 := hu2.ints.lenD
    have lP' := lP
    try simp (disch := first | omega | (simp; done) | fail) [wrap64c, if_pos, if_neg, opAnd, opOr, opXor, opDiff, opShr, opBit, ntv, csv, ntw, csw, hbig, ntc0, csc0, ntc1, csc1, gc, nts1, css1, ntu2, csu2, gs, nts3, css3, gt, hb', hsp, rN', rb, eN, eX, hcw, lXs', lYs, lv, lw', hcb', lu5, lwt', e0, e1, e5, e6, e7, e20, e128, e129, e130, hlt, bR, bG, lR, lrj, zd, lu10, lu2, lP']
    refine WD_loopC [0, 1, 5, 6, 7, 20, 23, 24, 26, 153, 154] (fun m tm h' => ∃ i, m = F.length - i ∧ h10 = h' ∧ tm 155 = .int .i64 (i : Int) ∧ (i ≤ F.length)) _ ⟨0, rfl, rfl, (by simp (disch := first | omega | (simp; done) | fail) [wrap64c, if_pos, if_neg, opAnd, opOr, opXor, opDiff, opShr, opBit, ntv, csv, ntw, csw, hbig, ntc0, csc0, ntc1, csc1, gc, nts1, css1, ntu2, csu2, gs, nts3, css3, gt, hb', hsp, rN', rb, eN, eX, hcw, lXs', lYs, lv, lw', hcb', lu5, lwt', e0, e1, e5, e6, e7, e20, e128, e129, e130, hlt, bR, bG, lR, lrj, zd, lu10, lu2, lP']), (by first | omega | assumption | (simp (disch := first | omega | (simp; done) | fail) [wrap64c, if_pos, if_neg, opAnd, opOr, opXor, opDiff, opShr, opBit, ntv, csv, ntw, csw, hbig, ntc0, csc0, ntc1, csc1, gc, nts1, css1, ntu2, csu2, gs, nts3, css3, gt, hb', hsp, rN', rb, eN, eX, hcw, lXs', lYs, lv, lw', hcb', lu5, lwt', e0, e1, e5, e6, e7, e20, e128, e129, e130, hlt, bR, bG, lR, lrj, zd, lu10, lu2, lP'] <;> omega))⟩ ?_
    rintro m tm h' hFr ⟨i, rfl, rfl, e155, hi2⟩
    simp only [FrameL] at hFr
    obtain ⟨f0_1, f1_1, f5_1, f6_1, f7_1, f20_1, f23_1, f24_1, f26_1, f153_1, f154_1, -⟩ := hFr
    try simp (disch := first | omega | (simp; done) | fail) [wrap64c, if_pos, if_neg, opAnd, opOr, opXor, opDiff, opShr, opBit, ntv, csv, ntw, csw, hbig, ntc0, csc0, ntc1, csc1, gc, nts1, css1, ntu2, csu2, gs, nts3, css3, gt, hb', hsp, rN', rb, eN, eX, hcw, lXs', lYs, lv, lw', hcb', lu5, lwt', e0, e1, e5, e6, e7, e20, e128, e129, e130, hlt, bR, bG, lR, lrj, zd, lu10, lu2, lP'] at f0_1 f1_1 f5_1 f6_1 f7_1 f20_1 f23_1 f24_1 f26_1 f153_1 f154_1
    have e0 := f0_1
    have e1 := f1_1
    have e5 := f5_1
    have e6 := f6_1
    have e7 := f7_1
    have e20 := f20_1
    have e23 := f23_1
    have e24 := f24_1
    have e26 := f26_1
    have e153 := f153_1
    have e154 := f154_1
    by_cases hlt : i < F.length
    · obtain ⟨o_x, i_x, c_x, cs_x, own_x, ex_x, es_x, q_x, b_x, g_x, l_x, r_x⟩ := hu10.ints.open ((by omega))
      have z_x : ∀ h2 : i_x < cs_x.length, cs_x[i_x] = _ := fun h2 => r_x 0 ((by omega)) h2
      have bFi := bF _ (List.getElem_mem hlt)
      try simp (disch := first | omega | (simp; done) | fail) [wrap64c, if_pos, if_neg, opAnd, opOr, opXor, opDiff, opShr, opBit, ntv, csv, ntw, csw, hbig, ntc0, csc0, ntc1, csc1, gc, nts1, css1, ntu2, csu2, gs, nts3, css3, gt, hb', hsp, rN', rb, eN, eX, hcw, lXs', lYs, lv, lw', hcb', lu5, lwt', e0, e1, e5, e6, e7, e20, e128, e129, e130, hlt, bR, bG, lR, lrj, zd, lu10, lu2, lP', e23, e24, e26, e153, e154, e155, q_x, g_x, l_x, r_x, z_x]
      refine WD_loopC [0, 1, 5, 6, 7, 20, 23, 24, 26, 27, 153, 154, 155, 160, 161] (fun m tm h' => ∃ q, m = j - q ∧ h10 = h' ∧ tm 28 = .int .i64 (F[i] - ((P.take q).count (i : Int) : Nat)) ∧ tm 162 = .int .i64 (q : Int) ∧ (q ≤ j)) _ ⟨0, rfl, rfl, (by simp (disch := first | omega | (simp; done) | fail) [wrap64c, if_pos, if_neg, opAnd, opOr, opXor, opDiff, opShr, opBit, ntv, csv, ntw, csw, hbig, ntc0, csc0, ntc1, csc1, gc, nts1, css1, ntu2, csu2, gs, nts3, css3, gt, hb', hsp, rN', rb, eN, eX, hcw, lXs', lYs, lv, lw', hcb', lu5, lwt', e0, e1, e5, e6, e7, e20, e128, e129, e130, hlt, bR, bG, lR, lrj, zd, lu10, lu2, lP', e23, e24, e26, e153, e154, e155, q_x, g_x, l_x, r_x, z_x]), (by simp (disch := first | omega | (simp; done) | fail) [wrap64c, if_pos, if_neg, opAnd, opOr, opXor, opDiff, opShr, opBit, ntv, csv, ntw, csw, hbig, ntc0, csc0, ntc1, csc1, gc, nts1, css1, ntu2, csu2, gs, nts3, css3, gt, hb', hsp, rN', rb, eN, eX, hcw, lXs', lYs, lv, lw', hcb', lu5, lwt', e0, e1, e5, e6, e7, e20, e128, e129, e130, hlt, bR, bG, lR, lrj, zd, lu10, lu2, lP', e23, e24, e26, e153, e154, e155, q_x, g_x, l_x, r_x, z_x]), (by first | omega | assumption | (simp (disch := first | omega | (simp; done) | fail) [wrap64c, if_pos, if_neg, opAnd, opOr, opXor, opDiff, opShr, opBit, ntv, csv, ntw, csw, hbig, ntc0, csc0, ntc1, csc1, gc, nts1, css1, ntu2, csu2, gs, nts3, css3, gt, hb', hsp, rN', rb, eN, eX, hcw, lXs', lYs, lv, lw', hcb', lu5, lwt', e0, e1, e5, e6, e7, e20, e128, e129, e130, hlt, bR, bG, lR, lrj, zd, lu10, lu2, lP', e23, e24, e26, e153, e154, e155, q_x, g_x, l_x, r_x, z_x] <;> omega))⟩ ?_
      rintro m tm h' hFr ⟨q, rfl, rfl, e28, e162, hq⟩
      simp only [FrameL] at hFr
      obtain ⟨f0_2, f1_2, f5_2, f6_2, f7_2, f20_2, f23_2, f24_2, f26_2, f27_2, f153_2, f154_2, f155_2, f160_2, f161_2, -⟩ := hFr
      try simp (disch := first | omega | (simp; done) | fail) [wrap64c, if_pos, if_neg, opAnd, opOr, opXor, opDiff, opShr, opBit, ntv, csv, ntw, csw, hbig, ntc0, csc0, ntc1, csc1, gc, nts1, css1, ntu2, csu2, gs, nts3, css3, gt, hb', hsp, rN', rb, eN, eX, hcw, lXs', lYs, lv, lw', hcb', lu5, lwt', e0, e1, e5, e6, e7, e20, e128, e129, e130, hlt, bR, bG, lR, lrj, zd, lu10, lu2, lP', e23, e24, e26, e153, e154, e155, q_x, g_x, l_x, r_x, z_x] at f0_2 f1_2 f5_2 f6_2 f7_2 f20_2 f23_2 f24_2 f26_2 f27_2 f153_2 f154_2 f155_2 f160_2 f161_2
      have e0 := f0_2
      have e1 := f1_2
      have e5 := f5_2
      have e6 := f6_2
      have e7 := f7_2
      have e20 := f20_2
      have e23 := f23_2
      have e24 := f24_2
      have e26 := f26_2
      have e27 := f27_2
      have e153 := f153_2
      have e154 := f154_2
      have e155 := f155_2
      have e160 := f160_2
      have e161 := f161_2
      have hcl := List.count_le_length (a := (i : Int)) (l := P.take q)
      have htl : (P.take q).length ≤ 7 := by rw [List.length_take]; omega
      by_cases hlq : q < j
      · have hlq2 : q < P.length := by omega
        have hts : (P.take (q + 1)).count (i : Int) = (P.take q).count (i : Int) + if P[q] = (i : Int) then 1 else 0 := by rw [List.take_succ_eq_append_getElem hlq2, List.count_append]; congr 1; rw [List.count_singleton]; by_cases e : P[q] = (i : Int) <;> simp [e]
        obtain ⟨cq, hcq⟩ : ∃ c, c = (P.take q).count (i : Int) := ⟨_, rfl⟩
        rw [← hcq] at e28 hcl hts
        have e28' := e28
        obtain ⟨o_y, i_y, c_y, cs_y, own_y, ex_y, es_y, q_y, b_y, g_y, l_y, r_y⟩ := hu2.ints.open ((by omega))
        have z_y : ∀ h2 : i_y < cs_y.length, cs_y[i_y] = _ := fun h2 => r_y 0 ((by omega)) h2
        by_cases hqi : P[q] = (i : Int)
        · have hqi' := hqi
          rw [if_pos hqi] at hts
          try simp (disch := first | omega | (simp; done) | fail) [wrap64c, if_pos, if_neg, opAnd, opOr, opXor, opDiff, opShr, opBit, ntv, csv, ntw, csw, hbig, ntc0, csc0, ntc1, csc1, gc, nts1, css1, ntu2, csu2, gs, nts3, css3, gt, hb', hsp, rN', rb, eN, eX, hcw, lXs', lYs, lv, lw', hcb', lu5, lwt', e0, e1, e5, e6, e7, e20, e128, e129, e130, hlt, bR, bG, lR, lrj, zd, lu10, lu2, lP', e23, e24, e26, e153, e154, e155, q_x, g_x, l_x, r_x, z_x, e27, e28, e160, e161, e162, hlq, hlq2, e28', q_y, g_y, l_y, r_y, z_y, hqi']
          refine loopK_next _ ?hm ?hf ⟨q + 1, rfl, rfl, (by simp [hts]; omega), (by simp (disch := first | omega | (simp; done) | fail) [wrap64c, if_pos, if_neg, opAnd, opOr, opXor, opDiff, opShr, opBit, ntv, csv, ntw, csw, hbig, ntc0, csc0, ntc1, csc1, gc, nts1, css1, ntu2, csu2, gs, nts3, css3, gt, hb', hsp, rN', rb, eN, eX, hcw, lXs', lYs, lv, lw', hcb', lu5, lwt', e0, e1, e5, e6, e7, e20, e128, e129, e130, hlt, bR, bG, lR, lrj, zd, lu10, lu2, lP', e23, e24, e26, e153, e154, e155, q_x, g_x, l_x, r_x, z_x, e27, e28, e160, e161, e162, hlq, hlq2, e28', q_y, g_y, l_y, r_y, z_y, hqi'] <;> omega), (by first | omega | assumption | (simp (disch := first | omega | (simp; done) | fail) [wrap64c, if_pos, if_neg, opAnd, opOr, opXor, opDiff, opShr, opBit, ntv, csv, ntw, csw, hbig, ntc0, csc0, ntc1, csc1, gc, nts1, css1, ntu2, csu2, gs, nts3, css3, gt, hb', hsp, rN', rb, eN, eX, hcw, lXs', lYs, lv, lw', hcb', lu5, lwt', e0, e1, e5, e6, e7, e20, e128, e129, e130, hlt, bR, bG, lR, lrj, zd, lu10, lu2, lP', e23, e24, e26, e153, e154, e155, q_x, g_x, l_x, r_x, z_x, e27, e28, e160, e161, e162, hlq, hlq2, e28', q_y, g_y, l_y, r_y, z_y, hqi'] <;> omega))⟩
          (case hm => first | omega | (simp; omega))
          (case hf => simp [FrameL, ntv, csv, ntw, csw, hbig, ntc0, csc0, ntc1, csc1, gc, nts1, css1, ntu2, csu2, gs, nts3, css3, gt, hb', hsp, rN', rb, eN, eX, hcw, lXs', lYs, lv, lw', hcb', lu5, lwt', e0, e1, e5, e6, e7, e20, e128, e129, e130, hlt, bR, bG, lR, lrj, zd, lu10, lu2, lP', e23, e24, e26, e153, e154, e155, q_x, g_x, l_x, r_x, z_x, e27, e28, e160, e161, e162, hlq, hlq2, e28', q_y, g_y, l_y, r_y, z_y, hqi', f0_2, f1_2, f5_2, f6_2, f7_2, f20_2, f23_2, f24_2, f26_2, f27_2, f153_2, f154_2, f155_2, f160_2, f161_2])
        · have hqi' : (P[q] == (i : Int)) = false := by simp [hqi]
          rw [if_neg hqi] at hts
          try simp (disch := first | omega | (simp; done) | fail) [wrap64c, if_pos, if_neg, opAnd, opOr, opXor, opDiff, opShr, opBit, ntv, csv, ntw, csw, hbig, ntc0, csc0, ntc1, csc1, gc, nts1, css1, ntu2, csu2, gs, nts3, css3, gt, hb', hsp, rN', rb, eN, eX, hcw, lXs', lYs, lv, lw', hcb', lu5, lwt', e0, e1, e5, e6, e7, e20, e128, e129, e130, hlt, bR, bG, lR, lrj, zd, lu10, lu2, lP', e23, e24, e26, e153, e154, e155, q_x, g_x, l_x, r_x, z_x, e27, e28, e160, e161, e162, hlq, hlq2, e28', q_y, g_y, l_y, r_y, z_y, hqi']
          refine loopK_next _ ?hm ?hf ⟨q + 1, rfl, rfl, (by simp [hts, e28]), (by simp (disch := first | omega | (simp; done) | fail) [wrap64c, if_pos, if_neg, opAnd, opOr, opXor, opDiff, opShr, opBit, ntv, csv, ntw, csw, hbig, ntc0, csc0, ntc1, csc1, gc, nts1, css1, ntu2, csu2, gs, nts3, css3, gt, hb', hsp, rN', rb, eN, eX, hcw, lXs', lYs, lv, lw', hcb', lu5, lwt', e0, e1, e5, e6, e7, e20, e128, e129, e130, hlt, bR, bG, lR, lrj, zd, lu10, lu2, lP', e23, e24, e26, e153, e154, e155, q_x, g_x, l_x, r_x, z_x, e27, e28, e160, e161, e162, hlq, hlq2, e28', q_y, g_y, l_y, r_y, z_y, hqi'] <;> omega), (by first | omega | assumption | (simp (disch := first | omega | (simp; done) | fail) [wrap64c, if_pos, if_neg, opAnd, opOr, opXor, opDiff, opShr, opBit, ntv, csv, ntw, csw, hbig, ntc0, csc0, ntc1, csc1, gc, nts1, css1, ntu2, csu2, gs, nts3, css3, gt, hb', hsp, rN', rb, eN, eX, hcw, lXs', lYs, lv, lw', hcb', lu5, lwt', e0, e1, e5, e6, e7, e20, e128, e129, e130, hlt, bR, bG, lR, lrj, zd, lu10, lu2, lP', e23, e24, e26, e153, e154, e155, q_x, g_x, l_x, r_x, z_x, e27, e28, e160, e161, e162, hlq, hlq2, e28', q_y, g_y, l_y, r_y, z_y, hqi'] <;> omega))⟩
          (case hm => first | omega | (simp; omega))
          (case hf => simp [FrameL, ntv, csv, ntw, csw, hbig, ntc0, csc0, ntc1, csc1, gc, nts1, css1, ntu2, csu2, gs, nts3, css3, gt, hb', hsp, rN', rb, eN, eX, hcw, lXs', lYs, lv, lw', hcb', lu5, lwt', e0, e1, e5, e6, e7, e20, e128, e129, e130, hlt, bR, bG, lR, lrj, zd, lu10, lu2, lP', e23, e24, e26, e153, e154, e155, q_x, g_x, l_x, r_x, z_x, e27, e28, e160, e161, e162, hlq, hlq2, e28', q_y, g_y, l_y, r_y, z_y, hqi', f0_2, f1_2, f5_2, f6_2, f7_2, f20_2, f23_2, f24_2, f26_2, f27_2, f153_2, f154_2, f155_2, f160_2, f161_2])
      · have hqe : q = j := by omega
        have hct : ((P.take q).count (i : Int) : Nat) = F[i] := by
          rw [hqe, List.take_of_length_le (by omega), hP, count_places, if_pos (by omega), getD_at hlt]
          omega
        have ez0 : F[i] - ((P.take q).count (i : Int) : Nat) = 0 := by omega
        rw [ez0] at e28
        have e28' := e28
        try simp (disch := first | omega | (simp; done) | fail) [wrap64c, if_pos, if_neg, opAnd, opOr, opXor, opDiff, opShr, opBit, ntv, csv, ntw, csw, hbig, ntc0, csc0, ntc1, csc1, gc, nts1, css1, ntu2, csu2, gs, nts3, css3, gt, hb', hsp, rN', rb, eN, eX, hcw, lXs', lYs, lv, lw', hcb', lu5, lwt', e0, e1, e5, e6, e7, e20, e128, e129, e130, hlt, bR, bG, lR, lrj, zd, lu10, lu2, lP', e23, e24, e26, e153, e154, e155, q_x, g_x, l_x, r_x, z_x, e27, e28, e160, e161, e162, hlq, e28']
        refine loopK_next _ ?hm ?hf ⟨i + 1, rfl, rfl, (by simp (disch := first | omega | (simp; done) | fail) [wrap64c, if_pos, if_neg, opAnd, opOr, opXor, opDiff, opShr, opBit, ntv, csv, ntw, csw, hbig, ntc0, csc0, ntc1, csc1, gc, nts1, css1, ntu2, csu2, gs, nts3, css3, gt, hb', hsp, rN', rb, eN, eX, hcw, lXs', lYs, lv, lw', hcb', lu5, lwt', e0, e1, e5, e6, e7, e20, e128, e129, e130, hlt, bR, bG, lR, lrj, zd, lu10, lu2, lP', e23, e24, e26, e153, e154, e155, q_x, g_x, l_x, r_x, z_x, e27, e28, e160, e161, e162, hlq, e28'] <;> omega), (by first | omega | assumption | (simp (disch := first | omega | (simp; done) | fail) [wrap64c, if_pos, if_neg, opAnd, opOr, opXor, opDiff, opShr, opBit, ntv, csv, ntw, csw, hbig, ntc0, csc0, ntc1, csc1, gc, nts1, css1, ntu2, csu2, gs, nts3, css3, gt, hb', hsp, rN', rb, eN, eX, hcw, lXs', lYs, lv, lw', hcb', lu5, lwt', e0, e1, e5, e6, e7, e20, e128, e129, e130, hlt, bR, bG, lR, lrj, zd, lu10, lu2, lP', e23, e24, e26, e153, e154, e155, q_x, g_x, l_x, r_x, z_x, e27, e28, e160, e161, e162, hlq, e28'] <;> omega))⟩
        (case hm => first | omega | (simp; omega))
        (case hf => simp [FrameL, ntv, csv, ntw, csw, hbig, ntc0, csc0, ntc1, csc1, gc, nts1, css1, ntu2, csu2, gs, nts3, css3, gt, hb', hsp, rN', rb, eN, eX, hcw, lXs', lYs, lv, lw', hcb', lu5, lwt', e0, e1, e5, e6, e7, e20, e128, e129, e130, hlt, bR, bG, lR, lrj, zd, lu10, lu2, lP', e23, e24, e26, e153, e154, e155, q_x, g_x, l_x, r_x, z_x, e27, e28, e160, e161, e162, hlq, e28', f0_1, f1_1, f5_1, f6_1, f7_1, f20_1, f23_1, f24_1, f26_1, f153_1, f154_1])
    · have hgz : ((5 * xs.length + ys.length) % S.length) < S.length := Nat.mod_lt _ (List.length_pos_iff.2 (fun e => by have := gd.zero; rw [e] at this; cases this))
      obtain ⟨ix, hix⟩ : ∃ q, q = (5 * xs.length + ys.length) % S.length := ⟨_, rfl⟩
      rw [← hix] at hgz
      have lix : Int.tmod (5 * (xs.length : Int) + (ys.length : Int)) (S.length : Int) = (ix : Int) := by rw [Int.tmod_eq_emod_of_nonneg (by omega), hix]; simp
      have hs1' : Ints h10 s1 (toN S) := by obtain ⟨_, z1, z2⟩ := hu1; cases z1; exact z2
      have ls1 := hs1'.lenD
      have lTS := toN_length S
      have hgS := toN_get S
      have lix' := lix
      obtain ⟨a, ha⟩ : ∃ a, a = S[ix] := ⟨_, rfl⟩
      have ha' : S[ix] = a := ha.symm
      obtain ⟨xq, Bq, hrq, hsq⟩ := r.mem.1 (show a ∈ runSets L A F by rw [← hSe, ha]; exact List.getElem_mem _)
      have ha128 : a < 128 := gd.lt7 a (by rw [ha]; exact List.getElem_mem _)
      have hc1' : Ints h10 c1 A := by obtain ⟨_, _, z1, z2, z3⟩ := hC; cases z1; exact z3
      have lc1 := hc1'.lenD
      have hlS : 0 < (toN S).length := by rw [lTS]; omega
      have hSne : ¬ S = [] := (fun e => by rw [e] at hgz; cases hgz)
      obtain ⟨o_z, i_z, c_z, cs_z, own_z, ex_z, es_z, q_z, b_z, g_z, l_z, r_z⟩ := hs1'.open (hlS)
      have z_z : ∀ h2 : i_z < cs_z.length, cs_z[i_z] = _ := fun h2 => r_z 0 (hlS) h2
      try simp (disch := first | omega | (simp; done) | fail) [wrap64c, if_pos, if_neg, opAnd, opOr, opXor, opDiff, opShr, opBit, ntv, csv, ntw, csw, hbig, ntc0, csc0, ntc1, csc1, gc, nts1, css1, ntu2, csu2, gs, nts3, css3, gt, hb', hsp, rN', rb, eN, eX, hcw, lXs', lYs, lv, lw', hcb', lu5, lwt', e0, e1, e5, e6, e7, e20, e128, e129, e130, hlt, bR, bG, lR, lrj, zd, lu10, lu2, lP', e23, e24, e26, e153, e154, e155, ls1, lTS, hgS, lix', hgz, ha', lc1, hSne, q_z, g_z, l_z, r_z, z_z]
      refine WD_drawC 12 rfl (by kernel_rfl) ?_
      try simp (disch := first | omega | (simp; done) | fail) [wrap64c, if_pos, if_neg, opAnd, opOr, opXor, opDiff, opShr, opBit, ntv, csv, ntw, csw, hbig, ntc0, csc0, ntc1, csc1, gc, nts1, css1, ntu2, csu2, gs, nts3, css3, gt, hb', hsp, rN', rb, eN, eX, hcw, lXs', lYs, lv, lw', hcb', lu5, lwt', e0, e1, e5, e6, e7, e20, e128, e129, e130, hlt, bR, bG, lR, lrj, zd, lu10, lu2, lP', e23, e24, e26, e153, e154, e155, ls1, lTS, hgS, lix', hgz, ha', lc1, hSne, q_z, g_z, l_z, r_z, z_z]
      first | refine WY_heap fun hz q_hz => ?_ | refine callG_heap fun hz q_hz => ?_ | refine callP_heap fun hz q_hz => ?_ | refine callS_heap fun hz q_hz => ?_ | refine RY_heap fun hz q_hz => ?_ | refine PY_heap fun hz q_hz => ?_ | refine SY_heap fun hz q_hz => ?_ | refine doneY_heap fun hz q_hz => ?_ | refine loopK_heap fun hz q_hz => ?_ | refine thenY_heap fun hz q_hz => ?_ | refine thenM_heap fun hz q_hz => ?_
      have kz : Adds h10 hz := by rw [q_hz]; exact (by first | exact aK | exact kK)
      refine WD_loopC [5, 7, 20, 23, 24, 26, 31, 32, 193, 194] (fun m tm h' => ∃ jj, m = P.length - jj ∧ tm 195 = .int .i64 (jj : Int) ∧ (jj ≤ P.length) ∧ (Adds h10 h') ∧ (h'.get h10.next = .cells ((cntL A.length (pickedL P a jj)).map (.int .i64)) true true 1) ∧ (h10.next < h'.next)) _ ⟨0, rfl, (by simp (disch := first | omega | (simp; done) | fail) [wrap64c, if_pos, if_neg, opAnd, opOr, opXor, opDiff, opShr, opBit, ntv, csv, ntw, csw, hbig, ntc0, csc0, ntc1, csc1, gc, nts1, css1, ntu2, csu2, gs, nts3, css3, gt, hb', hsp, rN', rb, eN, eX, hcw, lXs', lYs, lv, lw', hcb', lu5, lwt', e0, e1, e5, e6, e7, e20, e128, e129, e130, hlt, bR, bG, lR, lrj, zd, lu10, lu2, lP', e23, e24, e26, e153, e154, e155, ls1, lTS, hgS, lix', hgz, ha', lc1, hSne, q_z, g_z, l_z, r_z, z_z]), (by first | omega | assumption | (simp (disch := first | omega | (simp; done) | fail) [wrap64c, if_pos, if_neg, opAnd, opOr, opXor, opDiff, opShr, opBit, ntv, csv, ntw, csw, hbig, ntc0, csc0, ntc1, csc1, gc, nts1, css1, ntu2, csu2, gs, nts3, css3, gt, hb', hsp, rN', rb, eN, eX, hcw, lXs', lYs, lv, lw', hcb', lu5, lwt', e0, e1, e5, e6, e7, e20, e128, e129, e130, hlt, bR, bG, lR, lrj, zd, lu10, lu2, lP', e23, e24, e26, e153, e154, e155, ls1, lTS, hgS, lix', hgz, ha', lc1, hSne, q_z, g_z, l_z, r_z, z_z] <;> omega)), kz, (by simp [q_hz, pickedL, cntL_nil]), (by simp [q_hz])⟩ ?_
      rintro m tm h' hFr ⟨jj, rfl, e195, hjj, hd, ho, hoo⟩
      simp only [FrameL] at hFr
      obtain ⟨f5_3, f7_3, f20_3, f23_3, f24_3, f26_3, f31_3, f32_3, f193_3, f194_3, -⟩ := hFr
      try simp (disch := first | omega | (simp; done) | fail) [wrap64c, if_pos, if_neg, opAnd, opOr, opXor, opDiff, opShr, opBit, ntv, csv, ntw, csw, hbig, ntc0, csc0, ntc1, csc1, gc, nts1, css1, ntu2, csu2, gs, nts3, css3, gt, hb', hsp, rN', rb, eN, eX, hcw, lXs', lYs, lv, lw', hcb', lu5, lwt', e0, e1, e5, e6, e7, e20, e128, e129, e130, hlt, bR, bG, lR, lrj, zd, lu10, lu2, lP', e23, e24, e26, e153, e154, e155, ls1, lTS, hgS, lix', hgz, ha', lc1, hSne, q_z, g_z, l_z, r_z, z_z] at f5_3 f7_3 f20_3 f23_3 f24_3 f26_3 f31_3 f32_3 f193_3 f194_3
      have e5 := f5_3
      have e7 := f7_3
      have e20 := f20_3
      have e23 := f23_3
      have e24 := f24_3
      have e26 := f26_3
      have e31 := f31_3
      have e32 := f32_3
      have e193 := f193_3
      have e194 := f194_3
      have lcn : (cntL A.length (pickedL P a jj)).length = A.length := by simp [cntL]
      by_cases hlj : jj < P.length
      · have hljj : (jj : Int) < (j : Int) := by omega
        obtain ⟨pl, hpl, hplP⟩ := r.pos (j := jj) (by omega)
        rw [← hP, getD_at hlj] at hplP
        have hplP' := hplP
        have hcl := cnt_le2 (n := A.length) (i := pl) (l := pickedL P a jj) (by omega)
        have hpk := pickedL_len P a jj
        have ho' := ho
        have hu2' := (hu2.keep hd.1).ints
        have hsm := shrMod a jj
        have hps := pickedL_succ P a jj
        rw [getD_at hlj, hplP] at hps
        obtain ⟨o_y, i_y, c_y, cs_y, own_y, ex_y, es_y, q_y, b_y, g_y, l_y, r_y⟩ := hu2'.open ((by omega))
        have z_y : ∀ h2 : i_y < cs_y.length, cs_y[i_y] = _ := fun h2 => r_y 0 ((by omega)) h2
        by_cases hbt : a.testBit jj = true
        · rw [if_pos hbt] at hsm hps
          have hsm' := hsm
          try simp (disch := first | omega | (simp; done) | fail) [wrap64c, if_pos, if_neg, opAnd, opOr, opXor, opDiff, opShr, opBit, ntv, csv, ntw, csw, hbig, ntc0, csc0, ntc1, csc1, gc, nts1, css1, ntu2, csu2, gs, nts3, css3, gt, hb', hsp, rN', rb, eN, eX, hcw, lXs', lYs, lv, lw', hcb', lu5, lwt', e0, e1, e5, e6, e7, e20, e128, e129, e130, hlt, bR, bG, lR, lrj, zd, lu10, lu2, lP', e23, e24, e26, e153, e154, e155, ls1, lTS, hgS, lix', hgz, ha', lc1, hSne, q_z, g_z, l_z, r_z, z_z, e31, e32, e193, e194, e195, lcn, hljj, hlj, hplP', hpl, ho', q_y, g_y, l_y, r_y, z_y, hsm']
          refine loopK_next _ ?hm ?hf ⟨jj + 1, rfl, (by simp (disch := first | omega | (simp; done) | fail) [wrap64c, if_pos, if_neg, opAnd, opOr, opXor, opDiff, opShr, opBit, ntv, csv, ntw, csw, hbig, ntc0, csc0, ntc1, csc1, gc, nts1, css1, ntu2, csu2, gs, nts3, css3, gt, hb', hsp, rN', rb, eN, eX, hcw, lXs', lYs, lv, lw', hcb', lu5, lwt', e0, e1, e5, e6, e7, e20, e128, e129, e130, hlt, bR, bG, lR, lrj, zd, lu10, lu2, lP', e23, e24, e26, e153, e154, e155, ls1, lTS, hgS, lix', hgz, ha', lc1, hSne, q_z, g_z, l_z, r_z, z_z, e31, e32, e193, e194, e195, lcn, hljj, hlj, hplP', hpl, ho', q_y, g_y, l_y, r_y, z_y, hsm'] <;> omega), (by first | omega | assumption | (simp (disch := first | omega | (simp; done) | fail) [wrap64c, if_pos, if_neg, opAnd, opOr, opXor, opDiff, opShr, opBit, ntv, csv, ntw, csw, hbig, ntc0, csc0, ntc1, csc1, gc, nts1, css1, ntu2, csu2, gs, nts3, css3, gt, hb', hsp, rN', rb, eN, eX, hcw, lXs', lYs, lv, lw', hcb', lu5, lwt', e0, e1, e5, e6, e7, e20, e128, e129, e130, hlt, bR, bG, lR, lrj, zd, lu10, lu2, lP', e23, e24, e26, e153, e154, e155, ls1, lTS, hgS, lix', hgz, ha', lc1, hSne, q_z, g_z, l_z, r_z, z_z, e31, e32, e193, e194, e195, lcn, hljj, hlj, hplP', hpl, ho', q_y, g_y, l_y, r_y, z_y, hsm'] <;> omega)), (hd.put (Nat.le_refl _) (fun _ => rfl)), (by simp; rw [hps, cntL_snoc _ _ _ hpl, putI (by omega)]), (by simpa using hoo)⟩
          (case hm => first | omega | (simp; omega))
          (case hf => simp [FrameL, ntv, csv, ntw, csw, hbig, ntc0, csc0, ntc1, csc1, gc, nts1, css1, ntu2, csu2, gs, nts3, css3, gt, hb', hsp, rN', rb, eN, eX, hcw, lXs', lYs, lv, lw', hcb', lu5, lwt', e0, e1, e5, e6, e7, e20, e128, e129, e130, hlt, bR, bG, lR, lrj, zd, lu10, lu2, lP', e23, e24, e26, e153, e154, e155, ls1, lTS, hgS, lix', hgz, ha', lc1, hSne, q_z, g_z, l_z, r_z, z_z, e31, e32, e193, e194, e195, lcn, hljj, hlj, hplP', hpl, ho', q_y, g_y, l_y, r_y, z_y, hsm', f5_3, f7_3, f20_3, f23_3, f24_3, f26_3, f31_3, f32_3, f193_3, f194_3])
        · rw [if_neg hbt] at hsm hps
          have hsm' := hsm
          try simp (disch := first | omega | (simp; done) | fail) [wrap64c, if_pos, if_neg, opAnd, opOr, opXor, opDiff, opShr, opBit, ntv, csv, ntw, csw, hbig, ntc0, csc0, ntc1, csc1, gc, nts1, css1, ntu2, csu2, gs, nts3, css3, gt, hb', hsp, rN', rb, eN, eX, hcw, lXs', lYs, lv, lw', hcb', lu5, lwt', e0, e1, e5, e6, e7, e20, e128, e129, e130, hlt, bR, bG, lR, lrj, zd, lu10, lu2, lP', e23, e24, e26, e153, e154, e155, ls1, lTS, hgS, lix', hgz, ha', lc1, hSne, q_z, g_z, l_z, r_z, z_z, e31, e32, e193, e194, e195, lcn, hljj, hlj, hplP', hpl, ho', q_y, g_y, l_y, r_y, z_y, hsm']
          refine loopK_next _ ?hm ?hf ⟨jj + 1, rfl, (by simp (disch := first | omega | (simp; done) | fail) [wrap64c, if_pos, if_neg, opAnd, opOr, opXor, opDiff, opShr, opBit, ntv, csv, ntw, csw, hbig, ntc0, csc0, ntc1, csc1, gc, nts1, css1, ntu2, csu2, gs, nts3, css3, gt, hb', hsp, rN', rb, eN, eX, hcw, lXs', lYs, lv, lw', hcb', lu5, lwt', e0, e1, e5, e6, e7, e20, e128, e129, e130, hlt, bR, bG, lR, lrj, zd, lu10, lu2, lP', e23, e24, e26, e153, e154, e155, ls1, lTS, hgS, lix', hgz, ha', lc1, hSne, q_z, g_z, l_z, r_z, z_z, e31, e32, e193, e194, e195, lcn, hljj, hlj, hplP', hpl, ho', q_y, g_y, l_y, r_y, z_y, hsm'] <;> omega), (by first | omega | assumption | (simp (disch := first | omega | (simp; done) | fail) [wrap64c, if_pos, if_neg, opAnd, opOr, opXor, opDiff, opShr, opBit, ntv, csv, ntw, csw, hbig, ntc0, csc0, ntc1, csc1, gc, nts1, css1, ntu2, csu2, gs, nts3, css3, gt, hb', hsp, rN', rb, eN, eX, hcw, lXs', lYs, lv, lw', hcb', lu5, lwt', e0, e1, e5, e6, e7, e20, e128, e129, e130, hlt, bR, bG, lR, lrj, zd, lu10, lu2, lP', e23, e24, e26, e153, e154, e155, ls1, lTS, hgS, lix', hgz, ha', lc1, hSne, q_z, g_z, l_z, r_z, z_z, e31, e32, e193, e194, e195, lcn, hljj, hlj, hplP', hpl, ho', q_y, g_y, l_y, r_y, z_y, hsm'] <;> omega)), (by first | omega | assumption | (simp (disch := first | omega | (simp; done) | fail) [wrap64c, if_pos, if_neg, opAnd, opOr, opXor, opDiff, opShr, opBit, ntv, csv, ntw, csw, hbig, ntc0, csc0, ntc1, csc1, gc, nts1, css1, ntu2, csu2, gs, nts3, css3, gt, hb', hsp, rN', rb, eN, eX, hcw, lXs', lYs, lv, lw', hcb', lu5, lwt', e0, e1, e5, e6, e7, e20, e128, e129, e130, hlt, bR, bG, lR, lrj, zd, lu10, lu2, lP', e23, e24, e26, e153, e154, e155, ls1, lTS, hgS, lix', hgz, ha', lc1, hSne, q_z, g_z, l_z, r_z, z_z, e31, e32, e193, e194, e195, lcn, hljj, hlj, hplP', hpl, ho', q_y, g_y, l_y, r_y, z_y, hsm'] <;> omega)), (by rw [hps]; exact ho), (by first | omega | assumption | (simp (disch := first | omega | (simp; done) | fail) [wrap64c, if_pos, if_neg, opAnd, opOr, opXor, opDiff, opShr, opBit, ntv, csv, ntw, csw, hbig, ntc0, csc0, ntc1, csc1, gc, nts1, css1, ntu2, csu2, gs, nts3, css3, gt, hb', hsp, rN', rb, eN, eX, hcw, lXs', lYs, lv, lw', hcb', lu5, lwt', e0, e1, e5, e6, e7, e20, e128, e129, e130, hlt, bR, bG, lR, lrj, zd, lu10, lu2, lP', e23, e24, e26, e153, e154, e155, ls1, lTS, hgS, lix', hgz, ha', lc1, hSne, q_z, g_z, l_z, r_z, z_z, e31, e32, e193, e194, e195, lcn, hljj, hlj, hplP', hpl, ho', q_y, g_y, l_y, r_y, z_y, hsm'] <;> omega))⟩
          (case hm => first | omega | (simp; omega))
          (case hf => simp [FrameL, ntv, csv, ntw, csw, hbig, ntc0, csc0, ntc1, csc1, gc, nts1, css1, ntu2, csu2, gs, nts3, css3, gt, hb', hsp, rN', rb, eN, eX, hcw, lXs', lYs, lv, lw', hcb', lu5, lwt', e0, e1, e5, e6, e7, e20, e128, e129, e130, hlt, bR, bG, lR, lrj, zd, lu10, lu2, lP', e23, e24, e26, e153, e154, e155, ls1, lTS, hgS, lix', hgz, ha', lc1, hSne, q_z, g_z, l_z, r_z, z_z, e31, e32, e193, e194, e195, lcn, hljj, hlj, hplP', hpl, ho', q_y, g_y, l_y, r_y, z_y, hsm', f5_3, f7_3, f20_3, f23_3, f24_3, f26_3, f31_3, f32_3, f193_3, f194_3])
      · have hje2 : jj = j := by omega
        subst hje2
        obtain ⟨h11, hh11⟩ : ∃ x, x = h' := ⟨_, rfl⟩
        rw [← hh11] at hd ho hoo
        try rw [← hh11]
        have n11 := hd.1.1
        have K11 := K10.trans hd.1
        have gc : h11.get h1.next = .cells [c0, c1] true true 1 := by rw [hd.1.2 _ (by omega)]; exact gc
        have gs : h11.get h3.next = .cells [.int .i64 (rsN L A), s1] true true 1 := by rw [hd.1.2 _ (by omega)]; exact gs
        have gt : h11.get h5.next = .cells [.int .i64 (rsN L A), s3] true true 1 := by rw [hd.1.2 _ (by omega)]; exact gt
        have hv := hv.keep hd.1
        have hw := hw.keep hd.1
        have hC := hC.keep hd.1
        have hu2 := hu2.keep hd.1
        have hu1 := hu1.keep hd.1
        have hu4 := hu4.keep hd.1
        have hu3 := hu3.keep hd.1
        have hu5 := hu5.keep hd.1
        have hR := hR.keep hd.1
        have hu10 := hu10.keep hd.1
        have hown := r.own hrq
        rw [hsq, ← hP] at hown
        rw [hown] at ho
        have lxq : xq.length = A.length := hrq.len.2
        have hXq : Ints h11 (.slice (some ⟨h10.next, 0, none⟩) A.length A.length) xq := by
          have := (lit_ints (F := fun _ => True) (xs := xq) ho hoo trivial (by omega)).ints
          rwa [lxq] at this
        have bre : reB L A xq = true := r.reached hg hsm hrq
        have brg : reG L A xq = true := reG_true ⟨hg, hsm, lxq, hrq.small (by have := r.f.le r.sh hrq; omega)⟩
        have hljj : ¬ (jj : Int) < (jj : Int) := by omega
        have lR' := hR.lenD
        have lu2' := hu2.ints.lenD
        try simp (disch := first | omega | (simp; done) | fail) [wrap64c, if_pos, if_neg, opAnd, opOr, opXor, opDiff, opShr, opBit, ntv, csv, ntw, csw, hbig, ntc0, csc0, ntc1, csc1, gc, nts1, css1, ntu2, csu2, gs, nts3, css3, gt, hb', hsp, rN', rb, eN, eX, hcw, lXs', lYs, lv, lw', hcb', lu5, lwt', e0, e1, e5, e6, e7, e20, e128, e129, e130, hlt, bR, bG, lR, lrj, zd, lu10, lu2, lP', e23, e24, e26, e153, e154, e155, ls1, lTS, hgS, lix', hgz, ha', lc1, hSne, q_z, g_z, l_z, r_z, z_z, e31, e32, e193, e194, e195, lcn, bre, brg, hljj, lR', lu2']
        refine callG_c (by simp) (by simp) ?ha (imReachedBy_ok h11 _ _ L A xq hC hXq) ?_
        (case ha => simp (disch := first | omega | (simp; done) | fail) [wrap64c, if_pos, if_neg, opAnd, opOr, opXor, opDiff, opShr, opBit, ntv, csv, ntw, csw, hbig, ntc0, csc0, ntc1, csc1, gc, nts1, css1, ntu2, csu2, gs, nts3, css3, gt, hb', hsp, rN', rb, eN, eX, hcw, lXs', lYs, lv, lw', hcb', lu5, lwt', e0, e1, e5, e6, e7, e20, e128, e129, e130, hlt, bR, bG, lR, lrj, zd, lu10, lu2, lP', e23, e24, e26, e153, e154, e155, ls1, lTS, hgS, lix', hgz, ha', lc1, hSne, q_z, g_z, l_z, r_z, z_z, e31, e32, e193, e194, e195, lcn, bre, brg, hljj, lR', lu2'])
        try simp (disch := first | omega | (simp; done) | fail) [wrap64c, if_pos, if_neg, opAnd, opOr, opXor, opDiff, opShr, opBit, ntv, csv, ntw, csw, hbig, ntc0, csc0, ntc1, csc1, gc, nts1, css1, ntu2, csu2, gs, nts3, css3, gt, hb', hsp, rN', rb, eN, eX, hcw, lXs', lYs, lv, lw', hcb', lu5, lwt', e0, e1, e5, e6, e7, e20, e128, e129, e130, hlt, bR, bG, lR, lrj, zd, lu10, lu2, lP', e23, e24, e26, e153, e154, e155, ls1, lTS, hgS, lix', hgz, ha', lc1, hSne, q_z, g_z, l_z, r_z, z_z, e31, e32, e193, e194, e195, lcn, bre, brg, hljj, lR', lu2']
        exact done_ret rfl (by simp [K11])
end Go.Proofs.Ytnnjehonbolliaa
namespace Go.Proofs.Ytnnjehonbolliaa
set_option linter.unusedSimpArgs false
set_option linter.unusedVariables false
open Go Go.Eng Go.ChangeShapes Go.WideShapes Go.ChangeAt Go.RowKit Go.Joins
set_option maxRecDepth 100000 in
theorem runsAreWords_lifted (os : Os) (started : os.Started) (H : Type) (enc : TypeId × Value → H) :
    ReturnsInHanded {} Try.checked os 4 .any (Rows.fnRunsAreWordsSpec.pre6 enc Try.prog Try.f4 Rows.fnRunsAreWordsRow.domain false) (Rows.fnRunsAreWordsSpec.post enc Try.prog Try.f4 false true false false) := by
  refine returnsInHanded_of_change (C := Try.checked) own started (by kernel_rfl) Try.func4
    (ChangeSpec.witness6 (enc := enc) (C := Try.checked) false ⟨#[], #[.slice none 0 0, .slice none 0 0], []⟩ 8 (by kernel_rfl) (by kernel_rfl) (by kernel_rfl) (by kernel_rfl)) ?_
  intro W base args ds gs before hval0 hW hcnd _
  have hval : ∀ (j : Nat) t v, Try.f4.params[j]? = some t → args[j]? = some v → Value.okWide Try.prog W .any base t v := hval0
  have hW' := hW
  obtain ⟨p, q, hA0, hV, rfl, hfz, hnd⟩ := hW
  have hA : DataW.TrodAll enc Try.prog W 0 (fun _ => true) true Try.f4.params.toList args.toList ds p := hA0
  rw [Try.params4] at hA hval
  obtain ⟨v0, v1, d0, d1, p0, p1, rfl, rfl, rfl, h0, h1⟩ := trodAll_two hA
  obtain ⟨rfl, rfl⟩ := trodVars_none hV
  simp only [List.append_nil] at hW'
  have lt0 : ∀ x ∈ p0, x.block < W.heap.size := by obtain ⟨m, hm⟩ := h0; exact DataW.trod_lt m _ _ _ hm
  have lt1 : ∀ x ∈ p1, x.block < W.heap.size := by obtain ⟨m, hm⟩ := h1; exact DataW.trod_lt m _ _ _ hm
  obtain ⟨E0, hh0, a0, X0, st0, m0, hva0, hc0⟩ := lay_bytes (hval 0 22 v0 rfl rfl) h0 (start0 W)
  obtain ⟨E1, hh1, a1, X1, st1, m1, hva1, hc1⟩ := lay_bytes (hval 1 22 v1 rfl rfl) h1 st0
  replace hva0 := m1.vrel _ _ hva0
  replace hc0 := hc0.keep m1.keep
  refine (law_calls (args := #[a0, a1]) (args' := #[v0, v1]) st1 rfl (fun i hi => ?_) (lawRunsAreWords_ok hh1 a0 X0 hc0 a1 X1 hc1) rfl).mono fun e W' ⟨he, bel⟩ => ?_
  · have : i = 0 ∨ i = 1 := by simp at hi; omega
    rcases this with rfl | rfl
    · exact hva0
    · exact hva1
  · subst he
    exact ⟨_, rfl, _, _, _, [], _, [], hW', trodAll_mk1 (shut_bool Try.underlying4 _), trodAll_mk2 (Below.trod laidOut (by kernel_rfl) (of_decide_eq_true (by kernel_rfl)) h0 bel lt0) (Below.trod laidOut (by kernel_rfl) (of_decide_eq_true (by kernel_rfl)) h1 bel lt1), rfl, bel.frame _, fun h => by cases h⟩
theorem runsAreWords_holds : Rows.FnRunsAreWordsSaid :=
  OpenClaim.holds_of_wide 4 Try.f4 rfl rfl rfl rfl rfl rfl rfl ⟨rfl, rfl, rfl, rfl, rfl⟩ rfl rfl rfl rfl rfl (by kernel_rfl) Try.func4 (by kernel_rfl)
    (of_decide_eq_true (by kernel_rfl)) (by unfold Func.isWrapper; first | (rw [if_pos (by decide +kernel)]; kernel_rfl) | (rw [if_neg (by decide +kernel)]; exact ⟨rfl, rfl⟩))
    (fun os started H enc _ => runsAreWords_lifted os started H enc)
end Go.Proofs.Ytnnjehonbolliaa
