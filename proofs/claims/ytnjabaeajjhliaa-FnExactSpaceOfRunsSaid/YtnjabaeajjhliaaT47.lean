/- The sets of runs, put into a family by the program. -/
import Derived.Test.YtnjabaeajjhliaaT46
namespace Go.Proofs.Ytnjabaeajjhliaa
set_option linter.unusedSimpArgs false
set_option linter.unusedVariables false
set_option maxHeartbeats 4000000
open Go Go.Eng
attribute [local irreducible] WD RunD PreD Runs CallOK

theorem famC_cons (xs : List Nat) (a : Nat) (ha : a < 128) : putCells (famC (fam xs)) a [.bool true] = famC (fam (a :: xs)) := by
  rw [putCells_one (by simp; omega), famC_set xs a ha]
  refine famC_ext fun i _ => ?_
  unfold fam
  exact decide_eq_decide.2 ⟨fun h => by simp at h ⊢; exact h.symm, fun h => by simp at h ⊢; exact h.symm⟩
/-- What the calls have put into the family, and what they read. -/
structure SetSt (base b5 b8 b11 o : Nat) (u q : Value) (F : List Int) (n : Nat) (s : List (List Int)) (h : Hp) : Prop where
  lt : b5 < base ∧ b8 < base ∧ b11 < base ∧ o < base
  ne : b5 ≠ o ∧ b8 ≠ o ∧ b11 ≠ o
  g5 : h.get b5 = .cells [u] true true 1
  g8 : h.get b8 = .cells [q] true true 1
  g11 : h.get b11 = .cells [.pointer (some ⟨o, 0, none⟩)] true true 1
  gf : h.get o = .cells (famC (fam (s.map fun x => setN F x n))) true true 1
  hu : IntsF (fun x => x < base ∧ x ≠ o) h u F
  hq : IntsF (fun x => x < base ∧ x ≠ o) h q (startsL F n)
theorem SetSt.stab {base b5 b8 b11 o : Nat} {u q : Value} {F : List Int} {n : Nat} {s : List (List Int)} {h h' : Hp} (k : SetSt base b5 b8 b11 o u q F n s h) (hn : h.next ≤ h'.next) (hs : ∀ x, x < base → h'.get x = h.get x) : SetSt base b5 b8 b11 o u q F n s h' where
  lt := k.lt
  ne := k.ne
  g5 := by rw [hs _ k.lt.1]; exact k.g5
  g8 := by rw [hs _ k.lt.2.1]; exact k.g8
  g11 := by rw [hs _ k.lt.2.2.1]; exact k.g11
  gf := by rw [hs _ k.lt.2.2.2]; exact k.gf
  hu := k.hu.same ⟨hn, fun x hx _ => hs x hx.1⟩
  hq := k.hq.same ⟨hn, fun x hx _ => hs x hx.1⟩
theorem setRun_ok {base b5 b8 b11 o : Nat} {u q : Value} {F : List Int} {n : Nat} (h5 : n ≤ 5) (hF : F.length = n) (hF7 : ∀ k, k ≤ n → startN F k ≤ 7) (s : List (List Int)) (h : Hp) (x : List Int) (hk : SetSt base b5 b8 b11 o u q F n s h) (hb : base ≤ h.next) (hxl : x.length = n)
    (hxF : ∀ i, x.getD i 0 ≤ F.getD i 0) (hxb : ∀ y ∈ x, 0 ≤ y ∧ y ≤ 60) (hx7 : x.sum ≤ 7) :
    ∃ v h', CallOK Try.prog 113 #[keyC x, .pointer (some ⟨b5, 0, none⟩), .pointer (some ⟨b8, 0, none⟩), .pointer (some ⟨b11, 0, none⟩)] h v h' ∧ Wr (fun p => p = o) h h' ∧ SetSt base b5 b8 b11 o u q F n (x :: s) h' := by
  obtain ⟨a1, a2, a3, a4, a5, hpd⟩ := pad_five (x := x) (by omega)
  rw [keyC_five hpd]
  obtain ⟨l1, l2, l3, l4⟩ := hk.lt
  obtain ⟨m1, m2, m3⟩ := hk.ne
  refine callY_L (args := [.agg #[.int .i64 a1, .int .i64 a2, .int .i64 a3, .int .i64 a4, .int .i64 a5], .pointer (some ⟨b5, 0, none⟩), .pointer (some ⟨b8, 0, none⟩), .pointer (some ⟨b11, 0, none⟩)]) 29 _ [] Try.func113 rfl rfl rfl ?_
  refine WD_first ?_
  try simp (disch := first | omega | (simp; done) | fail) [wrap64c, if_pos, if_neg, opAnd, opOr, opXor, opDiff, opShr, opBit]
  refine stopK_heap fun h0 q_h0 => ?_
  refine stopK_go ?_
  have k0 : Adds h h0 := by rw [q_h0]; exact (by first | exact aK | exact kK)
  have n0 : h0.next = h.next + 1 := by simp [q_h0]
  have hk0 := hk.stab k0.1.1 fun p hp => k0.1.2 p (by omega)
  have gk0 : h0.get h.next = .cells ((pad x).map (.int .i64)) true true 1 := by rw [hpd]; simp [q_h0]
  have hpl := pad_len (x := x) (by omega)
  have g5 := hk0.g5
  have g8 := hk0.g8
  have g11 := hk0.g11
  have gf := hk0.gf
  have lU := hk0.hu.lenD
  have hFn := hF
  have lq := hk0.hq.lenD
  have hsl := startsL_len F n
  have hsv : ∀ k, k ≤ n → setN F x k < 128 := fun k hk => Nat.lt_of_lt_of_le (setN_lt hxF k) (bit7 (hF7 k hk)).2
  try simp (disch := first | omega | (simp; done) | fail) [wrap64c, if_pos, if_neg, opAnd, opOr, opXor, opDiff, opShr, opBit, gk0, hpl, g5, g8, g11, gf, lU, hFn, lq, hsl]
  refine WD_loopC [2, 3, 4, 8] (fun m tm h' => ∃ k, m = n - k ∧ h0 = h' ∧ tm 5 = .int .i64 ((setN F x k : Nat) : Int) ∧ tm 9 = .int .i64 (k : Int) ∧ (k ≤ n)) _ ⟨0, rfl, rfl, (by simp [setN]), (by simp (disch := first | omega | (simp; done) | fail) [wrap64c, if_pos, if_neg, opAnd, opOr, opXor, opDiff, opShr, opBit, gk0, hpl, g5, g8, g11, gf, lU, hFn, lq, hsl]), (by first | omega | assumption | (simp (disch := first | omega | (simp; done) | fail) [wrap64c, if_pos, if_neg, opAnd, opOr, opXor, opDiff, opShr, opBit, gk0, hpl, g5, g8, g11, gf, lU, hFn, lq, hsl] <;> omega))⟩ ?_
  rintro m tm h' hFr ⟨k, rfl, rfl, e5, e9, hkn⟩
  simp only [FrameL] at hFr
  obtain ⟨f2_0, f3_0, f4_0, f8_0, -⟩ := hFr
  try simp (disch := first | omega | (simp; done) | fail) [wrap64c, if_pos, if_neg, opAnd, opOr, opXor, opDiff, opShr, opBit, gk0, hpl, g5, g8, g11, gf, lU, hFn, lq, hsl] at f2_0 f3_0 f4_0 f8_0
  have e2 := f2_0
  have e3 := f3_0
  have e4 := f4_0
  have e8 := f8_0
  by_cases hkl : k < n
  · have hkx : k < x.length := by omega
    have hk5 : k < 5 := by omega
    have hkp : k < (pad x).length := by omega
    have hpi := pad_at hkx hkp
    obtain ⟨o_s, i_s, c_s, cs_s, own_s, ex_s, es_s, q_s, b_s, g_s, l_s, r_s⟩ := (hk0.hq.ints).open ((by simp; omega))
    have z_s : ∀ h2 : i_s < cs_s.length, cs_s[i_s] = _ := fun h2 => r_s 0 ((by simp; omega)) h2
    have hxk := hxb _ (List.getElem_mem hkx)
    have hxk7 := le_sum (fun y hy => (hxb y hy).1) (List.getElem_mem hkx)
    obtain ⟨c, hc⟩ : ∃ c : Nat, x[k] = (c : Int) := ⟨x[k].toNat, by omega⟩
    have hcc := hc
    have hc7 : c ≤ 7 := by omega
    have hs7 := hF7 k (by omega)
    have hbb := bit7 hc7
    have hsh := shl_op c (startN F k) hc7 hs7
    have hsg := startsL_get F n k (by simp; omega)
    have hsk := hsv k (by omega)
    have hsl2 : shN c (startN F k) < 2 ^ 20 := Nat.lt_of_lt_of_le (shl_lt c (startN F k)) (bit_mono (by omega))
    try simp (disch := first | omega | (simp; done) | fail) [wrap64c, if_pos, if_neg, opAnd, opOr, opXor, opDiff, opShr, opBit, gk0, hpl, g5, g8, g11, gf, lU, hFn, lq, hsl, e2, e3, e4, e5, e8, e9, hkl, hk5, hkp, hpi, q_s, g_s, l_s, r_s, z_s, hcc, hsh, hsg]
    refine WD_drawC 11 rfl (by kernel_rfl) ?_
    try simp (disch := first | omega | (simp; done) | fail) [wrap64c, if_pos, if_neg, opAnd, opOr, opXor, opDiff, opShr, opBit, gk0, hpl, g5, g8, g11, gf, lU, hFn, lq, hsl, e2, e3, e4, e5, e8, e9, hkl, hk5, hkp, hpi, q_s, g_s, l_s, r_s, z_s, hcc, hsh, hsg]
    refine loopK_next _ ?hm ?hf ⟨k + 1, rfl, rfl, (by rw [setN, getD_at hkx, hc, Int.toNat_natCast]; simp), (by simp (disch := first | omega | (simp; done) | fail) [wrap64c, if_pos, if_neg, opAnd, opOr, opXor, opDiff, opShr, opBit, gk0, hpl, g5, g8, g11, gf, lU, hFn, lq, hsl, e2, e3, e4, e5, e8, e9, hkl, hk5, hkp, hpi, q_s, g_s, l_s, r_s, z_s, hcc, hsh, hsg] <;> omega), (by first | omega | assumption | (simp (disch := first | omega | (simp; done) | fail) [wrap64c, if_pos, if_neg, opAnd, opOr, opXor, opDiff, opShr, opBit, gk0, hpl, g5, g8, g11, gf, lU, hFn, lq, hsl, e2, e3, e4, e5, e8, e9, hkl, hk5, hkp, hpi, q_s, g_s, l_s, r_s, z_s, hcc, hsh, hsg] <;> omega))⟩
    (case hm => first | omega | (simp; omega))
    (case hf => simp [FrameL, gk0, hpl, g5, g8, g11, gf, lU, hFn, lq, hsl, e2, e3, e4, e5, e8, e9, hkl, hk5, hkp, hpi, q_s, g_s, l_s, r_s, z_s, hcc, hsh, hsg, f2_0, f3_0, f4_0, f8_0])
  · have hke : k = n := by omega
    have hsk := hsv n (Nat.le_refl _)
    obtain ⟨a0, ha0⟩ : ∃ a, a = setN F x n := ⟨_, rfl⟩
    rw [hke, ← ha0] at e5
    rw [← ha0] at hsk
    have hfl := famC_length (fam (s.map fun x => setN F x n))
    have hpc := famC_cons (s.map fun x => setN F x n) a0 hsk
    try simp (disch := first | omega | (simp; done) | fail) [wrap64c, if_pos, if_neg, opAnd, opOr, opXor, opDiff, opShr, opBit, gk0, hpl, g5, g8, g11, gf, lU, hFn, lq, hsl, e2, e3, e4, e5, e8, e9, hkl, hfl, hpc]
    refine done_end rfl ⟨Wr.put (S := fun p => p = o) (Wr.of_adds k0) (o := o) rfl (fun _ => rfl), ?_⟩
    have hS : Same (fun x => x < base ∧ x ≠ o) h0 (h0.put o (.cells (famC (fam (a0 :: s.map fun x => setN F x n))) true true 1)) := Same.put (Same.refl _ _) (fun e => e.2 rfl) _
    exact ⟨hk0.lt, hk0.ne, by simp [m1, g5], by simp [m2, g8], by simp [m3, g11], by simp [← ha0], hk0.hu.same hS, hk0.hq.same hS⟩
end Go.Proofs.Ytnjabaeajjhliaa
