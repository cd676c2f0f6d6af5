/- The library's Repeat of one number. -/
import Derived.Test.YtnjabaeajjhliaaU1
namespace Go.Proofs.Ytnjabaeajjhliaa
set_option linter.unusedSimpArgs false
set_option linter.unusedVariables false
set_option maxHeartbeats 4000000
open Go Go.Eng
attribute [local irreducible] WD RunD PreD Runs CallOK

theorem u64and : ∀ n : Nat, n < 61 → bAnd .u64 (n : Int) 4294967295 = (n : Int) := by decide +kernel
theorem u64shr : ∀ n : Nat, n < 61 → bShr .u64 (n : Int) 32 = 0 := by decide +kernel
theorem u64wrap : ∀ n : Nat, n < 61 → IntKind.wrap .u64 (n : Int) = (n : Int) := by decide +kernel
theorem i64wrap : ∀ n : Nat, n < 61 → IntKind.wrap .i64 (n : Int) = (n : Int) := by decide +kernel
theorem mul64_ok (h : Hp) (n : Nat) (hn : n < 61) : CallOK Try.prog 174 #[.int .u64 1, .int .u64 (n : Int)] h (.tuple #[.int .u64 0, .int .u64 (n : Int)]) h := by
  refine callY_P 51 _ [.tmp 4, .tmp 5] Try.func174 rfl rfl rfl (by first | rfl | simp) ?_
  have a1 := u64and n hn
  have a2 := u64shr n hn
  have a3 := u64wrap n hn
  have b1 : bAnd .u64 1 4294967295 = 1 := u64and 1 (by decide)
  have b2 : bShr .u64 1 32 = 0 := u64shr 1 (by decide)
  have b3 : bShr .u64 0 32 = 0 := u64shr 0 (by decide)
  have b4 : bAnd .u64 0 4294967295 = 0 := u64and 0 (by decide)
  have b5 : IntKind.wrap .u64 0 = 0 := u64wrap 0 (by decide)
  try simp (disch := first | omega | (simp; done) | fail) [wrap64c, if_pos, if_neg, a1, a2, a3, b1, b2, b3, b4, b5]
  exact done_ret rfl (by simp)
theorem mul_ok (h : Hp) (n : Nat) (hn : n < 61) : CallOK Try.prog 163 #[.int .u64 1, .int .u64 (n : Int)] h (.tuple #[.int .u64 0, .int .u64 (n : Int)]) h := by
  refine callY_P 30 _ [.tmp 4, .tmp 5] Try.func163 rfl rfl rfl (by first | rfl | simp) ?_
  try simp (disch := first | omega | (simp; done) | fail) [wrap64c, if_pos, if_neg]
  refine callG_c (by simp) (by simp) ?ha (mul64_ok h n hn) ?_
  (case ha => simp (disch := first | omega | (simp; done) | fail) [wrap64c, if_pos, if_neg])
  try simp (disch := first | omega | (simp; done) | fail) [wrap64c, if_pos, if_neg]
  exact done_ret rfl (by simp)

theorem copyD_eq {P : Program} {h : Hp} {t e : TypeId} {p i n c q j n2 c2 k m : Nat} {cp src : List Value} {ex : Bool} {es : Nat} (ht : elT P t = some e) (hm : szT P e = some m) (hk : k = min n2 n) (h0 : k ≠ 0) (hg : h.get p = .cells cp true ex es)
    (hs : srcV h m (.slice (some ⟨q, j, none⟩) k c2) = some (k, src)) (hl : i + n * m ≤ cp.length) (h63 : k < 2 ^ 63) :
    copyD P t (.slice (some ⟨p, i, none⟩) n c) (.slice (some ⟨q, j, none⟩) n2 c2) h = some (.int .i64 k, h.put p (.cells (putCells cp i src) true ex es)) := by
  subst hk
  unfold copyD
  simp only [ht, hm, hg, hs]
  rw [if_neg h0, if_pos ⟨trivial, hl, trivial, h63⟩]
theorem copyD_zero {P : Program} {h : Hp} {t e : TypeId} {p i n c q j n2 c2 m : Nat} (ht : elT P t = some e) (hm : szT P e = some m) (hk : min n2 n = 0) :
    copyD P t (.slice (some ⟨p, i, none⟩) n c) (.slice (some ⟨q, j, none⟩) n2 c2) h = some (.int .i64 0, h) := by
  unfold copyD
  simp only [ht, hm]
  rw [if_pos hk]
/-- k numbers have been set of n. -/
def repC (a : Int) (n k : Nat) : List Value := (List.replicate k a ++ List.replicate (n - k) 0).map (.int .i64)
theorem repC_len {a : Int} {n k : Nat} (hk : k ≤ n) : (repC a n k).length = n := by simp [repC]; omega
theorem repC_put {a : Int} {n k j : Nat} (hk : k + j ≤ n) : putCells (repC a n k) k (List.replicate j (.int .i64 a)) = repC a n (k + j) := by
  unfold putCells repC
  have h1 : ((List.replicate k a ++ List.replicate (n - k) 0).map (Value.int .i64)).take k = List.replicate k (.int .i64 a) := by
    rw [List.map_append, List.take_left' (by simp)]; simp
  have h2 : ((List.replicate k a ++ List.replicate (n - k) 0).map (Value.int .i64)).drop (k + (List.replicate j (Value.int .i64 a)).length) = List.replicate (n - (k + j)) (.int .i64 0) := by
    rw [List.map_append, List.drop_append, List.drop_eq_nil_of_le (by simp), List.nil_append]
    simp only [List.length_map, List.length_replicate, List.map_replicate, List.drop_replicate]
    congr 1; omega
  rw [h1, h2]
  simp [List.map_replicate, ← List.append_assoc, List.replicate_append_replicate]
theorem repC_take {a : Int} {n k j : Nat} (hj : j ≤ k) : (repC a n k).take j = List.replicate j (.int .i64 a) := by
  unfold repC
  rw [List.map_append, List.take_append_of_le_length (by simp; omega), List.map_replicate, List.take_replicate, Nat.min_eq_left hj]
theorem repeat_ok (h : Hp) (v : Value) (a : Int) (n : Nat) (hv : Ints h v [a]) (hn : n < 61) :
    ∃ v' h', CallOK Try.prog 112 #[v, .int .i64 (n : Int)] h v' h' ∧ Adds h h' ∧ IntsO (Btw h.next h'.next) h' v' (List.replicate n a) := by
  refine callY_L (args := [v, .int .i64 (n : Int)]) 48 _ [.tmp 4] Try.func112 rfl rfl rfl ?_
  have hL := hv.lenD
  have a3 := u64wrap n hn
  have a4 := i64wrap n hn
  have b5 : IntKind.wrap .u64 1 = 1 := u64wrap 1 (by decide)
  have nn : ¬ (n : Int) < 0 := by omega
  have nb : ¬ (9223372036854775807 : Int) < (n : Int) := by omega
  try simp (disch := first | omega | (simp; done) | fail) [wrap64c, if_pos, if_neg, hL, a3, a4, b5, nn, nb]
  refine callG_c (by simp) (by simp) ?ha (mul_ok h n hn) ?_
  (case ha => simp (disch := first | omega | (simp; done) | fail) [wrap64c, if_pos, if_neg, hL, a3, a4, b5, nn, nb])
  try simp (disch := first | omega | (simp; done) | fail) [wrap64c, if_pos, if_neg, hL, a3, a4, b5, nn, nb, (by omega : (n : Int) < 140737488355328), (by omega : (8 : Int) * n ≤ 281474976710656)]
  obtain ⟨o_x, i_x, c_x, cs_x, own_x, ex_x, es_x, q_x, b_x, g_x, l_x, r_x⟩ := hv.open ((by simp))
  have z_x : ∀ h2 : i_x < cs_x.length, cs_x[i_x] = _ := fun h2 => r_x 0 ((by simp)) h2
  have ka : Keeps h (h.alloc (.cells (List.replicate n (.int .i64 0)) true true 1)) := Keeps.alloc _ _
  have hsr := (hv.keep ka).src
  rw [q_x] at hsr
  rcases Nat.eq_zero_or_pos n with h0 | h0
  · have hz := copyD_zero (P := Try.prog) (h := h.alloc (.cells (List.replicate n (.int .i64 0)) true true 1)) (t := 30) (e := 3) (m := 1) (p := h.next) (i := 0) (n := n) (c := n) (q := o_x) (j := i_x) (n2 := 1) (c2 := c_x) ty_elT_30 ty_szT_3 (by omega)
    try simp (disch := first | omega | (simp; done) | fail) [wrap64c, if_pos, if_neg, hL, a3, a4, b5, nn, nb, q_x, g_x, l_x, r_x, z_x, hz]
    refine WD_loopC [7] (fun m tm h' => ∃ k, m = n - k ∧ tm 8 = .int .i64 (k : Int) ∧ (k ≤ n) ∧ (Adds h h') ∧ (h'.next = h.next + 1) ∧ (h'.get h.next = .cells ((List.replicate n a).map (.int .i64)) true true 1)) _ ⟨0, rfl, (by simp (disch := first | omega | (simp; done) | fail) [wrap64c, if_pos, if_neg, hL, a3, a4, b5, nn, nb, q_x, g_x, l_x, r_x, z_x, hz]), (by first | omega | assumption | (simp (disch := first | omega | (simp; done) | fail) [wrap64c, if_pos, if_neg, hL, a3, a4, b5, nn, nb, q_x, g_x, l_x, r_x, z_x, hz] <;> omega)), (by first | exact aK | exact kK), (by simp), (by simp [h0])⟩ ?_
    rintro m tm h' hFr ⟨k, rfl, e8, hk, ha, hnx, hg⟩
    simp only [FrameL] at hFr
    obtain ⟨f7_0, -⟩ := hFr
    try simp (disch := first | omega | (simp; done) | fail) [wrap64c, if_pos, if_neg, hL, a3, a4, b5, nn, nb, q_x, g_x, l_x, r_x, z_x, hz] at f7_0
    have e7 := f7_0
    have hlt : ¬ (k : Int) < (n : Int) := by omega
    try simp (disch := first | omega | (simp; done) | fail) [wrap64c, if_pos, if_neg, hL, a3, a4, b5, nn, nb, q_x, g_x, l_x, r_x, z_x, hz, e7, e8, hlt]
    have := IntsO.mk (S := Btw h.next h'.next) (xs := List.replicate n a) (ex := true) ⟨Nat.le_refl _, by omega⟩ (by omega) (by simp; omega) hg
    exact done_ret rfl ⟨ha, by simpa using this⟩
  · have hcp := copyD_eq (P := Try.prog) (h := h.alloc (.cells (List.replicate n (.int .i64 0)) true true 1)) (t := 30) (e := 3) (m := 1) (p := h.next) (i := 0) (n := n) (c := n) (q := o_x) (j := i_x) (n2 := 1) (c2 := c_x) (k := 1) (ex := true) (es := 1) (cp := repC a n 0) (src := [.int .i64 a]) ty_elT_30 ty_szT_3 (by omega) (by omega) (by simp [repC]) hsr (by rw [repC_len (by omega)]; omega) (by omega)
    have hpt := repC_put (a := a) (n := n) (k := 0) (j := 1) (by omega)
    simp only [List.replicate_one, Nat.zero_add] at hpt
    rw [hpt] at hcp
    have hcp := hcp
    try simp (disch := first | omega | (simp; done) | fail) [wrap64c, if_pos, if_neg, hL, a3, a4, b5, nn, nb, q_x, g_x, l_x, r_x, z_x, hcp]
    refine WD_loopC [7] (fun m tm h' => ∃ k, m = n - k ∧ tm 8 = .int .i64 (k : Int) ∧ (k ≤ n) ∧ (1 ≤ k) ∧ (Adds h h') ∧ (h'.next = h.next + 1) ∧ (h'.get h.next = .cells (repC a n k) true true 1)) _ ⟨1, rfl, (by simp (disch := first | omega | (simp; done) | fail) [wrap64c, if_pos, if_neg, hL, a3, a4, b5, nn, nb, q_x, g_x, l_x, r_x, z_x, hcp]), (by first | omega | assumption | (simp (disch := first | omega | (simp; done) | fail) [wrap64c, if_pos, if_neg, hL, a3, a4, b5, nn, nb, q_x, g_x, l_x, r_x, z_x, hcp] <;> omega)), (by first | omega | assumption | (simp (disch := first | omega | (simp; done) | fail) [wrap64c, if_pos, if_neg, hL, a3, a4, b5, nn, nb, q_x, g_x, l_x, r_x, z_x, hcp] <;> omega)), (by first | exact aK | exact kK), (by simp), (by simp)⟩ ?_
    rintro m tm h' hFr ⟨k, rfl, e8, hk, h1k, ha, hnx, hg⟩
    simp only [FrameL] at hFr
    obtain ⟨f7_1, -⟩ := hFr
    try simp (disch := first | omega | (simp; done) | fail) [wrap64c, if_pos, if_neg, hL, a3, a4, b5, nn, nb, q_x, g_x, l_x, r_x, z_x, hcp] at f7_1
    have e7 := f7_1
    have hcl := repC_len (a := a) hk
    by_cases hlt : k < n
    · have hkn : ¬ (n : Int) < (k : Int) := by omega
      obtain ⟨j, hj⟩ : ∃ j, j = min k (n - k) := ⟨_, rfl⟩
      rename Hp => hq
      have hcp := copyD_eq (h := hq) (P := Try.prog) (t := 30) (e := 3) (m := 1) (p := h.next) (i := k) (n := n - k) (c := n - k) (q := h.next) (j := 0) (n2 := k) (c2 := n) (k := j) (cp := repC a n k) (src := List.replicate j (.int .i64 a)) ty_elT_30 ty_szT_3 hj (by omega) hg (by
        unfold srcV srcW
        simp only [hg, hcl, List.drop_zero, Nat.mul_one]
        rw [if_pos (by omega), repC_take (by omega)]) (by omega) (by omega)
      rw [repC_put (by omega)] at hcp
      try simp (disch := first | omega | (simp; done) | fail) [wrap64c, if_pos, if_neg, hL, a3, a4, b5, nn, nb, q_x, g_x, l_x, r_x, z_x, hcp, e7, e8, hlt]
      refine WD_chainC rfl (by kernel_rfl) (by kernel_rfl) ?_
      try simp (disch := first | omega | (simp; done) | fail) [wrap64c, if_pos, if_neg, hL, a3, a4, b5, nn, nb, q_x, g_x, l_x, r_x, z_x, hcp, e7, e8, hlt]
      refine loopK_next _ ?hm ?hf ⟨k + j, rfl, (by simp (disch := first | omega | (simp; done) | fail) [wrap64c, if_pos, if_neg, hL, a3, a4, b5, nn, nb, q_x, g_x, l_x, r_x, z_x, hcp, e7, e8, hlt] <;> omega), (by first | omega | assumption | (simp (disch := first | omega | (simp; done) | fail) [wrap64c, if_pos, if_neg, hL, a3, a4, b5, nn, nb, q_x, g_x, l_x, r_x, z_x, hcp, e7, e8, hlt] <;> omega)), (by first | omega | assumption | (simp (disch := first | omega | (simp; done) | fail) [wrap64c, if_pos, if_neg, hL, a3, a4, b5, nn, nb, q_x, g_x, l_x, r_x, z_x, hcp, e7, e8, hlt] <;> omega)), (by first | omega | assumption | (simp (disch := first | omega | (simp; done) | fail) [wrap64c, if_pos, if_neg, hL, a3, a4, b5, nn, nb, q_x, g_x, l_x, r_x, z_x, hcp, e7, e8, hlt] <;> omega)), (by simpa using hnx), (by simp)⟩
      (case hm => exact (by omega))
      (case hf => simp [FrameL, hL, a3, a4, b5, nn, nb, q_x, g_x, l_x, r_x, z_x, hcp, e7, e8, hlt, f7_1])
    · try simp (disch := first | omega | (simp; done) | fail) [wrap64c, if_pos, if_neg, hL, a3, a4, b5, nn, nb, q_x, g_x, l_x, r_x, z_x, hcp, e7, e8, hlt]
      have hke : k = n := by omega
      rw [hke] at hg
      have he : repC a n n = (List.replicate n a).map (.int .i64) := by simp [repC]
      rw [he] at hg
      have := IntsO.mk (S := Btw h.next h'.next) (xs := List.replicate n a) (ex := true) ⟨Nat.le_refl _, by omega⟩ (by omega) (by simp; omega) hg
      exact done_ret rfl ⟨ha, by simpa using this⟩
end Go.Proofs.Ytnjabaeajjhliaa
