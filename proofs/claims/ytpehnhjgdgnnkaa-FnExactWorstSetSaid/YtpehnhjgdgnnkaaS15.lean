/- Questions by the reference: a table of what is known. -/
import Derived.Test.YtpehnhjgdgnnkaaS14
namespace Go.Proofs.Ytpehnhjgdgnnkaa
set_option linter.unusedSimpArgs false
set_option linter.unusedVariables false
set_option maxHeartbeats 4000000
open Go Go.Eng
attribute [local irreducible] WD RunD PreD Runs CallOK

def nShl (a i : Nat) : Nat := a <<< i
theorem opShl (x y : Int) (hx : 0 ≤ x) (hx2 : x < 1048576) (hy : 0 ≤ y) (hy2 : y < 40) : bShl .i64 x y = ((nShl x.toNat y.toNat : Nat) : Int) := bShl_nat x y hx hx2 hy hy2
theorem place_eq {a b n : Nat} (hb : b < bit n) : nOr (nShl a n) b = a * bit n + b := by
  unfold nOr nShl bit
  rw [← Nat.shiftLeft_add_eq_or_of_lt hb, Nat.shiftLeft_eq]
theorem bit_add (a b : Nat) : bit (a + b) = bit a * bit b := Nat.pow_add 2 a b
theorem place_lt {a b n m : Nat} (hm : m = 2 * n) (ha : a < bit n) (hb : b < bit n) : a * bit n + b < bit m := by
  rw [hm, show 2 * n = n + n by omega, bit_add]
  calc a * bit n + b < a * bit n + bit n := by omega
    _ = (a + 1) * bit n := by rw [Nat.add_mul, Nat.one_mul]
    _ ≤ bit n * bit n := Nat.mul_le_mul (by omega) (Nat.le_refl _)
theorem place_div {a b n : Nat} (hb : b < bit n) : (a * bit n + b) / bit n = a ∧ (a * bit n + b) % bit n = b := by
  have hp := bit_pos n
  constructor
  · rw [Nat.mul_comm, Nat.mul_add_div (by omega), Nat.div_eq_of_lt hb]; omega
  · rw [Nat.mul_comm, Nat.mul_add_mod, Nat.mod_eq_of_lt hb]

/-- What all have, and what none has, of the items. -/
def inS (n : Nat) (L : List Nat) : Nat := L.foldl nAnd (bit n - 1)
def outS (n : Nat) (L : List Nat) : Nat := L.foldl ndiff (bit n - 1)
theorem inS_lt (n : Nat) (L : List Nat) : inS n L < bit n := by
  have := foldAnd_le L (bit n - 1)
  have := bit_pos n
  unfold inS; omega
theorem outS_lt (n : Nat) (L : List Nat) : outS n L < bit n := by
  have : ∀ (L : List Nat) (a : Nat), a < bit n → L.foldl ndiff a < bit n := by
    intro L
    induction L with
    | nil => intro a ha; exact ha
    | cons x L ih => intro a ha; exact ih _ (ndiff_lt ha)
  exact this L _ (by have := bit_pos n; omega)
theorem closed_left {n : Nat} {xs : List Nat} (hx : ∀ x ∈ xs, x < bit n) {y z : Nat} (hne : leftN xs y z ≠ []) : leftN xs (inS n (leftN xs y z)) (outS n (leftN xs y z)) = leftN xs y z := by
  obtain ⟨w, hw⟩ := List.exists_mem_of_ne_nil _ hne
  conv => lhs; unfold leftN
  conv => rhs; unfold leftN
  apply List.filter_congr
  intro x hxm
  rw [Bool.eq_iff_iff, leftB_iff, leftB_iff]
  have hwb := leftB_iff.1 (List.mem_filter.1 hw).2
  have hwn := hx w (left_sub hw)
  constructor
  · rintro ⟨h1, h2⟩
    refine ⟨fun i hi => ?_, fun i hi => ?_⟩
    · have hin : i < n := by
        apply Classical.byContradiction
        intro hn
        have := hwb.1 i hi
        rw [hi_bit hwn (by omega)] at this; cases this
      apply h1 i
      unfold inS
      rw [foldAnd_bit, full_bit]
      simp only [hin, decide_true, Bool.true_and, List.all_eq_true]
      intro q hq
      exact (leftB_iff.1 (List.mem_filter.1 hq).2).1 i hi
    · by_cases hin : i < n
      · apply h2 i
        unfold outS
        rw [foldDiff_bit, full_bit]
        simp only [hin, decide_true, Bool.true_and, List.all_eq_true, Bool.not_eq_true']
        intro q hq
        exact (leftB_iff.1 (List.mem_filter.1 hq).2).2 i hi
      · exact hi_bit (hx x hxm) (by omega)
  · intro hxb
    have hxl : x ∈ leftN xs y z := List.mem_filter.2 ⟨hxm, leftB_iff.2 hxb⟩
    refine ⟨fun i hi => ?_, fun i hi => ?_⟩
    · unfold inS at hi
      rw [foldAnd_bit, Bool.and_eq_true, List.all_eq_true] at hi
      exact hi.2 x hxl
    · unfold outS at hi
      rw [foldDiff_bit, Bool.and_eq_true, List.all_eq_true] at hi
      have := hi.2 x hxl
      simpa using this
theorem worst_one {L : List Nat} (h : L.length = 1) : worstN L = 0 := by
  rw [worstN_eq]
  have : openN L = [] := by
    apply Classical.byContradiction
    intro hn
    obtain ⟨i, hi⟩ := List.exists_mem_of_ne_nil _ hn
    have := has_len (mem_openK.1 hi).2
    omega
  rw [this]; rfl
def minW (l : List Nat) : Nat := l.foldl min 1073741824
theorem minW_snoc (l : List Nat) (a : Nat) : minW (l ++ [a]) = min (minW l) a := by simp [minW, List.foldl_append]
theorem minW_le (l : List Nat) : minW l ≤ 1073741824 := by
  have : ∀ (l : List Nat) (b : Nat), l.foldl min b ≤ b := by
    intro l
    induction l with
    | nil => intro b; exact Nat.le_refl _
    | cons a l ih => intro b; have := ih (min b a); simp only [List.foldl_cons]; omega
  exact this l _
theorem minW_eq {l : List Nat} (hne : l ≠ []) (h : ∀ x ∈ l, x ≤ 1073741824) : minW l = minL l := by
  cases l with
  | nil => exact absurd rfl hne
  | cons a l =>
    have ha := h a (by simp)
    rw [minW, minL, List.foldl_cons, Nat.min_eq_right ha]

def cellsN (W : List Nat) : List Value := (toN W).map (.int .i64)
@[simp] theorem cellsN_length (W : List Nat) : (cellsN W).length = W.length := by simp [cellsN]
theorem cellsN_at (W : List Nat) (i : Nat) (h : i < (cellsN W).length) : (cellsN W)[i] = .int .i64 (((W[i]'(by simpa using h) : Nat)) : Int) := by
  simp only [cellsN, List.getElem_map, toN_get]
theorem cellsN_getD (W : List Nat) (i : Nat) (h : i < W.length) : (cellsN W)[i]?.getD undef = .int .i64 ((W[i] : Nat) : Int) := by
  rw [List.getElem?_eq_getElem (by simpa using h), cellsN_at]; rfl
theorem cellsN_set (W : List Nat) (i x : Nat) : (cellsN W).set i (.int .i64 (x : Int)) = cellsN (W.set i x) := by
  simp [cellsN, toN, List.map_set]
theorem cellsN_zero (n : Nat) : List.replicate n (Value.int .i64 0) = cellsN (List.replicate n 0) := by simp [cellsN, toN]

/-- A table whose memory lies below a number. -/
structure TabOK (base ot o1 o2 n m : Nat) (b : Value) (xs : List Nat) (h : Hp) : Prop where
  tb : ot < base
  b1 : o1 < base
  b2 : o2 < base
  n1 : ot ≠ o1
  n2 : ot ≠ o2
  n12 : o1 ≠ o2
  tab : h.get ot = .cells [.int .i64 (n : Int), b, .slice (some ⟨o1, 0, none⟩) (bit m) (bit m), .slice (some ⟨o2, 0, none⟩) (bit m) (bit m)] true true 1
  ints : IntsF (fun x => x < base ∧ x ≠ o1 ∧ x ≠ o2) h b (toN xs)
  ent : ∃ W T : List Nat, W.length = bit m ∧ T.length = bit m ∧ h.get o1 = .cells (cellsN W) true true 1 ∧ h.get o2 = .cells (cellsN T) true true 1 ∧
    ∀ i (h1 : i < W.length) (h2 : i < T.length), 0 < W[i] → W[i] = 1 + worstN (leftN xs (i / bit n) (i % bit n)) ∧ 1 ≤ T[i] ∧ T[i] ≤ 1 + (leftN xs (i / bit n) (i % bit n)).length * (leftN xs (i / bit n) (i % bit n)).length
theorem TabOK.adds {base ot o1 o2 n m : Nat} {b : Value} {xs : List Nat} {h h' : Hp} (k : TabOK base ot o1 o2 n m b xs h) (hb : base ≤ h.next) (a : Adds h h') : TabOK base ot o1 o2 n m b xs h' where
  tb := k.tb
  b1 := k.b1
  b2 := k.b2
  n1 := k.n1
  n2 := k.n2
  n12 := k.n12
  tab := by rw [a.1.2 _ (by have := k.tb; omega)]; exact k.tab
  ints := k.ints.keep a.1
  ent := by
    obtain ⟨W, T, e1, e2, e3, e4, e5⟩ := k.ent
    exact ⟨W, T, e1, e2, by rw [a.1.2 _ (by have := k.b1; omega)]; exact e3, by rw [a.1.2 _ (by have := k.b2; omega)]; exact e4, e5⟩

theorem l1Least_ok (h : Hp) (a b : Int) : CallOK Try.prog 146 #[.int .i64 a, .int .i64 b] h (.int .i64 (if a < b then a else b)) h := by
  refine call_P 10 _ [.tmp 4] Try.func146 rfl rfl rfl (by first | rfl | simp) ?_
  by_cases hc : a < b
  · repeat (first
      | (refine WD_block (fun K hK => ?_))
      | (refine WD_seq (fun K hK => ?_))
      | (refine WD_region (fun K hK => ?_))
      | ((first | refine RunD_o rfl rfl rfl rfl rfl (fun X hX => ?_) | refine RunD_s rfl rfl rfl rfl (fun X hX => ?_) | refine WD_c rfl (fun X Y hX hY => ?_)); (try dsimp only); simp (disch := first | omega | (simp; done) | fail) [wrap64c, if_pos, if_neg, opAnd, opOr, opXor, opDiff, opShr, opBit, hc]; (first | refine hX _ _ ?_ | refine hX ?_ | refine hY ?_); (try clear hX X); try clear hY Y)
      | (refine RunD_nil ?_; refine hK _ _ ?_; clear hK K)
      | (refine RunD_nil ?_)
      | (refine WD_skip ?_)
      | (refine WD_exit ?_)
      | (refine WD_ret ?_)
      | (refine hK.1 _ _ ?_; clear hK K)
      | (refine hK.2.1 _ _ ?_; clear hK K)
      | (refine hK.2 _ _ _ ?hne ?_; (case hne => simp; done); clear hK K)
      | (refine hK.2.2 _ _ _ ?hne ?_; (case hne => simp; done); clear hK K))
    exact done_ret rfl (by simp [hc])
  · repeat (first
      | (refine WD_block (fun K hK => ?_))
      | (refine WD_seq (fun K hK => ?_))
      | (refine WD_region (fun K hK => ?_))
      | ((first | refine RunD_o rfl rfl rfl rfl rfl (fun X hX => ?_) | refine RunD_s rfl rfl rfl rfl (fun X hX => ?_) | refine WD_c rfl (fun X Y hX hY => ?_)); (try dsimp only); simp (disch := first | omega | (simp; done) | fail) [wrap64c, if_pos, if_neg, opAnd, opOr, opXor, opDiff, opShr, opBit, hc]; (first | refine hX _ _ ?_ | refine hX ?_ | refine hY ?_); (try clear hX X); try clear hY Y)
      | (refine RunD_nil ?_; refine hK _ _ ?_; clear hK K)
      | (refine RunD_nil ?_)
      | (refine WD_skip ?_)
      | (refine WD_exit ?_)
      | (refine WD_ret ?_)
      | (refine hK.1 _ _ ?_; clear hK K)
      | (refine hK.2.1 _ _ ?_; clear hK K)
      | (refine hK.2 _ _ _ ?hne ?_; (case hne => simp; done); clear hK K)
      | (refine hK.2.2 _ _ _ ?hne ?_; (case hne => simp; done); clear hK K))
    exact done_ret rfl (by simp [hc])

theorem l1MostN_ok (h : Hp) (a b : Nat) : CallOK Try.prog 112 #[.int .i64 (a : Int), .int .i64 (b : Int)] h (.int .i64 ((max a b : Nat) : Int)) h := by
  have := l1Most_ok h a b
  have e : (if (b : Int) < a then (a : Int) else b) = ((max a b : Nat) : Int) := by split <;> omega
  rw [e] at this; exact this
theorem l1LeastN_ok (h : Hp) (a b : Nat) : CallOK Try.prog 146 #[.int .i64 (a : Int), .int .i64 (b : Int)] h (.int .i64 ((min a b : Nat) : Int)) h := by
  have := l1Least_ok h a b
  have e : (if (a : Int) < b then (a : Int) else b) = ((min a b : Nat) : Int) := by split <;> omega
  rw [e] at this; exact this

theorem asNew_ok (h : Hp) (v : Value) (n : Nat) (xs : List Nat) (hv : Space h v n (toN xs)) (hn : n ≤ 7) : ∃ v' h', CallOK Try.prog 80 #[v] h v' h' ∧ ∃ ot o1 o2 b, v' = .pointer (some ⟨ot, 0, none⟩) ∧ Adds h h' ∧
    (h.next ≤ ot ∧ h.next ≤ o1 ∧ h.next ≤ o2) ∧ TabOK h'.next ot o1 o2 n (2 * n) b xs h' := by
  refine call_L (args := [v]) 16 _ [.tmp 2] Try.func80 rfl rfl rfl ?_
  obtain ⟨b, rfl, hX⟩ := hv
  have nt := hX.nt
  have cs := hX.cs
  obtain ⟨m, hm⟩ : ∃ m, m = 2 * n := ⟨_, rfl⟩
  have hm2 : 2 * (n : Int) = (m : Int) := by omega
  have hb := bit20 (i := m) (by omega)
  repeat (first
    | (refine WD_block (fun K hK => ?_))
    | (refine WD_seq (fun K hK => ?_))
    | (refine WD_region (fun K hK => ?_))
    | ((first | refine RunD_o rfl rfl rfl rfl rfl (fun X hX => ?_) | refine RunD_s rfl rfl rfl rfl (fun X hX => ?_) | refine PreD_o rfl rfl rfl rfl rfl (fun X hX => ?_) | refine WD_c rfl (fun X Y hX hY => ?_)); (try dsimp only); simp (disch := first | omega | (simp; done) | fail) [wrap64c, if_pos, if_neg, opAnd, opOr, opXor, opDiff, opShr, opBit, nt, cs, hm2]; (first | (refine hX _ _ ?hadd ?_; (case hadd => simp; done)) | refine hX _ _ ?_ | refine hX ?_ | refine hY ?_); (try clear hX X); try clear hY Y)
    | (refine RunD_nil ?_; refine hK _ _ ?_; clear hK K)
    | (refine RunD_nil ?_)
    | (refine PreD_nil ?_; refine hK _ _ ?_; clear hK K)
    | (refine WD_skip ?_)
    | (refine WD_exit ?_)
    | (refine WD_ret ?_)
    | (refine hK.1 _ _ ?_; clear hK K)
    | (refine hK.2.1 _ _ ?_; clear hK K)
    | (refine hK.2 _ _ _ ?hne ?_; (case hne => simp; done); clear hK K)
    | (refine hK.2.2 _ _ _ ?hne ?_; (case hne => simp; done); clear hK K))
  refine WD_draw 13 rfl (by kernel_rfl) (fun K hK => ?_)
  repeat (first
    | (refine WD_block (fun K hK => ?_))
    | (refine WD_seq (fun K hK => ?_))
    | (refine WD_region (fun K hK => ?_))
    | ((first | refine RunD_o rfl rfl rfl rfl rfl (fun X hX => ?_) | refine RunD_s rfl rfl rfl rfl (fun X hX => ?_) | refine PreD_o rfl rfl rfl rfl rfl (fun X hX => ?_) | refine WD_c rfl (fun X Y hX hY => ?_)); (try dsimp only); simp (disch := first | omega | (simp; done) | fail) [wrap64c, if_pos, if_neg, opAnd, opOr, opXor, opDiff, opShr, opBit, nt, cs, hm2, (by omega : ((bit m : Nat) : Int) < 140737488355328), (by omega : (8 : Int) * (bit m : Nat) ≤ 281474976710656)]; (first | (refine hX _ _ ?hadd ?_; (case hadd => simp; done)) | refine hX _ _ ?_ | refine hX ?_ | refine hY ?_); (try clear hX X); try clear hY Y)
    | (refine RunD_nil ?_; refine hK _ _ ?_; clear hK K)
    | (refine RunD_nil ?_)
    | (refine PreD_nil ?_; refine hK _ _ ?_; clear hK K)
    | (refine WD_skip ?_)
    | (refine WD_exit ?_)
    | (refine WD_ret ?_)
    | (refine hK.1 _ _ ?_; clear hK K)
    | (refine hK.2.1 _ _ ?_; clear hK K)
    | (refine hK.2 _ _ _ ?hne ?_; (case hne => simp; done); clear hK K)
    | (refine hK.2.2 _ _ _ ?hne ?_; (case hne => simp; done); clear hK K))
  first | refine WD_heap fun h1 q_h1 => ?_ | refine RunD_heap fun h1 q_h1 => ?_ | refine PreD_heap fun h1 q_h1 => ?_ | refine Done_heap fun h1 q_h1 => ?_
  have k1 : Adds h h1 := by rw [q_h1]; exact (by repeat (first | exact keep_self _ | exact adds_self _ | assumption | exact Adds.keeps (by assumption) | refine keeps_alloc ?_ _ | refine adds_alloc ?_ _ _ _ | refine adds_allocM ?_ _ | (refine keeps_put ?_ ?hle _; (case hle => first | omega | (simp; done) | (simp; omega))) | (refine adds_put ?_ ?hle _ _ _; (case hle => first | omega | (simp; done) | (simp; omega)))))
  have hn1 : h1.next = h.next + 4 := by simp [q_h1]
  refine done_ret rfl ⟨h.next + 3, h.next + 1, h.next + 2, b, by simp, k1, ⟨by omega, by omega, by omega⟩, ⟨by omega, by omega, by omega, by omega, by omega, by omega, ?_, ?_, ?_⟩⟩
  · rw [← hm]; simp [q_h1]
  · exact (hX.old.keep k1.1).sub fun q hq => by omega
  · rw [← hm]
    refine ⟨List.replicate (bit m) 0, List.replicate (bit m) 0, by simp, by simp, ?_, ?_, fun i h1 h2 h3 => ?_⟩
    · rw [← cellsN_zero]; simp [q_h1]
    · rw [← cellsN_zero]; simp [q_h1]
    · simp at h3

theorem closed_ok (h : Hp) (base ot o1 o2 n m : Nat) (b : Value) (xs : List Nat) (y z : Nat) (hT : TabOK base ot o1 o2 n m b xs h) (hb : base ≤ h.next) (hn : n ≤ 7) (hx : ∀ x ∈ xs, x < 128) (hl : xs.length ≤ 128) (hy : y < 128) (hz : z < 128) :
    ∃ v' h', CallOK Try.prog 136 #[.pointer (some ⟨ot, 0, none⟩), .int .i64 (y : Int), .int .i64 (z : Int)] h v' h' ∧ Adds h h' ∧
      ∃ u, v' = .tuple #[u, .int .i64 ((inS n (leftN xs y z) : Nat) : Int), .int .i64 ((outS n (leftN xs y z) : Nat) : Int)] ∧ IntsO (Btw h.next h'.next) h' u (toN (leftN xs y z)) := by
  refine call_L (args := [.pointer (some ⟨ot, 0, none⟩), .int .i64 (y : Int), .int .i64 (z : Int)]) 31 _ [.tmp 6, .tmp 7, .tmp 8] Try.func136 rfl rfl rfl ?_
  have htb := hT.tb
  have ht0 := hT.tab
  repeat (first
    | (refine WD_block (fun K hK => ?_))
    | (refine WD_seq (fun K hK => ?_))
    | (refine WD_region (fun K hK => ?_))
    | ((first | refine RunD_o rfl rfl rfl rfl rfl (fun X hX => ?_) | refine RunD_s rfl rfl rfl rfl (fun X hX => ?_) | refine WD_c rfl (fun X Y hX hY => ?_)); (try dsimp only); simp (disch := first | omega | (simp; done) | fail) [wrap64c, if_pos, if_neg, opAnd, opOr, opXor, opDiff, opShr, opBit, ht0]; (first | refine hX _ _ ?_ | refine hX ?_ | refine hY ?_); (try clear hX X); try clear hY Y)
    | (refine RunD_nil ?_; refine hK _ _ ?_; clear hK K)
    | (refine RunD_nil ?_)
    | (refine WD_skip ?_)
    | (refine WD_exit ?_)
    | (refine WD_ret ?_)
    | (refine hK.1 _ _ ?_; clear hK K)
    | (refine hK.2.1 _ _ ?_; clear hK K)
    | (refine hK.2 _ _ _ ?hne ?_; (case hne => simp; done); clear hK K)
    | (refine hK.2.2 _ _ _ ?hne ?_; (case hne => simp; done); clear hK K))
  obtain ⟨v1, h1, hc1, ha1, hi1⟩ := spLeft_ok h (.agg #[.int .i64 (n : Int), b]) n xs y z (.mk hT.ints.ints) hx (by omega) hy hz
  refine RunD_c rfl rfl rfl rfl (by simp) (by simp) ?ha (hc1) ?_
  (case ha => simp (disch := first | omega | (simp; done) | fail) [wrap64c, if_pos, if_neg, opAnd, opOr, opXor, opDiff, opShr, opBit, ht0])
  have hT1 := hT.adds hb ha1
  have ht1 := hT1.tab
  repeat (first
    | (refine WD_block (fun K hK => ?_))
    | (refine WD_seq (fun K hK => ?_))
    | (refine WD_region (fun K hK => ?_))
    | ((first | refine RunD_o rfl rfl rfl rfl rfl (fun X hX => ?_) | refine RunD_s rfl rfl rfl rfl (fun X hX => ?_) | refine WD_c rfl (fun X Y hX hY => ?_)); (try dsimp only); simp (disch := first | omega | (simp; done) | fail) [wrap64c, if_pos, if_neg, opAnd, opOr, opXor, opDiff, opShr, opBit, ht0, ht1]; (first | refine hX _ _ ?_ | refine hX ?_ | refine hY ?_); (try clear hX X); try clear hY Y)
    | (refine RunD_nil ?_; refine hK _ _ ?_; clear hK K)
    | (refine RunD_nil ?_)
    | (refine WD_skip ?_)
    | (refine WD_exit ?_)
    | (refine WD_ret ?_)
    | (refine hK.1 _ _ ?_; clear hK K)
    | (refine hK.2.1 _ _ ?_; clear hK K)
    | (refine hK.2 _ _ _ ?hne ?_; (case hne => simp; done); clear hK K)
    | (refine hK.2.2 _ _ _ ?hne ?_; (case hne => simp; done); clear hK K))
  refine RunD_c rfl rfl rfl rfl (by simp) (by simp) ?ha (asKnown_ok h1 (.agg #[.int .i64 (n : Int), b]) v1 n _ (leftN xs y z) (.mk hT1.ints.ints) hi1.ints hn (fun x hm => hx x (left_sub hm)) (by have := left_len xs y z; omega)) ?_
  (case ha => simp (disch := first | omega | (simp; done) | fail) [wrap64c, if_pos, if_neg, opAnd, opOr, opXor, opDiff, opShr, opBit, ht0, ht1])
  repeat (first
    | (refine WD_block (fun K hK => ?_))
    | (refine WD_seq (fun K hK => ?_))
    | (refine WD_region (fun K hK => ?_))
    | ((first | refine RunD_o rfl rfl rfl rfl rfl (fun X hX => ?_) | refine RunD_s rfl rfl rfl rfl (fun X hX => ?_) | refine WD_c rfl (fun X Y hX hY => ?_)); (try dsimp only); simp (disch := first | omega | (simp; done) | fail) [wrap64c, if_pos, if_neg, opAnd, opOr, opXor, opDiff, opShr, opBit, ht0, ht1]; (first | refine hX _ _ ?_ | refine hX ?_ | refine hY ?_); (try clear hX X); try clear hY Y)
    | (refine RunD_nil ?_; refine hK _ _ ?_; clear hK K)
    | (refine RunD_nil ?_)
    | (refine WD_skip ?_)
    | (refine WD_exit ?_)
    | (refine WD_ret ?_)
    | (refine hK.1 _ _ ?_; clear hK K)
    | (refine hK.2.1 _ _ ?_; clear hK K)
    | (refine hK.2 _ _ _ ?hne ?_; (case hne => simp; done); clear hK K)
    | (refine hK.2.2 _ _ _ ?hne ?_; (case hne => simp; done); clear hK K))
  exact done_ret rfl ⟨ha1, v1, rfl, hi1⟩
end Go.Proofs.Ytpehnhjgdgnnkaa
