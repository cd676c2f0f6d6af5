/- SizesOf, IsFreeSpace, RandomWalk: what both sides hand back. -/
import Derived.Test.YtpehnhjgdgnnkaaS7
namespace Go.Proofs.Ytpehnhjgdgnnkaa
set_option linter.unusedSimpArgs false
set_option linter.unusedVariables false
set_option maxHeartbeats 4000000
open Go Go.Eng
attribute [local irreducible] WD RunD PreD Runs CallOK

def natsOf (X : List Int) : List Nat := X.map Int.toNat
@[simp] theorem natsOf_toN (xs : List Nat) : natsOf (toN xs) = xs := by
  unfold natsOf toN
  rw [List.map_map]
  conv => rhs; rw [← List.map_id xs]
  apply List.map_congr_left
  intro x _
  simp

noncomputable def freeB (N : Int) (X : List Int) : Bool := spB N X && ((X.length : Int) == ((bit N.toNat : Nat) : Int))
theorem specIsFree_ok (h : Hp) (v : Value) (N : Int) (X : List Int) (hv : Space h v N X) (hl : X.length < 2 ^ 40) : CallOK Try.prog 21 #[v] h (.tuple #[.bool (freeB N X), .bool (spB N X)]) h := by
  refine call_P 14 _ [.tmp 2, .tmp 3] Try.func21 rfl rfl rfl (by first | rfl | simp) ?_
  obtain ⟨b, rfl, hX⟩ := hv
  repeat (first
    | (refine WD_block (fun K hK => ?_))
    | (refine WD_seq (fun K hK => ?_)))
  refine WD_region (fun K hK => ?_)
  repeat (first
    | ((first | refine RunD_o rfl rfl rfl rfl rfl (fun X hX => ?_) | refine RunD_s rfl rfl rfl rfl (fun X hX => ?_) | refine PreD_o rfl rfl rfl rfl rfl (fun X hX => ?_) | refine WD_c rfl (fun X Y hX hY => ?_)); (try dsimp only); simp (disch := first | omega | (simp; done) | fail) [wrap64c, if_pos, if_neg, opAnd, opOr, opXor, opDiff, opShr, opBit]; (first | (refine hX _ _ ?hadd ?_; (case hadd => simp; done)) | refine hX _ _ ?_ | refine hX ?_ | refine hY ?_); (try clear hX X); try clear hY Y))
  refine RunD_heap fun h0 q_h0 => ?_
  have g_h0 : h0.get h.next = .cells [.int .i64 N, b] true true 1 := by simp [q_h0]
  have k_h0 : Adds h h0 := by rw [q_h0]; exact (by repeat (first | exact keep_self _ | exact adds_self _ | assumption | exact Adds.keeps (by assumption) | refine keeps_alloc ?_ _ | refine adds_alloc ?_ _ _ _ | refine adds_allocM ?_ _ | (refine keeps_put ?_ ?hle _; (case hle => first | omega | (simp; done) | (simp; omega))) | (refine adds_put ?_ ?hle _ _ _; (case hle => first | omega | (simp; done) | (simp; omega)))))
  have n_h0 : h.next < h0.next := by simp [q_h0]; try omega
  have hX0 := hX.keep k_h0.1
  have hL := hX0.lenD
  have K0 := k_h0.1
  repeat (first
    | (refine WD_block (fun K hK => ?_))
    | (refine WD_seq (fun K hK => ?_))
    | (refine WD_region (fun K hK => ?_))
    | ((first | refine RunD_o rfl rfl rfl rfl rfl (fun X hX => ?_) | refine RunD_s rfl rfl rfl rfl (fun X hX => ?_) | refine PreD_o rfl rfl rfl rfl rfl (fun X hX => ?_) | refine WD_c rfl (fun X Y hX hY => ?_)); (try dsimp only); simp (disch := first | omega | (simp; done) | fail) [wrap64c, if_pos, if_neg, opAnd, opOr, opXor, opDiff, opShr, opBit, g_h0, hL]; (first | (refine hX _ _ ?hadd ?_; (case hadd => simp; done)) | refine hX _ _ ?_ | refine hX ?_ | refine hY ?_); (try clear hX X); try clear hY Y)
    | (refine RunD_nil ?_; refine hK _ _ ?_; clear hK K)
    | (refine RunD_nil ?_)
    | (refine PreD_nil ?_; refine hK _ _ ?_; clear hK K)
    | (refine WD_skip ?_)
    | (refine WD_exit ?_)
    | (refine WD_ret ?_)
    | (refine hK.1 _ _ ?_; clear hK K)
    | (refine hK.2.1 _ _ ?_; clear hK K)
    | (refine hK.2 _ _ _ ?hne ?_; (case hne => simp; done); clear hK K)
    | (refine hK.2.2 _ _ _ ?hne ?_; (case hne => simp; done); clear hK K))
  refine RunD_c rfl rfl rfl rfl (by simp) (by simp) ?ha (spGood_ok h0 (.agg #[.int .i64 N, b]) N X (.mk hX0) hl) ?_
  (case ha => simp (disch := first | omega | (simp; done) | fail) [wrap64c, if_pos, if_neg, opAnd, opOr, opXor, opDiff, opShr, opBit, g_h0, hL])
  cases c1 : spB N X
  · repeat (first
      | (refine WD_block (fun K hK => ?_))
      | (refine WD_seq (fun K hK => ?_))
      | (refine WD_region (fun K hK => ?_))
      | ((first | refine RunD_o rfl rfl rfl rfl rfl (fun X hX => ?_) | refine RunD_s rfl rfl rfl rfl (fun X hX => ?_) | refine PreD_o rfl rfl rfl rfl rfl (fun X hX => ?_) | refine WD_c rfl (fun X Y hX hY => ?_)); (try dsimp only); simp (disch := first | omega | (simp; done) | fail) [wrap64c, if_pos, if_neg, opAnd, opOr, opXor, opDiff, opShr, opBit, g_h0, hL, c1]; (first | (refine hX _ _ ?hadd ?_; (case hadd => simp; done)) | refine hX _ _ ?_ | refine hX ?_ | refine hY ?_); (try clear hX X); try clear hY Y)
      | (refine RunD_nil ?_; refine hK _ _ ?_; clear hK K)
      | (refine RunD_nil ?_)
      | (refine PreD_nil ?_; refine hK _ _ ?_; clear hK K)
      | (refine WD_skip ?_)
      | (refine WD_exit ?_)
      | (refine WD_ret ?_)
      | (refine hK.1 _ _ ?_; clear hK K)
      | (refine hK.2.1 _ _ ?_; clear hK K)
      | (refine hK.2 _ _ _ ?hne ?_; (case hne => simp; done); clear hK K)
      | (refine hK.2.2 _ _ _ ?hne ?_; (case hne => simp; done); clear hK K))
    exact done_ret rfl (by simp [freeB, c1, K0])
  · obtain ⟨n, xs, hN, hXe, g⟩ := spB_true c1
    have hNt : N.toNat = n := by omega
    have n7 := g.n7
    repeat (first
      | (refine WD_block (fun K hK => ?_))
      | (refine WD_seq (fun K hK => ?_))
      | (refine WD_region (fun K hK => ?_))
      | ((first | refine RunD_o rfl rfl rfl rfl rfl (fun X hX => ?_) | refine RunD_s rfl rfl rfl rfl (fun X hX => ?_) | refine PreD_o rfl rfl rfl rfl rfl (fun X hX => ?_) | refine WD_c rfl (fun X Y hX hY => ?_)); (try dsimp only); simp (disch := first | omega | (simp; done) | fail) [wrap64c, if_pos, if_neg, opAnd, opOr, opXor, opDiff, opShr, opBit, g_h0, hL, c1, hNt]; (first | (refine hX _ _ ?hadd ?_; (case hadd => simp; done)) | refine hX _ _ ?_ | refine hX ?_ | refine hY ?_); (try clear hX X); try clear hY Y)
      | (refine RunD_nil ?_; refine hK _ _ ?_; clear hK K)
      | (refine RunD_nil ?_)
      | (refine PreD_nil ?_; refine hK _ _ ?_; clear hK K)
      | (refine WD_skip ?_)
      | (refine WD_exit ?_)
      | (refine WD_ret ?_)
      | (refine hK.1 _ _ ?_; clear hK K)
      | (refine hK.2.1 _ _ ?_; clear hK K)
      | (refine hK.2 _ _ _ ?hne ?_; (case hne => simp; done); clear hK K)
      | (refine hK.2.2 _ _ _ ?hne ?_; (case hne => simp; done); clear hK K))
    refine WD_draw 6 rfl (by kernel_rfl) (fun K hK => ?_)
    repeat (first
      | (refine WD_block (fun K hK => ?_))
      | (refine WD_seq (fun K hK => ?_))
      | (refine WD_region (fun K hK => ?_))
      | ((first | refine RunD_o rfl rfl rfl rfl rfl (fun X hX => ?_) | refine RunD_s rfl rfl rfl rfl (fun X hX => ?_) | refine PreD_o rfl rfl rfl rfl rfl (fun X hX => ?_) | refine WD_c rfl (fun X Y hX hY => ?_)); (try dsimp only); simp (disch := first | omega | (simp; done) | fail) [wrap64c, if_pos, if_neg, opAnd, opOr, opXor, opDiff, opShr, opBit, g_h0, hL, c1, hNt]; (first | (refine hX _ _ ?hadd ?_; (case hadd => simp; done)) | refine hX _ _ ?_ | refine hX ?_ | refine hY ?_); (try clear hX X); try clear hY Y)
      | (refine RunD_nil ?_; refine hK _ _ ?_; clear hK K)
      | (refine RunD_nil ?_)
      | (refine PreD_nil ?_; refine hK _ _ ?_; clear hK K)
      | (refine WD_skip ?_)
      | (refine WD_exit ?_)
      | (refine WD_ret ?_)
      | (refine hK.1 _ _ ?_; clear hK K)
      | (refine hK.2.1 _ _ ?_; clear hK K)
      | (refine hK.2 _ _ _ ?hne ?_; (case hne => simp; done); clear hK K)
      | (refine hK.2.2 _ _ _ ?hne ?_; (case hne => simp; done); clear hK K))
    exact done_ret rfl (by simp [freeB, c1, K0, hNt])
theorem implIsFree_ok (h : Hp) (v : Value) (N : Int) (X : List Int) (hv : Space h v N X) (hl : X.length < 2 ^ 40) : CallOK Try.prog 23 #[v] h (.tuple #[.bool (freeB N X), .bool (spB N X)]) h := by
  refine call_P 14 _ [.tmp 2, .tmp 3] Try.func23 rfl rfl rfl (by first | rfl | simp) ?_
  obtain ⟨b, rfl, hX⟩ := hv
  repeat (first
    | (refine WD_block (fun K hK => ?_))
    | (refine WD_seq (fun K hK => ?_)))
  refine WD_region (fun K hK => ?_)
  repeat (first
    | ((first | refine RunD_o rfl rfl rfl rfl rfl (fun X hX => ?_) | refine RunD_s rfl rfl rfl rfl (fun X hX => ?_) | refine PreD_o rfl rfl rfl rfl rfl (fun X hX => ?_) | refine WD_c rfl (fun X Y hX hY => ?_)); (try dsimp only); simp (disch := first | omega | (simp; done) | fail) [wrap64c, if_pos, if_neg, opAnd, opOr, opXor, opDiff, opShr, opBit]; (first | (refine hX _ _ ?hadd ?_; (case hadd => simp; done)) | refine hX _ _ ?_ | refine hX ?_ | refine hY ?_); (try clear hX X); try clear hY Y))
  refine RunD_heap fun h0 q_h0 => ?_
  have g_h0 : h0.get h.next = .cells [.int .i64 N, b] true true 1 := by simp [q_h0]
  have k_h0 : Adds h h0 := by rw [q_h0]; exact (by repeat (first | exact keep_self _ | exact adds_self _ | assumption | exact Adds.keeps (by assumption) | refine keeps_alloc ?_ _ | refine adds_alloc ?_ _ _ _ | refine adds_allocM ?_ _ | (refine keeps_put ?_ ?hle _; (case hle => first | omega | (simp; done) | (simp; omega))) | (refine adds_put ?_ ?hle _ _ _; (case hle => first | omega | (simp; done) | (simp; omega)))))
  have n_h0 : h.next < h0.next := by simp [q_h0]; try omega
  have hX0 := hX.keep k_h0.1
  have hL := hX0.lenD
  have K0 := k_h0.1
  repeat (first
    | (refine WD_block (fun K hK => ?_))
    | (refine WD_seq (fun K hK => ?_))
    | (refine WD_region (fun K hK => ?_))
    | ((first | refine RunD_o rfl rfl rfl rfl rfl (fun X hX => ?_) | refine RunD_s rfl rfl rfl rfl (fun X hX => ?_) | refine PreD_o rfl rfl rfl rfl rfl (fun X hX => ?_) | refine WD_c rfl (fun X Y hX hY => ?_)); (try dsimp only); simp (disch := first | omega | (simp; done) | fail) [wrap64c, if_pos, if_neg, opAnd, opOr, opXor, opDiff, opShr, opBit, g_h0, hL]; (first | (refine hX _ _ ?hadd ?_; (case hadd => simp; done)) | refine hX _ _ ?_ | refine hX ?_ | refine hY ?_); (try clear hX X); try clear hY Y)
    | (refine RunD_nil ?_; refine hK _ _ ?_; clear hK K)
    | (refine RunD_nil ?_)
    | (refine PreD_nil ?_; refine hK _ _ ?_; clear hK K)
    | (refine WD_skip ?_)
    | (refine WD_exit ?_)
    | (refine WD_ret ?_)
    | (refine hK.1 _ _ ?_; clear hK K)
    | (refine hK.2.1 _ _ ?_; clear hK K)
    | (refine hK.2 _ _ _ ?hne ?_; (case hne => simp; done); clear hK K)
    | (refine hK.2.2 _ _ _ ?hne ?_; (case hne => simp; done); clear hK K))
  refine RunD_c rfl rfl rfl rfl (by simp) (by simp) ?ha (isSpace_ok h0 (.agg #[.int .i64 N, b]) N X (.mk hX0) hl) ?_
  (case ha => simp (disch := first | omega | (simp; done) | fail) [wrap64c, if_pos, if_neg, opAnd, opOr, opXor, opDiff, opShr, opBit, g_h0, hL])
  cases c1 : spB N X
  · repeat (first
      | (refine WD_block (fun K hK => ?_))
      | (refine WD_seq (fun K hK => ?_))
      | (refine WD_region (fun K hK => ?_))
      | ((first | refine RunD_o rfl rfl rfl rfl rfl (fun X hX => ?_) | refine RunD_s rfl rfl rfl rfl (fun X hX => ?_) | refine PreD_o rfl rfl rfl rfl rfl (fun X hX => ?_) | refine WD_c rfl (fun X Y hX hY => ?_)); (try dsimp only); simp (disch := first | omega | (simp; done) | fail) [wrap64c, if_pos, if_neg, opAnd, opOr, opXor, opDiff, opShr, opBit, g_h0, hL, c1]; (first | (refine hX _ _ ?hadd ?_; (case hadd => simp; done)) | refine hX _ _ ?_ | refine hX ?_ | refine hY ?_); (try clear hX X); try clear hY Y)
      | (refine RunD_nil ?_; refine hK _ _ ?_; clear hK K)
      | (refine RunD_nil ?_)
      | (refine PreD_nil ?_; refine hK _ _ ?_; clear hK K)
      | (refine WD_skip ?_)
      | (refine WD_exit ?_)
      | (refine WD_ret ?_)
      | (refine hK.1 _ _ ?_; clear hK K)
      | (refine hK.2.1 _ _ ?_; clear hK K)
      | (refine hK.2 _ _ _ ?hne ?_; (case hne => simp; done); clear hK K)
      | (refine hK.2.2 _ _ _ ?hne ?_; (case hne => simp; done); clear hK K))
    exact done_ret rfl (by simp [freeB, c1, K0])
  · obtain ⟨n, xs, hN, hXe, g⟩ := spB_true c1
    have hNt : N.toNat = n := by omega
    have n7 := g.n7
    repeat (first
      | (refine WD_block (fun K hK => ?_))
      | (refine WD_seq (fun K hK => ?_))
      | (refine WD_region (fun K hK => ?_))
      | ((first | refine RunD_o rfl rfl rfl rfl rfl (fun X hX => ?_) | refine RunD_s rfl rfl rfl rfl (fun X hX => ?_) | refine PreD_o rfl rfl rfl rfl rfl (fun X hX => ?_) | refine WD_c rfl (fun X Y hX hY => ?_)); (try dsimp only); simp (disch := first | omega | (simp; done) | fail) [wrap64c, if_pos, if_neg, opAnd, opOr, opXor, opDiff, opShr, opBit, g_h0, hL, c1, hNt]; (first | (refine hX _ _ ?hadd ?_; (case hadd => simp; done)) | refine hX _ _ ?_ | refine hX ?_ | refine hY ?_); (try clear hX X); try clear hY Y)
      | (refine RunD_nil ?_; refine hK _ _ ?_; clear hK K)
      | (refine RunD_nil ?_)
      | (refine PreD_nil ?_; refine hK _ _ ?_; clear hK K)
      | (refine WD_skip ?_)
      | (refine WD_exit ?_)
      | (refine WD_ret ?_)
      | (refine hK.1 _ _ ?_; clear hK K)
      | (refine hK.2.1 _ _ ?_; clear hK K)
      | (refine hK.2 _ _ _ ?hne ?_; (case hne => simp; done); clear hK K)
      | (refine hK.2.2 _ _ _ ?hne ?_; (case hne => simp; done); clear hK K))
    refine WD_draw 6 rfl (by kernel_rfl) (fun K hK => ?_)
    repeat (first
      | (refine WD_block (fun K hK => ?_))
      | (refine WD_seq (fun K hK => ?_))
      | (refine WD_region (fun K hK => ?_))
      | ((first | refine RunD_o rfl rfl rfl rfl rfl (fun X hX => ?_) | refine RunD_s rfl rfl rfl rfl (fun X hX => ?_) | refine PreD_o rfl rfl rfl rfl rfl (fun X hX => ?_) | refine WD_c rfl (fun X Y hX hY => ?_)); (try dsimp only); simp (disch := first | omega | (simp; done) | fail) [wrap64c, if_pos, if_neg, opAnd, opOr, opXor, opDiff, opShr, opBit, g_h0, hL, c1, hNt]; (first | (refine hX _ _ ?hadd ?_; (case hadd => simp; done)) | refine hX _ _ ?_ | refine hX ?_ | refine hY ?_); (try clear hX X); try clear hY Y)
      | (refine RunD_nil ?_; refine hK _ _ ?_; clear hK K)
      | (refine RunD_nil ?_)
      | (refine PreD_nil ?_; refine hK _ _ ?_; clear hK K)
      | (refine WD_skip ?_)
      | (refine WD_exit ?_)
      | (refine WD_ret ?_)
      | (refine hK.1 _ _ ?_; clear hK K)
      | (refine hK.2.1 _ _ ?_; clear hK K)
      | (refine hK.2 _ _ _ ?hne ?_; (case hne => simp; done); clear hK K)
      | (refine hK.2.2 _ _ _ ?hne ?_; (case hne => simp; done); clear hK K))
    exact done_ret rfl (by simp [freeB, c1, K0, hNt])

theorem toN_set (l : List Nat) (i x : Nat) : (toN l).set i ((x : Int)) = toN (l.set i x) := by simp [toN, List.map_set]
theorem toN_map (l : List Nat) : (toN l).map (Value.int .i64) = l.map fun (n : Nat) => Value.int .i64 (n : Int) := by simp [toN]
theorem sizes_zero (n : Nat) : List.replicate (n + 1) (Value.int .i64 0) = (toN (sizesN n [])).map (Value.int .i64) := by
  rw [toN_map]
  apply List.ext_getElem (by simp)
  intro i h1 h2
  simp [sizesN_get]
theorem sizes_step {n : Nat} {xs : List Nat} {j : Nat} (hj : j < xs.length) (hp : pcN xs[j] ≤ n) (y : Nat) (hy : (sizesN n (xs.take j))[pcN xs[j]]'(by simp; omega) = y) :
    (toN (sizesN n (xs.take j))).set (pcN xs[j]) ((y : Int) + 1) = toN (sizesN n (xs.take (j + 1))) := by
  rw [List.take_succ_eq_append_getElem hj, sizesN_snoc _ _ _ hp, ← toN_set, hy]
  push_cast; rfl

noncomputable def sizesR (N : Int) (X : List Int) : List Int := if spB N X = true then toN (sizesN N.toNat (natsOf X)) else []
theorem sizesR_len (N : Int) (X : List Int) : (sizesR N X).length ≤ 8 := by
  unfold sizesR
  split
  · rename_i h
    obtain ⟨n, xs, rfl, rfl, g⟩ := spB_true h
    have := g.n7
    simp; omega
  · simp

/-- The cells of sizes: one of them, and one more. -/
def sizesC (n : Nat) (xs : List Nat) : List Value := (toN (sizesN n xs)).map (.int .i64)
@[simp] theorem sizesC_length (n : Nat) (xs : List Nat) : (sizesC n xs).length = n + 1 := by simp [sizesC]
theorem sizesC_zero (n : Nat) : List.replicate (n + 1) (Value.int .i64 0) = sizesC n [] := sizes_zero n
theorem sizesC_step {n : Nat} {xs : List Nat} {j : Nat} (hj : j < xs.length) (hp : pcN xs[j] ≤ n) : ∃ y : Nat, y ≤ xs.length ∧ (sizesC n (xs.take j))[pcN xs[j]]?.getD undef = .int .i64 (y : Int) ∧ (∀ (hh : pcN xs[j] < (sizesC n (xs.take j)).length), (sizesC n (xs.take j))[pcN xs[j]] = .int .i64 (y : Int)) ∧
    (sizesC n (xs.take j)).set (pcN xs[j]) (.int .i64 ((y : Int) + 1)) = sizesC n (xs.take (j + 1)) := by
  have hk : pcN xs[j] < (sizesN n (xs.take j)).length := by simp; omega
  have h1 : ∀ (hh : pcN xs[j] < (sizesC n (xs.take j)).length), (sizesC n (xs.take j))[pcN xs[j]] = .int .i64 (((sizesN n (xs.take j))[pcN xs[j]] : Nat) : Int) := fun hh => by
    simp only [sizesC, List.getElem_map, toN_get]
  refine ⟨(sizesN n (xs.take j))[pcN xs[j]], ?_, ?_, h1, ?_⟩
  · have := sizesN_le n (xs.take j) _ hk
    have h2 : (xs.take j).length ≤ xs.length := by simp; omega
    omega
  · rw [List.getElem?_eq_getElem (by simpa using hk), h1]; rfl
  · rw [sizesC, sizesC, ← sizes_step hj hp _ rfl, List.map_set]

theorem bySize_ok (h : Hp) (v : Value) (n : Nat) (xs : List Nat) (hv : Ints h v (toN xs)) (hn : n ≤ 7) (hl : xs.length < 2 ^ 40) (hx : ∀ x ∈ xs, x < bit n) :
    ∃ v' h', CallOK Try.prog 62 #[.int .i64 (n : Int), v] h v' h' ∧ Adds h h' ∧ IntsO (Btw h.next h'.next) h' v' (toN (sizesN n xs)) := by
  refine call_L (args := [.int .i64 (n : Int), v]) 26 _ [.tmp 4] Try.func62 rfl rfl rfl ?_
  have hL := hv.lenD
  have hgt := toN_get xs
  have hln := toN_length xs
  have hb7 := bit7 hn
  repeat (first
    | (refine WD_block (fun K hK => ?_))
    | (refine WD_seq (fun K hK => ?_))
    | (refine WD_region (fun K hK => ?_))
    | ((first | refine RunD_o rfl rfl rfl rfl rfl (fun X hX => ?_) | refine RunD_s rfl rfl rfl rfl (fun X hX => ?_) | refine WD_c rfl (fun X Y hX hY => ?_)); (try dsimp only); simp (disch := first | omega | (simp; done) | fail) [wrap64c, if_pos, if_neg, opAnd, opOr, opXor, opDiff, opShr, opBit, hL, hgt]; (first | refine hX _ _ ?_ | refine hX ?_ | refine hY ?_); (try clear hX X); try clear hY Y)
    | (refine RunD_nil ?_; refine hK _ _ ?_; clear hK K)
    | (refine RunD_nil ?_)
    | (refine WD_skip ?_)
    | (refine WD_exit ?_)
    | (refine WD_ret ?_)
    | (refine hK.1 _ _ ?_; clear hK K)
    | (refine hK.2.1 _ _ ?_; clear hK K)
    | (refine hK.2 _ _ _ ?hne ?_; (case hne => simp; done); clear hK K)
    | (refine hK.2.2 _ _ _ ?hne ?_; (case hne => simp; done); clear hK K))
  refine WD_loopF [5, 11, 12] (fun m tm h' => ∃ j, m = xs.length - j ∧ tm 13 = .int .i64 (j : Int) ∧ (j ≤ xs.length) ∧ (Adds h h') ∧ (h'.next = h.next + 1) ∧ (h'.get h.next = .cells (sizesC n (xs.take j)) true true 1)) _ ⟨0, rfl, (by simp (disch := first | omega | (simp; done) | fail) [wrap64c, if_pos, if_neg, opAnd, opOr, opXor, opDiff, opShr, opBit, hL, hgt]), (by first | omega | assumption | (simp (disch := first | omega | (simp; done) | fail) [wrap64c, if_pos, if_neg, opAnd, opOr, opXor, opDiff, opShr, opBit, hL, hgt] <;> omega)), (by repeat (first | exact keep_self _ | exact adds_self _ | assumption | exact Adds.keeps (by assumption) | refine keeps_alloc ?_ _ | refine adds_alloc ?_ _ _ _ | refine adds_allocM ?_ _ | (refine keeps_put ?_ ?hle _; (case hle => first | omega | (simp; done) | (simp; omega))) | (refine adds_put ?_ ?hle _ _ _; (case hle => first | omega | (simp; done) | (simp; omega))))), (by simp), (by simp [← sizesC_zero])⟩ ?_
  rintro m tm h' hFr ⟨j, rfl, e13, hj, ha, hn1, hg⟩ K hK
  simp only [FrameL] at hFr
  obtain ⟨f5_0, f11_0, f12_0, -⟩ := hFr
  try simp (disch := first | omega | (simp; done) | fail) [wrap64c, if_pos, if_neg, opAnd, opOr, opXor, opDiff, opShr, opBit, hL, hgt] at f5_0 f11_0 f12_0
  have e5 := f5_0
  have e11 := f11_0
  have e12 := f12_0
  by_cases hlt : j < xs.length
  · have hxj := hx _ (List.getElem_mem hlt)
    have hp := (pcN_lt hn hxj).1
    obtain ⟨o_x, i_x, c_x, cs_x, own_x, ex_x, es_x, q_x, b_x, g_x, l_x, r_x⟩ := (hv.keep ha.1).open ((by omega))
    have z_x : ∀ h2 : i_x < cs_x.length, cs_x[i_x] = _ := fun h2 => r_x 0 ((by omega)) h2
    obtain ⟨y, hy1, hy2, hy3, hy4⟩ := sizesC_step hlt hp
    repeat (first
      | (refine WD_block (fun K hK => ?_))
      | (refine WD_seq (fun K hK => ?_))
      | (refine WD_region (fun K hK => ?_))
      | ((first | refine RunD_o rfl rfl rfl rfl rfl (fun X hX => ?_) | refine RunD_s rfl rfl rfl rfl (fun X hX => ?_) | refine WD_c rfl (fun X Y hX hY => ?_)); (try dsimp only); simp (disch := first | omega | (simp; done) | fail) [wrap64c, if_pos, if_neg, opAnd, opOr, opXor, opDiff, opShr, opBit, hL, hgt, e5, e11, e12, e13, hg, hlt, q_x, g_x, l_x, r_x, z_x, hy2, hy3]; (first | refine hX _ _ ?_ | refine hX ?_ | refine hY ?_); (try clear hX X); try clear hY Y)
      | (refine RunD_nil ?_; refine hK _ _ ?_; clear hK K)
      | (refine RunD_nil ?_)
      | (refine WD_skip ?_)
      | (refine WD_exit ?_)
      | (refine WD_ret ?_)
      | (refine hK.1 _ _ ?_; clear hK K)
      | (refine hK.2.1 _ _ ?_; clear hK K)
      | (refine hK.2 _ _ _ ?hne ?_; (case hne => simp; done); clear hK K)
      | (refine hK.2.2 _ _ _ ?hne ?_; (case hne => simp; done); clear hK K))
    refine RunD_c rfl rfl rfl rfl (by simp) (by simp) ?ha (count_ok h' xs[j] (by omega)) ?_
    (case ha => simp (disch := first | omega | (simp; done) | fail) [wrap64c, if_pos, if_neg, opAnd, opOr, opXor, opDiff, opShr, opBit, hL, hgt, e5, e11, e12, e13, hg, hlt, q_x, g_x, l_x, r_x, z_x, hy2, hy3])
    repeat (first
      | (refine WD_block (fun K hK => ?_))
      | (refine WD_seq (fun K hK => ?_))
      | (refine WD_region (fun K hK => ?_))
      | ((first | refine RunD_o rfl rfl rfl rfl rfl (fun X hX => ?_) | refine RunD_s rfl rfl rfl rfl (fun X hX => ?_) | refine WD_c rfl (fun X Y hX hY => ?_)); (try dsimp only); simp (disch := first | omega | (simp; done) | fail) [wrap64c, if_pos, if_neg, opAnd, opOr, opXor, opDiff, opShr, opBit, hL, hgt, e5, e11, e12, e13, hg, hlt, q_x, g_x, l_x, r_x, z_x, hy2, hy3]; (first | refine hX _ _ ?_ | refine hX ?_ | refine hY ?_); (try clear hX X); try clear hY Y)
      | (refine RunD_nil ?_; refine hK _ _ ?_; clear hK K)
      | (refine RunD_nil ?_)
      | (refine WD_skip ?_)
      | (refine WD_exit ?_)
      | (refine WD_ret ?_)
      | (refine hK.1 _ _ ?_; clear hK K)
      | (refine hK.2.1 _ _ ?_; clear hK K)
      | (refine hK.2 _ _ _ ?hne ?_; (case hne => simp; done); clear hK K)
      | (refine hK.2.2 _ _ _ ?hne ?_; (case hne => simp; done); clear hK K))
    refine hK.1 _ _ _ ?hm ?hf ⟨j + 1, rfl, (by simp (disch := first | omega | (simp; done) | fail) [wrap64c, if_pos, if_neg, opAnd, opOr, opXor, opDiff, opShr, opBit, hL, hgt, e5, e11, e12, e13, hg, hlt, q_x, g_x, l_x, r_x, z_x, hy2, hy3] <;> omega), (by first | omega | assumption | (simp (disch := first | omega | (simp; done) | fail) [wrap64c, if_pos, if_neg, opAnd, opOr, opXor, opDiff, opShr, opBit, hL, hgt, e5, e11, e12, e13, hg, hlt, q_x, g_x, l_x, r_x, z_x, hy2, hy3] <;> omega)), (by repeat (first | exact keep_self _ | exact adds_self _ | assumption | exact Adds.keeps (by assumption) | refine keeps_alloc ?_ _ | refine adds_alloc ?_ _ _ _ | refine adds_allocM ?_ _ | (refine keeps_put ?_ ?hle _; (case hle => first | omega | (simp; done) | (simp; omega))) | (refine adds_put ?_ ?hle _ _ _; (case hle => first | omega | (simp; done) | (simp; omega))))), (by simpa using hn1), (by rw [← hy4]; simp [putCells_one, show pcN xs[j] < n + 1 by omega])⟩
    (case hm => first | omega | (simp; omega))
    (case hf => simp [FrameL, hL, hgt, e5, e11, e12, e13, hg, hlt, q_x, g_x, l_x, r_x, z_x, hy2, hy3, f5_0, f11_0, f12_0])
  · repeat (first
      | (refine WD_block (fun K hK => ?_))
      | (refine WD_seq (fun K hK => ?_))
      | (refine WD_region (fun K hK => ?_))
      | ((first | refine RunD_o rfl rfl rfl rfl rfl (fun X hX => ?_) | refine RunD_s rfl rfl rfl rfl (fun X hX => ?_) | refine WD_c rfl (fun X Y hX hY => ?_)); (try dsimp only); simp (disch := first | omega | (simp; done) | fail) [wrap64c, if_pos, if_neg, opAnd, opOr, opXor, opDiff, opShr, opBit, hL, hgt, e5, e11, e12, e13, hg, hlt]; (first | refine hX _ _ ?_ | refine hX ?_ | refine hY ?_); (try clear hX X); try clear hY Y)
      | (refine RunD_nil ?_; refine hK _ _ ?_; clear hK K)
      | (refine RunD_nil ?_)
      | (refine WD_skip ?_)
      | (refine WD_exit ?_)
      | (refine WD_ret ?_)
      | (refine hK.1 _ _ ?_; clear hK K)
      | (refine hK.2.1 _ _ ?_; clear hK K)
      | (refine hK.2 _ _ _ ?hne ?_; (case hne => simp; done); clear hK K)
      | (refine hK.2.2 _ _ _ ?hne ?_; (case hne => simp; done); clear hK K))
    rw [List.take_of_length_le (by omega)] at hg
    refine done_ret rfl ⟨ha, ?_⟩
    have := IntsO.mk (S := Btw h.next h'.next) (h := h') (o := h.next) (xs := toN (sizesN n xs)) (ex := true) ⟨Nat.le_refl _, by omega⟩ (by omega) (by simp; omega) hg
    simpa using this

theorem specSizes_ok (h : Hp) (v : Value) (N : Int) (X : List Int) (hv : Space h v N X) (hl : X.length < 2 ^ 40) :
    ∃ v' h', CallOK Try.prog 29 #[v] h v' h' ∧ Adds h h' ∧ ∃ u, v' = .tuple #[u, .bool (spB N X)] ∧ IntsO (Btw h.next h'.next) h' u (sizesR N X) := by
  refine call_L (args := [v]) 30 _ [.tmp 2, .tmp 3] Try.func29 rfl rfl rfl ?_
  obtain ⟨b, rfl, hX⟩ := hv
  repeat (first
    | (refine WD_block (fun K hK => ?_))
    | (refine WD_seq (fun K hK => ?_)))
  refine WD_region (fun K hK => ?_)
  repeat (first
    | ((first | refine RunD_o rfl rfl rfl rfl rfl (fun X hX => ?_) | refine RunD_s rfl rfl rfl rfl (fun X hX => ?_) | refine WD_c rfl (fun X Y hX hY => ?_)); (try dsimp only); simp (disch := first | omega | (simp; done) | fail) [wrap64c, if_pos, if_neg, opAnd, opOr, opXor, opDiff, opShr, opBit]; (first | refine hX _ _ ?_ | refine hX ?_ | refine hY ?_); (try clear hX X); try clear hY Y))
  refine RunD_heap fun h0 q_h0 => ?_
  have g_h0 : h0.get h.next = .cells [.int .i64 N, b] true true 1 := by simp [q_h0]
  have k_h0 : Adds h h0 := by rw [q_h0]; exact (by repeat (first | exact keep_self _ | exact adds_self _ | assumption | exact Adds.keeps (by assumption) | refine keeps_alloc ?_ _ | refine adds_alloc ?_ _ _ _ | refine adds_allocM ?_ _ | (refine keeps_put ?_ ?hle _; (case hle => first | omega | (simp; done) | (simp; omega))) | (refine adds_put ?_ ?hle _ _ _; (case hle => first | omega | (simp; done) | (simp; omega)))))
  have n_h0 : h.next < h0.next := by simp [q_h0]; try omega
  have hX0 := hX.keep k_h0.1
  have hL := hX0.lenD
  have K0 := k_h0.1
  repeat (first
    | (refine WD_block (fun K hK => ?_))
    | (refine WD_seq (fun K hK => ?_))
    | (refine WD_region (fun K hK => ?_))
    | ((first | refine RunD_o rfl rfl rfl rfl rfl (fun X hX => ?_) | refine RunD_s rfl rfl rfl rfl (fun X hX => ?_) | refine WD_c rfl (fun X Y hX hY => ?_)); (try dsimp only); simp (disch := first | omega | (simp; done) | fail) [wrap64c, if_pos, if_neg, opAnd, opOr, opXor, opDiff, opShr, opBit, g_h0, hL]; (first | refine hX _ _ ?_ | refine hX ?_ | refine hY ?_); (try clear hX X); try clear hY Y)
    | (refine RunD_nil ?_; refine hK _ _ ?_; clear hK K)
    | (refine RunD_nil ?_)
    | (refine WD_skip ?_)
    | (refine WD_exit ?_)
    | (refine WD_ret ?_)
    | (refine hK.1 _ _ ?_; clear hK K)
    | (refine hK.2.1 _ _ ?_; clear hK K)
    | (refine hK.2 _ _ _ ?hne ?_; (case hne => simp; done); clear hK K)
    | (refine hK.2.2 _ _ _ ?hne ?_; (case hne => simp; done); clear hK K))
  refine RunD_c rfl rfl rfl rfl (by simp) (by simp) ?ha (spGood_ok h0 (.agg #[.int .i64 N, b]) N X (.mk hX0) hl) ?_
  (case ha => simp (disch := first | omega | (simp; done) | fail) [wrap64c, if_pos, if_neg, opAnd, opOr, opXor, opDiff, opShr, opBit, g_h0, hL])
  cases c1 : spB N X
  · repeat (first
      | (refine WD_block (fun K hK => ?_))
      | (refine WD_seq (fun K hK => ?_))
      | (refine WD_region (fun K hK => ?_))
      | ((first | refine RunD_o rfl rfl rfl rfl rfl (fun X hX => ?_) | refine RunD_s rfl rfl rfl rfl (fun X hX => ?_) | refine WD_c rfl (fun X Y hX hY => ?_)); (try dsimp only); simp (disch := first | omega | (simp; done) | fail) [wrap64c, if_pos, if_neg, opAnd, opOr, opXor, opDiff, opShr, opBit, g_h0, hL, c1]; (first | refine hX _ _ ?_ | refine hX ?_ | refine hY ?_); (try clear hX X); try clear hY Y)
      | (refine RunD_nil ?_; refine hK _ _ ?_; clear hK K)
      | (refine RunD_nil ?_)
      | (refine WD_skip ?_)
      | (refine WD_exit ?_)
      | (refine WD_ret ?_)
      | (refine hK.1 _ _ ?_; clear hK K)
      | (refine hK.2.1 _ _ ?_; clear hK K)
      | (refine hK.2 _ _ _ ?hne ?_; (case hne => simp; done); clear hK K)
      | (refine hK.2.2 _ _ _ ?hne ?_; (case hne => simp; done); clear hK K))
    refine done_ret rfl ⟨k_h0, _, by simp [c1]; rfl, ?_⟩
    rw [sizesR, if_neg (by simp [c1])]
    exact .nil _ _
  · obtain ⟨n, xs, hN, hXe, g⟩ := spB_true c1
    have hNt : N = (n : Int) := hN
    have hX1 : Ints h0 b (toN xs) := hXe ▸ hX0
    have hgt := toN_get xs
    have hln := toN_length xs
    have hXl : X.length = xs.length := by rw [hXe, toN_length]
    have n7 := g.n7
    have hb7 := bit7 n7
    repeat (first
      | (refine WD_block (fun K hK => ?_))
      | (refine WD_seq (fun K hK => ?_))
      | (refine WD_region (fun K hK => ?_))
      | ((first | refine RunD_o rfl rfl rfl rfl rfl (fun X hX => ?_) | refine RunD_s rfl rfl rfl rfl (fun X hX => ?_) | refine WD_c rfl (fun X Y hX hY => ?_)); (try dsimp only); simp (disch := first | omega | (simp; done) | fail) [wrap64c, if_pos, if_neg, opAnd, opOr, opXor, opDiff, opShr, opBit, g_h0, hL, c1, hNt, hgt, hXl]; (first | refine hX _ _ ?_ | refine hX ?_ | refine hY ?_); (try clear hX X); try clear hY Y)
      | (refine RunD_nil ?_; refine hK _ _ ?_; clear hK K)
      | (refine RunD_nil ?_)
      | (refine WD_skip ?_)
      | (refine WD_exit ?_)
      | (refine WD_ret ?_)
      | (refine hK.1 _ _ ?_; clear hK K)
      | (refine hK.2.1 _ _ ?_; clear hK K)
      | (refine hK.2 _ _ _ ?hne ?_; (case hne => simp; done); clear hK K)
      | (refine hK.2.2 _ _ _ ?hne ?_; (case hne => simp; done); clear hK K))
    refine WD_loopF [4, 15, 16] (fun m tm h' => ∃ j, m = xs.length - j ∧ tm 17 = .int .i64 (j : Int) ∧ (j ≤ xs.length) ∧ (Adds h h') ∧ (Keeps h0 h') ∧ (h'.next = h0.next + 1) ∧ (h'.get h0.next = .cells (sizesC n (xs.take j)) true true 1)) _ ⟨0, rfl, (by simp (disch := first | omega | (simp; done) | fail) [wrap64c, if_pos, if_neg, opAnd, opOr, opXor, opDiff, opShr, opBit, g_h0, hL, c1, hNt, hgt, hXl]), (by first | omega | assumption | (simp (disch := first | omega | (simp; done) | fail) [wrap64c, if_pos, if_neg, opAnd, opOr, opXor, opDiff, opShr, opBit, g_h0, hL, c1, hNt, hgt, hXl] <;> omega)), (by repeat (first | exact keep_self _ | exact adds_self _ | assumption | exact Adds.keeps (by assumption) | refine keeps_alloc ?_ _ | refine adds_alloc ?_ _ _ _ | refine adds_allocM ?_ _ | (refine keeps_put ?_ ?hle _; (case hle => first | omega | (simp; done) | (simp; omega))) | (refine adds_put ?_ ?hle _ _ _; (case hle => first | omega | (simp; done) | (simp; omega))))), (by simp), (by simp), (by simp [← sizesC_zero])⟩ ?_
    rintro m tm h' hFr ⟨j, rfl, e17, hj, ha, ha0, hn1, hg⟩ K hK
    simp only [FrameL] at hFr
    obtain ⟨f4_0, f15_0, f16_0, -⟩ := hFr
    try simp (disch := first | omega | (simp; done) | fail) [wrap64c, if_pos, if_neg, opAnd, opOr, opXor, opDiff, opShr, opBit, g_h0, hL, c1, hNt, hgt, hXl] at f4_0 f15_0 f16_0
    have e4 := f4_0
    have e15 := f15_0
    have e16 := f16_0
    by_cases hlt : j < xs.length
    · have hxj := g.lt _ (List.getElem_mem hlt)
      have hp := (pcN_lt n7 hxj).1
      obtain ⟨o_x, i_x, c_x, cs_x, own_x, ex_x, es_x, q_x, b_x, g_x, l_x, r_x⟩ := (hX1.keep ha0).open ((by omega))
      have z_x : ∀ h2 : i_x < cs_x.length, cs_x[i_x] = _ := fun h2 => r_x 0 ((by omega)) h2
      obtain ⟨y, hy1, hy2, hy3, hy4⟩ := sizesC_step hlt hp
      repeat (first
        | (refine WD_block (fun K hK => ?_))
        | (refine WD_seq (fun K hK => ?_))
        | (refine WD_region (fun K hK => ?_))
        | ((first | refine RunD_o rfl rfl rfl rfl rfl (fun X hX => ?_) | refine RunD_s rfl rfl rfl rfl (fun X hX => ?_) | refine WD_c rfl (fun X Y hX hY => ?_)); (try dsimp only); simp (disch := first | omega | (simp; done) | fail) [wrap64c, if_pos, if_neg, opAnd, opOr, opXor, opDiff, opShr, opBit, g_h0, hL, c1, hNt, hgt, hXl, e4, e15, e16, e17, hg, hlt, q_x, g_x, l_x, r_x, z_x, hy2, hy3]; (first | refine hX _ _ ?_ | refine hX ?_ | refine hY ?_); (try clear hX X); try clear hY Y)
        | (refine RunD_nil ?_; refine hK _ _ ?_; clear hK K)
        | (refine RunD_nil ?_)
        | (refine WD_skip ?_)
        | (refine WD_exit ?_)
        | (refine WD_ret ?_)
        | (refine hK.1 _ _ ?_; clear hK K)
        | (refine hK.2.1 _ _ ?_; clear hK K)
        | (refine hK.2 _ _ _ ?hne ?_; (case hne => simp; done); clear hK K)
        | (refine hK.2.2 _ _ _ ?hne ?_; (case hne => simp; done); clear hK K))
      refine RunD_c rfl rfl rfl rfl (by simp) (by simp) ?ha (spCount_ok h' xs[j] (by omega)) ?_
      (case ha => simp (disch := first | omega | (simp; done) | fail) [wrap64c, if_pos, if_neg, opAnd, opOr, opXor, opDiff, opShr, opBit, g_h0, hL, c1, hNt, hgt, hXl, e4, e15, e16, e17, hg, hlt, q_x, g_x, l_x, r_x, z_x, hy2, hy3])
      repeat (first
        | (refine WD_block (fun K hK => ?_))
        | (refine WD_seq (fun K hK => ?_))
        | (refine WD_region (fun K hK => ?_))
        | ((first | refine RunD_o rfl rfl rfl rfl rfl (fun X hX => ?_) | refine RunD_s rfl rfl rfl rfl (fun X hX => ?_) | refine WD_c rfl (fun X Y hX hY => ?_)); (try dsimp only); simp (disch := first | omega | (simp; done) | fail) [wrap64c, if_pos, if_neg, opAnd, opOr, opXor, opDiff, opShr, opBit, g_h0, hL, c1, hNt, hgt, hXl, e4, e15, e16, e17, hg, hlt, q_x, g_x, l_x, r_x, z_x, hy2, hy3]; (first | refine hX _ _ ?_ | refine hX ?_ | refine hY ?_); (try clear hX X); try clear hY Y)
        | (refine RunD_nil ?_; refine hK _ _ ?_; clear hK K)
        | (refine RunD_nil ?_)
        | (refine WD_skip ?_)
        | (refine WD_exit ?_)
        | (refine WD_ret ?_)
        | (refine hK.1 _ _ ?_; clear hK K)
        | (refine hK.2.1 _ _ ?_; clear hK K)
        | (refine hK.2 _ _ _ ?hne ?_; (case hne => simp; done); clear hK K)
        | (refine hK.2.2 _ _ _ ?hne ?_; (case hne => simp; done); clear hK K))
      refine hK.1 _ _ _ ?hm ?hf ⟨j + 1, rfl, (by simp (disch := first | omega | (simp; done) | fail) [wrap64c, if_pos, if_neg, opAnd, opOr, opXor, opDiff, opShr, opBit, g_h0, hL, c1, hNt, hgt, hXl, e4, e15, e16, e17, hg, hlt, q_x, g_x, l_x, r_x, z_x, hy2, hy3] <;> omega), (by first | omega | assumption | (simp (disch := first | omega | (simp; done) | fail) [wrap64c, if_pos, if_neg, opAnd, opOr, opXor, opDiff, opShr, opBit, g_h0, hL, c1, hNt, hgt, hXl, e4, e15, e16, e17, hg, hlt, q_x, g_x, l_x, r_x, z_x, hy2, hy3] <;> omega)), (by repeat (first | exact keep_self _ | exact adds_self _ | assumption | exact Adds.keeps (by assumption) | refine keeps_alloc ?_ _ | refine adds_alloc ?_ _ _ _ | refine adds_allocM ?_ _ | (refine keeps_put ?_ ?hle _; (case hle => first | omega | (simp; done) | (simp; omega))) | (refine adds_put ?_ ?hle _ _ _; (case hle => first | omega | (simp; done) | (simp; omega))))), (by repeat (first | exact keep_self _ | exact adds_self _ | assumption | exact Adds.keeps (by assumption) | refine keeps_alloc ?_ _ | refine adds_alloc ?_ _ _ _ | refine adds_allocM ?_ _ | (refine keeps_put ?_ ?hle _; (case hle => first | omega | (simp; done) | (simp; omega))) | (refine adds_put ?_ ?hle _ _ _; (case hle => first | omega | (simp; done) | (simp; omega))))), (by simpa using hn1), (by rw [← hy4]; simp [putCells_one, show pcN xs[j] < n + 1 by omega])⟩
      (case hm => first | omega | (simp; omega))
      (case hf => simp [FrameL, g_h0, hL, c1, hNt, hgt, hXl, e4, e15, e16, e17, hg, hlt, q_x, g_x, l_x, r_x, z_x, hy2, hy3, f4_0, f15_0, f16_0])
    · repeat (first
        | (refine WD_block (fun K hK => ?_))
        | (refine WD_seq (fun K hK => ?_))
        | (refine WD_region (fun K hK => ?_))
        | ((first | refine RunD_o rfl rfl rfl rfl rfl (fun X hX => ?_) | refine RunD_s rfl rfl rfl rfl (fun X hX => ?_) | refine WD_c rfl (fun X Y hX hY => ?_)); (try dsimp only); simp (disch := first | omega | (simp; done) | fail) [wrap64c, if_pos, if_neg, opAnd, opOr, opXor, opDiff, opShr, opBit, g_h0, hL, c1, hNt, hgt, hXl, e4, e15, e16, e17, hg, hlt]; (first | refine hX _ _ ?_ | refine hX ?_ | refine hY ?_); (try clear hX X); try clear hY Y)
        | (refine RunD_nil ?_; refine hK _ _ ?_; clear hK K)
        | (refine RunD_nil ?_)
        | (refine WD_skip ?_)
        | (refine WD_exit ?_)
        | (refine WD_ret ?_)
        | (refine hK.1 _ _ ?_; clear hK K)
        | (refine hK.2.1 _ _ ?_; clear hK K)
        | (refine hK.2 _ _ _ ?hne ?_; (case hne => simp; done); clear hK K)
        | (refine hK.2.2 _ _ _ ?hne ?_; (case hne => simp; done); clear hK K))
      rw [List.take_of_length_le (by omega)] at hg
      refine done_ret rfl ⟨ha, _, by simp [c1]; rfl, ?_⟩
      rw [sizesR, if_pos c1, hXe, natsOf_toN, hN, Int.toNat_natCast]
      have := IntsO.mk (S := Btw h.next h'.next) (h := h') (o := h0.next) (xs := toN (sizesN n xs)) (ex := true) ⟨by omega, by omega⟩ (by omega) (by simp; omega) hg
      simpa using this

theorem implSizes_ok (h : Hp) (v : Value) (N : Int) (X : List Int) (hv : Space h v N X) (hl : X.length < 2 ^ 40) :
    ∃ v' h', CallOK Try.prog 30 #[v] h v' h' ∧ Adds h h' ∧ ∃ u, v' = .tuple #[u, .bool (spB N X)] ∧ IntsO (Btw h.next h'.next) h' u (sizesR N X) := by
  refine call_L (args := [v]) 12 _ [.tmp 2, .tmp 3] Try.func30 rfl rfl rfl ?_
  obtain ⟨b, rfl, hX⟩ := hv
  repeat (first
    | (refine WD_block (fun K hK => ?_))
    | (refine WD_seq (fun K hK => ?_)))
  refine WD_region (fun K hK => ?_)
  repeat (first
    | ((first | refine RunD_o rfl rfl rfl rfl rfl (fun X hX => ?_) | refine RunD_s rfl rfl rfl rfl (fun X hX => ?_) | refine WD_c rfl (fun X Y hX hY => ?_)); (try dsimp only); simp (disch := first | omega | (simp; done) | fail) [wrap64c, if_pos, if_neg, opAnd, opOr, opXor, opDiff, opShr, opBit]; (first | refine hX _ _ ?_ | refine hX ?_ | refine hY ?_); (try clear hX X); try clear hY Y))
  refine RunD_heap fun h0 q_h0 => ?_
  have g_h0 : h0.get h.next = .cells [.int .i64 N, b] true true 1 := by simp [q_h0]
  have k_h0 : Adds h h0 := by rw [q_h0]; exact (by repeat (first | exact keep_self _ | exact adds_self _ | assumption | exact Adds.keeps (by assumption) | refine keeps_alloc ?_ _ | refine adds_alloc ?_ _ _ _ | refine adds_allocM ?_ _ | (refine keeps_put ?_ ?hle _; (case hle => first | omega | (simp; done) | (simp; omega))) | (refine adds_put ?_ ?hle _ _ _; (case hle => first | omega | (simp; done) | (simp; omega)))))
  have n_h0 : h.next < h0.next := by simp [q_h0]; try omega
  have hX0 := hX.keep k_h0.1
  have K0 := k_h0.1
  repeat (first
    | (refine WD_block (fun K hK => ?_))
    | (refine WD_seq (fun K hK => ?_))
    | (refine WD_region (fun K hK => ?_))
    | ((first | refine RunD_o rfl rfl rfl rfl rfl (fun X hX => ?_) | refine RunD_s rfl rfl rfl rfl (fun X hX => ?_) | refine WD_c rfl (fun X Y hX hY => ?_)); (try dsimp only); simp (disch := first | omega | (simp; done) | fail) [wrap64c, if_pos, if_neg, opAnd, opOr, opXor, opDiff, opShr, opBit, g_h0]; (first | refine hX _ _ ?_ | refine hX ?_ | refine hY ?_); (try clear hX X); try clear hY Y)
    | (refine RunD_nil ?_; refine hK _ _ ?_; clear hK K)
    | (refine RunD_nil ?_)
    | (refine WD_skip ?_)
    | (refine WD_exit ?_)
    | (refine WD_ret ?_)
    | (refine hK.1 _ _ ?_; clear hK K)
    | (refine hK.2.1 _ _ ?_; clear hK K)
    | (refine hK.2 _ _ _ ?hne ?_; (case hne => simp; done); clear hK K)
    | (refine hK.2.2 _ _ _ ?hne ?_; (case hne => simp; done); clear hK K))
  refine RunD_c rfl rfl rfl rfl (by simp) (by simp) ?ha (isSpace_ok h0 (.agg #[.int .i64 N, b]) N X (.mk hX0) hl) ?_
  (case ha => simp (disch := first | omega | (simp; done) | fail) [wrap64c, if_pos, if_neg, opAnd, opOr, opXor, opDiff, opShr, opBit, g_h0])
  cases c1 : spB N X
  · repeat (first
      | (refine WD_block (fun K hK => ?_))
      | (refine WD_seq (fun K hK => ?_))
      | (refine WD_region (fun K hK => ?_))
      | ((first | refine RunD_o rfl rfl rfl rfl rfl (fun X hX => ?_) | refine RunD_s rfl rfl rfl rfl (fun X hX => ?_) | refine WD_c rfl (fun X Y hX hY => ?_)); (try dsimp only); simp (disch := first | omega | (simp; done) | fail) [wrap64c, if_pos, if_neg, opAnd, opOr, opXor, opDiff, opShr, opBit, g_h0, c1]; (first | refine hX _ _ ?_ | refine hX ?_ | refine hY ?_); (try clear hX X); try clear hY Y)
      | (refine RunD_nil ?_; refine hK _ _ ?_; clear hK K)
      | (refine RunD_nil ?_)
      | (refine WD_skip ?_)
      | (refine WD_exit ?_)
      | (refine WD_ret ?_)
      | (refine hK.1 _ _ ?_; clear hK K)
      | (refine hK.2.1 _ _ ?_; clear hK K)
      | (refine hK.2 _ _ _ ?hne ?_; (case hne => simp; done); clear hK K)
      | (refine hK.2.2 _ _ _ ?hne ?_; (case hne => simp; done); clear hK K))
    refine done_ret rfl ⟨k_h0, _, by simp [c1]; rfl, ?_⟩
    rw [sizesR, if_neg (by simp [c1])]
    exact .nil _ _
  · obtain ⟨n, xs, hN, hXe, g⟩ := spB_true c1
    have hNt : N = (n : Int) := hN
    have hX1 : Ints h0 b (toN xs) := hXe ▸ hX0
    repeat (first
      | (refine WD_block (fun K hK => ?_))
      | (refine WD_seq (fun K hK => ?_))
      | (refine WD_region (fun K hK => ?_))
      | ((first | refine RunD_o rfl rfl rfl rfl rfl (fun X hX => ?_) | refine RunD_s rfl rfl rfl rfl (fun X hX => ?_) | refine WD_c rfl (fun X Y hX hY => ?_)); (try dsimp only); simp (disch := first | omega | (simp; done) | fail) [wrap64c, if_pos, if_neg, opAnd, opOr, opXor, opDiff, opShr, opBit, g_h0, c1, hNt]; (first | refine hX _ _ ?_ | refine hX ?_ | refine hY ?_); (try clear hX X); try clear hY Y)
      | (refine RunD_nil ?_; refine hK _ _ ?_; clear hK K)
      | (refine RunD_nil ?_)
      | (refine WD_skip ?_)
      | (refine WD_exit ?_)
      | (refine WD_ret ?_)
      | (refine hK.1 _ _ ?_; clear hK K)
      | (refine hK.2.1 _ _ ?_; clear hK K)
      | (refine hK.2 _ _ _ ?hne ?_; (case hne => simp; done); clear hK K)
      | (refine hK.2.2 _ _ _ ?hne ?_; (case hne => simp; done); clear hK K))
    obtain ⟨u, h1, hc1, ha1, hi1⟩ := bySize_ok h0 b n xs hX1 g.n7 (by have := g.len7; omega) g.lt
    refine RunD_c rfl rfl rfl rfl (by simp) (by simp) ?ha (hc1) ?_
    (case ha => simp (disch := first | omega | (simp; done) | fail) [wrap64c, if_pos, if_neg, opAnd, opOr, opXor, opDiff, opShr, opBit, g_h0, c1, hNt])
    repeat (first
      | (refine WD_block (fun K hK => ?_))
      | (refine WD_seq (fun K hK => ?_))
      | (refine WD_region (fun K hK => ?_))
      | ((first | refine RunD_o rfl rfl rfl rfl rfl (fun X hX => ?_) | refine RunD_s rfl rfl rfl rfl (fun X hX => ?_) | refine WD_c rfl (fun X Y hX hY => ?_)); (try dsimp only); simp (disch := first | omega | (simp; done) | fail) [wrap64c, if_pos, if_neg, opAnd, opOr, opXor, opDiff, opShr, opBit, g_h0, c1, hNt]; (first | refine hX _ _ ?_ | refine hX ?_ | refine hY ?_); (try clear hX X); try clear hY Y)
      | (refine RunD_nil ?_; refine hK _ _ ?_; clear hK K)
      | (refine RunD_nil ?_)
      | (refine WD_skip ?_)
      | (refine WD_exit ?_)
      | (refine WD_ret ?_)
      | (refine hK.1 _ _ ?_; clear hK K)
      | (refine hK.2.1 _ _ ?_; clear hK K)
      | (refine hK.2 _ _ _ ?hne ?_; (case hne => simp; done); clear hK K)
      | (refine hK.2.2 _ _ _ ?hne ?_; (case hne => simp; done); clear hK K))
    refine done_ret rfl ⟨k_h0.trans ha1, _, by simp [c1]; rfl, ?_⟩
    rw [sizesR, if_pos c1, hXe, natsOf_toN, hN, Int.toNat_natCast]
    exact hi1.sub fun o ho => ⟨by have := ho.1; omega, ho.2⟩
end Go.Proofs.Ytpehnhjgdgnnkaa
