/- Rows of whole numbers: copies, comparisons, marks; growing; lists copied by the program and by the reference. -/
import Derived.Test.YtnnjehonbolliaaA2
namespace Go.Proofs.Ytnnjehonbolliaa
set_option linter.unusedSimpArgs false
set_option linter.unusedVariables false
open Go Go.Eng
attribute [local irreducible] WD RunD PreD Runs CallOK

/-- Marks, row by row. -/
def mkR : Int → List (List Int) → List (List Int)
  | _, [] => []
  | k, r :: L => mkL k r.length :: mkR (k + r.length) L
/-- How many numbers there are. -/
def tot : List (List Int) → Nat
  | [] => 0
  | r :: L => r.length + tot L
@[simp] theorem mkR_length : ∀ (L : List (List Int)) (k : Int), (mkR k L).length = L.length
  | [], _ => rfl
  | _ :: L, k => by simp [mkR, mkR_length L]
theorem tot_take_succ : ∀ (L : List (List Int)) (j : Nat) (h : j < L.length), tot (L.take (j + 1)) = tot (L.take j) + L[j].length
  | r :: L, 0, h => by simp [tot]
  | r :: L, j + 1, h => by simp [tot, tot_take_succ L j (by simpa using h)]; omega
theorem mkR_get : ∀ (L : List (List Int)) (k : Int) (j : Nat) (h : j < L.length) (h' : j < (mkR k L).length), (mkR k L)[j] = mkL (k + tot (L.take j)) L[j].length
  | r :: L, k, 0, h, _ => by simp [mkR, tot]
  | r :: L, k, j + 1, h, h' => by
    simp only [mkR, List.getElem_cons_succ, List.take_succ_cons, tot]
    rw [mkR_get L (k + r.length) j (by simpa using h) (by simpa using h)]
    congr 1; push_cast; omega
theorem tot_le : ∀ (L : List (List Int)) (j : Nat), tot (L.take j) ≤ tot L
  | [], j => by simp [tot]
  | r :: L, 0 => by simp [tot]
  | r :: L, j + 1 => by simp [tot]; exact tot_le L j
theorem len_le_tot : ∀ (L : List (List Int)) (j : Nat) (h : j < L.length), L[j].length ≤ tot L
  | r :: L, 0, h => by simp [tot]
  | r :: L, j + 1, h => by simp [tot]; have := len_le_tot L j (by simpa using h); omega

/-- One number more, as the program does it: a literal of one number is appended. -/
theorem appI {n : Nat} {h0 h : Hp} {v : Value} {xs : List Int} (hs : IntsA n h v xs) (x : Int) (hl : xs.length < 2 ^ 40) (hn : n ≤ h.next) (hA : Adds h0 h) (h0n : h0.next ≤ n) :
    ∃ v' h', appendD Try.prog 25 25 v (.slice (some ⟨h.next, 0, none⟩) 1 1) (h.alloc (.cells [.int .i64 x] true true 1)) = some (v', h') ∧ IntsA n h' v' (xs ++ [x]) ∧ Adds h0 h' ∧ h.next < h'.next ∧ ∀ o, o < h.next → o < n → h'.get o = h.get o := by
  obtain ⟨v', h', g1, g2, g3, g4, g5⟩ := append_one (P := Try.prog) (t := 25) (t' := 25) (x := x) (q := h.next) (h := h.alloc (.cells [.int .i64 x] true true 1)) (qx := true) (n := n) (v := v) (xs := xs) (by
    rcases hs with ⟨a, b⟩ | ⟨o, ex, a, b, c, d⟩
    · exact .inl ⟨a, b⟩
    · exact .inr ⟨o, ex, a, b, Nat.lt_succ_of_lt c, by simp [Nat.ne_of_lt c, d]⟩) ty_elT_25 ty_szT_3 ty_zeroT_3 ty_byT_3 (by decide) (by decide) (by simp) (by simp) hl (by simp; omega) (show Adds h0 _ from (by first | exact aK | exact kK)) h0n
  exact ⟨v', h', g1, g2, g3, Nat.lt_of_le_of_lt (by simp) g4, fun o ho hn => by rw [g5 o (by simp; omega) hn]; simp [Nat.ne_of_lt ho]⟩
theorem appR {n : Nat} {h0 h1 h : Hp} {v u : Value} {L : List (List Int)} {r : List Int} (hs : IRowsA n h1 v L) (hk1 : Keeps h1 h) (hu : IntsO (Btw h1.next h.next) h u r) (hl : L.length < 2 ^ 40) (hn : n ≤ h1.next) (hA : Adds h0 h) (h0n : h0.next ≤ n) :
    ∃ v' h', appendD Try.prog 24 24 v (.slice (some ⟨h.next, 0, none⟩) 1 1) (h.alloc (.cells [u] true true 1)) = some (v', h') ∧ IRowsA n h' v' (L ++ [r]) ∧ Adds h0 h' ∧ h.next < h'.next ∧ ∀ o, o < h.next → o < n → h'.get o = h.get o := by
  obtain ⟨v', h', g1, g2, g3, g4, g5⟩ := append_row (P := Try.prog) (t := 24) (t' := 24) (q := h.next) (h := h.alloc (.cells [u] true true 1)) (qx := true) (n := n) (u := u) (r := r) hs (hk1.trans (Keeps.alloc _ _)) ((hu.keep (Keeps.alloc _ _)).sub fun o ho => ⟨ho.1, Nat.lt_succ_of_lt ho.2⟩)
    ty_elT_24 ty_szT_25 ty_zeroT_25 ty_byT_25 (by decide) (by decide) (by simp) (by simp) hl hn (show Adds h0 _ from (by first | exact aK | exact kK)) h0n
  exact ⟨v', h', g1, g2, g3, Nat.lt_of_le_of_lt (by simp) g4, fun o ho hn => by rw [g5 o (by simp; omega) hn]; simp [Nat.ne_of_lt ho]⟩

theorem l1Own_ok (h : Hp) (v : Value) (xs : List Int) (hv : Ints h v xs) (hl : xs.length < 2 ^ 39) : ∃ v' h', CallOK Try.prog 58 #[v] h v' h' ∧ Adds h h' ∧ IntsO (Btw h.next h'.next) h' v' xs ∧ IntsA h.next h' v' xs := by
  refine callY_L (args := [v]) 6 _ [.tmp 2] Try.func58 rfl rfl rfl ?_
  try simp (disch := first | omega | (simp; done) | fail) [wrap64c, if_pos, if_neg]
  first | refine WY_heap fun h1 q_h1 => ?_ | refine callG_heap fun h1 q_h1 => ?_ | refine callP_heap fun h1 q_h1 => ?_ | refine callS_heap fun h1 q_h1 => ?_ | refine RY_heap fun h1 q_h1 => ?_ | refine PY_heap fun h1 q_h1 => ?_ | refine SY_heap fun h1 q_h1 => ?_ | refine doneY_heap fun h1 q_h1 => ?_ | refine loopK_heap fun h1 q_h1 => ?_ | refine thenY_heap fun h1 q_h1 => ?_ | refine thenM_heap fun h1 q_h1 => ?_
  have k1 : Adds h h1 := by rw [q_h1]; exact (by first | exact aK | exact kK)
  have hA : IntsA h.next h1 (.slice (some ⟨h.next, 0, none⟩) 0 0) [] := .lit (ex := true) (Nat.le_refl _) (by simp [q_h1]) (by simp [q_h1, zarr])
  obtain ⟨v2, h2, hap, hA2, k2, n2, s2⟩ := append_ints (P := Try.prog) (t := 25) (t' := 25) hA (hv.keep k1.1) ty_elT_25 ty_szT_3 ty_zeroT_3 ty_byT_3 (by decide) (by decide) (by simp) (by simp; omega) (by simp [q_h1]) k1 (Nat.le_refl _)
  simp only [List.nil_append] at hA2
  try simp (disch := first | omega | (simp; done) | fail) [wrap64c, if_pos, if_neg, hap]
  exact done_ret rfl ⟨k2, hA2.own (by omega), hA2⟩
end Go.Proofs.Ytnnjehonbolliaa
