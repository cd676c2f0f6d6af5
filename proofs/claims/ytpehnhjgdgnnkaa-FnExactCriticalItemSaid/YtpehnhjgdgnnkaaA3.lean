/- Rows of whole numbers: copies, comparisons, marks; growing; lists copied by the program and by the reference. -/
import Derived.Test.YtpehnhjgdgnnkaaA2
namespace Go.Proofs.Ytpehnhjgdgnnkaa
set_option linter.unusedSimpArgs false
set_option linter.unusedVariables false
open Go Go.Eng
attribute [local irreducible] WD RunD PreD Runs CallOK

/-- Marks, row by row. -/
def mkR : Int → List (List Int) → List (List Int)
  | _, [] => []
  | k, r :: L => mkL k r.length :: mkR (k + r.length) L
/-- How many numbers there are. -/
def tot : List (List Int) → Nat
  | [] => 0
  | r :: L => r.length + tot L
@[simp] theorem mkR_length : ∀ (L : List (List Int)) (k : Int), (mkR k L).length = L.length
  | [], _ => rfl
  | _ :: L, k => by simp [mkR, mkR_length L]
theorem tot_take_succ : ∀ (L : List (List Int)) (j : Nat) (h : j < L.length), tot (L.take (j + 1)) = tot (L.take j) + L[j].length
  | r :: L, 0, h => by simp [tot]
  | r :: L, j + 1, h => by simp [tot, tot_take_succ L j (by simpa using h)]; omega
theorem mkR_get : ∀ (L : List (List Int)) (k : Int) (j : Nat) (h : j < L.length) (h' : j < (mkR k L).length), (mkR k L)[j] = mkL (k + tot (L.take j)) L[j].length
  | r :: L, k, 0, h, _ => by simp [mkR, tot]
  | r :: L, k, j + 1, h, h' => by
    simp only [mkR, List.getElem_cons_succ, List.take_succ_cons, tot]
    rw [mkR_get L (k + r.length) j (by simpa using h) (by simpa using h)]
    congr 1; push_cast; omega
theorem tot_le : ∀ (L : List (List Int)) (j : Nat), tot (L.take j) ≤ tot L
  | [], j => by simp [tot]
  | r :: L, 0 => by simp [tot]
  | r :: L, j + 1 => by simp [tot]; exact tot_le L j
theorem len_le_tot : ∀ (L : List (List Int)) (j : Nat) (h : j < L.length), L[j].length ≤ tot L
  | r :: L, 0, h => by simp [tot]
  | r :: L, j + 1, h => by simp [tot]; have := len_le_tot L j (by simpa using h); omega

/-- One number more, as the program does it: a literal of one number is appended. -/
theorem appI {n : Nat} {h0 h : Hp} {v : Value} {xs : List Int} (hs : IntsA n h v xs) (x : Int) (hl : xs.length < 2 ^ 40) (hn : n ≤ h.next) (hA : Adds h0 h) (h0n : h0.next ≤ n) :
    ∃ v' h', appendD Try.prog 22 22 v (.slice (some ⟨h.next, 0, none⟩) 1 1) (h.alloc (.cells [.int .i64 x] true true 1)) = some (v', h') ∧ IntsA n h' v' (xs ++ [x]) ∧ Adds h0 h' ∧ h.next < h'.next ∧ ∀ o, o < h.next → o < n → h'.get o = h.get o := by
  obtain ⟨v', h', g1, g2, g3, g4, g5⟩ := append_one (P := Try.prog) (t := 22) (t' := 22) (x := x) (q := h.next) (h := h.alloc (.cells [.int .i64 x] true true 1)) (qx := true) (n := n) (v := v) (xs := xs) (by
    rcases hs with ⟨a, b⟩ | ⟨o, ex, a, b, c, d⟩
    · exact .inl ⟨a, b⟩
    · exact .inr ⟨o, ex, a, b, Nat.lt_succ_of_lt c, by simp [Nat.ne_of_lt c, d]⟩) ty_elT_22 ty_szT_3 ty_zeroT_3 ty_byT_3 (by decide) (by decide) (by simp) (by simp) hl (by simp; omega) (show Adds h0 _ from (by repeat (first | exact keep_self _ | exact adds_self _ | assumption | exact Adds.keeps (by assumption) | refine keeps_alloc ?_ _ | refine adds_alloc ?_ _ _ _ | refine adds_allocM ?_ _ | (refine keeps_put ?_ ?hle _; (case hle => first | omega | (simp; done) | (simp; omega))) | (refine adds_put ?_ ?hle _ _ _; (case hle => first | omega | (simp; done) | (simp; omega)))))) h0n
  exact ⟨v', h', g1, g2, g3, Nat.lt_of_le_of_lt (by simp) g4, fun o ho hn => by rw [g5 o (by simp; omega) hn]; simp [Nat.ne_of_lt ho]⟩
end Go.Proofs.Ytpehnhjgdgnnkaa
