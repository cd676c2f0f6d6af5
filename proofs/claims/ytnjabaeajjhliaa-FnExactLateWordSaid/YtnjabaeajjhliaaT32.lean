/- Late jobs: tasks and turned pairs as lists that grow; what both sides hand back. -/
import Derived.Test.YtnjabaeajjhliaaT31
import Derived.Test.YtnjabaeajjhliaaS24
import Derived.Test.YtnjabaeajjhliaaEngZe
import Derived.Test.YtnjabaeajjhliaaEngZh
import Derived.Test.YtnjabaeajjhliaaS0r
namespace Go.Proofs.Ytnjabaeajjhliaa
set_option linter.unusedSimpArgs false
set_option linter.unusedVariables false
set_option maxHeartbeats 4000000
open Go Go.Eng
attribute [local irreducible] WD RunD PreD Runs CallOK

/-- A task as an element of a growing list. -/
def jobR (F : Nat → Prop) (h : Hp) (u : List Value) (j : Job) : Prop := u = jobL j
theorem jobR_steady : Steady jobR where
  mono F G h h' u x hx _ _ := hx
  low F h u x hx := hx
theorem chunk3_at {cs : List Value} {k : Nat} {a b c : Value} (h : chunk 3 cs k = [a, b, c]) : cs[k * 3]? = some a ∧ cs[k * 3 + 1]? = some b ∧ cs[k * 3 + 2]? = some c := by
  have h0 : ((cs.drop (k * 3)).take 3)[0]? = some a := by rw [show (cs.drop (k * 3)).take 3 = _ from h]; rfl
  have h1 : ((cs.drop (k * 3)).take 3)[1]? = some b := by rw [show (cs.drop (k * 3)).take 3 = _ from h]; rfl
  have h2 : ((cs.drop (k * 3)).take 3)[2]? = some c := by rw [show (cs.drop (k * 3)).take 3 = _ from h]; rfl
  simp only [List.getElem?_take, List.getElem?_drop] at h0 h1 h2
  exact ⟨by simpa using h0, by simpa using h1, by simpa using h2⟩
theorem jobs_of {n : Nat} {h : Hp} {v : Value} {L : List Job} (hs : GL 3 jobR n h v L) (hl : L.length < 2 ^ 63) : Jobs h v L := by
  rcases hs with ⟨rfl, rfl⟩ | ⟨o, ex, cs, rfl, h1, h2, h3, h4, h5⟩
  · exact Jobs.nil h
  · refine ⟨_, _, rfl, Nat.le_refl _, hl, .inr ⟨o, 0, cs, true, ex, 3, rfl, h2, h3, by omega, fun k hk => ?_⟩⟩
    have := chunk3_at (show chunk 3 cs k = [_, _, _] from h5 k hk)
    rw [Nat.zero_add, Nat.mul_comm]
    exact this
theorem appJ {n : Nat} {h0 h : Hp} {v : Value} {L : List Job} (hs : GL 3 jobR n h v L) (j : Job) (hl : L.length < 2 ^ 39) (hn : n ≤ h.next) (hA : Adds h0 h) (h0n : h0.next ≤ n) :
    ∃ v' h', appendD Try.prog 50 50 v (.slice (some ⟨h.next, 0, none⟩) 1 1) (h.alloc (.cells [.int .i64 j.ti, .int .i64 j.ra, .int .i64 j.ba] true true 3)) = some (v', h') ∧ GL 3 jobR n h' v' (L ++ [j]) ∧ Adds h0 h' ∧ h.next < h'.next ∧ ∀ o, o < h.next → o < n → h'.get o = h.get o := by
  have k2 : Adds h (h.alloc (.cells [.int .i64 j.ti, .int .i64 j.ra, .int .i64 j.ba] true true 3)) := (by first | exact aK | exact kK)
  obtain ⟨v', h', g1, g2, g3, g4, g5⟩ := GL.append (P := Try.prog) (t := 50) (t' := 50) (z := .agg #[.int .i64 0, .int .i64 0, .int .i64 0]) (b := 24) (e := 95) (K := [j]) (ys := [.int .i64 j.ti, .int .i64 j.ra, .int .i64 j.ba]) (F := fun x => False) (y := .slice (some ⟨h.next, 0, none⟩) 1 1) (h0 := h0) jobR_steady
    (hs.keep jobR_steady k2.1) (by simp [srcV, srcW]) rfl (fun k hk => by
      have : k = 0 := by simp at hk; exact hk
      subst this; rfl) (fun x hx => hx.elim) (by simp) (by simp) (by simp) rfl (by simp) (by decide) (by decide) (by simp) (by simp; omega) (by simp; omega) (hA.trans k2) h0n
  exact ⟨v', h', g1, g2, g3, Nat.lt_of_lt_of_le (by simp) g4, fun o ho hon => by rw [g5 o (by simp; omega) hon]; simp [Nat.ne_of_lt ho]⟩

theorem zarr3_3 (a b c : Value) : zarr #[a, b, c] 3 = #[a, b, c] := by
  unfold zarr
  apply Array.ext
  · simp
  · intro i h1 h2
    have : i = 0 ∨ i = 1 ∨ i = 2 := by simp at h2; omega
    rcases this with rfl | rfl | rfl <;> simp
theorem irowsA_lit {n : Nat} {h : Hp} {o : Nat} {ex : Bool} (h1 : n ≤ o) (h2 : o < h.next) (h3 : h.get o = .cells [] true ex 1) : IRowsA n h (.slice (some ⟨o, 0, none⟩) 0 0) [] :=
  .inr ⟨o, ex, [], rfl, h1, h2, h3, .nil _ _ _⟩
/-- A pair appended. -/
theorem appP {n : Nat} {h0 h : Hp} {v : Value} {L : List (List Int)} (hs : IRowsA n h v L) (a b : Int) (hl : L.length < 2 ^ 39) (hn : n ≤ h.next) (hA : Adds h0 h) (h0n : h0.next ≤ n) :
    ∃ v' h', appendD Try.prog 54 54 v (.slice (some ⟨h.next + 1, 0, none⟩) 1 1) ((h.alloc (.cells [.int .i64 a, .int .i64 b] true true 1)).alloc (.cells [.slice (some ⟨h.next, 0, none⟩) 2 2] true true 1)) = some (v', h') ∧ IRowsA n h' v' (L ++ [[a, b]]) ∧ Adds h0 h' ∧ h.next < h'.next ∧ ∀ o, o < h.next → o < n → h'.get o = h.get o := by
  have k1 : Adds h (h.alloc (.cells [.int .i64 a, .int .i64 b] true true 1)) := (by first | exact aK | exact kK)
  obtain ⟨v', h', g1, g2, g3, g4, g5⟩ := appR (h := h.alloc (.cells [.int .i64 a, .int .i64 b] true true 1)) (u := .slice (some ⟨h.next, 0, none⟩) 2 2) (r := [a, b]) hs k1.1 (IntsO.mk (xs := [a, b]) (ex := true) (show Btw h.next _ h.next from ⟨Nat.le_refl _, by simp⟩) (by simp) (by simp) (by simp)) (by omega) hn (hA.trans k1) h0n
  exact ⟨v', h', g1, g2, g3, by simp at g4; omega, fun o ho hon => by rw [g5 o (by simp; omega) hon]; simp [Nat.ne_of_lt ho]⟩

/-- What is asked of jobs, and the order that is handed back. -/
def lateJ (T D : List Int) (k : Nat) : List Job := (List.range k).map fun i => ⟨T.getD i 0, 1, -D.getD i 0⟩
def turnR (L : List (List Int)) : List (List Int) := L.map fun p => [p.getD 1 0, p.getD 0 0]
def givenB (N : Int) (L : List (List Int)) (T D : List Int) : Bool := sizeB N && (pairsB N L && (decide ((T.length : Int) = N) && (decide ((D.length : Int) = N) && (decide (∀ x ∈ T, 1 ≤ x ∧ x ≤ 9) && decide (∀ x ∈ D, 0 ≤ x ∧ x ≤ 100)))))
noncomputable def lateB (N : Int) (L : List (List Int)) (T D : List Int) : Bool := givenB N L T D && ordOK N (turnR L)
noncomputable def lateR (N : Int) (L : List (List Int)) (T D : List Int) : List Int := if lateB N L T D = true then toN (greedN (costN (lateJ T D N.toNat)) (ordL N.toNat (turnR L)) N.toNat).reverse else []
theorem lateJ_succ (T D : List Int) (k : Nat) : lateJ T D (k + 1) = lateJ T D k ++ [⟨T.getD k 0, 1, -D.getD k 0⟩] := by simp [lateJ, List.range_succ]
@[simp] theorem lateJ_len (T D : List Int) (k : Nat) : (lateJ T D k).length = k := by simp [lateJ]
theorem turnR_succ (L : List (List Int)) {k : Nat} (h : k < L.length) : turnR (L.take (k + 1)) = turnR (L.take k) ++ [[L[k].getD 1 0, L[k].getD 0 0]] := by
  rw [List.take_succ_eq_append_getElem h]; unfold turnR; rw [List.map_append]; rfl
theorem lateJ_ok {T D : List Int} {n : Nat} (n7 : n ≤ 7) (hT : T.length = n) (hD : D.length = n) (h1 : ∀ x ∈ T, 1 ≤ x ∧ x ≤ 9) (h2 : ∀ x ∈ D, 0 ≤ x ∧ x ≤ 100) : JobsOK (lateJ T D n) where
  n7 := by simpa using n7
  ok k hk := by
    have hk' : k < n := by simpa using hk
    have e : jobAt (lateJ T D n) k = ⟨T[k], 1, -D[k]⟩ := by
      rw [jobAt_eq hk]; simp [lateJ, List.getD_eq_getElem?_getD, show k < T.length by omega, show k < D.length by omega]
    have a := h1 _ (List.getElem_mem (show k < T.length by omega))
    have b := h2 _ (List.getElem_mem (show k < D.length by omega))
    rw [e]
    unfold jobOK
    rw [decide_eq_true_eq]
    refine ⟨a, ⟨?_, ?_⟩, ?_, ?_⟩ <;> simp only <;> omega
theorem reverse_ok (h : Hp) (v : Value) (xs : List Int) (S : Nat → Prop) (hv : IntsO S h v xs) (hl : xs.length < 2 ^ 40) :
    ∃ h', CallOK Try.prog 101 #[v] h (.tuple #[]) h' ∧ IntsO S h' v xs.reverse ∧ h'.next = h.next ∧ (∀ a, Adds a h → (∀ o, S o → a.next ≤ o) → Adds a h') ∧ Upd S h h' :=
  reverseO_ok Revs.lays112 hv hl
theorem toN_reverse (xs : List Nat) : (toN xs).reverse = toN xs.reverse := by simp [toN]
end Go.Proofs.Ytnjabaeajjhliaa
