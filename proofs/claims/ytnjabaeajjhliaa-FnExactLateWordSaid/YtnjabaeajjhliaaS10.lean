/- Random walks: what both sides hand back. -/
import Derived.Test.YtnjabaeajjhliaaS8
namespace Go.Proofs.Ytnjabaeajjhliaa
set_option linter.unusedSimpArgs false
set_option linter.unusedVariables false
set_option maxHeartbeats 4000000
open Go Go.Eng
attribute [local irreducible] WD RunD PreD Runs CallOK

/-- One number more, as the program does it; what does not lie where the slice lies stays as it was. -/
theorem appI2 {n : Nat} {h0 h : Hp} {v : Value} {xs : List Int} (hs : IntsA n h v xs) (x : Int) (hl : xs.length < 2 ^ 40) (hn : n ≤ h.next) (hA : Adds h0 h) (h0n : h0.next ≤ n) :
    ∃ v' h', appendD Try.prog 30 30 v (.slice (some ⟨h.next, 0, none⟩) 1 1) (h.alloc (.cells [.int .i64 x] true true 1)) = some (v', h') ∧ IntsA n h' v' (xs ++ [x]) ∧ Adds h0 h' ∧ h.next < h'.next ∧
      (∀ F : Nat → Prop, (∀ o, F o → o < h.next) → OffF F v → Same F h h' ∧ OffF F v') := by
  obtain ⟨v', h', g1, g2, g3, g4, g5, g6⟩ := append_one2 (P := Try.prog) (t := 30) (t' := 30) (x := x) (q := h.next) (h := h.alloc (.cells [.int .i64 x] true true 1)) (qx := true) (n := n) (v := v) (xs := xs) (by
    rcases hs with ⟨a, b⟩ | ⟨o, ex, a, b, c, d⟩
    · exact .inl ⟨a, b⟩
    · exact .inr ⟨o, ex, a, b, Nat.lt_succ_of_lt c, by simp [Nat.ne_of_lt c, d]⟩) ty_elT_30 ty_szT_3 ty_zeroT_3 ty_byT_3 (by decide) (by decide) (by simp) (by simp) hl (by simp; omega) (show Adds h0 _ from (by first | exact aK | exact kK)) h0n
  refine ⟨v', h', g1, g2, g3, Nat.lt_of_le_of_lt (by simp) g4, fun F hF hO => ⟨?_, g6 F fun o ho => Nat.lt_succ_of_lt (hF o ho)⟩⟩
  have := g5 F hO
  exact ⟨Nat.le_trans (Nat.le_succ _) this.1, fun o ho ho' => by rw [this.2 o ho (Nat.lt_succ_of_lt ho')]; simp [Nat.ne_of_lt ho']⟩
theorem ia_read {n : Nat} {h : Hp} {v : Value} {xs : List Int} (hs : IntsA n h v xs) (hl : xs.length < 2 ^ 63) : Ints h v xs := (hs.own hl).ints
/-- A slice that was there before the objects from m on. -/
theorem ia_off {n m : Nat} {h : Hp} {v : Value} {xs : List Int} (hs : IntsA n h v xs) (hm : h.next ≤ m) : OffF (fun o => m ≤ o) v := by
  rcases hs with ⟨_, rfl⟩ | ⟨o, ex, rfl, _, h2, _⟩
  · exact .nil _ _ _
  · exact .mk (by omega)

noncomputable def walkR (N : Int) (X ch : List Int) : List Int := if (spB N X && chB ch 20) = true then toN (walkS (fam (natsOf X)) N.toNat ch N.toNat).1 else []
theorem walkR_len (N : Int) (X ch : List Int) : (walkR N X ch).length ≤ 7 := by
  unfold walkR
  split
  · rename_i h
    simp only [Bool.and_eq_true] at h
    obtain ⟨n, xs, rfl, rfl, g⟩ := spB_true h.1
    have := g.n7
    simp [walk_len]; omega
  · simp
theorem chB_long {ch : List Int} {m : Int} (h : m < (ch.length : Int)) : chB ch m = false := by
  unfold chB
  simp only [Bool.and_eq_false_iff, decide_eq_false_iff_not]
  exact .inl (by omega)
theorem chB_neg {ch : List Int} {m : Int} {j : Nat} (hj : j < ch.length) (h : ch[j] < 0) : chB ch m = false := by
  rw [Bool.eq_false_iff]
  intro hc
  have := (chB_pos hc).2 _ (List.getElem_mem hj)
  omega
theorem chB_of {ch : List Int} {m : Int} (h1 : (ch.length : Int) ≤ m) (h2 : ∀ j (hj : j < ch.length), 0 ≤ ch[j]) : chB ch m = true := by
  unfold chB
  simp only [Bool.and_eq_true, decide_eq_true_eq, Bool.not_eq_true', List.any_eq_false]
  refine ⟨h1, fun x hx => ?_⟩
  obtain ⟨j, hj, rfl⟩ := List.getElem_of_mem hx
  have := h2 j hj
  omega

theorem itemsK_eq {o n : Nat} (ho : o < bit n) (hn : n ≤ 7) : itemsK o n = itemsN o := by
  have : ∀ d, n + d ≤ 7 → itemsK o (n + d) = itemsK o n := by
    intro d
    induction d with
    | zero => intro _; rfl
    | succ d ih =>
      intro hd
      rw [show n + (d + 1) = n + d + 1 by omega, itemsK_succ, hi_bit ho (by omega)]
      exact ih (by omega)
  rw [items_eq]
  have h1 := this (7 - n) (by omega)
  rw [show n + (7 - n) = 7 by omega] at h1
  exact h1.symm

end Go.Proofs.Ytnjabaeajjhliaa
