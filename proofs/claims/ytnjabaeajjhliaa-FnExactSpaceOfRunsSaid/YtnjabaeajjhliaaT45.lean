/- Two lists that grow beside each other. -/
import Derived.Test.YtnjabaeajjhliaaT44
namespace Go.Proofs.Ytnjabaeajjhliaa
set_option linter.unusedSimpArgs false
set_option linter.unusedVariables false
set_option maxHeartbeats 4000000
open Go Go.Eng
attribute [local irreducible] WD RunD PreD Runs CallOK

theorem ia_same {n : Nat} {h h' : Hp} {v : Value} {xs : List Int} (hs : IntsA n h v xs) (hk : Same (ObjIn v) h h') : IntsA n h' v xs := by
  rcases hs with ⟨a, b⟩ | ⟨o, ex, rfl, g1, g2, g3⟩
  · exact .inl ⟨a, b⟩
  · exact .inr ⟨o, ex, rfl, g1, Nat.lt_of_lt_of_le g2 hk.1, by rw [hk.2 o rfl g2]; exact g3⟩
theorem ia_obj {n : Nat} {h : Hp} {v : Value} {xs : List Int} (hs : IntsA n h v xs) : ∀ o, ObjIn v o → n ≤ o ∧ o < h.next := by
  intro o ho
  rcases hs with ⟨_, rfl⟩ | ⟨p, ex, rfl, g1, g2, g3⟩
  · exact ho.elim
  · cases ho; exact ⟨g1, g2⟩
theorem off_comm {n m : Nat} {h : Hp} {v w : Value} {xs ys : List Int} (hv : IntsA n h v xs) (hw : IntsA m h w ys) (ho : OffF (ObjIn v) w) : OffF (ObjIn w) v := by
  intro o i k c e hf
  rcases hw with ⟨_, rfl⟩ | ⟨p, ex, rfl, _⟩
  · exact hf.elim
  · cases hf
    subst e
    exact ho _ _ _ _ rfl rfl
/-- .. some numbers appended. -/
theorem append_ints2 {P : Program} {n : Nat} {h0 h : Hp} {v y : Value} {xs ys : List Int} {t t' e b : Nat} (hs : IntsA n h v xs) (hy : Ints h y ys) (h1 : elT P t = some e) (h2 : szT P e = some 1) (h3 : zeroT P e = some (.int .i64 0)) (h4 : byT P e = some b)
    (hb : b ≠ 0) (hb8 : b ≤ 8) (h5 : srcT P t' = true) (hl : xs.length + ys.length < 2 ^ 40) (hn : n ≤ h.next) (hA : Adds h0 h) (h0n : h0.next ≤ n) :
    ∃ v' h', appendD P t t' v y h = some (v', h') ∧ IntsA n h' v' (xs ++ ys) ∧ Adds h0 h' ∧ h.next ≤ h'.next ∧ (∀ F : Nat → Prop, OffF F v → Same F h h') ∧ ∀ F : Nat → Prop, (∀ o, F o → o < h.next) → OffF F v → OffF F v' := by
  have hsrc := hy.src
  by_cases hy0 : ys.length = 0
  · have := List.length_eq_zero_iff.1 hy0
    subst this
    refine ⟨v, h, ?_, by simpa using hs, hA, Nat.le_refl _, fun F _ => Same.refl _ _, fun F _ h => h⟩
    simp only [appendD, h1, h2, h3, h4, hsrc, h5]
    rcases hs with ⟨rfl, rfl⟩ | ⟨o, ex, rfl, g1, g2, g3⟩ <;> simp [Value.cells, hb]
  have hbb : (xs.length + ys.length) * b ≤ 140737488355328 := Nat.le_trans (Nat.mul_le_mul (Nat.le_of_lt hl) hb8) (by decide)
  have hbb1 : ys.length * b ≤ 140737488355328 := Nat.le_trans (Nat.mul_le_mul_right _ (by omega)) hbb
  have hne : ys ≠ [] := fun e => hy0 (by rw [e]; rfl)
  rcases hs with ⟨rfl, rfl⟩ | ⟨o, ex, rfl, g1, g2, g3⟩
  · refine ⟨.slice (some ⟨h.next, 0, none⟩) ys.length ys.length, h.alloc (.cells (ys.map (.int .i64)) true false 1), ?_, .inr ⟨h.next, false, rfl, hn, Nat.lt_succ_self _, by simp⟩, by simp [hA], Nat.le_succ _, fun F _ => ⟨by simp, fun o _ ho => by simp [Nat.ne_of_lt ho]⟩, fun F hF _ => .mk fun hf => by have := hF _ hf; omega⟩
    simp only [appendD, h1, h2, h3, h4, hsrc, h5]
    simp [Value.cells, hb, hbb1, hne]
  · refine ⟨.slice (some ⟨h.next, 0, none⟩) (xs.length + ys.length) (xs.length + ys.length), growHp h o ex (.cells (xs.map (.int .i64) ++ ys.map (.int .i64)) true false 1), ?_, .inr ⟨h.next, false, by simp, hn, ?_, ?_⟩, hA.grow (by omega) (fun _ => rfl), ?_, fun F hF => ⟨?_, fun i hi hin => ?_⟩, fun F hF _ => .mk fun hf => by have := hF _ hf; omega⟩
    · simp only [appendD, h1, h2, h3, h4, hsrc, h5]
      have ht : (xs.map (Value.int .i64)).take xs.length = xs.map (.int .i64) := List.take_of_length_le (by simp)
      have hlt : 0 < ys.length := by omega
      simp [Value.cells, hb, g3, hbb, ht, hne, hlt]
    · cases ex <;> simp [growHp]
    · cases ex <;> simp [growHp]
    · cases ex <;> simp [growHp]
    · cases ex <;> simp [growHp]
    · have e1 : i ≠ h.next := by omega
      have e2 : i ≠ o := fun e => hF o 0 _ _ rfl (e ▸ hi)
      cases ex <;> simp [growHp, e1, e2]
/-- One number appended to one of two lists. -/
theorem app1of2 {n : Nat} {h0 h : Hp} {v w : Value} {xs ys : List Int} (hv : IntsA n h v xs) (hw : IntsA n h w ys) (ho : OffF (ObjIn w) v) (x : Int) (hl : xs.length < 2 ^ 40) (hn : n ≤ h.next) (hA : Adds h0 h) (h0n : h0.next ≤ n) :
    ∃ v' h', appendD Try.prog 30 30 v (.slice (some ⟨h.next, 0, none⟩) 1 1) (h.alloc (.cells [.int .i64 x] true true 1)) = some (v', h') ∧ IntsA n h' v' (xs ++ [x]) ∧ IntsA n h' w ys ∧ OffF (ObjIn w) v' ∧ Adds h0 h' ∧ h.next < h'.next ∧ (∀ o, o < n → h'.get o = h.get o) ∧ ∀ o, o < h.next → OffF (fun x => x = o) v → h'.get o = h.get o := by
  obtain ⟨v', h', g1, g2, g3, g4, g5⟩ := appI2 hv x hl hn hA h0n
  have g6 := g5 (ObjIn w) (fun o h => (ia_obj hw o h).2) ho
  have g7 := g5 (fun o => o < n) (fun o h => by omega) (fun o i m c e hf => by
    rcases hv with ⟨_, e'⟩ | ⟨p, ex, e', q1, q2, q3⟩
    · rw [e'] at e; cases e
    · rw [e'] at e; cases e; omega)
  exact ⟨v', h', g1, g2, ia_same hw g6.1, g6.2, g3, g4, fun o hon => g7.1.2 o hon (by omega), fun o hl ho => (g5 (fun x => x = o) (fun x e => by omega) ho).1.2 o rfl hl⟩
end Go.Proofs.Ytnjabaeajjhliaa
