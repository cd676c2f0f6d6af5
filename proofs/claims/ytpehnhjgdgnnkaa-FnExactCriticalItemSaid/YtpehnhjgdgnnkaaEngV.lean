/- Slices of whole numbers that a call has made: they may be written; in which objects they lie; growing by one. -/
import Derived.Test.YtpehnhjgdgnnkaaEngT
namespace Go.Eng

/-- The objects from n on, below m. -/
def Btw (n m o : Nat) : Prop := n ≤ o ∧ o < m

/-- A slice of whole numbers in an object of S that may be written. -/
def IntsO (S : Nat → Prop) (h : Hp) (v : Value) (xs : List Int) : Prop :=
  ∃ s c, v = .slice s xs.length c ∧ xs.length ≤ c ∧ c < 2 ^ 63 ∧ (xs.length = 0 ∨ ∃ o i cs ex, s = some ⟨o, i, none⟩ ∧ S o ∧ o < h.next ∧ h.get o = .cells cs true ex 1 ∧ i + c ≤ cs.length ∧
    ∀ k (hk : k < xs.length), cs[i + k]? = some (.int .i64 xs[k]))

/-- Nothing is changed in S. -/
def Same (S : Nat → Prop) (h h' : Hp) : Prop := h.next ≤ h'.next ∧ ∀ o, S o → o < h.next → h'.get o = h.get o
theorem Same.of_keeps {S : Nat → Prop} {h h' : Hp} (k : Keeps h h') : Same S h h' := ⟨k.1, fun o _ ho => k.2 o ho⟩
theorem Same.trans {S : Nat → Prop} {a b c : Hp} (k : Same S a b) (l : Same S b c) : Same S a c := ⟨Nat.le_trans k.1 l.1, fun o hs ho => (l.2 o hs (Nat.lt_of_lt_of_le ho k.1)).trans (k.2 o hs ho)⟩
theorem Same.put {S : Nat → Prop} {h h' : Hp} (k : Same S h h') {o : Nat} (ho : ¬ S o) (x : AObj) : Same S h (h'.put o x) := ⟨k.1, fun i hs hi => by simp [show i ≠ o from fun e => ho (e ▸ hs), k.2 i hs hi]⟩
theorem Same.refl (S : Nat → Prop) (h : Hp) : Same S h h := ⟨Nat.le_refl _, fun _ _ _ => rfl⟩

theorem IntsO.form {S : Nat → Prop} {h : Hp} {v : Value} {xs : List Int} (hs : IntsO S h v xs) : ∃ s c, v = .slice s xs.length c ∧ xs.length ≤ c ∧ c < 2 ^ 63 := by
  obtain ⟨s, c, e, h1, h2, _⟩ := hs; exact ⟨s, c, e, h1, h2⟩
theorem IntsO.same {S : Nat → Prop} {h h' : Hp} (k : Same S h h') {v : Value} {xs : List Int} (hs : IntsO S h v xs) : IntsO S h' v xs := by
  obtain ⟨s, c, e, h1, h2, h3⟩ := hs
  refine ⟨s, c, e, h1, h2, h3.imp id ?_⟩
  rintro ⟨o, i, cs, ex, g1, g2, g3, g4, g5⟩
  exact ⟨o, i, cs, ex, g1, g2, Nat.lt_of_lt_of_le g3 k.1, by rw [k.2 o g2 g3]; exact g4, g5⟩
theorem IntsO.keep {S : Nat → Prop} {h h' : Hp} (k : Keeps h h') {v : Value} {xs : List Int} (hs : IntsO S h v xs) : IntsO S h' v xs := hs.same (.of_keeps k)
theorem IntsO.sub {S T : Nat → Prop} (hst : ∀ o, S o → T o) {h : Hp} {v : Value} {xs : List Int} (hs : IntsO S h v xs) : IntsO T h v xs := by
  obtain ⟨s, c, e, h1, h2, h3⟩ := hs
  exact ⟨s, c, e, h1, h2, h3.imp id fun ⟨o, i, cs, ex, g1, g2, g⟩ => ⟨o, i, cs, ex, g1, hst o g2, g⟩⟩
theorem IntsO.ints {S : Nat → Prop} {h : Hp} {v : Value} {xs : List Int} (hs : IntsO S h v xs) : Ints h v xs := by
  obtain ⟨s, c, e, h1, h2, h3⟩ := hs
  refine ⟨s, c, e, h1, h2, fun k x hk => ?_⟩
  obtain ⟨hk', ek⟩ := List.getElem?_eq_some_iff.1 hk
  subst ek
  rcases h3 with h3 | ⟨o, i, cs, ex, g1, g2, g3, g4, g5, g6⟩
  · omega
  · refine ⟨o, i, cs, true, ex, 1, g1, g3, g4, by omega, ?_⟩
    simp [isInt, List.getD_eq_getElem?_getD, g6 k hk']
/-- An element that may be written. -/
theorem IntsO.at {S : Nat → Prop} {h : Hp} {v : Value} {xs : List Int} (hs : IntsO S h v xs) {k : Nat} (hk : k < xs.length) :
    ∃ o i c cs ex, v = .slice (some ⟨o, i, none⟩) xs.length c ∧ S o ∧ o < h.next ∧ h.get o = .cells cs true ex 1 ∧ ∃ hi : i + k < cs.length, cs[i + k] = .int .i64 xs[k] := by
  obtain ⟨s, c, e, h1, h2, h3⟩ := hs
  rcases h3 with h3 | ⟨o, i, cs, ex, g1, g2, g3, g4, g5, g6⟩
  · omega
  · refine ⟨o, i, c, cs, ex, by rw [e, g1], g2, g3, g4, by omega, ?_⟩
    have := g6 k hk
    exact (List.getElem?_eq_some_iff.1 this).2
/-- .. written. -/
theorem IntsO.set {S : Nat → Prop} {h : Hp} {xs : List Int} {o i c : Nat} {cs : List Value} {ex : Bool} {k : Nat} (hs : IntsO S h (.slice (some ⟨o, i, none⟩) xs.length c) xs) (hk : k < xs.length) (hg : h.get o = .cells cs true ex 1) (x : Int) :
    IntsO S (h.put o (.cells (putCells cs (i + k) [.int .i64 x]) true ex 1)) (.slice (some ⟨o, i, none⟩) xs.length c) (xs.set k x) := by
  obtain ⟨s, c', e, h1, h2, h3⟩ := hs
  cases e
  refine ⟨some ⟨o, i, none⟩, c, by simp, by simpa using h1, h2, .inr ?_⟩
  rcases h3 with h3 | ⟨o', i', cs', ex', g1, g2, g3, g4, g5, g6⟩
  · omega
  · cases g1
    rw [hg] at g4
    cases g4
    have hik : i + k < cs.length := by omega
    refine ⟨o, i, cs.set (i + k) (.int .i64 x), ex, rfl, g2, g3, by simp [putCells_one hik], by simpa using g5, fun j hj => ?_⟩
    have hj' : j < xs.length := by simpa using hj
    rw [List.getElem?_set, List.getElem_set]
    by_cases e : k = j
    · subst e; simp [hik]
    · rw [if_neg (by omega), if_neg e]; exact g6 j hj'

theorem IntsO.nil (S : Nat → Prop) (h : Hp) : IntsO S h (.slice none 0 0) [] := ⟨none, 0, rfl, Nat.le_refl _, by decide, .inl rfl⟩
/-- A whole new object. -/
theorem IntsO.mk {S : Nat → Prop} {h : Hp} {o : Nat} {xs : List Int} {ex : Bool} (hS : S o) (ho : o < h.next) (hl : xs.length < 2 ^ 63) (hg : h.get o = .cells (xs.map (.int .i64)) true ex 1) : IntsO S h (.slice (some ⟨o, 0, none⟩) xs.length xs.length) xs :=
  ⟨_, _, rfl, Nat.le_refl _, hl, .inr ⟨o, 0, _, ex, rfl, hS, ho, hg, by simp, fun k hk => by simp [hk]⟩⟩

/-- A slice that grows by append: none, or a whole new object of n and beyond. -/
def IntsA (n : Nat) (h : Hp) (v : Value) (xs : List Int) : Prop :=
  (xs = [] ∧ v = .slice none 0 0) ∨ ∃ o ex, v = .slice (some ⟨o, 0, none⟩) xs.length xs.length ∧ n ≤ o ∧ o < h.next ∧ h.get o = .cells (xs.map (.int .i64)) true ex 1
theorem IntsA.own {n : Nat} {h : Hp} {v : Value} {xs : List Int} (hs : IntsA n h v xs) (hl : xs.length < 2 ^ 63) : IntsO (Btw n h.next) h v xs := by
  rcases hs with ⟨rfl, rfl⟩ | ⟨o, ex, rfl, h1, h2, h3⟩
  · exact .nil _ _
  · exact .mk ⟨h1, h2⟩ h2 hl h3
theorem IntsA.keep {n : Nat} {h h' : Hp} (k : Keeps h h') {v : Value} {xs : List Int} (hs : IntsA n h v xs) : IntsA n h' v xs := by
  rcases hs with ⟨rfl, rfl⟩ | ⟨o, ex, rfl, h1, h2, h3⟩
  · exact .inl ⟨rfl, rfl⟩
  · exact .inr ⟨o, ex, rfl, h1, Nat.lt_of_lt_of_le h2 k.1, by rw [k.2 o h2]; exact h3⟩
theorem IntsA.form {n : Nat} {h : Hp} {v : Value} {xs : List Int} (hs : IntsA n h v xs) : ∃ s, v = .slice s xs.length xs.length := by
  rcases hs with ⟨rfl, rfl⟩ | ⟨o, ex, rfl, h1, h2, h3⟩
  · exact ⟨_, rfl⟩
  · exact ⟨_, rfl⟩

section
variable {P : Program}
/-- One number more. -/
theorem append_one {n : Nat} {h0 h : Hp} {v : Value} {xs : List Int} {t t' e q b : Nat} {x : Int} {qx : Bool} (hs : IntsA n h v xs) (h1 : elT P t = some e) (h2 : szT P e = some 1) (h3 : zeroT P e = some (.int .i64 0)) (h4 : byT P e = some b)
    (hb : b ≠ 0) (hb8 : b ≤ 8) (h5 : srcT P t' = true) (hq : h.get q = .cells [.int .i64 x] true qx 1) (hl : xs.length < 2 ^ 40) (hn : n ≤ h.next) (hA : Adds h0 h) (h0n : h0.next ≤ n) :
    ∃ v' h', appendD P t t' v (.slice (some ⟨q, 0, none⟩) 1 1) h = some (v', h') ∧ IntsA n h' v' (xs ++ [x]) ∧ Adds h0 h' ∧ h.next < h'.next ∧ ∀ o, o < h.next → o < n → h'.get o = h.get o := by
  have hsrc : srcV h 1 (.slice (some ⟨q, 0, none⟩) 1 1) = some (1, [.int .i64 x]) := by simp [srcV, srcW, hq]
  have hbb : (xs.length + 1) * b ≤ 140737488355328 := Nat.le_trans (Nat.mul_le_mul (Nat.succ_le_of_lt hl) hb8) (by decide)
  have hbb1 : b ≤ 140737488355328 := Nat.le_trans hb8 (by decide)
  have hA1 : Adds h0 h := hA
  rcases hs with ⟨rfl, rfl⟩ | ⟨o, ex, rfl, g1, g2, g3⟩
  · refine ⟨.slice (some ⟨h.next, 0, none⟩) 1 1, h.alloc (.cells [.int .i64 x] true false 1), ?_, .inr ⟨h.next, false, rfl, hn, Nat.lt_succ_self _, by simp⟩, by simp [hA], Nat.lt_succ_self _, fun o ho _ => by simp [Nat.ne_of_lt ho]⟩
    simp only [appendD, h1, h2, h3, h4, hsrc, h5]
    simp [Value.cells, hb, hbb1]
  · refine ⟨.slice (some ⟨h.next, 0, none⟩) (xs.length + 1) (xs.length + 1), growHp h o ex (.cells (xs.map (.int .i64) ++ [.int .i64 x]) true false 1), ?_, .inr ⟨h.next, false, by simp, hn, ?_, ?_⟩, hA.grow (by omega) (fun _ => rfl), ?_, fun i hi hin => ?_⟩
    · simp only [appendD, h1, h2, h3, h4, hsrc, h5]
      have ht : (xs.map (Value.int .i64)).take xs.length = xs.map (.int .i64) := List.take_of_length_le (by simp)
      simp [Value.cells, hb, g3, hbb, ht]
    · cases ex <;> simp [growHp]
    · cases ex <;> simp [growHp]
    · cases ex <;> simp [growHp]
    · have e1 : i ≠ h.next := by omega
      have e2 : i ≠ o := by omega
      cases ex <;> simp [growHp, e1, e2]
end
end Go.Eng
