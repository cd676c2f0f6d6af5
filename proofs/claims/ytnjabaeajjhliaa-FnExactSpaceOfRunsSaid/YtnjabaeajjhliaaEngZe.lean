/- Lists that grow by append, of elements of m cells each, read later: whatever an element is. -/
import Derived.Test.YtnjabaeajjhliaaEngZb
namespace Go.Eng

/-- The cells of element k. -/
def chunk (m : Nat) (cs : List Value) (k : Nat) : List Value := (cs.drop (k * m)).take m
theorem chunk_app1 {m : Nat} {a b : List Value} {n k : Nat} (ha : a.length = n * m) (hk : k < n) : chunk m (a ++ b) k = chunk m a k := by
  unfold chunk
  have h1 : k * m + m ≤ n * m := by
    have := Nat.mul_le_mul_right m (show k + 1 ≤ n from hk)
    rwa [Nat.add_mul, Nat.one_mul] at this
  rw [List.drop_append_of_le_length (by omega), List.take_append_of_le_length (by simp; omega)]
theorem chunk_app2 {m : Nat} {a b : List Value} {n k : Nat} (ha : a.length = n * m) (hk : n ≤ k) : chunk m (a ++ b) k = chunk m b (k - n) := by
  unfold chunk
  have h1 : n * m ≤ k * m := Nat.mul_le_mul_right m hk
  rw [List.drop_append, List.drop_eq_nil_of_le (by omega), List.nil_append, ha, Nat.sub_mul]
theorem chunk_all {m : Nat} {cs : List Value} (h : cs.length = m) : chunk m cs 0 = cs := by
  unfold chunk; rw [Nat.zero_mul, List.drop_zero, List.take_of_length_le (by omega)]
theorem chunk_1 {cs : List Value} {k : Nat} (h : k < cs.length) : chunk 1 cs k = [cs.getD k undef] := by
  unfold chunk
  rw [Nat.mul_one, List.drop_eq_getElem_cons h, List.take_succ_cons, List.take_zero, List.getD_eq_getElem?_getD, List.getElem?_eq_getElem h]; rfl

def ObjIn : Value → Nat → Prop
  | .slice (some ⟨o, _, _⟩) _ _, x => o = x
  | _, _ => False

/-- A reading that stays when more objects are allowed and none of its own is changed. -/
structure Steady {α : Type} (R : (Nat → Prop) → Hp → List Value → α → Prop) : Prop where
  mono : ∀ F G h h' u x, R F h u x → (∀ o, F o → G o) → Same F h h' → R G h' u x
  low : ∀ F h u x, R F h u x → R (fun o => F o ∧ o < h.next) h u x

section
variable {α : Type} {m : Nat} {R : (Nat → Prop) → Hp → List Value → α → Prop}

def GL (m : Nat) (R : (Nat → Prop) → Hp → List Value → α → Prop) (n : Nat) (h : Hp) (v : Value) (L : List α) : Prop :=
  (L = [] ∧ v = .slice none 0 0) ∨ ∃ o ex cs, v = .slice (some ⟨o, 0, none⟩) L.length L.length ∧ n ≤ o ∧ o < h.next ∧ h.get o = .cells cs true ex m ∧ cs.length = L.length * m ∧ ∀ k (hk : k < L.length), R (fun x => n ≤ x ∧ x ≠ o) h (chunk m cs k) L[k]

theorem GL.nil (n : Nat) (h : Hp) : GL m R n h (.slice none 0 0) [] := .inl ⟨rfl, rfl⟩
theorem GL.lit {n : Nat} {h : Hp} {o : Nat} {ex : Bool} (h1 : n ≤ o) (h2 : o < h.next) (h3 : h.get o = .cells [] true ex m) : GL m R n h (.slice (some ⟨o, 0, none⟩) 0 0) [] :=
  .inr ⟨o, ex, [], rfl, h1, h2, h3, by simp, fun k hk => absurd hk (by simp)⟩
theorem GL.lenD {n : Nat} {h : Hp} {v : Value} {L : List α} (hs : GL m R n h v L) (P : Program) (t : TypeId) : Go.Eng.lenD P t v = (elT P t).map fun _ => .int .i64 L.length := by
  rcases hs with ⟨rfl, rfl⟩ | ⟨o, ex, cs, rfl, _⟩ <;> simp
theorem GL.nt {n : Nat} {h : Hp} {v : Value} {L : List α} (hs : GL m R n h v L) : notTup v = true := by
  rcases hs with ⟨rfl, rfl⟩ | ⟨o, ex, cs, rfl, _⟩ <;> rfl
theorem GL.cs {n : Nat} {h : Hp} {v : Value} {L : List α} (hs : GL m R n h v L) : v.cells = #[v] := by
  rcases hs with ⟨rfl, rfl⟩ | ⟨o, ex, cs, rfl, _⟩ <;> rfl
theorem GL.same {n : Nat} {h h' : Hp} (hR : Steady R) {v : Value} {L : List α} (hs : GL m R n h v L) (hk : Same (fun x => n ≤ x) h h') : GL m R n h' v L := by
  rcases hs with ⟨rfl, rfl⟩ | ⟨o, ex, cs, rfl, h1, h2, h3, h4, h5⟩
  · exact .inl ⟨rfl, rfl⟩
  · exact .inr ⟨o, ex, cs, rfl, h1, Nat.lt_of_lt_of_le h2 hk.1, by rw [hk.2 o h1 h2]; exact h3, h4, fun k hk' => hR.mono _ _ h h' _ _ (h5 k hk') (fun _ h => h) ⟨hk.1, fun x hx hl => hk.2 x hx.1 hl⟩⟩
theorem GL.keep {n : Nat} {h h' : Hp} (hR : Steady R) {v : Value} {L : List α} (hs : GL m R n h v L) (hk : Keeps h h') : GL m R n h' v L := hs.same hR (.of_keeps hk)
theorem GL.obj {n : Nat} {h : Hp} {v : Value} {L : List α} (hs : GL m R n h v L) {o : Nat} (ho : ObjIn v o) : n ≤ o ∧ o < h.next := by
  rcases hs with ⟨rfl, rfl⟩ | ⟨p, ex, cs, rfl, h1, h2, _⟩
  · exact ho.elim
  · cases ho; exact ⟨h1, h2⟩

/-- Elements appended. -/
theorem GL.append2 {P : Program} {n : Nat} {h0 h : Hp} {v y : Value} {L K : List α} {t t' e b : Nat} {z : Value} {ys : List Value} {F : Nat → Prop} (hR : Steady R) (hs : GL m R n h v L)
    (hsrc : srcV h m y = some (K.length, ys)) (hyl : ys.length = K.length * m) (hy : ∀ k (hk : k < K.length), R F h (chunk m ys k) K[k]) (hF : ∀ x, F x → n ≤ x ∧ x < h.next ∧ ¬ ObjIn v x)
    (h1 : elT P t = some e) (h2 : szT P e = some m) (h3 : zeroT P e = some z) (hz : z.cells.size = m) (h4 : byT P e = some b) (hb : b ≠ 0) (hb8 : b ≤ 64) (h5 : srcT P t' = true) (hl : L.length + K.length < 2 ^ 40)
    (hn : n ≤ h.next) (hA : Adds h0 h) (h0n : h0.next ≤ n) :
    ∃ v' h', appendD P t t' v y h = some (v', h') ∧ GL m R n h' v' (L ++ K) ∧ Adds h0 h' ∧ h.next ≤ h'.next ∧ (∀ o, o < h.next → ¬ ObjIn v o → h'.get o = h.get o) ∧ ∀ o, ObjIn v' o → ObjIn v o ∨ h.next ≤ o := by
  by_cases hy0 : K.length = 0
  · have := List.length_eq_zero_iff.1 hy0
    subst this
    refine ⟨v, h, ?_, by simpa using hs, hA, Nat.le_refl _, fun _ _ _ => rfl, fun o ho => .inl ho⟩
    simp only [appendD, h1, h2, h3, h4, hsrc, h5]
    rcases hs with ⟨rfl, rfl⟩ | ⟨o, ex, cs, rfl, g1, g2, g3⟩ <;> simp [hb, hz]
  have hbb : (L.length + K.length) * b ≤ 140737488355328 := Nat.le_trans (Nat.mul_le_mul (Nat.le_of_lt hl) hb8) (by decide)
  have hbb1 : K.length * b ≤ 140737488355328 := Nat.le_trans (Nat.mul_le_mul_right _ (by omega)) hbb
  have hne : K ≠ [] := fun e => hy0 (by rw [e]; rfl)
  rcases hs with ⟨rfl, rfl⟩ | ⟨o, ex, cs, rfl, g1, g2, g3, g4, g5⟩
  · refine ⟨.slice (some ⟨h.next, 0, none⟩) K.length K.length, h.alloc (.cells ys true false m), ?_, .inr ⟨h.next, false, ys, rfl, hn, Nat.lt_succ_self _, by simp, hyl, fun k hk => ?_⟩, by simp [hA], Nat.le_succ _, fun o ho _ => by simp [Nat.ne_of_lt ho], fun o ho => .inr (by cases ho; exact Nat.le_refl _)⟩
    · simp only [appendD, h1, h2, h3, h4, hsrc, h5]
      simp [hb, hbb1, hne, hz]
    · exact hR.mono _ _ h _ _ _ (hy k hk) (fun x hx => ⟨(hF x hx).1, by have := (hF x hx).2.1; omega⟩) (.of_keeps (Keeps.alloc _ _))
  · have hmm : (L.length + K.length) * m = L.length * m + K.length * m := Nat.add_mul _ _ _
    have hcs : (cs.drop 0).take (L.length * m) = cs := by rw [List.drop_zero, List.take_of_length_le (by omega)]
    have hsame : ∀ G : Nat → Prop, (∀ x, G x → x ≠ o ∧ x < h.next) → Same G h (growHp h o ex (.cells (cs ++ ys) true false m)) := fun G hG => by
      refine ⟨by cases ex <;> simp [growHp], fun x hx hl => ?_⟩
      have e1 : x ≠ h.next := by have := (hG x hx).2; omega
      have e2 : x ≠ o := (hG x hx).1
      cases ex <;> simp [growHp, e1, e2]
    have hgo : (growHp h o ex (.cells (cs ++ ys) true false m)).get h.next = .cells (cs ++ ys) true false m := by cases ex <;> simp [growHp]
    have hgn : (growHp h o ex (.cells (cs ++ ys) true false m)).next = h.next + 1 := by cases ex <;> simp [growHp]
    refine ⟨.slice (some ⟨h.next, 0, none⟩) (L.length + K.length) (L.length + K.length), growHp h o ex (.cells (cs ++ ys) true false m), ?_, .inr ⟨h.next, false, cs ++ ys, by simp, hn, by rw [hgn]; exact Nat.lt_succ_self _, hgo, by simp [g4, hyl, hmm], fun k hk => ?_⟩, hA.grow (by omega) (fun _ => rfl), by rw [hgn]; exact Nat.le_succ _, fun i hi hin => ?_, fun i hi => .inr (by cases hi; exact Nat.le_refl _)⟩
    · simp only [appendD, h1, h2, h3, h4, hsrc, h5, g3]
      simp only [Nat.zero_add, g4, Nat.le_refl, if_true, hcs, hz]
      simp [hb, hbb, hne, show ¬ (L.length + K.length ≤ L.length) by omega]
    · simp only [List.length_append] at hk
      by_cases hkl : k < L.length
      · rw [chunk_app1 g4 hkl, List.getElem_append_left hkl]
        have h6 := g5 k hkl
        -- what the old elements read is not the new object
        have h7 : R (fun x => (n ≤ x ∧ x ≠ o) ∧ x < h.next) h (chunk m cs k) L[k] → R (fun x => n ≤ x ∧ x ≠ h.next) (growHp h o ex (.cells (cs ++ ys) true false m)) (chunk m cs k) L[k] := fun q =>
          hR.mono _ _ h _ _ _ q (fun x hx => ⟨hx.1.1, by have := hx.2; omega⟩) (hsame _ fun x hx => ⟨hx.1.2, hx.2⟩)
        exact h7 (hR.low _ _ _ _ h6)
      · rw [chunk_app2 g4 (by omega), List.getElem_append_right (by omega)]
        exact hR.mono _ _ h _ _ _ (hy (k - L.length) (by omega)) (fun x hx => ⟨(hF x hx).1, by have := (hF x hx).2.1; omega⟩) (hsame _ fun x hx => ⟨fun e => (hF x hx).2.2 e.symm, (hF x hx).2.1⟩)
    · have e1 : i ≠ h.next := by omega
      have e2 : i ≠ o := fun e => hin e.symm
      cases ex <;> simp [growHp, e1, e2]
/-- Elements appended. -/
theorem GL.append {P : Program} {n : Nat} {h0 h : Hp} {v y : Value} {L K : List α} {t t' e b : Nat} {z : Value} {ys : List Value} {F : Nat → Prop} (hR : Steady R) (hs : GL m R n h v L)
    (hsrc : srcV h m y = some (K.length, ys)) (hyl : ys.length = K.length * m) (hy : ∀ k (hk : k < K.length), R F h (chunk m ys k) K[k]) (hF : ∀ x, F x → n ≤ x ∧ x < h.next ∧ ¬ ObjIn v x)
    (h1 : elT P t = some e) (h2 : szT P e = some m) (h3 : zeroT P e = some z) (hz : z.cells.size = m) (h4 : byT P e = some b) (hb : b ≠ 0) (hb8 : b ≤ 64) (h5 : srcT P t' = true) (hl : L.length + K.length < 2 ^ 40)
    (hn : n ≤ h.next) (hA : Adds h0 h) (h0n : h0.next ≤ n) :
    ∃ v' h', appendD P t t' v y h = some (v', h') ∧ GL m R n h' v' (L ++ K) ∧ Adds h0 h' ∧ h.next ≤ h'.next ∧ ∀ o, o < h.next → o < n → h'.get o = h.get o := by
  obtain ⟨v', h', g1, g2, g3, g4, g5, _⟩ := GL.append2 (P := P) (t := t) (t' := t') (y := y) hR hs hsrc hyl hy hF h1 h2 h3 hz h4 hb hb8 h5 hl hn hA h0n
  exact ⟨v', h', g1, g2, g3, g4, fun o ho hon => g5 o ho fun hob => by have := (hs.obj hob).1; omega⟩
end

section
variable {α : Type} {m : Nat} {R : (Nat → Prop) → Hp → List Value → α → Prop}
theorem chunk_take {m k i : Nat} {cs : List Value} (h : i < k) : chunk m (cs.take (k * m)) i = chunk m cs i := by
  unfold chunk
  have h1 : i * m + m ≤ k * m := by
    have := Nat.mul_le_mul_right m (show i + 1 ≤ k from h)
    rwa [Nat.add_mul, Nat.one_mul] at this
  rw [List.drop_take, List.take_take, Nat.min_eq_left (by omega)]
theorem chunk_drop {m k i : Nat} {cs : List Value} : chunk m (cs.drop (k * m)) i = chunk m cs (k + i) := by
  unfold chunk
  rw [List.drop_drop, ← Nat.add_mul]
/-- The parts of a list, as append reads them. -/
theorem GL.parts {n : Nat} {h : Hp} {v : Value} {L : List α} (hR : Steady R) (hs : GL m R n h v L) : (L = [] ∧ v = .slice none 0 0) ∨ ∃ o ex cs, v = .slice (some ⟨o, 0, none⟩) L.length L.length ∧ n ≤ o ∧ o < h.next ∧ h.get o = .cells cs true ex m ∧ cs.length = L.length * m ∧
    (∀ k, k ≤ L.length → ∃ ys, srcV h m (.slice (some ⟨o, 0, none⟩) k L.length) = some ((L.take k).length, ys) ∧ ys.length = (L.take k).length * m ∧ ∀ i (hi : i < (L.take k).length), R (fun x => (n ≤ x ∧ x ≠ o) ∧ x < h.next) h (chunk m ys i) (L.take k)[i]) ∧
    (∀ k, k ≤ L.length → ∃ ys, srcV h m (.slice (some ⟨o, k * m, none⟩) (L.length - k) (L.length - k)) = some ((L.drop k).length, ys) ∧ ys.length = (L.drop k).length * m ∧ ∀ i (hi : i < (L.drop k).length), R (fun x => (n ≤ x ∧ x ≠ o) ∧ x < h.next) h (chunk m ys i) (L.drop k)[i]) := by
  rcases hs with hs | ⟨o, ex, cs, rfl, h1, h2, h3, h4, h5⟩
  · exact .inl hs
  · refine .inr ⟨o, ex, cs, rfl, h1, h2, h3, h4, fun k hk => ?_, fun k hk => ?_⟩
    · have hl : (L.take k).length = k := by simp; omega
      have hm : k * m ≤ cs.length := by rw [h4]; exact Nat.mul_le_mul_right m hk
      refine ⟨cs.take (k * m), ?_, by rw [List.length_take, hl]; omega, fun i hi => ?_⟩
      · unfold srcV srcW
        simp only [h3, hl, Nat.zero_add, hm, if_true, List.drop_zero]
      · rw [chunk_take (by omega), List.getElem_take]
        exact hR.low _ _ _ _ (h5 i (by omega))
    · have hl : (L.drop k).length = L.length - k := by simp
      have hm : k * m + (L.length - k) * m = cs.length := by rw [h4, ← Nat.add_mul]; congr 1; omega
      have hd : (cs.drop (k * m)).take ((L.length - k) * m) = cs.drop (k * m) := List.take_of_length_le (by rw [List.length_drop]; omega)
      refine ⟨cs.drop (k * m), ?_, by rw [List.length_drop, hl]; omega, fun i hi => ?_⟩
      · unfold srcV srcW
        simp only [h3, hl, hm, Nat.le_refl, if_true, hd]
      · rw [chunk_drop, List.getElem_drop]
        exact hR.low _ _ _ _ (h5 _ (by omega))
end

theorem srcV_same {h h' : Hp} {m o i n c : Nat} (he : h'.get o = h.get o) : srcV h' m (.slice (some ⟨o, i, none⟩) n c) = srcV h m (.slice (some ⟨o, i, none⟩) n c) := by
  unfold srcV srcW
  simp only [he]
/-- The parts of a list, as append reads them in a later heap. -/
theorem GL.parts2 {α : Type} {m : Nat} {R : (Nat → Prop) → Hp → List Value → α → Prop} {n : Nat} {h h' : Hp} {v : Value} {L : List α} (hR : Steady R) (hs : GL m R n h v L) (hk : Same (fun x => n ≤ x) h h') :
    (L = [] ∧ v = .slice none 0 0) ∨ ∃ o, v = .slice (some ⟨o, 0, none⟩) L.length L.length ∧
    (∀ k, k ≤ L.length → ∃ ys, srcV h' m (.slice (some ⟨o, 0, none⟩) k L.length) = some ((L.take k).length, ys) ∧ ys.length = (L.take k).length * m ∧ ∀ i (hi : i < (L.take k).length), R (fun x => n ≤ x ∧ x < h.next) h' (chunk m ys i) (L.take k)[i]) ∧
    (∀ k, k ≤ L.length → ∃ ys, srcV h' m (.slice (some ⟨o, k * m, none⟩) (L.length - k) (L.length - k)) = some ((L.drop k).length, ys) ∧ ys.length = (L.drop k).length * m ∧ ∀ i (hi : i < (L.drop k).length), R (fun x => n ≤ x ∧ x < h.next) h' (chunk m ys i) (L.drop k)[i]) := by
  rcases hs.parts hR with hs | ⟨o, ex, cs, e, h1, h2, h3, h4, h5, h6⟩
  · exact .inl hs
  · have he : h'.get o = h.get o := hk.2 o h1 h2
    refine .inr ⟨o, e, fun k hk' => ?_, fun k hk' => ?_⟩
    · obtain ⟨ys, g1, g2, g3⟩ := h5 k hk'
      exact ⟨ys, by rw [srcV_same he]; exact g1, g2, fun i hi => hR.mono _ _ h h' _ _ (g3 i hi) (fun x hx => ⟨hx.1.1, hx.2⟩) ⟨hk.1, fun x hx hl => hk.2 x hx.1.1 hl⟩⟩
    · obtain ⟨ys, g1, g2, g3⟩ := h6 k hk'
      exact ⟨ys, by rw [srcV_same he]; exact g1, g2, fun i hi => hR.mono _ _ h h' _ _ (g3 i hi) (fun x hx => ⟨hx.1.1, hx.2⟩) ⟨hk.1, fun x hx hl => hk.2 x hx.1.1 hl⟩⟩

theorem GL.partsAt {α : Type} {m : Nat} {R : (Nat → Prop) → Hp → List Value → α → Prop} {n o : Nat} {h h' : Hp} {v : Value} {L : List α} (hR : Steady R) (hs : GL m R n h v L) (he : v = .slice (some ⟨o, 0, none⟩) L.length L.length) (hk : Same (fun x => n ≤ x) h h') :
    (∀ k, k ≤ L.length → ∃ ys, srcV h' m (.slice (some ⟨o, 0, none⟩) k L.length) = some ((L.take k).length, ys) ∧ ys.length = (L.take k).length * m ∧ ∀ i (hi : i < (L.take k).length), R (fun x => n ≤ x ∧ x < h.next) h' (chunk m ys i) (L.take k)[i]) ∧
    (∀ k, k ≤ L.length → ∃ ys, srcV h' m (.slice (some ⟨o, k * m, none⟩) (L.length - k) (L.length - k)) = some ((L.drop k).length, ys) ∧ ys.length = (L.drop k).length * m ∧ ∀ i (hi : i < (L.drop k).length), R (fun x => n ≤ x ∧ x < h.next) h' (chunk m ys i) (L.drop k)[i]) := by
  rcases hs.parts2 hR hk with ⟨_, e⟩ | ⟨o', e, h1, h2⟩
  · rw [e] at he; cases he
  · rw [e] at he
    simp only [Value.slice.injEq, Option.some.injEq, Addr.mk.injEq] at he
    obtain ⟨⟨rfl, _⟩, _⟩ := he
    exact ⟨h1, h2⟩
theorem chunk2_at {cs : List Value} {k : Nat} {a b : Value} (h : chunk 2 cs k = [a, b]) : cs[k * 2]? = some a ∧ cs[k * 2 + 1]? = some b := by
  unfold chunk at h
  have h0 := congrArg (fun l => l[0]?) h
  have h1 := congrArg (fun l => l[1]?) h
  simp only [List.getElem?_take, List.getElem?_drop] at h0 h1
  exact ⟨by simpa using h0, by simpa using h1⟩

theorem SlF.low {α : Type} {F : Nat → Prop} {R R' : Hp → Value → α → Prop} {h : Hp} (hR : ∀ u x, R h u x → R' h u x) {v : Value} {xs : List α} (hs : SlF F R h v xs) : SlF (fun o => F o ∧ o < h.next) R' h v xs := by
  obtain ⟨s, c, e, hc, hc', hx⟩ := hs
  refine ⟨s, c, e, hc, hc', fun k x hk' => ?_⟩
  obtain ⟨o, i, cs, own, ex, es, h1, hf, h2, h3, h4, h5⟩ := hx k x hk'
  exact ⟨o, i, cs, own, ex, es, h1, ⟨hf, h2⟩, h2, h3, h4, hR _ _ h5⟩
theorem IntsF.low {F : Nat → Prop} {h : Hp} {v : Value} {xs : List Int} (hs : IntsF F h v xs) : IntsF (fun o => F o ∧ o < h.next) h v xs := SlF.low (R := isInt) (R' := isInt) (fun _ _ h => h) hs
theorem IRowsF.low {F : Nat → Prop} {h : Hp} {v : Value} {xs : List (List Int)} (hs : IRowsF F h v xs) : IRowsF (fun o => F o ∧ o < h.next) h v xs := SlF.low (R := IntsF F) (R' := IntsF _) (fun _ _ h => h.low) hs

/-- Rows of numbers. -/
def rowR (F : Nat → Prop) (h : Hp) (u : List Value) (xs : List Int) : Prop := ∃ v, u = [v] ∧ IntsF F h v xs
theorem rowR_steady : Steady rowR where
  mono F G h h' u x := by
    rintro ⟨v, rfl, hv⟩ hfg hk
    exact ⟨v, rfl, (hv.same hk).sub hfg⟩
  low F h u x := by
    rintro ⟨v, rfl, hv⟩
    exact ⟨v, rfl, hv.low⟩
def RowsG (n : Nat) (h : Hp) (v : Value) (L : List (List Int)) : Prop := GL 1 rowR n h v L
theorem RowsG.read {n : Nat} {h : Hp} {v : Value} {L : List (List Int)} (hs : RowsG n h v L) (hl : L.length < 2 ^ 63) : IRowsF (fun x => n ≤ x ∧ x < h.next) h v L := by
  rcases hs with ⟨rfl, rfl⟩ | ⟨o, ex, cs, rfl, h1, h2, h3, h4, h5⟩
  · exact ⟨none, 0, rfl, Nat.le_refl _, by decide, fun k x hk => by simp at hk⟩
  · refine ⟨_, L.length, rfl, Nat.le_refl _, hl, fun k x hk => ?_⟩
    obtain ⟨hk', e⟩ := List.getElem?_eq_some_iff.1 hk
    subst e
    obtain ⟨v, e, hv⟩ := h5 k hk'
    rw [chunk_1 (by omega)] at e
    simp only [List.cons.injEq, and_true] at e
    refine ⟨o, 0, cs, true, ex, 1, rfl, ⟨h1, h2⟩, h2, h3, by omega, ?_⟩
    rw [Nat.zero_add, e]
    exact hv.low.sub fun x hx => ⟨hx.1.1, hx.2⟩
/-- What an append of rows reads. -/
theorem IRowsF.src {F : Nat → Prop} {h : Hp} {v : Value} {L : List (List Int)} (hs : IRowsF F h v L) : ∃ ys, srcV h 1 v = some (L.length, ys) ∧ ys.length = L.length * 1 ∧ ∀ k (hk : k < L.length), rowR F h (chunk 1 ys k) L[k] := by
  by_cases h0 : L.length = 0
  · obtain ⟨s, c, e, _, _⟩ := Sl.form hs.sl
    have := List.length_eq_zero_iff.1 h0
    subst this
    exact ⟨[], by rw [e]; exact srcV_zero _ _ _ _, rfl, fun k hk => absurd hk (by simp)⟩
  · obtain ⟨o, i, c, cs, own, ex, es, e, b, g, l, r⟩ := SlF.open hs (by omega)
    refine ⟨(cs.drop i).take L.length, ?_, by simp; omega, fun k hk => ?_⟩
    · have hb : i + L.length * 1 ≤ cs.length := by omega
      rw [e]
      unfold srcV srcW
      simp only [g, hb, if_true]
      simp
    · rw [chunk_1 (by simp; omega)]
      have h1 := r k hk
      rw [List.getD_eq_getElem?_getD] at h1
      refine ⟨_, rfl, ?_⟩
      rw [List.getD_eq_getElem?_getD, List.getElem?_take, if_pos (by omega), List.getElem?_drop]
      exact h1
end Go.Eng
