/- Part 4 of the proof of greedyIsBest_holds: what it uses of the texts that lie in the notes, merged. -/
import Derived.Test.YtnncipcldbopgaaQg3
import Derived.Deep.SlicePairs
namespace Go.Eng
def chunk (m : Nat) (cs : List Value) (k : Nat) : List Value := (cs.drop (k * m)).take m
theorem chunk_app1 {m : Nat} {a b : List Value} {n k : Nat} (ha : a.length = n * m) (hk : k < n) : chunk m (a ++ b) k = chunk m a k := by
  unfold chunk
  have h1 : k * m + m ≤ n * m := by
    have := Nat.mul_le_mul_right m (show k + 1 ≤ n from hk)
    rwa [Nat.add_mul, Nat.one_mul] at this
  rw [List.drop_append_of_le_length (by omega), List.take_append_of_le_length (by simp; omega)]
theorem chunk_app2 {m : Nat} {a b : List Value} {n k : Nat} (ha : a.length = n * m) (hk : n ≤ k) : chunk m (a ++ b) k = chunk m b (k - n) := by
  unfold chunk
  have h1 : n * m ≤ k * m := Nat.mul_le_mul_right m hk
  rw [List.drop_append, List.drop_eq_nil_of_le (by omega), List.nil_append, ha, Nat.sub_mul]
def ObjIn : Value → Nat → Prop
  | .slice (some ⟨o, _, _⟩) _ _, x => o = x
  | _, _ => False
structure Steady {α : Type} (R : (Nat → Prop) → Hp → List Value → α → Prop) : Prop where
  mono : ∀ F G h h' u x, R F h u x → (∀ o, F o → G o) → Same F h h' → R G h' u x
  low : ∀ F h u x, R F h u x → R (fun o => F o ∧ o < h.next) h u x
section
variable {α : Type} {m : Nat} {R : (Nat → Prop) → Hp → List Value → α → Prop}
def GL (m : Nat) (R : (Nat → Prop) → Hp → List Value → α → Prop) (n : Nat) (h : Hp) (v : Value) (L : List α) : Prop :=
  (L = [] ∧ v = .slice none 0 0) ∨ ∃ o ex cs, v = .slice (some ⟨o, 0, none⟩) L.length L.length ∧ n ≤ o ∧ o < h.next ∧ h.get o = .cells cs true ex m ∧ cs.length = L.length * m ∧ ∀ k (hk : k < L.length), R (fun x => n ≤ x ∧ x ≠ o) h (chunk m cs k) L[k]
theorem GL.nil (n : Nat) (h : Hp) : GL m R n h (.slice none 0 0) [] := .inl ⟨rfl, rfl⟩
theorem GL.lenD {n : Nat} {h : Hp} {v : Value} {L : List α} (hs : GL m R n h v L) (P : Program) (t : TypeId) : Go.Eng.lenD P t v = (elT P t).map fun _ => .int .i64 L.length := by
  rcases hs with ⟨rfl, rfl⟩ | ⟨o, ex, cs, rfl, _⟩ <;> simp
theorem GL.nt {n : Nat} {h : Hp} {v : Value} {L : List α} (hs : GL m R n h v L) : notTup v = true := by
  rcases hs with ⟨rfl, rfl⟩ | ⟨o, ex, cs, rfl, _⟩ <;> rfl
theorem GL.cs {n : Nat} {h : Hp} {v : Value} {L : List α} (hs : GL m R n h v L) : v.cells = #[v] := by
  rcases hs with ⟨rfl, rfl⟩ | ⟨o, ex, cs, rfl, _⟩ <;> rfl
theorem GL.same {n : Nat} {h h' : Hp} (hR : Steady R) {v : Value} {L : List α} (hs : GL m R n h v L) (hk : Same (fun x => n ≤ x) h h') : GL m R n h' v L := by
  rcases hs with ⟨rfl, rfl⟩ | ⟨o, ex, cs, rfl, h1, h2, h3, h4, h5⟩
  · exact .inl ⟨rfl, rfl⟩
  · exact .inr ⟨o, ex, cs, rfl, h1, Nat.lt_of_lt_of_le h2 hk.1, by rw [hk.2 o h1 h2]; exact h3, h4, fun k hk' => hR.mono _ _ h h' _ _ (h5 k hk') (fun _ h => h) ⟨hk.1, fun x hx hl => hk.2 x hx.1 hl⟩⟩
theorem GL.keep {n : Nat} {h h' : Hp} (hR : Steady R) {v : Value} {L : List α} (hs : GL m R n h v L) (hk : Keeps h h') : GL m R n h' v L := hs.same hR (.of_keeps hk)
theorem GL.obj {n : Nat} {h : Hp} {v : Value} {L : List α} (hs : GL m R n h v L) {o : Nat} (ho : ObjIn v o) : n ≤ o ∧ o < h.next := by
  rcases hs with ⟨rfl, rfl⟩ | ⟨p, ex, cs, rfl, h1, h2, _⟩
  · exact ho.elim
  · cases ho; exact ⟨h1, h2⟩
theorem GL.append2 {P : Program} {n : Nat} {h0 h : Hp} {v y : Value} {L K : List α} {t t' e b : Nat} {z : Value} {ys : List Value} {F : Nat → Prop} (hR : Steady R) (hs : GL m R n h v L)
    (hsrc : srcV h m y = some (K.length, ys)) (hyl : ys.length = K.length * m) (hy : ∀ k (hk : k < K.length), R F h (chunk m ys k) K[k]) (hF : ∀ x, F x → n ≤ x ∧ x < h.next ∧ ¬ ObjIn v x)
    (h1 : elT P t = some e) (h2 : szT P e = some m) (h3 : zeroT P e = some z) (hz : z.cells.size = m) (h4 : byT P e = some b) (hb : b ≠ 0) (hb8 : b ≤ 64) (h5 : srcT P t' = true) (hl : L.length + K.length < 2 ^ 40)
    (hn : n ≤ h.next) (hA : Adds h0 h) (h0n : h0.next ≤ n) :
    ∃ v' h', appendD P t t' v y h = some (v', h') ∧ GL m R n h' v' (L ++ K) ∧ Adds h0 h' ∧ h.next ≤ h'.next ∧ (∀ o, o < h.next → ¬ ObjIn v o → h'.get o = h.get o) ∧ ∀ o, ObjIn v' o → ObjIn v o ∨ h.next ≤ o := by
  by_cases hy0 : K.length = 0
  · have := List.length_eq_zero_iff.1 hy0
    subst this
    refine ⟨v, h, ?_, by simpa using hs, hA, Nat.le_refl _, fun _ _ _ => rfl, fun o ho => .inl ho⟩
    simp only [appendD, h1, h2, h3, h4, hsrc, h5]
    rcases hs with ⟨rfl, rfl⟩ | ⟨o, ex, cs, rfl, g1, g2, g3⟩ <;> simp [hb, hz]
  have hbb : (L.length + K.length) * b ≤ 140737488355328 := Nat.le_trans (Nat.mul_le_mul (Nat.le_of_lt hl) hb8) (by decide)
  have hbb1 : K.length * b ≤ 140737488355328 := Nat.le_trans (Nat.mul_le_mul_right _ (by omega)) hbb
  have hne : K ≠ [] := fun e => hy0 (by rw [e]; rfl)
  rcases hs with ⟨rfl, rfl⟩ | ⟨o, ex, cs, rfl, g1, g2, g3, g4, g5⟩
  · refine ⟨.slice (some ⟨h.next, 0, none⟩) K.length K.length, h.alloc (.cells ys true false m), ?_, .inr ⟨h.next, false, ys, rfl, hn, Nat.lt_succ_self _, by simp, hyl, fun k hk => ?_⟩, by simp [hA], Nat.le_succ _, fun o ho _ => by simp [Nat.ne_of_lt ho], fun o ho => .inr (by cases ho; exact Nat.le_refl _)⟩
    · simp only [appendD, h1, h2, h3, h4, hsrc, h5]
      simp [hb, hbb1, hne, hz]
    · exact hR.mono _ _ h _ _ _ (hy k hk) (fun x hx => ⟨(hF x hx).1, by have := (hF x hx).2.1; omega⟩) (.of_keeps (Keeps.alloc _ _))
  · have hmm : (L.length + K.length) * m = L.length * m + K.length * m := Nat.add_mul _ _ _
    have hcs : (cs.drop 0).take (L.length * m) = cs := by rw [List.drop_zero, List.take_of_length_le (by omega)]
    have hsame : ∀ G : Nat → Prop, (∀ x, G x → x ≠ o ∧ x < h.next) → Same G h (growHp h o ex (.cells (cs ++ ys) true false m)) := fun G hG => by
      refine ⟨by cases ex <;> simp [growHp], fun x hx hl => ?_⟩
      have e1 : x ≠ h.next := by have := (hG x hx).2; omega
      have e2 : x ≠ o := (hG x hx).1
      cases ex <;> simp [growHp, e1, e2]
    have hgo : (growHp h o ex (.cells (cs ++ ys) true false m)).get h.next = .cells (cs ++ ys) true false m := by cases ex <;> simp [growHp]
    have hgn : (growHp h o ex (.cells (cs ++ ys) true false m)).next = h.next + 1 := by cases ex <;> simp [growHp]
    refine ⟨.slice (some ⟨h.next, 0, none⟩) (L.length + K.length) (L.length + K.length), growHp h o ex (.cells (cs ++ ys) true false m), ?_, .inr ⟨h.next, false, cs ++ ys, by simp, hn, by rw [hgn]; exact Nat.lt_succ_self _, hgo, by simp [g4, hyl, hmm], fun k hk => ?_⟩, hA.grow (by omega) (fun _ => rfl), by rw [hgn]; exact Nat.le_succ _, fun i hi hin => ?_, fun i hi => .inr (by cases hi; exact Nat.le_refl _)⟩
    · simp only [appendD, h1, h2, h3, h4, hsrc, h5, g3]
      simp only [Nat.zero_add, g4, Nat.le_refl, if_true, hcs, hz]
      simp [hb, hbb, hne, show ¬ (L.length + K.length ≤ L.length) by omega]
    · simp only [List.length_append] at hk
      by_cases hkl : k < L.length
      · rw [chunk_app1 g4 hkl, List.getElem_append_left hkl]
        have h6 := g5 k hkl
        -- what the old elements read is not the new object
        have h7 : R (fun x => (n ≤ x ∧ x ≠ o) ∧ x < h.next) h (chunk m cs k) L[k] → R (fun x => n ≤ x ∧ x ≠ h.next) (growHp h o ex (.cells (cs ++ ys) true false m)) (chunk m cs k) L[k] := fun q =>
          hR.mono _ _ h _ _ _ q (fun x hx => ⟨hx.1.1, by have := hx.2; omega⟩) (hsame _ fun x hx => ⟨hx.1.2, hx.2⟩)
        exact h7 (hR.low _ _ _ _ h6)
      · rw [chunk_app2 g4 (by omega), List.getElem_append_right (by omega)]
        exact hR.mono _ _ h _ _ _ (hy (k - L.length) (by omega)) (fun x hx => ⟨(hF x hx).1, by have := (hF x hx).2.1; omega⟩) (hsame _ fun x hx => ⟨fun e => (hF x hx).2.2 e.symm, (hF x hx).2.1⟩)
    · have e1 : i ≠ h.next := by omega
      have e2 : i ≠ o := fun e => hin e.symm
      cases ex <;> simp [growHp, e1, e2]
theorem GL.append {P : Program} {n : Nat} {h0 h : Hp} {v y : Value} {L K : List α} {t t' e b : Nat} {z : Value} {ys : List Value} {F : Nat → Prop} (hR : Steady R) (hs : GL m R n h v L)
    (hsrc : srcV h m y = some (K.length, ys)) (hyl : ys.length = K.length * m) (hy : ∀ k (hk : k < K.length), R F h (chunk m ys k) K[k]) (hF : ∀ x, F x → n ≤ x ∧ x < h.next ∧ ¬ ObjIn v x)
    (h1 : elT P t = some e) (h2 : szT P e = some m) (h3 : zeroT P e = some z) (hz : z.cells.size = m) (h4 : byT P e = some b) (hb : b ≠ 0) (hb8 : b ≤ 64) (h5 : srcT P t' = true) (hl : L.length + K.length < 2 ^ 40)
    (hn : n ≤ h.next) (hA : Adds h0 h) (h0n : h0.next ≤ n) :
    ∃ v' h', appendD P t t' v y h = some (v', h') ∧ GL m R n h' v' (L ++ K) ∧ Adds h0 h' ∧ h.next ≤ h'.next ∧ ∀ o, o < h.next → o < n → h'.get o = h.get o := by
  obtain ⟨v', h', g1, g2, g3, g4, g5, _⟩ := GL.append2 (P := P) (t := t) (t' := t') (y := y) hR hs hsrc hyl hy hF h1 h2 h3 hz h4 hb hb8 h5 hl hn hA h0n
  exact ⟨v', h', g1, g2, g3, g4, fun o ho hon => g5 o ho fun hob => by have := (hs.obj hob).1; omega⟩
end
section
variable {α : Type} {m : Nat} {R : (Nat → Prop) → Hp → List Value → α → Prop}
end
def rowR (F : Nat → Prop) (h : Hp) (u : List Value) (xs : List Int) : Prop := ∃ v, u = [v] ∧ IntsF F h v xs
def RowsG (n : Nat) (h : Hp) (v : Value) (L : List (List Int)) : Prop := GL 1 rowR n h v L
end Go.Eng
namespace Go.Proofs.Ytnncipcldbopgaa
set_option linter.unusedSimpArgs false
set_option linter.unusedVariables false
set_option maxHeartbeats 4000000
open Go Go.Eng
attribute [local irreducible] WD RunD PreD Runs CallOK
section
variable {σ : Type} (P : σ → (Nat → Prop) → Hp → Prop) (step : σ → List Nat → σ) (Good : List Nat → Prop) (base : Nat) (S : Nat → Prop) (fid : Nat) (dc : Array Value)
structure DoerN : Prop where
  stab : ∀ s T h h', P s T h → base ≤ h.next → h.next ≤ h'.next → (∀ o, o < h.next → (o < base ∨ T o) → h'.get o = h.get o) → P s T h'
  run : ∀ s T h w v, P s T h → base ≤ h.next → Ints h v (toN w) → Good w → ∃ u h', CallOK Try.prog fid (#[v] ++ dc) h u h' ∧ Wr (fun o => S o ∨ T o) h h' ∧ ∃ T', P (step s w) T' h' ∧ ∀ o, T' o → (T o ∨ h.next ≤ o) ∧ o < h'.next
  low : ∀ o, S o → o < base
  fn : fnOK Try.prog fid = true
end
theorem l1Has_ok (h : Hp) (v : Value) (xs : List Nat) (x : Nat) (hv : Ints h v (toN xs)) : CallOK Try.prog 245 #[v, .int .i64 (x : Int)] h (.bool (decide (x ∈ xs))) h := by
  refine callY_P 17 _ [.tmp 4] Try.func245 rfl rfl rfl (by first | rfl | simp) ?_
  have hL := hv.lenD
  have hsh := hv.short
  have hgt := toN_get xs
  have hln := toN_length xs
  try simp (disch := first | omega | (simp; done) | fail) [wrap64c, if_pos, if_neg, opAnd, opOr, opXor, opDiff, opShr, opBit, hL, hgt]
  refine WD_loopC [1, 7, 8] (fun m tm h' => ∃ j, m = xs.length - j ∧ h = h' ∧ tm 9 = .int .i64 (j : Int) ∧ (j ≤ xs.length) ∧ (¬ x ∈ xs.take j)) _ ⟨0, rfl, rfl, (by simp (disch := first | omega | (simp; done) | fail) [wrap64c, if_pos, if_neg, opAnd, opOr, opXor, opDiff, opShr, opBit, hL, hgt]), (by first | omega | assumption | (simp (disch := first | omega | (simp; done) | fail) [wrap64c, if_pos, if_neg, opAnd, opOr, opXor, opDiff, opShr, opBit, hL, hgt] <;> omega)), (by simp)⟩ ?_
  rintro m tm h' hFr ⟨j, rfl, rfl, e9, hj, hx⟩
  simp only [FrameL] at hFr
  obtain ⟨f1_0, f7_0, f8_0, -⟩ := hFr
  try simp (disch := first | omega | (simp; done) | fail) [wrap64c, if_pos, if_neg, opAnd, opOr, opXor, opDiff, opShr, opBit, hL, hgt] at f1_0 f7_0 f8_0
  have e1 := f1_0
  have e7 := f7_0
  have e8 := f8_0
  by_cases hlt : j < xs.length
  · obtain ⟨o_q, i_q, c_q, cs_q, own_q, ex_q, es_q, q_q, b_q, g_q, l_q, r_q⟩ := hv.open ((by omega))
    have z_q : ∀ h2 : i_q < cs_q.length, cs_q[i_q] = _ := fun h2 => r_q 0 ((by omega)) h2
    by_cases he : xs[j] = x
    · have hm : x ∈ xs := he ▸ List.getElem_mem hlt
      try simp (disch := first | omega | (simp; done) | fail) [wrap64c, if_pos, if_neg, opAnd, opOr, opXor, opDiff, opShr, opBit, hL, hgt, e1, e7, e8, e9, hlt, q_q, g_q, l_q, r_q, z_q, he]
      exact done_ret rfl (by simp [hm])
    · have hb : ((xs[j] : Int) == (x : Int)) = false := by simp; omega
      try simp (disch := first | omega | (simp; done) | fail) [wrap64c, if_pos, if_neg, opAnd, opOr, opXor, opDiff, opShr, opBit, hL, hgt, e1, e7, e8, e9, hlt, q_q, g_q, l_q, r_q, z_q, he, hb]
      refine loopK_next _ ?hm ?hf ⟨j + 1, rfl, rfl, (by simp (disch := first | omega | (simp; done) | fail) [wrap64c, if_pos, if_neg, opAnd, opOr, opXor, opDiff, opShr, opBit, hL, hgt, e1, e7, e8, e9, hlt, q_q, g_q, l_q, r_q, z_q, he, hb] <;> omega), (by first | omega | assumption | (simp (disch := first | omega | (simp; done) | fail) [wrap64c, if_pos, if_neg, opAnd, opOr, opXor, opDiff, opShr, opBit, hL, hgt, e1, e7, e8, e9, hlt, q_q, g_q, l_q, r_q, z_q, he, hb] <;> omega)), (by rw [List.take_succ_eq_append_getElem hlt, List.mem_append, List.mem_singleton]; exact not_or.2 ⟨hx, Ne.symm he⟩)⟩
      (case hm => first | omega | (simp; omega))
      (case hf => simp [FrameL, hL, hgt, e1, e7, e8, e9, hlt, q_q, g_q, l_q, r_q, z_q, he, hb, f1_0, f7_0, f8_0])
  · rw [List.take_of_length_le (by omega)] at hx
    try simp (disch := first | omega | (simp; done) | fail) [wrap64c, if_pos, if_neg, opAnd, opOr, opXor, opDiff, opShr, opBit, hL, hgt, e1, e7, e8, e9, hlt]
    exact done_ret rfl (by simp [hx])
end Go.Proofs.Ytnncipcldbopgaa
namespace Go.Proofs.Ytnncipcldbopgaa
set_option linter.unusedSimpArgs false
set_option linter.unusedVariables false
set_option maxHeartbeats 4000000
open Go Go.Eng
attribute [local irreducible] WD RunD PreD Runs CallOK
theorem sl_take {α : Type} {R : Hp → Value → α → Prop} {h : Hp} {o i n c k : Nat} {xs : List α} (hs : Sl R h (.slice (some ⟨o, i, none⟩) n c) xs) (hk : k ≤ xs.length) : Sl R h (.slice (some ⟨o, i, none⟩) k c) (xs.take k) := by
  obtain ⟨s, c', e, hc, hc', hx⟩ := hs
  cases e
  refine ⟨some ⟨o, i, none⟩, c, by simp [Nat.min_eq_left hk], by simp; omega, hc', fun j x hj => ?_⟩
  rw [List.getElem?_take] at hj
  split at hj
  · exact hx j x hj
  · cases hj
theorem sl_drop {α : Type} {R : Hp → Value → α → Prop} {h : Hp} {o i n c k : Nat} {xs : List α} (hs : Sl R h (.slice (some ⟨o, i, none⟩) n c) xs) (hk : k ≤ xs.length) : Sl R h (.slice (some ⟨o, i + k, none⟩) (n - k) (c - k)) (xs.drop k) := by
  obtain ⟨s, c', e, hc, hc', hx⟩ := hs
  cases e
  refine ⟨some ⟨o, i + k, none⟩, c - k, by simp, by simp; omega, by omega, fun j x hj => ?_⟩
  rw [List.getElem?_drop] at hj
  obtain ⟨o', i', cs, own, ex, es, h1, h2, h3, h4, h5⟩ := hx _ x hj
  cases h1
  exact ⟨o, i + k, cs, own, ex, es, rfl, h2, h3, by omega, by rw [Nat.add_assoc]; exact h5⟩
theorem split_at {l : List Nat} {a k : Nat} (hk : k ≤ l.length) (h1 : ∀ i (h : i < l.length), i < k → l[i] < a) (h2 : ∀ i (h : i < l.length), k ≤ i → a < l[i]) : l.take k = l.filter (fun x => decide (x < a)) ∧ l.drop k = l.filter fun x => decide (a < x) := by
  have e : l = l.take k ++ l.drop k := (List.take_append_drop k l).symm
  have ht : ∀ x ∈ l.take k, x < a := fun x hx => by
    obtain ⟨i, hi, rfl⟩ := List.mem_iff_getElem.1 hx
    simp at hi
    rw [List.getElem_take]
    exact h1 i (by omega) (by omega)
  have hd : ∀ x ∈ l.drop k, a < x := fun x hx => by
    obtain ⟨i, hi, rfl⟩ := List.mem_iff_getElem.1 hx
    simp at hi
    rw [List.getElem_drop]
    exact h2 _ (by omega) (by omega)
  constructor
  · rw (occs := [2]) [e]
    rw [List.filter_append, List.filter_eq_self.2 (fun x hx => by simpa using ht x hx), List.filter_eq_nil_iff.2 (fun x hx => by simp; have := hd x hx; omega), List.append_nil]
  · rw (occs := [2]) [e]
    rw [List.filter_append, List.filter_eq_nil_iff.2 (fun x hx => by simp; have := ht x hx; omega), List.filter_eq_self.2 (fun x hx => by simpa using hd x hx), List.nil_append]
theorem IntsA.lower {m n : Nat} {h : Hp} {v : Value} {xs : List Int} (hs : IntsA n h v xs) (hm : m ≤ n) : IntsA m h v xs := by
  rcases hs with ⟨a, b⟩ | ⟨p, ex, a, b, c, d⟩
  · exact .inl ⟨a, b⟩
  · exact .inr ⟨p, ex, a, by omega, c, d⟩
theorem l1Put_ok (h : Hp) (m : Nat) (v : Value) (l : List Nat) (a : Nat) (hv : IntsA m h v (toN l)) (hs : l.Pairwise (· < ·)) (hl : l.length < 2 ^ 38) (hm : m ≤ h.next) :
    ∃ v' h', CallOK Try.prog 280 #[v, .int .i64 (a : Int)] h v' h' ∧ Adds h h' ∧ IntsA m h' v' (toN (putL l a)) := by
  refine callY_L (args := [v, .int .i64 (a : Int)]) 48 _ [.tmp 4] Try.func280 rfl rfl rfl ?_
  have hvI := (hv.own (by simp; omega)).ints
  have hL := hvI.lenD
  have hgt := toN_get l
  have hln := toN_length l
  have hsg : ∀ i j (hi : i < l.length) (hj : j < l.length), i < j → l[i] < l[j] := fun i j hi hj hij => List.pairwise_iff_getElem.1 hs i j hi hj hij
  try simp (disch := first | omega | (simp; done) | fail) [wrap64c, if_pos, if_neg, opAnd, opOr, opXor, opDiff, opShr, opBit, hL, hgt]
  refine WD_loopC [0, 1] (fun m tm h' => ∃ j, m = l.length - j ∧ h = h' ∧ tm 5 = .int .i64 (j : Int) ∧ (j ≤ l.length) ∧ (∀ i (h1 : i < l.length), i < j → l[i] < a)) _ ⟨0, rfl, rfl, (by simp (disch := first | omega | (simp; done) | fail) [wrap64c, if_pos, if_neg, opAnd, opOr, opXor, opDiff, opShr, opBit, hL, hgt]), (by first | omega | assumption | (simp (disch := first | omega | (simp; done) | fail) [wrap64c, if_pos, if_neg, opAnd, opOr, opXor, opDiff, opShr, opBit, hL, hgt] <;> omega)), (by intro i h1 h2; omega)⟩ ?_
  rintro m tm h' hFr ⟨j, rfl, rfl, e5, hj, hx⟩
  simp only [FrameL] at hFr
  obtain ⟨f0_0, f1_0, -⟩ := hFr
  try simp (disch := first | omega | (simp; done) | fail) [wrap64c, if_pos, if_neg, opAnd, opOr, opXor, opDiff, opShr, opBit, hL, hgt] at f0_0 f1_0
  have e0 := f0_0
  have e1 := f1_0
  by_cases hlt : j < l.length
  · obtain ⟨o_x, i_x, c_x, cs_x, own_x, ex_x, es_x, q_x, b_x, g_x, l_x, r_x⟩ := hvI.open ((by omega))
    have z_x : ∀ h2 : i_x < cs_x.length, cs_x[i_x] = _ := fun h2 => r_x 0 ((by omega)) h2
    by_cases hc : l[j] < a
    · try simp (disch := first | omega | (simp; done) | fail) [wrap64c, if_pos, if_neg, opAnd, opOr, opXor, opDiff, opShr, opBit, hL, hgt, e0, e1, e5, hlt, q_x, g_x, l_x, r_x, z_x, hc]
      refine loopK_next _ ?hm ?hf ⟨j + 1, rfl, rfl, (by simp (disch := first | omega | (simp; done) | fail) [wrap64c, if_pos, if_neg, opAnd, opOr, opXor, opDiff, opShr, opBit, hL, hgt, e0, e1, e5, hlt, q_x, g_x, l_x, r_x, z_x, hc] <;> omega), (by first | omega | assumption | (simp (disch := first | omega | (simp; done) | fail) [wrap64c, if_pos, if_neg, opAnd, opOr, opXor, opDiff, opShr, opBit, hL, hgt, e0, e1, e5, hlt, q_x, g_x, l_x, r_x, z_x, hc] <;> omega)), ?c_hx⟩
      (case hm => first | omega | (simp; omega))
      (case hf => simp [FrameL, hL, hgt, e0, e1, e5, hlt, q_x, g_x, l_x, r_x, z_x, hc, f0_0, f1_0])
      case c_hx =>
        exact (fun i h1 hi => by
          by_cases e : i = j
          · subst e; exact hc
          · exact hx i h1 (by omega))
    · by_cases he : l[j] = a
      · have hm' : a ∈ l := he ▸ List.getElem_mem hlt
        have hb : ((l[j] : Int) == (a : Int)) = true := by simp [he]
        try simp (disch := first | omega | (simp; done) | fail) [wrap64c, if_pos, if_neg, opAnd, opOr, opXor, opDiff, opShr, opBit, hL, hgt, e0, e1, e5, hlt, q_x, g_x, l_x, r_x, z_x, hc, hb]
        refine done_ret rfl ⟨adds_self _, ?_⟩
        rw [q_x, hln] at hv
        rw [putL, if_pos hm']; exact hv
      · have hb : ((l[j] : Int) == (a : Int)) = false := by simp; omega
        have h2 : ∀ i (h : i < l.length), j ≤ i → a < l[i] := fun i hi hji => by
          by_cases e : i = j
          · subst e; omega
          · have := hsg j i hlt hi (by omega); omega
        have hnm : ¬ a ∈ l := fun hm' => by
          obtain ⟨i, hi, e⟩ := List.mem_iff_getElem.1 hm'
          by_cases hij : i < j
          · have := hx i hi hij; omega
          · have := h2 i hi (by omega); omega
        obtain ⟨t1, t2⟩ := split_at (a := a) (by omega) hx h2
        have hput : toN (putL l a) = ((toN l).take j ++ [(a : Int)]) ++ (toN l).drop j := by
          rw [putL, if_neg hnm, ← t1, ← t2, toN_append, toN_append]; simp [toN]
        have hvI2 := hvI
        rw [q_x] at hvI2
        have ht := sl_take (k := j) hvI2 (by omega)
        have hd := sl_drop (k := j) hvI2 (by omega)
        rw [hln] at hd
        have hcx : l.length ≤ c_x ∧ c_x < 2 ^ 63 := by
          obtain ⟨s, c, e, h1, h2⟩ := Sl.form hvI2
          cases e
          omega
        try simp (disch := first | omega | (simp; done) | fail) [wrap64c, if_pos, if_neg, opAnd, opOr, opXor, opDiff, opShr, opBit, hL, hgt, e0, e1, e5, hlt, q_x, g_x, l_x, r_x, z_x, hc, hb]
        first | refine WY_heap fun h1 q_h1 => ?_ | refine callG_heap fun h1 q_h1 => ?_ | refine callP_heap fun h1 q_h1 => ?_ | refine callS_heap fun h1 q_h1 => ?_ | refine RY_heap fun h1 q_h1 => ?_ | refine PY_heap fun h1 q_h1 => ?_ | refine SY_heap fun h1 q_h1 => ?_ | refine doneY_heap fun h1 q_h1 => ?_ | refine loopK_heap fun h1 q_h1 => ?_ | refine thenY_heap fun h1 q_h1 => ?_ | refine thenM_heap fun h1 q_h1 => ?_
        have k1 : Adds h h1 := by rw [q_h1]; exact (by first | exact aK | exact kK)
        have n1 : h1.next = h.next + 1 := by simp [q_h1]
        have hA : IntsA h.next h1 (.slice (some ⟨h.next, 0, none⟩) 0 0) [] := .lit (ex := true) (Nat.le_refl _) (by omega) (by simp [q_h1, zarr])
        obtain ⟨v2, h2', hap, hA2, k2, n2, s2⟩ := append_ints (P := Try.prog) (t := 24) (t' := 24) hA ((show Ints h _ _ from ht).keep k1.1) ty_elT_24 ty_szT_3 ty_zeroT_3 ty_byT_3 (by decide) (by decide) (by simp) (by simp; omega) (by omega) k1 (Nat.le_refl _)
        try simp (disch := first | omega | (simp; done) | fail) [wrap64c, if_pos, if_neg, opAnd, opOr, opXor, opDiff, opShr, opBit, hL, hgt, e0, e1, e5, hlt, q_x, g_x, l_x, r_x, z_x, hc, hb, hap]
        have h3n := k2.1.1
        obtain ⟨v3, h3, hap3, hA3, k3, n3, s3⟩ := appI hA2 (a : Int) (by simp; omega) h3n k2 (Nat.le_refl _)
        try simp (disch := first | omega | (simp; done) | fail) [wrap64c, if_pos, if_neg, opAnd, opOr, opXor, opDiff, opShr, opBit, hL, hgt, e0, e1, e5, hlt, q_x, g_x, l_x, r_x, z_x, hc, hb, hap3]
        obtain ⟨v4, h4, hap4, hA4, k4, n4, s4⟩ := append_ints (P := Try.prog) (t := 24) (t' := 24) hA3 ((show Ints h _ _ from hd).keep k3.1) ty_elT_24 ty_szT_3 ty_zeroT_3 ty_byT_3 (by decide) (by decide) (by simp) (by simp; omega) (by have := k3.1.1; omega) k3 (Nat.le_refl _)
        try simp (disch := first | omega | (simp; done) | fail) [wrap64c, if_pos, if_neg, opAnd, opOr, opXor, opDiff, opShr, opBit, hL, hgt, e0, e1, e5, hlt, q_x, g_x, l_x, r_x, z_x, hc, hb, hap4]
        refine done_ret rfl ⟨k4, ?_⟩
        rw [hput]
        simp only [List.nil_append] at hA4
        exact IntsA.lower hA4 hm
  · have hje : j = l.length := by omega
    have hput : toN (putL l a) = ((toN l).take j ++ [(a : Int)]) ++ (toN l).drop j := by
      have hnm : ¬ a ∈ l := fun hm' => by
        obtain ⟨i, hi, e⟩ := List.mem_iff_getElem.1 hm'
        have := hx i hi (by omega); omega
      obtain ⟨t1, t2⟩ := split_at (a := a) (by omega) hx (fun i h1 h2 => by omega)
      rw [putL, if_neg hnm, ← t1, ← t2, toN_append, toN_append]; simp [toN]
    have hlb : ¬ ((j : Int) < (l.length : Int)) := by omega
    rcases hv with ⟨y1, y2⟩ | ⟨o, ex, y1, y2, y3, y4⟩
    · subst y2
      have hl0 : l.length = 0 := by rw [← toN_length, y1]; rfl
      have hj0 : j = 0 := by omega
      subst hj0
      rw [y1] at hput
      try simp (disch := first | omega | (simp; done) | fail) [wrap64c, if_pos, if_neg, opAnd, opOr, opXor, opDiff, opShr, opBit, hL, hgt, e0, e1, e5, hlt, hlb]
      first | refine WY_heap fun h1 q_h1 => ?_ | refine callG_heap fun h1 q_h1 => ?_ | refine callP_heap fun h1 q_h1 => ?_ | refine callS_heap fun h1 q_h1 => ?_ | refine RY_heap fun h1 q_h1 => ?_ | refine PY_heap fun h1 q_h1 => ?_ | refine SY_heap fun h1 q_h1 => ?_ | refine doneY_heap fun h1 q_h1 => ?_ | refine loopK_heap fun h1 q_h1 => ?_ | refine thenY_heap fun h1 q_h1 => ?_ | refine thenM_heap fun h1 q_h1 => ?_
      have k1 : Adds h h1 := by rw [q_h1]; exact (by first | exact aK | exact kK)
      have n1 : h1.next = h.next + 1 := by simp [q_h1]
      have hA : IntsA h.next h1 (.slice (some ⟨h.next, 0, none⟩) 0 0) [] := .lit (ex := true) (Nat.le_refl _) (by omega) (by simp [q_h1, zarr])
      have hno : Ints h1 (.slice none 0 0) [] := (IntsO.nil (fun _ => False) h1).ints
      obtain ⟨v2, h2', hap, hA2, k2, n2, s2⟩ := append_ints (P := Try.prog) (t := 24) (t' := 24) hA hno ty_elT_24 ty_szT_3 ty_zeroT_3 ty_byT_3 (by decide) (by decide) (by simp) (by simp) (by omega) k1 (Nat.le_refl _)
      try simp (disch := first | omega | (simp; done) | fail) [wrap64c, if_pos, if_neg, opAnd, opOr, opXor, opDiff, opShr, opBit, hL, hgt, e0, e1, e5, hlt, hlb, hap]
      have h3n := k2.1.1
      obtain ⟨v3, h3, hap3, hA3, k3, n3, s3⟩ := appI hA2 (a : Int) (by simp) h3n k2 (Nat.le_refl _)
      try simp (disch := first | omega | (simp; done) | fail) [wrap64c, if_pos, if_neg, opAnd, opOr, opXor, opDiff, opShr, opBit, hL, hgt, e0, e1, e5, hlt, hlb, hap3]
      have hno3 : Ints h3 (.slice none 0 0) [] := (IntsO.nil (fun _ => False) h3).ints
      obtain ⟨v4, h4, hap4, hA4, k4, n4, s4⟩ := append_ints (P := Try.prog) (t := 24) (t' := 24) hA3 hno3 ty_elT_24 ty_szT_3 ty_zeroT_3 ty_byT_3 (by decide) (by decide) (by simp) (by simp) (by have := k3.1.1; omega) k3 (Nat.le_refl _)
      try simp (disch := first | omega | (simp; done) | fail) [wrap64c, if_pos, if_neg, opAnd, opOr, opXor, opDiff, opShr, opBit, hL, hgt, e0, e1, e5, hlt, hlb, hap4]
      refine done_ret rfl ⟨k4, ?_⟩
      rw [hput]
      simp only [List.nil_append, List.take_zero, List.drop_zero] at hA4 ⊢
      exact IntsA.lower hA4 hm
    · subst y1
      rw [hln] at hvI
      have ht := sl_take (k := l.length) hvI (by omega)
      have hd := sl_drop (k := l.length) hvI (by omega)
      rw [Nat.zero_add, Nat.sub_self] at hd
      have hje := hje
      rw [hje] at hput
      have hln2 := hln
      try simp (disch := first | omega | (simp; done) | fail) [wrap64c, if_pos, if_neg, opAnd, opOr, opXor, opDiff, opShr, opBit, hL, hgt, e0, e1, e5, hlt, hlb, hje, hln2]
      first | refine WY_heap fun h1 q_h1 => ?_ | refine callG_heap fun h1 q_h1 => ?_ | refine callP_heap fun h1 q_h1 => ?_ | refine callS_heap fun h1 q_h1 => ?_ | refine RY_heap fun h1 q_h1 => ?_ | refine PY_heap fun h1 q_h1 => ?_ | refine SY_heap fun h1 q_h1 => ?_ | refine doneY_heap fun h1 q_h1 => ?_ | refine loopK_heap fun h1 q_h1 => ?_ | refine thenY_heap fun h1 q_h1 => ?_ | refine thenM_heap fun h1 q_h1 => ?_
      have k1 : Adds h h1 := by rw [q_h1]; exact (by first | exact aK | exact kK)
      have n1 : h1.next = h.next + 1 := by simp [q_h1]
      have hA : IntsA h.next h1 (.slice (some ⟨h.next, 0, none⟩) 0 0) [] := .lit (ex := true) (Nat.le_refl _) (by omega) (by simp [q_h1, zarr])
      obtain ⟨v2, h2', hap, hA2, k2, n2, s2⟩ := append_ints (P := Try.prog) (t := 24) (t' := 24) hA ((show Ints h _ _ from ht).keep k1.1) ty_elT_24 ty_szT_3 ty_zeroT_3 ty_byT_3 (by decide) (by decide) (by simp) (by simp; omega) (by omega) k1 (Nat.le_refl _)
      try simp (disch := first | omega | (simp; done) | fail) [wrap64c, if_pos, if_neg, opAnd, opOr, opXor, opDiff, opShr, opBit, hL, hgt, e0, e1, e5, hlt, hlb, hje, hln2, hap]
      have h3n := k2.1.1
      obtain ⟨v3, h3, hap3, hA3, k3, n3, s3⟩ := appI hA2 (a : Int) (by simp; omega) h3n k2 (Nat.le_refl _)
      try simp (disch := first | omega | (simp; done) | fail) [wrap64c, if_pos, if_neg, opAnd, opOr, opXor, opDiff, opShr, opBit, hL, hgt, e0, e1, e5, hlt, hlb, hje, hln2, hap3]
      obtain ⟨v4, h4, hap4, hA4, k4, n4, s4⟩ := append_ints (P := Try.prog) (t := 24) (t' := 24) hA3 ((show Ints h _ _ from hd).keep k3.1) ty_elT_24 ty_szT_3 ty_zeroT_3 ty_byT_3 (by decide) (by decide) (by simp) (by simp; omega) (by have := k3.1.1; omega) k3 (Nat.le_refl _)
      try simp (disch := first | omega | (simp; done) | fail) [wrap64c, if_pos, if_neg, opAnd, opOr, opXor, opDiff, opShr, opBit, hL, hgt, e0, e1, e5, hlt, hlb, hje, hln2, hap4]
      refine done_ret rfl ⟨k4, ?_⟩
      rw [hput]
      simp only [List.nil_append] at hA4
      exact IntsA.lower hA4 hm
theorem spPut_of (h : Hp) (v v' : Value) (a : Int) (h' : Hp) (hc : CallOK Try.prog 280 #[v, .int .i64 a] h v' h') : CallOK Try.prog 263 #[v, .int .i64 a] h v' h' := by
  have key : ∃ v2 h2, CallOK Try.prog 263 #[v, .int .i64 a] h v2 h2 ∧ v2 = v' ∧ h2 = h' := by
    refine callY_L (args := [v, .int .i64 a]) 8 _ [.tmp 4] Try.func263 rfl rfl rfl ?_
    try simp (disch := first | omega | (simp; done) | fail) [wrap64c, if_pos, if_neg, opAnd, opOr, opXor, opDiff, opShr, opBit]
    refine callG_c (by simp) (by simp) ?ha (hc) ?_
    (case ha => simp (disch := first | omega | (simp; done) | fail) [wrap64c, if_pos, if_neg, opAnd, opOr, opXor, opDiff, opShr, opBit])
    try simp (disch := first | omega | (simp; done) | fail) [wrap64c, if_pos, if_neg, opAnd, opOr, opXor, opDiff, opShr, opBit]
    exact done_ret rfl ⟨rfl, rfl⟩
  obtain ⟨_, _, hc2, rfl, rfl⟩ := key
  exact hc2
end Go.Proofs.Ytnncipcldbopgaa
namespace Go.Proofs.Ytnncipcldbopgaa
set_option linter.unusedSimpArgs false
set_option linter.unusedVariables false
set_option maxHeartbeats 4000000
open Go Go.Eng
attribute [local irreducible] WD RunD PreD Runs CallOK
def SrtB (k : Nat) (l : List Nat) : Prop := l.Pairwise (· < ·) ∧ ∀ a ∈ l, a < k
theorem SrtB.len {k : Nat} {l : List Nat} (h : SrtB k l) : l.length ≤ k := by
  have := srt_len (lo := 0) (m := k) h.1 (fun x hx => ⟨Nat.zero_le _, h.2 x hx⟩)
  omega
theorem SrtB.put {k a : Nat} {l : List Nat} (h : SrtB k l) (ha : a < k) : SrtB k (putL l a) := ⟨putL_srt h.1 a, fun x hx => by
  rcases (putL_mem l a x).1 hx with rfl | hx
  · exact ha
  · exact h.2 x hx⟩
theorem SrtB.zero {k : Nat} (h : 0 < k) : SrtB k [0] := ⟨List.pairwise_singleton _ _, fun x hx => by simp at hx; omega⟩
theorem spPut_ok (h : Hp) (m : Nat) (v : Value) (l : List Nat) (a : Nat) (hv : IntsA m h v (toN l)) (hs : l.Pairwise (· < ·)) (hl : l.length < 2 ^ 38) (hm : m ≤ h.next) :
    ∃ v' h', CallOK Try.prog 263 #[v, .int .i64 (a : Int)] h v' h' ∧ Adds h h' ∧ IntsA m h' v' (toN (putL l a)) := by
  obtain ⟨v', h', c, a', i⟩ := l1Put_ok h m v l a hv hs hl hm
  exact ⟨v', h', spPut_of h v v' a h' c, a', i⟩
theorem subI {h : Hp} {o : Nat} {xs : List Int} {own ex : Bool} {es : Nat} (hg : h.get o = .cells (xs.map (.int .i64)) own ex es) (ho : o < h.next) {i n c : Nat} (hi : i + n ≤ xs.length) (hc : n ≤ c) (hc2 : c < 2 ^ 63) : Ints h (.slice (some ⟨o, i, none⟩) n c) ((xs.drop i).take n) := by
  have hl : ((xs.drop i).take n).length = n := by simp; omega
  refine ⟨some ⟨o, i, none⟩, c, by rw [hl], by omega, hc2, fun k x hk => ?_⟩
  obtain ⟨q1, q2⟩ := List.getElem?_eq_some_iff.1 hk
  rw [hl] at q1
  subst q2
  refine ⟨o, i, _, own, ex, es, rfl, ho, hg, by simp; omega, ?_⟩
  have : i + k < xs.length := by omega
  simp [isInt, List.getD_eq_getElem?_getD, this]
theorem spFree_ok (h : Hp) (n : Nat) (hn : n ≤ 7) : ∃ v' h', CallOK Try.prog 265 #[.int .i64 (n : Int)] h v' h' ∧ Adds h h' ∧ IntsA h.next h' v' (toN (List.range (bit n))) := by
  have hb := bit7 hn
  refine callY_L (args := [.int .i64 (n : Int)]) 16 _ [.tmp 2] Try.func265 rfl rfl rfl ?_
  try simp (disch := first | omega | (simp; done) | fail) [wrap64c, if_pos, if_neg, opAnd, opOr, opXor, opDiff, opShr, opBit]
  refine WD_loopC [0] (fun m tm h' => ∃ v a, m = bit n - a ∧ tm 3 = v ∧ tm 4 = .int .i64 ((a : Nat) : Int) ∧ (a ≤ bit n) ∧ (Adds h h') ∧ (IntsA h.next h' v (toN (List.range a)))) _ ⟨Value.slice none 0 0, 0, rfl, (by simp (disch := first | omega | (simp; done) | fail) [wrap64c, if_pos, if_neg, opAnd, opOr, opXor, opDiff, opShr, opBit]), (by simp (disch := first | omega | (simp; done) | fail) [wrap64c, if_pos, if_neg, opAnd, opOr, opXor, opDiff, opShr, opBit]), (by first | omega | assumption | (simp (disch := first | omega | (simp; done) | fail) [wrap64c, if_pos, if_neg, opAnd, opOr, opXor, opDiff, opShr, opBit] <;> omega)), (adds_self _), (.nil _ _)⟩ ?_
  rintro m tm h' hFr ⟨v, a, rfl, e3, e4, ha, hd, hi⟩
  simp only [FrameL] at hFr
  obtain ⟨f0_0, -⟩ := hFr
  try simp (disch := first | omega | (simp; done) | fail) [wrap64c, if_pos, if_neg, opAnd, opOr, opXor, opDiff, opShr, opBit] at f0_0
  have e0 := f0_0
  have nd := hd.1.1
  by_cases hlt : a < bit n
  · have hlt' : (a : Int) < ((bit n : Nat) : Int) := by omega
    obtain ⟨v3, h3, hap, hi3, k3, n3, s3⟩ := appI hi (a : Int) (by simp; omega) nd hd (Nat.le_refl _)
    try simp (disch := first | omega | (simp; done) | fail) [wrap64c, if_pos, if_neg, opAnd, opOr, opXor, opDiff, opShr, opBit, e0, e3, e4, hlt', hap]
    refine loopK_next _ ?hm ?hf ⟨v3, a + 1, rfl, (by simp (disch := first | omega | (simp; done) | fail) [wrap64c, if_pos, if_neg, opAnd, opOr, opXor, opDiff, opShr, opBit, e0, e3, e4, hlt'] <;> omega), (by simp (disch := first | omega | (simp; done) | fail) [wrap64c, if_pos, if_neg, opAnd, opOr, opXor, opDiff, opShr, opBit, e0, e3, e4, hlt'] <;> omega), (by first | omega | assumption | (simp (disch := first | omega | (simp; done) | fail) [wrap64c, if_pos, if_neg, opAnd, opOr, opXor, opDiff, opShr, opBit, e0, e3, e4, hlt'] <;> omega)), k3, (by rw [List.range_succ, toN_snoc]; exact hi3)⟩
    (case hm => first | omega | (simp; omega))
    (case hf => simp [FrameL, e0, e3, e4, hlt', f0_0])
  · have hlt' : ¬ (a : Int) < ((bit n : Nat) : Int) := by omega
    have hae : a = bit n := by omega
    subst hae
    try simp (disch := first | omega | (simp; done) | fail) [wrap64c, if_pos, if_neg, opAnd, opOr, opXor, opDiff, opShr, opBit, e0, e3, e4, hlt']
    exact done_ret rfl ⟨hd, hi⟩
theorem spChain_ok (h : Hp) (v : Value) (l : List Nat) (n : Nat) (hv : Ints h v (toN l)) (hl : ∀ x ∈ l, x < n) (hn : n ≤ 7) (hll : l.length ≤ 1000) :
    ∃ v' h', CallOK Try.prog 266 #[v] h v' h' ∧ Adds h h' ∧ ∃ L, IntsA h.next h' v' (toN L) ∧ SrtB (bit n) L ∧ 0 ∈ L := by
  have hb := bit7 hn
  have lv := hv.lenD
  have hgt := toN_get l
  have hln := toN_length l
  refine callY_L (args := [v]) 23 _ [.tmp 2] Try.func266 rfl rfl rfl ?_
  try simp (disch := first | omega | (simp; done) | fail) [wrap64c, if_pos, if_neg, opAnd, opOr, opXor, opDiff, opShr, opBit, lv, hgt, hln]
  first | refine WY_heap fun h1 q_h1 => ?_ | refine callG_heap fun h1 q_h1 => ?_ | refine callP_heap fun h1 q_h1 => ?_ | refine callS_heap fun h1 q_h1 => ?_ | refine RY_heap fun h1 q_h1 => ?_ | refine PY_heap fun h1 q_h1 => ?_ | refine SY_heap fun h1 q_h1 => ?_ | refine doneY_heap fun h1 q_h1 => ?_ | refine loopK_heap fun h1 q_h1 => ?_ | refine thenY_heap fun h1 q_h1 => ?_ | refine thenM_heap fun h1 q_h1 => ?_
  have k1 : Adds h h1 := by rw [q_h1]; exact (by first | exact aK | exact kK)
  have n1 : h1.next = h.next + 1 := by simp [q_h1]
  have i1 : IntsA h.next h1 (.slice (some ⟨h.next, 0, none⟩) 1 1) (toN [0]) := .inr ⟨h.next, true, rfl, Nat.le_refl _, by omega, by simp [q_h1, toN]⟩
  refine WD_loopC [8, 9] (fun m tm h' => ∃ u a j L, m = l.length - j ∧ tm 3 = u ∧ tm 4 = .int .i64 ((a : Nat) : Int) ∧ tm 10 = .int .i64 (j : Int) ∧ (j ≤ l.length) ∧ (a < bit n) ∧ (Adds h h') ∧ (IntsA h.next h' u (toN L)) ∧ (SrtB (bit n) L) ∧ (0 ∈ L)) _ ⟨_, 0, 0, [0], rfl, (by simp (disch := first | omega | (simp; done) | fail) [wrap64c, if_pos, if_neg, opAnd, opOr, opXor, opDiff, opShr, opBit, lv, hgt, hln]), (by simp (disch := first | omega | (simp; done) | fail) [wrap64c, if_pos, if_neg, opAnd, opOr, opXor, opDiff, opShr, opBit, lv, hgt, hln]), (by simp (disch := first | omega | (simp; done) | fail) [wrap64c, if_pos, if_neg, opAnd, opOr, opXor, opDiff, opShr, opBit, lv, hgt, hln]), (by first | omega | assumption | (simp (disch := first | omega | (simp; done) | fail) [wrap64c, if_pos, if_neg, opAnd, opOr, opXor, opDiff, opShr, opBit, lv, hgt, hln] <;> omega)), (by first | omega | assumption | (simp (disch := first | omega | (simp; done) | fail) [wrap64c, if_pos, if_neg, opAnd, opOr, opXor, opDiff, opShr, opBit, lv, hgt, hln] <;> omega)), k1, i1, (SrtB.zero (by omega)), (by simp)⟩ ?_
  rintro m tm h' hFr ⟨u, a, j, L, rfl, e3, e4, e10, hj, ha, hd, hi, hL, h0⟩
  simp only [FrameL] at hFr
  obtain ⟨f8_0, f9_0, -⟩ := hFr
  try simp (disch := first | omega | (simp; done) | fail) [wrap64c, if_pos, if_neg, opAnd, opOr, opXor, opDiff, opShr, opBit, lv, hgt, hln] at f8_0 f9_0
  have e8 := f8_0
  have e9 := f9_0
  have nd := hd.1.1
  have lL := hL.len
  by_cases hlt : j < l.length
  · have hv' := hv.keep hd.1
    have hx := hl _ (List.getElem_mem hlt)
    obtain ⟨i, hie⟩ : ∃ i, i = l[j] := ⟨_, rfl⟩
    have hie' : l[j] = i := hie.symm
    have hi7 : i < 7 := by omega
    have hb7 := bit_lt7 hi7
    have hor := nOr_lt (n := n) ha (bit_lt_bit (show i < n by omega))
    obtain ⟨o_x, i_x, c_x, cs_x, own_x, ex_x, es_x, q_x, b_x, g_x, l_x, r_x⟩ := hv'.open ((by simp; omega))
    have z_x : ∀ h2 : i_x < cs_x.length, cs_x[i_x] = _ := fun h2 => r_x 0 ((by simp; omega)) h2
    try simp (disch := first | omega | (simp; done) | fail) [wrap64c, if_pos, if_neg, opAnd, opOr, opXor, opDiff, opShr, opBit, lv, hgt, hln, e3, e4, e8, e9, e10, hlt, hie', q_x, g_x, l_x, r_x, z_x]
    obtain ⟨u2, h2, c2, a2, i2⟩ := spPut_ok h' h.next u L (nOr a (bit i)) hi hL.1 (by omega) nd
    refine callG_c (by simp) (by simp) ?ha (c2) ?_
    (case ha => simp (disch := first | omega | (simp; done) | fail) [wrap64c, if_pos, if_neg, opAnd, opOr, opXor, opDiff, opShr, opBit, lv, hgt, hln, e3, e4, e8, e9, e10, hlt, hie', q_x, g_x, l_x, r_x, z_x])
    try simp (disch := first | omega | (simp; done) | fail) [wrap64c, if_pos, if_neg, opAnd, opOr, opXor, opDiff, opShr, opBit, lv, hgt, hln, e3, e4, e8, e9, e10, hlt, hie', q_x, g_x, l_x, r_x, z_x]
    refine loopK_next _ ?hm ?hf ⟨u2, nOr a (bit i), j + 1, putL L (nOr a (bit i)), rfl, (by simp (disch := first | omega | (simp; done) | fail) [wrap64c, if_pos, if_neg, opAnd, opOr, opXor, opDiff, opShr, opBit, lv, hgt, hln, e3, e4, e8, e9, e10, hlt, hie', q_x, g_x, l_x, r_x, z_x] <;> omega), (by simp (disch := first | omega | (simp; done) | fail) [wrap64c, if_pos, if_neg, opAnd, opOr, opXor, opDiff, opShr, opBit, lv, hgt, hln, e3, e4, e8, e9, e10, hlt, hie', q_x, g_x, l_x, r_x, z_x] <;> omega), (by simp (disch := first | omega | (simp; done) | fail) [wrap64c, if_pos, if_neg, opAnd, opOr, opXor, opDiff, opShr, opBit, lv, hgt, hln, e3, e4, e8, e9, e10, hlt, hie', q_x, g_x, l_x, r_x, z_x] <;> omega), (by first | omega | assumption | (simp (disch := first | omega | (simp; done) | fail) [wrap64c, if_pos, if_neg, opAnd, opOr, opXor, opDiff, opShr, opBit, lv, hgt, hln, e3, e4, e8, e9, e10, hlt, hie', q_x, g_x, l_x, r_x, z_x] <;> omega)), hor, (hd.trans a2), i2, (hL.put hor), ((putL_mem _ _ _).2 (.inr h0))⟩
    (case hm => first | omega | (simp; omega))
    (case hf => simp [FrameL, lv, hgt, hln, e3, e4, e8, e9, e10, hlt, hie', q_x, g_x, l_x, r_x, z_x, f8_0, f9_0])
  · try simp (disch := first | omega | (simp; done) | fail) [wrap64c, if_pos, if_neg, opAnd, opOr, opXor, opDiff, opShr, opBit, lv, hgt, hln, e3, e4, e8, e9, e10, hlt]
    exact done_ret rfl ⟨hd, L, hi, hL, h0⟩
theorem spUnions_ok (h : Hp) (v : Value) (l : List Nat) (n : Nat) (hv : Ints h v (toN l)) (hl : ∀ x ∈ l, x < bit n) (hn : n ≤ 7) (hll : l.length ≤ 1000) :
    ∃ v' h', CallOK Try.prog 267 #[v] h v' h' ∧ Adds h h' ∧ ∃ L, IntsA h.next h' v' (toN L) ∧ SrtB (bit n) L ∧ 0 ∈ L := by
  have hb := bit7 hn
  have lv := hv.lenD
  have hgt := toN_get l
  have hln := toN_length l
  refine callY_L (args := [v]) 30 _ [.tmp 2] Try.func267 rfl rfl rfl ?_
  try simp (disch := first | omega | (simp; done) | fail) [wrap64c, if_pos, if_neg, opAnd, opOr, opXor, opDiff, opShr, opBit, lv, hgt, hln]
  first | refine WY_heap fun h1 q_h1 => ?_ | refine callG_heap fun h1 q_h1 => ?_ | refine callP_heap fun h1 q_h1 => ?_ | refine callS_heap fun h1 q_h1 => ?_ | refine RY_heap fun h1 q_h1 => ?_ | refine PY_heap fun h1 q_h1 => ?_ | refine SY_heap fun h1 q_h1 => ?_ | refine doneY_heap fun h1 q_h1 => ?_ | refine loopK_heap fun h1 q_h1 => ?_ | refine thenY_heap fun h1 q_h1 => ?_ | refine thenM_heap fun h1 q_h1 => ?_
  have k1 : Adds h h1 := by rw [q_h1]; exact (by first | exact aK | exact kK)
  have n1 : h1.next = h.next + 1 := by simp [q_h1]
  have i1 : IntsA h.next h1 (.slice (some ⟨h.next, 0, none⟩) 1 1) (toN [0]) := .inr ⟨h.next, true, rfl, Nat.le_refl _, by omega, by simp [q_h1, toN]⟩
  refine WD_loopC [9, 10] (fun m tm h' => ∃ u j L, m = l.length - j ∧ tm 3 = u ∧ tm 11 = .int .i64 (j : Int) ∧ (j ≤ l.length) ∧ (Adds h h') ∧ (IntsA h.next h' u (toN L)) ∧ (SrtB (bit n) L) ∧ (0 ∈ L)) _ ⟨_, 0, [0], rfl, (by simp (disch := first | omega | (simp; done) | fail) [wrap64c, if_pos, if_neg, opAnd, opOr, opXor, opDiff, opShr, opBit, lv, hgt, hln]), (by simp (disch := first | omega | (simp; done) | fail) [wrap64c, if_pos, if_neg, opAnd, opOr, opXor, opDiff, opShr, opBit, lv, hgt, hln]), (by first | omega | assumption | (simp (disch := first | omega | (simp; done) | fail) [wrap64c, if_pos, if_neg, opAnd, opOr, opXor, opDiff, opShr, opBit, lv, hgt, hln] <;> omega)), k1, i1, (SrtB.zero (by omega)), (by simp)⟩ ?_
  rintro m tm h' hFr ⟨u, j, L, rfl, e3, e11, hj, hd, hi, hL, h0⟩
  simp only [FrameL] at hFr
  obtain ⟨f9_0, f10_0, -⟩ := hFr
  try simp (disch := first | omega | (simp; done) | fail) [wrap64c, if_pos, if_neg, opAnd, opOr, opXor, opDiff, opShr, opBit, lv, hgt, hln] at f9_0 f10_0
  have e9 := f9_0
  have e10 := f10_0
  have nd := hd.1.1
  have lL := hL.len
  by_cases hlt : j < l.length
  · have hv' := hv.keep hd.1
    have hx := hl _ (List.getElem_mem hlt)
    obtain ⟨a, hae⟩ : ∃ i, i = l[j] := ⟨_, rfl⟩
    have hae' : l[j] = a := hae.symm
    rename Hp => hq
    obtain ⟨u2, h2, c2, a2, _, i2⟩ := l1Own_ok hq u (toN L) ((hi.own (by simp; omega)).ints) (by simp; omega)
    have lu2 := i2.lenD
    have hgL := toN_get L
    have hlL := toN_length L
    have n2 := a2.1.1
    obtain ⟨o_x, i_x, c_x, cs_x, own_x, ex_x, es_x, q_x, b_x, g_x, l_x, r_x⟩ := hv'.open ((by simp; omega))
    have z_x : ∀ h2 : i_x < cs_x.length, cs_x[i_x] = _ := fun h2 => r_x 0 ((by simp; omega)) h2
    try simp (disch := first | omega | (simp; done) | fail) [wrap64c, if_pos, if_neg, opAnd, opOr, opXor, opDiff, opShr, opBit, lv, hgt, hln, e3, e9, e10, e11, hlt, hae', lu2, hgL, hlL, q_x, g_x, l_x, r_x, z_x]
    refine callG_c (by simp) (by simp) ?ha (c2) ?_
    (case ha => simp (disch := first | omega | (simp; done) | fail) [wrap64c, if_pos, if_neg, opAnd, opOr, opXor, opDiff, opShr, opBit, lv, hgt, hln, e3, e9, e10, e11, hlt, hae', lu2, hgL, hlL, q_x, g_x, l_x, r_x, z_x])
    try simp (disch := first | omega | (simp; done) | fail) [wrap64c, if_pos, if_neg, opAnd, opOr, opXor, opDiff, opShr, opBit, lv, hgt, hln, e3, e9, e10, e11, hlt, hae', lu2, hgL, hlL, q_x, g_x, l_x, r_x, z_x]
    refine WD_loopC [5, 9, 10, 11, 16, 17] (fun m tm h' => ∃ w q M, m = L.length - q ∧ tm 3 = w ∧ tm 18 = .int .i64 (q : Int) ∧ (q ≤ L.length) ∧ (Adds h2 h') ∧ (IntsA h.next h' w (toN M)) ∧ (SrtB (bit n) M) ∧ (0 ∈ M)) _ ⟨_, 0, L, rfl, (by simp (disch := first | omega | (simp; done) | fail) [wrap64c, if_pos, if_neg, opAnd, opOr, opXor, opDiff, opShr, opBit, lv, hgt, hln, e3, e9, e10, e11, hlt, hae', lu2, hgL, hlL, q_x, g_x, l_x, r_x, z_x]), (by simp (disch := first | omega | (simp; done) | fail) [wrap64c, if_pos, if_neg, opAnd, opOr, opXor, opDiff, opShr, opBit, lv, hgt, hln, e3, e9, e10, e11, hlt, hae', lu2, hgL, hlL, q_x, g_x, l_x, r_x, z_x]), (by first | omega | assumption | (simp (disch := first | omega | (simp; done) | fail) [wrap64c, if_pos, if_neg, opAnd, opOr, opXor, opDiff, opShr, opBit, lv, hgt, hln, e3, e9, e10, e11, hlt, hae', lu2, hgL, hlL, q_x, g_x, l_x, r_x, z_x] <;> omega)), (adds_self _), (hi.keep a2.1), hL, h0⟩ ?_
    rintro m tm h' hFr ⟨w, q, M, rfl, e3, e18, hq1, hd2, hi2, hM, h02⟩
    simp only [FrameL] at hFr
    obtain ⟨f5_1, f9_1, f10_1, f11_1, f16_1, f17_1, -⟩ := hFr
    try simp (disch := first | omega | (simp; done) | fail) [wrap64c, if_pos, if_neg, opAnd, opOr, opXor, opDiff, opShr, opBit, lv, hgt, hln, e3, e9, e10, e11, hlt, hae', lu2, hgL, hlL, q_x, g_x, l_x, r_x, z_x] at f5_1 f9_1 f10_1 f11_1 f16_1 f17_1
    have e5 := f5_1
    have e9 := f9_1
    have e10 := f10_1
    have e11 := f11_1
    have e16 := f16_1
    have e17 := f17_1
    have nd2 := hd2.1.1
    have lM := hM.len
    by_cases hlq : q < L.length
    · have i2' := ((i2.own (by simp; omega)).ints).keep hd2.1
      have hy := hL.2 _ (List.getElem_mem hlq)
      obtain ⟨b, hbe⟩ : ∃ i, i = L[q] := ⟨_, rfl⟩
      have hbe' : L[q] = b := hbe.symm
      have hor := nOr_lt (n := n) (show a < bit n by omega) (show b < bit n by omega)
      obtain ⟨o_y, i_y, c_y, cs_y, own_y, ex_y, es_y, q_y, b_y, g_y, l_y, r_y⟩ := i2'.open ((by simp; omega))
      have z_y : ∀ h2 : i_y < cs_y.length, cs_y[i_y] = _ := fun h2 => r_y 0 ((by simp; omega)) h2
      try simp (disch := first | omega | (simp; done) | fail) [wrap64c, if_pos, if_neg, opAnd, opOr, opXor, opDiff, opShr, opBit, lv, hgt, hln, e3, e9, e10, e11, hlt, hae', lu2, hgL, hlL, q_x, g_x, l_x, r_x, z_x, e5, e16, e17, e18, hlq, hbe', q_y, g_y, l_y, r_y, z_y]
      obtain ⟨u3, h3, c3, a3, i3⟩ := spPut_ok h' h.next w M (nOr a b) hi2 hM.1 (by omega) (by omega)
      refine callG_c (by simp) (by simp) ?ha (c3) ?_
      (case ha => simp (disch := first | omega | (simp; done) | fail) [wrap64c, if_pos, if_neg, opAnd, opOr, opXor, opDiff, opShr, opBit, lv, hgt, hln, e3, e9, e10, e11, hlt, hae', lu2, hgL, hlL, q_x, g_x, l_x, r_x, z_x, e5, e16, e17, e18, hlq, hbe', q_y, g_y, l_y, r_y, z_y])
      try simp (disch := first | omega | (simp; done) | fail) [wrap64c, if_pos, if_neg, opAnd, opOr, opXor, opDiff, opShr, opBit, lv, hgt, hln, e3, e9, e10, e11, hlt, hae', lu2, hgL, hlL, q_x, g_x, l_x, r_x, z_x, e5, e16, e17, e18, hlq, hbe', q_y, g_y, l_y, r_y, z_y]
      refine loopK_next _ ?hm ?hf ⟨u3, q + 1, putL M (nOr a b), rfl, (by simp (disch := first | omega | (simp; done) | fail) [wrap64c, if_pos, if_neg, opAnd, opOr, opXor, opDiff, opShr, opBit, lv, hgt, hln, e3, e9, e10, e11, hlt, hae', lu2, hgL, hlL, q_x, g_x, l_x, r_x, z_x, e5, e16, e17, e18, hlq, hbe', q_y, g_y, l_y, r_y, z_y] <;> omega), (by simp (disch := first | omega | (simp; done) | fail) [wrap64c, if_pos, if_neg, opAnd, opOr, opXor, opDiff, opShr, opBit, lv, hgt, hln, e3, e9, e10, e11, hlt, hae', lu2, hgL, hlL, q_x, g_x, l_x, r_x, z_x, e5, e16, e17, e18, hlq, hbe', q_y, g_y, l_y, r_y, z_y] <;> omega), (by first | omega | assumption | (simp (disch := first | omega | (simp; done) | fail) [wrap64c, if_pos, if_neg, opAnd, opOr, opXor, opDiff, opShr, opBit, lv, hgt, hln, e3, e9, e10, e11, hlt, hae', lu2, hgL, hlL, q_x, g_x, l_x, r_x, z_x, e5, e16, e17, e18, hlq, hbe', q_y, g_y, l_y, r_y, z_y] <;> omega)), (hd2.trans a3), i3, (hM.put hor), ((putL_mem _ _ _).2 (.inr h02))⟩
      (case hm => first | omega | (simp; omega))
      (case hf => simp [FrameL, lv, hgt, hln, e3, e9, e10, e11, hlt, hae', lu2, hgL, hlL, q_x, g_x, l_x, r_x, z_x, e5, e16, e17, e18, hlq, hbe', q_y, g_y, l_y, r_y, z_y, f5_1, f9_1, f10_1, f11_1, f16_1, f17_1])
    · try simp (disch := first | omega | (simp; done) | fail) [wrap64c, if_pos, if_neg, opAnd, opOr, opXor, opDiff, opShr, opBit, lv, hgt, hln, e3, e9, e10, e11, hlt, hae', lu2, hgL, hlL, q_x, g_x, l_x, r_x, z_x, e5, e16, e17, e18, hlq]
      refine loopK_next _ ?hm ?hf ⟨w, j + 1, M, rfl, (by simp (disch := first | omega | (simp; done) | fail) [wrap64c, if_pos, if_neg, opAnd, opOr, opXor, opDiff, opShr, opBit, lv, hgt, hln, e3, e9, e10, e11, hlt, hae', lu2, hgL, hlL, q_x, g_x, l_x, r_x, z_x, e5, e16, e17, e18, hlq] <;> omega), (by simp (disch := first | omega | (simp; done) | fail) [wrap64c, if_pos, if_neg, opAnd, opOr, opXor, opDiff, opShr, opBit, lv, hgt, hln, e3, e9, e10, e11, hlt, hae', lu2, hgL, hlL, q_x, g_x, l_x, r_x, z_x, e5, e16, e17, e18, hlq] <;> omega), (by first | omega | assumption | (simp (disch := first | omega | (simp; done) | fail) [wrap64c, if_pos, if_neg, opAnd, opOr, opXor, opDiff, opShr, opBit, lv, hgt, hln, e3, e9, e10, e11, hlt, hae', lu2, hgL, hlL, q_x, g_x, l_x, r_x, z_x, e5, e16, e17, e18, hlq] <;> omega)), ((hd.trans a2).trans hd2), hi2, hM, h02⟩
      (case hm => first | omega | (simp; omega))
      (case hf => simp [FrameL, lv, hgt, hln, e3, e9, e10, e11, hlt, hae', lu2, hgL, hlL, q_x, g_x, l_x, r_x, z_x, e5, e16, e17, e18, hlq, f9_0, f10_0])
  · try simp (disch := first | omega | (simp; done) | fail) [wrap64c, if_pos, if_neg, opAnd, opOr, opXor, opDiff, opShr, opBit, lv, hgt, hln, e3, e9, e10, e11, hlt]
    exact done_ret rfl ⟨hd, L, hi, hL, h0⟩
end Go.Proofs.Ytnncipcldbopgaa
namespace Go.Proofs.Ytnncipcldbopgaa
set_option linter.unusedSimpArgs false
set_option linter.unusedVariables false
set_option maxHeartbeats 4000000
open Go Go.Eng
attribute [local irreducible] WD RunD PreD Runs CallOK
theorem natsP {l : List Nat} {n : Nat} (h : ∀ x ∈ l, x < n) {r : Nat} : ∀ x ∈ l.take r ++ [n] ++ l.drop r, x < n + 1 := by
  intro x hx
  simp only [List.mem_append, List.mem_singleton] at hx
  rcases hx with (hx | rfl) | hx
  · have := h x (List.mem_of_mem_take hx); omega
  · omega
  · have := h x (List.mem_of_mem_drop hx); omega
theorem nodupP {l : List Nat} {n : Nat} (h : ∀ x ∈ l, x < n) (hd : l.Nodup) (r : Nat) : (l.take r ++ [n] ++ l.drop r).Nodup := by
  have hp : (l.take r ++ [n] ++ l.drop r).Perm (n :: l) := by
    rw [List.append_assoc]
    refine (List.perm_append_comm).trans ?_
    show ([n] ++ l.drop r ++ l.take r).Perm _
    rw [List.append_assoc]
    refine List.Perm.cons n ?_
    have := List.perm_append_comm (l₁ := l.drop r) (l₂ := l.take r)
    rwa [List.take_append_drop] at this
  rw [hp.nodup_iff, List.nodup_cons]
  exact ⟨fun hm => by have := h n hm; omega, hd⟩
theorem order_ok (hB h : Hp) (o k n : Nat) (hA : Adds hB h) (hc : CurS hB.next o k h) (hk : k + 1000 < 2 ^ 40) (hn : n ≤ 100) :
    ∃ v h', CallOK Try.prog 193 #[.pointer (some ⟨o, 0, none⟩), .int .i64 (n : Int)] h v h' ∧ DrW hB o (k + 2 * n) h h' ∧ ∃ l : List Nat, IntsA h.next h' v (toN l) ∧ l.length = n ∧ (∀ x ∈ l, x < n) ∧ l.Nodup := by
  refine callY_L (args := [.pointer (some ⟨o, 0, none⟩), .int .i64 (n : Int)]) 31 _ [.tmp 4] Try.func193 rfl rfl rfl ?_
  try simp (disch := first | omega | (simp; done) | fail) [wrap64c, if_pos, if_neg, opAnd, opOr, opXor, opDiff, opShr, opBit]
  refine WD_loopC [0, 1] (fun m tm h' => ∃ v i l, m = n - i ∧ tm 5 = v ∧ tm 6 = .int .i64 (i : Int) ∧ (i ≤ n) ∧ (DrW hB o (k + 2 * i) h h') ∧ (IntsA h.next h' v (toN l)) ∧ (l.length = i) ∧ (∀ x ∈ l, x < i) ∧ (l.Nodup)) _ ⟨Value.slice none 0 0, 0, [], rfl, (by simp (disch := first | omega | (simp; done) | fail) [wrap64c, if_pos, if_neg, opAnd, opOr, opXor, opDiff, opShr, opBit]), (by simp (disch := first | omega | (simp; done) | fail) [wrap64c, if_pos, if_neg, opAnd, opOr, opXor, opDiff, opShr, opBit]), (by first | omega | assumption | (simp (disch := first | omega | (simp; done) | fail) [wrap64c, if_pos, if_neg, opAnd, opOr, opXor, opDiff, opShr, opBit] <;> omega)), (DrW.refl hA hc), (.nil _ _), rfl, (by simp), List.nodup_nil⟩ ?_
  rintro m tm h' hFr ⟨v, i, l, rfl, e5, e6, hin, hd, hi, hl, hx, hnd⟩
  simp only [FrameL] at hFr
  obtain ⟨f0_0, f1_0, -⟩ := hFr
  try simp (disch := first | omega | (simp; done) | fail) [wrap64c, if_pos, if_neg, opAnd, opOr, opXor, opDiff, opShr, opBit] at f0_0 f1_0
  have e0 := f0_0
  have e1 := f1_0
  have hbo := hc.bo
  have nd := hd.nx
  by_cases hlt : i < n
  · have hlt' : (i : Int) < (n : Int) := by omega
    obtain ⟨v1, h1, c1, r, q1, l1, w1⟩ := pick_ok hB.next o (k + 2 * i) h' ((i : Int) + 1) hd.cur (by omega)
    subst q1
    have hr := l1 (by omega)
    have d1 := hd.trans (w1.dr hd.add hd.cur)
    have n1 := w1.nx
    have hi1 : IntsA h.next h1 v (toN l) := ints_cur hi (by omega) (fun p h1 h2 => w1.get p h2 (by omega))
    have htk : (toN l).take r = toN (l.take r) := by simp [toN, List.map_take]
    have hdr : (toN l).drop r = toN (l.drop r) := by simp [toN, List.map_drop]
    have hP := natsP hx (r := r)
    have hQ := nodupP hx hnd r
    have lP : (l.take r ++ [i] ++ l.drop r).length = i + 1 := by simp; omega
    rcases hi1 with ⟨y1, y2⟩ | ⟨oq, eq_, y2, z1, z2, z3⟩
    · have l0 : l = [] := List.length_eq_zero_iff.1 (by have := congrArg List.length y1; simpa using this)
      have i0 : i = 0 := by rw [← hl, l0]; rfl
      have r0 : r = 0 := by omega
      subst y2
      have r0' := r0
      have hnil : Ints h1 (.slice none 0 0) (toN (l.take r)) := by rw [l0]; simp; exact (IntsO.nil (fun _ => False) h1).ints
      obtain ⟨v2, h2, c2, a2, _, i2⟩ := l1Own_ok h1 (.slice none 0 0) (toN (l.take r)) hnil (by simp; omega)
      have n2 := a2.1.1
      have d2 := d1.trans (DrW.of_adds d1.add d1.cur a2)
      obtain ⟨v3, h3, hap3, i3, k3, n3, s3⟩ := appI i2 (i : Int) (by simp; omega) n2 d2.add (by have := hA.1.1; omega)
      obtain ⟨s3a, s3b⟩ : h2.next ≤ h3.next ∧ ∀ p, p < h2.next → p < h1.next → h3.get p = h2.get p := ⟨by omega, s3⟩
      have hr3 : Ints h3 (.slice none 0 0) (toN (l.drop r)) := (by rw [l0]; simp; exact (IntsO.nil (fun _ => False) h3).ints)
      rw [← toN_snoc] at i3
      obtain ⟨v4, h4, hap4, i4, k4, n4, s4⟩ := append_ints (P := Try.prog) (t := 24) (t' := 24) i3 hr3 ty_elT_24 ty_szT_3 ty_zeroT_3 ty_byT_3 (by decide) (by decide) (by simp) (by simp; omega) (by omega) k3 (by have := hA.1.1; omega)
      rw [← toN_append] at i4
      have d4 : DrW hB o (k + 2 * i + 2) h h4 := by
        refine ⟨k4, by omega, fun p hp hne => ?_, ?_⟩
        · rw [s4 p (by omega) (by omega), s3b p (by omega) (by omega)]
          exact d2.sm p hp hne
        · exact d2.cur.same ⟨by omega, fun p hp hl => by
            have hb' : p < h1.next := by rcases hp with hp | hp <;> have := hA.1.1 <;> omega
            rw [s4 p (by omega) hb', s3b p hl hb']⟩
      skip
      try simp (disch := first | omega | (simp; done) | fail) [wrap64c, if_pos, if_neg, opAnd, opOr, opXor, opDiff, opShr, opBit, e0, e1, e5, e6, hlt', r0']
      refine callG_c (by simp) (by simp) ?ha (c1) ?_
      (case ha => simp (disch := first | omega | (simp; done) | fail) [wrap64c, if_pos, if_neg, opAnd, opOr, opXor, opDiff, opShr, opBit, e0, e1, e5, e6, hlt', r0'])
      try simp (disch := first | omega | (simp; done) | fail) [wrap64c, if_pos, if_neg, opAnd, opOr, opXor, opDiff, opShr, opBit, e0, e1, e5, e6, hlt', r0']
      refine callG_c (by simp) (by simp) ?ha (c2) ?_
      (case ha => simp (disch := first | omega | (simp; done) | fail) [wrap64c, if_pos, if_neg, opAnd, opOr, opXor, opDiff, opShr, opBit, e0, e1, e5, e6, hlt', r0'])
      try simp (disch := first | omega | (simp; done) | fail) [wrap64c, if_pos, if_neg, opAnd, opOr, opXor, opDiff, opShr, opBit, e0, e1, e5, e6, hlt', r0', hap3, hap4]
      refine loopK_next _ ?hm ?hf ⟨v4, i + 1, l.take r ++ [i] ++ l.drop r, rfl, (by simp (disch := first | omega | (simp; done) | fail) [wrap64c, if_pos, if_neg, opAnd, opOr, opXor, opDiff, opShr, opBit, e0, e1, e5, e6, hlt', r0'] <;> omega), (by simp (disch := first | omega | (simp; done) | fail) [wrap64c, if_pos, if_neg, opAnd, opOr, opXor, opDiff, opShr, opBit, e0, e1, e5, e6, hlt', r0'] <;> omega), (by first | omega | assumption | (simp (disch := first | omega | (simp; done) | fail) [wrap64c, if_pos, if_neg, opAnd, opOr, opXor, opDiff, opShr, opBit, e0, e1, e5, e6, hlt', r0'] <;> omega)), (d4.mono (by omega)), (IntsA.lower i4 (by omega)), lP, hP, hQ⟩
      (case hm => first | omega | (simp; omega))
      (case hf => simp [FrameL, e0, e1, e5, e6, hlt', r0', f0_0, f1_0])
    · have ll : (toN l).length = i := by rw [toN_length, hl]
      rw [ll] at y2
      subst y2
      have hri : r ≤ i := by omega
      have hI1 : Ints h1 (.slice (some ⟨oq, 0, none⟩) r i) (toN (l.take r)) := by
        have := subI z3 z2 (i := 0) (n := r) (c := i) (by omega) (by omega) (by omega)
        rwa [List.drop_zero, htk] at this
      have hI2 : Ints h1 (.slice (some ⟨oq, r, none⟩) (i - r) (i - r)) (toN (l.drop r)) := by
        have := subI z3 z2 (i := r) (n := i - r) (c := i - r) (by omega) (by omega) (by omega)
        rwa [hdr, List.take_of_length_le (by rw [toN_length, List.length_drop, hl]; exact Nat.le_refl _)] at this
      obtain ⟨v2, h2, c2, a2, _, i2⟩ := l1Own_ok h1 (.slice (some ⟨oq, 0, none⟩) r i) (toN (l.take r)) hI1 (by simp; omega)
      have n2 := a2.1.1
      have d2 := d1.trans (DrW.of_adds d1.add d1.cur a2)
      obtain ⟨v3, h3, hap3, i3, k3, n3, s3⟩ := appI i2 (i : Int) (by simp; omega) n2 d2.add (by have := hA.1.1; omega)
      obtain ⟨s3a, s3b⟩ : h2.next ≤ h3.next ∧ ∀ p, p < h2.next → p < h1.next → h3.get p = h2.get p := ⟨by omega, s3⟩
      have hr3 : Ints h3 (.slice (some ⟨oq, r, none⟩) (i - r) (i - r)) (toN (l.drop r)) := ((hI2.old.same (h' := h3) ⟨by omega, fun p hp _ => by rw [s3 p (by omega) hp, a2.1.2 p hp]⟩).ints)
      rw [← toN_snoc] at i3
      obtain ⟨v4, h4, hap4, i4, k4, n4, s4⟩ := append_ints (P := Try.prog) (t := 24) (t' := 24) i3 hr3 ty_elT_24 ty_szT_3 ty_zeroT_3 ty_byT_3 (by decide) (by decide) (by simp) (by simp; omega) (by omega) k3 (by have := hA.1.1; omega)
      rw [← toN_append] at i4
      have d4 : DrW hB o (k + 2 * i + 2) h h4 := by
        refine ⟨k4, by omega, fun p hp hne => ?_, ?_⟩
        · rw [s4 p (by omega) (by omega), s3b p (by omega) (by omega)]
          exact d2.sm p hp hne
        · exact d2.cur.same ⟨by omega, fun p hp hl => by
            have hb' : p < h1.next := by rcases hp with hp | hp <;> have := hA.1.1 <;> omega
            rw [s4 p (by omega) hb', s3b p hl hb']⟩
      skip
      try simp (disch := first | omega | (simp; done) | fail) [wrap64c, if_pos, if_neg, opAnd, opOr, opXor, opDiff, opShr, opBit, e0, e1, e5, e6, hlt', hri]
      refine callG_c (by simp) (by simp) ?ha (c1) ?_
      (case ha => simp (disch := first | omega | (simp; done) | fail) [wrap64c, if_pos, if_neg, opAnd, opOr, opXor, opDiff, opShr, opBit, e0, e1, e5, e6, hlt', hri])
      try simp (disch := first | omega | (simp; done) | fail) [wrap64c, if_pos, if_neg, opAnd, opOr, opXor, opDiff, opShr, opBit, e0, e1, e5, e6, hlt', hri]
      refine callG_c (by simp) (by simp) ?ha (c2) ?_
      (case ha => simp (disch := first | omega | (simp; done) | fail) [wrap64c, if_pos, if_neg, opAnd, opOr, opXor, opDiff, opShr, opBit, e0, e1, e5, e6, hlt', hri])
      try simp (disch := first | omega | (simp; done) | fail) [wrap64c, if_pos, if_neg, opAnd, opOr, opXor, opDiff, opShr, opBit, e0, e1, e5, e6, hlt', hri, hap3, hap4]
      refine loopK_next _ ?hm ?hf ⟨v4, i + 1, l.take r ++ [i] ++ l.drop r, rfl, (by simp (disch := first | omega | (simp; done) | fail) [wrap64c, if_pos, if_neg, opAnd, opOr, opXor, opDiff, opShr, opBit, e0, e1, e5, e6, hlt', hri] <;> omega), (by simp (disch := first | omega | (simp; done) | fail) [wrap64c, if_pos, if_neg, opAnd, opOr, opXor, opDiff, opShr, opBit, e0, e1, e5, e6, hlt', hri] <;> omega), (by first | omega | assumption | (simp (disch := first | omega | (simp; done) | fail) [wrap64c, if_pos, if_neg, opAnd, opOr, opXor, opDiff, opShr, opBit, e0, e1, e5, e6, hlt', hri] <;> omega)), (d4.mono (by omega)), (IntsA.lower i4 (by omega)), lP, hP, hQ⟩
      (case hm => first | omega | (simp; omega))
      (case hf => simp [FrameL, e0, e1, e5, e6, hlt', hri, f0_0, f1_0])
  · have hlt' : ¬ (i : Int) < (n : Int) := by omega
    have hie : i = n := by omega
    subst hie
    try simp (disch := first | omega | (simp; done) | fail) [wrap64c, if_pos, if_neg, opAnd, opOr, opXor, opDiff, opShr, opBit, e0, e1, e5, e6, hlt']
    exact done_ret rfl ⟨hd, l, hi, hl, hx, hnd⟩
def lineS (n i j : Nat) : Nat := ndiff (bit n - 1) (bit j - bit i)
theorem ia_put {n : Nat} {h : Hp} {v : Value} {xs : List Int} (hs : IntsA n h v xs) {o : Nat} (ho : o < n) (x : AObj) : IntsA n (h.put o x) v xs := by
  rcases hs with ⟨a, b⟩ | ⟨p, ex, a, b, c, d⟩
  · exact .inl ⟨a, b⟩
  · exact .inr ⟨p, ex, a, b, c, by simp [show p ≠ o by omega, d]⟩
theorem specLine_ok (h : Hp) (n : Nat) (h1 : 1 ≤ n) (hn : n ≤ 7) : ∃ v' h', CallOK Try.prog 264 #[.int .i64 (n : Int)] h v' h' ∧ Adds h h' ∧ ∃ b L, v' = .tuple #[.agg #[.int .i64 (n : Int), b], .bool true] ∧ IntsA (h.next + 2) h' b (toN L) ∧ SrtB (bit n) L ∧ ∀ a, a ∈ L ↔ ∃ i j, i ≤ j ∧ j ≤ n ∧ a = lineS n i j := by
  have hb := bit7 hn
  have hsz := sizeB_of h1 hn
  refine callY_L (args := [.int .i64 (n : Int)]) 40 _ [.cell 2 26, .tmp 3] Try.func264 rfl rfl rfl ?_
  try simp (disch := first | omega | (simp; done) | fail) [wrap64c, if_pos, if_neg, opAnd, opOr, opXor, opDiff, opShr, opBit, hsz]
  first | refine WY_heap fun h0 q_h0 => ?_ | refine callG_heap fun h0 q_h0 => ?_ | refine callP_heap fun h0 q_h0 => ?_ | refine callS_heap fun h0 q_h0 => ?_ | refine RY_heap fun h0 q_h0 => ?_ | refine PY_heap fun h0 q_h0 => ?_ | refine SY_heap fun h0 q_h0 => ?_ | refine doneY_heap fun h0 q_h0 => ?_ | refine loopK_heap fun h0 q_h0 => ?_ | refine thenY_heap fun h0 q_h0 => ?_ | refine thenM_heap fun h0 q_h0 => ?_
  have k0 : Adds h h0 := by rw [q_h0]; exact (by first | exact aK | exact kK)
  have n0 : h0.next = h.next + 1 := by simp [q_h0]
  refine callG_c (by simp) (by simp) ?ha (spItems_ok h0 (n : Int)) ?_
  (case ha => simp (disch := first | omega | (simp; done) | fail) [wrap64c, if_pos, if_neg, opAnd, opOr, opXor, opDiff, opShr, opBit, hsz])
  try simp (disch := first | omega | (simp; done) | fail) [wrap64c, if_pos, if_neg, opAnd, opOr, opXor, opDiff, opShr, opBit, hsz, putCells]
  first | refine WY_heap fun h2 q_h2 => ?_ | refine callG_heap fun h2 q_h2 => ?_ | refine callP_heap fun h2 q_h2 => ?_ | refine callS_heap fun h2 q_h2 => ?_ | refine RY_heap fun h2 q_h2 => ?_ | refine PY_heap fun h2 q_h2 => ?_ | refine SY_heap fun h2 q_h2 => ?_ | refine doneY_heap fun h2 q_h2 => ?_ | refine loopK_heap fun h2 q_h2 => ?_ | refine thenY_heap fun h2 q_h2 => ?_ | refine thenM_heap fun h2 q_h2 => ?_
  have k2 : Adds h0 h2 := by rw [q_h2]; exact (by first | exact aK | exact kK)
  have n2 : h2.next = h0.next + 1 := by simp [q_h2]
  have n0' := n0
  have gr2 : h2.get h.next = .cells [.int .i64 0, .slice none 0 0] true true 1 := by rw [k2.1.2 _ (by omega)]; simp [q_h0]
  have gb2 : h2.get (h.next + 1) = .cells [.int .i64 (n : Int), .slice none 0 0] true true 1 := by rw [← n0]; simp [q_h2]
  have ini0 : SrtB (bit n) [] := ⟨List.Pairwise.nil, fun a ha => by cases ha⟩
  refine WD_loopC [0, 2, 4, 5] (fun m tm h' => ∃ i u L, m = n + 1 - i ∧ tm 6 = .int .i64 ((i : Nat) : Int) ∧ (i ≤ n + 1) ∧ (Adds h h') ∧ (h.next + 2 ≤ h'.next) ∧ (h'.get h.next = .cells [.int .i64 0, .slice none 0 0] true true 1) ∧ (h'.get (h.next + 1) = .cells [.int .i64 (n : Int), u] true true 1) ∧ (IntsA (h.next + 2) h' u (toN L)) ∧ (SrtB (bit n) L) ∧ (∀ a, a ∈ L ↔ ∃ i' j', i' ≤ j' ∧ j' ≤ n ∧ i' < i ∧ a = lineS n i' j')) _ ⟨0, Value.slice none 0 0, [], rfl, (by simp (disch := first | omega | (simp; done) | fail) [wrap64c, if_pos, if_neg, opAnd, opOr, opXor, opDiff, opShr, opBit, hsz, n0']), (by first | omega | assumption | (simp (disch := first | omega | (simp; done) | fail) [wrap64c, if_pos, if_neg, opAnd, opOr, opXor, opDiff, opShr, opBit, hsz, n0'] <;> omega)), (k0.trans k2), (by omega), gr2, gb2, (.nil _ _), ini0, (by simp)⟩ ?_
  rintro m tm h' hFr ⟨i, u, L, rfl, e6, hi, hd, hnx, hgr, hgb, hA, hL, hm⟩
  simp only [FrameL] at hFr
  obtain ⟨f0_0, f2_0, f4_0, f5_0, -⟩ := hFr
  try simp (disch := first | omega | (simp; done) | fail) [wrap64c, if_pos, if_neg, opAnd, opOr, opXor, opDiff, opShr, opBit, hsz, n0'] at f0_0 f2_0 f4_0 f5_0
  have e0 := f0_0
  have e2 := f2_0
  have e4 := f4_0
  have e5 := f5_0
  have nd := hd.1.1
  by_cases hlt : i ≤ n
  · have hlt' : (i : Int) ≤ (n : Int) := by omega
    have ini2 : ∀ a, a ∈ L ↔ ∃ i' j', i' ≤ j' ∧ j' ≤ n ∧ (i' < i ∨ (i' = i ∧ j' < i)) ∧ a = lineS n i' j' := fun a => by
      rw [hm a]
      constructor
      · rintro ⟨i', j', q1, q2, q3, q4⟩; exact ⟨i', j', q1, q2, .inl q3, q4⟩
      · rintro ⟨i', j', q1, q2, q3 | q3, q4⟩
        · exact ⟨i', j', q1, q2, q3, q4⟩
        · omega
    try simp (disch := first | omega | (simp; done) | fail) [wrap64c, if_pos, if_neg, opAnd, opOr, opXor, opDiff, opShr, opBit, hsz, n0', e0, e2, e4, e5, e6, hlt']
    refine WD_loopC [0, 2, 4, 5, 6] (fun m tm h' => ∃ j w M, m = n + 1 - j ∧ tm 7 = .int .i64 ((j : Nat) : Int) ∧ (i ≤ j ∧ j ≤ n + 1) ∧ (Adds h h') ∧ (h.next + 2 ≤ h'.next) ∧ (h'.get h.next = .cells [.int .i64 0, .slice none 0 0] true true 1) ∧ (h'.get (h.next + 1) = .cells [.int .i64 (n : Int), w] true true 1) ∧ (IntsA (h.next + 2) h' w (toN M)) ∧ (SrtB (bit n) M) ∧ (∀ a, a ∈ M ↔ ∃ i' j', i' ≤ j' ∧ j' ≤ n ∧ (i' < i ∨ (i' = i ∧ j' < j)) ∧ a = lineS n i' j')) _ ⟨i, u, L, rfl, (by simp (disch := first | omega | (simp; done) | fail) [wrap64c, if_pos, if_neg, opAnd, opOr, opXor, opDiff, opShr, opBit, hsz, n0', e0, e2, e4, e5, e6, hlt']), (by omega), hd, hnx, hgr, hgb, hA, hL, ini2⟩ ?_
    rintro m tm h' hFr ⟨j, w, M, rfl, e7, hj, hd2, hnx2, hgr2, hgb2, hA2, hM, hm2⟩
    simp only [FrameL] at hFr
    obtain ⟨f0_1, f2_1, f4_1, f5_1, f6_1, -⟩ := hFr
    try simp (disch := first | omega | (simp; done) | fail) [wrap64c, if_pos, if_neg, opAnd, opOr, opXor, opDiff, opShr, opBit, hsz, n0', e0, e2, e4, e5, e6, hlt'] at f0_1 f2_1 f4_1 f5_1 f6_1
    have e0 := f0_1
    have e2 := f2_1
    have e4 := f4_1
    have e5 := f5_1
    have e6 := f6_1
    have nd2 := hd2.1.1
    by_cases hlj : j ≤ n
    · have hlj' : (j : Int) ≤ (n : Int) := by omega
      have hgb2' := hgb2
      have hbj := bit7 (i := j) (by omega)
      have hbi := bit7 (i := i) (by omega)
      have hbm := bit_mono hj.1
      obtain ⟨d, hde⟩ : ∃ d, d = bit j - bit i := ⟨_, rfl⟩
      have hsub : ((bit j : Nat) : Int) - ((bit i : Nat) : Int) = (d : Int) := by omega
      obtain ⟨w0, hw0⟩ : ∃ w, w = bit n - 1 := ⟨_, rfl⟩
      have hall : ((bit n : Nat) : Int) - 1 = (w0 : Int) := by omega
      have hlS : lineS n i j < bit n := ndiff_lt (by omega)
      have hlw : ndiff w0 d = lineS n i j := by rw [hw0, hde]; rfl
      have lM := hM.len
      have ntw := hA2.nt
      obtain ⟨u3, h3, c3, a3, i3⟩ := spPut_ok h' (h.next + 2) w M (lineS n i j) hA2 hM.1 (by omega) (by omega)
      have gb3 : h3.get (h.next + 1) = .cells [.int .i64 (n : Int), w] true true 1 := by rw [a3.1.2 _ (by omega)]; exact hgb2
      have gr3 : h3.get h.next = .cells [.int .i64 0, .slice none 0 0] true true 1 := by rw [a3.1.2 _ (by omega)]; exact hgr2
      have ntu := i3.nt
      have csu := (i3.own (by simp [(hM.put hlS).len]; have := (hM.put hlS).len; omega)).ints.cs
      have hu2 : ∀ a b c : Value, putCells [a, b] 1 [c] = [a, c] := fun _ _ _ => rfl
      try simp (disch := first | omega | (simp; done) | fail) [wrap64c, if_pos, if_neg, opAnd, opOr, opXor, opDiff, opShr, opBit, hsz, n0', e0, e2, e4, e5, e6, hlt', e7, hlj', hgb2', hsub, hall, hlw, ntw, gb3, gr3, ntu, csu, hu2]
      refine WD_chainC rfl (by kernel_rfl) (by kernel_rfl) ?_
      try simp (disch := first | omega | (simp; done) | fail) [wrap64c, if_pos, if_neg, opAnd, opOr, opXor, opDiff, opShr, opBit, hsz, n0', e0, e2, e4, e5, e6, hlt', e7, hlj', hgb2', hsub, hall, hlw, ntw, gb3, gr3, ntu, csu, hu2]
      refine callG_c (by simp) (by simp) ?ha (c3) ?_
      (case ha => simp (disch := first | omega | (simp; done) | fail) [wrap64c, if_pos, if_neg, opAnd, opOr, opXor, opDiff, opShr, opBit, hsz, n0', e0, e2, e4, e5, e6, hlt', e7, hlj', hgb2', hsub, hall, hlw, ntw, gb3, gr3, ntu, csu, hu2])
      try simp (disch := first | omega | (simp; done) | fail) [wrap64c, if_pos, if_neg, opAnd, opOr, opXor, opDiff, opShr, opBit, hsz, n0', e0, e2, e4, e5, e6, hlt', e7, hlj', hgb2', hsub, hall, hlw, ntw, gb3, gr3, ntu, csu, hu2]
      refine loopK_next _ ?hm ?hf ⟨j + 1, u3, putL M (lineS n i j), rfl, (by simp (disch := first | omega | (simp; done) | fail) [wrap64c, if_pos, if_neg, opAnd, opOr, opXor, opDiff, opShr, opBit, hsz, n0', e0, e2, e4, e5, e6, hlt', e7, hlj', hgb2', hsub, hall, hlw, ntw, gb3, gr3, ntu, csu, hu2] <;> omega), (by first | omega | assumption | (simp (disch := first | omega | (simp; done) | fail) [wrap64c, if_pos, if_neg, opAnd, opOr, opXor, opDiff, opShr, opBit, hsz, n0', e0, e2, e4, e5, e6, hlt', e7, hlj', hgb2', hsub, hall, hlw, ntw, gb3, gr3, ntu, csu, hu2] <;> omega)), ((hd2.trans a3).put (by omega) (fun _ => rfl)), (by have := a3.1.1; simp; omega), (by simp [gr3]), (by simp), (ia_put i3 (by omega) _), (hM.put hlS), ?c_hm2⟩
      (case hm => first | omega | (simp; omega))
      (case hf => simp [FrameL, hsz, n0', e0, e2, e4, e5, e6, hlt', e7, hlj', hgb2', hsub, hall, hlw, ntw, gb3, gr3, ntu, csu, hu2, f0_1, f2_1, f4_1, f5_1, f6_1])
      case c_hm2 =>
        exact (fun a => by
          rw [putL_mem, hm2 a]
          constructor
          · rintro (rfl | ⟨i', j', q1, q2, q3, q4⟩)
            · exact ⟨i, j, hj.1, hlj, .inr ⟨rfl, by omega⟩, rfl⟩
            · exact ⟨i', j', q1, q2, by omega, q4⟩
          · rintro ⟨i', j', q1, q2, q3, q4⟩
            by_cases e : i' = i ∧ j' = j
            · obtain ⟨rfl, rfl⟩ := e
              exact .inl q4
            · exact .inr ⟨i', j', q1, q2, by omega, q4⟩)
    · have hlj' : ¬ (j : Int) ≤ (n : Int) := by omega
      try simp (disch := first | omega | (simp; done) | fail) [wrap64c, if_pos, if_neg, opAnd, opOr, opXor, opDiff, opShr, opBit, hsz, n0', e0, e2, e4, e5, e6, hlt', e7, hlj']
      refine loopK_next _ ?hm ?hf ⟨i + 1, w, M, rfl, (by simp (disch := first | omega | (simp; done) | fail) [wrap64c, if_pos, if_neg, opAnd, opOr, opXor, opDiff, opShr, opBit, hsz, n0', e0, e2, e4, e5, e6, hlt', e7, hlj'] <;> omega), (by first | omega | assumption | (simp (disch := first | omega | (simp; done) | fail) [wrap64c, if_pos, if_neg, opAnd, opOr, opXor, opDiff, opShr, opBit, hsz, n0', e0, e2, e4, e5, e6, hlt', e7, hlj'] <;> omega)), hd2, hnx2, hgr2, hgb2, hA2, hM, ?c_hm⟩
      (case hm => first | omega | (simp; omega))
      (case hf => simp [FrameL, hsz, n0', e0, e2, e4, e5, e6, hlt', e7, hlj', f0_0, f2_0, f4_0, f5_0])
      case c_hm =>
        exact (fun a => by
          rw [hm2 a]
          constructor
          · rintro ⟨i', j', q1, q2, q3, q4⟩; exact ⟨i', j', q1, q2, by omega, q4⟩
          · rintro ⟨i', j', q1, q2, q3, q4⟩; exact ⟨i', j', q1, q2, by omega, q4⟩)
  · have hlt' : ¬ (i : Int) ≤ (n : Int) := by omega
    have hgb' := hgb
    have ntu := hA.nt
    have lL := hL.len
    have csu := (hA.own (by simp; omega)).ints.cs
    have hu2 : ∀ a b c d : Value, putCells [a, b] 0 [c, d] = [c, d] := fun _ _ _ _ => rfl
    try simp (disch := first | omega | (simp; done) | fail) [wrap64c, if_pos, if_neg, opAnd, opOr, opXor, opDiff, opShr, opBit, hsz, n0', e0, e2, e4, e5, e6, hlt', hgb', hgr, ntu, csu, hu2]
    exact done_ret (vs := [.agg #[.int .i64 (n : Int), u], .bool true]) (by simp [resL, e2]) ⟨hd.put (Nat.le_refl _) (fun _ => rfl), u, L, rfl, ia_put hA (by omega) _, hL, fun a => by
      rw [hm a]
      constructor
      · rintro ⟨i', j', q1, q2, q3, q4⟩; exact ⟨i', j', q1, q2, q4⟩
      · rintro ⟨i', j', q1, q2, q4⟩; exact ⟨i', j', q1, q2, by omega, q4⟩⟩
end Go.Proofs.Ytnncipcldbopgaa
namespace Go.Proofs.Ytnncipcldbopgaa
set_option linter.unusedSimpArgs false
set_option linter.unusedVariables false
set_option maxHeartbeats 4000000
open Go Go.Eng
attribute [local irreducible] WD RunD PreD Runs CallOK
def idxF (q : List Int → Bool) (L : List (List Int)) : Int := if L.any q = true then (L.findIdx q : Int) else -1
def pairB (N : Int) (x : List Int) : Bool := decide (x.length = 2) && (decide (0 ≤ x.getD 0 0 ∧ x.getD 0 0 ≤ N - 1) && (decide (0 ≤ x.getD 1 0 ∧ x.getD 1 0 ≤ N - 1) && !decide (x.getD 0 0 = x.getD 1 0)))
def pairsB (N : Int) (L : List (List Int)) : Bool := decide (L.length ≤ 40) && !L.any fun x => !pairB N x
def breaks (a : Nat) (x : List Int) : Bool := a.testBit (x.getD 1 0).toNat && !a.testBit (x.getD 0 0).toNat
end Go.Proofs.Ytnncipcldbopgaa
namespace Go.Proofs.Ytnncipcldbopgaa
set_option linter.unusedSimpArgs false
set_option linter.unusedVariables false
set_option maxHeartbeats 4000000
open Go Go.Eng
attribute [local irreducible] WD RunD PreD Runs CallOK
def on1 (x : Int) : Int := IntKind.wrap .u64 (bAnd .u64 (bShr .u64 x 1) 6148914691236517205 + bAnd .u64 x 6148914691236517205)
def on2 (x : Int) : Int := IntKind.wrap .u64 (bAnd .u64 (bShr .u64 x 2) 3689348814741910323 + bAnd .u64 x 3689348814741910323)
def on3 (x : Int) : Int := bAnd .u64 (IntKind.wrap .u64 (bShr .u64 x 4 + x)) 1085102592571150095
def on4 (x : Int) (k : Int) : Int := IntKind.wrap .u64 (x + bShr .u64 x k)
def idxI (p : Int → Bool) (xs : List Int) : Int := match xs.findIdx? p with
  | some i => i
  | none => -1
def chB (ch : List Int) (m : Int) : Bool := decide ((ch.length : Int) ≤ m) && !ch.any fun x => decide (x < 0)
end Go.Proofs.Ytnncipcldbopgaa
namespace Go.Proofs.Ytnncipcldbopgaa
set_option linter.unusedSimpArgs false
set_option linter.unusedVariables false
set_option maxHeartbeats 4000000
open Go Go.Eng
attribute [local irreducible] WD RunD PreD Runs CallOK
def natsOf (X : List Int) : List Nat := X.map Int.toNat
@[simp] theorem natsOf_toN (xs : List Nat) : natsOf (toN xs) = xs := by
  unfold natsOf toN
  rw [List.map_map]
  conv => rhs; rw [← List.map_id xs]
  apply List.map_congr_left
  intro x _
  simp
noncomputable def freeB (N : Int) (X : List Int) : Bool := spB N X && ((X.length : Int) == ((bit N.toNat : Nat) : Int))
noncomputable def sizesR (N : Int) (X : List Int) : List Int := if spB N X = true then toN (sizesN N.toNat (natsOf X)) else []
def sizesC (n : Nat) (xs : List Nat) : List Value := (toN (sizesN n xs)).map (.int .i64)
end Go.Proofs.Ytnncipcldbopgaa
namespace Go.Proofs.Ytnncipcldbopgaa
set_option linter.unusedSimpArgs false
set_option linter.unusedVariables false
set_option maxHeartbeats 4000000
open Go Go.Eng
attribute [local irreducible] WD RunD PreD Runs CallOK
def keepsB (L : List (List Int)) (a : Nat) : Bool := !L.any (breaks a)
def ordL (n : Nat) (L : List (List Int)) : List Nat := famK (keepsB L) (bit n)
noncomputable def ordOK (N : Int) (L : List (List Int)) : Bool := sizeB N && pairsB N L && spB N (toN (ordL N.toNat L))
noncomputable def ordN (N : Int) (L : List (List Int)) : Int := if ordOK N L = true then N else 0
noncomputable def ordX (N : Int) (L : List (List Int)) : List Int := if ordOK N L = true then toN (ordL N.toNat L) else []
theorem ordL_len (n : Nat) (L : List (List Int)) : (ordL n L).length ≤ bit n := by
  unfold ordL famK
  have := List.length_filter_le (keepsB L) (List.range (bit n))
  simpa using this
end Go.Proofs.Ytnncipcldbopgaa
namespace Go.Proofs.Ytnncipcldbopgaa
set_option linter.unusedSimpArgs false
set_option linter.unusedVariables false
set_option maxHeartbeats 4000000
open Go Go.Eng
attribute [local irreducible] WD RunD PreD Runs CallOK
theorem l1All_ok (h : Hp) (v : Value) (xs : List Int) (a b : Int) (hv : Ints h v xs) : CallOK Try.prog 216 #[v, .int .i64 a, .int .i64 b] h (.bool (decide (∀ x ∈ xs, a ≤ x ∧ x ≤ b))) h := by
  refine callY_P 21 _ [.tmp 6] Try.func216 rfl rfl rfl (by first | rfl | simp) ?_
  have hs := hv.len
  have hL := hv.lenD
  try simp (disch := first | omega | (simp; done) | fail) [wrap64c, if_pos, if_neg, hL]
  refine WD_loopC [1, 2, 9, 10] (fun m tm h' => ∃ j, m = xs.length - j ∧ h = h' ∧ tm 11 = .int .i64 (j : Int) ∧ (j ≤ xs.length) ∧ (∀ i (hi : i < xs.length), i < j → a ≤ xs[i] ∧ xs[i] ≤ b)) _ ⟨0, rfl, rfl, (by simp (disch := first | omega | (simp; done) | fail) [wrap64c, if_pos, if_neg, hL]), (by first | omega | assumption | (simp (disch := first | omega | (simp; done) | fail) [wrap64c, if_pos, if_neg, hL] <;> omega)), (by intro i hi h0; omega)⟩ ?_
  rintro m tm h' hFr ⟨j, rfl, rfl, e11, hj, hx⟩
  simp only [FrameL] at hFr
  obtain ⟨f1_0, f2_0, f9_0, f10_0, -⟩ := hFr
  try simp (disch := first | omega | (simp; done) | fail) [wrap64c, if_pos, if_neg, hL] at f1_0 f2_0 f9_0 f10_0
  have e1 := f1_0
  have e2 := f2_0
  have e9 := f9_0
  have e10 := f10_0
  by_cases hlt : j < xs.length
  · obtain ⟨o_x, i_x, c_x, cs_x, own_x, ex_x, es_x, q_x, b_x, g_x, l_x, r_x⟩ := hv.open ((by omega))
    have z_x : ∀ h2 : i_x < cs_x.length, cs_x[i_x] = _ := fun h2 => r_x 0 ((by omega)) h2
    try simp (disch := first | omega | (simp; done) | fail) [wrap64c, if_pos, if_neg, hL, e1, e2, e9, e10, e11, hlt, q_x, g_x, l_x, r_x, z_x]
    have hc := l1In_ok h xs[j] a b
    by_cases hq : a ≤ xs[j] ∧ xs[j] ≤ b
    · rw [decide_eq_true hq] at hc
      refine callG_c (by simp) (by simp) ?ha (hc) ?_
      (case ha => simp (disch := first | omega | (simp; done) | fail) [wrap64c, if_pos, if_neg, hL, e1, e2, e9, e10, e11, hlt, q_x, g_x, l_x, r_x, z_x])
      try simp (disch := first | omega | (simp; done) | fail) [wrap64c, if_pos, if_neg, hL, e1, e2, e9, e10, e11, hlt, q_x, g_x, l_x, r_x, z_x]
      refine loopK_next _ ?hm ?hf ⟨j + 1, rfl, rfl, (by simp (disch := first | omega | (simp; done) | fail) [wrap64c, if_pos, if_neg, hL, e1, e2, e9, e10, e11, hlt, q_x, g_x, l_x, r_x, z_x] <;> omega), (by first | omega | assumption | (simp (disch := first | omega | (simp; done) | fail) [wrap64c, if_pos, if_neg, hL, e1, e2, e9, e10, e11, hlt, q_x, g_x, l_x, r_x, z_x] <;> omega)), ?c_hx⟩
      (case hm => first | omega | (simp; omega))
      (case hf => simp [FrameL, hL, e1, e2, e9, e10, e11, hlt, q_x, g_x, l_x, r_x, z_x, f1_0, f2_0, f9_0, f10_0])
      case c_hx =>
        exact (fun i hi hij => by
          rcases Nat.lt_succ_iff_lt_or_eq.1 hij with h1 | h1
          · exact hx i hi h1
          · subst h1; exact hq)
    · rw [decide_eq_false hq] at hc
      refine callG_c (by simp) (by simp) ?ha (hc) ?_
      (case ha => simp (disch := first | omega | (simp; done) | fail) [wrap64c, if_pos, if_neg, hL, e1, e2, e9, e10, e11, hlt, q_x, g_x, l_x, r_x, z_x])
      try simp (disch := first | omega | (simp; done) | fail) [wrap64c, if_pos, if_neg, hL, e1, e2, e9, e10, e11, hlt, q_x, g_x, l_x, r_x, z_x]
      have : ¬ ∀ x ∈ xs, a ≤ x ∧ x ≤ b := fun q => hq (q _ (List.getElem_mem hlt))
      exact done_ret rfl (by rw [decide_eq_false this]; simp)
  · try simp (disch := first | omega | (simp; done) | fail) [wrap64c, if_pos, if_neg, hL, e1, e2, e9, e10, e11, hlt]
    have : ∀ x ∈ xs, a ≤ x ∧ x ≤ b := fun x hx' => by
      obtain ⟨i, hi, rfl⟩ := List.getElem_of_mem hx'
      exact hx i hi (by omega)
    exact done_ret rfl (by rw [decide_eq_true this]; simp)
end Go.Proofs.Ytnncipcldbopgaa
namespace Go.Proofs.Ytnncipcldbopgaa
set_option linter.unusedSimpArgs false
set_option linter.unusedVariables false
set_option maxHeartbeats 4000000
open Go Go.Eng
attribute [local irreducible] WD RunD PreD Runs CallOK
theorem spIf_ok (h : Hp) (b : Value) (N : Int) (X : List Int) (S : Nat → Prop) (hX : IntsO S h b X) (hS : ∀ o, S o → o < h.next) (hl : X.length < 2 ^ 40) :
    ∃ h', CallOK Try.prog 256 #[.agg #[.int .i64 N, b]] h (.tuple #[if spB N X = true then .agg #[.int .i64 N, b] else .agg #[.int .i64 0, .slice none 0 0], .bool (spB N X)]) h' ∧ Adds h h' := by
  have nt := hX.nt
  have cs := hX.cs
  have key : ∃ v' h', CallOK Try.prog 256 #[.agg #[.int .i64 N, b]] h v' h' ∧ v' = .tuple #[if spB N X = true then .agg #[.int .i64 N, b] else .agg #[.int .i64 0, .slice none 0 0], .bool (spB N X)] ∧ Adds h h' := by
    refine callY_L (args := [.agg #[.int .i64 N, b]]) 9 _ [.cell 2 26, .tmp 3] Try.func256 rfl rfl rfl ?_
    refine WD_first ?_
    try simp (disch := first | omega | (simp; done) | fail) [wrap64c, if_pos, if_neg, opAnd, opOr, opXor, opDiff, opShr, opBit, nt, cs]
    refine stopK_heap fun h0 q_h0 => ?_
    refine stopK_go ?_
    have k0 : Adds h h0 := by rw [q_h0]; exact (by first | exact aK | exact kK)
    have n0 : h0.next = h.next + 2 := by simp [q_h0]
    have g0 : h0.get h.next = .cells [.int .i64 N, b] true true 1 := by simp [q_h0]
    have g1 : h0.get (h.next + 1) = .cells [.int .i64 0, .slice none 0 0] true true 1 := by simp [q_h0]
    try simp (disch := first | omega | (simp; done) | fail) [wrap64c, if_pos, if_neg, opAnd, opOr, opXor, opDiff, opShr, opBit, nt, cs, g0, g1]
    refine callG_c (by simp) (by simp) ?ha (spGood_ok h0 (.agg #[.int .i64 N, b]) N X (.mk (hX.ints.keep k0.1)) hl) ?_
    (case ha => simp (disch := first | omega | (simp; done) | fail) [wrap64c, if_pos, if_neg, opAnd, opOr, opXor, opDiff, opShr, opBit, nt, cs, g0, g1])
    cases c : spB N X
    · try simp (disch := first | omega | (simp; done) | fail) [wrap64c, if_pos, if_neg, opAnd, opOr, opXor, opDiff, opShr, opBit, nt, cs, g0, g1, c, putCells]
      exact done_ret (by simp [putCells]; rfl) ⟨by simp [c], (by first | exact aK | exact kK)⟩
    · try simp (disch := first | omega | (simp; done) | fail) [wrap64c, if_pos, if_neg, opAnd, opOr, opXor, opDiff, opShr, opBit, nt, cs, g0, g1, c, putCells]
      exact done_ret (by simp [putCells]; rfl) ⟨by simp [c], (by first | exact aK | exact kK)⟩
  obtain ⟨_, h', hc, rfl, ha⟩ := key
  exact ⟨h', hc, ha⟩
end Go.Proofs.Ytnncipcldbopgaa
namespace Go.Proofs.Ytnncipcldbopgaa
set_option linter.unusedSimpArgs false
set_option linter.unusedVariables false
set_option maxHeartbeats 4000000
open Go Go.Eng
attribute [local irreducible] WD RunD PreD Runs CallOK
theorem pairB_two {N a b : Int} : pairB N [a, b] = (decide (∀ x ∈ [a, b], 0 ≤ x ∧ x ≤ N - 1) && !(a == b)) := by
  rw [Bool.eq_iff_iff]
  simp [pairB, and_assoc]
theorem ordOK_no {N : Int} {L : List (List Int)} (c1 : sizeB N = true) {j : Nat} (hj : j < L.length) (hp : pairB N L[j] = false) : ordOK N L = false := by
  have : (L.any fun x => !pairB N x) = true := List.any_eq_true.2 ⟨_, List.getElem_mem hj, by rw [hp]; rfl⟩
  simp [ordOK, pairsB, this]
theorem pairsB_of {N : Int} {L : List (List Int)} (h : L.length ≤ 40) (hp : ∀ x ∈ L, pairB N x = true) : pairsB N L = true := by
  unfold pairsB
  simp only [Bool.and_eq_true, decide_eq_true_eq, Bool.not_eq_true', List.any_eq_false]
  exact ⟨h, fun x hx => by rw [hp x hx]; simp⟩
theorem pair_two {n : Nat} {x : List Int} (h : pairB n x = true) : ∃ c d : Nat, c < n ∧ d < n ∧ x = [(c : Int), (d : Int)] := by
  unfold pairB at h
  simp only [Bool.and_eq_true, decide_eq_true_eq] at h
  obtain ⟨h2, ⟨p1, p2⟩, ⟨p3, p4⟩, _⟩ := h
  match x, h2 with
  | [c, d], _ =>
    simp at p1 p2 p3 p4
    exact ⟨c.toNat, d.toNat, by omega, by omega, by simp; omega⟩
theorem specOrder_ok (h : Hp) (v : Value) (L : List (List Int)) (N : Int) (hv : IRows h v L) :
    ∃ v' h', CallOK Try.prog 217 #[.int .i64 N, v] h v' h' ∧ Adds h h' ∧ ∃ u, v' = .tuple #[u, .bool (ordOK N L)] ∧ SpaceO (Btw h.next h'.next) h' u (ordN N L) (ordX N L) := by
  have hnt := hv.nt
  have hcs := hv.cs
  have hL := hv.lenD
  have hs := hv.len
  cases c1 : sizeB N
  · have hk : ordOK N L = false := by simp [ordOK, c1]
    refine callY_L (args := [.int .i64 N, v]) 91 _ [.cell 4 26, .tmp 5] Try.func217 rfl rfl rfl ?_
    try simp (disch := first | omega | (simp; done) | fail) [wrap64c, if_pos, if_neg, opAnd, opOr, opXor, opDiff, opShr, opBit, hnt, hcs, hL, c1, hk]
    refine callG_c (by simp) (by simp) ?ha (spItems_ok _ N) ?_
    (case ha => simp (disch := first | omega | (simp; done) | fail) [wrap64c, if_pos, if_neg, opAnd, opOr, opXor, opDiff, opShr, opBit, hnt, hcs, hL, c1, hk])
    try simp (disch := first | omega | (simp; done) | fail) [wrap64c, if_pos, if_neg, opAnd, opOr, opXor, opDiff, opShr, opBit, hnt, hcs, hL, c1, hk, putCells]
    refine done_ret (by simp [putCells]; rfl) ⟨(by first | exact aK | exact kK), .agg #[.int .i64 0, .slice none 0 0], by simp [hk], ?_⟩
    simp only [ordN, ordX, hk]
    exact ⟨_, rfl, .nil _ _⟩
  · obtain ⟨n, rfl, n1, n7⟩ := sizeB_true c1
    by_cases h40 : L.length ≤ 40
    case neg =>
      have h40' : ¬ (L.length : Int) ≤ 40 := by omega
      have hk : ordOK n L = false := by simp [ordOK, c1, pairsB, h40]
      refine callY_L (args := [.int .i64 (n : Int), v]) 91 _ [.cell 4 26, .tmp 5] Try.func217 rfl rfl rfl ?_
      try simp (disch := first | omega | (simp; done) | fail) [wrap64c, if_pos, if_neg, opAnd, opOr, opXor, opDiff, opShr, opBit, hnt, hcs, hL, c1, h40', hk]
      refine callG_c (by simp) (by simp) ?ha (spItems_ok _ n) ?_
      (case ha => simp (disch := first | omega | (simp; done) | fail) [wrap64c, if_pos, if_neg, opAnd, opOr, opXor, opDiff, opShr, opBit, hnt, hcs, hL, c1, h40', hk])
      try simp (disch := first | omega | (simp; done) | fail) [wrap64c, if_pos, if_neg, opAnd, opOr, opXor, opDiff, opShr, opBit, hnt, hcs, hL, c1, h40', hk, putCells]
      refine done_ret (by simp [putCells]; rfl) ⟨(by first | exact aK | exact kK), .agg #[.int .i64 0, .slice none 0 0], by simp [hk], ?_⟩
      simp only [ordN, ordX, hk]
      exact ⟨_, rfl, .nil _ _⟩
    have h40' : (L.length : Int) ≤ 40 := by omega
    refine callY_L (args := [.int .i64 (n : Int), v]) 91 _ [.cell 4 26, .tmp 5] Try.func217 rfl rfl rfl ?_
    try simp (disch := first | omega | (simp; done) | fail) [wrap64c, if_pos, if_neg, opAnd, opOr, opXor, opDiff, opShr, opBit, hnt, hcs, hL, c1, h40']
    refine callG_c (by simp) (by simp) ?ha (spItems_ok _ n) ?_
    (case ha => simp (disch := first | omega | (simp; done) | fail) [wrap64c, if_pos, if_neg, opAnd, opOr, opXor, opDiff, opShr, opBit, hnt, hcs, hL, c1, h40'])
    try simp (disch := first | omega | (simp; done) | fail) [wrap64c, if_pos, if_neg, opAnd, opOr, opXor, opDiff, opShr, opBit, hnt, hcs, hL, c1, h40']
    refine WD_loopC [0, 1, 4, 22, 23] (fun m tm h' => ∃ j, m = L.length - j ∧ tm 24 = .int .i64 (j : Int) ∧ (j ≤ L.length) ∧ (Adds h h') ∧ (h'.next = h.next + 1) ∧ (h'.get h.next = .cells [.int .i64 0, .slice none 0 0] true true 1) ∧ (∀ i (hi : i < L.length), i < j → pairB n L[i] = true)) _ ⟨0, rfl, (by simp (disch := first | omega | (simp; done) | fail) [wrap64c, if_pos, if_neg, opAnd, opOr, opXor, opDiff, opShr, opBit, hnt, hcs, hL, c1, h40']), (by first | omega | assumption | (simp (disch := first | omega | (simp; done) | fail) [wrap64c, if_pos, if_neg, opAnd, opOr, opXor, opDiff, opShr, opBit, hnt, hcs, hL, c1, h40'] <;> omega)), (by first | exact aK | exact kK), (by simp), (by simp), (fun i hi h0 => by omega)⟩ ?_
    rintro m tm h' hFr ⟨j, rfl, e24, hj, ha, hn1, hg, hx⟩
    simp only [FrameL] at hFr
    obtain ⟨f0_0, f1_0, f4_0, f22_0, f23_0, -⟩ := hFr
    try simp (disch := first | omega | (simp; done) | fail) [wrap64c, if_pos, if_neg, opAnd, opOr, opXor, opDiff, opShr, opBit, hnt, hcs, hL, c1, h40'] at f0_0 f1_0 f4_0 f22_0 f23_0
    have e0 := f0_0
    have e1 := f1_0
    have e4 := f4_0
    have e22 := f22_0
    have e23 := f23_0
    rename Hp => hq
    have hv1 := hv.keep ha.1
    by_cases hlt : j < L.length
    · obtain ⟨o_x, i_x, c_x, cs_x, own_x, ex_x, es_x, us_x, q_x, b_x, g_x, l_x, r_x, R_x⟩ := hv1.open ((by omega))
      have z_x : ∀ h2 : i_x < cs_x.length, cs_x[i_x] = _ := fun h2 => r_x 0 ((by omega)) h2
      try simp (disch := first | omega | (simp; done) | fail) [wrap64c, if_pos, if_neg, opAnd, opOr, opXor, opDiff, opShr, opBit, hnt, hcs, hL, c1, h40', e0, e1, e4, e22, e23, e24, hg, hlt, q_x, g_x, l_x, r_x, z_x]
      refine WD_drawC 19 rfl (by kernel_rfl) ?_
      by_cases h2 : L[j].length = 2
      · obtain ⟨a, b, hab⟩ : ∃ a b, L[j] = [a, b] := by
          match L[j], h2 with
          | [a, b], _ => exact ⟨a, b, rfl⟩
        have hR := R_x j hlt
        rw [hab] at hR
        have hLj := hR.lenD
        obtain ⟨o_y, i_y, c_y, cs_y, own_y, ex_y, es_y, q_y, b_y, g_y, l_y, r_y⟩ := hR.open ((by simp))
        have z_y : ∀ h2 : i_y < cs_y.length, cs_y[i_y] = _ := fun h2 => r_y 0 ((by simp)) h2
        have l2_y : i_y + 1 < cs_y.length := by have := l_y; simp at this; omega
        have l3_y : i_y < cs_y.length := by omega
        have z2_y := r_y 1 (by simp)
        try simp (disch := first | omega | (simp; done) | fail) [wrap64c, if_pos, if_neg, opAnd, opOr, opXor, opDiff, opShr, opBit, hnt, hcs, hL, c1, h40', e0, e1, e4, e22, e23, e24, hg, hlt, q_x, g_x, l_x, r_x, z_x, hLj, q_y, g_y, l_y, r_y, z_y, l2_y, l3_y, z2_y]
        refine callP_c (by simp) (by simp) ?ha (l1All_ok hq (us_x j) [a, b] 0 (n - 1) hR) ?hadd ?_
        (case ha => simp (disch := first | omega | (simp; done) | fail) [wrap64c, if_pos, if_neg, opAnd, opOr, opXor, opDiff, opShr, opBit, hnt, hcs, hL, c1, h40', e0, e1, e4, e22, e23, e24, hg, hlt, q_x, g_x, l_x, r_x, z_x, hLj, q_y, g_y, l_y, r_y, z_y, l2_y, l3_y, z2_y])
        (case hadd => first | assumption | exact adds_self _ | (simp; done))
        cases d1 : decide (∀ x ∈ [a, b], 0 ≤ x ∧ x ≤ (n : Int) - 1)
        · have hp : pairB n L[j] = false := by rw [hab, pairB_two, d1]; rfl
          have hk := ordOK_no c1 hlt hp
          try simp (disch := first | omega | (simp; done) | fail) [wrap64c, if_pos, if_neg, opAnd, opOr, opXor, opDiff, opShr, opBit, hnt, hcs, hL, c1, h40', e0, e1, e4, e22, e23, e24, hg, hlt, q_x, g_x, l_x, r_x, z_x, hLj, q_y, g_y, l_y, r_y, z_y, l2_y, l3_y, z2_y, d1, hk, putCells]
          refine done_ret (by simp [putCells, e4]; rfl) ⟨(by first | exact aK | exact kK), .agg #[.int .i64 0, .slice none 0 0], by simp [hk], ?_⟩
          simp only [ordN, ordX, hk]
          exact ⟨_, rfl, .nil _ _⟩
        · cases d2 : (a == b)
          · have hp : pairB n L[j] = true := by rw [hab, pairB_two, d1, d2]; rfl
            try simp (disch := first | omega | (simp; done) | fail) [wrap64c, if_pos, if_neg, opAnd, opOr, opXor, opDiff, opShr, opBit, hnt, hcs, hL, c1, h40', e0, e1, e4, e22, e23, e24, hg, hlt, q_x, g_x, l_x, r_x, z_x, hLj, q_y, g_y, l_y, r_y, z_y, l2_y, l3_y, z2_y, d1, d2]
            refine loopK_next _ ?hm ?hf ⟨j + 1, rfl, (by simp (disch := first | omega | (simp; done) | fail) [wrap64c, if_pos, if_neg, opAnd, opOr, opXor, opDiff, opShr, opBit, hnt, hcs, hL, c1, h40', e0, e1, e4, e22, e23, e24, hg, hlt, q_x, g_x, l_x, r_x, z_x, hLj, q_y, g_y, l_y, r_y, z_y, l2_y, l3_y, z2_y, d1, d2] <;> omega), (by first | omega | assumption | (simp (disch := first | omega | (simp; done) | fail) [wrap64c, if_pos, if_neg, opAnd, opOr, opXor, opDiff, opShr, opBit, hnt, hcs, hL, c1, h40', e0, e1, e4, e22, e23, e24, hg, hlt, q_x, g_x, l_x, r_x, z_x, hLj, q_y, g_y, l_y, r_y, z_y, l2_y, l3_y, z2_y, d1, d2] <;> omega)), (by first | omega | assumption | (simp (disch := first | omega | (simp; done) | fail) [wrap64c, if_pos, if_neg, opAnd, opOr, opXor, opDiff, opShr, opBit, hnt, hcs, hL, c1, h40', e0, e1, e4, e22, e23, e24, hg, hlt, q_x, g_x, l_x, r_x, z_x, hLj, q_y, g_y, l_y, r_y, z_y, l2_y, l3_y, z2_y, d1, d2] <;> omega)), (by first | omega | assumption | (simp (disch := first | omega | (simp; done) | fail) [wrap64c, if_pos, if_neg, opAnd, opOr, opXor, opDiff, opShr, opBit, hnt, hcs, hL, c1, h40', e0, e1, e4, e22, e23, e24, hg, hlt, q_x, g_x, l_x, r_x, z_x, hLj, q_y, g_y, l_y, r_y, z_y, l2_y, l3_y, z2_y, d1, d2] <;> omega)), (by first | omega | assumption | (simp (disch := first | omega | (simp; done) | fail) [wrap64c, if_pos, if_neg, opAnd, opOr, opXor, opDiff, opShr, opBit, hnt, hcs, hL, c1, h40', e0, e1, e4, e22, e23, e24, hg, hlt, q_x, g_x, l_x, r_x, z_x, hLj, q_y, g_y, l_y, r_y, z_y, l2_y, l3_y, z2_y, d1, d2] <;> omega)), ?c_hx⟩
            (case hm => first | omega | (simp; omega))
            (case hf => simp [FrameL, hnt, hcs, hL, c1, h40', e0, e1, e4, e22, e23, e24, hg, hlt, q_x, g_x, l_x, r_x, z_x, hLj, q_y, g_y, l_y, r_y, z_y, l2_y, l3_y, z2_y, d1, d2, f0_0, f1_0, f4_0, f22_0, f23_0])
            case c_hx =>
              exact (fun i hi h1 => by
                by_cases e : i = j
                · subst e; exact hp
                · exact hx i hi (by omega))
          · have hp : pairB n L[j] = false := by rw [hab, pairB_two, d1, d2]; rfl
            have hk := ordOK_no c1 hlt hp
            try simp (disch := first | omega | (simp; done) | fail) [wrap64c, if_pos, if_neg, opAnd, opOr, opXor, opDiff, opShr, opBit, hnt, hcs, hL, c1, h40', e0, e1, e4, e22, e23, e24, hg, hlt, q_x, g_x, l_x, r_x, z_x, hLj, q_y, g_y, l_y, r_y, z_y, l2_y, l3_y, z2_y, d1, d2, hk, putCells]
            refine done_ret (by simp [putCells, e4]; rfl) ⟨(by first | exact aK | exact kK), .agg #[.int .i64 0, .slice none 0 0], by simp [hk], ?_⟩
            simp only [ordN, ordX, hk]
            exact ⟨_, rfl, .nil _ _⟩
      · have h2' : ((L[j].length : Int) != 2) = true := by simp; omega
        have hp : pairB n L[j] = false := by simp [pairB, h2]
        have hk := ordOK_no c1 hlt hp
        have hLj := (R_x j hlt).lenD
        try simp (disch := first | omega | (simp; done) | fail) [wrap64c, if_pos, if_neg, opAnd, opOr, opXor, opDiff, opShr, opBit, hnt, hcs, hL, c1, h40', e0, e1, e4, e22, e23, e24, hg, hlt, q_x, g_x, l_x, r_x, z_x, h2', hk, hLj, putCells]
        refine done_ret (by simp [putCells, e4]; rfl) ⟨(by first | exact aK | exact kK), .agg #[.int .i64 0, .slice none 0 0], by simp [hk], ?_⟩
        simp only [ordN, ordX, hk]
        exact ⟨_, rfl, .nil _ _⟩
    · have hje : j = L.length := by omega
      have hall : ∀ x ∈ L, pairB n x = true := fun x hx' => by
        obtain ⟨k, hk, rfl⟩ := List.getElem_of_mem hx'
        exact hx k hk (by omega)
      have c2 := pairsB_of h40 hall
      have hb7 := bit7 n7
      try simp (disch := first | omega | (simp; done) | fail) [wrap64c, if_pos, if_neg, opAnd, opOr, opXor, opDiff, opShr, opBit, hnt, hcs, hL, c1, h40', e0, e1, e4, e22, e23, e24, hg, hlt, putCells]
      refine WD_loopC [0, 1, 4, 8] (fun m tm h' => ∃ a w, m = bit n - a ∧ tm 9 = .int .i64 (a : Int) ∧ (a ≤ bit n) ∧ (Adds hq h') ∧ (IntsA (hq.next + 1) h' w (toN (famK (keepsB L) a))) ∧ (h'.get hq.next = .cells [.int .i64 (n : Int), w] true true 1) ∧ (hq.next + 1 ≤ h'.next)) _ ⟨0, .slice none 0 0, rfl, (by simp (disch := first | omega | (simp; done) | fail) [wrap64c, if_pos, if_neg, opAnd, opOr, opXor, opDiff, opShr, opBit, hnt, hcs, hL, c1, h40', e0, e1, e4, e22, e23, e24, hg, hlt]), (by first | omega | assumption | (simp (disch := first | omega | (simp; done) | fail) [wrap64c, if_pos, if_neg, opAnd, opOr, opXor, opDiff, opShr, opBit, hnt, hcs, hL, c1, h40', e0, e1, e4, e22, e23, e24, hg, hlt] <;> omega)), (by first | exact aK | exact kK), (.nil _ _), (by simp), (by simp)⟩ ?_
      rintro m tm h' hFr ⟨a, w, rfl, e9, hb, ha2, hw, hg2, hnn⟩
      simp only [FrameL] at hFr
      obtain ⟨f0_1, f1_1, f4_1, f8_1, -⟩ := hFr
      try simp (disch := first | omega | (simp; done) | fail) [wrap64c, if_pos, if_neg, opAnd, opOr, opXor, opDiff, opShr, opBit, hnt, hcs, hL, c1, h40', e0, e1, e4, e22, e23, e24, hg, hlt] at f0_1 f1_1 f4_1 f8_1
      have e0 := f0_1
      have e1 := f1_1
      have e4 := f4_1
      have e8 := f8_1
      rename Hp => hq2
      have hv2 := (hv.keep ha.1).keep ha2.1
      have hkl : (famK (keepsB L) a).length ≤ a := by
        have := List.length_filter_le (keepsB L) (List.range a)
        unfold famK; simpa using this
      by_cases hab : a < bit n
      · try simp (disch := first | omega | (simp; done) | fail) [wrap64c, if_pos, if_neg, opAnd, opOr, opXor, opDiff, opShr, opBit, hnt, hcs, hL, c1, h40', e0, e1, e4, e22, e23, e24, hg, hlt, e8, e9, hg2, hab]
        refine WD_loopC [0, 1, 4, 8, 9, 57, 58] (fun m tm h' => ∃ i, m = L.length - i ∧ hq2 = h' ∧ tm 10 = .bool (!(L.take i).any (breaks a)) ∧ tm 59 = .int .i64 (i : Int) ∧ (i ≤ L.length)) _ ⟨0, rfl, rfl, (by simp), (by simp (disch := first | omega | (simp; done) | fail) [wrap64c, if_pos, if_neg, opAnd, opOr, opXor, opDiff, opShr, opBit, hnt, hcs, hL, c1, h40', e0, e1, e4, e22, e23, e24, hg, hlt, e8, e9, hg2, hab]), (by first | omega | assumption | (simp (disch := first | omega | (simp; done) | fail) [wrap64c, if_pos, if_neg, opAnd, opOr, opXor, opDiff, opShr, opBit, hnt, hcs, hL, c1, h40', e0, e1, e4, e22, e23, e24, hg, hlt, e8, e9, hg2, hab] <;> omega))⟩ ?_
        rintro m tm h' hFr ⟨i, rfl, rfl, e10, e59, hi⟩
        simp only [FrameL] at hFr
        obtain ⟨f0_2, f1_2, f4_2, f8_2, f9_2, f57_2, f58_2, -⟩ := hFr
        try simp (disch := first | omega | (simp; done) | fail) [wrap64c, if_pos, if_neg, opAnd, opOr, opXor, opDiff, opShr, opBit, hnt, hcs, hL, c1, h40', e0, e1, e4, e22, e23, e24, hg, hlt, e8, e9, hg2, hab] at f0_2 f1_2 f4_2 f8_2 f9_2 f57_2 f58_2
        have e0 := f0_2
        have e1 := f1_2
        have e4 := f4_2
        have e8 := f8_2
        have e9 := f9_2
        have e57 := f57_2
        have e58 := f58_2
        by_cases hli : i < L.length
        · obtain ⟨c, d, hc, hd, hcd⟩ := pair_two (hall _ (List.getElem_mem hli))
          obtain ⟨o_x, i_x, c_x, cs_x, own_x, ex_x, es_x, us_x, q_x, b_x, g_x, l_x, r_x, R_x⟩ := hv2.open ((by omega))
          have z_x : ∀ h2 : i_x < cs_x.length, cs_x[i_x] = _ := fun h2 => r_x 0 ((by omega)) h2
          have hR := R_x i hli
          rw [hcd] at hR
          have htk : L.take (i + 1) = L.take i ++ [L[i]] := List.take_succ_eq_append_getElem hli
          obtain ⟨o_y, i_y, c_y, cs_y, own_y, ex_y, es_y, q_y, b_y, g_y, l_y, r_y⟩ := hR.open ((by simp))
          have z_y : ∀ h2 : i_y < cs_y.length, cs_y[i_y] = _ := fun h2 => r_y 0 ((by simp)) h2
          have l2_y : i_y + 1 < cs_y.length := by have := l_y; simp at this; omega
          have l3_y : i_y < cs_y.length := by omega
          have z2_y := r_y 1 (by simp)
          cases hgd : (L.take i).any (breaks a)
          · try simp (disch := first | omega | (simp; done) | fail) [wrap64c, if_pos, if_neg, opAnd, opOr, opXor, opDiff, opShr, opBit, hnt, hcs, hL, c1, h40', e0, e1, e4, e22, e23, e24, hg, hlt, e8, e9, hg2, hab, e10, e57, e58, e59, hli, q_x, g_x, l_x, r_x, z_x, q_y, g_y, l_y, r_y, z_y, l2_y, l3_y, z2_y, hgd]
            refine callG_c (by simp) (by simp) ?ha (spIn_ok hq2 a d (by omega) (by omega)) ?_
            (case ha => simp (disch := first | omega | (simp; done) | fail) [wrap64c, if_pos, if_neg, opAnd, opOr, opXor, opDiff, opShr, opBit, hnt, hcs, hL, c1, h40', e0, e1, e4, e22, e23, e24, hg, hlt, e8, e9, hg2, hab, e10, e57, e58, e59, hli, q_x, g_x, l_x, r_x, z_x, q_y, g_y, l_y, r_y, z_y, l2_y, l3_y, z2_y, hgd])
            cases h2 : a.testBit d
            · try simp (disch := first | omega | (simp; done) | fail) [wrap64c, if_pos, if_neg, opAnd, opOr, opXor, opDiff, opShr, opBit, hnt, hcs, hL, c1, h40', e0, e1, e4, e22, e23, e24, hg, hlt, e8, e9, hg2, hab, e10, e57, e58, e59, hli, q_x, g_x, l_x, r_x, z_x, q_y, g_y, l_y, r_y, z_y, l2_y, l3_y, z2_y, hgd, h2]
              refine loopK_next _ ?hm ?hf ⟨i + 1, rfl, rfl, (by simp [htk, hgd, hcd, breaks, h2, -List.take_append_getElem]), (by simp (disch := first | omega | (simp; done) | fail) [wrap64c, if_pos, if_neg, opAnd, opOr, opXor, opDiff, opShr, opBit, hnt, hcs, hL, c1, h40', e0, e1, e4, e22, e23, e24, hg, hlt, e8, e9, hg2, hab, e10, e57, e58, e59, hli, q_x, g_x, l_x, r_x, z_x, q_y, g_y, l_y, r_y, z_y, l2_y, l3_y, z2_y, hgd, h2] <;> omega), (by first | omega | assumption | (simp (disch := first | omega | (simp; done) | fail) [wrap64c, if_pos, if_neg, opAnd, opOr, opXor, opDiff, opShr, opBit, hnt, hcs, hL, c1, h40', e0, e1, e4, e22, e23, e24, hg, hlt, e8, e9, hg2, hab, e10, e57, e58, e59, hli, q_x, g_x, l_x, r_x, z_x, q_y, g_y, l_y, r_y, z_y, l2_y, l3_y, z2_y, hgd, h2] <;> omega))⟩
              (case hm => first | omega | (simp; omega))
              (case hf => simp [FrameL, hnt, hcs, hL, c1, h40', e0, e1, e4, e22, e23, e24, hg, hlt, e8, e9, hg2, hab, e10, e57, e58, e59, hli, q_x, g_x, l_x, r_x, z_x, q_y, g_y, l_y, r_y, z_y, l2_y, l3_y, z2_y, hgd, h2, f0_2, f1_2, f4_2, f8_2, f9_2, f57_2, f58_2])
            · try simp (disch := first | omega | (simp; done) | fail) [wrap64c, if_pos, if_neg, opAnd, opOr, opXor, opDiff, opShr, opBit, hnt, hcs, hL, c1, h40', e0, e1, e4, e22, e23, e24, hg, hlt, e8, e9, hg2, hab, e10, e57, e58, e59, hli, q_x, g_x, l_x, r_x, z_x, q_y, g_y, l_y, r_y, z_y, l2_y, l3_y, z2_y, hgd, h2]
              refine callG_c (by simp) (by simp) ?ha (spIn_ok hq2 a c (by omega) (by omega)) ?_
              (case ha => simp (disch := first | omega | (simp; done) | fail) [wrap64c, if_pos, if_neg, opAnd, opOr, opXor, opDiff, opShr, opBit, hnt, hcs, hL, c1, h40', e0, e1, e4, e22, e23, e24, hg, hlt, e8, e9, hg2, hab, e10, e57, e58, e59, hli, q_x, g_x, l_x, r_x, z_x, q_y, g_y, l_y, r_y, z_y, l2_y, l3_y, z2_y, hgd, h2])
              cases h3 : a.testBit c
              · try simp (disch := first | omega | (simp; done) | fail) [wrap64c, if_pos, if_neg, opAnd, opOr, opXor, opDiff, opShr, opBit, hnt, hcs, hL, c1, h40', e0, e1, e4, e22, e23, e24, hg, hlt, e8, e9, hg2, hab, e10, e57, e58, e59, hli, q_x, g_x, l_x, r_x, z_x, q_y, g_y, l_y, r_y, z_y, l2_y, l3_y, z2_y, hgd, h2, h3]
                refine loopK_next _ ?hm ?hf ⟨i + 1, rfl, rfl, (by simp [htk, hgd, hcd, breaks, h2, h3, -List.take_append_getElem]), (by simp (disch := first | omega | (simp; done) | fail) [wrap64c, if_pos, if_neg, opAnd, opOr, opXor, opDiff, opShr, opBit, hnt, hcs, hL, c1, h40', e0, e1, e4, e22, e23, e24, hg, hlt, e8, e9, hg2, hab, e10, e57, e58, e59, hli, q_x, g_x, l_x, r_x, z_x, q_y, g_y, l_y, r_y, z_y, l2_y, l3_y, z2_y, hgd, h2, h3] <;> omega), (by first | omega | assumption | (simp (disch := first | omega | (simp; done) | fail) [wrap64c, if_pos, if_neg, opAnd, opOr, opXor, opDiff, opShr, opBit, hnt, hcs, hL, c1, h40', e0, e1, e4, e22, e23, e24, hg, hlt, e8, e9, hg2, hab, e10, e57, e58, e59, hli, q_x, g_x, l_x, r_x, z_x, q_y, g_y, l_y, r_y, z_y, l2_y, l3_y, z2_y, hgd, h2, h3] <;> omega))⟩
                (case hm => first | omega | (simp; omega))
                (case hf => simp [FrameL, hnt, hcs, hL, c1, h40', e0, e1, e4, e22, e23, e24, hg, hlt, e8, e9, hg2, hab, e10, e57, e58, e59, hli, q_x, g_x, l_x, r_x, z_x, q_y, g_y, l_y, r_y, z_y, l2_y, l3_y, z2_y, hgd, h2, h3, f0_2, f1_2, f4_2, f8_2, f9_2, f57_2, f58_2])
              · try simp (disch := first | omega | (simp; done) | fail) [wrap64c, if_pos, if_neg, opAnd, opOr, opXor, opDiff, opShr, opBit, hnt, hcs, hL, c1, h40', e0, e1, e4, e22, e23, e24, hg, hlt, e8, e9, hg2, hab, e10, e57, e58, e59, hli, q_x, g_x, l_x, r_x, z_x, q_y, g_y, l_y, r_y, z_y, l2_y, l3_y, z2_y, hgd, h2, h3]
                refine loopK_next _ ?hm ?hf ⟨i + 1, rfl, rfl, (by simp [htk, hgd, hcd, breaks, h2, h3, -List.take_append_getElem]), (by simp (disch := first | omega | (simp; done) | fail) [wrap64c, if_pos, if_neg, opAnd, opOr, opXor, opDiff, opShr, opBit, hnt, hcs, hL, c1, h40', e0, e1, e4, e22, e23, e24, hg, hlt, e8, e9, hg2, hab, e10, e57, e58, e59, hli, q_x, g_x, l_x, r_x, z_x, q_y, g_y, l_y, r_y, z_y, l2_y, l3_y, z2_y, hgd, h2, h3] <;> omega), (by first | omega | assumption | (simp (disch := first | omega | (simp; done) | fail) [wrap64c, if_pos, if_neg, opAnd, opOr, opXor, opDiff, opShr, opBit, hnt, hcs, hL, c1, h40', e0, e1, e4, e22, e23, e24, hg, hlt, e8, e9, hg2, hab, e10, e57, e58, e59, hli, q_x, g_x, l_x, r_x, z_x, q_y, g_y, l_y, r_y, z_y, l2_y, l3_y, z2_y, hgd, h2, h3] <;> omega))⟩
                (case hm => first | omega | (simp; omega))
                (case hf => simp [FrameL, hnt, hcs, hL, c1, h40', e0, e1, e4, e22, e23, e24, hg, hlt, e8, e9, hg2, hab, e10, e57, e58, e59, hli, q_x, g_x, l_x, r_x, z_x, q_y, g_y, l_y, r_y, z_y, l2_y, l3_y, z2_y, hgd, h2, h3, f0_2, f1_2, f4_2, f8_2, f9_2, f57_2, f58_2])
          · try simp (disch := first | omega | (simp; done) | fail) [wrap64c, if_pos, if_neg, opAnd, opOr, opXor, opDiff, opShr, opBit, hnt, hcs, hL, c1, h40', e0, e1, e4, e22, e23, e24, hg, hlt, e8, e9, hg2, hab, e10, e57, e58, e59, hli, q_x, g_x, l_x, r_x, z_x, q_y, g_y, l_y, r_y, z_y, l2_y, l3_y, z2_y, hgd]
            refine loopK_next _ ?hm ?hf ⟨i + 1, rfl, rfl, (by simp [htk, hgd, -List.take_append_getElem]), (by simp (disch := first | omega | (simp; done) | fail) [wrap64c, if_pos, if_neg, opAnd, opOr, opXor, opDiff, opShr, opBit, hnt, hcs, hL, c1, h40', e0, e1, e4, e22, e23, e24, hg, hlt, e8, e9, hg2, hab, e10, e57, e58, e59, hli, q_x, g_x, l_x, r_x, z_x, q_y, g_y, l_y, r_y, z_y, l2_y, l3_y, z2_y, hgd] <;> omega), (by first | omega | assumption | (simp (disch := first | omega | (simp; done) | fail) [wrap64c, if_pos, if_neg, opAnd, opOr, opXor, opDiff, opShr, opBit, hnt, hcs, hL, c1, h40', e0, e1, e4, e22, e23, e24, hg, hlt, e8, e9, hg2, hab, e10, e57, e58, e59, hli, q_x, g_x, l_x, r_x, z_x, q_y, g_y, l_y, r_y, z_y, l2_y, l3_y, z2_y, hgd] <;> omega))⟩
            (case hm => first | omega | (simp; omega))
            (case hf => simp [FrameL, hnt, hcs, hL, c1, h40', e0, e1, e4, e22, e23, e24, hg, hlt, e8, e9, hg2, hab, e10, e57, e58, e59, hli, q_x, g_x, l_x, r_x, z_x, q_y, g_y, l_y, r_y, z_y, l2_y, l3_y, z2_y, hgd, f0_2, f1_2, f4_2, f8_2, f9_2, f57_2, f58_2])
        · have hie : i = L.length := by omega
          have hfs := famK_succ (keepsB L) a
          rw [hie, List.take_length] at e10
          cases hc : L.any (breaks a)
          · rw [if_pos (by simp [keepsB, hc])] at hfs
            have ntu := (hw.own (by simp; omega)).nt
            have csu := (hw.own (by simp; omega)).cs
            have gq0 : hq2.get h.next = .cells [.int .i64 0, .slice none 0 0] true true 1 := by rw [ha2.1.2 _ (by omega)]; exact hg
            try simp (disch := first | omega | (simp; done) | fail) [wrap64c, if_pos, if_neg, opAnd, opOr, opXor, opDiff, opShr, opBit, hnt, hcs, hL, c1, h40', e0, e1, e4, e22, e23, e24, hg, hlt, e8, e9, hg2, hab, e10, e57, e58, e59, hli, hc, ntu, csu]
            obtain ⟨u2, h4, hap, hu2, ha4, hn4, hs4⟩ := appI hw (a : Int) (by simp; omega) hnn ha2 (by omega)
            have gq : h4.get hq.next = .cells [.int .i64 (n : Int), w] true true 1 := by rw [hs4 _ (by omega) (by omega)]; exact hg2
            have nt2 := (hu2.own (by simp; omega)).nt
            have cs2 := (hu2.own (by simp; omega)).cs
            try simp (disch := first | omega | (simp; done) | fail) [wrap64c, if_pos, if_neg, opAnd, opOr, opXor, opDiff, opShr, opBit, hnt, hcs, hL, c1, h40', e0, e1, e4, e22, e23, e24, hg, hlt, e8, e9, hg2, hab, e10, e57, e58, e59, hli, hc, ntu, csu, gq, nt2, cs2, hap, putCells]
            refine loopK_next _ ?hm ?hf ⟨a + 1, u2, rfl, (by simp (disch := first | omega | (simp; done) | fail) [wrap64c, if_pos, if_neg, opAnd, opOr, opXor, opDiff, opShr, opBit, hnt, hcs, hL, c1, h40', e0, e1, e4, e22, e23, e24, hg, hlt, e8, e9, hg2, hab, e10, e57, e58, e59, hli, hc, ntu, csu, gq, nt2, cs2] <;> omega), (by first | omega | assumption | (simp (disch := first | omega | (simp; done) | fail) [wrap64c, if_pos, if_neg, opAnd, opOr, opXor, opDiff, opShr, opBit, hnt, hcs, hL, c1, h40', e0, e1, e4, e22, e23, e24, hg, hlt, e8, e9, hg2, hab, e10, e57, e58, e59, hli, hc, ntu, csu, gq, nt2, cs2] <;> omega)), (by first | exact aK | exact kK), (by rw [hfs, toN_snoc]; exact IntsA.putB hu2 (by omega) _), (by simp), (by simp; omega)⟩
            (case hm => first | omega | (simp; omega))
            (case hf => simp [FrameL, hnt, hcs, hL, c1, h40', e0, e1, e4, e22, e23, e24, hg, hlt, e8, e9, hg2, hab, e10, e57, e58, e59, hli, hc, ntu, csu, gq, nt2, cs2, f0_1, f1_1, f4_1, f8_1])
          · rw [if_neg (by simp [keepsB, hc])] at hfs
            try simp (disch := first | omega | (simp; done) | fail) [wrap64c, if_pos, if_neg, opAnd, opOr, opXor, opDiff, opShr, opBit, hnt, hcs, hL, c1, h40', e0, e1, e4, e22, e23, e24, hg, hlt, e8, e9, hg2, hab, e10, e57, e58, e59, hli, hc]
            refine loopK_next _ ?hm ?hf ⟨a + 1, w, rfl, (by simp (disch := first | omega | (simp; done) | fail) [wrap64c, if_pos, if_neg, opAnd, opOr, opXor, opDiff, opShr, opBit, hnt, hcs, hL, c1, h40', e0, e1, e4, e22, e23, e24, hg, hlt, e8, e9, hg2, hab, e10, e57, e58, e59, hli, hc] <;> omega), (by first | omega | assumption | (simp (disch := first | omega | (simp; done) | fail) [wrap64c, if_pos, if_neg, opAnd, opOr, opXor, opDiff, opShr, opBit, hnt, hcs, hL, c1, h40', e0, e1, e4, e22, e23, e24, hg, hlt, e8, e9, hg2, hab, e10, e57, e58, e59, hli, hc] <;> omega)), (by first | omega | assumption | (simp (disch := first | omega | (simp; done) | fail) [wrap64c, if_pos, if_neg, opAnd, opOr, opXor, opDiff, opShr, opBit, hnt, hcs, hL, c1, h40', e0, e1, e4, e22, e23, e24, hg, hlt, e8, e9, hg2, hab, e10, e57, e58, e59, hli, hc] <;> omega)), (by rw [hfs]; exact hw), (by first | omega | assumption | (simp (disch := first | omega | (simp; done) | fail) [wrap64c, if_pos, if_neg, opAnd, opOr, opXor, opDiff, opShr, opBit, hnt, hcs, hL, c1, h40', e0, e1, e4, e22, e23, e24, hg, hlt, e8, e9, hg2, hab, e10, e57, e58, e59, hli, hc] <;> omega)), (by first | omega | assumption | (simp (disch := first | omega | (simp; done) | fail) [wrap64c, if_pos, if_neg, opAnd, opOr, opXor, opDiff, opShr, opBit, hnt, hcs, hL, c1, h40', e0, e1, e4, e22, e23, e24, hg, hlt, e8, e9, hg2, hab, e10, e57, e58, e59, hli, hc] <;> omega))⟩
            (case hm => first | omega | (simp; omega))
            (case hf => simp [FrameL, hnt, hcs, hL, c1, h40', e0, e1, e4, e22, e23, e24, hg, hlt, e8, e9, hg2, hab, e10, e57, e58, e59, hli, hc, f0_1, f1_1, f4_1, f8_1])
      · have hae : a = bit n := by omega
        rw [hae] at hw
        have hol := ordL_len n L
        have hO : IntsO (Btw (hq.next + 1) hq2.next) hq2 w (toN (ordL n L)) := hw.own (by show (toN (ordL n L)).length < _; simp; omega)
        obtain ⟨h5, hc5, ha5⟩ := spIf_ok hq2 w n (toN (ordL n L)) _ hO (fun o ho => ho.2) (by simp; omega)
        have A := (ha.trans ha2).trans ha5
        have m5 := ha5.1.1
        have gq0 : h5.get h.next = .cells [.int .i64 0, .slice none 0 0] true true 1 := by rw [ha5.1.2 _ (by omega), ha2.1.2 _ (by omega)]; exact hg
        have ntu := hO.nt
        have csu := hO.cs
        try simp (disch := first | omega | (simp; done) | fail) [wrap64c, if_pos, if_neg, opAnd, opOr, opXor, opDiff, opShr, opBit, hnt, hcs, hL, c1, h40', e0, e1, e4, e22, e23, e24, hg, hlt, e8, e9, hg2, hab, gq0, ntu, csu]
        refine callG_c (by simp) (by simp) ?ha (hc5) ?_
        (case ha => simp (disch := first | omega | (simp; done) | fail) [wrap64c, if_pos, if_neg, opAnd, opOr, opXor, opDiff, opShr, opBit, hnt, hcs, hL, c1, h40', e0, e1, e4, e22, e23, e24, hg, hlt, e8, e9, hg2, hab, gq0, ntu, csu])
        cases c3 : spB n (toN (ordL n L))
        · have hk : ordOK n L = false := by simp [ordOK, c1, c2, c3]
          try simp (disch := first | omega | (simp; done) | fail) [wrap64c, if_pos, if_neg, opAnd, opOr, opXor, opDiff, opShr, opBit, hnt, hcs, hL, c1, h40', e0, e1, e4, e22, e23, e24, hg, hlt, e8, e9, hg2, hab, gq0, ntu, csu, c3, hk, putCells]
          refine done_ret (by simp [putCells, e4]; rfl) ⟨(by first | exact aK | exact kK), .agg #[.int .i64 0, .slice none 0 0], by simp [hk], ?_⟩
          simp only [ordN, ordX, hk]
          exact ⟨_, rfl, .nil _ _⟩
        · have hk : ordOK n L = true := by simp [ordOK, c1, c2, c3]
          try simp (disch := first | omega | (simp; done) | fail) [wrap64c, if_pos, if_neg, opAnd, opOr, opXor, opDiff, opShr, opBit, hnt, hcs, hL, c1, h40', e0, e1, e4, e22, e23, e24, hg, hlt, e8, e9, hg2, hab, gq0, ntu, csu, c3, hk, putCells]
          refine done_ret (by simp [putCells, e4]; rfl) ⟨(by first | exact aK | exact kK), .agg #[.int .i64 n, w], by simp [hk], ?_⟩
          simp only [ordN, ordX, hk, if_true]
          exact ⟨w, rfl, ((hO.keep ha5.1).same (Same.put (Same.refl _ _) (by unfold Btw; omega) _)).sub fun o ho => ⟨by have := ho.1; omega, by have := ho.2; simp; omega⟩⟩
end Go.Proofs.Ytnncipcldbopgaa
namespace Go.Proofs.Ytnncipcldbopgaa
set_option linter.unusedSimpArgs false
set_option linter.unusedVariables false
set_option maxHeartbeats 4000000
open Go Go.Eng
attribute [local irreducible] WD RunD PreD Runs CallOK
def upPairs (n : Nat) (L : List (List Int)) : Prop := ∀ x ∈ L, ∃ a b : Nat, x = [(a : Int), (b : Int)] ∧ a < b ∧ b < n
theorem top_bit {x : Nat} (h0 : x ≠ 0) : ∀ n, x < bit n → ∃ i, i < n ∧ x.testBit i = true ∧ ∀ j, i < j → x.testBit j = false
  | 0, h => by simp [bit] at h; omega
  | n + 1, h => by
    by_cases hb : x.testBit n = true
    · exact ⟨n, by omega, hb, fun j hj => hi_bit h (by omega)⟩
    · have : x < bit n := lt_bit_of fun i hi => by
        by_cases e : i = n
        · subst e; simpa using hb
        · exact hi_bit h (by omega)
      obtain ⟨i, h1, h2, h3⟩ := top_bit h0 n this
      exact ⟨i, by omega, h2, h3⟩
theorem keeps_iff {n : Nat} {L : List (List Int)} (hp : upPairs n L) {a : Nat} : keepsB L a = true ↔ ∀ x ∈ L, ∀ p q : Nat, x = [(p : Int), (q : Int)] → a.testBit q = true → a.testBit p = true := by
  unfold keepsB
  rw [Bool.not_eq_true', List.any_eq_false]
  constructor
  · intro h x hx p q e hq
    have := h x hx
    subst e
    simpa [breaks, hq] using this
  · intro h x hx
    obtain ⟨p, q, e, _, _⟩ := hp x hx
    have := h x hx p q e
    subst e
    simp only [breaks, List.getD_cons_succ, List.getD_cons_zero, Int.toNat_natCast]
    by_cases hq : a.testBit q = true
    · simp [this hq]
    · simp [hq]
theorem ord_mem {n : Nat} {L : List (List Int)} {a : Nat} : a ∈ ordL n L ↔ a < bit n ∧ keepsB L a = true := by
  unfold ordL famK
  rw [List.mem_filter, List.mem_range]
theorem ord_good {n : Nat} {L : List (List Int)} (h1 : 1 ≤ n) (h7 : n ≤ 7) (hp : upPairs n L) : SpGood n (ordL n L) where
  n1 := h1
  n7 := h7
  srt := List.Pairwise.filter _ List.pairwise_lt_range
  lt := fun a ha => (ord_mem.1 ha).1
  zero := ord_mem.2 ⟨by have := bit_pos n; omega, (keeps_iff hp).2 fun x _ p q _ hq => by simp at hq⟩
  full := ord_mem.2 ⟨by have := bit_pos n; omega, (keeps_iff hp).2 fun x hx p q e hq => by
    obtain ⟨a, b, e2, h2, h3⟩ := hp x hx
    rw [e] at e2
    simp only [List.cons.injEq, and_true] at e2
    rw [full_bit]
    exact decide_eq_true (by omega)⟩
  inn := fun x hx h0 => by
    obtain ⟨hx1, hx2⟩ := ord_mem.1 hx
    obtain ⟨i, hi, hb, hj⟩ := top_bit h0 n hx1
    unfold innerN
    rw [maskN_ne]
    refine ⟨i, by omega, ?_⟩
    rw [Bool.and_eq_true]
    refine ⟨hb, ?_⟩
    unfold fam
    refine decide_eq_true (ord_mem.2 ⟨nXor_lt hx1 (bit_lt_bit hi), (keeps_iff hp).2 fun y hy p q e hq => ?_⟩)
    obtain ⟨a, b, e2, h2, h3⟩ := hp y hy
    rw [e] at e2
    simp only [List.cons.injEq, and_true] at e2
    have hqx : x.testBit q = true := by
      rw [nXor_bit, bit_bit] at hq
      by_cases e3 : i = q
      · subst e3; simp [hb] at hq
      · simpa [e3] using hq
    have hpx := (keeps_iff hp).1 hx2 y hy p q e hqx
    have hpi : ¬ i = p := fun e3 => by
      have := hj q (by omega)
      rw [hqx] at this; cases this
    rw [nXor_bit, bit_bit, hpx]
    simp [hpi]
  uni := fun x hx y hy => by
    obtain ⟨hx1, hx2⟩ := ord_mem.1 hx
    obtain ⟨hy1, hy2⟩ := ord_mem.1 hy
    refine ord_mem.2 ⟨nOr_lt hx1 hy1, (keeps_iff hp).2 fun z hz p q e hq => ?_⟩
    rw [nOr_bit, Bool.or_eq_true] at hq ⊢
    rcases hq with hq | hq
    · exact .inl ((keeps_iff hp).1 hx2 z hz p q e hq)
    · exact .inr ((keeps_iff hp).1 hy2 z hz p q e hq)
theorem ord_up {n : Nat} {L : List (List Int)} (h1 : 1 ≤ n) (h7 : n ≤ 7) (hl : L.length ≤ 40) (hp : upPairs n L) : ordOK n L = true := by
  unfold ordOK
  rw [sizeB_of h1 h7, Bool.true_and, Bool.and_eq_true]
  refine ⟨?_, spB_of (ord_good h1 h7 hp)⟩
  unfold pairsB
  rw [decide_eq_true hl, Bool.true_and, Bool.not_eq_true', List.any_eq_false]
  intro x hx
  obtain ⟨a, b, e, h2, h3⟩ := hp x hx
  subst e
  have : ¬ (a : Int) = (b : Int) := by omega
  simp [pairB, this]
  omega
def SpaceF (F : Nat → Prop) (h : Hp) (v : Value) (N : Int) (X : List Int) : Prop := ∃ b, v = .agg #[.int .i64 N, b] ∧ IntsF F h b X
theorem appPair {n : Nat} {h0 h : Hp} {v : Value} {L : List (List Int)} (hs : IRowsA n h v L) (a b : Int) (hl : L.length < 2 ^ 39) (hn : n ≤ h.next) (hA : Adds h0 h) (h0n : h0.next ≤ n) :
    ∃ v' h', appendD Try.prog 83 83 v (.slice (some ⟨h.next + 1, 0, none⟩) 1 1) ((h.alloc (.cells [.int .i64 a, .int .i64 b] true true 1)).alloc (.cells [.slice (some ⟨h.next, 0, none⟩) 2 2] true true 1)) = some (v', h') ∧ IRowsA n h' v' (L ++ [[a, b]]) ∧ Adds h0 h' ∧ h.next < h'.next ∧ ∀ o, o < h.next → o < n → h'.get o = h.get o := by
  have k1 : Adds h (h.alloc (.cells [.int .i64 a, .int .i64 b] true true 1)) := (by first | exact aK | exact kK)
  obtain ⟨v', h', g1, g2, g3, g4, g5⟩ := appR (h := h.alloc (.cells [.int .i64 a, .int .i64 b] true true 1)) (u := .slice (some ⟨h.next, 0, none⟩) 2 2) (r := [a, b]) hs k1.1 (IntsO.mk (xs := [a, b]) (ex := true) (show Btw h.next _ h.next from ⟨Nat.le_refl _, by simp⟩) (by simp) (by simp) (by simp)) (by omega) hn (hA.trans k1) h0n
  exact ⟨v', h', g1, g2, g3, by simp at g4; omega, fun o ho hon => by rw [g5 o (by simp; omega) hon]; simp [Nat.ne_of_lt ho]⟩
theorem fin_space {hB h hh : Hp} {o K k' : Nat} {b : Value} {L : List Nat} (hA : Adds hB h) (ho : o < h.next) (d : DrW hB o K h hh) (hi : IntsF (fun x => h.next < x) hh b (toN L)) (hK : K ≤ k') (cs : List Value) (e : Bool) (es : Nat) :
    DrW hB o k' h (hh.put h.next (.cells cs true e es)) ∧ IntsF (fun x => h.next < x) (hh.put h.next (.cells cs true e es)) b (toN L) :=
  ⟨(d.put hA ho (Nat.le_refl _) _ _ _).mono hK, hi.same (h := hh) (h' := hh.put h.next _) ⟨Nat.le_refl _, fun x hx _ => by simp [show x ≠ h.next by omega]⟩⟩
theorem sureSpace_ok (hB h : Hp) (o k : Nat) (most : Int) (hA : Adds hB h) (hc : CurS hB.next o k h) (hk : k + 2000 < 2 ^ 40) (hm : 1 ≤ most ∧ most ≤ 7) :
    ∃ v h', CallOK Try.prog 238 #[.pointer (some ⟨o, 0, none⟩), .int .i64 most] h v h' ∧ DrW hB o (k + 200) h h' ∧ ∃ (n : Nat) (b : Value) (L : List Nat), v = .agg #[.int .i64 (n : Int), b] ∧ IntsF (fun x => h.next < x) h' b (toN L) ∧ 1 ≤ n ∧ (n : Int) ≤ most ∧ SrtB (bit n) L ∧ L ≠ [] := by
  have hbo := hc.bo
  refine callY_L (args := [.pointer (some ⟨o, 0, none⟩), .int .i64 most]) 92 _ [.cell 4 26] Try.func238 rfl rfl rfl ?_
  try simp (disch := first | omega | (simp; done) | fail) [wrap64c, if_pos, if_neg, opAnd, opOr, opXor, opDiff, opShr, opBit]
  first | refine WY_heap fun h0 q_h0 => ?_ | refine callG_heap fun h0 q_h0 => ?_ | refine callP_heap fun h0 q_h0 => ?_ | refine callS_heap fun h0 q_h0 => ?_ | refine RY_heap fun h0 q_h0 => ?_ | refine PY_heap fun h0 q_h0 => ?_ | refine SY_heap fun h0 q_h0 => ?_ | refine doneY_heap fun h0 q_h0 => ?_ | refine loopK_heap fun h0 q_h0 => ?_ | refine thenY_heap fun h0 q_h0 => ?_ | refine thenM_heap fun h0 q_h0 => ?_
  have k0 : Adds h h0 := by rw [q_h0]; exact (by first | exact aK | exact kK)
  have n0 : h0.next = h.next + 1 := by simp [q_h0]
  have d0 := DrW.of_adds hA hc k0
  have gr0 : h0.get h.next = .cells [.int .i64 0, .slice none 0 0] true true 1 := by simp [q_h0]
  obtain ⟨v1, h1, p1, r1, q1, l1, w1⟩ := pick_ok hB.next o k h0 most d0.cur (by omega)
  subst q1
  have hr1 := l1 (by omega)
  have d1 := d0.trans (w1.dr d0.add d0.cur)
  have n1 := w1.nx
  obtain ⟨n, hn⟩ : ∃ n, n = 1 + r1 := ⟨_, rfl⟩
  have hn7 : n ≤ 7 := by omega
  have hn1 : 1 ≤ n := by omega
  have e1n : (1 : Int) + (r1 : Int) = (n : Int) := by omega
  have hb7 := bit7 hn7
  obtain ⟨v2, h2, p2, r2, q2, l2, w2⟩ := pick_ok hB.next o (k + 2) h1 6 d1.cur (by omega)
  subst q2
  have hr2 := l2 (by omega)
  have d2 := d1.trans (w2.dr d1.add d1.cur)
  have n2 := w2.nx
  have gr2 : h2.get h.next = .cells [.int .i64 0, .slice none 0 0] true true 1 := by rw [w2.get _ (by omega) (by omega), w1.get _ (by omega) (by omega)]; exact gr0
  have hu2 : ∀ a b c d : Value, putCells [a, b] 0 [c, d] = [c, d] := fun _ _ _ _ => rfl
  refine callG_c (by simp) (by simp) ?ha (p1) ?_
  (case ha => simp (disch := first | omega | (simp; done) | fail) [wrap64c, if_pos, if_neg, opAnd, opOr, opXor, opDiff, opShr, opBit, e1n, hu2])
  try simp (disch := first | omega | (simp; done) | fail) [wrap64c, if_pos, if_neg, opAnd, opOr, opXor, opDiff, opShr, opBit, e1n, hu2]
  refine callG_c (by simp) (by simp) ?ha (p2) ?_
  (case ha => simp (disch := first | omega | (simp; done) | fail) [wrap64c, if_pos, if_neg, opAnd, opOr, opXor, opDiff, opShr, opBit, e1n, hu2])
  by_cases z0 : r2 = 0
  · subst z0
    obtain ⟨_, h3, p3, a3, b, L, rfl, i3, hL, hmem⟩ := specLine_ok h2 n hn1 hn7
    have d3 := d2.trans (DrW.of_adds d2.add d2.cur a3)
    have n3 := a3.1.1
    have lL := hL.len
    have ntb := i3.nt
    have csb := (i3.own (by simp; omega)).ints.cs
    have gr3 : h3.get h.next = .cells [.int .i64 0, .slice none 0 0] true true 1 := by rw [a3.1.2 _ (by omega)]; exact gr2
    have hne3 : ¬ h.next = h3.next := by omega
    have hLne : L ≠ [] := fun e => by
      have := (hmem (lineS n 0 0)).2 ⟨0, 0, Nat.le_refl _, Nat.zero_le _, rfl⟩
      rw [e] at this; cases this
    try simp (disch := first | omega | (simp; done) | fail) [wrap64c, if_pos, if_neg, opAnd, opOr, opXor, opDiff, opShr, opBit, e1n, hu2, ntb, csb, gr3, hne3]
    refine callG_c (by simp) (by simp) ?ha (p3) ?_
    (case ha => simp (disch := first | omega | (simp; done) | fail) [wrap64c, if_pos, if_neg, opAnd, opOr, opXor, opDiff, opShr, opBit, e1n, hu2, ntb, csb, gr3, hne3])
    try simp (disch := first | omega | (simp; done) | fail) [wrap64c, if_pos, if_neg, opAnd, opOr, opXor, opDiff, opShr, opBit, e1n, hu2, ntb, csb, gr3, hne3]
    obtain ⟨hz, hzE⟩ : ∃ hz, hz = (h3.alloc (.cells [.int .i64 0, .slice none 0 0] true true 1)).put h3.next (.cells [.int .i64 (n : Int), b] true true 1) := ⟨_, rfl⟩
    have kz : Adds h3 hz := by rw [hzE]; exact (by first | exact aK | exact kK)
    rw [← hzE]
    have hI : IntsF (fun x => h.next < x) hz b (toN L) := (((i3.own (by simp; omega)).read).sub fun x hx => by have := hx.1; omega).keep kz.1
    obtain ⟨f1, f2⟩ := fin_space hA hbo.2 (d3.trans (DrW.of_adds d3.add d3.cur kz)) hI (show k + 2 + 2 ≤ k + 200 by omega) [.int .i64 (n : Int), b] true 1
    exact done_ret (vs := [.agg #[.int .i64 (n : Int), b]]) (by simp [resL]) ⟨f1, n, b, _, rfl, f2, hn1, by omega, hL, hLne⟩
  have z0' : ¬ (r2 : Int) = 0 := by omega
  by_cases z1 : r2 = 1
  · subst z1
    obtain ⟨b, h3, p3, a3, i3⟩ := spFree_ok h2 n hn7
    have d3 := d2.trans (DrW.of_adds d2.add d2.cur a3)
    have n3 := a3.1.1
    have ntb := i3.nt
    have csb := (i3.own (by simp; omega)).ints.cs
    have gr3 : h3.get h.next = .cells [.int .i64 0, .slice none 0 0] true true 1 := by rw [a3.1.2 _ (by omega)]; exact gr2
    try simp (disch := first | omega | (simp; done) | fail) [wrap64c, if_pos, if_neg, opAnd, opOr, opXor, opDiff, opShr, opBit, e1n, hu2, z0', ntb, csb, gr3]
    refine callG_c (by simp) (by simp) ?ha (p3) ?_
    (case ha => simp (disch := first | omega | (simp; done) | fail) [wrap64c, if_pos, if_neg, opAnd, opOr, opXor, opDiff, opShr, opBit, e1n, hu2, z0', ntb, csb, gr3])
    try simp (disch := first | omega | (simp; done) | fail) [wrap64c, if_pos, if_neg, opAnd, opOr, opXor, opDiff, opShr, opBit, e1n, hu2, z0', ntb, csb, gr3]
    have hI : IntsF (fun x => h.next < x) h3 b (toN (List.range (bit n))) := ((i3.own (by simp; omega)).read).sub fun x hx => by have := hx.1; omega
    obtain ⟨f1, f2⟩ := fin_space hA hbo.2 d3 hI (show k + 2 + 2 ≤ k + 200 by omega) [.int .i64 (n : Int), b] true 1
    exact done_ret (vs := [.agg #[.int .i64 (n : Int), b]]) (by simp [resL]) ⟨f1, n, b, _, rfl, f2, hn1, by omega, ⟨List.pairwise_lt_range, fun a ha => List.mem_range.1 ha⟩, by simp; omega⟩
  have z1' : ¬ (r2 : Int) = 1 := by omega
  by_cases z2 : r2 = 2
  · subst z2
    obtain ⟨v3, h3, p3, r3, q3, l3, w3⟩ := pick_ok hB.next o (k + 2 + 2) h2 ((n : Int) + 1) d2.cur (by omega)
    subst q3
    have hr3 := l3 (by omega)
    have d3 := d2.trans (w3.dr d2.add d2.cur)
    have n3 := w3.nx
    have gr3 : h3.get h.next = .cells [.int .i64 0, .slice none 0 0] true true 1 := by rw [w3.get _ (by omega) (by omega)]; exact gr2
    have up0 : upPairs n [] := fun x hx => by cases hx
    try simp (disch := first | omega | (simp; done) | fail) [wrap64c, if_pos, if_neg, opAnd, opOr, opXor, opDiff, opShr, opBit, e1n, hu2, z0', z1']
    refine callG_c (by simp) (by simp) ?ha (p3) ?_
    (case ha => simp (disch := first | omega | (simp; done) | fail) [wrap64c, if_pos, if_neg, opAnd, opOr, opXor, opDiff, opShr, opBit, e1n, hu2, z0', z1'])
    try simp (disch := first | omega | (simp; done) | fail) [wrap64c, if_pos, if_neg, opAnd, opOr, opXor, opDiff, opShr, opBit, e1n, hu2, z0', z1']
    refine WD_loopC [0, 4, 5] (fun m tm h' => ∃ pv q L, m = r3 - q ∧ tm 8 = pv ∧ tm 9 = .int .i64 ((r3 : Int) - ((q : Nat) : Int)) ∧ (q ≤ r3 ∧ L.length = q) ∧ (DrW hB o (k + 6 + 4 * q) h h') ∧ (IRowsA h2.next h' pv L) ∧ (upPairs n L) ∧ (h'.get h.next = .cells [.int .i64 0, .slice none 0 0] true true 1) ∧ (h2.next ≤ h'.next)) _ ⟨Value.slice none 0 0, 0, [], rfl, (by simp (disch := first | omega | (simp; done) | fail) [wrap64c, if_pos, if_neg, opAnd, opOr, opXor, opDiff, opShr, opBit, e1n, hu2, z0', z1']), (by simp), (by simp), d3, (.nil _ _), up0, gr3, (by first | omega | assumption | (simp (disch := first | omega | (simp; done) | fail) [wrap64c, if_pos, if_neg, opAnd, opOr, opXor, opDiff, opShr, opBit, e1n, hu2, z0', z1'] <;> omega))⟩ ?_
    rintro m tm h' hFr ⟨pv, q, L, rfl, e8, e9, hq, hd, hi, hp, hg, hnx⟩
    simp only [FrameL] at hFr
    obtain ⟨f0_0, f4_0, f5_0, -⟩ := hFr
    try simp (disch := first | omega | (simp; done) | fail) [wrap64c, if_pos, if_neg, opAnd, opOr, opXor, opDiff, opShr, opBit, e1n, hu2, z0', z1'] at f0_0 f4_0 f5_0
    have e0 := f0_0
    have e4 := f4_0
    have e5 := f5_0
    have ntv := hi.nt
    by_cases hlq : q < r3 ∧ 1 < n
    · have hlq1 : 0 < (r3 : Int) - ((q : Nat) : Int) := by omega
      have hlq2 : 1 < (n : Int) := by omega
      obtain ⟨v4, h4, p4, r4, q4, l4, w4⟩ := pick_ok hB.next o (k + 6 + 4 * q) h' ((n : Int) - 1) hd.cur (by omega)
      subst q4
      have hr4 := l4 (by omega)
      have d4 := hd.trans (w4.dr hd.add hd.cur)
      have n4 := w4.nx
      obtain ⟨v5, h5, p5, r5, q5, l5, w5⟩ := pick_ok hB.next o (k + 6 + 4 * q + 2) h4 ((n : Int) - 1 - r4) d4.cur (by omega)
      subst q5
      have hr5 := l5 (by omega)
      have d5 := d4.trans (w5.dr d4.add d4.cur)
      have n5 := w5.nx
      have hi5 : IRowsA h2.next h5 pv L := rows_cur hi (by omega) (fun p h1 h2 => by rw [w5.get p (by omega) (by omega), w4.get p (by omega) (by omega)])
      have hg5 : h5.get h.next = .cells [.int .i64 0, .slice none 0 0] true true 1 := by rw [w5.get _ (by omega) (by omega), w4.get _ (by omega) (by omega)]; exact hg
      obtain ⟨sq, hsq⟩ : ∃ s : Nat, s = r4 + 1 + r5 := ⟨_, rfl⟩
      have hsqe : (r4 : Int) + 1 + (r5 : Int) = (sq : Int) := by omega
      obtain ⟨v6, h6, hap, hi6, k6, n6, s6⟩ := appPair hi5 (r4 : Int) (sq : Int) (by omega) (by omega) d5.add (by have := hA.1.1; omega)
      try simp (disch := first | omega | (simp; done) | fail) [wrap64c, if_pos, if_neg, opAnd, opOr, opXor, opDiff, opShr, opBit, e1n, hu2, z0', z1', e0, e4, e5, e8, e9, ntv, hlq1, hlq2, hsqe]
      refine callG_c (by simp) (by simp) ?ha (p4) ?_
      (case ha => simp (disch := first | omega | (simp; done) | fail) [wrap64c, if_pos, if_neg, opAnd, opOr, opXor, opDiff, opShr, opBit, e1n, hu2, z0', z1', e0, e4, e5, e8, e9, ntv, hlq1, hlq2, hsqe])
      try simp (disch := first | omega | (simp; done) | fail) [wrap64c, if_pos, if_neg, opAnd, opOr, opXor, opDiff, opShr, opBit, e1n, hu2, z0', z1', e0, e4, e5, e8, e9, ntv, hlq1, hlq2, hsqe]
      refine callG_c (by simp) (by simp) ?ha (p5) ?_
      (case ha => simp (disch := first | omega | (simp; done) | fail) [wrap64c, if_pos, if_neg, opAnd, opOr, opXor, opDiff, opShr, opBit, e1n, hu2, z0', z1', e0, e4, e5, e8, e9, ntv, hlq1, hlq2, hsqe])
      try simp (disch := first | omega | (simp; done) | fail) [wrap64c, if_pos, if_neg, opAnd, opOr, opXor, opDiff, opShr, opBit, e1n, hu2, z0', z1', e0, e4, e5, e8, e9, ntv, hlq1, hlq2, hsqe, hap]
      refine loopK_next _ ?hm ?hf ⟨v6, q + 1, L ++ [[(r4 : Int), (sq : Int)]], rfl, (by simp (disch := first | omega | (simp; done) | fail) [wrap64c, if_pos, if_neg, opAnd, opOr, opXor, opDiff, opShr, opBit, e1n, hu2, z0', z1', e0, e4, e5, e8, e9, ntv, hlq1, hlq2, hsqe] <;> omega), (by simp; omega), (by simp; omega), ((d5.app hA hbo.2 k6 (by omega) (fun p h1 h2 => s6 p h1 (by omega))).mono (by omega)), hi6, ?c_hp, (by rw [s6 _ (by omega) (by omega)]; exact hg5), (by omega)⟩
      (case hm => first | omega | (simp; omega))
      (case hf => simp [FrameL, e1n, hu2, z0', z1', e0, e4, e5, e8, e9, ntv, hlq1, hlq2, hsqe, f0_0, f4_0, f5_0])
      case c_hp =>
        exact (fun x hx => by
          rcases List.mem_append.1 hx with hx | hx
          · exact hp x hx
          · simp at hx
            exact ⟨r4, sq, hx, by omega, by omega⟩)
    · have hok := ord_up hn1 hn7 (show L.length ≤ 40 by omega) hp
      have hgd := ord_good hn1 hn7 hp
      have eN : ordN n L = (n : Int) := by rw [ordN, if_pos hok]
      have eX : ordX n L = toN (ordL n L) := by rw [ordX, if_pos hok]; rfl
      obtain ⟨_, h4, p4, a4, u4, rfl, hu4⟩ := specOrder_ok h' pv L n ((hi.own (by omega)).rows)
      rw [eN, eX] at hu4
      rw [hok] at p4
      obtain ⟨b, rfl, hb4⟩ := hu4
      have d4 := hd.trans (DrW.of_adds hd.add hd.cur a4)
      have n4 := a4.1.1
      have ntb := hb4.nt
      have csb := hb4.cs
      have hne4 : ¬ h.next = h4.next := by omega
      have hg4 : h4.get h.next = .cells [.int .i64 0, .slice none 0 0] true true 1 := by rw [a4.1.2 _ (by omega)]; exact hg
      have hcnd : ¬ (0 < (r3 : Int) - ((q : Nat) : Int) ∧ 1 < (n : Int)) := by omega
      obtain ⟨hz, hzE⟩ : ∃ hz, hz = (h4.alloc (.cells [.int .i64 0, .slice none 0 0] true true 1)).put h4.next (.cells [.int .i64 (n : Int), b] true true 1) := ⟨_, rfl⟩
      have kz : Adds h4 hz := by rw [hzE]; exact (by first | exact aK | exact kK)
      have hI : IntsF (fun x => h.next < x) hz b (toN (ordL n L)) := ((hb4.read).sub fun x hx => by have := hx.1; omega).keep kz.1
      obtain ⟨f1, f2⟩ := fin_space hA hbo.2 (d4.trans (DrW.of_adds d4.add d4.cur kz)) hI (show k + 6 + 4 * q ≤ k + 200 by omega) [.int .i64 (n : Int), b] true 1
      have hOL : ordL n L ≠ [] := fun e => by have := hgd.zero; rw [e] at this; cases this
      by_cases hq3 : q < r3
      · have hq3' : 0 < (r3 : Int) - ((q : Nat) : Int) := by omega
        have hq4' : ¬ 1 < (n : Int) := by omega
        try simp (disch := first | omega | (simp; done) | fail) [wrap64c, if_pos, if_neg, opAnd, opOr, opXor, opDiff, opShr, opBit, e1n, hu2, z0', z1', e0, e4, e5, e8, e9, ntv, ntb, csb, hne4, hg4, hq3', hq4']
        refine callG_c (by simp) (by simp) ?ha (p4) ?_
        (case ha => simp (disch := first | omega | (simp; done) | fail) [wrap64c, if_pos, if_neg, opAnd, opOr, opXor, opDiff, opShr, opBit, e1n, hu2, z0', z1', e0, e4, e5, e8, e9, ntv, ntb, csb, hne4, hg4, hq3', hq4'])
        try simp (disch := first | omega | (simp; done) | fail) [wrap64c, if_pos, if_neg, opAnd, opOr, opXor, opDiff, opShr, opBit, e1n, hu2, z0', z1', e0, e4, e5, e8, e9, ntv, ntb, csb, hne4, hg4, hq3', hq4']
        rw [← hzE]
        exact done_ret (vs := [.agg #[.int .i64 (n : Int), b]]) (by simp [resL, e4]) ⟨f1, n, b, _, rfl, f2, hn1, by omega, ⟨hgd.srt, hgd.lt⟩, hOL⟩
      · have hq3' : ¬ 0 < (r3 : Int) - ((q : Nat) : Int) := by omega
        try simp (disch := first | omega | (simp; done) | fail) [wrap64c, if_pos, if_neg, opAnd, opOr, opXor, opDiff, opShr, opBit, e1n, hu2, z0', z1', e0, e4, e5, e8, e9, ntv, ntb, csb, hne4, hg4, hq3']
        refine callG_c (by simp) (by simp) ?ha (p4) ?_
        (case ha => simp (disch := first | omega | (simp; done) | fail) [wrap64c, if_pos, if_neg, opAnd, opOr, opXor, opDiff, opShr, opBit, e1n, hu2, z0', z1', e0, e4, e5, e8, e9, ntv, ntb, csb, hne4, hg4, hq3'])
        try simp (disch := first | omega | (simp; done) | fail) [wrap64c, if_pos, if_neg, opAnd, opOr, opXor, opDiff, opShr, opBit, e1n, hu2, z0', z1', e0, e4, e5, e8, e9, ntv, ntb, csb, hne4, hg4, hq3']
        rw [← hzE]
        exact done_ret (vs := [.agg #[.int .i64 (n : Int), b]]) (by simp [resL, e4]) ⟨f1, n, b, _, rfl, f2, hn1, by omega, ⟨hgd.srt, hgd.lt⟩, hOL⟩
  have z2' : ¬ (r2 : Int) = 2 := by omega
  try simp (disch := first | omega | (simp; done) | fail) [wrap64c, if_pos, if_neg, opAnd, opOr, opXor, opDiff, opShr, opBit, e1n, hu2, z0', z1', z2']
  first | refine WY_heap fun h3 q_h3 => ?_ | refine callG_heap fun h3 q_h3 => ?_ | refine callP_heap fun h3 q_h3 => ?_ | refine callS_heap fun h3 q_h3 => ?_ | refine RY_heap fun h3 q_h3 => ?_ | refine PY_heap fun h3 q_h3 => ?_ | refine SY_heap fun h3 q_h3 => ?_ | refine doneY_heap fun h3 q_h3 => ?_ | refine loopK_heap fun h3 q_h3 => ?_ | refine thenY_heap fun h3 q_h3 => ?_ | refine thenM_heap fun h3 q_h3 => ?_
  have k3 : Adds h2 h3 := by rw [q_h3]; exact (by first | exact aK | exact kK)
  have n3 : h3.next = h2.next + 1 := by simp [q_h3]
  have d3 := d2.trans (DrW.of_adds d2.add d2.cur k3)
  have i3 : IntsA h2.next h3 (.slice (some ⟨h2.next, 0, none⟩) 1 1) (toN [0]) := .inr ⟨h2.next, true, rfl, Nat.le_refl _, by omega, by simp [q_h3, toN]⟩
  obtain ⟨v4, h4, p4, r4, q4, l4, w4⟩ := pick_ok hB.next o (k + 2 + 2) h3 3 d3.cur (by omega)
  subst q4
  have hr4 := l4 (by omega)
  have d4 := d3.trans (w4.dr d3.add d3.cur)
  have n4 := w4.nx
  have i4 : IntsA h2.next h4 (.slice (some ⟨h2.next, 0, none⟩) 1 1) (toN [0]) := ints_cur i3 (by omega) (fun p h1 h2 => w4.get p h2 (by omega))
  have gr4 : h4.get h.next = .cells [.int .i64 0, .slice none 0 0] true true 1 := by rw [w4.get _ (by omega) (by omega), k3.1.2 _ (by omega)]; exact gr2
  have ini : ∀ a ∈ [0], a < bit n := fun a ha => by simp at ha; omega
  refine callG_c (by simp) (by simp) ?ha (p4) ?_
  (case ha => simp (disch := first | omega | (simp; done) | fail) [wrap64c, if_pos, if_neg, opAnd, opOr, opXor, opDiff, opShr, opBit, e1n, hu2, z0', z1', z2'])
  try simp (disch := first | omega | (simp; done) | fail) [wrap64c, if_pos, if_neg, opAnd, opOr, opXor, opDiff, opShr, opBit, e1n, hu2, z0', z1', z2']
  refine WD_loopC [0, 4, 5] (fun m tm h' => ∃ sv q S, m = 1 + r4 - q ∧ tm 13 = sv ∧ tm 14 = .int .i64 (1 + (r4 : Int) - ((q : Nat) : Int)) ∧ (q ≤ 1 + r4) ∧ (DrW hB o (k + 6 + 14 * q) h h') ∧ (IntsA h2.next h' sv (toN S)) ∧ (∀ a ∈ S, a < bit n) ∧ (S.length ≤ 1 + 128 * q) ∧ (h'.get h.next = .cells [.int .i64 0, .slice none 0 0] true true 1) ∧ (h2.next ≤ h'.next)) _ ⟨_, 0, [0], rfl, (by simp (disch := first | omega | (simp; done) | fail) [wrap64c, if_pos, if_neg, opAnd, opOr, opXor, opDiff, opShr, opBit, e1n, hu2, z0', z1', z2']), (by simp), (by first | omega | assumption | (simp (disch := first | omega | (simp; done) | fail) [wrap64c, if_pos, if_neg, opAnd, opOr, opXor, opDiff, opShr, opBit, e1n, hu2, z0', z1', z2'] <;> omega)), d4, i4, ini, (by simp), gr4, (by first | omega | assumption | (simp (disch := first | omega | (simp; done) | fail) [wrap64c, if_pos, if_neg, opAnd, opOr, opXor, opDiff, opShr, opBit, e1n, hu2, z0', z1', z2'] <;> omega))⟩ ?_
  rintro m tm h' hFr ⟨sv, q, S, rfl, e13, e14, hq, hd, hi, hS, hl, hg, hnx⟩
  simp only [FrameL] at hFr
  obtain ⟨f0_1, f4_1, f5_1, -⟩ := hFr
  try simp (disch := first | omega | (simp; done) | fail) [wrap64c, if_pos, if_neg, opAnd, opOr, opXor, opDiff, opShr, opBit, e1n, hu2, z0', z1', z2'] at f0_1 f4_1 f5_1
  have e0 := f0_1
  have e4 := f4_1
  have e5 := f5_1
  have hk4 : q ≤ 3 := by omega
  by_cases hlq : q < 1 + r4
  · have hlq1 : 0 < 1 + (r4 : Int) - ((q : Nat) : Int) := by omega
    obtain ⟨v5, h5, p5, d5, l5, i5, ll5, lx5, _⟩ := order_ok hB h' o (k + 6 + 14 * q) n hd.add hd.cur (by omega) (by omega)
    have n5 := d5.nx
    obtain ⟨v6, h6, p6, a6, L6, i6, hL6, _⟩ := spChain_ok h5 v5 l5 n ((i5.own (by simp; omega)).ints) lx5 hn7 (by omega)
    have n6 := a6.1.1
    have lL6 := hL6.len
    have dq := hd.trans d5
    have d6 := dq.trans (DrW.of_adds dq.add dq.cur a6)
    have hi6 : IntsA h2.next h6 sv (toN S) := ints_cur hi (by omega) (fun p h1 h2 => by rw [a6.1.2 p (by omega)]; exact d5.sm p h2 (by omega))
    have hg6 : h6.get h.next = .cells [.int .i64 0, .slice none 0 0] true true 1 := by rw [a6.1.2 _ (by omega), d5.sm _ (by omega) (by omega)]; exact hg
    obtain ⟨v7, h7, hap, i7, k7, n7, s7⟩ := append_ints (P := Try.prog) (t := 24) (t' := 24) hi6 ((i6.own (by simp; omega)).ints) ty_elT_24 ty_szT_3 ty_zeroT_3 ty_byT_3 (by decide) (by decide) (by simp) (by simp; omega) (by omega) d6.add (by have := hA.1.1; omega)
    rw [← toN_append] at i7
    try simp (disch := first | omega | (simp; done) | fail) [wrap64c, if_pos, if_neg, opAnd, opOr, opXor, opDiff, opShr, opBit, e1n, hu2, z0', z1', z2', e0, e4, e5, e13, e14, hlq1]
    refine callG_c (by simp) (by simp) ?ha (p5) ?_
    (case ha => simp (disch := first | omega | (simp; done) | fail) [wrap64c, if_pos, if_neg, opAnd, opOr, opXor, opDiff, opShr, opBit, e1n, hu2, z0', z1', z2', e0, e4, e5, e13, e14, hlq1])
    try simp (disch := first | omega | (simp; done) | fail) [wrap64c, if_pos, if_neg, opAnd, opOr, opXor, opDiff, opShr, opBit, e1n, hu2, z0', z1', z2', e0, e4, e5, e13, e14, hlq1]
    refine callG_c (by simp) (by simp) ?ha (p6) ?_
    (case ha => simp (disch := first | omega | (simp; done) | fail) [wrap64c, if_pos, if_neg, opAnd, opOr, opXor, opDiff, opShr, opBit, e1n, hu2, z0', z1', z2', e0, e4, e5, e13, e14, hlq1])
    try simp (disch := first | omega | (simp; done) | fail) [wrap64c, if_pos, if_neg, opAnd, opOr, opXor, opDiff, opShr, opBit, e1n, hu2, z0', z1', z2', e0, e4, e5, e13, e14, hlq1, hap]
    refine loopK_next _ ?hm ?hf ⟨v7, q + 1, S ++ L6, rfl, (by simp (disch := first | omega | (simp; done) | fail) [wrap64c, if_pos, if_neg, opAnd, opOr, opXor, opDiff, opShr, opBit, e1n, hu2, z0', z1', z2', e0, e4, e5, e13, e14, hlq1] <;> omega), (by simp; omega), (by first | omega | assumption | (simp (disch := first | omega | (simp; done) | fail) [wrap64c, if_pos, if_neg, opAnd, opOr, opXor, opDiff, opShr, opBit, e1n, hu2, z0', z1', z2', e0, e4, e5, e13, e14, hlq1] <;> omega)), ((d6.app hA hbo.2 k7 (by omega) (fun p h1 h2 => s7 p h1 (by omega))).mono (by omega)), i7, ?c_hS, (by simp; omega), (by rw [s7 _ (by omega) (by omega)]; exact hg6), (by omega)⟩
    (case hm => first | omega | (simp; omega))
    (case hf => simp [FrameL, e1n, hu2, z0', z1', z2', e0, e4, e5, e13, e14, hlq1, f0_1, f4_1, f5_1])
    case c_hS =>
      exact (fun a ha => by
        rcases List.mem_append.1 ha with ha | ha
        · exact hS a ha
        · exact hL6.2 a ha)
  · have hlq1 : ¬ 0 < 1 + (r4 : Int) - ((q : Nat) : Int) := by omega
    obtain ⟨b, h5, p5, a5, L, i5, hL, h0⟩ := spUnions_ok h' sv S n ((hi.own (by simp; omega)).ints) hS hn7 (by omega)
    have d5 := hd.trans (DrW.of_adds hd.add hd.cur a5)
    have n5 := a5.1.1
    have lL := hL.len
    have ntb := i5.nt
    have csb := (i5.own (by simp; omega)).ints.cs
    have hg5 : h5.get h.next = .cells [.int .i64 0, .slice none 0 0] true true 1 := by rw [a5.1.2 _ (by omega)]; exact hg
    have hI : IntsF (fun x => h.next < x) h5 b (toN L) := ((i5.own (by simp; omega)).read).sub fun x hx => by have := hx.1; omega
    obtain ⟨f1, f2⟩ := fin_space hA hbo.2 d5 hI (show k + 6 + 14 * q ≤ k + 200 by omega) [.int .i64 (n : Int), b] true 1
    try simp (disch := first | omega | (simp; done) | fail) [wrap64c, if_pos, if_neg, opAnd, opOr, opXor, opDiff, opShr, opBit, e1n, hu2, z0', z1', z2', e0, e4, e5, e13, e14, hlq1, ntb, csb, hg5]
    refine callG_c (by simp) (by simp) ?ha (p5) ?_
    (case ha => simp (disch := first | omega | (simp; done) | fail) [wrap64c, if_pos, if_neg, opAnd, opOr, opXor, opDiff, opShr, opBit, e1n, hu2, z0', z1', z2', e0, e4, e5, e13, e14, hlq1, ntb, csb, hg5])
    try simp (disch := first | omega | (simp; done) | fail) [wrap64c, if_pos, if_neg, opAnd, opOr, opXor, opDiff, opShr, opBit, e1n, hu2, z0', z1', z2', e0, e4, e5, e13, e14, hlq1, ntb, csb, hg5]
    exact done_ret (vs := [.agg #[.int .i64 (n : Int), b]]) (by simp [resL, e4]) ⟨f1, n, b, _, rfl, f2, hn1, by omega, hL, fun e => by rw [e] at h0; cases h0⟩
end Go.Proofs.Ytnncipcldbopgaa
namespace Go.Proofs.Ytnncipcldbopgaa
set_option linter.unusedSimpArgs false
set_option linter.unusedVariables false
set_option maxHeartbeats 4000000
open Go Go.Eng
attribute [local irreducible] WD RunD PreD Runs CallOK
theorem putI {ys : List Int} {j : Nat} (hj : j < ys.length) (x : Int) : putCells (ys.map (.int .i64)) j [.int .i64 x] = (ys.set j x).map (.int .i64) := by
  rw [putCells_one (by simpa using hj), List.map_set]
theorem fin_spaceI {hB h hh : Hp} {o K k' : Nat} {b : Value} {X : List Int} (hA : Adds hB h) (ho : o < h.next) (d : DrW hB o K h hh) (hi : IntsF (fun x => h.next < x) hh b X) (hK : K ≤ k') (cs : List Value) (e : Bool) (es : Nat) :
    DrW hB o k' h (hh.put h.next (.cells cs true e es)) ∧ IntsF (fun x => h.next < x) (hh.put h.next (.cells cs true e es)) b X :=
  ⟨(d.put hA ho (Nat.le_refl _) _ _ _).mono hK, hi.same (h := hh) (h' := hh.put h.next _) ⟨Nat.le_refl _, fun x hx _ => by simp [show x ≠ h.next by omega]⟩⟩
theorem subF {F : Nat → Prop} {h : Hp} {o : Nat} {xs : List Int} {own ex : Bool} {es : Nat} (hg : h.get o = .cells (xs.map (.int .i64)) own ex es) (ho : o < h.next) (hF : F o) {n c : Nat} (hi : n ≤ xs.length) (hc : n ≤ c) (hc2 : c < 2 ^ 63) : IntsF F h (.slice (some ⟨o, 0, none⟩) n c) (xs.take n) := by
  have hl : (xs.take n).length = n := by simp; omega
  refine ⟨some ⟨o, 0, none⟩, c, by rw [hl], by omega, hc2, fun k x hk => ?_⟩
  obtain ⟨q1, q2⟩ := List.getElem?_eq_some_iff.1 hk
  rw [hl] at q1
  subst q2
  refine ⟨o, 0, _, own, ex, es, rfl, hF, ho, hg, by simp; omega, ?_⟩
  have : k < xs.length := by omega
  simp [isInt, List.getD_eq_getElem?_getD, this]
theorem del_ok {h : Hp} {o r ln : Nat} {xs : List Int} {ex : Bool} (hg : h.get o = .cells (xs.map (.int .i64)) true ex 1) (ho : o < h.next) (hl : xs.length = ln) (hr : r < ln) (hs : ln ≤ 1000) :
    ∃ (h' : Hp) (zs : List Int), appendD Try.prog 24 24 (.slice (some ⟨o, 0, none⟩) r ln) (.slice (some ⟨o, r + 1, none⟩) (ln - (r + 1)) (ln - (r + 1))) h = some (.slice (some ⟨o, 0, none⟩) (ln - 1) ln, h') ∧ h'.next = h.next ∧ (∀ p, p ≠ o → h'.get p = h.get p) ∧ h'.get o = .cells (zs.map (.int .i64)) true ex 1 ∧ zs.length = ln ∧ (∀ a, Adds a h → a.next ≤ o → Adds a h') := by
  have hI := subI hg ho (i := r + 1) (n := ln - (r + 1)) (c := ln - (r + 1)) (by omega) (Nat.le_refl _) (by omega)
  have hsrc := hI.src
  have hlen : ((xs.drop (r + 1)).take (ln - (r + 1))).length = ln - (r + 1) := by simp; omega
  by_cases hz : ln - (r + 1) = 0
  · refine ⟨h, xs, ?_, rfl, fun _ _ => rfl, hg, hl, fun _ a _ => a⟩
    have hr1 : r = ln - 1 := by omega
    simp only [appendD, ty_elT_24, ty_szT_3, ty_zeroT_3, ty_byT_3, hsrc, hlen, hz]
    subst hr1
    simp [Value.cells, hg, hl, show ln - 1 + 1 = ln by omega]
  · refine ⟨h.put o (.cells (putCells (xs.map (.int .i64)) r (((xs.drop (r + 1)).take (ln - (r + 1))).map (.int .i64))) true ex 1), xs.take r ++ ((xs.drop (r + 1)).take (ln - (r + 1)) ++ xs.drop (r + (ln - (r + 1)))), ?_, rfl, fun p hp => by simp [hp], ?_, ?_, fun a ha hle => ha.put hle (fun _ => rfl)⟩
    · simp only [appendD, ty_elT_24, ty_szT_3, ty_zeroT_3, ty_byT_3, hsrc, hlen, hg]
      simp [Value.cells, hz, hl, show r + (ln - (r + 1)) ≤ ln by omega, show r + (ln - (r + 1)) = ln - 1 by omega]
    · simp [putCells, hlen, hl]
    · simp [hl]; omega
theorem space_ok (hB h : Hp) (o k : Nat) (most : Int) (hA : Adds hB h) (hc : CurS hB.next o k h) (hk : k + 3000 < 2 ^ 40) (hm : 1 ≤ most ∧ most ≤ 7) :
    ∃ v h', CallOK Try.prog 174 #[.pointer (some ⟨o, 0, none⟩), .int .i64 most] h v h' ∧ DrW hB o (k + 300) h h' ∧ ∃ N X, SpaceF (fun x => h.next < x) h' v N X ∧ X.length ≤ 128 := by
  have hbo := hc.bo
  refine callY_L (args := [.pointer (some ⟨o, 0, none⟩), .int .i64 most]) 59 _ [.cell 4 26] Try.func174 rfl rfl rfl ?_
  try simp (disch := first | omega | (simp; done) | fail) [wrap64c, if_pos, if_neg, opAnd, opOr, opXor, opDiff, opShr, opBit]
  first | refine WY_heap fun h0 q_h0 => ?_ | refine callG_heap fun h0 q_h0 => ?_ | refine callP_heap fun h0 q_h0 => ?_ | refine callS_heap fun h0 q_h0 => ?_ | refine RY_heap fun h0 q_h0 => ?_ | refine PY_heap fun h0 q_h0 => ?_ | refine SY_heap fun h0 q_h0 => ?_ | refine doneY_heap fun h0 q_h0 => ?_ | refine loopK_heap fun h0 q_h0 => ?_ | refine thenY_heap fun h0 q_h0 => ?_ | refine thenM_heap fun h0 q_h0 => ?_
  have k0 : Adds h h0 := by rw [q_h0]; exact (by first | exact aK | exact kK)
  have n0 : h0.next = h.next + 1 := by simp [q_h0]
  have d0 := DrW.of_adds hA hc k0
  have gr0 : h0.get h.next = .cells [.int .i64 0, .slice none 0 0] true true 1 := by simp [q_h0]
  obtain ⟨_, h1, p1, d1, n, b, L, rfl, i1, hn1, hnm, hL, hne⟩ := sureSpace_ok hB h0 o k most d0.add d0.cur (by omega) hm
  have hn7 : n ≤ 7 := by omega
  have hb7 := bit7 hn7
  have lL := hL.len
  have n1 := d1.nx
  have gr1 : h1.get h.next = .cells [.int .i64 0, .slice none 0 0] true true 1 := by rw [d1.sm _ (by omega) (by omega)]; exact gr0
  have d01 := d0.trans d1
  have ntb := i1.ints.nt
  have csb := i1.ints.cs
  have hu2 : ∀ a b c d : Value, putCells [a, b] 0 [c, d] = [c, d] := fun _ _ _ _ => rfl
  have hu1 : ∀ a b c : Value, putCells [a, b] 0 [c] = [c, b] := fun _ _ _ => rfl
  have hu1' : ∀ a b c : Value, putCells [a, b] 1 [c] = [a, c] := fun _ _ _ => rfl
  refine callG_c (by simp) (by simp) ?ha (p1) ?_
  (case ha => simp (disch := first | omega | (simp; done) | fail) [wrap64c, if_pos, if_neg, opAnd, opOr, opXor, opDiff, opShr, opBit, ntb, csb, hu2, hu1, hu1'])
  try simp (disch := first | omega | (simp; done) | fail) [wrap64c, if_pos, if_neg, opAnd, opOr, opXor, opDiff, opShr, opBit, ntb, csb, hu2, hu1, hu1']
  first | refine WY_heap fun h2 q_h2 => ?_ | refine callG_heap fun h2 q_h2 => ?_ | refine callP_heap fun h2 q_h2 => ?_ | refine callS_heap fun h2 q_h2 => ?_ | refine RY_heap fun h2 q_h2 => ?_ | refine PY_heap fun h2 q_h2 => ?_ | refine SY_heap fun h2 q_h2 => ?_ | refine doneY_heap fun h2 q_h2 => ?_ | refine loopK_heap fun h2 q_h2 => ?_ | refine thenY_heap fun h2 q_h2 => ?_ | refine thenM_heap fun h2 q_h2 => ?_
  have k2 : Adds h1 h2 := by rw [q_h2]; exact (by first | exact aK | exact kK)
  have n2 : h2.next = h1.next + 1 := by simp [q_h2]
  have d2 := d01.trans (DrW.of_adds d01.add d01.cur k2)
  have gs2 : h2.get h1.next = .cells [.int .i64 (n : Int), b] true true 1 := by simp [q_h2]
  have gr2 : h2.get h.next = .cells [.int .i64 0, .slice none 0 0] true true 1 := by rw [k2.1.2 _ (by omega)]; exact gr1
  obtain ⟨c, h3, p3, a3, _, i3⟩ := l1Own_ok h2 b (toN L) (i1.ints.keep k2.1) (by simp; omega)
  have n3 := a3.1.1
  have d3 := d2.trans (DrW.of_adds d2.add d2.cur a3)
  have gs3 : h3.get h1.next = .cells [.int .i64 (n : Int), b] true true 1 := by rw [a3.1.2 _ (by omega)]; exact gs2
  have gr3 : h3.get h.next = .cells [.int .i64 0, .slice none 0 0] true true 1 := by rw [a3.1.2 _ (by omega)]; exact gr2
  obtain ⟨ln, hln⟩ : ∃ l, l = L.length := ⟨_, rfl⟩
  have ln1 : 1 ≤ ln := by rw [hln]; exact List.length_pos_iff.2 hne
  have hlt : (toN L).length = ln := by rw [toN_length, hln]
  rcases i3 with ⟨y1, _⟩ | ⟨oq, eq_, y2, z1, z2, z3⟩
  · rw [y1] at hlt; simp at hlt; omega
  rw [hlt] at y2
  subst y2
  try simp (disch := first | omega | (simp; done) | fail) [wrap64c, if_pos, if_neg, opAnd, opOr, opXor, opDiff, opShr, opBit, ntb, csb, hu2, hu1, hu1', gs2, gs3]
  refine WD_drawC 5 rfl (by kernel_rfl) ?_
  try simp (disch := first | omega | (simp; done) | fail) [wrap64c, if_pos, if_neg, opAnd, opOr, opXor, opDiff, opShr, opBit, ntb, csb, hu2, hu1, hu1', gs2, gs3]
  refine callP_c (by simp) (by simp) ?ha (p3) ?hadd ?_
  (case ha => simp (disch := first | omega | (simp; done) | fail) [wrap64c, if_pos, if_neg, opAnd, opOr, opXor, opDiff, opShr, opBit, ntb, csb, hu2, hu1, hu1', gs2, gs3])
  (case hadd => first | assumption | exact adds_self _ | (simp; done))
  try simp (disch := first | omega | (simp; done) | fail) [wrap64c, if_pos, if_neg, opAnd, opOr, opXor, opDiff, opShr, opBit, ntb, csb, hu2, hu1, hu1', gs2, gs3]
  obtain ⟨h4, h4E⟩ : ∃ hz, hz = h3.put h1.next (.cells [.int .i64 (n : Int), .slice (some ⟨oq, 0, none⟩) ln ln] true true 1) := ⟨_, rfl⟩
  have d4 : DrW hB o (k + 200) h h4 := by rw [h4E]; exact d3.put hA hbo.2 (by omega) _ _ _
  have n4 : h4.next = h3.next := by rw [h4E]; rfl
  rw [← h4E]
  obtain ⟨v5, h5, p5, r5, q5, l5, w5⟩ := pick_ok hB.next o (k + 200) h4 20 d4.cur (by omega)
  subst q5
  have hr5 := l5 (by omega)
  have d5 := d4.trans (w5.dr d4.add d4.cur)
  have n5 := w5.nx
  have gs5 : h5.get h1.next = .cells [.int .i64 (n : Int), .slice (some ⟨oq, 0, none⟩) ln ln] true true 1 := by rw [w5.get _ (by omega) (by omega), h4E]; simp
  have z5 : h5.get oq = .cells ((toN L).map (.int .i64)) true eq_ 1 := by rw [w5.get _ (by omega) (by omega), h4E]; simp [show oq ≠ h1.next by omega, z3]
  have gr5 : h5.get h.next = .cells [.int .i64 0, .slice none 0 0] true true 1 := by rw [w5.get _ (by omega) (by omega), h4E]; simp [show h.next ≠ h1.next by omega, gr3]
  have hne1 : ¬ h.next = h1.next := by omega
  have hne2 : ¬ h1.next = oq := by omega
  have hne3 : ¬ h.next = oq := by omega
  refine callG_c (by simp) (by simp) ?ha (p5) ?_
  (case ha => simp (disch := first | omega | (simp; done) | fail) [wrap64c, if_pos, if_neg, opAnd, opOr, opXor, opDiff, opShr, opBit, ntb, csb, hu2, hu1, hu1', gs2, gs3, gs5, hne1, hne2, hne3])
  by_cases c0 : r5 = 0
  · subst c0
    obtain ⟨hl6, hl6E⟩ : ∃ hz, hz = h5.alloc (.cells [.int .i64 0, .int .i64 (-1), .int .i64 ((n : Int) + 1), .int .i64 8, .int .i64 4611686018427387904] true true 1) := ⟨_, rfl⟩
    have k6 : Adds h5 hl6 := by rw [hl6E]; exact (by first | exact aK | exact kK)
    have n6 : hl6.next = h5.next + 1 := by rw [hl6E]; rfl
    have d6 := d5.trans (DrW.of_adds d5.add d5.cur k6)
    have i6 : IntsF (fun x => x ≠ o) hl6 (.slice (some ⟨h5.next, 0, none⟩) 5 5) [0, -1, (n : Int) + 1, 8, 4611686018427387904] := lit_ints (xs := [0, -1, (n : Int) + 1, 8, 4611686018427387904]) (own := true) (ex := true) (es := 1) (by simp [hl6E]) (by omega) (by omega) (by simp)
    obtain ⟨v7, h7, p7, r7, q7, e7_, w7⟩ := among_ok hB.next o (k + 200 + 2) hl6 _ _ d6.cur (by omega) i6 (by simp)
    subst e7_
    generalize hx7 : [0, -1, (n : Int) + 1, 8, 4611686018427387904][r7] = x7 at p7
    have d7 := d6.trans (w7.dr d6.add d6.cur)
    have n7 := w7.nx
    have gs7 : h7.get h1.next = .cells [.int .i64 (n : Int), .slice (some ⟨oq, 0, none⟩) ln ln] true true 1 := by rw [w7.get _ (by omega) (by omega), k6.1.2 _ (by omega)]; exact gs5
    have gr7 : h7.get h.next = .cells [.int .i64 0, .slice none 0 0] true true 1 := by rw [w7.get _ (by omega) (by omega), k6.1.2 _ (by omega)]; exact gr5
    have z7 : h7.get oq = .cells ((toN L).map (.int .i64)) true eq_ 1 := by rw [w7.get _ (by omega) (by omega), k6.1.2 _ (by omega)]; exact z5
    try simp (disch := first | omega | (simp; done) | fail) [wrap64c, if_pos, if_neg, opAnd, opOr, opXor, opDiff, opShr, opBit, ntb, csb, hu2, hu1, hu1', gs2, gs3, gs5, hne1, hne2, hne3, gs7, gr7]
    rw [← hl6E]
    refine callG_c (by simp) (by simp) ?ha (p7) ?_
    (case ha => simp (disch := first | omega | (simp; done) | fail) [wrap64c, if_pos, if_neg, opAnd, opOr, opXor, opDiff, opShr, opBit, ntb, csb, hu2, hu1, hu1', gs2, gs3, gs5, hne1, hne2, hne3, gs7, gr7])
    try simp (disch := first | omega | (simp; done) | fail) [wrap64c, if_pos, if_neg, opAnd, opOr, opXor, opDiff, opShr, opBit, ntb, csb, hu2, hu1, hu1', gs2, gs3, gs5, hne1, hne2, hne3, gs7, gr7]
    have d8 := d7.put hA hbo.2 (show h.next ≤ h1.next by omega) [.int .i64 x7, .slice (some ⟨oq, 0, none⟩) ln ln] true 1
    have hI := subF (F := fun x => h.next < x) (h := h7.put h1.next (.cells [.int .i64 x7, .slice (some ⟨oq, 0, none⟩) ln ln] true true 1)) (o := oq) (xs := toN L) (own := true) (ex := eq_) (es := 1) (by simp [show oq ≠ h1.next by omega, z7]) (by simp; omega) (by omega) (n := ln) (c := ln) (by omega) (Nat.le_refl _) (by omega)
    obtain ⟨f1, f2⟩ := fin_spaceI hA hbo.2 d8 hI (show k + 200 + 2 + 2 ≤ k + 300 by omega) [.int .i64 x7, .slice (some ⟨oq, 0, none⟩) ln ln] true 1
    exact done_ret (vs := [.agg #[.int .i64 x7, .slice (some ⟨oq, 0, none⟩) ln ln]]) (by simp [resL]) ⟨f1, _, _, ⟨_, rfl, f2⟩, by simp; omega⟩
  have c0' : ¬ (r5 : Int) = 0 := by omega
  by_cases c1 : r5 = 1
  · subst c1
    obtain ⟨v6, h6, p6, r6, q6, l6, w6⟩ := pick_ok hB.next o (k + 200 + 2) h5 (ln : Int) d5.cur (by omega)
    subst q6
    have hr6 := l6 (by omega)
    have hr6' : r6 + 1 ≤ ln := by omega
    have d6 := d5.trans (w6.dr d5.add d5.cur)
    have n6 := w6.nx
    have gs6 : h6.get h1.next = .cells [.int .i64 (n : Int), .slice (some ⟨oq, 0, none⟩) ln ln] true true 1 := by rw [w6.get _ (by omega) (by omega)]; exact gs5
    have gr6 : h6.get h.next = .cells [.int .i64 0, .slice none 0 0] true true 1 := by rw [w6.get _ (by omega) (by omega)]; exact gr5
    have z6 : h6.get oq = .cells ((toN L).map (.int .i64)) true eq_ 1 := by rw [w6.get _ (by omega) (by omega)]; exact z5
    obtain ⟨h7, zs, hap, n7, s7, z7, lz7, ad7⟩ := del_ok z6 (by omega) hlt (show r6 < ln by omega) (by omega)
    have d7 : DrW hB o (k + 200 + 2 + 2) h h7 := ⟨ad7 _ d6.add (by have := hA.1.1; omega), by have := d6.nx; omega, fun p hp hne => by rw [s7 p (by omega)]; exact d6.sm p hp hne, d6.cur.same ⟨by omega, fun p hp hl => s7 p (by rcases hp with hp | hp <;> omega)⟩⟩
    have gs7 : h7.get h1.next = .cells [.int .i64 (n : Int), .slice (some ⟨oq, 0, none⟩) ln ln] true true 1 := by rw [s7 _ (by omega)]; exact gs6
    have gr7 : h7.get h.next = .cells [.int .i64 0, .slice none 0 0] true true 1 := by rw [s7 _ (by omega)]; exact gr6
    try simp (disch := first | omega | (simp; done) | fail) [wrap64c, if_pos, if_neg, opAnd, opOr, opXor, opDiff, opShr, opBit, ntb, csb, hu2, hu1, hu1', gs2, gs3, gs5, hne1, hne2, hne3, c0', hr6', gs6, gs7, gr7]
    refine callG_c (by simp) (by simp) ?ha (p6) ?_
    (case ha => simp (disch := first | omega | (simp; done) | fail) [wrap64c, if_pos, if_neg, opAnd, opOr, opXor, opDiff, opShr, opBit, ntb, csb, hu2, hu1, hu1', gs2, gs3, gs5, hne1, hne2, hne3, c0', hr6', gs6, gs7, gr7])
    try simp (disch := first | omega | (simp; done) | fail) [wrap64c, if_pos, if_neg, opAnd, opOr, opXor, opDiff, opShr, opBit, ntb, csb, hu2, hu1, hu1', gs2, gs3, gs5, hne1, hne2, hne3, c0', hr6', gs6, gs7, gr7]
    refine WD_drawC 9 rfl (by kernel_rfl) ?_
    try simp (disch := first | omega | (simp; done) | fail) [wrap64c, if_pos, if_neg, opAnd, opOr, opXor, opDiff, opShr, opBit, ntb, csb, hu2, hu1, hu1', gs2, gs3, gs5, hne1, hne2, hne3, c0', hr6', gs6, gs7, gr7, hap]
    have d8 := d7.put hA hbo.2 (show h.next ≤ h1.next by omega) [.int .i64 (n : Int), .slice (some ⟨oq, 0, none⟩) (ln - 1) ln] true 1
    have hI := subF (F := fun x => h.next < x) (h := h7.put h1.next (.cells [.int .i64 (n : Int), .slice (some ⟨oq, 0, none⟩) (ln - 1) ln] true true 1)) (o := oq) (xs := zs) (own := true) (ex := eq_) (es := 1) (by simp [show oq ≠ h1.next by omega, z7]) (by simp; omega) (by omega) (n := ln - 1) (c := ln) (by omega) (by omega) (by omega)
    obtain ⟨f1, f2⟩ := fin_spaceI hA hbo.2 d8 hI (show k + 200 + 2 + 2 ≤ k + 300 by omega) [.int .i64 (n : Int), .slice (some ⟨oq, 0, none⟩) (ln - 1) ln] true 1
    exact done_ret (vs := [.agg #[.int .i64 (n : Int), .slice (some ⟨oq, 0, none⟩) (ln - 1) ln]]) (by simp [resL]) ⟨f1, _, _, ⟨_, rfl, f2⟩, by simp; omega⟩
  have c1' : ¬ (r5 : Int) = 1 := by omega
  by_cases c2 : r5 = 2
  · subst c2
    obtain ⟨hl6, hl6E⟩ : ∃ hz, hz = h5.alloc (.cells [.int .i64 (-1), .int .i64 0, .int .i64 3, .int .i64 128, .int .i64 4611686018427387904] true true 1) := ⟨_, rfl⟩
    have k6 : Adds h5 hl6 := by rw [hl6E]; exact (by first | exact aK | exact kK)
    have n6 : hl6.next = h5.next + 1 := by rw [hl6E]; rfl
    have d6 := d5.trans (DrW.of_adds d5.add d5.cur k6)
    obtain ⟨v7, h7, p7, r7, q7, l7, w7⟩ := pick_ok hB.next o (k + 200 + 2) hl6 (ln : Int) d6.cur (by omega)
    subst q7
    have hr7 := l7 (by omega)
    have d7 := d6.trans (w7.dr d6.add d6.cur)
    have n7 := w7.nx
    have g6 : hl6.get h5.next = .cells [.int .i64 (-1), .int .i64 0, .int .i64 3, .int .i64 128, .int .i64 4611686018427387904] true true 1 := by rw [hl6E]; simp
    have g7 : h7.get h5.next = .cells [.int .i64 (-1), .int .i64 0, .int .i64 3, .int .i64 128, .int .i64 4611686018427387904] true true 1 := by rw [w7.get _ (by omega) (by omega)]; exact g6
    have i7 : IntsF (fun x => x ≠ o) h7 (.slice (some ⟨h5.next, 0, none⟩) 5 5) [-1, 0, 3, 128, 4611686018427387904] := lit_ints (xs := [-1, 0, 3, 128, 4611686018427387904]) (own := true) (ex := true) (es := 1) (by simpa using g7) (by omega) (by omega) (by simp)
    obtain ⟨v8, h8, p8, r8, q8, e8_, w8⟩ := among_ok hB.next o (k + 200 + 2 + 2) h7 _ _ d7.cur (by omega) i7 (by simp)
    subst e8_
    generalize hx8 : [-1, 0, 3, 128, 4611686018427387904][r8] = x8 at p8
    have d8 := d7.trans (w8.dr d7.add d7.cur)
    have n8 := w8.nx
    have gs6 : hl6.get h1.next = .cells [.int .i64 (n : Int), .slice (some ⟨oq, 0, none⟩) ln ln] true true 1 := by rw [k6.1.2 _ (by omega)]; exact gs5
    have gs8 : h8.get h1.next = .cells [.int .i64 (n : Int), .slice (some ⟨oq, 0, none⟩) ln ln] true true 1 := by rw [w8.get _ (by omega) (by omega), w7.get _ (by omega) (by omega)]; exact gs6
    have gr8 : h8.get h.next = .cells [.int .i64 0, .slice none 0 0] true true 1 := by rw [w8.get _ (by omega) (by omega), w7.get _ (by omega) (by omega), k6.1.2 _ (by omega)]; exact gr5
    have z8 : h8.get oq = .cells ((toN L).map (.int .i64)) true eq_ 1 := by rw [w8.get _ (by omega) (by omega), w7.get _ (by omega) (by omega), k6.1.2 _ (by omega)]; exact z5
    have hr7' : r7 < ln := by omega
    have hr7L : r7 < L.length := by omega
    have kf1 : KeepF (fun b => b = h1.next ∨ litF [55] h5.next b) hl6 h7 := fun b hb => by
      rcases hb with rfl | rfl | hb
      · exact w7.get _ (by omega) (by omega)
      · exact w7.get _ (by omega) (by omega)
      · exact hb.elim
    have kf2 : KeepF (fun b => b = h1.next ∨ litF [55] h5.next b) h7 h8 := fun b hb => by
      rcases hb with rfl | rfl | hb
      · exact w8.get _ (by omega) (by omega)
      · exact w8.get _ (by omega) (by omega)
      · exact hb.elim
    have lnL : L.length = ln := hln.symm
    try simp (disch := first | omega | (simp; done) | fail) [wrap64c, if_pos, if_neg, opAnd, opOr, opXor, opDiff, opShr, opBit, ntb, csb, hu2, hu1, hu1', gs2, gs3, gs5, hne1, hne2, hne3, c0', c1', hr7']
    refine WD_softC [48,51] [55] [([.int .i64 (-1), .int .i64 0, .int .i64 3, .int .i64 128, .int .i64 4611686018427387904], 1)] (fun b => b = h1.next) rfl (by kernel_rfl) (by kernel_rfl) rfl ?_
    simp only [allocL_c, allocL_n]
    rw [← hl6E]
    have gs6' := gs6
    try simp (disch := first | omega | (simp; done) | fail) [wrap64c, if_pos, if_neg, opAnd, opOr, opXor, opDiff, opShr, opBit, ntb, csb, hu2, hu1, hu1', gs2, gs3, gs5, hne1, hne2, hne3, c0', c1', hr7', gs6', g6, n6, g7]
    refine callS_c (by simp) (by simp) ?ha (p7) ?hkf ?_
    (case ha => simp (disch := first | omega | (simp; done) | fail) [wrap64c, if_pos, if_neg, opAnd, opOr, opXor, opDiff, opShr, opBit, ntb, csb, hu2, hu1, hu1', gs2, gs3, gs5, hne1, hne2, hne3, c0', c1', hr7', gs6', g6, n6, g7])
    (case hkf => assumption)
    try simp (disch := first | omega | (simp; done) | fail) [wrap64c, if_pos, if_neg, opAnd, opOr, opXor, opDiff, opShr, opBit, ntb, csb, hu2, hu1, hu1', gs2, gs3, gs5, hne1, hne2, hne3, c0', c1', hr7', gs6', g6, n6, g7]
    refine callS_c (by simp) (by simp) ?ha (p8) ?hkf ?_
    (case ha => simp (disch := first | omega | (simp; done) | fail) [wrap64c, if_pos, if_neg, opAnd, opOr, opXor, opDiff, opShr, opBit, ntb, csb, hu2, hu1, hu1', gs2, gs3, gs5, hne1, hne2, hne3, c0', c1', hr7', gs6', g6, n6, g7])
    (case hkf => assumption)
    have gs8' := gs8
    have lnL' := lnL
    try simp (disch := first | omega | (simp; done) | fail) [wrap64c, if_pos, if_neg, opAnd, opOr, opXor, opDiff, opShr, opBit, ntb, csb, hu2, hu1, hu1', gs2, gs3, gs5, hne1, hne2, hne3, c0', c1', hr7', gs6', g6, n6, g7, gs8', gr8, z8, lnL']
    obtain ⟨h9, h9E⟩ : ∃ hz, hz = h8.put oq (.cells (putCells ((toN L).map (.int .i64)) r7 [.int .i64 x8]) true eq_ 1) := ⟨_, rfl⟩
    have d9 : DrW hB o (k + 200 + 2 + 2 + 2) h h9 := by rw [h9E]; exact d8.put hA hbo.2 (by omega) _ _ _
    rw [← h9E]
    have hI := subF (F := fun x => h.next < x) (h := h9) (o := oq) (xs := (toN L).set r7 x8) (own := true) (ex := eq_) (es := 1) (by rw [h9E, putI (by omega)]; simp) (by rw [h9E]; simp; omega) (by omega) (n := ln) (c := ln) (by simp; omega) (Nat.le_refl _) (by omega)
    obtain ⟨f1, f2⟩ := fin_spaceI hA hbo.2 d9 hI (show k + 200 + 2 + 2 + 2 ≤ k + 300 by omega) [.int .i64 (n : Int), .slice (some ⟨oq, 0, none⟩) ln ln] true 1
    exact done_ret (vs := [.agg #[.int .i64 (n : Int), .slice (some ⟨oq, 0, none⟩) ln ln]]) (by simp [resL]) ⟨f1, _, _, ⟨_, rfl, f2⟩, by simp; omega⟩
  have c2' : ¬ (r5 : Int) = 2 := by omega
  have gr5' := gr5
  try simp (disch := first | omega | (simp; done) | fail) [wrap64c, if_pos, if_neg, opAnd, opOr, opXor, opDiff, opShr, opBit, ntb, csb, hu2, hu1, hu1', gs2, gs3, gs5, hne1, hne2, hne3, c0', c1', c2', gr5']
  have hI := subF (F := fun x => h.next < x) (h := h5) (o := oq) (xs := toN L) (own := true) (ex := eq_) (es := 1) z5 (by omega) (by omega) (n := ln) (c := ln) (by omega) (Nat.le_refl _) (by omega)
  obtain ⟨f1, f2⟩ := fin_spaceI hA hbo.2 d5 hI (show k + 200 + 2 ≤ k + 300 by omega) [.int .i64 (n : Int), .slice (some ⟨oq, 0, none⟩) ln ln] true 1
  exact done_ret (vs := [.agg #[.int .i64 (n : Int), .slice (some ⟨oq, 0, none⟩) ln ln]]) (by simp [resL]) ⟨f1, _, _, ⟨_, rfl, f2⟩, by simp; omega⟩
end Go.Proofs.Ytnncipcldbopgaa
namespace Go.Proofs.Ytnncipcldbopgaa
set_option linter.unusedSimpArgs false
set_option linter.unusedVariables false
set_option maxHeartbeats 4000000
open Go Go.Eng
attribute [local irreducible] WD RunD PreD Runs CallOK
theorem mostD_ok (h : Hp) (a b : Int) : CallOK Try.prog 173 #[.int .i64 a, .int .i64 b] h (.int .i64 (if b < a then a else b)) h := by
  refine callY_P 10 _ [.tmp 4] Try.func173 rfl rfl rfl (by first | rfl | simp) ?_
  by_cases hc : b < a
  · try simp (disch := first | omega | (simp; done) | fail) [wrap64c, if_pos, if_neg, opAnd, opOr, opXor, opDiff, opShr, opBit, hc]
    exact done_ret rfl (by simp [hc])
  · try simp (disch := first | omega | (simp; done) | fail) [wrap64c, if_pos, if_neg, opAnd, opOr, opXor, opDiff, opShr, opBit, hc]
    exact done_ret rfl (by simp [hc])
theorem leastD_ok (h : Hp) (a b : Int) : CallOK Try.prog 194 #[.int .i64 a, .int .i64 b] h (.int .i64 (if a < b then a else b)) h := by
  refine callY_P 10 _ [.tmp 4] Try.func194 rfl rfl rfl (by first | rfl | simp) ?_
  by_cases hc : a < b
  · try simp (disch := first | omega | (simp; done) | fail) [wrap64c, if_pos, if_neg, opAnd, opOr, opXor, opDiff, opShr, opBit, hc]
    exact done_ret rfl (by simp [hc])
  · try simp (disch := first | omega | (simp; done) | fail) [wrap64c, if_pos, if_neg, opAnd, opOr, opXor, opDiff, opShr, opBit, hc]
    exact done_ret rfl (by simp [hc])
end Go.Proofs.Ytnncipcldbopgaa
namespace Go.Proofs.Ytnncipcldbopgaa
set_option linter.unusedSimpArgs false
set_option linter.unusedVariables false
set_option maxHeartbeats 4000000
open Go Go.Eng
attribute [local irreducible] WD RunD PreD Runs CallOK
theorem bytes_old {h : Hp} {v : Value} {xs : List Int} (hs : Bytes h v xs) : BytesF h.next h v xs := by
  obtain ⟨s, c, e, hc, hc', hx⟩ := hs
  exact ⟨s, c, e, hc, hc', fun k x hk => let ⟨o, i, cs, own, ex, es, h1, h2, h3, h4, h5⟩ := hx k x hk; ⟨o, i, cs, own, ex, es, h1, h2, h2, h3, h4, h5⟩⟩
theorem big_ok (h : Hp) (v w : Value) (xs ys : List Int) (hv : Bytes h v xs) (hw : Bytes h w ys) : CallOK Try.prog 11 #[v, w] h (.bool (decide (1048576 < xs.length ∨ 1048576 - (xs.length : Int) < ys.length))) h := by
  refine callY_P 16 _ [.tmp 4] Try.func11 rfl rfl rfl (by first | rfl | simp) ?_
  have hL := hv.lenD
  have hM := hw.lenD
  have l1 := hv.len
  have l2 := hw.len
  by_cases c1 : 1048576 < xs.length
  · have c1' : (1048576 : Int) < (xs.length : Int) := by omega
    try simp (disch := first | omega | (simp; done) | fail) [wrap64c, if_pos, if_neg, hL, hM, c1']
    exact done_ret rfl (by simp [c1])
  · have c1' : ¬ (1048576 : Int) < (xs.length : Int) := by omega
    by_cases c2 : 1048576 - (xs.length : Int) < ys.length
    · try simp (disch := first | omega | (simp; done) | fail) [wrap64c, if_pos, if_neg, hL, hM, c1', c2]
      exact done_ret rfl (by simp [c2])
    · try simp (disch := first | omega | (simp; done) | fail) [wrap64c, if_pos, if_neg, hL, hM, c1', c2]
      exact done_ret rfl (by simp [c1, c2])
theorem iSame_ok (h : Hp) (v w : Value) (X Y : List Int) (hv : Ints h v X) (hw : Ints h w Y) : CallOK Try.prog 94 #[v, w] h (.bool (decide (X = Y))) h := by
  refine callY_P 26 _ [.tmp 4] Try.func94 rfl rfl rfl (by first | rfl | simp) ?_
  have hL := hv.lenD
  have hM := hw.lenD
  have hlx := hv.len
  have hly := hw.len
  by_cases hl : X.length = Y.length
  · have hlb : ((X.length : Int) != (Y.length : Int)) = false := by simp [hl]
    try simp (disch := first | omega | (simp; done) | fail) [wrap64c, if_pos, if_neg, hL, hM, hlb]
    refine WD_loopC [0, 1, 12] (fun m tm h' => ∃ j, m = X.length - j ∧ h = h' ∧ tm 13 = .int .i64 (j : Int) ∧ (j ≤ X.length) ∧ (∀ i (h1 : i < X.length) (h2 : i < Y.length), i < j → X[i] = Y[i])) _ ⟨0, rfl, rfl, (by simp (disch := first | omega | (simp; done) | fail) [wrap64c, if_pos, if_neg, hL, hM, hlb]), (by first | omega | assumption | (simp (disch := first | omega | (simp; done) | fail) [wrap64c, if_pos, if_neg, hL, hM, hlb] <;> omega)), (by intro i h1 h2 h3; omega)⟩ ?_
    rintro m tm h' hFr ⟨j, rfl, rfl, e13, hj, hx⟩
    simp only [FrameL] at hFr
    obtain ⟨f0_0, f1_0, f12_0, -⟩ := hFr
    try simp (disch := first | omega | (simp; done) | fail) [wrap64c, if_pos, if_neg, hL, hM, hlb] at f0_0 f1_0 f12_0
    have e0 := f0_0
    have e1 := f1_0
    have e12 := f12_0
    by_cases hlt : j < X.length
    · have hlt2 : j < Y.length := by omega
      obtain ⟨o_x, i_x, c_x, cs_x, own_x, ex_x, es_x, q_x, b_x, g_x, l_x, r_x⟩ := hv.open ((by omega))
      have z_x : ∀ h2 : i_x < cs_x.length, cs_x[i_x] = _ := fun h2 => r_x 0 ((by omega)) h2
      obtain ⟨o_y, i_y, c_y, cs_y, own_y, ex_y, es_y, q_y, b_y, g_y, l_y, r_y⟩ := hw.open ((by omega))
      have z_y : ∀ h2 : i_y < cs_y.length, cs_y[i_y] = _ := fun h2 => r_y 0 ((by omega)) h2
      try simp (disch := first | omega | (simp; done) | fail) [wrap64c, if_pos, if_neg, hL, hM, hlb, e0, e1, e12, e13, hlt, hlt2, q_x, g_x, l_x, r_x, z_x, q_y, g_y, l_y, r_y, z_y]
      refine WD_drawC 8 rfl (by kernel_rfl) ?_
      by_cases he : X[j] = Y[j]
      · have hb : (X[j] != Y[j]) = false := by simp [he]
        try simp (disch := first | omega | (simp; done) | fail) [wrap64c, if_pos, if_neg, hL, hM, hlb, e0, e1, e12, e13, hlt, hlt2, q_x, g_x, l_x, r_x, z_x, q_y, g_y, l_y, r_y, z_y, hb]
        refine loopK_next _ ?hm ?hf ⟨j + 1, rfl, rfl, (by simp (disch := first | omega | (simp; done) | fail) [wrap64c, if_pos, if_neg, hL, hM, hlb, e0, e1, e12, e13, hlt, hlt2, q_x, g_x, l_x, r_x, z_x, q_y, g_y, l_y, r_y, z_y] <;> omega), (by first | omega | assumption | (simp (disch := first | omega | (simp; done) | fail) [wrap64c, if_pos, if_neg, hL, hM, hlb, e0, e1, e12, e13, hlt, hlt2, q_x, g_x, l_x, r_x, z_x, q_y, g_y, l_y, r_y, z_y] <;> omega)), ?c_hx⟩
        (case hm => first | omega | (simp; omega))
        (case hf => simp [FrameL, hL, hM, hlb, e0, e1, e12, e13, hlt, hlt2, q_x, g_x, l_x, r_x, z_x, q_y, g_y, l_y, r_y, z_y, f0_0, f1_0, f12_0])
        case c_hx =>
          exact (fun i h1 h2 hi => by
            by_cases e : i = j
            · subst e; exact he
            · exact hx i h1 h2 (by omega))
      · have hb : (X[j] != Y[j]) = true := by simp [he]
        have hne : ¬ X = Y := fun e => he (by subst e; rfl)
        try simp (disch := first | omega | (simp; done) | fail) [wrap64c, if_pos, if_neg, hL, hM, hlb, e0, e1, e12, e13, hlt, hlt2, q_x, g_x, l_x, r_x, z_x, q_y, g_y, l_y, r_y, z_y, hb]
        exact done_ret rfl (by simp [hne])
    · try simp (disch := first | omega | (simp; done) | fail) [wrap64c, if_pos, if_neg, hL, hM, hlb, e0, e1, e12, e13, hlt]
      have e : X = Y := List.ext_getElem hl fun i h1 h2 => hx i h1 h2 (by omega)
      exact done_ret rfl (by simp [e])
  · have hlb : ((X.length : Int) != (Y.length : Int)) = true := by simp; omega
    have hne : ¬ X = Y := fun e => hl (by rw [e])
    try simp (disch := first | omega | (simp; done) | fail) [wrap64c, if_pos, if_neg, hL, hM, hlb]
    exact done_ret rfl (by simp [hne])
end Go.Proofs.Ytnncipcldbopgaa
namespace Go.Proofs.Ytnncipcldbopgaa
set_option linter.unusedSimpArgs false
set_option linter.unusedVariables false
set_option maxHeartbeats 4000000
open Go Go.Eng
attribute [local irreducible] WD RunD PreD Runs CallOK
def greatF (y : Nat) : List Nat → Nat → Nat
  | [], o => o
  | x :: l, o => greatF y l (if ndiff x y = 0 then nOr o x else o)
def greatN (xs : List Nat) (y : Nat) : Nat := greatF y xs 0
def hullN (n : Nat) (xs : List Nat) (s : Nat) : Nat := ndiff (bit n - 1) (greatN xs (ndiff (bit n - 1) s))
def outHull (n : Nat) (xs : List Nat) (s i : Nat) : Bool := !(hullN n xs (ndiff s (bit i))).testBit i
def extN (n : Nat) (xs : List Nat) (s : Nat) : Nat := maskL (outHull n xs s) (itemsN s) 0
def isFreeN (n : Nat) (xs : List Nat) (a : Nat) : Bool := fam xs (ndiff (bit n - 1) a) && (outerN (fam xs) n (ndiff (bit n - 1) a) == a)
def freeK (n : Nat) (xs : List Nat) (k : Nat) : List Nat := (List.range k).filter (isFreeN n xs)
def freeN (n : Nat) (xs : List Nat) : List Nat := freeK n xs (bit n)
end Go.Proofs.Ytnncipcldbopgaa
namespace Go.Proofs.Ytnncipcldbopgaa
set_option linter.unusedSimpArgs false
set_option linter.unusedVariables false
set_option maxHeartbeats 4000000
open Go Go.Eng
attribute [local irreducible] WD RunD PreD Runs CallOK
noncomputable def inB (N : Int) (X : List Int) (a : Int) : Bool := spB N X && setB N.toNat a
noncomputable def outerR (N : Int) (X : List Int) (a : Int) : Int := if oneB N X a = true then ((outerN (fam (natsOf X)) N.toNat a.toNat : Nat) : Int) else 0
noncomputable def innerR (N : Int) (X : List Int) (a : Int) : Int := if oneB N X a = true then ((innerN (fam (natsOf X)) a.toNat : Nat) : Int) else 0
noncomputable def greatR (N : Int) (X : List Int) (a : Int) : Int := if inB N X a = true then ((greatN (natsOf X) a.toNat : Nat) : Int) else 0
theorem SpGood.l128 {n : Nat} {xs : List Nat} (g : SpGood n xs) : ∀ x ∈ xs, x < 128 := fun x hx => by have := g.lt x hx; have := bit7 g.n7; omega
theorem implOuter_ok (h : Hp) (v : Value) (N : Int) (X : List Int) (a : Int) (hv : Space h v N X) (hl : X.length < 2 ^ 40) : CallOK Try.prog 13 #[v, .int .i64 a] h (.tuple #[.int .i64 (outerR N X a), .bool (oneB N X a)]) h := by
  refine callY_P 14 _ [.tmp 4, .tmp 5] Try.func13 rfl rfl rfl (by first | rfl | simp) ?_
  obtain ⟨b, rfl, hX⟩ := hv
  refine WD_first ?_
  try simp (disch := first | omega | (simp; done) | fail) [wrap64c, if_pos, if_neg, opAnd, opOr, opXor, opDiff, opShr, opBit]
  refine stopK_heap fun h0 q_h0 => ?_
  refine stopK_go ?_
  have g_h0 : h0.get h.next = .cells [.int .i64 N, b] true true 1 := by simp [q_h0]
  have k_h0 : Adds h h0 := by rw [q_h0]; exact (by first | exact aK | exact kK)
  have n_h0 : h.next < h0.next := by simp [q_h0]; try omega
  have hX0 := hX.keep k_h0.1
  have K0 := k_h0.1
  try simp (disch := first | omega | (simp; done) | fail) [wrap64c, if_pos, if_neg, opAnd, opOr, opXor, opDiff, opShr, opBit, g_h0]
  refine callG_c (by simp) (by simp) ?ha (isKnown_ok h0 (.agg #[.int .i64 N, b]) N X a (.mk hX0) hl) ?_
  (case ha => simp (disch := first | omega | (simp; done) | fail) [wrap64c, if_pos, if_neg, opAnd, opOr, opXor, opDiff, opShr, opBit, g_h0])
  cases c1 : oneB N X a
  · try simp (disch := first | omega | (simp; done) | fail) [wrap64c, if_pos, if_neg, opAnd, opOr, opXor, opDiff, opShr, opBit, g_h0, c1]
    exact done_ret rfl (by simp [outerR, c1, K0])
  · obtain ⟨n, xs, x, hN, hXe, ha, g, hx⟩ := oneB_true c1
    subst hN hXe ha
    have x128 := g.l128 x hx
    obtain ⟨_, h1, p1, o1, rfl, a1, b1, b2, q1⟩ := family_ok h0 (.agg #[.int .i64 n, b]) n xs (.mk hX0) g.l128 (by simpa using hl)
    have K1 := K0.trans a1.1
    try simp (disch := first | omega | (simp; done) | fail) [wrap64c, if_pos, if_neg, opAnd, opOr, opXor, opDiff, opShr, opBit, g_h0, c1]
    refine callG_c (by simp) (by simp) ?ha (p1) ?_
    (case ha => simp (disch := first | omega | (simp; done) | fail) [wrap64c, if_pos, if_neg, opAnd, opOr, opXor, opDiff, opShr, opBit, g_h0, c1])
    try simp (disch := first | omega | (simp; done) | fail) [wrap64c, if_pos, if_neg, opAnd, opOr, opXor, opDiff, opShr, opBit, g_h0, c1]
    refine callG_c (by simp) (by simp) ?ha (imOuter_ok h1 o1 (fam xs) _ _ _ x b2 q1 x128) ?_
    (case ha => simp (disch := first | omega | (simp; done) | fail) [wrap64c, if_pos, if_neg, opAnd, opOr, opXor, opDiff, opShr, opBit, g_h0, c1])
    try simp (disch := first | omega | (simp; done) | fail) [wrap64c, if_pos, if_neg, opAnd, opOr, opXor, opDiff, opShr, opBit, g_h0, c1]
    exact done_ret rfl (by simp [outerR, c1, K1, g.outer7])
end Go.Proofs.Ytnncipcldbopgaa
namespace Go.Proofs.Ytnncipcldbopgaa
set_option linter.unusedSimpArgs false
set_option linter.unusedVariables false
set_option maxHeartbeats 4000000
open Go Go.Eng
attribute [local irreducible] WD RunD PreD Runs CallOK
end Go.Proofs.Ytnncipcldbopgaa
namespace Go.Proofs.Ytnncipcldbopgaa
set_option linter.unusedSimpArgs false
set_option linter.unusedVariables false
set_option maxHeartbeats 4000000
open Go Go.Eng
attribute [local irreducible] WD RunD PreD Runs CallOK
def Desk (h : Hp) (v : Value) (N : Int) (X : List Int) (D : Int) : Prop := ∃ b, v = .agg #[.int .i64 N, b, .int .i64 D] ∧ Ints h b X
def DeskO (S : Nat → Prop) (h : Hp) (v : Value) (N : Int) (X : List Int) (D : Int) : Prop := ∃ b, v = .agg #[.int .i64 N, b, .int .i64 D] ∧ IntsO S h b X
def desk0 : List Int := [0, 1, 2, 3, 5, 6, 7]
end Go.Proofs.Ytnncipcldbopgaa
namespace Go.Eng
open Go.ChangeShapes Go.WideShapes Go.Deep
structure Job where
  ti : Int
  ra : Int
  ba : Int
instance : Inhabited Job := ⟨⟨0, 0, 0⟩⟩
def jobL (j : Job) : List Value := [.int .i64 j.ti, .int .i64 j.ra, .int .i64 j.ba]
def jobV (j : Job) : Value := .agg #[.int .i64 j.ti, .int .i64 j.ra, .int .i64 j.ba]
def jobsL (L : List Job) : List Value := L.flatMap jobL
def Jobs (h : Hp) (v : Value) (L : List Job) : Prop :=
  ∃ s c, v = .slice s L.length c ∧ L.length ≤ c ∧ c < 2 ^ 63 ∧ (L.length = 0 ∨ ∃ o i cs own ex es, s = some ⟨o, i, none⟩ ∧ o < h.next ∧ h.get o = .cells cs own ex es ∧ i + 3 * L.length ≤ cs.length ∧
    ∀ k (hk : k < L.length), cs[i + 3 * k]? = some (.int .i64 L[k].ti) ∧ cs[i + 3 * k + 1]? = some (.int .i64 L[k].ra) ∧ cs[i + 3 * k + 2]? = some (.int .i64 L[k].ba))
theorem Jobs.form {h : Hp} {v : Value} {L : List Job} (hs : Jobs h v L) : ∃ s c, v = .slice s L.length c ∧ L.length ≤ c ∧ c < 2 ^ 63 := by
  obtain ⟨s, c, e, h1, h2, _⟩ := hs; exact ⟨s, c, e, h1, h2⟩
theorem Jobs.keep {h h' : Hp} (k : Keeps h h') {v : Value} {L : List Job} (hs : Jobs h v L) : Jobs h' v L := by
  obtain ⟨s, c, e, h1, h2, h3⟩ := hs
  refine ⟨s, c, e, h1, h2, h3.imp id ?_⟩
  rintro ⟨o, i, cs, own, ex, es, g1, g2, g3, g4⟩
  exact ⟨o, i, cs, own, ex, es, g1, Nat.lt_of_lt_of_le g2 k.1, by rw [k.2 o g2]; exact g3, g4⟩
theorem Jobs.lenD {h : Hp} {v : Value} {L : List Job} (hs : Jobs h v L) : ∀ (P : Program) (t : TypeId), Go.Eng.lenD P t v = (elT P t).map fun _ => .int .i64 L.length := by
  obtain ⟨s, c, rfl, _⟩ := hs.form
  intro P t
  simp only [Go.Eng.lenD]
  cases elT P t <;> rfl
theorem Jobs.nt {h : Hp} {v : Value} {L : List Job} (hs : Jobs h v L) : notTup v = true := by obtain ⟨s, c, rfl, _⟩ := hs.form; rfl
theorem Jobs.cs {h : Hp} {v : Value} {L : List Job} (hs : Jobs h v L) : v.cells = #[v] := by obtain ⟨s, c, rfl, _⟩ := hs.form; rfl
def jobAt (L : List Job) (k : Nat) : Job := L.getD k default
theorem jobAt_eq {L : List Job} {k : Nat} (h : k < L.length) : jobAt L k = L[k] := by simp [jobAt, h]
theorem Jobs.open {h : Hp} {v : Value} {L : List Job} (hs : Jobs h v L) (hne : 0 < L.length) :
    ∃ o i c cs own ex es, v = .slice (some ⟨o, i, none⟩) L.length c ∧ o < h.next ∧ h.get o = .cells cs own ex es ∧ i + L.length * 3 ≤ cs.length ∧
      (∀ k, k < L.length → (cs.drop (i + k * 3)).take 3 = jobL (jobAt L k)) ∧ (∀ k, k < L.length → cs[i + k * 3]? = some (.int .i64 (jobAt L k).ti)) ∧ (∀ k, k < L.length → cs[i + k * 3 + 1]? = some (.int .i64 (jobAt L k).ra)) ∧ (∀ k, k < L.length → cs[i + k * 3 + 2]? = some (.int .i64 (jobAt L k).ba)) ∧
      (∀ k, k < L.length → ∀ h2 : i + k * 3 < cs.length, cs[i + k * 3] = .int .i64 (jobAt L k).ti) ∧ (∀ k, k < L.length → ∀ h2 : i + k * 3 + 1 < cs.length, cs[i + k * 3 + 1] = .int .i64 (jobAt L k).ra) ∧ (∀ k, k < L.length → ∀ h2 : i + k * 3 + 2 < cs.length, cs[i + k * 3 + 2] = .int .i64 (jobAt L k).ba) := by
  obtain ⟨s, c, e, h1, h2, h3⟩ := hs
  rcases h3 with h3 | ⟨o, i, cs, own, ex, es, g1, g2, g3, g4, g5⟩
  · omega
  · have g6 : ∀ k, k < L.length → cs[i + k * 3]? = some (.int .i64 (jobAt L k).ti) ∧ cs[i + k * 3 + 1]? = some (.int .i64 (jobAt L k).ra) ∧ cs[i + k * 3 + 2]? = some (.int .i64 (jobAt L k).ba) := by
      intro k hk
      have := g5 k hk
      rw [Nat.mul_comm] at this
      rw [jobAt_eq hk]
      exact this
    refine ⟨o, i, c, cs, own, ex, es, by rw [e, g1], g2, g3, by omega, fun k hk => ?_, fun k hk => (g6 k hk).1, fun k hk => (g6 k hk).2.1, fun k hk => (g6 k hk).2.2, fun k hk h2 => ?_, fun k hk h2 => ?_, fun k hk h2 => ?_⟩ <;> obtain ⟨a, b, d⟩ := g6 k hk
    · apply List.ext_getElem?
      intro j
      rw [List.getElem?_take]
      by_cases hj : j < 3
      · rw [if_pos hj, List.getElem?_drop]
        match j, hj with
        | 0, _ => simpa [jobL] using a
        | 1, _ => simpa [jobL] using b
        | 2, _ => simpa [jobL] using d
      · rw [if_neg hj]; simp [jobL]; omega
    · rw [List.getElem?_eq_getElem h2] at a; exact Option.some.inj a
    · rw [List.getElem?_eq_getElem h2] at b; exact Option.some.inj b
    · rw [List.getElem?_eq_getElem h2] at d; exact Option.some.inj d
theorem Jobs.nil (h : Hp) : Jobs h (.slice none 0 0) [] := ⟨none, 0, rfl, Nat.le_refl _, by decide, .inl rfl⟩
def jobsC (L : List Job) (j : Nat) : List Value := jobsL (L.take j) ++ List.replicate (3 * (L.length - j)) (.int .i64 0)
section
variable {H : Type} {enc : TypeId × Value → H} {P : Program} {W : World} {base : Nat} {held : Bool} {E : Emb} {h : Hp}
end
end Go.Eng
namespace Go.Proofs.Ytnncipcldbopgaa
set_option linter.unusedSimpArgs false
set_option linter.unusedVariables false
set_option maxHeartbeats 4000000
open Go Go.Eng
attribute [local irreducible] WD RunD PreD Runs CallOK
def szJ (k : Int) (L : List Job) : Int := if k - (L.length : Int) < 0 then -1 else k - L.length
noncomputable def eqJ (L M : List Job) : Bool := @decide (L = M) (Classical.propDecidable _)
def jobOK (j : Job) : Bool := decide ((1 ≤ j.ti ∧ j.ti ≤ 9) ∧ (0 ≤ j.ra ∧ j.ra ≤ 9) ∧ (-100 ≤ j.ba ∧ j.ba ≤ 100))
def jobsB (L : List Job) (N : Int) : Bool := sizeB N && decide ((L.length : Int) = N) && decide (∀ k, k < L.length → jobOK (jobAt L k) = true)
theorem jobOK_true {j : Job} (h : jobOK j = true) : (1 ≤ j.ti ∧ j.ti ≤ 9) ∧ (0 ≤ j.ra ∧ j.ra ≤ 9) ∧ (-100 ≤ j.ba ∧ j.ba ≤ 100) := of_decide_eq_true h
theorem jobsB_true {L : List Job} {N : Int} (h : jobsB L N = true) : sizeB N = true ∧ (L.length : Int) = N ∧ ∀ k, k < L.length → jobOK (jobAt L k) = true := by
  unfold jobsB at h
  simp only [Bool.and_eq_true, decide_eq_true_eq] at h
  exact ⟨h.1.1, h.1.2, h.2⟩
theorem jobsB_of {L : List Job} {N : Int} (h1 : sizeB N = true) (h2 : (L.length : Int) = N) (h3 : ∀ k, k < L.length → jobOK (jobAt L k) = true) : jobsB L N = true := by
  unfold jobsB
  simp only [Bool.and_eq_true, decide_eq_true_eq]
  exact ⟨⟨h1, h2⟩, h3⟩
theorem jobsB_no {L : List Job} {N : Int} (h : (sizeB N = true → (L.length : Int) = N → (∀ k, k < L.length → jobOK (jobAt L k) = true) → False)) : jobsB L N = false := by
  cases hb : jobsB L N
  · rfl
  · obtain ⟨h1, h2, h3⟩ := jobsB_true hb
    exact (h h1 h2 h3).elim
theorem jobBad_ok (h : Hp) (t r b : Int) : CallOK Try.prog 191 #[.agg #[.int .i64 t, .int .i64 r, .int .i64 b]] h (.bool (!jobOK ⟨t, r, b⟩)) h := by
  refine callY_P 19 _ [.tmp 2] Try.func191 rfl rfl rfl (by first | rfl | simp) ?_
  refine WD_first ?_
  try simp (disch := first | omega | (simp; done) | fail) [wrap64c, if_pos, if_neg, opAnd, opOr, opXor, opDiff, opShr, opBit]
  refine stopK_heap fun h0 q_h0 => ?_
  refine stopK_go ?_
  have g_h0 : h0.get h.next = .cells [.int .i64 t, .int .i64 r, .int .i64 b] true true 1 := by simp [q_h0]
  have k_h0 : Adds h h0 := by rw [q_h0]; exact (by first | exact aK | exact kK)
  have n_h0 : h.next < h0.next := by simp [q_h0]; try omega
  have K0 := k_h0.1
  try simp (disch := first | omega | (simp; done) | fail) [wrap64c, if_pos, if_neg, opAnd, opOr, opXor, opDiff, opShr, opBit, g_h0]
  refine callG_c (by simp) (by simp) ?ha (within_ok h0 t 1 9) ?_
  (case ha => simp (disch := first | omega | (simp; done) | fail) [wrap64c, if_pos, if_neg, opAnd, opOr, opXor, opDiff, opShr, opBit, g_h0])
  by_cases c1 : 1 ≤ t ∧ t ≤ 9
  · have d1 := decide_eq_true c1
    try simp (disch := first | omega | (simp; done) | fail) [wrap64c, if_pos, if_neg, opAnd, opOr, opXor, opDiff, opShr, opBit, g_h0, d1]
    refine callG_c (by simp) (by simp) ?ha (within_ok h0 r 0 9) ?_
    (case ha => simp (disch := first | omega | (simp; done) | fail) [wrap64c, if_pos, if_neg, opAnd, opOr, opXor, opDiff, opShr, opBit, g_h0, d1])
    by_cases c2 : 0 ≤ r ∧ r ≤ 9
    · have d2 := decide_eq_true c2
      try simp (disch := first | omega | (simp; done) | fail) [wrap64c, if_pos, if_neg, opAnd, opOr, opXor, opDiff, opShr, opBit, g_h0, d1, d2]
      refine callG_c (by simp) (by simp) ?ha (within_ok h0 b (-100) 100) ?_
      (case ha => simp (disch := first | omega | (simp; done) | fail) [wrap64c, if_pos, if_neg, opAnd, opOr, opXor, opDiff, opShr, opBit, g_h0, d1, d2])
      by_cases c3 : -100 ≤ b ∧ b ≤ 100
      · have d3 := decide_eq_true c3
        have hj : jobOK ⟨t, r, b⟩ = true := decide_eq_true ⟨c1, c2, c3⟩
        try simp (disch := first | omega | (simp; done) | fail) [wrap64c, if_pos, if_neg, opAnd, opOr, opXor, opDiff, opShr, opBit, g_h0, d1, d2, d3]
        exact done_ret rfl (by simp [hj, K0])
      · have d3 := decide_eq_false c3
        have hj : jobOK ⟨t, r, b⟩ = false := decide_eq_false fun e => c3 e.2.2
        try simp (disch := first | omega | (simp; done) | fail) [wrap64c, if_pos, if_neg, opAnd, opOr, opXor, opDiff, opShr, opBit, g_h0, d1, d2, d3]
        exact done_ret rfl (by simp [hj, K0])
    · have d2 := decide_eq_false c2
      have hj : jobOK ⟨t, r, b⟩ = false := decide_eq_false fun e => c2 e.2.1
      try simp (disch := first | omega | (simp; done) | fail) [wrap64c, if_pos, if_neg, opAnd, opOr, opXor, opDiff, opShr, opBit, g_h0, d1, d2]
      exact done_ret rfl (by simp [hj, K0])
  · have d1 := decide_eq_false c1
    have hj : jobOK ⟨t, r, b⟩ = false := decide_eq_false fun e => c1 e.1
    try simp (disch := first | omega | (simp; done) | fail) [wrap64c, if_pos, if_neg, opAnd, opOr, opXor, opDiff, opShr, opBit, g_h0, d1]
    exact done_ret rfl (by simp [hj, K0])
theorem indexJobs_ok (h : Hp) (v : Value) (L : List Job) (hv : Jobs h v L) :
    ∃ r : Int, CallOK Try.prog 244 #[v, .func (.func 191) #[] #[]] h (.int .i64 r) h ∧ ((0 ≤ r) ↔ ¬ ∀ k, k < L.length → jobOK (jobAt L k) = true) := by
  by_cases hall : ∀ k, k < L.length → jobOK (jobAt L k) = true
  · refine ⟨-1, ?_, by simp [hall]; omega⟩
    refine callY_P 19 _ [.tmp 4] Try.func244 rfl rfl rfl (by first | rfl | simp) ?_
    have hL := hv.lenD
    obtain ⟨s, c, hform, hlc, hcc⟩ := hv.form
    try simp (disch := first | omega | (simp; done) | fail) [wrap64c, if_pos, if_neg, opAnd, opOr, opXor, opDiff, opShr, opBit, hL]
    refine WD_loopC [0, 1, 7] (fun m tm h' => ∃ j, m = L.length - j ∧ h = h' ∧ tm 8 = .int .i64 (j : Int) ∧ (j ≤ L.length)) _ ⟨0, rfl, rfl, (by simp (disch := first | omega | (simp; done) | fail) [wrap64c, if_pos, if_neg, opAnd, opOr, opXor, opDiff, opShr, opBit, hL]), (by first | omega | assumption | (simp (disch := first | omega | (simp; done) | fail) [wrap64c, if_pos, if_neg, opAnd, opOr, opXor, opDiff, opShr, opBit, hL] <;> omega))⟩ ?_
    rintro m tm h' hFr ⟨j, rfl, rfl, e8, hj⟩
    simp only [FrameL] at hFr
    obtain ⟨f0_0, f1_0, f7_0, -⟩ := hFr
    try simp (disch := first | omega | (simp; done) | fail) [wrap64c, if_pos, if_neg, opAnd, opOr, opXor, opDiff, opShr, opBit, hL] at f0_0 f1_0 f7_0
    have e0 := f0_0
    have e1 := f1_0
    have e7 := f7_0
    by_cases hlt : j < L.length
    · obtain ⟨o_x, i_x, c_x, cs_x, own_x, ex_x, es_x, q_x, b_x, g_x, l_x, r_x, s_x, t_x, u_x, ra_x, rb_x, rc_x⟩ := hv.open ((by omega))
      have hk := hall j hlt
      try simp (disch := first | omega | (simp; done) | fail) [wrap64c, if_pos, if_neg, opAnd, opOr, opXor, opDiff, opShr, opBit, hL, e0, e1, e7, e8, hlt, q_x, g_x, l_x, r_x, s_x, t_x, u_x, ra_x, rb_x, rc_x, hk, jobL]
      refine callG_f (fst := #[]) (cap := #[]) (by simp) (by simp) ?hf ?hk ?ha (jobBad_ok h (jobAt L j).ti (jobAt L j).ra (jobAt L j).ba) ?_
      (case hf => simp (disch := first | omega | (simp; done) | fail) [wrap64c, if_pos, if_neg, opAnd, opOr, opXor, opDiff, opShr, opBit, hL, e0, e1, e7, e8, hlt, q_x, g_x, l_x, r_x, s_x, t_x, u_x, ra_x, rb_x, rc_x, hk, jobL]; try rfl)
      (case hk => simp (disch := first | omega | (simp; done) | fail) [wrap64c, if_pos, if_neg, opAnd, opOr, opXor, opDiff, opShr, opBit, hL, e0, e1, e7, e8, hlt, q_x, g_x, l_x, r_x, s_x, t_x, u_x, ra_x, rb_x, rc_x, hk, jobL])
      (case ha => simp (disch := first | omega | (simp; done) | fail) [wrap64c, if_pos, if_neg, opAnd, opOr, opXor, opDiff, opShr, opBit, hL, e0, e1, e7, e8, hlt, q_x, g_x, l_x, r_x, s_x, t_x, u_x, ra_x, rb_x, rc_x, hk, jobL])
      try simp (disch := first | omega | (simp; done) | fail) [wrap64c, if_pos, if_neg, opAnd, opOr, opXor, opDiff, opShr, opBit, hL, e0, e1, e7, e8, hlt, q_x, g_x, l_x, r_x, s_x, t_x, u_x, ra_x, rb_x, rc_x, hk]
      refine loopK_next _ ?hm ?hf ⟨j + 1, rfl, rfl, (by simp (disch := first | omega | (simp; done) | fail) [wrap64c, if_pos, if_neg, opAnd, opOr, opXor, opDiff, opShr, opBit, hL, e0, e1, e7, e8, hlt, q_x, g_x, l_x, r_x, s_x, t_x, u_x, ra_x, rb_x, rc_x, hk] <;> omega), (by first | omega | assumption | (simp (disch := first | omega | (simp; done) | fail) [wrap64c, if_pos, if_neg, opAnd, opOr, opXor, opDiff, opShr, opBit, hL, e0, e1, e7, e8, hlt, q_x, g_x, l_x, r_x, s_x, t_x, u_x, ra_x, rb_x, rc_x, hk] <;> omega))⟩
      (case hm => first | omega | (simp; omega))
      (case hf => simp [FrameL, hL, e0, e1, e7, e8, hlt, q_x, g_x, l_x, r_x, s_x, t_x, u_x, ra_x, rb_x, rc_x, hk, f0_0, f1_0, f7_0])
    · try simp (disch := first | omega | (simp; done) | fail) [wrap64c, if_pos, if_neg, opAnd, opOr, opXor, opDiff, opShr, opBit, hL, e0, e1, e7, e8, hlt]
      exact done_ret rfl (by simp)
  · have hex : ∃ k, k < L.length ∧ jobOK (jobAt L k) = false := by
      simp only [Classical.not_forall] at hall
      obtain ⟨k, hk, hb⟩ := hall
      exact ⟨k, hk, by simpa using hb⟩
    obtain ⟨k0, hk0, hb0⟩ := hex
    have key : ∀ k, k < L.length → jobOK (jobAt L k) = false → ∃ i, i ≤ k ∧ jobOK (jobAt L i) = false ∧ ∀ j, j < i → jobOK (jobAt L j) = true := by
      intro k
      induction k using Nat.strongRecOn with
      | _ k ih =>
        intro hk hb
        by_cases he : ∃ j, j < k ∧ jobOK (jobAt L j) = false
        · obtain ⟨j, hj, hb'⟩ := he
          obtain ⟨i, hi, h1, h2⟩ := ih j hj (by omega) hb'
          exact ⟨i, by omega, h1, h2⟩
        · exact ⟨k, Nat.le_refl _, hb, fun j hj => by
            cases hq : jobOK (jobAt L j)
            · exact (he ⟨j, hj, hq⟩).elim
            · rfl⟩
    obtain ⟨i, hi, hbi, hlo⟩ := key k0 hk0 hb0
    refine ⟨(i : Int), ?_, by simp only [hall, not_false_iff, iff_true]; omega⟩
    refine callY_P 19 _ [.tmp 4] Try.func244 rfl rfl rfl (by first | rfl | simp) ?_
    have hL := hv.lenD
    obtain ⟨s, c, hform, hlc, hcc⟩ := hv.form
    try simp (disch := first | omega | (simp; done) | fail) [wrap64c, if_pos, if_neg, opAnd, opOr, opXor, opDiff, opShr, opBit, hL]
    refine WD_loopC [0, 1, 7] (fun m tm h' => ∃ j, m = L.length - j ∧ h = h' ∧ tm 8 = .int .i64 (j : Int) ∧ (j ≤ i)) _ ⟨0, rfl, rfl, (by simp (disch := first | omega | (simp; done) | fail) [wrap64c, if_pos, if_neg, opAnd, opOr, opXor, opDiff, opShr, opBit, hL]), (by first | omega | assumption | (simp (disch := first | omega | (simp; done) | fail) [wrap64c, if_pos, if_neg, opAnd, opOr, opXor, opDiff, opShr, opBit, hL] <;> omega))⟩ ?_
    rintro m tm h' hFr ⟨j, rfl, rfl, e8, hj⟩
    simp only [FrameL] at hFr
    obtain ⟨f0_0, f1_0, f7_0, -⟩ := hFr
    try simp (disch := first | omega | (simp; done) | fail) [wrap64c, if_pos, if_neg, opAnd, opOr, opXor, opDiff, opShr, opBit, hL] at f0_0 f1_0 f7_0
    have e0 := f0_0
    have e1 := f1_0
    have e7 := f7_0
    have hlt : j < L.length := by omega
    obtain ⟨o_x, i_x, c_x, cs_x, own_x, ex_x, es_x, q_x, b_x, g_x, l_x, r_x, s_x, t_x, u_x, ra_x, rb_x, rc_x⟩ := hv.open ((by omega))
    by_cases hji : j = i
    · have hk : jobOK (jobAt L j) = false := by rw [hji]; exact hbi
      try simp (disch := first | omega | (simp; done) | fail) [wrap64c, if_pos, if_neg, opAnd, opOr, opXor, opDiff, opShr, opBit, hL, e0, e1, e7, e8, hlt, q_x, g_x, l_x, r_x, s_x, t_x, u_x, ra_x, rb_x, rc_x, hk, jobL]
      refine callG_f (fst := #[]) (cap := #[]) (by simp) (by simp) ?hf ?hk ?ha (jobBad_ok h (jobAt L j).ti (jobAt L j).ra (jobAt L j).ba) ?_
      (case hf => simp (disch := first | omega | (simp; done) | fail) [wrap64c, if_pos, if_neg, opAnd, opOr, opXor, opDiff, opShr, opBit, hL, e0, e1, e7, e8, hlt, q_x, g_x, l_x, r_x, s_x, t_x, u_x, ra_x, rb_x, rc_x, hk, jobL]; try rfl)
      (case hk => simp (disch := first | omega | (simp; done) | fail) [wrap64c, if_pos, if_neg, opAnd, opOr, opXor, opDiff, opShr, opBit, hL, e0, e1, e7, e8, hlt, q_x, g_x, l_x, r_x, s_x, t_x, u_x, ra_x, rb_x, rc_x, hk, jobL])
      (case ha => simp (disch := first | omega | (simp; done) | fail) [wrap64c, if_pos, if_neg, opAnd, opOr, opXor, opDiff, opShr, opBit, hL, e0, e1, e7, e8, hlt, q_x, g_x, l_x, r_x, s_x, t_x, u_x, ra_x, rb_x, rc_x, hk, jobL])
      try simp (disch := first | omega | (simp; done) | fail) [wrap64c, if_pos, if_neg, opAnd, opOr, opXor, opDiff, opShr, opBit, hL, e0, e1, e7, e8, hlt, q_x, g_x, l_x, r_x, s_x, t_x, u_x, ra_x, rb_x, rc_x, hk]
      exact done_ret rfl (by simp [hji])
    · have hk := hlo j (by omega)
      try simp (disch := first | omega | (simp; done) | fail) [wrap64c, if_pos, if_neg, opAnd, opOr, opXor, opDiff, opShr, opBit, hL, e0, e1, e7, e8, hlt, q_x, g_x, l_x, r_x, s_x, t_x, u_x, ra_x, rb_x, rc_x, hk, jobL]
      refine callG_f (fst := #[]) (cap := #[]) (by simp) (by simp) ?hf ?hk ?ha (jobBad_ok h (jobAt L j).ti (jobAt L j).ra (jobAt L j).ba) ?_
      (case hf => simp (disch := first | omega | (simp; done) | fail) [wrap64c, if_pos, if_neg, opAnd, opOr, opXor, opDiff, opShr, opBit, hL, e0, e1, e7, e8, hlt, q_x, g_x, l_x, r_x, s_x, t_x, u_x, ra_x, rb_x, rc_x, hk, jobL]; try rfl)
      (case hk => simp (disch := first | omega | (simp; done) | fail) [wrap64c, if_pos, if_neg, opAnd, opOr, opXor, opDiff, opShr, opBit, hL, e0, e1, e7, e8, hlt, q_x, g_x, l_x, r_x, s_x, t_x, u_x, ra_x, rb_x, rc_x, hk, jobL])
      (case ha => simp (disch := first | omega | (simp; done) | fail) [wrap64c, if_pos, if_neg, opAnd, opOr, opXor, opDiff, opShr, opBit, hL, e0, e1, e7, e8, hlt, q_x, g_x, l_x, r_x, s_x, t_x, u_x, ra_x, rb_x, rc_x, hk, jobL])
      try simp (disch := first | omega | (simp; done) | fail) [wrap64c, if_pos, if_neg, opAnd, opOr, opXor, opDiff, opShr, opBit, hL, e0, e1, e7, e8, hlt, q_x, g_x, l_x, r_x, s_x, t_x, u_x, ra_x, rb_x, rc_x, hk]
      refine loopK_next _ ?hm ?hf ⟨j + 1, rfl, rfl, (by simp (disch := first | omega | (simp; done) | fail) [wrap64c, if_pos, if_neg, opAnd, opOr, opXor, opDiff, opShr, opBit, hL, e0, e1, e7, e8, hlt, q_x, g_x, l_x, r_x, s_x, t_x, u_x, ra_x, rb_x, rc_x, hk] <;> omega), (by first | omega | assumption | (simp (disch := first | omega | (simp; done) | fail) [wrap64c, if_pos, if_neg, opAnd, opOr, opXor, opDiff, opShr, opBit, hL, e0, e1, e7, e8, hlt, q_x, g_x, l_x, r_x, s_x, t_x, u_x, ra_x, rb_x, rc_x, hk] <;> omega))⟩
      (case hm => first | omega | (simp; omega))
      (case hf => simp [FrameL, hL, e0, e1, e7, e8, hlt, q_x, g_x, l_x, r_x, s_x, t_x, u_x, ra_x, rb_x, rc_x, hk, f0_0, f1_0, f7_0])
theorem containsJobs_ok (h : Hp) (v : Value) (L : List Job) (hv : Jobs h v L) :
    CallOK Try.prog 190 #[v, .func (.func 191) #[] #[]] h (.bool (!decide (∀ k, k < L.length → jobOK (jobAt L k) = true))) h := by
  refine callY_P 9 _ [.tmp 4] Try.func190 rfl rfl rfl (by first | rfl | simp) ?_
  obtain ⟨r, hc, hr⟩ := indexJobs_ok h v L hv
  try simp (disch := first | omega | (simp; done) | fail) [wrap64c, if_pos, if_neg, opAnd, opOr, opXor, opDiff, opShr, opBit]
  refine callG_c (by simp) (by simp) ?ha (hc) ?_
  (case ha => simp (disch := first | omega | (simp; done) | fail) [wrap64c, if_pos, if_neg, opAnd, opOr, opXor, opDiff, opShr, opBit])
  have e : decide (0 ≤ r) = !decide (∀ k, k < L.length → jobOK (jobAt L k) = true) := by
    rw [Bool.eq_iff_iff]; simp only [decide_eq_true_eq, Bool.not_eq_true', decide_eq_false_iff_not]; exact hr
  try simp (disch := first | omega | (simp; done) | fail) [wrap64c, if_pos, if_neg, opAnd, opOr, opXor, opDiff, opShr, opBit, e]
  exact done_ret rfl (by simp)
theorem areTasks_ok (h : Hp) (v : Value) (L : List Job) (N : Int) (hv : Jobs h v L) : CallOK Try.prog 89 #[v, .int .i64 N] h (.bool (jobsB L N)) h := by
  refine callY_P 18 _ [.tmp 4] Try.func89 rfl rfl rfl (by first | rfl | simp) ?_
  have hL := hv.lenD
  try simp (disch := first | omega | (simp; done) | fail) [wrap64c, if_pos, if_neg, opAnd, opOr, opXor, opDiff, opShr, opBit, hL]
  refine callG_c (by simp) (by simp) ?ha (isSize_ok h N) ?_
  (case ha => simp (disch := first | omega | (simp; done) | fail) [wrap64c, if_pos, if_neg, opAnd, opOr, opXor, opDiff, opShr, opBit, hL])
  cases c1 : sizeB N
  · have e : jobsB L N = false := jobsB_no fun h1 _ _ => by rw [c1] at h1; cases h1
    try simp (disch := first | omega | (simp; done) | fail) [wrap64c, if_pos, if_neg, opAnd, opOr, opXor, opDiff, opShr, opBit, hL, c1]
    exact done_ret rfl (by simp [e])
  · by_cases c2 : (L.length : Int) = N
    · have d2 : ((L.length : Int) == N) = true := by simp [c2]
      try simp (disch := first | omega | (simp; done) | fail) [wrap64c, if_pos, if_neg, opAnd, opOr, opXor, opDiff, opShr, opBit, hL, c1, d2]
      refine callG_c (by simp) (by simp) ?ha (containsJobs_ok h v L hv) ?_
      (case ha => simp (disch := first | omega | (simp; done) | fail) [wrap64c, if_pos, if_neg, opAnd, opOr, opXor, opDiff, opShr, opBit, hL, c1, d2])
      have e : jobsB L N = decide (∀ k, k < L.length → jobOK (jobAt L k) = true) := by simp [jobsB, c1, c2]
      try simp (disch := first | omega | (simp; done) | fail) [wrap64c, if_pos, if_neg, opAnd, opOr, opXor, opDiff, opShr, opBit, hL, c1, d2]
      exact done_ret rfl (by simp [e])
    · have d2 : ((L.length : Int) == N) = false := by simp [c2]
      have e : jobsB L N = false := jobsB_no fun _ h1 _ => c2 h1
      try simp (disch := first | omega | (simp; done) | fail) [wrap64c, if_pos, if_neg, opAnd, opOr, opXor, opDiff, opShr, opBit, hL, c1, d2]
      exact done_ret rfl (by simp [e])
end Go.Proofs.Ytnncipcldbopgaa
namespace Go.Proofs.Ytnncipcldbopgaa
set_option linter.unusedSimpArgs false
set_option linter.unusedVariables false
set_option maxHeartbeats 4000000
open Go Go.Eng
attribute [local irreducible] WD RunD PreD Runs CallOK
def jobR (F : Nat → Prop) (h : Hp) (u : List Value) (j : Job) : Prop := u = jobL j
theorem jobR_steady : Steady jobR where
  mono F G h h' u x hx _ _ := hx
  low F h u x hx := hx
theorem chunk3_at {cs : List Value} {k : Nat} {a b c : Value} (h : chunk 3 cs k = [a, b, c]) : cs[k * 3]? = some a ∧ cs[k * 3 + 1]? = some b ∧ cs[k * 3 + 2]? = some c := by
  have h0 : ((cs.drop (k * 3)).take 3)[0]? = some a := by rw [show (cs.drop (k * 3)).take 3 = _ from h]; rfl
  have h1 : ((cs.drop (k * 3)).take 3)[1]? = some b := by rw [show (cs.drop (k * 3)).take 3 = _ from h]; rfl
  have h2 : ((cs.drop (k * 3)).take 3)[2]? = some c := by rw [show (cs.drop (k * 3)).take 3 = _ from h]; rfl
  simp only [List.getElem?_take, List.getElem?_drop] at h0 h1 h2
  exact ⟨by simpa using h0, by simpa using h1, by simpa using h2⟩
theorem jobs_of {n : Nat} {h : Hp} {v : Value} {L : List Job} (hs : GL 3 jobR n h v L) (hl : L.length < 2 ^ 63) : Jobs h v L := by
  rcases hs with ⟨rfl, rfl⟩ | ⟨o, ex, cs, rfl, h1, h2, h3, h4, h5⟩
  · exact Jobs.nil h
  · refine ⟨_, _, rfl, Nat.le_refl _, hl, .inr ⟨o, 0, cs, true, ex, 3, rfl, h2, h3, by omega, fun k hk => ?_⟩⟩
    have := chunk3_at (show chunk 3 cs k = [_, _, _] from h5 k hk)
    rw [Nat.zero_add, Nat.mul_comm]
    exact this
theorem appJ {n : Nat} {h0 h : Hp} {v : Value} {L : List Job} (hs : GL 3 jobR n h v L) (j : Job) (hl : L.length < 2 ^ 39) (hn : n ≤ h.next) (hA : Adds h0 h) (h0n : h0.next ≤ n) :
    ∃ v' h', appendD Try.prog 60 60 v (.slice (some ⟨h.next, 0, none⟩) 1 1) (h.alloc (.cells [.int .i64 j.ti, .int .i64 j.ra, .int .i64 j.ba] true true 3)) = some (v', h') ∧ GL 3 jobR n h' v' (L ++ [j]) ∧ Adds h0 h' ∧ h.next < h'.next ∧ ∀ o, o < h.next → o < n → h'.get o = h.get o := by
  have k2 : Adds h (h.alloc (.cells [.int .i64 j.ti, .int .i64 j.ra, .int .i64 j.ba] true true 3)) := (by first | exact aK | exact kK)
  obtain ⟨v', h', g1, g2, g3, g4, g5⟩ := GL.append (P := Try.prog) (t := 60) (t' := 60) (z := .agg #[.int .i64 0, .int .i64 0, .int .i64 0]) (b := 24) (e := 89) (K := [j]) (ys := [.int .i64 j.ti, .int .i64 j.ra, .int .i64 j.ba]) (F := fun x => False) (y := .slice (some ⟨h.next, 0, none⟩) 1 1) (h0 := h0) jobR_steady
    (hs.keep jobR_steady k2.1) (by simp [srcV, srcW]) rfl (fun k hk => by
      have : k = 0 := by simp at hk; exact hk
      subst this; rfl) (fun x hx => hx.elim) (by simp) (by simp) (by simp) rfl (by simp) (by decide) (by decide) (by simp) (by simp; omega) (by simp; omega) (hA.trans k2) h0n
  exact ⟨v', h', g1, g2, g3, Nat.lt_of_lt_of_le (by simp) g4, fun o ho hon => by rw [g5 o (by simp; omega) hon]; simp [Nat.ne_of_lt ho]⟩
theorem zarr3_3 (a b c : Value) : zarr #[a, b, c] 3 = #[a, b, c] := by
  unfold zarr
  apply Array.ext
  · simp
  · intro i h1 h2
    have : i = 0 ∨ i = 1 ∨ i = 2 := by simp at h2; omega
    rcases this with rfl | rfl | rfl <;> simp
end Go.Proofs.Ytnncipcldbopgaa
namespace Go.Proofs.Ytnncipcldbopgaa
set_option linter.unusedSimpArgs false
set_option linter.unusedVariables false
set_option maxHeartbeats 4000000
open Go Go.Eng
attribute [local irreducible] WD RunD PreD Runs CallOK
theorem gl_low {n n' : Nat} {h : Hp} {v : Value} {L : List Job} (hs : GL 3 jobR n h v L) (hn : n' ≤ n) : GL 3 jobR n' h v L := by
  rcases hs with ⟨rfl, rfl⟩ | ⟨o, ex, cs, rfl, h1, h2, h3, h4, h5⟩
  · exact .inl ⟨rfl, rfl⟩
  · exact .inr ⟨o, ex, cs, rfl, Nat.le_trans hn h1, h2, h3, h4, fun k hk => h5 k hk⟩
theorem chunk_put {cs : List Value} {n j k : Nat} {x : Value} (hl : cs.length = n * 3) (hj : j < 3) (hk : k < n) (hn : 0 < n) : chunk 3 (putCells cs j [x]) k = if k = 0 then (chunk 3 cs 0).set j x else chunk 3 cs k := by
  unfold chunk putCells
  have htl : (cs.take j).length = j := by rw [List.length_take]; omega
  split
  · rename_i h0
    subst h0
    apply List.ext_getElem?
    intro i
    simp only [Nat.zero_mul, List.drop_zero, List.getElem?_take, List.getElem?_set, List.length_take]
    by_cases hi : i < 3
    · rw [if_pos hi]
      by_cases e : j = i
      · subst e
        rw [List.getElem?_append_right (by omega), htl]
        simp; omega
      · rw [if_neg e, if_pos hi]
        by_cases hlt : i < j
        · rw [List.getElem?_append_left (by omega), List.getElem?_take, if_pos hlt]
        · rw [List.getElem?_append_right (by omega), htl, List.getElem?_append_right (by simp; omega), List.getElem?_drop]
          congr 1; simp; omega
    · rw [if_neg hi]
      by_cases e : j = i
      · omega
      · rw [if_neg e, if_neg hi]
  · rename_i h0
    congr 1
    apply List.ext_getElem?
    intro i
    rw [List.getElem?_drop, List.getElem?_drop, List.getElem?_append_right (by omega), htl, List.getElem?_append_right (by simp; omega), List.getElem?_drop]
    congr 1; simp; omega
theorem jobs_put {n p j : Nat} {h : Hp} {L : List Job} {cs : List Value} {ex : Bool} (h1 : n ≤ p) (h2 : p < h.next) (h3 : h.get p = .cells cs true ex 3) (h4 : cs.length = L.length * 3) (h5 : ∀ k (hk : k < L.length), jobR (fun x => n ≤ x ∧ x ≠ p) h (chunk 3 cs k) L[k]) (hL : 0 < L.length)
    (J : Job) (x : Int) (hj : j < 3) (hJ : (jobL L[0]).set j (.int .i64 x) = jobL J) : GL 3 jobR n (h.put p (.cells (putCells cs j [.int .i64 x]) true ex 3)) (.slice (some ⟨p, 0, none⟩) L.length L.length) (L.set 0 J) := by
  refine .inr ⟨p, ex, putCells cs j [.int .i64 x], by simp, h1, h2, by simp, by rw [putCells_length (by simp; omega)]; simpa using h4, fun k hk => ?_⟩
  have hk' : k < L.length := by simpa using hk
  show chunk 3 _ k = jobL _
  rw [chunk_put h4 hj hk' hL, List.getElem_set]
  have h0 : chunk 3 cs 0 = jobL L[0] := h5 0 hL
  have hkk : chunk 3 cs k = jobL L[k] := h5 k hk'
  by_cases e : k = 0
  · rw [if_pos e, if_pos e.symm, h0, hJ]
  · rw [if_neg e, if_neg (Ne.symm e), hkk]
theorem tasks_ok (hB h : Hp) (o k : Nat) (N : Int) (hA : Adds hB h) (hc : CurS hB.next o k h) (hk : k + 4000 < 2 ^ 40) :
    ∃ v h', CallOK Try.prog 189 #[.pointer (some ⟨o, 0, none⟩), .int .i64 N] h v h' ∧ DrW hB o (k + 100) h h' ∧ ∃ L, GL 3 jobR h.next h' v L ∧ L.length ≤ 9 := by
  have hbo := hc.bo
  have hAn := hA.1.1
  refine callY_L (args := [.pointer (some ⟨o, 0, none⟩), .int .i64 N]) 56 _ [.tmp 4] Try.func189 rfl rfl rfl ?_
  try simp (disch := first | omega | (simp; done) | fail) [wrap64c, if_pos, if_neg, opAnd, opOr, opXor, opDiff, opShr, opBit]
  refine WD_loopC [0, 1] (fun m tm h' => ∃ v L j, m = 8 - j ∧ tm 5 = v ∧ tm 6 = .int .i64 (j : Int) ∧ (GL 3 jobR h.next h' v L) ∧ (DrW hB o (k + 6 * j) h h') ∧ (j ≤ 8 ∧ L.length = j)) _ ⟨Value.slice none 0 0, [], 0, rfl, (by simp (disch := first | omega | (simp; done) | fail) [wrap64c, if_pos, if_neg, opAnd, opOr, opXor, opDiff, opShr, opBit]), (by simp (disch := first | omega | (simp; done) | fail) [wrap64c, if_pos, if_neg, opAnd, opOr, opXor, opDiff, opShr, opBit]), (GL.nil _ _), (by simpa using DrW.refl hA hc), (by first | omega | assumption | (simp (disch := first | omega | (simp; done) | fail) [wrap64c, if_pos, if_neg, opAnd, opOr, opXor, opDiff, opShr, opBit] <;> omega))⟩ ?_
  rintro m tm h' hFr ⟨v, L, j, rfl, e5, e6, hi, hd, hj⟩
  simp only [FrameL] at hFr
  obtain ⟨f0_0, f1_0, -⟩ := hFr
  try simp (disch := first | omega | (simp; done) | fail) [wrap64c, if_pos, if_neg, opAnd, opOr, opXor, opDiff, opShr, opBit] at f0_0 f1_0
  have e0 := f0_0
  have e1 := f1_0
  have ntv := hi.nt
  have csv := hi.cs
  have hlv := hi.lenD
  have nd := hd.nx
  have hz3 := zarr3_3
  obtain ⟨lim, hlim⟩ : ∃ x, x = if N < 8 then N else 8 := ⟨_, rfl⟩
  have pl := leastD_ok h' N 8
  rw [← hlim] at pl
  have hl8 : lim ≤ 8 := by rw [hlim]; split <;> omega
  by_cases ha : (j : Int) < lim
  · obtain ⟨_, h2, p2, r2, rfl, l2, w2⟩ := pick_ok hB.next o (k + 6 * j) h' 5 hd.cur (by omega)
    have d2 := hd.trans (w2.dr hd.add hd.cur)
    have n2 := w2.nx
    have hr2 := l2 (by omega)
    obtain ⟨_, h3, p3, r3, rfl, l3, w3⟩ := pick_ok hB.next o (k + 6 * j + 2) h2 4 d2.cur (by omega)
    have d3 := d2.trans (w3.dr d2.add d2.cur)
    have n3 := w3.nx
    have hr3 := l3 (by omega)
    obtain ⟨_, h4, p4, r4, rfl, l4, w4⟩ := pick_ok hB.next o (k + 6 * j + 2 + 2) h3 41 d3.cur (by omega)
    have d4 := d3.trans (w4.dr d3.add d3.cur)
    have n4 := w4.nx
    have hr4 := l4 (by omega)
    have i4 := ((hi.same jobR_steady (w2.same (S := fun x => h.next ≤ x) (fun p hp => by omega))).same jobR_steady (w3.same (S := fun x => h.next ≤ x) (fun p hp => by omega))).same jobR_steady (w4.same (S := fun x => h.next ≤ x) (fun p hp => by omega))
    obtain ⟨v5, h5, hap, hi5, k5, n5, s5⟩ := appJ i4 ⟨1 + (r2 : Int), (r3 : Int), (r4 : Int) - 20⟩ (by omega) (by omega) d4.add (by omega)
    try simp (disch := first | omega | (simp; done) | fail) [wrap64c, if_pos, if_neg, opAnd, opOr, opXor, opDiff, opShr, opBit, e0, e1, e5, e6, ntv, csv, hlv, hz3, ha]
    refine callG_c (by simp) (by simp) ?ha (pl) ?_
    (case ha => simp (disch := first | omega | (simp; done) | fail) [wrap64c, if_pos, if_neg, opAnd, opOr, opXor, opDiff, opShr, opBit, e0, e1, e5, e6, ntv, csv, hlv, hz3, ha])
    try simp (disch := first | omega | (simp; done) | fail) [wrap64c, if_pos, if_neg, opAnd, opOr, opXor, opDiff, opShr, opBit, e0, e1, e5, e6, ntv, csv, hlv, hz3, ha]
    refine callG_c (by simp) (by simp) ?ha (p2) ?_
    (case ha => simp (disch := first | omega | (simp; done) | fail) [wrap64c, if_pos, if_neg, opAnd, opOr, opXor, opDiff, opShr, opBit, e0, e1, e5, e6, ntv, csv, hlv, hz3, ha])
    try simp (disch := first | omega | (simp; done) | fail) [wrap64c, if_pos, if_neg, opAnd, opOr, opXor, opDiff, opShr, opBit, e0, e1, e5, e6, ntv, csv, hlv, hz3, ha]
    refine callG_c (by simp) (by simp) ?ha (p3) ?_
    (case ha => simp (disch := first | omega | (simp; done) | fail) [wrap64c, if_pos, if_neg, opAnd, opOr, opXor, opDiff, opShr, opBit, e0, e1, e5, e6, ntv, csv, hlv, hz3, ha])
    try simp (disch := first | omega | (simp; done) | fail) [wrap64c, if_pos, if_neg, opAnd, opOr, opXor, opDiff, opShr, opBit, e0, e1, e5, e6, ntv, csv, hlv, hz3, ha]
    refine callG_c (by simp) (by simp) ?ha (p4) ?_
    (case ha => simp (disch := first | omega | (simp; done) | fail) [wrap64c, if_pos, if_neg, opAnd, opOr, opXor, opDiff, opShr, opBit, e0, e1, e5, e6, ntv, csv, hlv, hz3, ha])
    try simp (disch := first | omega | (simp; done) | fail) [wrap64c, if_pos, if_neg, opAnd, opOr, opXor, opDiff, opShr, opBit, e0, e1, e5, e6, ntv, csv, hlv, hz3, ha, hap]
    refine loopK_next _ ?hm ?hf ⟨v5, L ++ [⟨1 + (r2 : Int), (r3 : Int), (r4 : Int) - 20⟩], j + 1, rfl, (by simp (disch := first | omega | (simp; done) | fail) [wrap64c, if_pos, if_neg, opAnd, opOr, opXor, opDiff, opShr, opBit, e0, e1, e5, e6, ntv, csv, hlv, hz3, ha] <;> omega), (by simp (disch := first | omega | (simp; done) | fail) [wrap64c, if_pos, if_neg, opAnd, opOr, opXor, opDiff, opShr, opBit, e0, e1, e5, e6, ntv, csv, hlv, hz3, ha] <;> omega), hi5, ((d4.app hA hbo.2 k5 (Nat.le_of_lt n5) s5).mono (by omega)), ⟨by omega, by simp; omega⟩⟩
    (case hm => first | omega | (simp; omega))
    (case hf => simp [FrameL, e0, e1, e5, e6, ntv, csv, hlv, hz3, ha, f0_0, f1_0])
  · obtain ⟨_, h2, p2, r2, rfl, l2, w2⟩ := pick_ok hB.next o (k + 6 * j) h' 14 hd.cur (by omega)
    have d2 := hd.trans (w2.dr hd.add hd.cur)
    have n2 := w2.nx
    have hr2 := l2 (by omega)
    have i2 := hi.same jobR_steady (w2.same (S := fun x => h.next ≤ x) (fun p hp => by omega))
    try simp (disch := first | omega | (simp; done) | fail) [wrap64c, if_pos, if_neg, opAnd, opOr, opXor, opDiff, opShr, opBit, e0, e1, e5, e6, ntv, csv, hlv, hz3, ha]
    refine callG_c (by simp) (by simp) ?ha (pl) ?_
    (case ha => simp (disch := first | omega | (simp; done) | fail) [wrap64c, if_pos, if_neg, opAnd, opOr, opXor, opDiff, opShr, opBit, e0, e1, e5, e6, ntv, csv, hlv, hz3, ha])
    try simp (disch := first | omega | (simp; done) | fail) [wrap64c, if_pos, if_neg, opAnd, opOr, opXor, opDiff, opShr, opBit, e0, e1, e5, e6, ntv, csv, hlv, hz3, ha]
    refine callG_c (by simp) (by simp) ?ha (p2) ?_
    (case ha => simp (disch := first | omega | (simp; done) | fail) [wrap64c, if_pos, if_neg, opAnd, opOr, opXor, opDiff, opShr, opBit, e0, e1, e5, e6, ntv, csv, hlv, hz3, ha])
    rcases (show r2 = 0 ∨ r2 = 1 ∨ r2 = 2 ∨ 2 < r2 by omega) with e4 | e4 | e4 | e4
    · subst e4
      by_cases hL : 0 < L.length
      · have hL' : (0 : Int) < (L.length : Int) := by omega
        rcases i2 with ⟨e, _⟩ | ⟨p, ex, cs, rfl, q1, q2, q3, q4, q5⟩
        · subst e; simp at hL
        obtain ⟨hl6, hl6E⟩ : ∃ hz, hz = h2.alloc (.cells [.int .i64 (-101), .int .i64 (-100), .int .i64 100, .int .i64 101, .int .i64 4611686018427387904] true true 1) := ⟨_, rfl⟩
        have k6 : Adds h2 hl6 := by rw [hl6E]; exact (by first | exact aK | exact kK)
        have n6 : hl6.next = h2.next + 1 := by rw [hl6E]; rfl
        have d6 := d2.trans (DrW.of_adds d2.add d2.cur k6)
        have i6 : IntsF (fun x => x ≠ o) hl6 (.slice (some ⟨h2.next, 0, none⟩) 5 5) [-101, -100, 100, 101, 4611686018427387904] := lit_ints (xs := [-101, -100, 100, 101, 4611686018427387904]) (own := true) (ex := true) (es := 1) (by simp [hl6E]) (by omega) (by omega) (by simp)
        obtain ⟨v8, h8, p8, r8, q8, e8_, w8⟩ := among_ok hB.next o (k + 6 * j + 2) hl6 _ _ d6.cur (by omega) i6 (by simp)
        subst e8_
        generalize hx8 : [-101, -100, 100, 101, 4611686018427387904][r8] = x8 at p8
        have d8 := d6.trans (w8.dr d6.add d6.cur)
        have n8 := w8.nx
        have q38 : h8.get p = .cells cs true ex 3 := by rw [w8.get _ (by omega) (by omega), k6.1.2 _ (by omega)]; exact q3
        have hcl : 2 < cs.length := by omega
        try simp (disch := first | omega | (simp; done) | fail) [wrap64c, if_pos, if_neg, opAnd, opOr, opXor, opDiff, opShr, opBit, e0, e1, e5, e6, ntv, csv, hlv, hz3, ha, hL', q38, hcl]
        rw [← hl6E]
        refine callG_c (by simp) (by simp) ?ha (p8) ?_
        (case ha => simp (disch := first | omega | (simp; done) | fail) [wrap64c, if_pos, if_neg, opAnd, opOr, opXor, opDiff, opShr, opBit, e0, e1, e5, e6, ntv, csv, hlv, hz3, ha, hL', q38, hcl])
        try simp (disch := first | omega | (simp; done) | fail) [wrap64c, if_pos, if_neg, opAnd, opOr, opXor, opDiff, opShr, opBit, e0, e1, e5, e6, ntv, csv, hlv, hz3, ha, hL', q38, hcl]
        have hput := jobs_put (h := h8) (j := 2) q1 (by omega) q38 q4 q5 hL ⟨L[0].ti, L[0].ra, x8⟩ x8 (by omega) rfl
        exact done_ret rfl ⟨(d8.put hA hbo.2 q1 _ _ _).mono (by omega), _, hput, by simp; omega⟩
      · have hL' : ¬ (0 : Int) < (L.length : Int) := by omega
        have hL0 : L.length = 0 := by omega
        try simp (disch := first | omega | (simp; done) | fail) [wrap64c, if_pos, if_neg, opAnd, opOr, opXor, opDiff, opShr, opBit, e0, e1, e5, e6, ntv, csv, hlv, hz3, ha, hL', hL0]
        exact done_ret rfl ⟨d2.mono (by omega), L, i2, by omega⟩
    · subst e4
      by_cases hL : 0 < L.length
      · have hL' : (0 : Int) < (L.length : Int) := by omega
        rcases i2 with ⟨e, _⟩ | ⟨p, ex, cs, rfl, q1, q2, q3, q4, q5⟩
        · subst e; simp at hL
        obtain ⟨hl6, hl6E⟩ : ∃ hz, hz = h2.alloc (.cells [.int .i64 (-1), .int .i64 9, .int .i64 10] true true 1) := ⟨_, rfl⟩
        have k6 : Adds h2 hl6 := by rw [hl6E]; exact (by first | exact aK | exact kK)
        have n6 : hl6.next = h2.next + 1 := by rw [hl6E]; rfl
        have d6 := d2.trans (DrW.of_adds d2.add d2.cur k6)
        have i6 : IntsF (fun x => x ≠ o) hl6 (.slice (some ⟨h2.next, 0, none⟩) 3 3) [-1, 9, 10] := lit_ints (xs := [-1, 9, 10]) (own := true) (ex := true) (es := 1) (by simp [hl6E]) (by omega) (by omega) (by simp)
        obtain ⟨v8, h8, p8, r8, q8, e8_, w8⟩ := among_ok hB.next o (k + 6 * j + 2) hl6 _ _ d6.cur (by omega) i6 (by simp)
        subst e8_
        generalize hx8 : [-1, 9, 10][r8] = x8 at p8
        have d8 := d6.trans (w8.dr d6.add d6.cur)
        have n8 := w8.nx
        have q38 : h8.get p = .cells cs true ex 3 := by rw [w8.get _ (by omega) (by omega), k6.1.2 _ (by omega)]; exact q3
        have hcl : 2 < cs.length := by omega
        try simp (disch := first | omega | (simp; done) | fail) [wrap64c, if_pos, if_neg, opAnd, opOr, opXor, opDiff, opShr, opBit, e0, e1, e5, e6, ntv, csv, hlv, hz3, ha, hL', q38, hcl]
        rw [← hl6E]
        refine callG_c (by simp) (by simp) ?ha (p8) ?_
        (case ha => simp (disch := first | omega | (simp; done) | fail) [wrap64c, if_pos, if_neg, opAnd, opOr, opXor, opDiff, opShr, opBit, e0, e1, e5, e6, ntv, csv, hlv, hz3, ha, hL', q38, hcl])
        try simp (disch := first | omega | (simp; done) | fail) [wrap64c, if_pos, if_neg, opAnd, opOr, opXor, opDiff, opShr, opBit, e0, e1, e5, e6, ntv, csv, hlv, hz3, ha, hL', q38, hcl]
        have hput := jobs_put (h := h8) (j := 1) q1 (by omega) q38 q4 q5 hL ⟨L[0].ti, x8, L[0].ba⟩ x8 (by omega) rfl
        exact done_ret rfl ⟨(d8.put hA hbo.2 q1 _ _ _).mono (by omega), _, hput, by simp; omega⟩
      · have hL' : ¬ (0 : Int) < (L.length : Int) := by omega
        have hL0 : L.length = 0 := by omega
        try simp (disch := first | omega | (simp; done) | fail) [wrap64c, if_pos, if_neg, opAnd, opOr, opXor, opDiff, opShr, opBit, e0, e1, e5, e6, ntv, csv, hlv, hz3, ha, hL', hL0]
        exact done_ret rfl ⟨d2.mono (by omega), L, i2, by omega⟩
    · subst e4
      obtain ⟨v5, h5, hap, hi5, k5, n5, s5⟩ := appJ i2 ⟨1, 0, 0⟩ (by omega) (by omega) d2.add (by omega)
      try simp (disch := first | omega | (simp; done) | fail) [wrap64c, if_pos, if_neg, opAnd, opOr, opXor, opDiff, opShr, opBit, e0, e1, e5, e6, ntv, csv, hlv, hz3, ha, hap]
      exact done_ret rfl ⟨(d2.app hA hbo.2 k5 (Nat.le_of_lt n5) s5).mono (by omega), _, hi5, by simp; omega⟩
    · have e1' : ((r2 : Int) == 0) = false := beq_false_of_ne (by omega)
      have e2' : ((r2 : Int) == 1) = false := beq_false_of_ne (by omega)
      have e3' : ((r2 : Int) == 2) = false := beq_false_of_ne (by omega)
      try simp (disch := first | omega | (simp; done) | fail) [wrap64c, if_pos, if_neg, opAnd, opOr, opXor, opDiff, opShr, opBit, e0, e1, e5, e6, ntv, csv, hlv, hz3, ha, e1', e2', e3']
      exact done_ret rfl ⟨d2.mono (by omega), L, i2, by omega⟩
end Go.Proofs.Ytnncipcldbopgaa
namespace Go.Proofs.Ytnncipcldbopgaa
set_option linter.unusedSimpArgs false
set_option linter.unusedVariables false
set_option maxHeartbeats 4000000
open Go Go.Eng
attribute [local irreducible] WD RunD PreD Runs CallOK
theorem tasked_ok (hB h : Hp) (o k : Nat) (hA : Adds hB h) (hc : CurS hB.next o k h) (hk : k + 6000 < 2 ^ 40) :
    ∃ v h', CallOK Try.prog 201 #[.pointer (some ⟨o, 0, none⟩)] h v h' ∧ DrW hB o (k + 500) h h' ∧ ∃ s N X w L, v = .tuple #[s, w] ∧ SpaceF (fun x => h.next < x) h' s N X ∧ X.length ≤ 128 ∧ GL 3 jobR (h.next + 1) h' w L ∧ L.length ≤ 9 := by
  have hbo := hc.bo
  refine callY_L (args := [.pointer (some ⟨o, 0, none⟩)]) 13 _ [.cell 2 26, .tmp 3] Try.func201 rfl rfl rfl ?_
  try simp (disch := first | omega | (simp; done) | fail) [wrap64c, if_pos, if_neg, opAnd, opOr, opXor, opDiff, opShr, opBit]
  first | refine WY_heap fun h0 q_h0 => ?_ | refine callG_heap fun h0 q_h0 => ?_ | refine callP_heap fun h0 q_h0 => ?_ | refine callS_heap fun h0 q_h0 => ?_ | refine RY_heap fun h0 q_h0 => ?_ | refine PY_heap fun h0 q_h0 => ?_ | refine SY_heap fun h0 q_h0 => ?_ | refine doneY_heap fun h0 q_h0 => ?_ | refine loopK_heap fun h0 q_h0 => ?_ | refine thenY_heap fun h0 q_h0 => ?_ | refine thenM_heap fun h0 q_h0 => ?_
  have k0 : Adds h h0 := by rw [q_h0]; exact (by first | exact aK | exact kK)
  have n0 : h0.next = h.next + 1 := by simp [q_h0]
  have d0 := DrW.of_adds hA hc k0
  have gr0 : h0.get h.next = .cells [.int .i64 0, .slice none 0 0] true true 1 := by simp [q_h0]
  obtain ⟨_, h1, p1, d1, N, X, ⟨b, rfl, i1⟩, lX⟩ := space_ok hB h0 o k 5 d0.add d0.cur (by omega) (by decide)
  have n1 := d1.nx
  have gr1 : h1.get h.next = .cells [.int .i64 0, .slice none 0 0] true true 1 := by rw [d1.sm _ (by omega) (by omega)]; exact gr0
  have d01 := d0.trans d1
  have ntb := i1.ints.nt
  have csb := i1.ints.cs
  have hu2 : ∀ a b c d : Value, putCells [a, b] 0 [c, d] = [c, d] := fun _ _ _ _ => rfl
  refine callG_c (by simp) (by simp) ?ha (p1) ?_
  (case ha => simp (disch := first | omega | (simp; done) | fail) [wrap64c, if_pos, if_neg, opAnd, opOr, opXor, opDiff, opShr, opBit, ntb, csb, hu2])
  try simp (disch := first | omega | (simp; done) | fail) [wrap64c, if_pos, if_neg, opAnd, opOr, opXor, opDiff, opShr, opBit, ntb, csb, hu2]
  obtain ⟨h2, q_h2⟩ : ∃ x, x = (h1.alloc (.cells [.int .i64 0, .slice none 0 0] true true 1)).put h1.next (.cells [.int .i64 N, b] true true 1) := ⟨_, rfl⟩
  rw [← q_h2]
  have k2 : Adds h1 h2 := by rw [q_h2]; exact (by first | exact aK | exact kK)
  have n2 : h2.next = h1.next + 1 := by simp [q_h2]
  have d2 := d01.trans (DrW.of_adds d01.add d01.cur k2)
  have gs2 : h2.get h1.next = .cells [.int .i64 N, b] true true 1 := by simp [q_h2]
  have gr2 : h2.get h.next = .cells [.int .i64 0, .slice none 0 0] true true 1 := by rw [k2.1.2 _ (by omega)]; exact gr1
  have i2 : IntsF (fun x => h.next < x) h2 b X := (i1.keep k2.1).sub fun x hx => by omega
  have hne1 : ¬ h.next = h1.next := by omega
  have pm := mostD_ok h2 0 N
  obtain ⟨nn, hnn⟩ : ∃ x, x = if N < 0 then (0 : Int) else N := ⟨_, rfl⟩
  rw [← hnn] at pm
  obtain ⟨w, h3, p3, d3, L, j3, lL⟩ := tasks_ok hB h2 o (k + 300) nn d2.add d2.cur (by omega)
  have n3 := d3.nx
  have d23 := d2.trans d3
  have ntw := j3.nt
  have csw := j3.cs
  have gr3 : h3.get h.next = .cells [.int .i64 0, .slice none 0 0] true true 1 := by rw [d3.sm _ (by omega) (by omega)]; exact gr2
  have gs3 : h3.get h1.next = .cells [.int .i64 N, b] true true 1 := by rw [d3.sm _ (by omega) (by omega)]; exact gs2
  have i3 : IntsF (fun x => h.next < x) h3 b X := i2.same (d3.same fun p hp => by omega)
  have kf0 : KeepF (fun b => b = h1.next ∨ litF [] h2.next b) h2 h2 := fun _ _ => rfl
  have kf1 : KeepF (fun b => b = h1.next ∨ litF [] h2.next b) h2 h3 := fun b hb => by
    rcases hb with rfl | hb
    · exact d3.sm _ (by omega) (by omega)
    · exact hb.elim
  try simp (disch := first | omega | (simp; done) | fail) [wrap64c, if_pos, if_neg, opAnd, opOr, opXor, opDiff, opShr, opBit, ntb, csb, hu2, gs2, hne1, ntw, csw]
  refine WD_softC [7,10] [] [] (fun b => b = h1.next) rfl (by kernel_rfl) (by kernel_rfl) rfl ?_
  try simp (disch := first | omega | (simp; done) | fail) [wrap64c, if_pos, if_neg, opAnd, opOr, opXor, opDiff, opShr, opBit, ntb, csb, hu2, gs2, hne1, ntw, csw]
  refine callS_c (by simp) (by simp) ?ha (pm) ?hkf ?_
  (case ha => simp (disch := first | omega | (simp; done) | fail) [wrap64c, if_pos, if_neg, opAnd, opOr, opXor, opDiff, opShr, opBit, ntb, csb, hu2, gs2, hne1, ntw, csw])
  (case hkf => assumption)
  try simp (disch := first | omega | (simp; done) | fail) [wrap64c, if_pos, if_neg, opAnd, opOr, opXor, opDiff, opShr, opBit, ntb, csb, hu2, gs2, hne1, ntw, csw]
  refine callS_c (by simp) (by simp) ?ha (p3) ?hkf ?_
  (case ha => simp (disch := first | omega | (simp; done) | fail) [wrap64c, if_pos, if_neg, opAnd, opOr, opXor, opDiff, opShr, opBit, ntb, csb, hu2, gs2, hne1, ntw, csw])
  (case hkf => assumption)
  have gr3' := gr3
  try simp (disch := first | omega | (simp; done) | fail) [wrap64c, if_pos, if_neg, opAnd, opOr, opXor, opDiff, opShr, opBit, ntb, csb, hu2, gs2, hne1, ntw, csw, gr3']
  obtain ⟨f1, f2⟩ := fin_spaceI hA hbo.2 d23 i3 (show k + 300 + 100 ≤ k + 500 by omega) [.int .i64 N, b] true 1
  have j4 : GL 3 jobR (h.next + 1) (h3.put h.next (.cells [.int .i64 N, b] true true 1)) w L := (gl_low j3 (by omega)).same jobR_steady ⟨Nat.le_refl _, fun x hx _ => by simp [show x ≠ h.next by omega]⟩
  exact done_ret (vs := [.agg #[.int .i64 N, b], w]) (by simp [resL]) ⟨f1, _, _, _, _, _, rfl, ⟨_, rfl, f2⟩, lX, j4, lL⟩
theorem drawGreedy_ok (h : Hp) (v : Value) (bs : List Int) (hb : BytesF h.next h v bs) : ∃ u h', CallOK Try.prog 96 #[v] h u h' ∧ Adds h h' ∧ ∃ s N X w L, u = .tuple #[s, w] ∧ SpaceF (fun x => h.next ≤ x) h' s N X ∧ X.length ≤ 128 ∧ GL 3 jobR (h.next + 1) h' w L ∧ L.length ≤ 9 := by
  have ntv := hb.bytes.nt
  have csv := hb.bytes.cs
  refine callY_L (args := [v]) 12 _ [.cell 2 26, .tmp 3] Try.func96 rfl rfl rfl ?_
  try simp (disch := first | omega | (simp; done) | fail) [wrap64c, if_pos, if_neg, opAnd, opOr, opXor, opDiff, opShr, opBit, ntv, csv]
  first | refine WY_heap fun h0 q_h0 => ?_ | refine callG_heap fun h0 q_h0 => ?_ | refine callP_heap fun h0 q_h0 => ?_ | refine callS_heap fun h0 q_h0 => ?_ | refine RY_heap fun h0 q_h0 => ?_ | refine PY_heap fun h0 q_h0 => ?_ | refine SY_heap fun h0 q_h0 => ?_ | refine doneY_heap fun h0 q_h0 => ?_ | refine loopK_heap fun h0 q_h0 => ?_ | refine thenY_heap fun h0 q_h0 => ?_ | refine thenM_heap fun h0 q_h0 => ?_
  have k0 : Adds h h0 := by rw [q_h0]; exact (by first | exact aK | exact kK)
  have n0 : h0.next = h.next + 2 := by simp [q_h0]
  have g0 : h0.get (h.next + 1) = .cells [v, .int .i64 0, .int .u64 0] true true 1 := by simp [q_h0]
  have gr0 : h0.get h.next = .cells [.int .i64 0, .slice none 0 0] true true 1 := by simp [q_h0]
  have c0 := cur_mk hb k0.1 ⟨by omega, by omega⟩ g0
  obtain ⟨_, h1, p1, d1, s, N, X, w, L, rfl, ⟨b, rfl, i1⟩, lX, j1, lL⟩ := tasked_ok h h0 (h.next + 1) 0 k0 c0 (by decide)
  have ntb := i1.ints.nt
  have csb := i1.ints.cs
  have ntw := j1.nt
  have csw := j1.cs
  have gr1 : h1.get h.next = .cells [.int .i64 0, .slice none 0 0] true true 1 := by rw [d1.sm _ (by omega) (by omega)]; exact gr0
  have hu2 : ∀ a b c d : Value, putCells [a, b] 0 [c, d] = [c, d] := fun _ _ _ _ => rfl
  refine callG_c (by simp) (by simp) ?ha (p1) ?_
  (case ha => simp (disch := first | omega | (simp; done) | fail) [wrap64c, if_pos, if_neg, opAnd, opOr, opXor, opDiff, opShr, opBit, ntv, csv, ntb, csb, ntw, csw, gr1, hu2])
  try simp (disch := first | omega | (simp; done) | fail) [wrap64c, if_pos, if_neg, opAnd, opOr, opXor, opDiff, opShr, opBit, ntv, csv, ntb, csb, ntw, csw, gr1, hu2]
  have hI : IntsF (fun x => h.next ≤ x) (h1.put h.next (.cells [.int .i64 N, b] true true 1)) b X := (i1.same (h := h1) (h' := h1.put h.next _) ⟨Nat.le_refl _, fun x hx _ => by simp [show x ≠ h.next by omega]⟩).sub fun x hx => by omega
  have j4 : GL 3 jobR (h.next + 1) (h1.put h.next (.cells [.int .i64 N, b] true true 1)) w L := (gl_low j1 (by omega)).same jobR_steady ⟨Nat.le_refl _, fun x hx _ => by simp [show x ≠ h.next by omega]⟩
  exact done_ret (vs := [.agg #[.int .i64 N, b], w]) (by simp [resL]) ⟨d1.add.put (Nat.le_refl _) (fun _ => rfl), _, _, _, _, _, rfl, ⟨_, rfl, hI⟩, lX, j4, lL⟩
end Go.Proofs.Ytnncipcldbopgaa
namespace Go.Proofs.Ytnncipcldbopgaa
set_option linter.unusedSimpArgs false
set_option linter.unusedVariables false
set_option maxHeartbeats 4000000
open Go Go.Eng
attribute [local irreducible] WD RunD PreD Runs CallOK
def sumT (L : List Job) (s : Nat) : Nat → Int
  | 0 => 0
  | k + 1 => if s.testBit k = true then sumT L s k else sumT L s k + (jobAt L k).ti
def costN (L : List Job) (s i : Nat) : Int := (jobAt L i).ra * sumT L s L.length + (jobAt L i).ba
structure JobsOK (L : List Job) : Prop where
  n7 : L.length ≤ 7
  ok : ∀ k, k < L.length → jobOK (jobAt L k) = true
theorem JobsOK.at {L : List Job} (g : JobsOK L) {k : Nat} (hk : k < L.length) : (1 ≤ (jobAt L k).ti ∧ (jobAt L k).ti ≤ 9) ∧ (0 ≤ (jobAt L k).ra ∧ (jobAt L k).ra ≤ 9) ∧ (-100 ≤ (jobAt L k).ba ∧ (jobAt L k).ba ≤ 100) := jobOK_true (g.ok k hk)
theorem sumT_le {L : List Job} (g : JobsOK L) (s : Nat) : ∀ k, k ≤ L.length → 0 ≤ sumT L s k ∧ sumT L s k ≤ 9 * k
  | 0, _ => by simp [sumT]
  | k + 1, h => by
    have h1 := sumT_le g s k (by omega)
    have h2 := g.at (k := k) (by omega)
    rw [sumT]
    split <;> omega
theorem mul_le {a b : Int} (h1 : 0 ≤ a) (h2 : a ≤ 9) (h3 : 0 ≤ b) (h4 : b ≤ 63) : 0 ≤ a * b ∧ a * b ≤ 567 := by
  refine ⟨Int.mul_nonneg h1 h3, ?_⟩
  have h5 : a * b ≤ 9 * 63 := Int.mul_le_mul h2 h4 h3 (by omega)
  omega
theorem costN_le {L : List Job} (g : JobsOK L) (s : Nat) {i : Nat} (hi : i < L.length) : -100 ≤ costN L s i ∧ costN L s i ≤ 667 := by
  have h1 := sumT_le g s L.length (Nat.le_refl _)
  have h2 := g.at hi
  have h3 := g.n7
  have h4 := mul_le h2.2.1.1 h2.2.1.2 h1.1 (by omega)
  unfold costN
  omega
theorem cost_ok (h : Hp) (v : Value) (L : List Job) (s i : Nat) (hv : Jobs h v L) (g : JobsOK L) (hs : s < 128) (hi : i < L.length) :
    CallOK Try.prog 182 #[v, .int .i64 (s : Int), .int .i64 (i : Int)] h (.int .i64 (costN L s i)) h := by
  refine callY_P 40 _ [.tmp 6] Try.func182 rfl rfl rfl (by first | rfl | simp) ?_
  have hL := hv.lenD
  have n7 := g.n7
  try simp (disch := first | omega | (simp; done) | fail) [wrap64c, if_pos, if_neg, opAnd, opOr, opXor, opDiff, opShr, opBit, hL]
  refine WD_loopC [0, 1, 2, 10, 11] (fun m tm h' => ∃ j, m = L.length - j ∧ tm 7 = .int .i64 (sumT L s j) ∧ tm 12 = .int .i64 (j : Int) ∧ (j ≤ L.length) ∧ (Keeps h h')) _ ⟨0, rfl, (by simp [sumT]), (by simp (disch := first | omega | (simp; done) | fail) [wrap64c, if_pos, if_neg, opAnd, opOr, opXor, opDiff, opShr, opBit, hL]), (by first | omega | assumption | (simp (disch := first | omega | (simp; done) | fail) [wrap64c, if_pos, if_neg, opAnd, opOr, opXor, opDiff, opShr, opBit, hL] <;> omega)), (Keeps.refl _)⟩ ?_
  rintro m tm h' hFr ⟨j, rfl, e7, e12, hj, ha⟩
  simp only [FrameL] at hFr
  obtain ⟨f0_0, f1_0, f2_0, f10_0, f11_0, -⟩ := hFr
  try simp (disch := first | omega | (simp; done) | fail) [wrap64c, if_pos, if_neg, opAnd, opOr, opXor, opDiff, opShr, opBit, hL] at f0_0 f1_0 f2_0 f10_0 f11_0
  have e0 := f0_0
  have e1 := f1_0
  have e2 := f2_0
  have e10 := f10_0
  have e11 := f11_0
  have ha1 := ha.1
  by_cases hlt : j < L.length
  · have hv1 := hv.keep ha
    obtain ⟨o_x, i_x, c_x, cs_x, own_x, ex_x, es_x, q_x, b_x, g_x, l_x, r_x, s_x, t_x, u_x, ra_x, rb_x, rc_x⟩ := hv1.open ((by omega))
    have h1 := nShr_le s j
    have h2 := nShr_and01 s j
    have hsl := sumT_le g s j hj
    have hat := g.at hlt
    cases hb : s.testBit j
    · have h3 : nAnd (nShr s j) 1 = 0 := by rw [h2, hb]; rfl
      have hs1 : sumT L s (j + 1) = sumT L s j + (jobAt L j).ti := by rw [sumT, if_neg (by simp [hb])]
      try simp (disch := first | omega | (simp; done) | fail) [wrap64c, if_pos, if_neg, opAnd, opOr, opXor, opDiff, opShr, opBit, hL, e0, e1, e2, e7, e10, e11, e12, hlt, q_x, g_x, l_x, r_x, s_x, t_x, u_x, ra_x, rb_x, rc_x, h3, jobL, putCells]
      refine loopK_next _ ?hm ?hf ⟨j + 1, rfl, (by simp [hs1, e7]), (by simp (disch := first | omega | (simp; done) | fail) [wrap64c, if_pos, if_neg, opAnd, opOr, opXor, opDiff, opShr, opBit, hL, e0, e1, e2, e7, e10, e11, e12, hlt, q_x, g_x, l_x, r_x, s_x, t_x, u_x, ra_x, rb_x, rc_x, h3] <;> omega), (by first | omega | assumption | (simp (disch := first | omega | (simp; done) | fail) [wrap64c, if_pos, if_neg, opAnd, opOr, opXor, opDiff, opShr, opBit, hL, e0, e1, e2, e7, e10, e11, e12, hlt, q_x, g_x, l_x, r_x, s_x, t_x, u_x, ra_x, rb_x, rc_x, h3] <;> omega)), (by first | exact aK | exact kK)⟩
      (case hm => first | omega | (simp; omega))
      (case hf => simp [FrameL, hL, e0, e1, e2, e7, e10, e11, e12, hlt, q_x, g_x, l_x, r_x, s_x, t_x, u_x, ra_x, rb_x, rc_x, h3, f0_0, f1_0, f2_0, f10_0, f11_0])
    · have h3 : nAnd (nShr s j) 1 = 1 := by rw [h2, hb]; rfl
      have hs1 : sumT L s (j + 1) = sumT L s j := by rw [sumT, if_pos hb]
      try simp (disch := first | omega | (simp; done) | fail) [wrap64c, if_pos, if_neg, opAnd, opOr, opXor, opDiff, opShr, opBit, hL, e0, e1, e2, e7, e10, e11, e12, hlt, q_x, g_x, l_x, r_x, s_x, t_x, u_x, ra_x, rb_x, rc_x, h3, jobL, putCells]
      refine loopK_next _ ?hm ?hf ⟨j + 1, rfl, (by simp [hs1, e7]), (by simp (disch := first | omega | (simp; done) | fail) [wrap64c, if_pos, if_neg, opAnd, opOr, opXor, opDiff, opShr, opBit, hL, e0, e1, e2, e7, e10, e11, e12, hlt, q_x, g_x, l_x, r_x, s_x, t_x, u_x, ra_x, rb_x, rc_x, h3] <;> omega), (by first | omega | assumption | (simp (disch := first | omega | (simp; done) | fail) [wrap64c, if_pos, if_neg, opAnd, opOr, opXor, opDiff, opShr, opBit, hL, e0, e1, e2, e7, e10, e11, e12, hlt, q_x, g_x, l_x, r_x, s_x, t_x, u_x, ra_x, rb_x, rc_x, h3] <;> omega)), (by first | exact aK | exact kK)⟩
      (case hm => first | omega | (simp; omega))
      (case hf => simp [FrameL, hL, e0, e1, e2, e7, e10, e11, e12, hlt, q_x, g_x, l_x, r_x, s_x, t_x, u_x, ra_x, rb_x, rc_x, h3, f0_0, f1_0, f2_0, f10_0, f11_0])
  · have hje : j = L.length := by omega
    have hv1 := hv.keep ha
    obtain ⟨o_x, i_x, c_x, cs_x, own_x, ex_x, es_x, q_x, b_x, g_x, l_x, r_x, s_x, t_x, u_x, ra_x, rb_x, rc_x⟩ := hv1.open ((by omega))
    have hsl := sumT_le g s j hj
    have hat := g.at hi
    have hml := mul_le hat.2.1.1 hat.2.1.2 hsl.1 (by omega)
    try simp (disch := first | omega | (simp; done) | fail) [wrap64c, if_pos, if_neg, opAnd, opOr, opXor, opDiff, opShr, opBit, hL, e0, e1, e2, e7, e10, e11, e12, hlt, q_x, g_x, l_x, r_x, s_x, t_x, u_x, ra_x, rb_x, rc_x]
    refine WD_drawC 12 rfl (by kernel_rfl) ?_
    try simp (disch := first | omega | (simp; done) | fail) [wrap64c, if_pos, if_neg, opAnd, opOr, opXor, opDiff, opShr, opBit, hL, e0, e1, e2, e7, e10, e11, e12, hlt, q_x, g_x, l_x, r_x, s_x, t_x, u_x, ra_x, rb_x, rc_x]
    exact done_ret rfl (by simp [costN, hje, ha])
theorem grCost_ok (h : Hp) (v : Value) (L : List Job) (s i : Nat) (hv : Jobs h v L) (g : JobsOK L) (hs : s < 128) (hi : i < L.length) :
    CallOK Try.prog 207 #[v, .int .i64 (s : Int), .int .i64 (i : Int)] h (.int .i64 (costN L s i)) h := by
  refine callY_P 39 _ [.tmp 6] Try.func207 rfl rfl rfl (by first | rfl | simp) ?_
  have hL := hv.lenD
  have n7 := g.n7
  try simp (disch := first | omega | (simp; done) | fail) [wrap64c, if_pos, if_neg, opAnd, opOr, opXor, opDiff, opShr, opBit, hL]
  refine WD_loopC [0, 1, 2, 10, 11] (fun m tm h' => ∃ j, m = L.length - j ∧ tm 7 = .int .i64 (sumT L s j) ∧ tm 12 = .int .i64 (j : Int) ∧ (j ≤ L.length) ∧ (Keeps h h')) _ ⟨0, rfl, (by simp [sumT]), (by simp (disch := first | omega | (simp; done) | fail) [wrap64c, if_pos, if_neg, opAnd, opOr, opXor, opDiff, opShr, opBit, hL]), (by first | omega | assumption | (simp (disch := first | omega | (simp; done) | fail) [wrap64c, if_pos, if_neg, opAnd, opOr, opXor, opDiff, opShr, opBit, hL] <;> omega)), (Keeps.refl _)⟩ ?_
  rintro m tm h' hFr ⟨j, rfl, e7, e12, hj, ha⟩
  simp only [FrameL] at hFr
  obtain ⟨f0_0, f1_0, f2_0, f10_0, f11_0, -⟩ := hFr
  try simp (disch := first | omega | (simp; done) | fail) [wrap64c, if_pos, if_neg, opAnd, opOr, opXor, opDiff, opShr, opBit, hL] at f0_0 f1_0 f2_0 f10_0 f11_0
  have e0 := f0_0
  have e1 := f1_0
  have e2 := f2_0
  have e10 := f10_0
  have e11 := f11_0
  have ha1 := ha.1
  by_cases hlt : j < L.length
  · have hv1 := hv.keep ha
    obtain ⟨o_x, i_x, c_x, cs_x, own_x, ex_x, es_x, q_x, b_x, g_x, l_x, r_x, s_x, t_x, u_x, ra_x, rb_x, rc_x⟩ := hv1.open ((by omega))
    have hsl := sumT_le g s j hj
    have hat := g.at hlt
    try simp (disch := first | omega | (simp; done) | fail) [wrap64c, if_pos, if_neg, opAnd, opOr, opXor, opDiff, opShr, opBit, hL, e0, e1, e2, e7, e10, e11, e12, hlt, q_x, g_x, l_x, r_x, s_x, t_x, u_x, ra_x, rb_x, rc_x, jobL, putCells]
    first | refine WY_heap fun h2 q_h2 => ?_ | refine callG_heap fun h2 q_h2 => ?_ | refine callP_heap fun h2 q_h2 => ?_ | refine callS_heap fun h2 q_h2 => ?_ | refine RY_heap fun h2 q_h2 => ?_ | refine PY_heap fun h2 q_h2 => ?_ | refine SY_heap fun h2 q_h2 => ?_ | refine doneY_heap fun h2 q_h2 => ?_ | refine loopK_heap fun h2 q_h2 => ?_ | refine thenY_heap fun h2 q_h2 => ?_ | refine thenM_heap fun h2 q_h2 => ?_
    have k2 : Keeps h h2 := by rw [q_h2]; exact (by first | exact aK | exact kK)
    have g2 : h2.get h'.next = .cells [.int .i64 (jobAt L j).ti, .int .i64 (jobAt L j).ra, .int .i64 (jobAt L j).ba] true true 1 := by simp [q_h2, putCells]
    refine callG_c (by simp) (by simp) ?ha (spIn_ok h2 s j (by omega) (by omega)) ?_
    (case ha => simp (disch := first | omega | (simp; done) | fail) [wrap64c, if_pos, if_neg, opAnd, opOr, opXor, opDiff, opShr, opBit, hL, e0, e1, e2, e7, e10, e11, e12, hlt, q_x, g_x, l_x, r_x, s_x, t_x, u_x, ra_x, rb_x, rc_x, g2])
    cases hb : s.testBit j
    · have hs1 : sumT L s (j + 1) = sumT L s j + (jobAt L j).ti := by rw [sumT, if_neg (by simp [hb])]
      try simp (disch := first | omega | (simp; done) | fail) [wrap64c, if_pos, if_neg, opAnd, opOr, opXor, opDiff, opShr, opBit, hL, e0, e1, e2, e7, e10, e11, e12, hlt, q_x, g_x, l_x, r_x, s_x, t_x, u_x, ra_x, rb_x, rc_x, g2, hb]
      refine loopK_next _ ?hm ?hf ⟨j + 1, rfl, (by simp [hs1, e7]), (by simp (disch := first | omega | (simp; done) | fail) [wrap64c, if_pos, if_neg, opAnd, opOr, opXor, opDiff, opShr, opBit, hL, e0, e1, e2, e7, e10, e11, e12, hlt, q_x, g_x, l_x, r_x, s_x, t_x, u_x, ra_x, rb_x, rc_x, g2, hb] <;> omega), (by first | omega | assumption | (simp (disch := first | omega | (simp; done) | fail) [wrap64c, if_pos, if_neg, opAnd, opOr, opXor, opDiff, opShr, opBit, hL, e0, e1, e2, e7, e10, e11, e12, hlt, q_x, g_x, l_x, r_x, s_x, t_x, u_x, ra_x, rb_x, rc_x, g2, hb] <;> omega)), k2⟩
      (case hm => first | omega | (simp; omega))
      (case hf => simp [FrameL, hL, e0, e1, e2, e7, e10, e11, e12, hlt, q_x, g_x, l_x, r_x, s_x, t_x, u_x, ra_x, rb_x, rc_x, g2, hb, f0_0, f1_0, f2_0, f10_0, f11_0])
    · have hs1 : sumT L s (j + 1) = sumT L s j := by rw [sumT, if_pos hb]
      try simp (disch := first | omega | (simp; done) | fail) [wrap64c, if_pos, if_neg, opAnd, opOr, opXor, opDiff, opShr, opBit, hL, e0, e1, e2, e7, e10, e11, e12, hlt, q_x, g_x, l_x, r_x, s_x, t_x, u_x, ra_x, rb_x, rc_x, g2, hb]
      refine loopK_next _ ?hm ?hf ⟨j + 1, rfl, (by simp [hs1, e7]), (by simp (disch := first | omega | (simp; done) | fail) [wrap64c, if_pos, if_neg, opAnd, opOr, opXor, opDiff, opShr, opBit, hL, e0, e1, e2, e7, e10, e11, e12, hlt, q_x, g_x, l_x, r_x, s_x, t_x, u_x, ra_x, rb_x, rc_x, g2, hb] <;> omega), (by first | omega | assumption | (simp (disch := first | omega | (simp; done) | fail) [wrap64c, if_pos, if_neg, opAnd, opOr, opXor, opDiff, opShr, opBit, hL, e0, e1, e2, e7, e10, e11, e12, hlt, q_x, g_x, l_x, r_x, s_x, t_x, u_x, ra_x, rb_x, rc_x, g2, hb] <;> omega)), k2⟩
      (case hm => first | omega | (simp; omega))
      (case hf => simp [FrameL, hL, e0, e1, e2, e7, e10, e11, e12, hlt, q_x, g_x, l_x, r_x, s_x, t_x, u_x, ra_x, rb_x, rc_x, g2, hb, f0_0, f1_0, f2_0, f10_0, f11_0])
  · have hje : j = L.length := by omega
    have hv1 := hv.keep ha
    obtain ⟨o_x, i_x, c_x, cs_x, own_x, ex_x, es_x, q_x, b_x, g_x, l_x, r_x, s_x, t_x, u_x, ra_x, rb_x, rc_x⟩ := hv1.open ((by omega))
    have hsl := sumT_le g s j hj
    have hat := g.at hi
    have hml := mul_le hat.2.1.1 hat.2.1.2 hsl.1 (by omega)
    try simp (disch := first | omega | (simp; done) | fail) [wrap64c, if_pos, if_neg, opAnd, opOr, opXor, opDiff, opShr, opBit, hL, e0, e1, e2, e7, e10, e11, e12, hlt, q_x, g_x, l_x, r_x, s_x, t_x, u_x, ra_x, rb_x, rc_x]
    refine WD_drawC 12 rfl (by kernel_rfl) ?_
    try simp (disch := first | omega | (simp; done) | fail) [wrap64c, if_pos, if_neg, opAnd, opOr, opXor, opDiff, opShr, opBit, hL, e0, e1, e2, e7, e10, e11, e12, hlt, q_x, g_x, l_x, r_x, s_x, t_x, u_x, ra_x, rb_x, rc_x]
    exact done_ret rfl (by simp [costN, hje, ha])
end Go.Proofs.Ytnncipcldbopgaa
namespace Go.Proofs.Ytnncipcldbopgaa
set_option linter.unusedSimpArgs false
set_option linter.unusedVariables false
set_option maxHeartbeats 4000000
open Go Go.Eng
attribute [local irreducible] WD RunD PreD Runs CallOK
theorem appI2 {n : Nat} {h0 h : Hp} {v : Value} {xs : List Int} (hs : IntsA n h v xs) (x : Int) (hl : xs.length < 2 ^ 40) (hn : n ≤ h.next) (hA : Adds h0 h) (h0n : h0.next ≤ n) :
    ∃ v' h', appendD Try.prog 24 24 v (.slice (some ⟨h.next, 0, none⟩) 1 1) (h.alloc (.cells [.int .i64 x] true true 1)) = some (v', h') ∧ IntsA n h' v' (xs ++ [x]) ∧ Adds h0 h' ∧ h.next < h'.next ∧
      (∀ F : Nat → Prop, (∀ o, F o → o < h.next) → OffF F v → Same F h h' ∧ OffF F v') := by
  obtain ⟨v', h', g1, g2, g3, g4, g5, g6⟩ := append_one2 (P := Try.prog) (t := 24) (t' := 24) (x := x) (q := h.next) (h := h.alloc (.cells [.int .i64 x] true true 1)) (qx := true) (n := n) (v := v) (xs := xs) (by
    rcases hs with ⟨a, b⟩ | ⟨o, ex, a, b, c, d⟩
    · exact .inl ⟨a, b⟩
    · exact .inr ⟨o, ex, a, b, Nat.lt_succ_of_lt c, by simp [Nat.ne_of_lt c, d]⟩) ty_elT_24 ty_szT_3 ty_zeroT_3 ty_byT_3 (by decide) (by decide) (by simp) (by simp) hl (by simp; omega) (show Adds h0 _ from (by first | exact aK | exact kK)) h0n
  refine ⟨v', h', g1, g2, g3, Nat.lt_of_le_of_lt (by simp) g4, fun F hF hO => ⟨?_, g6 F fun o ho => Nat.lt_succ_of_lt (hF o ho)⟩⟩
  have := g5 F hO
  exact ⟨Nat.le_trans (Nat.le_succ _) this.1, fun o ho ho' => by rw [this.2 o ho (Nat.lt_succ_of_lt ho')]; simp [Nat.ne_of_lt ho']⟩
noncomputable def walkR (N : Int) (X ch : List Int) : List Int := if (spB N X && chB ch 20) = true then toN (walkS (fam (natsOf X)) N.toNat ch N.toNat).1 else []
theorem itemsK_eq {o n : Nat} (ho : o < bit n) (hn : n ≤ 7) : itemsK o n = itemsN o := by
  have : ∀ d, n + d ≤ 7 → itemsK o (n + d) = itemsK o n := by
    intro d
    induction d with
    | zero => intro _; rfl
    | succ d ih =>
      intro hd
      rw [show n + (d + 1) = n + d + 1 by omega, itemsK_succ, hi_bit ho (by omega)]
      exact ih (by omega)
  rw [items_eq]
  have h1 := this (7 - n) (by omega)
  rw [show n + (7 - n) = 7 by omega] at h1
  exact h1.symm
end Go.Proofs.Ytnncipcldbopgaa
