/- Chips drawn from bytes. -/
import Derived.Test.YtnnjehonbolliaaD2
import Derived.Test.YtnnjehonbolliaaA4
namespace Go.Proofs.Ytnnjehonbolliaa
set_option linter.unusedSimpArgs false
set_option linter.unusedVariables false
set_option maxHeartbeats 4000000
open Go Go.Eng
attribute [local irreducible] WD RunD PreD Runs CallOK

theorem l1MostD_ok (h : Hp) (a b : Int) : CallOK Try.prog 93 #[.int .i64 a, .int .i64 b] h (.int .i64 (if b < a then a else b)) h := by
  refine callY_P 10 _ [.tmp 4] Try.func93 rfl rfl rfl (by first | rfl | simp) ?_
  by_cases c : b < a
  · try simp (disch := first | omega | (simp; done) | fail) [wrap64c, if_pos, if_neg, c]
    exact done_ret rfl (by simp [c])
  · try simp (disch := first | omega | (simp; done) | fail) [wrap64c, if_pos, if_neg, c]
    exact done_ret rfl (by simp [c])
/-- Chips that lie in F. -/
def ChipsF (F : Nat → Prop) (h : Hp) (v : Value) (L : List (List Int)) (A : List Int) : Prop := ∃ a b, v = .agg #[a, b] ∧ IRowsF F h a L ∧ IntsF F h b A
theorem ChipsF.chips {F : Nat → Prop} {h : Hp} {v : Value} {L : List (List Int)} {A : List Int} (hv : ChipsF F h v L A) : Chips h v L A := by
  obtain ⟨a, b, e, h1, h2⟩ := hv
  exact ⟨a, b, e, h1.rows, h2.ints⟩
theorem ChipsF.same {F : Nat → Prop} {h h' : Hp} {v : Value} {L : List (List Int)} {A : List Int} (hv : ChipsF F h v L A) (hs : Same F h h') : ChipsF F h' v L A := by
  obtain ⟨a, b, e, h1, h2⟩ := hv
  exact ⟨a, b, e, h1.same hs, h2.same hs⟩
theorem rows_cur {n : Nat} {a b : Hp} {v : Value} {L : List (List Int)} (hs : IRowsA n a v L) (hn : a.next ≤ b.next) (hg : ∀ p, n ≤ p → p < a.next → b.get p = a.get p) : IRowsA n b v L := by
  rcases hs with ⟨x, y⟩ | ⟨o, ex, us, x, y, z, w, u⟩
  · exact .inl ⟨x, y⟩
  · refine .inr ⟨o, ex, us, x, y, Nat.lt_of_lt_of_le z hn, by rw [hg o y z]; exact w, ?_⟩
    obtain ⟨h1, T, h2, h3, h4⟩ := u
    refine ⟨h1, T, fun k x hk => ⟨(h2 k x hk).1, Nat.lt_of_lt_of_le (h2 k x hk).2.1 hn, (h2 k x hk).2.2⟩, h3, fun k hk => (h4 k hk).same ⟨hn, fun x hx hl => hg x (h2 k x hx).1 hl⟩⟩
theorem zeros_o {S : Nat → Prop} {h : Hp} {p n : Nat} {ex : Bool} (hg : h.get p = .cells (List.replicate n (.int .i64 0)) true ex 1) (hS : S p) (hp : p < h.next) (hn : n < 2 ^ 63) : IntsO S h (.slice (some ⟨p, 0, none⟩) n n) (List.replicate n 0) := by
  refine ⟨_, n, by simp, by simp, hn, .inr ⟨p, 0, _, ex, rfl, hS, hp, hg, by simp, fun k hk => ?_⟩⟩
  simp at hk
  simp [hk]
theorem DrW.put {hB a b : Hp} {o k : Nat} (x : DrW hB o k a b) (hA : Adds hB a) (ho : o < a.next) {p : Nat} (hp : a.next ≤ p) (c : List Value) (e : Bool) (n : Nat) : DrW hB o k a (b.put p (.cells c true e n)) := by
  have h1 := hA.1.1
  refine ⟨x.add.put (by omega) (fun _ => rfl), x.nx, fun q hq hne => ?_, x.cur.same ⟨Nat.le_refl _, fun q hq _ => ?_⟩⟩
  · simp only [Hp.put, show q ≠ p by omega, if_false]; exact x.sm q hq hne
  · simp only [Hp.put, show q ≠ p by omega, if_false]
/-- Chips under way. -/
structure CSt (hB h : Hp) (o k oa ol n : Nat) (L : List (List Int)) (A : List Int) (hh : Hp) : Prop where
  d : DrW hB o k h hh
  lo : h.next < oa
  lt : oa + 2 ≤ ol ∧ ol < hh.next
  g : hh.get h.next = .cells [.slice none 0 0, .slice none 0 0] true true 1
  gb : hh.get (oa + 1) = .cells [.slice (some ⟨ol, 0, none⟩) n n, .slice (some ⟨oa, 0, none⟩) n n] true true 1
  hr : IRowsO (fun x => oa + 2 ≤ x) hh (.slice (some ⟨ol, 0, none⟩) n n) L
  ha : IntsO (fun x => x = oa) hh (.slice (some ⟨oa, 0, none⟩) n n) A
  ll : L.length = n
  lr : ∀ x ∈ L, x.length = n
  la : A.length = n
theorem CSt.cur {hB h hh hh' : Hp} {o k k' oa ol n : Nat} {L : List (List Int)} {A : List Int} (c : CSt hB h o k oa ol n L A hh) (ho : o < h.next) (w : CurW hB.next o k' hh hh') : CSt hB h o k' oa ol n L A hh' := by
  have h1 := c.lo
  have h2 := c.lt
  have h3 := w.nx
  exact ⟨c.d.trans (w.dr c.d.add c.d.cur), c.lo, ⟨h2.1, by omega⟩, by rw [w.get _ (by omega) (by omega)]; exact c.g, by rw [w.get _ (by omega) (by omega)]; exact c.gb, c.hr.same (w.same fun p hp => by omega), c.ha.same (w.same fun p hp => by omega), c.ll, c.lr, c.la⟩
theorem CSt.mono {hB h hh : Hp} {o k k' oa ol n : Nat} {L : List (List Int)} {A : List Int} (c : CSt hB h o k oa ol n L A hh) (hk : k ≤ k') : CSt hB h o k' oa ol n L A hh := ⟨c.d.mono hk, c.lo, c.lt, c.g, c.gb, c.hr, c.ha, c.ll, c.lr, c.la⟩
/-- The chips' numbers, one of them written. -/
theorem CSt.at {hB h hh : Hp} {o k oa ol n : Nat} {L : List (List Int)} {A : List Int} (c : CSt hB h o k oa ol n L A hh) (hA : Adds hB h) (ho : o < h.next) (hn : 0 < n) : ∃ cs ex, hh.get oa = .cells cs true ex 1 ∧ n ≤ cs.length ∧ (∀ j (hj : j < A.length) (h2 : j < cs.length), cs[j] = .int .i64 A[j]) ∧
    ∀ j, j < n → ∀ x, CSt hB h o k oa ol n L (A.set j x) (hh.put oa (.cells (putCells cs j [.int .i64 x]) true ex 1)) := by
  have hla := c.la
  obtain ⟨o', i', c', cs, ex, q, S, b, g, l, r⟩ := c.ha.open (by omega)
  have e1 : oa = o' := by injection q with q1; injection q1 with q1; injection q1
  have e2 : i' = 0 := by injection q with q1; injection q1 with q1; injection q1 with _ q2; exact q2.symm
  subst e1; subst e2
  refine ⟨cs, ex, g, by omega, fun j hj h2 => by have := r j hj (by omega); simpa using this, fun j hj x => ?_⟩
  have hw := c.ha.write (k := j) q (by omega) g x
  rw [Nat.zero_add] at hw
  have h1 := c.lo
  have h2 := c.lt
  exact ⟨c.d.put hA ho (by omega) _ _ _, c.lo, c.lt, by simp [show h.next ≠ oa by omega, c.g], by simp [c.gb], c.hr.same (h := hh) (h' := hh.put oa _) ⟨Nat.le_refl _, fun p hp _ => by simp [show p ≠ oa by omega]⟩, hw, c.ll, c.lr, by simp [hla]⟩
/-- A row, one of its numbers written. -/
theorem CSt.row {hB h hh : Hp} {o k oa ol n : Nat} {L : List (List Int)} {A : List Int} (c : CSt hB h o k oa ol n L A hh) (hA : Adds hB h) (ho : o < h.next) {i : Nat} (hi : i < n) (hiL : i < L.length) : ∃ cs ex p q c' cs' ex', hh.get ol = .cells cs true ex 1 ∧ i < cs.length ∧ (∀ h2 : i < cs.length, cs[i] = .slice (some ⟨p, q, none⟩) n c') ∧
    hh.get p = .cells cs' true ex' 1 ∧ q + n ≤ cs'.length ∧ (∀ j (hj : j < L[i].length) (h2 : q + j < cs'.length), cs'[q + j] = .int .i64 L[i][j]) ∧ oa + 2 ≤ p ∧ p < hh.next ∧ p ≠ ol ∧ (∀ i2, i2 < L.length → i2 ≠ i → ∀ p2 q2 c2, (∀ h2 : i2 < cs.length, cs[i2] = .slice (some ⟨p2, q2, none⟩) n c2) → p2 ≠ p) ∧
    ∀ j, j < n → ∀ x, CSt hB h o k oa ol n (L.set i (L[i].set j x)) A (hh.put p (.cells (putCells cs' (q + j) [.int .i64 x]) true ex' 1)) := by
  have hll := c.ll
  have hlr := c.lr _ (List.getElem_mem hiL)
  obtain ⟨o', i', c0, cs, ex, us, T, q0, S, b, g, l, r, t, d, R⟩ := c.hr.open (by omega)
  have e1 : ol = o' := by injection q0 with q1; injection q1 with q1; injection q1
  have e2 : i' = 0 := by injection q0 with q1; injection q1 with q1; injection q1 with _ q2; exact q2.symm
  subst e1; subst e2
  have hs := getForm r i hiL (by omega)
  obtain ⟨p, q, c', cs', ex', q5, S5, b5, g5, l5, r5⟩ := (R i hiL).open (by omega)
  have ht := t i p S5
  have hlo := c.lo
  have hlt := c.lt
  refine ⟨cs, ex, p, q, c', cs', ex', g, by omega, fun h2 => ?_, g5, by omega, r5, ht.1, b5, ht.2, fun i2 hi2 hne p2 q2 c2 h2 e => ?_, fun j hj x => ?_⟩
  · rw [← hlr, ← q5, ← hs]; simp
  · obtain ⟨p', q', c'', _, _, q6, S6, _⟩ := (R i2 hi2).open (by have := c.lr _ (List.getElem_mem hi2); omega)
    have h3 := getForm r i2 hi2 (by omega)
    have h4 := h2 (by omega)
    simp only [Nat.zero_add] at h3
    rw [h3, q6] at h4
    injection h4 with h5
    injection h5 with h5
    injection h5 with h5
    exact hne (d i2 i p (by rw [← e, ← h5]; exact S6) S5)
  · have hw := (R i hiL).write (k := j) q5 (by omega) g5 x
    have hup : Upd (T i) hh (hh.put p (.cells (putCells cs' (q + j) [.int .i64 x]) true ex' 1)) := (Upd.refl _ _).put S5 _
    have hrow := c.hr.row q0 S b g l r t d R hiL hup hw
    have h1 := ht.1
    exact ⟨c.d.put hA ho (by omega) _ _ _, c.lo, c.lt, by simp [show h.next ≠ p by omega, c.g], by simp [show oa + 1 ≠ p by omega, c.gb], hrow, c.ha.same (h := hh) (h' := hh.put p _) ⟨Nat.le_refl _, fun x hx _ => by simp [show x ≠ p by omega]⟩, by simp [hll], fun x hx => by
      rcases List.mem_or_eq_of_mem_set hx with h | h
      · exact c.lr x h
      · rw [h]; simp [hlr], c.la⟩
theorem CSt.small {hB h hh : Hp} {o k oa ol n : Nat} {L : List (List Int)} {A : List Int} (c : CSt hB h o k oa ol n L A hh) (hn : n ≤ 4) : L.length ≤ 5 ∧ (∀ x ∈ L, x.length ≤ 4) ∧ A.length ≤ 4 :=
  ⟨by have := c.ll; omega, fun x hx => by have := c.lr x hx; omega, by have := c.la; omega⟩
theorem fin_ok {hB h hh : Hp} {o K k' : Nat} {a b : Value} {L : List (List Int)} {A : List Int} (hA : Adds hB h) (ho : o < h.next) (d : DrW hB o K h hh) (hr : IRowsF (fun x => h.next < x) hh a L) (ha : IntsF (fun x => h.next < x) hh b A) (hK : K ≤ k') (hl : L.length ≤ 5 ∧ (∀ x ∈ L, x.length ≤ 4) ∧ A.length ≤ 4) (cs : List Value) (e : Bool) (n : Nat) :
    DrW hB o k' h (hh.put h.next (.cells cs true e n)) ∧ ∃ L A, ChipsF (fun x => h.next ≤ x) (hh.put h.next (.cells cs true e n)) (.agg #[a, b]) L A ∧ L.length ≤ 5 ∧ (∀ x ∈ L, x.length ≤ 4) ∧ A.length ≤ 4 := by
  have hs : Same (fun x => h.next < x) hh (hh.put h.next (.cells cs true e n)) := ⟨Nat.le_refl _, fun x hx _ => by simp [show x ≠ h.next by omega]⟩
  exact ⟨(d.put hA ho (Nat.le_refl _) _ _ _).mono hK, L, A, ⟨a, b, rfl, (hr.same hs).sub fun x hx => Nat.le_of_lt hx, (ha.same hs).sub fun x hx => Nat.le_of_lt hx⟩, hl⟩
theorem app_nil {hB h hh : Hp} {o k oa ol n : Nat} {L : List (List Int)} {A : List Int} (c : CSt hB h o k oa ol n L A hh) (hA : Adds hB h) (ho : o < h.next) (hn : 0 < n ∧ n ≤ 4) :
    ∃ v' h', appendD Try.prog 24 24 (.slice (some ⟨ol, 0, none⟩) n n) (.slice (some ⟨hh.next, 0, none⟩) 1 1) (hh.alloc (.cells [.slice none 0 0] true true 1)) = some (v', h') ∧ notTup v' = true ∧ v'.cells = #[v'] ∧ DrW hB o k h h' ∧
      h'.get h.next = .cells [.slice none 0 0, .slice none 0 0] true true 1 ∧ h'.get (oa + 1) = .cells [.slice (some ⟨ol, 0, none⟩) n n, .slice (some ⟨oa, 0, none⟩) n n] true true 1 ∧ IRowsF (fun x => h.next < x ∧ x ≠ oa + 1) h' v' (L ++ [[]]) ∧ IntsF (fun x => h.next < x ∧ x ≠ oa + 1) h' (.slice (some ⟨oa, 0, none⟩) n n) A := by
  have hll := c.ll
  have hlt := c.lt
  have hlo := c.lo
  obtain ⟨o', i', c0, cs, ex, us, T, q0, S, b, g, l, r, t, d, R⟩ := c.hr.open (by omega)
  have e1 : ol = o' := by injection q0 with q1; injection q1 with q1; injection q1
  have e2 : i' = 0 := by injection q0 with q1; injection q1 with q1; injection q1 with _ q2; exact q2.symm
  subst e1; subst e2
  have hg : (hh.alloc (.cells [.slice none 0 0] true true 1)).get ol = .cells cs true ex 1 := by simp [show ol ≠ hh.next by omega, g]
  have hsrc : srcV (hh.alloc (.cells [.slice none 0 0] true true 1)) 1 (.slice (some ⟨hh.next, 0, none⟩) 1 1) = some (1, [.slice none 0 0]) := by
    simp [srcV]
  have hap : appendD Try.prog 24 24 (.slice (some ⟨ol, 0, none⟩) n n) (.slice (some ⟨hh.next, 0, none⟩) 1 1) (hh.alloc (.cells [.slice none 0 0] true true 1)) =
      some (.slice (some ⟨hh.next + 1, 0, none⟩) (n + 1) (n + 1), growHp (hh.alloc (.cells [.slice none 0 0] true true 1)) ol ex (.cells (cs.take n ++ [.slice none 0 0]) true false 1)) := by
    unfold appendD
    simp only [ty_elT_24, ty_szT_25, ty_zeroT_25, ty_byT_25, hsrc, hg]
    simp
    refine ⟨by omega, ?_⟩
    rw [if_neg (by omega), if_pos (by omega)]
  refine ⟨_, _, hap, rfl, rfl, ?_⟩
  generalize hG : growHp (hh.alloc (.cells [.slice none 0 0] true true 1)) ol ex (.cells (cs.take n ++ [.slice none 0 0]) true false 1) = G
  have gn : G.next = hh.next + 2 := by subst hG; unfold growHp; split <;> rfl
  have gget : ∀ p, p < hh.next → p ≠ ol → G.get p = hh.get p := by
    intro p h1 h2
    subst hG
    unfold growHp
    split <;> simp [Hp.alloc, Hp.put, show p ≠ hh.next by omega, show p ≠ hh.next + 1 by omega, h2]
  have gnew : G.get (hh.next + 1) = .cells (cs.take n ++ [.slice none 0 0]) true false 1 := by
    subst hG
    unfold growHp
    split <;> simp [Hp.alloc, Hp.put]
  have hB1 := hA.1.1
  have hAd : Adds hB G := by
    subst hG
    exact (c.d.add.trans (Adds.alloc hh (fun _ => rfl))).grow (by omega) (fun _ => rfl)
  have hlc : (cs.take n).length = n := by simp; omega
  refine ⟨⟨hAd, by have := c.d.nx; omega, fun p hp hne => ?_, c.d.cur.same ⟨by omega, fun x hx hl => gget x hl (by omega)⟩⟩, ?_, ?_, ?_, ?_⟩
  · have := c.d.nx
    rw [gget p (by omega) (by omega)]
    exact c.d.sm p hp hne
  · rw [gget _ (by omega) (by omega)]; exact c.g
  · rw [gget _ (by omega) (by omega)]; exact c.gb
  · refine ⟨_, n + 1, by simp [hll], by simp [hll], by omega, fun j x hx => ⟨hh.next + 1, 0, _, true, false, 1, rfl, ⟨by omega, by omega⟩, by omega, gnew, ?_, ?_⟩⟩
    · have := (List.getElem?_eq_some_iff.1 hx).1
      simp at this
      simp [hlc]; omega
    · obtain ⟨h1, h2⟩ := List.getElem?_eq_some_iff.1 hx
      simp at h1
      by_cases e : j < L.length
      · have h3 : (L ++ [[]])[j] = L[j] := List.getElem_append_left e
        rw [← h2, h3]
        have h4 : (cs.take n ++ [Value.slice none 0 0]).getD (0 + j) undef = us j := by
          rw [← r j e, List.getD_eq_getElem?_getD, List.getElem?_append_left (by omega), List.getElem?_take_of_lt (by omega)]
        rw [h4]
        exact ((R j e).read.same (h' := G) ⟨by omega, fun x hx hl => gget x hl (t j x hx).2⟩).sub fun x hx => ⟨by have := (t j x hx).1; omega, by have := (t j x hx).1; omega⟩
      · have e2 : j = n := by omega
        subst e2
        have h3 : (L ++ [[]])[j] = [] := by simp [← hll]
        rw [← h2, h3]
        have h4 : (cs.take j ++ [Value.slice none 0 0]).getD (0 + j) undef = .slice none 0 0 := by
          rw [List.getD_eq_getElem?_getD, List.getElem?_append_right (by omega), hlc]; simp
        rw [h4]
        exact ⟨none, 0, rfl, Nat.le_refl _, by decide, fun k x hx => by simp at hx⟩
  · exact (c.ha.read.same (h' := G) ⟨by omega, fun x hx hl => gget x hl (by omega)⟩).sub fun x hx => ⟨by omega, by omega⟩
theorem chips_ok (hB h : Hp) (o k : Nat) (hA : Adds hB h) (hc : CurS hB.next o k h) (hk : k + 1000 < 2 ^ 40) : ∃ v h', CallOK Try.prog 42 #[.pointer (some ⟨o, 0, none⟩)] h v h' ∧ DrW hB o (k + 1000) h h' ∧ ∃ L A, ChipsF (fun x => h.next ≤ x) h' v L A ∧ L.length ≤ 5 ∧ (∀ x ∈ L, x.length ≤ 4) ∧ A.length ≤ 4 := by
  refine callY_L (args := [.pointer (some ⟨o, 0, none⟩)]) 119 _ [.cell 2 27] Try.func42 rfl rfl rfl ?_
  try simp (disch := first | omega | (simp; done) | fail) [wrap64c, if_pos, if_neg]
  first | refine WY_heap fun h0 q_h0 => ?_ | refine callG_heap fun h0 q_h0 => ?_ | refine callP_heap fun h0 q_h0 => ?_ | refine callS_heap fun h0 q_h0 => ?_ | refine RY_heap fun h0 q_h0 => ?_ | refine PY_heap fun h0 q_h0 => ?_ | refine SY_heap fun h0 q_h0 => ?_ | refine doneY_heap fun h0 q_h0 => ?_ | refine loopK_heap fun h0 q_h0 => ?_ | refine thenY_heap fun h0 q_h0 => ?_ | refine thenM_heap fun h0 q_h0 => ?_
  have k0 : Adds h h0 := by rw [q_h0]; exact (by first | exact aK | exact kK)
  have n0 : h0.next = h.next + 1 := by simp [q_h0]
  have g0 : h0.get h.next = .cells [.slice none 0 0, .slice none 0 0] true true 1 := by simp [q_h0]
  have d0 := DrW.of_adds hA hc k0
  obtain ⟨v1, h1, c1, r1, q1, l1, w1⟩ := pick_ok hB.next o k h0 4 d0.cur (by omega)
  subst q1
  have d1 := d0.trans (w1.dr d0.add d0.cur)
  have hr1 := l1 (by omega)
  have g1 : h1.get h.next = .cells [.slice none 0 0, .slice none 0 0] true true 1 := by rw [w1.get _ (by omega) (by have := hc.bo; omega)]; exact g0
  obtain ⟨n, hn⟩ : ∃ n : Nat, n = 1 + r1 := ⟨_, rfl⟩
  have hn' : (1 + (r1 : Int)) = (n : Int) := by omega
  have hn4 : 1 ≤ n ∧ n ≤ 4 := by omega
  have hn0 : (n : Int) < 140737488355328 := by omega
  have hp2 : ∀ a b c d : Value, putCells [a, b] 0 [c, d] = [c, d] := fun _ _ _ _ => rfl
  refine callG_c (by simp) (by simp) ?ha (c1) ?_
  (case ha => simp (disch := first | omega | (simp; done) | fail) [wrap64c, if_pos, if_neg, hn', hn0, hp2])
  try simp (disch := first | omega | (simp; done) | fail) [wrap64c, if_pos, if_neg, hn', hn0, hp2]
  first | refine WY_heap fun h2 q_h2 => ?_ | refine callG_heap fun h2 q_h2 => ?_ | refine callP_heap fun h2 q_h2 => ?_ | refine callS_heap fun h2 q_h2 => ?_ | refine RY_heap fun h2 q_h2 => ?_ | refine PY_heap fun h2 q_h2 => ?_ | refine SY_heap fun h2 q_h2 => ?_ | refine doneY_heap fun h2 q_h2 => ?_ | refine loopK_heap fun h2 q_h2 => ?_ | refine thenY_heap fun h2 q_h2 => ?_ | refine thenM_heap fun h2 q_h2 => ?_
  have k2 : Adds h1 h2 := by rw [q_h2]; exact (by first | exact aK | exact kK)
  have d2 := d1.trans (DrW.of_adds d1.add d1.cur k2)
  have n2 : h2.next = h1.next + 2 := by simp [q_h2]
  have ga : h2.get h1.next = .cells (List.replicate n (.int .i64 0)) true true 1 := by simp [q_h2]
  have gb : h2.get (h1.next + 1) = .cells [.slice none 0 0, .slice (some ⟨h1.next, 0, none⟩) n n] true true 1 := by simp [q_h2]
  have nx1 : h.next < h1.next := by have := w1.nx; omega
  have hp1 : ∀ a b c : Value, putCells [a, b] 0 [c] = [c, b] := fun _ _ _ => rfl
  refine WD_loopC [0, 2, 3, 4] (fun m tm h' => ∃ v L j, m = n - j ∧ tm 5 = .int .i64 (j : Int) ∧ (IRowsA h2.next h' v L) ∧ (DrW hB o (k + 2) h h') ∧ (h'.get h1.next = .cells (List.replicate n (.int .i64 0)) true true 1) ∧ (h'.get (h1.next + 1) = .cells [v, .slice (some ⟨h1.next, 0, none⟩) n n] true true 1) ∧ (h'.get h.next = .cells [.slice none 0 0, .slice none 0 0] true true 1) ∧ (h2.next ≤ h'.next) ∧ (j ≤ n) ∧ (L.length = j) ∧ (∀ x ∈ L, x.length = n)) _ ⟨Value.slice none 0 0, [], 0, rfl, (by simp (disch := first | omega | (simp; done) | fail) [wrap64c, if_pos, if_neg, hn', hn0, hp2, hp1]), (.nil _ _), d2, ga, gb, (by rw [k2.1.2 _ nx1]; exact g1), (by first | omega | assumption | (simp (disch := first | omega | (simp; done) | fail) [wrap64c, if_pos, if_neg, hn', hn0, hp2, hp1] <;> omega)), (by first | omega | assumption | (simp (disch := first | omega | (simp; done) | fail) [wrap64c, if_pos, if_neg, hn', hn0, hp2, hp1] <;> omega)), rfl, (by simp)⟩ ?_
  rintro m tm h' hFr ⟨v, L, j, rfl, e5, hi, hd, ha, hb, hg, hx, hj, hl, hr⟩
  simp only [FrameL] at hFr
  obtain ⟨f0_0, f2_0, f3_0, f4_0, -⟩ := hFr
  try simp (disch := first | omega | (simp; done) | fail) [wrap64c, if_pos, if_neg, hn', hn0, hp2, hp1] at f0_0 f2_0 f3_0 f4_0
  have e0 := f0_0
  have e2 := f2_0
  have e3 := f3_0
  have e4 := f4_0
  have ntv := hi.nt
  have hb' := hb
  by_cases hjn : j < n
  · have hjn' : (j : Int) < (n : Int) := by omega
    try simp (disch := first | omega | (simp; done) | fail) [wrap64c, if_pos, if_neg, hn', hn0, hp2, hp1, e0, e2, e3, e4, e5, ntv, hb', hjn']
    refine WD_drawC 5 rfl (by kernel_rfl) ?_
    have ho1 : IntsO (Btw h'.next (h'.alloc (.cells (List.replicate n (.int .i64 0)) true true 1)).next) (h'.alloc (.cells (List.replicate n (.int .i64 0)) true true 1)) (.slice (some ⟨h'.next, 0, none⟩) n n) (List.replicate n 0) := zeros_o (ex := true) (by simp) (by simp [Btw]) (by simp) (by omega)
    obtain ⟨v3, h3, hap, hi3, k3, n3, s3⟩ := appR (h0 := hB) hi (Keeps.alloc h' _) ho1 (by omega) hx (hd.add.trans (Adds.alloc h' (fun _ => rfl))) (by have := d2.add.1.1; omega)
    rw [show (h'.alloc (.cells (List.replicate n (.int .i64 0)) true true 1)).next = h'.next + 1 from rfl] at hap
    have n3' : h'.next + 1 < h3.next := n3
    have s3' : ∀ p, p < h'.next → p < h2.next → h3.get p = h'.get p := fun p h1 h2 => by rw [s3 p (show p < h'.next + 1 by omega) h2]; simp [Hp.alloc, show p ≠ h'.next by omega]
    have hb3 := (s3' (h1.next + 1) (by omega) (by omega)).trans hb
    have ntv3 := hi3.nt
    have csv3 := (hi3.own (by simp; omega)).cs
    try simp (disch := first | omega | (simp; done) | fail) [wrap64c, if_pos, if_neg, hn', hn0, hp2, hp1, e0, e2, e3, e4, e5, ntv, hb', hjn', hb3, ntv3, csv3, hap]
    first | refine WY_heap fun h4 q_h4 => ?_ | refine callG_heap fun h4 q_h4 => ?_ | refine callP_heap fun h4 q_h4 => ?_ | refine callS_heap fun h4 q_h4 => ?_ | refine RY_heap fun h4 q_h4 => ?_ | refine PY_heap fun h4 q_h4 => ?_ | refine SY_heap fun h4 q_h4 => ?_ | refine doneY_heap fun h4 q_h4 => ?_ | refine loopK_heap fun h4 q_h4 => ?_ | refine thenY_heap fun h4 q_h4 => ?_ | refine thenM_heap fun h4 q_h4 => ?_
    have g4 : ∀ p, p ≠ h1.next + 1 → h4.get p = h3.get p := fun p hp => by simp [q_h4, hp]
    have n4 : h4.next = h3.next := by simp [q_h4]
    refine loopK_next _ ?hm ?hf ⟨v3, L ++ [List.replicate n 0], j + 1, rfl, (by simp (disch := first | omega | (simp; done) | fail) [wrap64c, if_pos, if_neg, hn', hn0, hp2, hp1, e0, e2, e3, e4, e5, ntv, hb', hjn', hb3, ntv3, csv3] <;> omega), (rows_cur hi3 (by omega) (fun p h1 h2 => g4 p (by omega))), (by rw [q_h4]; exact ((hd.app hA hc.bo.2 k3 (by omega) (fun p h1 h2 => s3' p h1 (by omega))).put hA hc.bo.2 (by omega) _ _ _)), (by rw [g4 _ (by omega), s3' _ (by omega) (by omega)]; exact ha), (by simp [q_h4]), (by rw [g4 _ (by omega), s3' _ (by omega) (by omega)]; exact hg), (by omega), (by first | omega | assumption | (simp (disch := first | omega | (simp; done) | fail) [wrap64c, if_pos, if_neg, hn', hn0, hp2, hp1, e0, e2, e3, e4, e5, ntv, hb', hjn', hb3, ntv3, csv3] <;> omega)), (by simp [hl]), ?c_hr⟩
    (case hm => first | omega | (simp; omega))
    (case hf => simp [FrameL, hn', hn0, hp2, hp1, e0, e2, e3, e4, e5, ntv, hb', hjn', hb3, ntv3, csv3, f0_0, f2_0, f3_0, f4_0])
    case c_hr =>
      exact (fun x hx => by
        rcases List.mem_append.1 hx with h | h
        · exact hr x h
        · simp at h; simp [h])
  · have hjn' : ¬ (j : Int) < (n : Int) := by omega
    have hjn2 : j = n := by omega
    have hown := hi.own (by omega)
    obtain ⟨ol, hv, hol⟩ : ∃ ol, v = .slice (some ⟨ol, 0, none⟩) n n ∧ h2.next ≤ ol ∧ ol < h'.next := by
      rcases hi with ⟨x, y⟩ | ⟨ol, ex, us, x, y, z, w, u⟩
      · subst x; simp at hl; omega
      · exact ⟨ol, by rw [x, hl, hjn2], y, z⟩
    have hst : CSt hB h o (k + 2) h1.next ol n L (List.replicate n 0) h' := ⟨hd, nx1, ⟨by omega, by omega⟩, hg, by rw [← hv]; exact hb, by rw [← hv]; exact hown.sub (fun x hx => by have := hx.1; omega), zeros_o (ex := true) ha rfl (by omega) (by omega), by omega, hr, by simp⟩
    try simp (disch := first | omega | (simp; done) | fail) [wrap64c, if_pos, if_neg, hn', hn0, hp2, hp1, e0, e2, e3, e4, e5, ntv, hb', hjn']
    refine WD_loopC [0, 2, 3, 4] (fun m tm h' => ∃ i ln K L1, m = n - i ∧ tm 6 = .int .i64 ((ln : Nat) : Int) ∧ tm 7 = .int .i64 (i : Int) ∧ (CSt hB h o K h1.next ol n L1 (List.replicate n 0) h') ∧ (i ≤ n) ∧ (K ≤ k + 2 + 16 * i) ∧ (ln ≤ 8 * i)) _ ⟨0, 0, k + 2, L, rfl, (by simp (disch := first | omega | (simp; done) | fail) [wrap64c, if_pos, if_neg, hn', hn0, hp2, hp1, e0, e2, e3, e4, e5, ntv, hb', hjn']), (by simp (disch := first | omega | (simp; done) | fail) [wrap64c, if_pos, if_neg, hn', hn0, hp2, hp1, e0, e2, e3, e4, e5, ntv, hb', hjn']), hst, (by first | omega | assumption | (simp (disch := first | omega | (simp; done) | fail) [wrap64c, if_pos, if_neg, hn', hn0, hp2, hp1, e0, e2, e3, e4, e5, ntv, hb', hjn'] <;> omega)), (by first | omega | assumption | (simp (disch := first | omega | (simp; done) | fail) [wrap64c, if_pos, if_neg, hn', hn0, hp2, hp1, e0, e2, e3, e4, e5, ntv, hb', hjn'] <;> omega)), (by first | omega | assumption | (simp (disch := first | omega | (simp; done) | fail) [wrap64c, if_pos, if_neg, hn', hn0, hp2, hp1, e0, e2, e3, e4, e5, ntv, hb', hjn'] <;> omega))⟩ ?_
    rintro m tm h' hFr ⟨i, ln, K, L1, rfl, e6, e7, hs, hi, hK, hln⟩
    simp only [FrameL] at hFr
    obtain ⟨f0_1, f2_1, f3_1, f4_1, -⟩ := hFr
    try simp (disch := first | omega | (simp; done) | fail) [wrap64c, if_pos, if_neg, hn', hn0, hp2, hp1, e0, e2, e3, e4, e5, ntv, hb', hjn'] at f0_1 f2_1 f3_1 f4_1
    have e0 := f0_1
    have e2 := f2_1
    have e3 := f3_1
    have e4 := f4_1
    by_cases hin : i < n
    · have hin' : (i : Int) < (n : Int) := by omega
      try simp (disch := first | omega | (simp; done) | fail) [wrap64c, if_pos, if_neg, hn', hn0, hp2, hp1, e0, e2, e3, e4, e5, ntv, hb', hjn', e6, e7, hin']
      refine WD_loopC [0, 2, 3, 4, 7] (fun m tm h' => ∃ j ln1 K1 L2, m = i - j ∧ tm 6 = .int .i64 ((ln1 : Nat) : Int) ∧ tm 8 = .int .i64 (j : Int) ∧ (CSt hB h o K1 h1.next ol n L2 (List.replicate n 0) h') ∧ (j ≤ i) ∧ (K1 ≤ K + 4 * j) ∧ (ln1 ≤ ln + 2 * j)) _ ⟨0, ln, K, L1, rfl, (by simp (disch := first | omega | (simp; done) | fail) [wrap64c, if_pos, if_neg, hn', hn0, hp2, hp1, e0, e2, e3, e4, e5, ntv, hb', hjn', e6, e7, hin']), (by simp (disch := first | omega | (simp; done) | fail) [wrap64c, if_pos, if_neg, hn', hn0, hp2, hp1, e0, e2, e3, e4, e5, ntv, hb', hjn', e6, e7, hin']), hs, (by first | omega | assumption | (simp (disch := first | omega | (simp; done) | fail) [wrap64c, if_pos, if_neg, hn', hn0, hp2, hp1, e0, e2, e3, e4, e5, ntv, hb', hjn', e6, e7, hin'] <;> omega)), (by first | omega | assumption | (simp (disch := first | omega | (simp; done) | fail) [wrap64c, if_pos, if_neg, hn', hn0, hp2, hp1, e0, e2, e3, e4, e5, ntv, hb', hjn', e6, e7, hin'] <;> omega)), (by first | omega | assumption | (simp (disch := first | omega | (simp; done) | fail) [wrap64c, if_pos, if_neg, hn', hn0, hp2, hp1, e0, e2, e3, e4, e5, ntv, hb', hjn', e6, e7, hin'] <;> omega))⟩ ?_
      rintro m tm h' hFr ⟨j, ln1, K1, L2, rfl, e6, e8, hs1, hj, hK1, hln1⟩
      simp only [FrameL] at hFr
      obtain ⟨f0_2, f2_2, f3_2, f4_2, f7_2, -⟩ := hFr
      try simp (disch := first | omega | (simp; done) | fail) [wrap64c, if_pos, if_neg, hn', hn0, hp2, hp1, e0, e2, e3, e4, e5, ntv, hb', hjn', e6, e7, hin'] at f0_2 f2_2 f3_2 f4_2 f7_2
      have e0 := f0_2
      have e2 := f2_2
      have e3 := f3_2
      have e4 := f4_2
      have e7 := f7_2
      by_cases hji : j < i
      · have hji' : (j : Int) < (i : Int) := by omega
        try simp (disch := first | omega | (simp; done) | fail) [wrap64c, if_pos, if_neg, hn', hn0, hp2, hp1, e0, e2, e3, e4, e5, ntv, hb', hjn', e6, e7, hin', e8, hji']
        obtain ⟨v4, h4, c4, b4, q4, w4⟩ := one_ok hB.next o K1 h' 2 hs1.d.cur (by omega)
        subst q4
        have s4 := hs1.cur hc.bo.2 w4
        refine callG_c (by simp) (by simp) ?ha (c4) ?_
        (case ha => simp (disch := first | omega | (simp; done) | fail) [wrap64c, if_pos, if_neg, hn', hn0, hp2, hp1, e0, e2, e3, e4, e5, ntv, hb', hjn', e6, e7, hin', e8, hji'])
        cases b4
        · try simp (disch := first | omega | (simp; done) | fail) [wrap64c, if_pos, if_neg, hn', hn0, hp2, hp1, e0, e2, e3, e4, e5, ntv, hb', hjn', e6, e7, hin', e8, hji']
          refine loopK_next _ ?hm ?hf ⟨j + 1, ln1, K1 + 2, L2, rfl, (by simp (disch := first | omega | (simp; done) | fail) [wrap64c, if_pos, if_neg, hn', hn0, hp2, hp1, e0, e2, e3, e4, e5, ntv, hb', hjn', e6, e7, hin', e8, hji'] <;> omega), (by simp (disch := first | omega | (simp; done) | fail) [wrap64c, if_pos, if_neg, hn', hn0, hp2, hp1, e0, e2, e3, e4, e5, ntv, hb', hjn', e6, e7, hin', e8, hji'] <;> omega), s4, (by first | omega | assumption | (simp (disch := first | omega | (simp; done) | fail) [wrap64c, if_pos, if_neg, hn', hn0, hp2, hp1, e0, e2, e3, e4, e5, ntv, hb', hjn', e6, e7, hin', e8, hji'] <;> omega)), (by omega), (by omega)⟩
          (case hm => first | omega | (simp; omega))
          (case hf => simp [FrameL, hn', hn0, hp2, hp1, e0, e2, e3, e4, e5, ntv, hb', hjn', e6, e7, hin', e8, hji', f0_2, f2_2, f3_2, f4_2, f7_2])
        · obtain ⟨v5, h5, c5, r5, q5, l5, w5⟩ := pick_ok hB.next o (K1 + 2) h4 6 s4.d.cur (by omega)
          subst q5
          have s5 := s4.cur hc.bo.2 w5
          have hr5 := l5 (by omega)
          obtain ⟨d, hd5, hd1⟩ : ∃ d : Nat, Int.tdiv (r5 : Int) 5 = (d : Int) ∧ d ≤ 1 := ⟨r5 / 5, by rw [Int.tdiv_eq_ediv_of_nonneg (by omega)]; simp, by omega⟩
          have hll := s5.ll
          obtain ⟨cs5, ex5, p5, z5, y5, cr5, er5, g5, li5, u5, gp5, lz5, rr5, lo5, lp5, ne5, df5, wr5⟩ := s5.row hA hc.bo.2 hin (by omega)
          have gb5 := s5.gb
          have s6 := wr5 j (by omega) (1 + (d : Int))
          obtain ⟨cs6, ex6, p6, z6, y6, cr6, er6, g6, li6, u6, gp6, lz6, rr6, lo6, lp6, ne6, _, wr6⟩ := s6.row hA hc.bo.2 (show j < n by omega) (by have := s6.ll; omega)
          have ecs : cs6 = cs5 := by simp [ne5.symm, g5] at g6; exact g6.1.symm
          subst ecs
          have hpp : p6 ≠ p5 := df5 j (by omega) (by omega) p6 z6 y6 u6
          have gp6' : h5.get p6 = .cells cr6 true er6 1 := by simpa [hpp] using gp6
          try simp (disch := first | omega | (simp; done) | fail) [wrap64c, if_pos, if_neg, hn', hn0, hp2, hp1, e0, e2, e3, e4, e5, ntv, hb', hjn', e6, e7, hin', e8, hji', hd5, gb5, g5, li5, u5, gp5, lz5, hpp, li6, u6, lz6, gp6']
          refine callG_c (by simp) (by simp) ?ha (c5) ?_
          (case ha => simp (disch := first | omega | (simp; done) | fail) [wrap64c, if_pos, if_neg, hn', hn0, hp2, hp1, e0, e2, e3, e4, e5, ntv, hb', hjn', e6, e7, hin', e8, hji', hd5, gb5, g5, li5, u5, gp5, lz5, hpp, li6, u6, lz6, gp6'])
          try simp (disch := first | omega | (simp; done) | fail) [wrap64c, if_pos, if_neg, hn', hn0, hp2, hp1, e0, e2, e3, e4, e5, ntv, hb', hjn', e6, e7, hin', e8, hji', hd5, gb5, g5, li5, u5, gp5, lz5, hpp, li6, u6, lz6, gp6']
          refine loopK_next _ ?hm ?hf ⟨j + 1, ln1 + (1 + d), K1 + 4, (L2.set i (L2[i].set j (1 + (d : Int)))).set j (((L2.set i (L2[i].set j (1 + (d : Int))))[j]'(by have := s6.ll; omega)).set i (1 + (d : Int))), rfl, (by simp (disch := first | omega | (simp; done) | fail) [wrap64c, if_pos, if_neg, hn', hn0, hp2, hp1, e0, e2, e3, e4, e5, ntv, hb', hjn', e6, e7, hin', e8, hji', hd5, gb5, g5, li5, u5, gp5, lz5, hpp, li6, u6, lz6, gp6'] <;> omega), (by simp (disch := first | omega | (simp; done) | fail) [wrap64c, if_pos, if_neg, hn', hn0, hp2, hp1, e0, e2, e3, e4, e5, ntv, hb', hjn', e6, e7, hin', e8, hji', hd5, gb5, g5, li5, u5, gp5, lz5, hpp, li6, u6, lz6, gp6'] <;> omega), ((wr6 i hin (1 + (d : Int))).mono (by omega)), (by first | omega | assumption | (simp (disch := first | omega | (simp; done) | fail) [wrap64c, if_pos, if_neg, hn', hn0, hp2, hp1, e0, e2, e3, e4, e5, ntv, hb', hjn', e6, e7, hin', e8, hji', hd5, gb5, g5, li5, u5, gp5, lz5, hpp, li6, u6, lz6, gp6'] <;> omega)), (by omega), (by omega)⟩
          (case hm => first | omega | (simp; omega))
          (case hf => simp [FrameL, hn', hn0, hp2, hp1, e0, e2, e3, e4, e5, ntv, hb', hjn', e6, e7, hin', e8, hji', hd5, gb5, g5, li5, u5, gp5, lz5, hpp, li6, u6, lz6, gp6', f0_2, f2_2, f3_2, f4_2, f7_2])
      · have hji' : ¬ (j : Int) < (i : Int) := by omega
        try simp (disch := first | omega | (simp; done) | fail) [wrap64c, if_pos, if_neg, hn', hn0, hp2, hp1, e0, e2, e3, e4, e5, ntv, hb', hjn', e6, e7, hin', e8, hji']
        refine loopK_next _ ?hm ?hf ⟨i + 1, ln1, K1, L2, rfl, (by simp (disch := first | omega | (simp; done) | fail) [wrap64c, if_pos, if_neg, hn', hn0, hp2, hp1, e0, e2, e3, e4, e5, ntv, hb', hjn', e6, e7, hin', e8, hji'] <;> omega), (by simp (disch := first | omega | (simp; done) | fail) [wrap64c, if_pos, if_neg, hn', hn0, hp2, hp1, e0, e2, e3, e4, e5, ntv, hb', hjn', e6, e7, hin', e8, hji'] <;> omega), hs1, (by first | omega | assumption | (simp (disch := first | omega | (simp; done) | fail) [wrap64c, if_pos, if_neg, hn', hn0, hp2, hp1, e0, e2, e3, e4, e5, ntv, hb', hjn', e6, e7, hin', e8, hji'] <;> omega)), (by omega), (by omega)⟩
        (case hm => first | omega | (simp; omega))
        (case hf => simp [FrameL, hn', hn0, hp2, hp1, e0, e2, e3, e4, e5, ntv, hb', hjn', e6, e7, hin', e8, hji', f0_1, f2_1, f3_1, f4_1])
    · have hin' : ¬ (i : Int) < (n : Int) := by omega
      obtain ⟨v7, h7, c7, r7, q7, l7, w7⟩ := pick_ok hB.next o K h' ((ln : Int) + 1) hs.d.cur (by omega)
      subst q7
      have s7 := hs.cur hc.bo.2 w7
      have hr7 := l7 (by omega)
      have hmo : (if (ln : Int) + 1 < 1 then (1 : Int) else (ln : Int) + 1) = (ln : Int) + 1 := if_neg (by omega)
      have hcm := l1MostD_ok h' 1 ((ln : Int) + 1)
      rw [hmo] at hcm
      try simp (disch := first | omega | (simp; done) | fail) [wrap64c, if_pos, if_neg, hn', hn0, hp2, hp1, e0, e2, e3, e4, e5, ntv, hb', hjn', e6, e7, hin']
      refine callG_c (by simp) (by simp) ?ha (hcm) ?_
      (case ha => simp (disch := first | omega | (simp; done) | fail) [wrap64c, if_pos, if_neg, hn', hn0, hp2, hp1, e0, e2, e3, e4, e5, ntv, hb', hjn', e6, e7, hin'])
      try simp (disch := first | omega | (simp; done) | fail) [wrap64c, if_pos, if_neg, hn', hn0, hp2, hp1, e0, e2, e3, e4, e5, ntv, hb', hjn', e6, e7, hin']
      refine callG_c (by simp) (by simp) ?ha (c7) ?_
      (case ha => simp (disch := first | omega | (simp; done) | fail) [wrap64c, if_pos, if_neg, hn', hn0, hp2, hp1, e0, e2, e3, e4, e5, ntv, hb', hjn', e6, e7, hin'])
      try simp (disch := first | omega | (simp; done) | fail) [wrap64c, if_pos, if_neg, hn', hn0, hp2, hp1, e0, e2, e3, e4, e5, ntv, hb', hjn', e6, e7, hin']
      refine WD_loopC [0, 2, 3, 4] (fun m tm h' => ∃ q K2 A2, m = r7 - q ∧ tm 10 = .int .i64 ((r7 : Int) - (q : Int)) ∧ (CSt hB h o K2 h1.next ol n L1 A2 h') ∧ (q ≤ r7) ∧ (K2 ≤ K + 2 + 2 * q)) _ ⟨0, K + 2, List.replicate n 0, rfl, (by simp), s7, (by first | omega | assumption | (simp (disch := first | omega | (simp; done) | fail) [wrap64c, if_pos, if_neg, hn', hn0, hp2, hp1, e0, e2, e3, e4, e5, ntv, hb', hjn', e6, e7, hin'] <;> omega)), (by first | omega | assumption | (simp (disch := first | omega | (simp; done) | fail) [wrap64c, if_pos, if_neg, hn', hn0, hp2, hp1, e0, e2, e3, e4, e5, ntv, hb', hjn', e6, e7, hin'] <;> omega))⟩ ?_
      rintro m tm h' hFr ⟨q, K2, A2, rfl, e10, hs2, hq, hK2⟩
      simp only [FrameL] at hFr
      obtain ⟨f0_3, f2_3, f3_3, f4_3, -⟩ := hFr
      try simp (disch := first | omega | (simp; done) | fail) [wrap64c, if_pos, if_neg, hn', hn0, hp2, hp1, e0, e2, e3, e4, e5, ntv, hb', hjn', e6, e7, hin'] at f0_3 f2_3 f3_3 f4_3
      have e0 := f0_3
      have e2 := f2_3
      have e3 := f3_3
      have e4 := f4_3
      by_cases hqr : q < r7
      · have hqr' : 0 < (r7 : Int) - (q : Int) := by omega
        obtain ⟨v8, h8, c8, r8, q8, l8, w8⟩ := pick_ok hB.next o K2 h' n hs2.d.cur (by omega)
        subst q8
        have s8 := hs2.cur hc.bo.2 w8
        have hr8 := l8 (by omega)
        have hr8' : r8 < n := by omega
        have gb8 := hs2.gb
        obtain ⟨cs8, ex8, g8, ln8, rr8, wr8⟩ := s8.at hA hc.bo.2 (by omega)
        have hla := s8.la
        have rr8' := rr8 r8 (by omega)
        have kf8 : KeepF (fun b => b = h1.next + 1 ∨ litF [] h'.next b) h' h8 := fun b hb => by
          rcases hb with rfl | hb
          · have := hs2.lt; have := hs2.lo; have := hc.bo
            exact w8.get _ (by omega) (by omega)
          · exact hb.elim
        try simp (disch := first | omega | (simp; done) | fail) [wrap64c, if_pos, if_neg, hn', hn0, hp2, hp1, e0, e2, e3, e4, e5, ntv, hb', hjn', e6, e7, hin', e10, hqr', hr8', gb8, rr8', g8, ln8]
        refine WD_softC [74] [] [] (fun b => b = h1.next + 1) rfl (by kernel_rfl) (by kernel_rfl) rfl ?_
        try simp (disch := first | omega | (simp; done) | fail) [wrap64c, if_pos, if_neg, hn', hn0, hp2, hp1, e0, e2, e3, e4, e5, ntv, hb', hjn', e6, e7, hin', e10, hqr', hr8', gb8, rr8', g8, ln8]
        refine callS_c (by simp) (by simp) ?ha (c8) ?hkf ?_
        (case ha => simp (disch := first | omega | (simp; done) | fail) [wrap64c, if_pos, if_neg, hn', hn0, hp2, hp1, e0, e2, e3, e4, e5, ntv, hb', hjn', e6, e7, hin', e10, hqr', hr8', gb8, rr8', g8, ln8])
        (case hkf => assumption)
        try simp (disch := first | omega | (simp; done) | fail) [wrap64c, if_pos, if_neg, hn', hn0, hp2, hp1, e0, e2, e3, e4, e5, ntv, hb', hjn', e6, e7, hin', e10, hqr', hr8', gb8, rr8', g8, ln8]
        refine loopK_next _ ?hm ?hf ⟨q + 1, K2 + 2, A2.set r8 (IntKind.wrap .i64 (A2[r8] + 1)), rfl, (by simp; omega), (wr8 r8 hr8' _), (by first | omega | assumption | (simp (disch := first | omega | (simp; done) | fail) [wrap64c, if_pos, if_neg, hn', hn0, hp2, hp1, e0, e2, e3, e4, e5, ntv, hb', hjn', e6, e7, hin', e10, hqr', hr8', gb8, rr8', g8, ln8] <;> omega)), (by omega)⟩
        (case hm => first | omega | (simp; omega))
        (case hf => simp [FrameL, hn', hn0, hp2, hp1, e0, e2, e3, e4, e5, ntv, hb', hjn', e6, e7, hin', e10, hqr', hr8', gb8, rr8', g8, ln8, f0_3, f2_3, f3_3, f4_3])
      · have hqr' : ¬ 0 < (r7 : Int) - (q : Int) := by omega
        obtain ⟨v9, h9, c9, r9, q9, l9, w9⟩ := pick_ok hB.next o K2 h' 14 hs2.d.cur (by omega)
        subst q9
        have s9 := hs2.cur hc.bo.2 w9
        have gb9 := s9.gb
        have g9 := s9.g
        have hlo9 := s9.lo
        have hlt9 := s9.lt
        have nx9 := w9.nx
        have hbo := hc.bo
        have hne9 : h.next ≠ h1.next + 1 := by omega
        try simp (disch := first | omega | (simp; done) | fail) [wrap64c, if_pos, if_neg, hn', hn0, hp2, hp1, e0, e2, e3, e4, e5, ntv, hb', hjn', e6, e7, hin', e10, hqr', gb9, g9, hne9]
        refine callG_c (by simp) (by simp) ?ha (c9) ?_
        (case ha => simp (disch := first | omega | (simp; done) | fail) [wrap64c, if_pos, if_neg, hn', hn0, hp2, hp1, e0, e2, e3, e4, e5, ntv, hb', hjn', e6, e7, hin', e10, hqr', gb9, g9, hne9])
        by_cases z0 : r9 = 0
        · subst z0
          try simp (disch := first | omega | (simp; done) | fail) [wrap64c, if_pos, if_neg, hn', hn0, hp2, hp1, e0, e2, e3, e4, e5, ntv, hb', hjn', e6, e7, hin', e10, hqr', gb9, g9, hne9]
          obtain ⟨hL, hLe⟩ : ∃ hL, hL = h9.alloc (.cells [.int .i64 (-1), .int .i64 30, .int .i64 31, .int .i64 4611686018427387904] true true 1) := ⟨_, rfl⟩
          have kL : Adds h9 hL := by rw [hLe]; exact (by first | exact aK | exact kK)
          have dL := DrW.of_adds s9.d.add s9.d.cur kL
          have sL : CSt hB h o (K2 + 2) h1.next ol n L1 A2 hL := ⟨s9.d.trans dL, s9.lo, ⟨hlt9.1, by have := kL.1.1; omega⟩, by rw [kL.1.2 _ (by omega)]; exact s9.g, by rw [kL.1.2 _ (by omega)]; exact s9.gb, s9.hr.keep kL.1, s9.ha.keep kL.1, s9.ll, s9.lr, s9.la⟩
          have gL : hL.get h9.next = .cells [.int .i64 (-1), .int .i64 30, .int .i64 31, .int .i64 4611686018427387904] true true 1 := by simp [hLe]
          have nL : hL.next = h9.next + 1 := by simp [hLe]
          obtain ⟨v10, h10, c10, r10, q10, l10, w10⟩ := pick_ok hB.next o (K2 + 2) hL n sL.d.cur (by omega)
          subst q10
          have s10 := sL.cur hc.bo.2 w10
          have hr10 := l10 (by omega)
          have n10 := w10.nx
          have g10 : h10.get h9.next = .cells [.int .i64 (-1), .int .i64 30, .int .i64 31, .int .i64 4611686018427387904] true true 1 := by rw [w10.get _ (by omega) (by omega)]; exact gL
          have i10 : IntsF (fun x => x ≠ o) h10 (.slice (some ⟨h9.next, 0, none⟩) 4 4) [-1, 30, 31, 4611686018427387904] := lit_ints (xs := [-1, 30, 31, 4611686018427387904]) (by simpa using g10) (by omega) (by omega) (by simp)
          obtain ⟨v11, h11, c11, r11, p11, q11, w11⟩ := among_ok hB.next o (K2 + 2 + 2) h10 _ _ s10.d.cur (by omega) i10 (by simp)
          subst q11
          have s11 := s10.cur hc.bo.2 w11
          generalize hx11 : [-1, 30, 31, 4611686018427387904][r11] = x11 at c11
          obtain ⟨cs12, ex12, g12, ln12, rr12, wr12⟩ := s11.at hA hc.bo.2 (by omega)
          have hr10' : r10 < n := by omega
          have s13 := wr12 r10 hr10' x11
          have gL' := gL
          have g12' := g12
          have kf1 : KeepF (fun b => b = h1.next + 1 ∨ litF [92] h9.next b) hL h10 := fun b hb => by
            rcases hb with rfl | rfl | hb
            · exact w10.get _ (by omega) (by omega)
            · exact w10.get _ (by omega) (by omega)
            · exact hb.elim
          have kf2 : KeepF (fun b => b = h1.next + 1 ∨ litF [92] h9.next b) h10 h11 := fun b hb => by
            rcases hb with rfl | rfl | hb
            · exact w11.get _ (by omega) (by omega)
            · exact w11.get _ (by omega) (by omega)
            · exact hb.elim
          refine WD_softC [87] [92] [([.int .i64 (-1), .int .i64 30, .int .i64 31, .int .i64 4611686018427387904], 1)] (fun b => b = h1.next + 1) rfl (by kernel_rfl) (by kernel_rfl) rfl ?_
          simp only [allocL_c, allocL_n]
          rw [← hLe]
          have gbL := sL.gb
          try simp (disch := first | omega | (simp; done) | fail) [wrap64c, if_pos, if_neg, hn', hn0, hp2, hp1, e0, e2, e3, e4, e5, ntv, hb', hjn', e6, e7, hin', e10, hqr', gb9, g9, hne9, hr10', gL', nL, g10, g12', ln12, gbL]
          refine callS_c (by simp) (by simp) ?ha (c10) ?hkf ?_
          (case ha => simp (disch := first | omega | (simp; done) | fail) [wrap64c, if_pos, if_neg, hn', hn0, hp2, hp1, e0, e2, e3, e4, e5, ntv, hb', hjn', e6, e7, hin', e10, hqr', gb9, g9, hne9, hr10', gL', nL, g10, g12', ln12, gbL])
          (case hkf => assumption)
          try simp (disch := first | omega | (simp; done) | fail) [wrap64c, if_pos, if_neg, hn', hn0, hp2, hp1, e0, e2, e3, e4, e5, ntv, hb', hjn', e6, e7, hin', e10, hqr', gb9, g9, hne9, hr10', gL', nL, g10, g12', ln12, gbL]
          refine callS_c (by simp) (by simp) ?ha (c11) ?hkf ?_
          (case ha => simp (disch := first | omega | (simp; done) | fail) [wrap64c, if_pos, if_neg, hn', hn0, hp2, hp1, e0, e2, e3, e4, e5, ntv, hb', hjn', e6, e7, hin', e10, hqr', gb9, g9, hne9, hr10', gL', nL, g10, g12', ln12, gbL])
          (case hkf => assumption)
          have gb11 := s11.gb
          have gc11 := s11.g
          try simp (disch := first | omega | (simp; done) | fail) [wrap64c, if_pos, if_neg, hn', hn0, hp2, hp1, e0, e2, e3, e4, e5, ntv, hb', hjn', e6, e7, hin', e10, hqr', gb9, g9, hne9, hr10', gL', nL, g10, g12', ln12, gbL, gb11, gc11]
          have hf := fin_ok hA hc.bo.2 s13.d ((s13.hr.read).sub fun x hx => by have := s13.lo; omega) ((s13.ha.read).sub fun x hx => by have := s13.lo; omega) (show K2 + 2 + 2 + 2 ≤ k + 1000 by omega) (s13.small hn4.2) [.slice (some ⟨ol, 0, none⟩) n n, .slice (some ⟨h1.next, 0, none⟩) n n] true 1
          exact done_ret (vs := [_]) (by simp [resL, e2]) hf
        have z0' : ¬ (r9 : Int) = 0 := by omega
        by_cases z1 : r9 = 1
        · subst z1
          obtain ⟨v10, h10, c10, r10, q10, l10, w10⟩ := pick_ok hB.next o (K2 + 2) h9 n s9.d.cur (by omega)
          subst q10
          have s10 := s9.cur hc.bo.2 w10
          have hr10 := l10 (by omega)
          have n10 := w10.nx
          obtain ⟨v11, h11, c11, r11, q11, l11, w11⟩ := pick_ok hB.next o (K2 + 2 + 2) h10 n s10.d.cur (by omega)
          subst q11
          have s11 := s10.cur hc.bo.2 w11
          have hr11 := l11 (by omega)
          have hr10' : r10 < n := by omega
          have hr11' : r11 < n := by omega
          have hll := s11.ll
          obtain ⟨cs5, ex5, p5, z5, y5, cr5, er5, g5, li5, u5, gp5, lz5, rr5, lo5, lp5, ne5, df5, wr5⟩ := s11.row hA hc.bo.2 (show r10 < n by omega) (by omega)
          have g5a : h10.get ol = .cells cs5 true ex5 1 := by rw [← w11.get ol (by omega) (by omega)]; exact g5
          have hlr := s11.lr _ (List.getElem_mem (show r10 < L1.length by omega))
          have rr5' := rr5 r11 (by omega)
          have s12 := wr5 r11 (by omega) (IntKind.wrap .i64 (L1[r10][r11] + 1))
          have gb12 := s12.gb
          have gc12 := s12.g
          have kf1 : KeepF (fun b => (b = h1.next + 1 ∨ b = ol) ∨ litF [] h9.next b) h9 h10 := fun b hb => by
            rcases hb with (rfl | rfl) | hb
            · exact w10.get _ (by omega) (by omega)
            · exact w10.get _ (by omega) (by omega)
            · exact hb.elim
          have kf2 : KeepF (fun b => (b = h1.next + 1 ∨ b = ol) ∨ litF [] h9.next b) h10 h11 := fun b hb => by
            rcases hb with (rfl | rfl) | hb
            · exact w11.get _ (by omega) (by omega)
            · exact w11.get _ (by omega) (by omega)
            · exact hb.elim
          try simp (disch := first | omega | (simp; done) | fail) [wrap64c, if_pos, if_neg, hn', hn0, hp2, hp1, e0, e2, e3, e4, e5, ntv, hb', hjn', e6, e7, hin', e10, hqr', gb9, g9, hne9, z0', hr10', hr11', rr5', li5, u5, gp5, lz5, g5a, gb12, gc12]
          refine WD_softC [98,103] [] [] (fun b => b = h1.next + 1 ∨ b = ol) rfl (by kernel_rfl) (by kernel_rfl) rfl ?_
          try simp (disch := first | omega | (simp; done) | fail) [wrap64c, if_pos, if_neg, hn', hn0, hp2, hp1, e0, e2, e3, e4, e5, ntv, hb', hjn', e6, e7, hin', e10, hqr', gb9, g9, hne9, z0', hr10', hr11', rr5', li5, u5, gp5, lz5, g5a, gb12, gc12]
          refine callS_c (by simp) (by simp) ?ha (c10) ?hkf ?_
          (case ha => simp (disch := first | omega | (simp; done) | fail) [wrap64c, if_pos, if_neg, hn', hn0, hp2, hp1, e0, e2, e3, e4, e5, ntv, hb', hjn', e6, e7, hin', e10, hqr', gb9, g9, hne9, z0', hr10', hr11', rr5', li5, u5, gp5, lz5, g5a, gb12, gc12])
          (case hkf => assumption)
          try simp (disch := first | omega | (simp; done) | fail) [wrap64c, if_pos, if_neg, hn', hn0, hp2, hp1, e0, e2, e3, e4, e5, ntv, hb', hjn', e6, e7, hin', e10, hqr', gb9, g9, hne9, z0', hr10', hr11', rr5', li5, u5, gp5, lz5, g5a, gb12, gc12]
          refine callS_c (by simp) (by simp) ?ha (c11) ?hkf ?_
          (case ha => simp (disch := first | omega | (simp; done) | fail) [wrap64c, if_pos, if_neg, hn', hn0, hp2, hp1, e0, e2, e3, e4, e5, ntv, hb', hjn', e6, e7, hin', e10, hqr', gb9, g9, hne9, z0', hr10', hr11', rr5', li5, u5, gp5, lz5, g5a, gb12, gc12])
          (case hkf => assumption)
          have hpo : ¬ p5 = h1.next + 1 := by omega
          have gb11 := s11.gb
          have gc11 := s11.g
          try simp (disch := first | omega | (simp; done) | fail) [wrap64c, if_pos, if_neg, hn', hn0, hp2, hp1, e0, e2, e3, e4, e5, ntv, hb', hjn', e6, e7, hin', e10, hqr', gb9, g9, hne9, z0', hr10', hr11', rr5', li5, u5, gp5, lz5, g5a, gb12, gc12, hpo, ne5, gb11, gc11]
          have hf := fin_ok hA hc.bo.2 s12.d ((s12.hr.read).sub fun x hx => by have := s12.lo; omega) ((s12.ha.read).sub fun x hx => by have := s12.lo; omega) (show K2 + 2 + 2 + 2 ≤ k + 1000 by omega) (s12.small hn4.2) [.slice (some ⟨ol, 0, none⟩) n n, .slice (some ⟨h1.next, 0, none⟩) n n] true 1
          exact done_ret (vs := [_]) (by simp [resL, e2]) hf
        have z1' : ¬ (r9 : Int) = 1 := by omega
        by_cases z2 : r9 = 2
        · subst z2
          obtain ⟨v10, h10, hap, ntv10, csv10, d10, g10, gb10, hr10, ha10⟩ := app_nil s9 hA hc.bo.2 (by omega)
          have g10' := g10
          try simp (disch := first | omega | (simp; done) | fail) [wrap64c, if_pos, if_neg, hn', hn0, hp2, hp1, e0, e2, e3, e4, e5, ntv, hb', hjn', e6, e7, hin', e10, hqr', gb9, g9, hne9, z0', z1', g10', gb10, ntv10, csv10, hap]
          have hs10 : Same (fun x => h.next < x ∧ x ≠ h1.next + 1) h10 (h10.put (h1.next + 1) (.cells [v10, .slice (some ⟨h1.next, 0, none⟩) n n] true true 1)) := ⟨Nat.le_refl _, fun x hx _ => by simp [hx.2]⟩
          have hf := fin_ok hA hc.bo.2 (d10.put hA hc.bo.2 (show h.next ≤ h1.next + 1 by omega) [v10, .slice (some ⟨h1.next, 0, none⟩) n n] true 1) ((hr10.same hs10).sub fun x hx => hx.1) ((ha10.same hs10).sub fun x hx => hx.1) (show K2 + 2 ≤ k + 1000 by omega) (by
            obtain ⟨x1, x2, x3⟩ := s9.small hn4.2
            have := s9.ll
            exact ⟨by simp; omega, fun x hx => by rcases List.mem_append.1 hx with h | h; exact x2 x h; simp at h; simp [h], x3⟩) [v10, .slice (some ⟨h1.next, 0, none⟩) n n] true 1
          exact done_ret (vs := [_]) (by simp [resL, e2]) hf
        have z2' : ¬ (r9 : Int) = 2 := by omega
        try simp (disch := first | omega | (simp; done) | fail) [wrap64c, if_pos, if_neg, hn', hn0, hp2, hp1, e0, e2, e3, e4, e5, ntv, hb', hjn', e6, e7, hin', e10, hqr', gb9, g9, hne9, z0', z1', z2']
        have hf := fin_ok hA hc.bo.2 s9.d ((s9.hr.read).sub fun x hx => by omega) ((s9.ha.read).sub fun x hx => by omega) (show K2 + 2 ≤ k + 1000 by omega) (s9.small hn4.2) [.slice (some ⟨ol, 0, none⟩) n n, .slice (some ⟨h1.next, 0, none⟩) n n] true 1
        exact done_ret (vs := [_]) (by simp [resL, e2]) hf
end Go.Proofs.Ytnnjehonbolliaa
