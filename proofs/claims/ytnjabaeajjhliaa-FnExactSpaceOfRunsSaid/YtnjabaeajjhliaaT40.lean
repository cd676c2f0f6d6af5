/- What the program keeps of runs of chips: a map from moves to numbers of full runs. -/
import Derived.Test.YtnjabaeajjhliaaT36
namespace Go.Proofs.Ytnjabaeajjhliaa
set_option linter.unusedSimpArgs false
set_option linter.unusedVariables false
set_option maxHeartbeats 4000000
open Go Go.Eng

/-- Moves at five places at most, as a key. -/
def pad (x : List Int) : List Int := x ++ List.replicate (5 - x.length) 0
def keyC (x : List Int) : Value := .agg ((pad x).map (.int .i64)).toArray
theorem pad_len {x : List Int} (h : x.length ≤ 5) : (pad x).length = 5 := by simp [pad]; omega
theorem pad_five {x : List Int} (h : x.length ≤ 5) : ∃ a b c d e, pad x = [a, b, c, d, e] := by
  have := pad_len h
  match hp : pad x, this with
  | [a, b, c, d, e], _ => exact ⟨a, b, c, d, e, rfl⟩
theorem keyC_five {x : List Int} {a b c d e : Int} (h : pad x = [a, b, c, d, e]) : keyC x = .agg #[.int .i64 a, .int .i64 b, .int .i64 c, .int .i64 d, .int .i64 e] := by simp [keyC, h]
theorem keyC_ok {x : List Int} (h : x.length ≤ 5) : isKey 5 (keyC x) = true := by
  obtain ⟨a, b, c, d, e, h⟩ := pad_five h
  rw [keyC_five h]; rfl
theorem pad_inj {x y : List Int} (hl : x.length = y.length) (h : pad x = pad y) : x = y := by
  have := congrArg (List.take x.length) h
  unfold pad at this
  rw [List.take_left' rfl, hl, List.take_left' rfl] at this
  exact this
theorem keyB_C {x y : List Int} (hx : x.length ≤ 5) (hl : x.length = y.length) : keyB (keyC x) (keyC y) = true ↔ x = y := by
  rw [keyB_iff (keyC_ok hx) (keyC_ok (by omega))]
  constructor
  · intro h
    refine pad_inj hl ?_
    obtain ⟨a, b, c, d, e, h1⟩ := pad_five hx
    obtain ⟨a', b', c', d', e', h2⟩ := pad_five (show y.length ≤ 5 by omega)
    rw [keyC_five h1, keyC_five h2] at h
    rw [h1, h2]
    simpa using h
  · rintro rfl; rfl
theorem pad_set {x : List Int} {i : Nat} (hi : i < x.length) (v : Int) : pad (x.set i v) = (pad x).set i v := by
  unfold pad
  rw [List.set_append_left _ _ hi, List.length_set]
theorem pad_at {x : List Int} {i : Nat} (hi : i < x.length) (h : i < (pad x).length) : (pad x)[i] = x[i] := by
  have h1 : (pad x)[i]? = some x[i] := by unfold pad; rw [List.getElem?_append_left hi]; exact List.getElem?_eq_getElem hi
  rw [List.getElem?_eq_getElem h] at h1
  exact Option.some.inj h1

variable {L : List (List Int)} {A : List Int} {R : Nat}
/-- What the map says is so. -/
def MemC (L : List (List Int)) (A : List Int) (R : Nat) (es : List (Value × Value)) : Prop := ∀ e ∈ es, ∃ (x B : List Int) (m : Nat), e.1 = keyC x ∧ Rn L A x B ∧ x.sum + (m : Int) = R ∧ e.2 = .int .i64 ((capN (wN L m B) : Nat) : Int)
def hasK (es : List (Value × Value)) (x : List Int) : Prop := ∃ e ∈ es, e.1 = keyC x
theorem MemC.keys (hs : Shape L A.length) {es : List (Value × Value)} (h : MemC L A R es) : keysOK 5 es = true := by
  unfold keysOK
  rw [List.all_eq_true]
  intro e he
  obtain ⟨x, B, m, e1, hr, _⟩ := h e he
  rw [e1]
  exact keyC_ok (by have := hr.len.2; have := hs.le; omega)
theorem MemC.get (hs : Shape L A.length) {x B : List Int} {n : Nat} (hr : Rn L A x B) (hx : x.sum + (n : Int) = R) : ∀ {es : List (Value × Value)}, MemC L A R es →
    mapGet es (keyC x) = none ∨ (mapGet es (keyC x) = some (.int .i64 ((capN (wN L n B) : Nat) : Int)) ∧ hasK es x)
  | [], _ => .inl rfl
  | e :: es, h => by
    obtain ⟨x', B', m, e1, hr', hx', e2⟩ := h e (by simp)
    have hl := hr.len.2
    have hl' := hr'.len.2
    have h5 := hs.le
    rw [mapGet]
    by_cases hk : keyB e.1 (keyC x) = true
    · rw [if_pos hk]
      right
      rw [e1] at hk
      have := (keyB_C (by omega) (by omega)).1 hk
      subst this
      have hB := hr.same hr' hs
      subst hB
      have : m = n := by omega
      subst this
      exact ⟨by rw [e2], e, by simp, e1⟩
    · rw [if_neg hk]
      rcases MemC.get hs hr hx (es := es) (fun e he => h e (by simp [he])) with h1 | ⟨h1, q, hq, hq2⟩
      · exact .inl h1
      · exact .inr ⟨h1, q, by simp [hq], hq2⟩
theorem MemC.put {x B : List Int} {n : Nat} (hr : Rn L A x B) (hx : x.sum + (n : Int) = R) : ∀ {es : List (Value × Value)}, MemC L A R es → MemC L A R (mapPut es (keyC x) (.int .i64 ((capN (wN L n B) : Nat) : Int)))
  | [], _ => by
    intro e he
    simp only [mapPut, List.mem_singleton] at he
    subst he
    exact ⟨x, B, n, rfl, hr, hx, rfl⟩
  | e :: es, h => by
    rw [mapPut]
    split
    · intro q hq
      rcases List.mem_cons.1 hq with rfl | hq
      · exact ⟨x, B, n, rfl, hr, hx, rfl⟩
      · exact h q (by simp [hq])
    · intro q hq
      rcases List.mem_cons.1 hq with rfl | hq
      · exact h q (by simp)
      · exact MemC.put hr hx (fun e he => h e (by simp [he])) q hq
theorem hasK_put {n : Nat} {x y : List Int} {v : Value} (h5 : n ≤ 5) (hx : x.length = n) : ∀ {es : List (Value × Value)}, (∀ e ∈ es, ∃ z, e.1 = keyC z ∧ z.length = n) → (hasK (mapPut es (keyC x) v) y ↔ keyC y = keyC x ∨ hasK es y)
  | [], _ => by simp [mapPut, hasK, eq_comm]
  | e :: es, h => by
    obtain ⟨z, e1, hz⟩ := h e (by simp)
    rw [mapPut]
    split
    · rename_i hk
      rw [e1] at hk
      have := (keyB_C (by omega) (by omega)).1 hk
      subst this
      constructor
      · rintro ⟨q, hq, hqe⟩
        rcases List.mem_cons.1 hq with rfl | hq
        · exact .inl hqe.symm
        · exact .inr ⟨q, by simp [hq], hqe⟩
      · rintro (he | ⟨q, hq, hqe⟩)
        · exact ⟨(keyC z, v), by simp, he.symm⟩
        · rcases List.mem_cons.1 hq with rfl | hq
          · exact ⟨(keyC z, v), by simp, by rw [← hqe, e1]⟩
          · exact ⟨q, by simp [hq], hqe⟩
    · have ih := hasK_put (y := y) (v := v) h5 hx (es := es) (fun e he => h e (by simp [he]))
      constructor
      · rintro ⟨q, hq, hqe⟩
        rcases List.mem_cons.1 hq with rfl | hq
        · exact .inr ⟨q, by simp, hqe⟩
        · rcases ih.1 ⟨q, hq, hqe⟩ with h1 | ⟨q', h1, h2⟩
          · exact .inl h1
          · exact .inr ⟨q', by simp [h1], h2⟩
      · rintro (he | ⟨q, hq, hqe⟩)
        · obtain ⟨q', h1, h2⟩ := ih.2 (.inl he)
          exact ⟨q', by simp [h1], h2⟩
        · rcases List.mem_cons.1 hq with rfl | hq
          · exact ⟨q, by simp, hqe⟩
          · obtain ⟨q', h1, h2⟩ := ih.2 (.inr ⟨q, hq, hqe⟩)
            exact ⟨q', by simp [h1], h2⟩
theorem MemC.lens {es : List (Value × Value)} (h : MemC L A R es) : ∀ e ∈ es, ∃ z, e.1 = keyC z ∧ z.length = A.length := fun e he => by
  obtain ⟨x, B, m, e1, hr, _⟩ := h e he
  exact ⟨x, e1, hr.len.2⟩
/-- What the map knows, it knows with all that follows. -/
def ClosedK (L : List (List Int)) (A : List Int) (es : List (Value × Value)) : Prop := ∀ x B i, Rn L A x B → hasK es x → i < B.length → canB L B i = true → hasK es (x.set i (x.getD i 0 + 1))
theorem ClosedK.all {es : List (Value × Value)} (h : ClosedK L A es) (h0 : hasK es (List.replicate A.length 0)) {x B : List Int} (hr : Rn L A x B) : hasK es x := by
  induction hr with
  | zero => exact h0
  | @step x B i hr hi hc hx ih =>
    have := h x B i hr ih hi hc
    rwa [getD_at hx] at this
/-- Where the objects of the count lie, and what they hold. -/
structure ReSt (base od q om of_ : Nat) (fid : Nat) (dc : Array Value) (es : List (Value × Value)) (h : Hp) : Prop where
  ord : base ≤ od ∧ od < q ∧ q < om ∧ om < of_ ∧ of_ < h.next
  gm : h.get om = .cells [.map (some q)] true true 1
  gd : h.get od = .cells [.func (.func fid) #[] dc] true true 1
  gf : h.get of_ = .cells [.func (.func 161) #[] #[.pointer (some ⟨om, 0, none⟩), .pointer (some ⟨od, 0, none⟩), .pointer (some ⟨of_, 0, none⟩)]] true true 1
  gq : h.get q = .map es
theorem ReSt.keep {base od q om of_ fid : Nat} {dc : Array Value} {es : List (Value × Value)} {h h' : Hp} (k : ReSt base od q om of_ fid dc es h) (hn : h.next ≤ h'.next) (hg : ∀ o, base ≤ o → o < h.next → h'.get o = h.get o) : ReSt base od q om of_ fid dc es h' := by
  obtain ⟨o1, o2, o3, o4, o5⟩ := k.ord
  exact ⟨⟨o1, o2, o3, o4, by omega⟩, by rw [hg _ (by omega) (by omega)]; exact k.gm, by rw [hg _ (by omega) (by omega)]; exact k.gd, by rw [hg _ (by omega) (by omega)]; exact k.gf, by rw [hg _ (by omega) (by omega)]; exact k.gq⟩
theorem ReSt.putq {base od q om of_ fid : Nat} {dc : Array Value} {es es' : List (Value × Value)} {h : Hp} (k : ReSt base od q om of_ fid dc es h) : ReSt base od q om of_ fid dc es' (h.put q (.map es')) := by
  obtain ⟨o1, o2, o3, o4, o5⟩ := k.ord
  exact ⟨⟨o1, o2, o3, o4, by simp; omega⟩, by simp [show om ≠ q by omega, k.gm], by simp [show od ≠ q by omega, k.gd], by simp [show of_ ≠ q by omega, k.gf], by simp⟩
/-- What the function that is called for each list of moves does. -/
structure DoerC (L : List (List Int)) (A : List Int) (P : List (List Int) → Hp → Prop) (base : Nat) (S : Nat → Prop) (fid : Nat) (dc : Array Value) : Prop where
  stab : ∀ s h h', P s h → base ≤ h.next → h.next ≤ h'.next → (∀ o, o < base → h'.get o = h.get o) → P s h'
  run : ∀ s h x B, P s h → base ≤ h.next → Rn L A x B → ∃ u h', CallOK Try.prog fid (#[keyC x] ++ dc) h u h' ∧ Wr S h h' ∧ P (x :: s) h'
  low : ∀ o, S o → o < base
  fn : fnOK Try.prog fid = true
end Go.Proofs.Ytnjabaeajjhliaa
