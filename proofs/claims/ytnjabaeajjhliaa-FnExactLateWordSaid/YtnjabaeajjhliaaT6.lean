/- The word that grows and shrinks; changes put together. -/
import Derived.Test.YtnjabaeajjhliaaT5
import Derived.Test.YtnjabaeajjhliaaS6
namespace Go.Proofs.Ytnjabaeajjhliaa
set_option linter.unusedSimpArgs false
set_option linter.unusedVariables false
set_option maxHeartbeats 4000000
open Go Go.Eng
attribute [local irreducible] WD RunD PreD Runs CallOK

theorem wr_trans2 {S T : Nat → Prop} {a b c : Hp} (k : Wr S a b) (l : Wr T b c) (hst : ∀ o, o < a.next → T o → S o) : Wr S a c where
  upd := ⟨Nat.le_trans k.upd.1 l.upd.1, fun o ho hs => (l.upd.2 o (Nat.lt_of_lt_of_le ho k.upd.1) (fun ht => hs (hst o ho ht))).trans (k.upd.2 o ho hs)⟩
  own o ho hs hl := by
    by_cases ht : T o
    · rcases l.own o (Nat.lt_of_lt_of_le ho k.upd.1) ht hl with h1 | h1
      · exact .inl h1
      · rw [h1] at hl ⊢
        exact k.own o ho hs hl
    · have h1 := l.upd.2 o (Nat.lt_of_lt_of_le ho k.upd.1) ht
      rw [h1] at hl ⊢
      exact k.own o ho hs hl
  new o h1 h2 hl := by
    by_cases hb : o < b.next
    · by_cases ht : T o
      · rcases l.own o hb ht hl with h3 | h3
        · exact h3
        · rw [h3] at hl ⊢
          exact k.new o h1 hb hl
      · have h3 := l.upd.2 o hb ht
        rw [h3] at hl ⊢
        exact k.new o h1 hb hl
    · exact l.new o (by omega) h2 hl
theorem wr_putNew {S : Nat → Prop} {h h' : Hp} (k : Wr S h h') {o : Nat} (ho : o < h.next → S o) {x : AObj} (hx : x.live = true → x.owned = true) : Wr S h (h'.put o x) :=
  wr_trans2 k (T := fun i => i = o) ((Wr.refl (fun i => i = o) h').put (o := o) rfl hx) fun i hi e => e ▸ ho (e ▸ hi)
theorem wr_adds {h h' : Hp} (k : Wr (fun _ => False) h h') : Adds h h' := ⟨⟨k.upd.1, fun o ho => k.upd.2 o ho id⟩, k.new⟩

/-- The object in which a slice lies. -/
def objOf : Value → Option Nat
  | .slice (some ⟨o, _, _⟩) _ _ => some o
  | _ => none
@[simp] theorem objOf_nil (n c : Nat) : objOf (.slice none n c) = none := rfl
@[simp] theorem objOf_mk (o i n c : Nat) : objOf (.slice (some ⟨o, i, none⟩) n c) = some o := rfl

/-- A list that grows and shrinks at its end, in an object of its own at or above B. -/
def WS (B : Nat) (h : Hp) (v : Value) (W : List Nat) : Prop :=
  (v = .slice none 0 0 ∧ W = []) ∨
    ∃ p cs ex, v = .slice (some ⟨p, 0, none⟩) W.length cs.length ∧ B ≤ p ∧ p < h.next ∧ h.get p = .cells cs true ex 1 ∧ (W.length ≤ cs.length ∧ cs.length < 2 ^ 50) ∧ cs.take W.length = (toN W).map (.int .i64)
theorem WS.nil (B : Nat) (h : Hp) : WS B h (.slice none 0 0) [] := .inl ⟨rfl, rfl⟩
theorem WS.lenD {B : Nat} {h : Hp} {v : Value} {W : List Nat} (hs : WS B h v W) : ∀ (P : Program) (t : TypeId), Go.Eng.lenD P t v = (elT P t).map fun _ => .int .i64 W.length := by
  intro P t
  rcases hs with ⟨rfl, rfl⟩ | ⟨p, cs, ex, rfl, _⟩ <;> simp
theorem WS.nt {B : Nat} {h : Hp} {v : Value} {W : List Nat} (hs : WS B h v W) : notTup v = true := by
  rcases hs with ⟨rfl, rfl⟩ | ⟨p, cs, ex, rfl, _⟩ <;> rfl
theorem WS.cs {B : Nat} {h : Hp} {v : Value} {W : List Nat} (hs : WS B h v W) : v.cells = #[v] := by
  rcases hs with ⟨rfl, rfl⟩ | ⟨p, cs, ex, rfl, _⟩ <;> rfl
theorem WS.ints {B : Nat} {h : Hp} {v : Value} {W : List Nat} (hs : WS B h v W) : Ints h v (toN W) := by
  rcases hs with ⟨rfl, rfl⟩ | ⟨p, cs, ex, rfl, hB, hp, hg, hl, ht⟩
  · exact (IntsO.nil (fun _ => False) h).ints
  · have e : W.length = (toN W).length := by simp [toN]
    rw [e]
    refine Sl.mk hp hg (by omega) (by omega) fun k hk => ?_
    have h1 : (cs.take W.length)[k]? = ((toN W).map (Value.int .i64))[k]? := by rw [ht]
    rw [List.getElem?_take, if_pos (by omega), List.getElem?_map, List.getElem?_eq_getElem hk] at h1
    exact ⟨_, h1, rfl⟩
theorem WS.keep {B : Nat} {h h' : Hp} {v : Value} {W : List Nat} (hs : WS B h v W) (hn : h.next ≤ h'.next) (hk : ∀ o, objOf v = some o → h'.get o = h.get o) : WS B h' v W := by
  rcases hs with ⟨rfl, rfl⟩ | ⟨p, cs, ex, rfl, hB, hp, hg, hl, ht⟩
  · exact .inl ⟨rfl, rfl⟩
  · exact .inr ⟨p, cs, ex, rfl, hB, by omega, by rw [hk p rfl]; exact hg, hl, ht⟩
theorem WS.obj {B : Nat} {h : Hp} {v : Value} {W : List Nat} (hs : WS B h v W) {o : Nat} (ho : objOf v = some o) : B ≤ o ∧ o < h.next := by
  rcases hs with ⟨rfl, rfl⟩ | ⟨p, cs, ex, rfl, hB, hp, hg, hl, ht⟩
  · cases ho
  · cases ho; exact ⟨hB, hp⟩

theorem appW {B : Nat} {h : Hp} {v : Value} {W : List Nat} (hs : WS B h v W) (x : Nat) (hl : W.length < 2 ^ 40) (hn : B ≤ h.next) :
    ∃ v' h', appendD Try.prog 30 30 v (.slice (some ⟨h.next, 0, none⟩) 1 1) (h.alloc (.cells [.int .i64 (x : Int)] true true 1)) = some (v', h') ∧ WS B h' v' (W ++ [x]) ∧
      Wr (fun o => objOf v = some o) h h' ∧ h.next < h'.next ∧ (objOf v' = objOf v ∨ ∃ p, objOf v' = some p ∧ h.next ≤ p) := by
  have hsrc : srcV (h.alloc (.cells [.int .i64 (x : Int)] true true 1)) 1 (.slice (some ⟨h.next, 0, none⟩) 1 1) = some (1, [.int .i64 (x : Int)]) := by simp [srcV, srcW]
  have h1 := ty_elT_30
  have h2 := ty_szT_3
  have h3 := ty_zeroT_3
  have h4 := ty_byT_3
  have h5 : srcT Try.prog 30 = true := by simp
  have W0 : Wr (fun o => objOf v = some o) h (h.alloc (.cells [.int .i64 (x : Int)] true true 1)) := .of_adds (by first | exact aK | exact kK)
  rcases hs with ⟨rfl, rfl⟩ | ⟨p, cs, ex, rfl, hB, hp, hg, hlc, ht⟩
  · refine ⟨.slice (some ⟨h.next + 1, 0, none⟩) 1 1, (h.alloc (.cells [.int .i64 (x : Int)] true true 1)).alloc (.cells [.int .i64 (x : Int)] true false 1), ?_, .inr ⟨h.next + 1, [.int .i64 (x : Int)], false, by simp, by omega, by simp, by simp, by simp, by simp [toN]⟩, .of_adds (by first | exact aK | exact kK), by simp, .inr ⟨_, rfl, by omega⟩⟩
    simp only [appendD, h1, h2, h3, h4, hsrc, h5]
    simp [Value.cells]
  · have hgp : (h.alloc (.cells [.int .i64 (x : Int)] true true 1)).get p = .cells cs true ex 1 := by simp [Nat.ne_of_lt hp, hg]
    by_cases hc : W.length + 1 ≤ cs.length
    · refine ⟨.slice (some ⟨p, 0, none⟩) (W.length + 1) cs.length, (h.alloc (.cells [.int .i64 (x : Int)] true true 1)).put p (.cells (putCells cs W.length [.int .i64 (x : Int)]) true ex 1), ?_, .inr ⟨p, _, ex, ?_, hB, by simp; omega, by simp; rfl, ?_, ?_⟩, W0.put rfl (fun _ => rfl), by simp, .inl rfl⟩
      · simp only [appendD, h1, h2, h3, h4, hsrc, h5]
        simp only [hgp]; simp [Value.cells, hc]
      · rw [putCells_length (by simpa using hc)]; simp
      · rw [putCells_length (by simpa using hc)]; exact ⟨by simpa using hc, hlc.2⟩
      · simp only [putCells, List.length_append, List.length_singleton, List.take_append, List.take_take, List.length_take]
        rw [toN_snoc, List.map_append, ← ht]
        have e1 : min (W.length + 1) W.length = W.length := by omega
        have e2 : min W.length cs.length = W.length := by omega
        rw [e1, e2]
        simp
    · have e : cs.length = W.length := by omega
      have ht' : cs = (toN W).map (.int .i64) := by rw [← ht, List.take_of_length_le (by omega)]
      have hbb : W.length + 1 ≤ 140737488355328 := by omega
      have hW1 : Wr (fun o => objOf (.slice (some ⟨p, 0, none⟩) W.length cs.length) = some o) h (growHp (h.alloc (.cells [.int .i64 (x : Int)] true true 1)) p ex (.cells (cs ++ [.int .i64 (x : Int)]) true false 1)) := by
        cases ex with
        | true => exact W0.trans (.of_adds (by simp [growHp]))
        | false => exact (W0.put (o := p) rfl (x := .dead) (fun hf => by cases hf)).trans (.of_adds (by simp [growHp]))
      have hgr : (growHp (h.alloc (.cells [.int .i64 (x : Int)] true true 1)) p ex (.cells (cs ++ [.int .i64 (x : Int)]) true false 1)).next = h.next + 2 ∧ (growHp (h.alloc (.cells [.int .i64 (x : Int)] true true 1)) p ex (.cells (cs ++ [.int .i64 (x : Int)]) true false 1)).get (h.next + 1) = .cells (cs ++ [.int .i64 (x : Int)]) true false 1 := by
        cases ex <;> simp [growHp]
      refine ⟨.slice (some ⟨h.next + 1, 0, none⟩) (W.length + 1) (W.length + 1), growHp (h.alloc (.cells [.int .i64 (x : Int)] true true 1)) p ex (.cells (cs ++ [.int .i64 (x : Int)]) true false 1), ?_, .inr ⟨h.next + 1, cs ++ [.int .i64 (x : Int)], false, by simp [e], by omega, by rw [hgr.1]; omega, hgr.2, by simp [e]; omega, ?_⟩, hW1, by rw [hgr.1]; omega, .inr ⟨_, rfl, by omega⟩⟩
      · simp only [appendD, h1, h2, h3, h4, hsrc, h5]
        have hta : cs.take W.length = cs := List.take_of_length_le (by omega)
        have hbb8 : (W.length + 1) * 8 ≤ 140737488355328 := by omega
        rw [e]; simp only [hgp]; simp [Value.cells, hc, e, hta, hbb8]
      · rw [toN_snoc, List.map_append, ht']
        rw [List.take_of_length_le (by simp [toN])]; simp
end Go.Proofs.Ytnjabaeajjhliaa
