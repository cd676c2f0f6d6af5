/- Slices that are read, with the objects in which they lie. -/
import Derived.Test.YtpehnhjgdgnnkaaEngX
namespace Go.Eng

/-- As 'Sl', all of it in objects of F. -/
def SlF {α : Type} (F : Nat → Prop) (R : Hp → Value → α → Prop) (h : Hp) (v : Value) (xs : List α) : Prop :=
  ∃ s c, v = .slice s xs.length c ∧ xs.length ≤ c ∧ c < 2 ^ 63 ∧ ∀ k x, xs[k]? = some x → ∃ o i cs own ex es, s = some ⟨o, i, none⟩ ∧ F o ∧ o < h.next ∧ h.get o = .cells cs own ex es ∧ i + k < cs.length ∧ R h (cs.getD (i + k) undef) x
def IntsF (F : Nat → Prop) : Hp → Value → List Int → Prop := SlF F isInt
def IRowsF (F : Nat → Prop) : Hp → Value → List (List Int) → Prop := SlF F (IntsF F)

theorem SlF.sl {α : Type} {F : Nat → Prop} {R : Hp → Value → α → Prop} {h : Hp} {v : Value} {xs : List α} (hs : SlF F R h v xs) : Sl R h v xs := by
  obtain ⟨s, c, e, hc, hc', hx⟩ := hs
  exact ⟨s, c, e, hc, hc', fun k x hk => let ⟨o, i, cs, own, ex, es, h1, _, h2, h3, h4, h5⟩ := hx k x hk; ⟨o, i, cs, own, ex, es, h1, h2, h3, h4, h5⟩⟩
theorem SlF.mono {α : Type} {F G : Nat → Prop} {R R' : Hp → Value → α → Prop} {h h' : Hp} (hR : ∀ u x, R h u x → R' h' u x) (hfg : ∀ o, F o → G o) (hk : Same F h h') {v : Value} {xs : List α} (hs : SlF F R h v xs) : SlF G R' h' v xs := by
  obtain ⟨s, c, e, hc, hc', hx⟩ := hs
  refine ⟨s, c, e, hc, hc', fun k x hk' => ?_⟩
  obtain ⟨o, i, cs, own, ex, es, h1, hf, h2, h3, h4, h5⟩ := hx k x hk'
  exact ⟨o, i, cs, own, ex, es, h1, hfg o hf, Nat.lt_of_lt_of_le h2 hk.1, by rw [hk.2 o hf h2]; exact h3, h4, hR _ _ h5⟩
theorem IntsF.ints {F : Nat → Prop} {h : Hp} {v : Value} {xs : List Int} (hs : IntsF F h v xs) : Ints h v xs := SlF.sl hs
theorem IRowsF.rows {F : Nat → Prop} {h : Hp} {v : Value} {xs : List (List Int)} (hs : IRowsF F h v xs) : IRows h v xs :=
  Sl.mono (R := IntsF F) (h := h) (h' := h) (fun _ _ h => h) (Keeps.refl h) (SlF.sl hs) |> fun hs => by
    obtain ⟨s, c, e, hc, hc', hx⟩ := hs
    exact ⟨s, c, e, hc, hc', fun k x hk => let ⟨o, i, cs, own, ex, es, h1, h2, h3, h4, h5⟩ := hx k x hk; ⟨o, i, cs, own, ex, es, h1, h2, h3, h4, h5.ints⟩⟩
theorem IntsF.same {F : Nat → Prop} {h h' : Hp} (hk : Same F h h') {v : Value} {xs : List Int} (hs : IntsF F h v xs) : IntsF F h' v xs := SlF.mono (R := isInt) (R' := isInt) (h := h) (h' := h') (fun _ _ h => h) (fun _ h => h) hk hs
theorem IRowsF.same {F : Nat → Prop} {h h' : Hp} (hk : Same F h h') {v : Value} {xs : List (List Int)} (hs : IRowsF F h v xs) : IRowsF F h' v xs := SlF.mono (R := IntsF F) (R' := IntsF F) (fun _ _ h => h.same hk) (fun _ h => h) hk hs
theorem IntsF.keep {F : Nat → Prop} {h h' : Hp} (hk : Keeps h h') {v : Value} {xs : List Int} (hs : IntsF F h v xs) : IntsF F h' v xs := hs.same (.of_keeps hk)
theorem IRowsF.keep {F : Nat → Prop} {h h' : Hp} (hk : Keeps h h') {v : Value} {xs : List (List Int)} (hs : IRowsF F h v xs) : IRowsF F h' v xs := hs.same (.of_keeps hk)
theorem IntsF.sub {F G : Nat → Prop} (hfg : ∀ o, F o → G o) {h : Hp} {v : Value} {xs : List Int} (hs : IntsF F h v xs) : IntsF G h v xs := SlF.mono (R := isInt) (R' := isInt) (h := h) (h' := h) (fun _ _ h => h) hfg (Same.refl _ _) hs
theorem IRowsF.sub {F G : Nat → Prop} (hfg : ∀ o, F o → G o) {h : Hp} {v : Value} {xs : List (List Int)} (hs : IRowsF F h v xs) : IRowsF G h v xs := SlF.mono (R := IntsF F) (R' := IntsF G) (fun _ _ h => h.sub hfg) hfg (Same.refl _ _) hs
theorem Ints.old {h : Hp} {v : Value} {xs : List Int} (hs : Ints h v xs) : IntsF (fun o => o < h.next) h v xs := by
  obtain ⟨s, c, e, hc, hc', hx⟩ := hs
  exact ⟨s, c, e, hc, hc', fun k x hk => let ⟨o, i, cs, own, ex, es, h1, h2, h3, h4, h5⟩ := hx k x hk; ⟨o, i, cs, own, ex, es, h1, h2, h2, h3, h4, h5⟩⟩
theorem IRows.old {h : Hp} {v : Value} {xs : List (List Int)} (hs : IRows h v xs) : IRowsF (fun o => o < h.next) h v xs := by
  obtain ⟨s, c, e, hc, hc', hx⟩ := hs
  exact ⟨s, c, e, hc, hc', fun k x hk => let ⟨o, i, cs, own, ex, es, h1, h2, h3, h4, h5⟩ := hx k x hk; ⟨o, i, cs, own, ex, es, h1, h2, h2, h3, h4, h5.old⟩⟩
theorem IntsO.read {S : Nat → Prop} {h : Hp} {v : Value} {xs : List Int} (hs : IntsO S h v xs) : IntsF S h v xs := by
  obtain ⟨s, c, e, h1, h2, h3⟩ := hs
  refine ⟨s, c, e, h1, h2, fun k x hk => ?_⟩
  obtain ⟨hk', ek⟩ := List.getElem?_eq_some_iff.1 hk
  subst ek
  rcases h3 with h3 | ⟨o, i, cs, ex, g1, g2, g3, g4, g5, g6⟩
  · omega
  · exact ⟨o, i, cs, true, ex, 1, g1, g2, g3, g4, by omega, by simp [isInt, List.getD_eq_getElem?_getD, g6 k hk']⟩
theorem IRowsO.read {S : Nat → Prop} {h : Hp} {v : Value} {L : List (List Int)} (hs : IRowsO S h v L) : IRowsF S h v L := by
  obtain ⟨s, c, e, h1, h2, h3⟩ := hs
  refine ⟨s, c, e, h1, h2, fun k x hk => ?_⟩
  obtain ⟨hk', ek⟩ := List.getElem?_eq_some_iff.1 hk
  subst ek
  rcases h3 with h3 | ⟨o, i, cs, ex, us, T, g1, g2, g3, g4, g5, g6, g7, g8, g9⟩
  · omega
  · refine ⟨o, i, cs, true, ex, 1, g1, g2, g3, g4, by omega, ?_⟩
    rw [List.getD_eq_getElem?_getD, g6 k hk']
    exact ((g9 k hk').read).sub fun x hx => (g7 k x hx).1
theorem IntsF.lenD {F : Nat → Prop} {h : Hp} {v : Value} {xs : List Int} (hs : IntsF F h v xs) : ∀ (P : Program) (t : TypeId), Go.Eng.lenD P t v = (elT P t).map fun _ => .int .i64 xs.length := hs.ints.lenD
theorem IRowsF.lenD {F : Nat → Prop} {h : Hp} {v : Value} {xs : List (List Int)} (hs : IRowsF F h v xs) : ∀ (P : Program) (t : TypeId), Go.Eng.lenD P t v = (elT P t).map fun _ => .int .i64 xs.length := hs.rows.lenD

theorem SlF.open {α : Type} {F : Nat → Prop} {R : Hp → Value → α → Prop} {h : Hp} {v : Value} {xs : List α} (hs : SlF F R h v xs) (hne : 0 < xs.length) :
    ∃ o i c cs own ex es, v = .slice (some ⟨o, i, none⟩) xs.length c ∧ (F o ∧ o < h.next) ∧ h.get o = .cells cs own ex es ∧ i + xs.length ≤ cs.length ∧ ∀ k (hk : k < xs.length), R h (cs.getD (i + k) undef) xs[k] := by
  obtain ⟨o, i, c, cs, own, ex, es, e, b, g, l, r⟩ := Sl.open hs.sl hne
  obtain ⟨s, c', e', hc, hc', hx⟩ := hs
  obtain ⟨o', i', cs', own', ex', es', h1', hf, h2', h3', h4', h5'⟩ := hx 0 xs[0] (List.getElem?_eq_getElem hne)
  rw [e'] at e
  cases e
  cases h1'
  exact ⟨o, i, c, cs, own, ex, es, by rw [e'], ⟨hf, b⟩, g, l, r⟩
theorem IntsF.open {F : Nat → Prop} {h : Hp} {v : Value} {xs : List Int} (hs : IntsF F h v xs) (hne : 0 < xs.length) :
    ∃ o i c cs own ex es, v = .slice (some ⟨o, i, none⟩) xs.length c ∧ (F o ∧ o < h.next) ∧ h.get o = .cells cs own ex es ∧ i + xs.length ≤ cs.length ∧ ∀ k (hk : k < xs.length) (h2 : i + k < cs.length), cs[i + k] = .int .i64 xs[k] := by
  obtain ⟨o, i, c, cs, own, ex, es, h1, h2, h3, h4, h5⟩ := SlF.open hs hne
  exact ⟨o, i, c, cs, own, ex, es, h1, h2, h3, h4, fun k hk h2 => by have := h5 k hk; rw [List.getD_eq_getElem?_getD, List.getElem?_eq_getElem h2] at this; exact this⟩
theorem IRowsF.open {F : Nat → Prop} {h : Hp} {v : Value} {xs : List (List Int)} (hs : IRowsF F h v xs) (hne : 0 < xs.length) :
    ∃ o i c cs own ex es, ∃ us : Nat → Value, v = .slice (some ⟨o, i, none⟩) xs.length c ∧ (F o ∧ o < h.next) ∧ h.get o = .cells cs own ex es ∧ i + xs.length ≤ cs.length ∧ (∀ k, k < xs.length → ∀ h2 : i + k < cs.length, cs[i + k] = us k) ∧ ∀ k (hk : k < xs.length), IntsF F h (us k) xs[k] := by
  obtain ⟨o, i, c, cs, own, ex, es, h1, h2, h3, h4, h5⟩ := SlF.open hs hne
  exact ⟨o, i, c, cs, own, ex, es, fun k => cs.getD (i + k) undef, h1, h2, h3, h4, fun k _ h2 => by simp [h2], fun k hk => h5 k hk⟩

/-- Only objects of S are changed, all that is new or changed is owned. -/
structure Wr (S : Nat → Prop) (h h' : Hp) : Prop where
  upd : Upd S h h'
  own : ∀ o, o < h.next → S o → (h'.get o).live = true → (h'.get o).owned = true ∨ h'.get o = h.get o
  new : NewOwn h h'
theorem Wr.refl (S : Nat → Prop) (h : Hp) : Wr S h h := ⟨Upd.refl S h, fun _ _ _ _ => .inr rfl, fun _ h1 h2 _ => by omega⟩
theorem Wr.trans {S : Nat → Prop} {a b c : Hp} (k : Wr S a b) (l : Wr S b c) : Wr S a c where
  upd := k.upd.trans l.upd
  own o ho hs hl := by
    rcases l.own o (Nat.lt_of_lt_of_le ho k.upd.1) hs hl with h1 | h1
    · exact .inl h1
    · rw [h1] at hl ⊢; exact k.own o ho hs hl
  new o h1 h2 hl := by
    by_cases h3 : o < b.next
    · by_cases hs : S o
      · rcases l.own o h3 hs hl with h4 | h4
        · exact h4
        · rw [h4] at hl ⊢; exact k.new o h1 h3 hl
      · rw [l.upd.2 o h3 hs] at hl ⊢; exact k.new o h1 h3 hl
    · exact l.new o (by omega) h2 hl
theorem Wr.of_adds {S : Nat → Prop} {h h' : Hp} (k : Adds h h') : Wr S h h' := ⟨.of_keeps k.1, fun o ho _ _ => .inr (k.1.2 o ho), k.2⟩
theorem Wr.put {S : Nat → Prop} {h h' : Hp} (k : Wr S h h') {o : Nat} (ho : S o) {x : AObj} (hx : x.live = true → x.owned = true) : Wr S h (h'.put o x) where
  upd := k.upd.put ho x
  own i hi hs hl := by
    by_cases e : i = o
    · subst e; simp only [Hp.put, if_true] at hl ⊢; exact .inl (hx hl)
    · simp only [Hp.put, e, if_false] at hl ⊢; exact k.own i hi hs hl
  new i h1 h2 hl := by
    by_cases e : i = o
    · subst e; simp only [Hp.put, if_true] at hl ⊢; exact hx hl
    · simp only [Hp.put, e, if_false] at hl ⊢; exact k.new i h1 h2 hl
theorem Wr.mono {S T : Nat → Prop} {h h' : Hp} (k : Wr S h h') (hst : ∀ o, o < h.next → S o → T o) : Wr T h h' where
  upd := k.upd.mono hst
  own o ho _ hl := by
    by_cases hs : S o
    · exact k.own o ho hs hl
    · exact .inr (k.upd.2 o ho hs)
  new := k.new
theorem Adds.wr {S : Nat → Prop} {a h h' : Hp} (ha : Adds a h) (k : Wr S h h') (hs : ∀ o, S o → a.next ≤ o) : Adds a h' :=
  ⟨k.upd.keeps ha.1 hs, fun o h1 h2 hl => by
    by_cases h3 : o < h.next
    · by_cases hso : S o
      · rcases k.own o h3 hso hl with h4 | h4
        · exact h4
        · rw [h4] at hl ⊢; exact ha.2 o h1 h3 hl
      · rw [k.upd.2 o h3 hso] at hl ⊢; exact ha.2 o h1 h3 hl
    · exact k.new o (by omega) h2 hl⟩

/-- The slice lies in no object of F. -/
def OffF (F : Nat → Prop) (v : Value) : Prop := ∀ o i n c, v = .slice (some ⟨o, i, none⟩) n c → ¬ F o
theorem OffF.nil (F : Nat → Prop) (n c : Nat) : OffF F (.slice none n c) := fun _ _ _ _ e => by cases e
theorem OffF.mk {F : Nat → Prop} {o i n c : Nat} (h : ¬ F o) : OffF F (.slice (some ⟨o, i, none⟩) n c) := fun _ _ _ _ e => by cases e; exact h
theorem OffF.mono {F G : Nat → Prop} {v : Value} (h : OffF G v) (hfg : ∀ o, F o → G o) : OffF F v := fun o i n c e hf => h o i n c e (hfg o hf)
section
variable {P : Program}
/-- One number more; what does not lie where the slice lies stays as it was. -/
theorem append_one2 {n : Nat} {h0 h : Hp} {v : Value} {xs : List Int} {t t' e q b : Nat} {x : Int} {qx : Bool} (hs : IntsA n h v xs) (h1 : elT P t = some e) (h2 : szT P e = some 1) (h3 : zeroT P e = some (.int .i64 0)) (h4 : byT P e = some b)
    (hb : b ≠ 0) (hb8 : b ≤ 8) (h5 : srcT P t' = true) (hq : h.get q = .cells [.int .i64 x] true qx 1) (hl : xs.length < 2 ^ 40) (hn : n ≤ h.next) (hA : Adds h0 h) (h0n : h0.next ≤ n) :
    ∃ v' h', appendD P t t' v (.slice (some ⟨q, 0, none⟩) 1 1) h = some (v', h') ∧ IntsA n h' v' (xs ++ [x]) ∧ Adds h0 h' ∧ h.next < h'.next ∧ (∀ F : Nat → Prop, OffF F v → Same F h h') ∧ ∀ F : Nat → Prop, (∀ o, F o → o < h.next) → OffF F v' := by
  have hsrc : srcV h 1 (.slice (some ⟨q, 0, none⟩) 1 1) = some (1, [.int .i64 x]) := by simp [srcV, srcW, hq]
  have hbb : (xs.length + 1) * b ≤ 140737488355328 := Nat.le_trans (Nat.mul_le_mul (Nat.succ_le_of_lt hl) hb8) (by decide)
  have hbb1 : b ≤ 140737488355328 := Nat.le_trans hb8 (by decide)
  rcases hs with ⟨rfl, rfl⟩ | ⟨o, ex, rfl, g1, g2, g3⟩
  · refine ⟨.slice (some ⟨h.next, 0, none⟩) 1 1, h.alloc (.cells [.int .i64 x] true false 1), ?_, .inr ⟨h.next, false, rfl, hn, Nat.lt_succ_self _, by simp⟩, by simp [hA], Nat.lt_succ_self _, fun F _ => ⟨by simp, fun o _ ho => by simp [Nat.ne_of_lt ho]⟩, fun F hF => .mk fun hf => by have := hF _ hf; omega⟩
    simp only [appendD, h1, h2, h3, h4, hsrc, h5]
    simp [Value.cells, hb, hbb1]
  · refine ⟨.slice (some ⟨h.next, 0, none⟩) (xs.length + 1) (xs.length + 1), growHp h o ex (.cells (xs.map (.int .i64) ++ [.int .i64 x]) true false 1), ?_, .inr ⟨h.next, false, by simp, hn, ?_, ?_⟩, hA.grow (by omega) (fun _ => rfl), ?_, fun F hF => ⟨?_, fun i hi hin => ?_⟩, fun F hF => .mk fun hf => by have := hF _ hf; omega⟩
    · simp only [appendD, h1, h2, h3, h4, hsrc, h5]
      have ht : (xs.map (Value.int .i64)).take xs.length = xs.map (.int .i64) := List.take_of_length_le (by simp)
      simp [Value.cells, hb, g3, hbb, ht]
    · cases ex <;> simp [growHp]
    · cases ex <;> simp [growHp]
    · cases ex <;> simp [growHp]
    · cases ex <;> simp [growHp]
    · have e1 : i ≠ h.next := by omega
      have e2 : i ≠ o := fun e => hF o 0 _ _ rfl (e ▸ hi)
      cases ex <;> simp [growHp, e1, e2]
end

section
variable {P : Program} {n : Nat} {tm : Nat → Value} {h : Hp} {ops : Array Oper} {rest : List Oper} {R : (Nat → Value) → Hp → Prop} {o : Oper}
/-- A call of a function value. -/
theorem RunD_cf {d : Nat} {fx : Operand} {f : FuncId} {fst cap : Array Value} {xs : Array Operand} {ts : Array TypeId} {args : Array Value} {v : Value} {h' : Hp} (hop : o.op = .call ⟨.value fx, xs, ts⟩) (hd : o.dst = some d) (hn : decide (d < n) = true) (hg : o.guard = none)
    (hx : okX fx = true) (h2 : xs.all okX = true) (h3 : ev tm fx = .func (.func f) fst cap) (h4 : fnOK P f = true) (ha : fst ++ xs.map (ev tm) ++ cap = args) (hc : CallOK P f args h v h') (hr : RunD P n ops rest R (upd tm d v) h') : RunD P n ops (o :: rest) R tm h :=
  RunD_call hop (by rw [hd]; exact hn) (by simp [guardOK, hg]) (by simp [wantA, hg]) hx h2 h3 h4 (by rw [ha]; exact hc) (by rw [hd]; exact hr)
end
theorem Done_heap {P : Program} {rs : List ResultVar} {R : Value → Hp → Prop} {e : Exit} {tm : Nat → Value} {h : Hp} (hr : ∀ h', h' = h → Done P rs R e tm h') : Done P rs R e tm h := hr h rfl
end Go.Eng
