/- Slices that are read, with the objects in which they lie. Sets as numbers: and, or, xor, and not, shifts of whole numbers that are not negative. A drawn region whose operations on memory stand in a chain: it may be walked in the order of the text. Stepping with one rewriting a step: tests and guards are settled by the same rewriting as the operation. -/
import Derived.Test.YtnnjehonbolliaaEngX
section
namespace Go.Eng

/-- As 'Sl', all of it in objects of F. -/
def SlF {α : Type} (F : Nat → Prop) (R : Hp → Value → α → Prop) (h : Hp) (v : Value) (xs : List α) : Prop :=
  ∃ s c, v = .slice s xs.length c ∧ xs.length ≤ c ∧ c < 2 ^ 63 ∧ ∀ k x, xs[k]? = some x → ∃ o i cs own ex es, s = some ⟨o, i, none⟩ ∧ F o ∧ o < h.next ∧ h.get o = .cells cs own ex es ∧ i + k < cs.length ∧ R h (cs.getD (i + k) undef) x
def IntsF (F : Nat → Prop) : Hp → Value → List Int → Prop := SlF F isInt
def IRowsF (F : Nat → Prop) : Hp → Value → List (List Int) → Prop := SlF F (IntsF F)

theorem SlF.sl {α : Type} {F : Nat → Prop} {R : Hp → Value → α → Prop} {h : Hp} {v : Value} {xs : List α} (hs : SlF F R h v xs) : Sl R h v xs := by
  obtain ⟨s, c, e, hc, hc', hx⟩ := hs
  exact ⟨s, c, e, hc, hc', fun k x hk => let ⟨o, i, cs, own, ex, es, h1, _, h2, h3, h4, h5⟩ := hx k x hk; ⟨o, i, cs, own, ex, es, h1, h2, h3, h4, h5⟩⟩
theorem SlF.mono {α : Type} {F G : Nat → Prop} {R R' : Hp → Value → α → Prop} {h h' : Hp} (hR : ∀ u x, R h u x → R' h' u x) (hfg : ∀ o, F o → G o) (hk : Same F h h') {v : Value} {xs : List α} (hs : SlF F R h v xs) : SlF G R' h' v xs := by
  obtain ⟨s, c, e, hc, hc', hx⟩ := hs
  refine ⟨s, c, e, hc, hc', fun k x hk' => ?_⟩
  obtain ⟨o, i, cs, own, ex, es, h1, hf, h2, h3, h4, h5⟩ := hx k x hk'
  exact ⟨o, i, cs, own, ex, es, h1, hfg o hf, Nat.lt_of_lt_of_le h2 hk.1, by rw [hk.2 o hf h2]; exact h3, h4, hR _ _ h5⟩
theorem IntsF.ints {F : Nat → Prop} {h : Hp} {v : Value} {xs : List Int} (hs : IntsF F h v xs) : Ints h v xs := SlF.sl hs
theorem IRowsF.rows {F : Nat → Prop} {h : Hp} {v : Value} {xs : List (List Int)} (hs : IRowsF F h v xs) : IRows h v xs :=
  Sl.mono (R := IntsF F) (h := h) (h' := h) (fun _ _ h => h) (Keeps.refl h) (SlF.sl hs) |> fun hs => by
    obtain ⟨s, c, e, hc, hc', hx⟩ := hs
    exact ⟨s, c, e, hc, hc', fun k x hk => let ⟨o, i, cs, own, ex, es, h1, h2, h3, h4, h5⟩ := hx k x hk; ⟨o, i, cs, own, ex, es, h1, h2, h3, h4, h5.ints⟩⟩
theorem IntsF.same {F : Nat → Prop} {h h' : Hp} (hk : Same F h h') {v : Value} {xs : List Int} (hs : IntsF F h v xs) : IntsF F h' v xs := SlF.mono (R := isInt) (R' := isInt) (h := h) (h' := h') (fun _ _ h => h) (fun _ h => h) hk hs
theorem IRowsF.same {F : Nat → Prop} {h h' : Hp} (hk : Same F h h') {v : Value} {xs : List (List Int)} (hs : IRowsF F h v xs) : IRowsF F h' v xs := SlF.mono (R := IntsF F) (R' := IntsF F) (fun _ _ h => h.same hk) (fun _ h => h) hk hs
theorem IntsF.keep {F : Nat → Prop} {h h' : Hp} (hk : Keeps h h') {v : Value} {xs : List Int} (hs : IntsF F h v xs) : IntsF F h' v xs := hs.same (.of_keeps hk)
theorem IRowsF.keep {F : Nat → Prop} {h h' : Hp} (hk : Keeps h h') {v : Value} {xs : List (List Int)} (hs : IRowsF F h v xs) : IRowsF F h' v xs := hs.same (.of_keeps hk)
theorem IntsF.sub {F G : Nat → Prop} (hfg : ∀ o, F o → G o) {h : Hp} {v : Value} {xs : List Int} (hs : IntsF F h v xs) : IntsF G h v xs := SlF.mono (R := isInt) (R' := isInt) (h := h) (h' := h) (fun _ _ h => h) hfg (Same.refl _ _) hs
theorem IRowsF.sub {F G : Nat → Prop} (hfg : ∀ o, F o → G o) {h : Hp} {v : Value} {xs : List (List Int)} (hs : IRowsF F h v xs) : IRowsF G h v xs := SlF.mono (R := IntsF F) (R' := IntsF G) (fun _ _ h => h.sub hfg) hfg (Same.refl _ _) hs
theorem Ints.old {h : Hp} {v : Value} {xs : List Int} (hs : Ints h v xs) : IntsF (fun o => o < h.next) h v xs := by
  obtain ⟨s, c, e, hc, hc', hx⟩ := hs
  exact ⟨s, c, e, hc, hc', fun k x hk => let ⟨o, i, cs, own, ex, es, h1, h2, h3, h4, h5⟩ := hx k x hk; ⟨o, i, cs, own, ex, es, h1, h2, h2, h3, h4, h5⟩⟩
theorem IRows.old {h : Hp} {v : Value} {xs : List (List Int)} (hs : IRows h v xs) : IRowsF (fun o => o < h.next) h v xs := by
  obtain ⟨s, c, e, hc, hc', hx⟩ := hs
  exact ⟨s, c, e, hc, hc', fun k x hk => let ⟨o, i, cs, own, ex, es, h1, h2, h3, h4, h5⟩ := hx k x hk; ⟨o, i, cs, own, ex, es, h1, h2, h2, h3, h4, h5.old⟩⟩
theorem IntsO.read {S : Nat → Prop} {h : Hp} {v : Value} {xs : List Int} (hs : IntsO S h v xs) : IntsF S h v xs := by
  obtain ⟨s, c, e, h1, h2, h3⟩ := hs
  refine ⟨s, c, e, h1, h2, fun k x hk => ?_⟩
  obtain ⟨hk', ek⟩ := List.getElem?_eq_some_iff.1 hk
  subst ek
  rcases h3 with h3 | ⟨o, i, cs, ex, g1, g2, g3, g4, g5, g6⟩
  · omega
  · exact ⟨o, i, cs, true, ex, 1, g1, g2, g3, g4, by omega, by simp [isInt, List.getD_eq_getElem?_getD, g6 k hk']⟩
theorem IRowsO.read {S : Nat → Prop} {h : Hp} {v : Value} {L : List (List Int)} (hs : IRowsO S h v L) : IRowsF S h v L := by
  obtain ⟨s, c, e, h1, h2, h3⟩ := hs
  refine ⟨s, c, e, h1, h2, fun k x hk => ?_⟩
  obtain ⟨hk', ek⟩ := List.getElem?_eq_some_iff.1 hk
  subst ek
  rcases h3 with h3 | ⟨o, i, cs, ex, us, T, g1, g2, g3, g4, g5, g6, g7, g8, g9⟩
  · omega
  · refine ⟨o, i, cs, true, ex, 1, g1, g2, g3, g4, by omega, ?_⟩
    rw [List.getD_eq_getElem?_getD, g6 k hk']
    exact ((g9 k hk').read).sub fun x hx => (g7 k x hx).1
theorem IntsF.lenD {F : Nat → Prop} {h : Hp} {v : Value} {xs : List Int} (hs : IntsF F h v xs) : ∀ (P : Program) (t : TypeId), Go.Eng.lenD P t v = (elT P t).map fun _ => .int .i64 xs.length := hs.ints.lenD
theorem IRowsF.lenD {F : Nat → Prop} {h : Hp} {v : Value} {xs : List (List Int)} (hs : IRowsF F h v xs) : ∀ (P : Program) (t : TypeId), Go.Eng.lenD P t v = (elT P t).map fun _ => .int .i64 xs.length := hs.rows.lenD

theorem SlF.open {α : Type} {F : Nat → Prop} {R : Hp → Value → α → Prop} {h : Hp} {v : Value} {xs : List α} (hs : SlF F R h v xs) (hne : 0 < xs.length) :
    ∃ o i c cs own ex es, v = .slice (some ⟨o, i, none⟩) xs.length c ∧ (F o ∧ o < h.next) ∧ h.get o = .cells cs own ex es ∧ i + xs.length ≤ cs.length ∧ ∀ k (hk : k < xs.length), R h (cs.getD (i + k) undef) xs[k] := by
  obtain ⟨o, i, c, cs, own, ex, es, e, b, g, l, r⟩ := Sl.open hs.sl hne
  obtain ⟨s, c', e', hc, hc', hx⟩ := hs
  obtain ⟨o', i', cs', own', ex', es', h1', hf, h2', h3', h4', h5'⟩ := hx 0 xs[0] (List.getElem?_eq_getElem hne)
  rw [e'] at e
  cases e
  cases h1'
  exact ⟨o, i, c, cs, own, ex, es, by rw [e'], ⟨hf, b⟩, g, l, r⟩
theorem IntsF.open {F : Nat → Prop} {h : Hp} {v : Value} {xs : List Int} (hs : IntsF F h v xs) (hne : 0 < xs.length) :
    ∃ o i c cs own ex es, v = .slice (some ⟨o, i, none⟩) xs.length c ∧ (F o ∧ o < h.next) ∧ h.get o = .cells cs own ex es ∧ i + xs.length ≤ cs.length ∧ ∀ k (hk : k < xs.length) (h2 : i + k < cs.length), cs[i + k] = .int .i64 xs[k] := by
  obtain ⟨o, i, c, cs, own, ex, es, h1, h2, h3, h4, h5⟩ := SlF.open hs hne
  exact ⟨o, i, c, cs, own, ex, es, h1, h2, h3, h4, fun k hk h2 => by have := h5 k hk; rw [List.getD_eq_getElem?_getD, List.getElem?_eq_getElem h2] at this; exact this⟩
theorem IRowsF.open {F : Nat → Prop} {h : Hp} {v : Value} {xs : List (List Int)} (hs : IRowsF F h v xs) (hne : 0 < xs.length) :
    ∃ o i c cs own ex es, ∃ us : Nat → Value, v = .slice (some ⟨o, i, none⟩) xs.length c ∧ (F o ∧ o < h.next) ∧ h.get o = .cells cs own ex es ∧ i + xs.length ≤ cs.length ∧ (∀ k, k < xs.length → ∀ h2 : i + k < cs.length, cs[i + k] = us k) ∧ ∀ k (hk : k < xs.length), IntsF F h (us k) xs[k] := by
  obtain ⟨o, i, c, cs, own, ex, es, h1, h2, h3, h4, h5⟩ := SlF.open hs hne
  exact ⟨o, i, c, cs, own, ex, es, fun k => cs.getD (i + k) undef, h1, h2, h3, h4, fun k _ h2 => by simp [h2], fun k hk => h5 k hk⟩

/-- Only objects of S are changed, all that is new or changed is owned. -/
structure Wr (S : Nat → Prop) (h h' : Hp) : Prop where
  upd : Upd S h h'
  own : ∀ o, o < h.next → S o → (h'.get o).live = true → (h'.get o).owned = true ∨ h'.get o = h.get o
  new : NewOwn h h'
theorem Wr.refl (S : Nat → Prop) (h : Hp) : Wr S h h := ⟨Upd.refl S h, fun _ _ _ _ => .inr rfl, fun _ h1 h2 _ => by omega⟩
theorem Wr.trans {S : Nat → Prop} {a b c : Hp} (k : Wr S a b) (l : Wr S b c) : Wr S a c where
  upd := k.upd.trans l.upd
  own o ho hs hl := by
    rcases l.own o (Nat.lt_of_lt_of_le ho k.upd.1) hs hl with h1 | h1
    · exact .inl h1
    · rw [h1] at hl ⊢; exact k.own o ho hs hl
  new o h1 h2 hl := by
    by_cases h3 : o < b.next
    · by_cases hs : S o
      · rcases l.own o h3 hs hl with h4 | h4
        · exact h4
        · rw [h4] at hl ⊢; exact k.new o h1 h3 hl
      · rw [l.upd.2 o h3 hs] at hl ⊢; exact k.new o h1 h3 hl
    · exact l.new o (by omega) h2 hl
theorem Wr.of_adds {S : Nat → Prop} {h h' : Hp} (k : Adds h h') : Wr S h h' := ⟨.of_keeps k.1, fun o ho _ _ => .inr (k.1.2 o ho), k.2⟩
theorem Wr.put {S : Nat → Prop} {h h' : Hp} (k : Wr S h h') {o : Nat} (ho : S o) {x : AObj} (hx : x.live = true → x.owned = true) : Wr S h (h'.put o x) where
  upd := k.upd.put ho x
  own i hi hs hl := by
    by_cases e : i = o
    · subst e; simp only [Hp.put, if_true] at hl ⊢; exact .inl (hx hl)
    · simp only [Hp.put, e, if_false] at hl ⊢; exact k.own i hi hs hl
  new i h1 h2 hl := by
    by_cases e : i = o
    · subst e; simp only [Hp.put, if_true] at hl ⊢; exact hx hl
    · simp only [Hp.put, e, if_false] at hl ⊢; exact k.new i h1 h2 hl
theorem Wr.mono {S T : Nat → Prop} {h h' : Hp} (k : Wr S h h') (hst : ∀ o, o < h.next → S o → T o) : Wr T h h' where
  upd := k.upd.mono hst
  own o ho _ hl := by
    by_cases hs : S o
    · exact k.own o ho hs hl
    · exact .inr (k.upd.2 o ho hs)
  new := k.new
theorem Adds.wr {S : Nat → Prop} {a h h' : Hp} (ha : Adds a h) (k : Wr S h h') (hs : ∀ o, S o → a.next ≤ o) : Adds a h' :=
  ⟨k.upd.keeps ha.1 hs, fun o h1 h2 hl => by
    by_cases h3 : o < h.next
    · by_cases hso : S o
      · rcases k.own o h3 hso hl with h4 | h4
        · exact h4
        · rw [h4] at hl ⊢; exact ha.2 o h1 h3 hl
      · rw [k.upd.2 o h3 hso] at hl ⊢; exact ha.2 o h1 h3 hl
    · exact k.new o (by omega) h2 hl⟩

/-- The slice lies in no object of F. -/
def OffF (F : Nat → Prop) (v : Value) : Prop := ∀ o i n c, v = .slice (some ⟨o, i, none⟩) n c → ¬ F o
theorem OffF.nil (F : Nat → Prop) (n c : Nat) : OffF F (.slice none n c) := fun _ _ _ _ e => by cases e
theorem OffF.mk {F : Nat → Prop} {o i n c : Nat} (h : ¬ F o) : OffF F (.slice (some ⟨o, i, none⟩) n c) := fun _ _ _ _ e => by cases e; exact h
theorem OffF.mono {F G : Nat → Prop} {v : Value} (h : OffF G v) (hfg : ∀ o, F o → G o) : OffF F v := fun o i n c e hf => h o i n c e (hfg o hf)
section
variable {P : Program}
/-- One number more; what does not lie where the slice lies stays as it was. -/
theorem append_one2 {n : Nat} {h0 h : Hp} {v : Value} {xs : List Int} {t t' e q b : Nat} {x : Int} {qx : Bool} (hs : IntsA n h v xs) (h1 : elT P t = some e) (h2 : szT P e = some 1) (h3 : zeroT P e = some (.int .i64 0)) (h4 : byT P e = some b)
    (hb : b ≠ 0) (hb8 : b ≤ 8) (h5 : srcT P t' = true) (hq : h.get q = .cells [.int .i64 x] true qx 1) (hl : xs.length < 2 ^ 40) (hn : n ≤ h.next) (hA : Adds h0 h) (h0n : h0.next ≤ n) :
    ∃ v' h', appendD P t t' v (.slice (some ⟨q, 0, none⟩) 1 1) h = some (v', h') ∧ IntsA n h' v' (xs ++ [x]) ∧ Adds h0 h' ∧ h.next < h'.next ∧ (∀ F : Nat → Prop, OffF F v → Same F h h') ∧ ∀ F : Nat → Prop, (∀ o, F o → o < h.next) → OffF F v' := by
  have hsrc : srcV h 1 (.slice (some ⟨q, 0, none⟩) 1 1) = some (1, [.int .i64 x]) := by simp [srcV, srcW, hq]
  have hbb : (xs.length + 1) * b ≤ 140737488355328 := Nat.le_trans (Nat.mul_le_mul (Nat.succ_le_of_lt hl) hb8) (by decide)
  have hbb1 : b ≤ 140737488355328 := Nat.le_trans hb8 (by decide)
  rcases hs with ⟨rfl, rfl⟩ | ⟨o, ex, rfl, g1, g2, g3⟩
  · refine ⟨.slice (some ⟨h.next, 0, none⟩) 1 1, h.alloc (.cells [.int .i64 x] true false 1), ?_, .inr ⟨h.next, false, rfl, hn, Nat.lt_succ_self _, by simp⟩, by simp [hA], Nat.lt_succ_self _, fun F _ => ⟨by simp, fun o _ ho => by simp [Nat.ne_of_lt ho]⟩, fun F hF => .mk fun hf => by have := hF _ hf; omega⟩
    simp only [appendD, h1, h2, h3, h4, hsrc, h5]
    simp [Value.cells, hb, hbb1]
  · refine ⟨.slice (some ⟨h.next, 0, none⟩) (xs.length + 1) (xs.length + 1), growHp h o ex (.cells (xs.map (.int .i64) ++ [.int .i64 x]) true false 1), ?_, .inr ⟨h.next, false, by simp, hn, ?_, ?_⟩, hA.grow (by omega) (fun _ => rfl), ?_, fun F hF => ⟨?_, fun i hi hin => ?_⟩, fun F hF => .mk fun hf => by have := hF _ hf; omega⟩
    · simp only [appendD, h1, h2, h3, h4, hsrc, h5]
      have ht : (xs.map (Value.int .i64)).take xs.length = xs.map (.int .i64) := List.take_of_length_le (by simp)
      simp [Value.cells, hb, g3, hbb, ht]
    · cases ex <;> simp [growHp]
    · cases ex <;> simp [growHp]
    · cases ex <;> simp [growHp]
    · cases ex <;> simp [growHp]
    · have e1 : i ≠ h.next := by omega
      have e2 : i ≠ o := fun e => hF o 0 _ _ rfl (e ▸ hi)
      cases ex <;> simp [growHp, e1, e2]
end

section
variable {P : Program} {n : Nat} {tm : Nat → Value} {h : Hp} {ops : Array Oper} {rest : List Oper} {R : (Nat → Value) → Hp → Prop} {o : Oper}
/-- A call of a function value. -/
theorem RunD_cf {d : Nat} {fx : Operand} {f : FuncId} {fst cap : Array Value} {xs : Array Operand} {ts : Array TypeId} {args : Array Value} {v : Value} {h' : Hp} (hop : o.op = .call ⟨.value fx, xs, ts⟩) (hd : o.dst = some d) (hn : decide (d < n) = true) (hg : o.guard = none)
    (hx : okX fx = true) (h2 : xs.all okX = true) (h3 : ev tm fx = .func (.func f) fst cap) (h4 : fnOK P f = true) (ha : fst ++ xs.map (ev tm) ++ cap = args) (hc : CallOK P f args h v h') (hr : RunD P n ops rest R (upd tm d v) h') : RunD P n ops (o :: rest) R tm h :=
  RunD_call hop (by rw [hd]; exact hn) (by simp [guardOK, hg]) (by simp [wantA, hg]) hx h2 h3 h4 (by rw [ha]; exact hc) (by rw [hd]; exact hr)
end
theorem Done_heap {P : Program} {rs : List ResultVar} {R : Value → Hp → Prop} {e : Exit} {tm : Nat → Value} {h : Hp} (hr : ∀ h', h' = h → Done P rs R e tm h') : Done P rs R e tm h := hr h rfl
end Go.Eng
end

section
namespace Go.Eng
def bAnd (k : IntKind) (x y : Int) : Int := k.wrap (BitVec.ofInt k.bits x &&& BitVec.ofInt k.bits y).toNat
def bOr (k : IntKind) (x y : Int) : Int := k.wrap (BitVec.ofInt k.bits x ||| BitVec.ofInt k.bits y).toNat
def bXor (k : IntKind) (x y : Int) : Int := k.wrap (BitVec.ofInt k.bits x ^^^ BitVec.ofInt k.bits y).toNat
def bAndNot (k : IntKind) (x y : Int) : Int := k.wrap (BitVec.ofInt k.bits x &&& ~~~(BitVec.ofInt k.bits y)).toNat
def bShl (k : IntKind) (x y : Int) : Int := k.wrap (x * 2 ^ min y.toNat k.bits)
def bShr (k : IntKind) (x y : Int) : Int := x.fdiv (2 ^ min y.toNat k.bits)

theorem ofInt_nat (x : Int) (hx : 0 ≤ x) (h2 : x < 9223372036854775808) : (BitVec.ofInt 64 x).toNat = x.toNat := by
  obtain ⟨n, rfl⟩ : ∃ n : Nat, x = n := ⟨x.toNat, by omega⟩
  rw [BitVec.ofInt_natCast, BitVec.toNat_ofNat]
  simp
  omega
theorem bAnd_nat (x y : Int) (hx : 0 ≤ x) (hx2 : x < 9223372036854775808) (hy : 0 ≤ y) (hy2 : y < 9223372036854775808) : bAnd .i64 x y = ((x.toNat &&& y.toNat : Nat) : Int) := by
  unfold bAnd
  have e : (BitVec.ofInt IntKind.i64.bits x &&& BitVec.ofInt IntKind.i64.bits y).toNat = x.toNat &&& y.toNat := by
    rw [BitVec.toNat_and, show IntKind.i64.bits = 64 from rfl, ofInt_nat x hx hx2, ofInt_nat y hy hy2]
  rw [e]
  have : x.toNat &&& y.toNat ≤ x.toNat := Nat.and_le_left
  exact wrap64 (by omega) (by omega)
theorem bOr_nat (x y : Int) (hx : 0 ≤ x) (hx2 : x < 9223372036854775808) (hy : 0 ≤ y) (hy2 : y < 9223372036854775808) : bOr .i64 x y = ((x.toNat ||| y.toNat : Nat) : Int) := by
  unfold bOr
  have e : (BitVec.ofInt IntKind.i64.bits x ||| BitVec.ofInt IntKind.i64.bits y).toNat = x.toNat ||| y.toNat := by
    rw [BitVec.toNat_or, show IntKind.i64.bits = 64 from rfl, ofInt_nat x hx hx2, ofInt_nat y hy hy2]
  rw [e]
  have : x.toNat ||| y.toNat < 2 ^ 63 := Nat.or_lt_two_pow (by omega) (by omega)
  exact wrap64 (by omega) (by omega)
theorem bXor_nat (x y : Int) (hx : 0 ≤ x) (hx2 : x < 9223372036854775808) (hy : 0 ≤ y) (hy2 : y < 9223372036854775808) : bXor .i64 x y = ((x.toNat ^^^ y.toNat : Nat) : Int) := by
  unfold bXor
  have e : (BitVec.ofInt IntKind.i64.bits x ^^^ BitVec.ofInt IntKind.i64.bits y).toNat = x.toNat ^^^ y.toNat := by
    rw [BitVec.toNat_xor, show IntKind.i64.bits = 64 from rfl, ofInt_nat x hx hx2, ofInt_nat y hy hy2]
  rw [e]
  have : x.toNat ^^^ y.toNat < 2 ^ 63 := Nat.xor_lt_two_pow (by omega) (by omega)
  exact wrap64 (by omega) (by omega)
/-- What a set has that another one has not. -/
def ndiff (a b : Nat) : Nat := a ^^^ (a &&& b)
theorem bAndNot_nat (x y : Int) (hx : 0 ≤ x) (hx2 : x < 9223372036854775808) (hy : 0 ≤ y) (hy2 : y < 9223372036854775808) : bAndNot .i64 x y = ((ndiff x.toNat y.toNat : Nat) : Int) := by
  unfold bAndNot ndiff
  have e : (BitVec.ofInt IntKind.i64.bits x &&& ~~~(BitVec.ofInt IntKind.i64.bits y)) = BitVec.ofInt IntKind.i64.bits x ^^^ (BitVec.ofInt IntKind.i64.bits x &&& BitVec.ofInt IntKind.i64.bits y) := by
    apply BitVec.eq_of_getElem_eq
    intro i hi
    simp only [BitVec.getElem_and, BitVec.getElem_not, BitVec.getElem_xor]
    generalize (BitVec.ofInt IntKind.i64.bits x)[i] = a
    generalize (BitVec.ofInt IntKind.i64.bits y)[i] = b
    cases a <;> cases b <;> rfl
  have e2 : (BitVec.ofInt IntKind.i64.bits x ^^^ (BitVec.ofInt IntKind.i64.bits x &&& BitVec.ofInt IntKind.i64.bits y)).toNat = x.toNat ^^^ (x.toNat &&& y.toNat) := by
    rw [BitVec.toNat_xor, BitVec.toNat_and, show IntKind.i64.bits = 64 from rfl, ofInt_nat x hx hx2, ofInt_nat y hy hy2]
  rw [e, e2]
  have h1 : x.toNat &&& y.toNat ≤ x.toNat := Nat.and_le_left
  have : x.toNat ^^^ (x.toNat &&& y.toNat) < 2 ^ 63 := Nat.xor_lt_two_pow (by omega) (by omega)
  exact wrap64 (by omega) (by omega)
theorem bShl_nat (x y : Int) (hx : 0 ≤ x) (hx2 : x < 1048576) (hy : 0 ≤ y) (hy2 : y < 40) : bShl .i64 x y = ((x.toNat <<< y.toNat : Nat) : Int) := by
  unfold bShl
  obtain ⟨a, rfl⟩ : ∃ a : Nat, x = a := ⟨x.toNat, by omega⟩
  obtain ⟨b, rfl⟩ : ∃ b : Nat, y = b := ⟨y.toNat, by omega⟩
  have hb : min (b : Int).toNat IntKind.i64.bits = b := by show min _ 64 = b; simp; omega
  rw [hb]
  simp only [Int.toNat_natCast, Nat.shiftLeft_eq]
  have h3 : a * 2 ^ b ≤ 1048576 * 2 ^ 40 := Nat.mul_le_mul (by omega) (Nat.pow_le_pow_right (by omega) (by omega))
  have h4 : 1048576 * 2 ^ 40 < 9223372036854775808 := by decide
  have e : (a : Int) * 2 ^ b = ((a * 2 ^ b : Nat) : Int) := by push_cast; rfl
  rw [e]
  exact wrap64 (by omega) (by omega)
theorem bShr_nat (x y : Int) (hx : 0 ≤ x) (hy : 0 ≤ y) (hy2 : y < 64) : bShr .i64 x y = ((x.toNat >>> y.toNat : Nat) : Int) := by
  unfold bShr
  obtain ⟨a, rfl⟩ : ∃ a : Nat, x = a := ⟨x.toNat, by omega⟩
  obtain ⟨b, rfl⟩ : ∃ b : Nat, y = b := ⟨y.toNat, by omega⟩
  have hb : min (b : Int).toNat IntKind.i64.bits = b := by show min _ 64 = b; simp; omega
  rw [hb]
  simp only [Int.toNat_natCast, Nat.shiftRight_eq_div_pow]
  rw [Int.fdiv_eq_ediv_of_nonneg _ (by exact Int.le_of_lt (Int.pow_pos (by omega)))]
  push_cast; rfl

/-! What simp is to know of them (EngO leaves intBin and shiftV closed). -/
@[simp] theorem intBin_and (k : IntKind) (x y : Int) : intBin .and k x y = some (.int k (bAnd k x y)) := rfl
@[simp] theorem intBin_or (k : IntKind) (x y : Int) : intBin .or k x y = some (.int k (bOr k x y)) := rfl
@[simp] theorem intBin_xor (k : IntKind) (x y : Int) : intBin .xor k x y = some (.int k (bXor k x y)) := rfl
@[simp] theorem intBin_andNot (k : IntKind) (x y : Int) : intBin .andNot k x y = some (.int k (bAndNot k x y)) := rfl
@[simp] theorem shiftV_shl (k : IntKind) (x y : Int) : shiftV .shl k x y = if y < 0 then none else some (.int k (bShl k x y)) := rfl
@[simp] theorem shiftV_shr (k : IntKind) (x y : Int) : shiftV .shr k x y = if y < 0 then none else some (.int k (bShr k x y)) := rfl
attribute [simp] nilD lookupD updateD
/-! A zero value of many equal cells. -/
def zlist (n : Nat) (v : Value) : List Value := List.replicate n v
def zrow (n : Nat) (v : Value) : Array Value := (zlist n v).toArray
@[simp] theorem zrow_list (n : Nat) (v : Value) : (zrow n v).toList = zlist n v := rfl
@[simp] theorem zrow_size (n : Nat) (v : Value) : (zrow n v).size = n := by simp [zrow, zlist]
@[simp] theorem zlist_length (n : Nat) (v : Value) : (zlist n v).length = n := by simp [zlist]
theorem zrow_all {n m : Nat} {v : Value} (h : plainS v = true) : (zrow n v).all plainS 0 m = true := by
  rw [Array.all_iff_forall]
  intro i hi _
  have e : (zrow n v)[i] = v := by simp [zrow, zlist]
  rw [e]; exact h
@[simp] theorem zrow_bool (n m : Nat) (b : Bool) : (zrow n (.bool b)).all plainS 0 m = true := zrow_all rfl
@[simp] theorem zrow_int (n m : Nat) (k : IntKind) (b : Int) : (zrow n (.int k b)).all plainS 0 m = true := zrow_all rfl
end Go.Eng
end

section
namespace Go.Eng

/-- An operation whose result does not hang on memory, and that leaves memory alone. -/
def pureOp : Op → Bool
  | .move _ | .assign _ | .pick _ _ _ | .fieldAddr _ _ _ | .field _ _ _ | .indexAddr _ _ _ | .index _ _ _ | .extract _ _ | .binOp _ _ _ _ _ | .unOp _ _ _ | .convert _ _ _ | .makeFunc _ _ _ | .nilCheck _ => true
  | .slice _ _ _ _ none => true
  | .call ⟨.builtin .len, _, _⟩ | .call ⟨.builtin .max, _, _⟩ | .call ⟨.builtin .min, _, _⟩ => true
  | _ => false

section
variable {P : Program} {n : Nat} {ops : Array Oper}

theorem builtinD_same {b : Builtin} {xs : List Operand} {ts : List TypeId} {tm : Nat → Value} (hb : b = .len ∨ b = .max ∨ b = .min) (h h2 : Hp) : builtinD P b xs ts tm h2 = (builtinD P b xs ts tm h).map fun q => (q.1, h2) := by
  have mm : ∀ r : Option Value, (r.map fun v => (v, h2)) = (r.map fun v => (v, h)).map fun q => (q.1, h2) := by intro r; cases r <;> rfl
  rcases hb with rfl | rfl | rfl
  · unfold builtinD
    split
    · split
      · exact mm _
      · rfl
    all_goals first | rfl | (rename_i hh; cases hh) | skip
    all_goals simp_all
  · unfold builtinD
    split
    all_goals first | rfl | (rename_i hh; cases hh) | skip
    · split
      · split <;> rfl
      · rfl
    all_goals simp_all
  · unfold builtinD
    split
    all_goals first | rfl | (rename_i hh; cases hh) | skip
    · split
      · split <;> rfl
      · rfl
    all_goals simp_all
theorem opD_same {op : Op} {tm : Nat → Value} (hp : pureOp op = true) (h h2 : Hp) : opD P op tm h2 = (opD P op tm h).map fun q => (q.1, h2) := by
  have mm : ∀ r : Option Value, (r.map fun v => (v, h2)) = (r.map fun v => (v, h)).map fun q => (q.1, h2) := by intro r; cases r <;> rfl
  by_cases hc : ∃ c, op = .call c
  · obtain ⟨⟨callee, args, ts⟩, rfl⟩ := hc
    cases callee with
    | builtin b =>
      simp only [opD]
      refine builtinD_same ?_ h h2
      cases b <;> simp [pureOp] at hp ⊢
    | _ => simp [pureOp] at hp
  cases op <;> simp only [pureOp, Bool.false_eq_true] at hp <;> simp only [opD]
  case call c => exact absurd ⟨c, rfl⟩ hc
  case slice t x lo hi mx =>
    cases mx with
    | some y => simp at hp
    | none =>
      show (if (okX x && okO lo && okO hi) = true then (sliceD P t (ev tm x) lo hi tm).map (fun v => (v, h2)) else none) = (if (okX x && okO lo && okO hi) = true then (sliceD P t (ev tm x) lo hi tm).map (fun v => (v, h)) else none).map fun q => (q.1, h2)
      cases (okX x && okO lo && okO hi) <;> first | rfl | exact mm _
  case nilCheck x => cases okX x <;> first | rfl | exact mm _
  case move x => cases okX x <;> first | rfl | exact mm _
  case assign x => cases okX x <;> first | rfl | exact mm _
  case pick c x y =>
    cases (okX c && okX x && okX y)
    · simp
    · simp only [if_true]
      split <;> simp
  case fieldAddr s x f =>
    cases okX x
    · simp
    · simp only [if_true]
      split
      · split <;> simp
      · simp
  case field s x f =>
    cases okX x
    · simp
    · simp only [if_true]
      split
      · split <;> simp
      · simp
  case indexAddr t x y => cases (okX x && okX y) <;> first | rfl | exact mm _
  case index t x y => cases (okX x && okX y) <;> first | rfl | exact mm _
  case extract x i =>
    cases okX x
    · rfl
    · simp only [if_true]
      split <;> first | rfl | exact mm _
  case makeFunc fn f c => cases (f.all okX && c.all okX) <;> simp
  case binOp op t x y t' => cases (okX x && okX y) <;> first | rfl | exact mm _
  case unOp op t x => cases okX x <;> first | rfl | exact mm _
  case convert s d x => cases okX x <;> first | rfl | exact mm _
theorem opD_pure {op : Op} {tm : Nat → Value} {h h' : Hp} {v : Value} (hp : pureOp op = true) (hd : opD P op tm h = some (v, h')) : h' = h ∧ ∀ h2, opD P op tm h2 = some (v, h2) := by
  have h1 := opD_same (P := P) (tm := tm) hp h h
  rw [hd] at h1
  simp only [Option.map_some, Option.some.injEq, Prod.mk.injEq, true_and] at h1
  exact ⟨h1, fun h2 => by rw [opD_same hp h h2, hd]; rfl⟩

/-- The trace of a region in the order of the text. -/
structure Tr2 (P : Program) (n : Nat) (ops : Array Oper) where
  T : Nat → Nat → Value
  H : Nat → Hp
  V : Nat → Value
  dst : ∀ (i : Nat) (o : Oper), ops[i]? = some o → dstOK n o.dst = true ∧ guardOK n ops o = true
  step : ∀ (i : Nat) (o : Oper), ops[i]? = some o → (wantA ops (T i) o = some true ∧ OpOK P o (T i) (H i) (V i) (H (i + 1)) ∧ (pureOp o.op = true → H (i + 1) = H i ∧ ∀ h, OpOK P o (T i) h (V i) h)) ∨ (wantA ops (T i) o = some false ∧ V i = undef ∧ H (i + 1) = H i)
  next : ∀ (i : Nat) (o : Oper), ops[i]? = some o → T (i + 1) = updO (T i) o.dst (V i)

theorem run_trace {R : (Nat → Value) → Hp → Prop} : ∀ (l : List Oper) (tm : Nat → Value) (h : Hp), RunD P n ops l R tm h →
    ∃ (T : Nat → Nat → Value) (H : Nat → Hp) (V : Nat → Value), T 0 = tm ∧ H 0 = h ∧ R (T l.length) (H l.length) ∧
      ∀ i o, l[i]? = some o → (dstOK n o.dst = true ∧ guardOK n ops o = true) ∧
        ((wantA ops (T i) o = some true ∧ OpOK P o (T i) (H i) (V i) (H (i + 1)) ∧ (pureOp o.op = true → H (i + 1) = H i ∧ ∀ h, OpOK P o (T i) h (V i) h)) ∨ (wantA ops (T i) o = some false ∧ V i = undef ∧ H (i + 1) = H i)) ∧
        T (i + 1) = updO (T i) o.dst (V i)
  | [], tm, h, hq => ⟨fun _ => tm, fun _ => h, fun _ => undef, rfl, rfl, hq, fun i o ho => by simp at ho⟩
  | o :: rest, tm, h, hq => by
    obtain ⟨h1, h2, h3⟩ := hq
    have shift : ∀ (v : Value) (h' : Hp), RunD P n ops rest R (updO tm o.dst v) h' → ((wantA ops tm o = some true ∧ OpOK P o tm h v h' ∧ (pureOp o.op = true → h' = h ∧ ∀ h2, OpOK P o tm h2 v h2)) ∨ (wantA ops tm o = some false ∧ v = undef ∧ h' = h)) →
        ∃ (T : Nat → Nat → Value) (H : Nat → Hp) (V : Nat → Value), T 0 = tm ∧ H 0 = h ∧ R (T (o :: rest).length) (H (o :: rest).length) ∧
          ∀ i q, (o :: rest)[i]? = some q → (dstOK n q.dst = true ∧ guardOK n ops q = true) ∧
            ((wantA ops (T i) q = some true ∧ OpOK P q (T i) (H i) (V i) (H (i + 1)) ∧ (pureOp q.op = true → H (i + 1) = H i ∧ ∀ h, OpOK P q (T i) h (V i) h)) ∨ (wantA ops (T i) q = some false ∧ V i = undef ∧ H (i + 1) = H i)) ∧
            T (i + 1) = updO (T i) q.dst (V i) := by
      intro v h' hp hs
      obtain ⟨T, H, V, e1, e2, hR, hi⟩ := run_trace rest _ _ hp
      refine ⟨fun k => match k with | 0 => tm | k + 1 => T k, fun k => match k with | 0 => h | k + 1 => H k, fun k => match k with | 0 => v | k + 1 => V k, rfl, rfl, hR, fun i q hq => ?_⟩
      cases i with
      | zero =>
        simp only [List.getElem?_cons_zero, Option.some.injEq] at hq
        subst hq
        simp only [e1, e2]
        exact ⟨⟨h1, h2⟩, hs, trivial⟩
      | succ i =>
        simp only [List.getElem?_cons_succ] at hq
        exact hi i q hq
    split at h3
    · cases h3
    · rename_i hw; exact shift undef h h3 (.inr ⟨hw, rfl, rfl⟩)
    · rename_i hw
      split at h3
      · rename_i fx xs ts hop
        obtain ⟨k1, k2, k3⟩ := h3
        split at k3
        rotate_left
        · cases k3
        rename_i f fst cap hfx
        obtain ⟨k4, v, h', k5, k6⟩ := k3
        exact shift v h' k6 (.inl ⟨hw, ok_call hop hfx k1 k2 k4 k5, fun hp => by rw [hop] at hp; cases hp⟩)
      · split at h3
        rotate_left
        · cases h3
        rename_i v h' hd
        refine shift v h' h3 (.inl ⟨hw, opD_sound hd, fun hp => ?_⟩)
        obtain ⟨e, hall⟩ := opD_pure hp hd
        exact ⟨e, fun h2 => opD_sound (hall h2)⟩

/-- Operations on memory are ordered among themselves. -/
def chainB (ops : Array Oper) : Bool :=
  (List.range ops.size).all fun i => match ops[i]? with
    | some o => pureOp o.op || (List.range i).all fun j => match ops[j]? with
      | some oj => pureOp oj.op || tclE ops 8 i j
      | none => false
    | none => false
theorem chainB_spec (h : chainB ops = true) {i j : Nat} {o oj : Oper} (hi : ops[i]? = some o) (hj : ops[j]? = some oj) (h1 : pureOp o.op = false) (h2 : pureOp oj.op = false) (hlt : j < i) : tclE ops 8 i j = true := by
  unfold chainB at h
  simp only [List.all_eq_true, List.mem_range] at h
  have hs : i < ops.size := (Array.getElem?_eq_some_iff.1 hi).1
  have h3 := h i hs
  simp only [hi, h1, Bool.false_or, List.all_eq_true, List.mem_range] at h3
  have h4 := h3 j hlt
  simpa only [hj, h2, Bool.false_or] using h4

theorem Tr2.slot (t : Tr2 P n ops) (s : Nat) : ∀ i, i ≤ ops.size → (∃ j o, j < i ∧ ops[j]? = some o ∧ o.dst = some s ∧ t.T i s = t.V j ∧ ∀ k o', j < k → k < i → ops[k]? = some o' → o'.dst ≠ some s) ∨
    (t.T i s = t.T 0 s ∧ ∀ k o', k < i → ops[k]? = some o' → o'.dst ≠ some s)
  | 0, _ => .inr ⟨rfl, fun k o' h => absurd h (by omega)⟩
  | i + 1, hi => by
    cases ho : ops[i]? with
    | none => rw [Array.getElem?_eq_getElem (by omega)] at ho; cases ho
    | some o =>
      have hn := t.next i o ho
      by_cases hd : o.dst = some s
      · left
        refine ⟨i, o, by omega, ho, hd, by rw [hn, hd]; simp [updO, upd], fun k o' h1 h2 => absurd h1 (by omega)⟩
      · have hts : t.T (i + 1) s = t.T i s := by
          rw [hn]
          cases hdst : o.dst with
          | none => rfl
          | some d =>
            have : s ≠ d := fun e => hd (by rw [hdst, e])
            simp [updO, upd, this]
        rcases Tr2.slot t s i (by omega) with ⟨j, oj, h1, h2, h3, h4, h5⟩ | ⟨h1, h2⟩
        · left
          refine ⟨j, oj, by omega, h2, h3, by rw [hts, h4], fun k o' hk1 hk2 hk => ?_⟩
          by_cases e : k = i
          · subst e; rw [ho] at hk; cases hk; exact hd
          · exact h5 k o' hk1 (by omega) hk
        · right
          refine ⟨by rw [hts, h1], fun k o' hk1 hk => ?_⟩
          by_cases e : k = i
          · subst e; rw [ho] at hk; cases hk; exact hd
          · exact h2 k o' (by omega) hk

/-- Between operations on memory the heap stays. -/
theorem Tr2.still (t : Tr2 P n ops) {i : Nat} : ∀ (k : Nat), i ≤ k → k ≤ ops.size → (∀ j o, i ≤ j → j < k → ops[j]? = some o → pureOp o.op = true) → t.H k = t.H i
  | 0, h, _, _ => by rw [show i = 0 by omega]
  | k + 1, h, hk, hp => by
    by_cases e : i = k + 1
    · rw [e]
    · have ih := Tr2.still t k (by omega) (by omega) (fun j o h1 h2 h3 => hp j o h1 (by omega) h3)
      have ho := Array.getElem?_eq_getElem (show k < ops.size by omega)
      rcases t.step k _ ho with ⟨_, _, h3⟩ | ⟨_, _, h3⟩
      · rw [(h3 (hp k _ (by omega) (by omega) ho)).1, ih]
      · rw [h3, ih]

structure Inv2 (t : Tr2 P n ops) (E0 : Emb) (base : Nat) (w0 : World) (S : Nat → Bool) (c : Nat) (E : Emb) (w : World) (a : Act) : Prop where
  le : c ≤ ops.size
  mem : ∀ (i : Nat) (o : Oper), ops[i]? = some o → pureOp o.op = false → (S i = true ↔ i < c)
  step : Step E0 (t.H 0) w0 E (t.H c) w
  heap : HRel E base (t.H c) w.heap
  tmps : a.tmps.size = n
  defers : a.defers = []
  last : ∀ (s j : Nat) (o : Oper), S j = true → ops[j]? = some o → o.dst = some s → (∀ k o', j < k → S k = true → ops[k]? = some o' → o'.dst ≠ some s) → VRel E (t.V j) (a.tmps.getD s undef)
  none : ∀ (s : Nat), (∀ (k : Nat) (o' : Oper), S k = true → ops[k]? = some o' → o'.dst ≠ some s) → VRel E (t.T 0 s) (a.tmps.getD s undef)

theorem Inv2.next {t : Tr2 P n ops} {E0 E E' : Emb} {base : Nat} {w0 w w' : World} {S : Nat → Bool} {c c' : Nat} {a : Act} {v' : Value} (inv : Inv2 t E0 base w0 S c E w a) {i : Nat} {o : Oper} (ho : ops[i]? = some o) (hS : S i = false)
    (hdst : dstOK n o.dst = true) (hB : ∀ j oj s, i < j → ops[j]? = some oj → o.dst = some s → oj.dst = some s → S j = false)
    (hc : c' ≤ ops.size) (hm : ∀ k ok, ops[k]? = some ok → pureOp ok.op = false → ((if k = i then true else S k) = true ↔ k < c'))
    (st : Step E (t.H c) w E' (t.H c') w') (hr : HRel E' base (t.H c') w'.heap) (hv : VRel E' (t.V i) v') : Inv2 t E0 base w0 (fun k => if k = i then true else S k) c' E' w' (a.put o.dst v') where
  le := hc
  mem := hm
  step := inv.step.trans st
  heap := hr
  tmps := by cases hd : o.dst <;> simp [Act.put, inv.tmps]
  defers := by cases hd : o.dst <;> simp [Act.put, inv.defers]
  last s j oj hSj hoj hdj hlast := by
    by_cases hji : j = i
    · subst hji
      rw [ho] at hoj; cases hoj
      have hs : s < n := by rw [hdj] at hdst; simpa [dstOK] using hdst
      have : (a.put o.dst v').tmps.getD s undef = v' := by rw [hdj]; simp [Act.put, inv.tmps, hs]
      rw [this]; exact hv
    · have hSj' : S j = true := by simpa [hji] using hSj
      have hne : o.dst ≠ some s := by
        intro e
        rcases Nat.lt_or_gt_of_ne hji with h4 | h4
        · exact hlast i o h4 (by simp) ho e
        · have := hB j oj s h4 hoj e hdj
          rw [this] at hSj'; cases hSj'
      have : (a.put o.dst v').tmps.getD s undef = a.tmps.getD s undef := by
        cases hd : o.dst with
        | none => rfl
        | some d =>
          have hds : d ≠ s := fun e => hne (by rw [hd, e])
          simp only [Act.put]
          rw [Array.getD_eq_getD_getElem?, Array.getD_eq_getD_getElem?, Array.getElem?_setIfInBounds_ne hds]
      rw [this]
      exact st.vrel inv.heap (inv.last s j oj hSj' hoj hdj (fun k ok h1 h3 h4 => hlast k ok h1 (by simp only [h3]; split <;> rfl) h4))
  none s hnone := by
    have hne : o.dst ≠ some s := hnone i o (by simp) ho
    have : (a.put o.dst v').tmps.getD s undef = a.tmps.getD s undef := by
      cases hd : o.dst with
      | none => rfl
      | some d =>
        have hds : d ≠ s := fun e => hne (by rw [hd, e])
        simp only [Act.put]
        rw [Array.getD_eq_getD_getElem?, Array.getD_eq_getD_getElem?, Array.getElem?_setIfInBounds_ne hds]
    rw [this]
    exact st.vrel inv.heap (inv.none s (fun k ok h3 h4 => hnone k ok (by simp only [h3]; split <;> rfl) h4))

theorem Inv2.operand {t : Tr2 P n ops} {E0 E : Emb} {base : Nat} {w0 w : World} {S : Nat → Bool} {c : Nat} {a : Act} (inv : Inv2 t E0 base w0 S c E w a) {i s : Nat} (hi : i < ops.size) (hS : S i = false)
    (hw : ∀ j oj, j ≠ i → ops[j]? = some oj → oj.dst = some s → (j < i → S j = true) ∧ (i < j → S j = false)) : VRel E (t.T i s) (a.tmps.getD s undef) := by
  rcases t.slot s i (by omega) with ⟨j, oj, h1, h2, h3, h4, h5⟩ | ⟨h1, h2⟩
  · rw [h4]
    refine inv.last s j oj ((hw j oj (by omega) h2 h3).1 h1) h2 h3 (fun k ok k1 k3 k4 k5 => ?_)
    rcases Nat.lt_trichotomy k i with h | h | h
    · exact h5 k ok k1 h k4 k5
    · subst h; rw [hS] at k3; cases k3
    · have := (hw k ok (by omega) k4 k5).2 h
      rw [this] at k3; cases k3
  · rw [h1]
    refine inv.none s (fun k ok k3 k4 k5 => ?_)
    rcases Nat.lt_trichotomy k i with h | h | h
    · exact h2 k ok h k4 k5
    · subst h; rw [hS] at k3; cases k3
    · have := (hw k ok (by omega) k4 k5).2 h
      rw [this] at k3; cases k3

theorem any_chain {Q : Exit → Act → World → Prop} (t : Tr2 P n ops) (hd : drawOK ops ops.size = true) (hch : chainB ops = true) {E0 : Emb} {base : Nat} {w0 : World}
    (hend : ∀ E w a, Step E0 (t.H 0) w0 E (t.H ops.size) w → HRel E base (t.H ops.size) w.heap → TRel E n (t.T ops.size) a → Q .normal a w) :
    ∀ (k : Nat) (l : Array Bool) (c : Nat) (E : Emb) (w : World) (a : Act), l.size = ops.size → cntF (fun k => l.getD k false) ops.size = k → Closed ops l →
      Inv2 t E0 base w0 (fun k => l.getD k false) c E w a → wpAny P .any ops Q k l a w
  | 0, l, c, E, w, a, hs, hc, hcl, inv => by
    have hall := cntF_zero hc
    simp only [wpAny]
    refine ⟨?_, ?_⟩
    · apply List.eq_nil_iff_forall_not_mem.2
      intro i hi
      obtain ⟨h1, h2, _⟩ := ready_spec hs hi
      have := hall i h1
      rw [this] at h2; cases h2
    · have hcc : ∀ j o, c ≤ j → j < ops.size → ops[j]? = some o → pureOp o.op = true := fun j o h1 h2 ho => by
        cases hp : pureOp o.op with
        | true => rfl
        | false => have := (inv.mem j o ho hp).1 (hall j h2); omega
      have hH := t.still ops.size inv.le (Nat.le_refl _) hcc
      refine hend E w a (by rw [hH]; exact inv.step) (by rw [hH]; exact inv.heap) ⟨inv.tmps, fun s => ?_, inv.defers⟩
      rcases t.slot s ops.size (Nat.le_refl _) with ⟨j, oj, g1, g2, g3, g4, g5⟩ | ⟨g1, g2⟩
      · rw [g4]
        exact inv.last s j oj (hall j g1) g2 g3 (fun k ok k1 _ k4 => g5 k ok k1 (Array.getElem?_eq_some_iff.1 k4).1 k4)
      · rw [g1]
        exact inv.none s (fun k ok _ k4 => g2 k ok (Array.getElem?_eq_some_iff.1 k4).1 k4)
  | k + 1, l, c, E, w, a, hs, hc, hcl, inv => by
    obtain ⟨h1, h2, h3, _⟩ := drawOK_spec hd
    obtain ⟨i0, i1, i2, i3⟩ := cntF_pos (f := fun k => l.getD k false) (m := ops.size) (by omega)
    simp only [wpAny]
    refine ⟨fun h => ?_, fun i hi => ?_⟩
    · have := ready_mk (l := l) h2 hs i1 i2 i3
      rw [h] at this; cases this
    · obtain ⟨r1, r2, r3⟩ := ready_spec hs hi
      have ho := Array.getElem?_eq_getElem r1
      generalize hov : ops[i] = o at ho
      have hlook : ∀ s, (o.looksAt ops).contains s = true → ∀ j oj, j ≠ i → ops[j]? = some oj → oj.dst = some s → (j < i → l.getD j false = true) ∧ (i < j → l.getD j false = false) := by
        intro s hcs j oj hne hoj hds
        have hj : j < ops.size := (Array.getElem?_eq_some_iff.1 hoj).1
        have h5 := (h3 i j o oj s r1 hj (fun e => hne e.symm) ho hoj hds).1 hcs
        refine ⟨fun hlt => ?_, fun hlt => ?_⟩
        · rw [if_pos hlt] at h5; exact r3 j h5
        · rw [if_neg (by omega)] at h5
          cases hlj : l.getD j false with
          | false => rfl
          | true => have := hcl j i hlj h5; rw [r2] at this; cases this
      have hval : ∀ s, (o.looksAt ops).contains s = true → VRel E (t.T i s) (a.tmps.getD s undef) := fun s hcs => inv.operand r1 r2 (hlook s hcs)
      have hB : ∀ j oj s, i < j → ops[j]? = some oj → o.dst = some s → oj.dst = some s → l.getD j false = false := by
        intro j oj s hlt hoj hds hds'
        have hj : j < ops.size := (Array.getElem?_eq_some_iff.1 hoj).1
        have h5 := (h3 i j o oj s r1 hj (by omega) ho hoj hds').2 hds hlt
        cases hlj : l.getD j false with
        | false => rfl
        | true => have := hcl j i hlj h5; rw [r2] at this; cases this
      obtain ⟨d1, d2⟩ := t.dst i o ho
      have hcnt : cntF (fun k => (l.setIfInBounds i true).getD k false) ops.size = k := by
        have := cntF_set (f := fun k => l.getD k false) (g := fun k => (l.setIfInBounds i true).getD k false) r1 r2 (fun k => getD_set (by omega) k)
        omega
      have hcl' : Closed ops (l.setIfInBounds i true) := by
        intro x y hx hxy
        rw [getD_set (by omega)] at hx ⊢
        by_cases e : x = i
        · subst e; split
          · rfl
          · exact r3 y hxy
        · rw [if_neg e] at hx
          split
          · rfl
          · exact hcl x y hx hxy
      have cont : ∀ c' E' w' v', c' ≤ ops.size → (∀ k ok, ops[k]? = some ok → pureOp ok.op = false → ((if k = i then true else l.getD k false) = true ↔ k < c')) → Step E (t.H c) w E' (t.H c') w' → HRel E' base (t.H c') w'.heap → VRel E' (t.V i) v' → wpAny P .any ops Q k (l.setIfInBounds i true) (a.put o.dst v') w' := by
        intro c' E' w' v' hc' hm' st hr hv
        have inv' := inv.next (v' := v') ho r2 d1 hB hc' hm' st hr hv
        refine any_chain t hd hch hend k _ c' E' w' _ (by simp [hs]) hcnt hcl' ?_
        have e : (fun k => (l.setIfInBounds i true).getD k false) = fun k => if k = i then true else l.getD k false := funext fun k => getD_set (by omega) k
        rw [e]; exact inv'
      -- the guard
      have hwant : ∀ b, wantA ops (t.T i) o = some b → Region.wanted o (yielded ops a.tmps) = b := by
        intro b hb
        unfold wantA at hb
        unfold Region.wanted
        split at hb
        · rename_i hgd; simp only [Option.some.injEq] at hb; subst hb; rw [hgd]
        · rename_i j want hgd
          rw [hgd]
          split at hb
          · rename_i d hdd
            split at hb
            · rename_i bb hbb
              simp only [Option.some.injEq] at hb
              subst hb
              have hlt := guardOK_spec d2 j want d hgd hdd
              have hcs : (o.looksAt ops).contains d = true := by simp [Oper.looksAt, hgd, hdd]
              have hrr := hval d hcs
              rw [hbb] at hrr
              obtain ⟨z, hz, hz'⟩ := getD_some (c := a.tmps) (i := d) (by rw [inv.tmps]; exact hlt)
              have hz2 : z = .bool bb := by rw [← hz']; exact hrr.inv_bool
              subst hz2
              simp only [yielded, hdd, Option.bind_some, hz]
              cases bb <;> cases want <;> rfl
            · rename_i bb hbb
              simp only [Option.some.injEq] at hb
              subst hb
              have hlt := guardOK_spec d2 j want d hgd hdd
              have hcs : (o.looksAt ops).contains d = true := by simp [Oper.looksAt, hgd, hdd]
              have hrr := hval d hcs
              rw [hbb] at hrr
              obtain ⟨z, hz, hz'⟩ := getD_some (c := a.tmps) (i := d) (by rw [inv.tmps]; exact hlt)
              obtain ⟨c', hc'⟩ := hrr.inv_tuple
              have hz2 : z = .tuple c' := by rw [← hz']; exact hc'
              subst hz2
              simp only [yielded, hdd, Option.bind_some, hz]
              cases want <;> rfl
            · cases hb
          · cases hb
      have hops : ∀ s, Operand.tmp s ∈ o.op.operands → VRel E (t.T i s) (a.tmps.getD s undef) := fun s hsm => hval s (by
        simp only [Oper.looksAt, List.contains_eq_mem, List.mem_append, decide_eq_true_eq]
        left
        exact List.mem_filterMap.2 ⟨.tmp s, by simpa using hsm, rfl⟩)
      -- where the heap stands
      cases hp : pureOp o.op with
      | true =>
        have hm' : ∀ k ok, ops[k]? = some ok → pureOp ok.op = false → ((if k = i then true else l.getD k false) = true ↔ k < c) := fun k ok hk hpk => by
          by_cases e : k = i
          · subst e; rw [ho] at hk; cases hk; rw [hp] at hpk; cases hpk
          · rw [if_neg e]; exact inv.mem k ok hk hpk
        unfold wpOp
        simp only [ho]
        rcases t.step i o ho with ⟨g1, _, g2⟩ | ⟨g1, g2, g3⟩
        · rw [hwant true g1, if_pos rfl]
          left
          exact (g2 hp).2 (t.H c) E base w a _ Q inv.heap hops (fun E' w' v' st hr hv => cont c E' w' v' inv.le hm' st hr hv)
        · rw [hwant false g1, if_neg (by simp)]
          refine cont c E w undef inv.le hm' (Step.refl _ _ _) inv.heap ?_
          rw [g2]; exact VRel.undef _
      | false =>
        have hci : c ≤ i := by
          apply Nat.le_of_not_lt
          intro hlt
          have := (inv.mem i o ho hp).2 hlt
          rw [r2] at this; cases this
        have hbet : ∀ j oj, c ≤ j → j < i → ops[j]? = some oj → pureOp oj.op = true := fun j oj q1 q2 hoj => by
          cases hpj : pureOp oj.op with
          | true => rfl
          | false =>
            have := tcl_done hcl 8 i j (chainB_spec hch ho hoj hp hpj q2) r3
            have := (inv.mem j oj hoj hpj).1 this
            omega
        have hH := t.still i hci (by omega) hbet
        have hm' : ∀ k ok, ops[k]? = some ok → pureOp ok.op = false → ((if k = i then true else l.getD k false) = true ↔ k < i + 1) := fun k ok hk hpk => by
          by_cases e : k = i
          · subst e; simp
          · rw [if_neg e]
            have hmk := inv.mem k ok hk hpk
            constructor
            · intro hl; have := hmk.1 hl; omega
            · intro hlt
              exact tcl_done hcl 8 i k (chainB_spec hch ho hk hp hpk (by omega)) r3
        unfold wpOp
        simp only [ho]
        rcases t.step i o ho with ⟨g1, g2, _⟩ | ⟨g1, g2, g3⟩
        · rw [hwant true g1, if_pos rfl]
          left
          rw [hH] at g2
          exact g2 E base w a _ Q inv.heap hops (fun E' w' v' st hr hv => cont (i + 1) E' w' v' (by omega) hm' st hr hv)
        · rw [hwant false g1, if_neg (by simp)]
          rw [hH] at g3
          refine cont (i + 1) E w undef (by omega) hm' ?_ ?_ ?_
          · rw [g3]; exact Step.refl _ _ _
          · rw [g3]; exact inv.heap
          · rw [g2]; exact VRel.undef _

theorem runs_chain {id : Nat} {Q : Exit → (Nat → Value) → Hp → Prop} {tm : Nat → Value} {h : Hp} (hm : P.follows .mixedOrders = true) (hd : drawOK ops ops.size = true) (hch : chainB ops = true)
    (hq : RunD P n ops ops.toList (Q .normal) tm h) : Runs P n (.region id ops true) Q tm h := by
  obtain ⟨T, H, V, e1, e2, hR, hi⟩ := run_trace _ _ _ hq
  rw [Array.length_toList] at hR
  let t : Tr2 P n ops :=
    { T := T, H := H, V := V
      dst := fun i o ho => (hi i o (by simpa using ho)).1
      step := fun i o ho => (hi i o (by simpa using ho)).2.1
      next := fun i o ho => (hi i o (by simpa using ho)).2.2 }
  refine ⟨.normal, T ops.size, H ops.size, fun E base w a hr ht => wp_region_any hm ?_, hR⟩
  have hfalse : ∀ k, (Array.replicate ops.size false).getD k false = false := fun k => by
    rw [Array.getD_eq_getD_getElem?, Array.getElem?_replicate]; split <;> rfl
  have hinit : Inv2 t E base w (fun k => (Array.replicate ops.size false).getD k false) 0 E { w with drawn := w.drawn + 1 } a := by
    refine ⟨Nat.zero_le _, fun i o _ _ => ?_, Step.same rfl rfl rfl ⟨rfl, Nat.le_succ _⟩, ?_, ht.size, ht.defers, fun s j o hS => ?_, fun s _ => ?_⟩
    · rw [hfalse]; simp
    · show HRel E base (H 0) w.heap
      rw [e2]; exact hr
    · rw [hfalse] at hS; cases hS
    · show VRel E (T 0 s) _
      rw [e1]; exact ht.rel s
  have hcnt : cntF (fun k => (Array.replicate ops.size false).getD k false) ops.size = ops.size := by
    have : ∀ m, cntF (fun k => (Array.replicate ops.size false).getD k false) m = m := by
      intro m
      induction m with
      | zero => rfl
      | succ m ih =>
        show cntF _ m + (if (Array.replicate ops.size false).getD m false = true then 0 else 1) = m + 1
        rw [ih, hfalse]; simp
    exact this ops.size
  refine any_chain (Q := fun ex a' w' => ex = .normal ∧ ∃ E', Step E h w E' (H ops.size) w' ∧ HRel E' base (H ops.size) w'.heap ∧ TRel E' n (T ops.size) a') t hd hch (E0 := E) (base := base) (w0 := w) ?_ ops.size (Array.replicate ops.size false) 0 E { w with drawn := w.drawn + 1 } a (by simp) hcnt (fun i j hi => by rw [hfalse] at hi; cases hi) hinit
  intro E1 w1 a1 st hr1 ht1
  have st' : Step E h w E1 (H ops.size) w1 := by have := st; rw [show t.H 0 = h from e2] at this; exact this
  exact ⟨rfl, E1, st', hr1, ht1⟩

/-- The rule for stepping. -/
theorem WD_chain {id : Nat} {Q : Exit → (Nat → Value) → Hp → Prop} {tm : Nat → Value} {h : Hp} (hm : P.follows .mixedOrders = true) (hd : drawOK ops ops.size = true) (hch : chainB ops = true)
    (hr : ∀ K : (Nat → Value) → Hp → Prop, (∀ tm h, Q .normal tm h → K tm h) → RunD P n ops ops.toList K tm h) : WD P n (.region id ops true) Q tm h :=
  runs_chain hm hd hch (hr _ (fun _ _ h => h))
end
end Go.Eng
end

section
namespace Go.Eng

/-- By a guard's value: wanted, or not, or not run itself. -/
def gateX (v : Value) (want : Bool) (A B : Prop) : Prop := (v = .bool want ∧ A) ∨ (v = .bool (!want) ∧ B) ∨ ∃ c, v = .tuple c ∧ B
@[simp] theorem gateX_bool (b want : Bool) (A B : Prop) : gateX (.bool b) want A B = if b = want then A else B := by
  unfold gateX
  cases b <;> cases want <;> simp
@[simp] theorem gateX_tuple (c : Array Value) (want : Bool) (A B : Prop) : gateX (.tuple c) want A B = B := by
  unfold gateX
  simp
@[simp] theorem gateX_undef (want : Bool) (A B : Prop) : gateX undef want A B = B := gateX_tuple _ _ _ _
@[congr] theorem gateX_congr {v w : Value} (want : Bool) (A B : Prop) (e : v = w) : gateX v want A B = gateX w want A B := by rw [e]
/-- By a test's value. -/
def condX (v : Value) (A B : Prop) : Prop := (v = .bool true ∧ A) ∨ (v = .bool false ∧ B)
@[simp] theorem condX_bool (b : Bool) (A B : Prop) : condX (.bool b) A B = if b = true then A else B := by
  unfold condX
  cases b <;> simp
@[congr] theorem condX_congr {v w : Value} (A B : Prop) (e : v = w) : condX v A B = condX w A B := by rw [e]

section
variable {P : Program} {n : Nat} {tm : Nat → Value} {h : Hp} {ops : Array Oper} {rest : List Oper} {R : (Nat → Value) → Hp → Prop} {o : Oper} {Q : Exit → (Nat → Value) → Hp → Prop}

theorem WD_c {c : Operand} {x y : Code} (hx : okX c = true) (hr : ∀ A B : Prop, (WD P n x Q tm h → A) → (WD P n y Q tm h → B) → condX (ev tm c) A B) : WD P n (.cond c x y) Q tm h := by
  rcases hr _ _ id id with ⟨h1, h2⟩ | ⟨h1, h2⟩
  · exact WD_true hx h1 h2
  · exact WD_false hx h1 h2

theorem RunD_g {j g d : Nat} {want : Bool} {op : Op} (hop : o.op = op) (hcv : callV op = false) (hd : o.dst = some d) (hn : decide (d < n) = true) (hg : o.guard = some (j, want)) (hj : (ops[j]?).bind (·.dst) = some g) (hl : decide (g < n) = true)
    (hr : ∀ (k : Value → Hp → Prop) (K2 : Prop), (∀ v h', RunD P n ops rest R (upd tm d v) h' → k v h') → (RunD P n ops rest R (upd tm d undef) h → K2) → gateX (tm g) want (thenX (opD P op tm h) k) K2) : RunD P n ops (o :: rest) R tm h := by
  rcases hr _ _ (fun _ _ h => h) id with ⟨h1, h2⟩ | ⟨h1, h2⟩ | ⟨c, h1, h2⟩
  · exact RunD_oT hop hcv hd hn hg hj hl h1 fun k hk => by
      obtain ⟨v, h', e, hh⟩ := h2
      exact ⟨v, h', e, hk v h' hh⟩
  · exact RunD_oF hd hn hg hj hl h1 h2
  · exact RunD_oU hd hn hg hj hl h1 h2

/-- A guarded call that does not run. -/
theorem RunD_gc {j g d : Nat} {want : Bool} {c : Call} (_ : o.op = .call c) (hd : o.dst = some d) (hn : decide (d < n) = true) (hg : o.guard = some (j, want)) (hj : (ops[j]?).bind (·.dst) = some g) (hl : decide (g < n) = true)
    (hr : ∀ (K2 : Prop), (RunD P n ops rest R (upd tm d undef) h → K2) → gateX (tm g) want False K2) : RunD P n ops (o :: rest) R tm h := by
  rcases hr _ id with ⟨h1, h2⟩ | ⟨h1, h2⟩ | ⟨c, h1, h2⟩
  · exact h2.elim
  · exact RunD_oF hd hn hg hj hl h1 h2
  · exact RunD_oU hd hn hg hj hl h1 h2

theorem PreD_g {j g d : Nat} {want : Bool} {op : Op} (hop : o.op = op) (hcv : callV op = false) (hd : o.dst = some d) (hn : decide (d < n) = true) (hg : o.guard = some (j, want)) (hj : (ops[j]?).bind (·.dst) = some g) (hl : decide (g < n) = true)
    (hr : ∀ (k : Value → Hp → Prop) (K2 : Prop), (∀ v h', Adds h h' → PreD P n ops rest R (upd tm d v) h' → k v h') → (PreD P n ops rest R (upd tm d undef) h → K2) → gateX (tm g) want (thenX (opD P op tm h) k) K2) : PreD P n ops (o :: rest) R tm h := by
  rcases hr (fun v h' => Adds h h' ∧ PreD P n ops rest R (upd tm d v) h') _ (fun _ _ h k => ⟨h, k⟩) id with ⟨h1, h2⟩ | ⟨h1, h2⟩ | ⟨c, h1, h2⟩
  · exact PreD_oT hop hcv hd hn hg hj hl h1 fun k hk => by
      obtain ⟨v, h', e, hh⟩ := h2
      exact ⟨v, h', e, hk v h' hh.1 hh.2⟩
  · exact PreD_oF hd hn hg hj hl h1 h2
  · exact PreD_oU hd hn hg hj hl h1 h2
theorem PreD_gc {j g d : Nat} {want : Bool} {c : Call} (_ : o.op = .call c) (hd : o.dst = some d) (hn : decide (d < n) = true) (hg : o.guard = some (j, want)) (hj : (ops[j]?).bind (·.dst) = some g) (hl : decide (g < n) = true)
    (hr : ∀ (K2 : Prop), (PreD P n ops rest R (upd tm d undef) h → K2) → gateX (tm g) want False K2) : PreD P n ops (o :: rest) R tm h := by
  rcases hr _ id with ⟨h1, h2⟩ | ⟨h1, h2⟩ | ⟨c, h1, h2⟩
  · exact h2.elim
  · exact PreD_oF hd hn hg hj hl h1 h2
  · exact PreD_oU hd hn hg hj hl h1 h2
end
end Go.Eng
end
