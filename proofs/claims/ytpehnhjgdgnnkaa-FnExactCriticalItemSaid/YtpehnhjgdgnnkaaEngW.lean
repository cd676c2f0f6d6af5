/- Loops that keep slots; heaps behind a name; what is known of a slice without its address; a guarded call in a drawn part. -/
import Derived.Test.YtpehnhjgdgnnkaaEngV
namespace Go.Eng

/-- These slots are as they were. -/
def FrameL : List Nat → (Nat → Value) → (Nat → Value) → Prop
  | [], _, _ => True
  | s :: l, a, b => b s = a s ∧ FrameL l a b
theorem FrameL.refl : ∀ (l : List Nat) (a : Nat → Value), FrameL l a a
  | [], _ => trivial
  | _ :: l, a => ⟨rfl, FrameL.refl l a⟩
theorem FrameL.trans : ∀ {l : List Nat} {a b c : Nat → Value}, FrameL l a b → FrameL l b c → FrameL l a c
  | [], _, _, _, _, _ => trivial
  | _ :: _, _, _, _, h, k => ⟨k.1.trans h.1, FrameL.trans h.2 k.2⟩

section
variable {P : Program} {n : Nat} {tm : Nat → Value} {h : Hp} {Q : Exit → (Nat → Value) → Hp → Prop}

theorem WD_loopF (fs : List Nat) {c : Code} (I : Nat → (Nat → Value) → Hp → Prop) (k : Nat) (h0 : I k tm h)
    (round : ∀ k tm' h', FrameL fs tm tm' → I k tm' h' → ∀ K : Exit → (Nat → Value) → Hp → Prop, ((∀ k' tm'' h'', k' < k → FrameL fs tm' tm'' → I k' tm'' h'' → K .normal tm'' h'') ∧ (∀ e tm'' h'', e ≠ .normal → Q e tm'' h'' → K e tm'' h'')) → WD P n c K tm' h') :
    WD P n (.loop c) Q tm h :=
  WD_loop (fun k tm' h' => FrameL fs tm tm' ∧ I k tm' h') k ⟨FrameL.refl _ _, h0⟩ fun k tm' h' hI K hK =>
    round k tm' h' hI.1 hI.2 K ⟨fun k' tm'' h'' hk hF hI' => hK.1 k' tm'' h'' hk ⟨hI.1.trans hF, hI'⟩, hK.2⟩

theorem WD_heap {c : Code} (hr : ∀ h', h' = h → WD P n c Q tm h') : WD P n c Q tm h := hr h rfl
variable {ops : Array Oper} {rest : List Oper} {R : (Nat → Value) → Hp → Prop} {o : Oper}
theorem RunD_heap (hr : ∀ h', h' = h → RunD P n ops rest R tm h') : RunD P n ops rest R tm h := hr h rfl
theorem PreD_heap (hr : ∀ h', h' = h → PreD P n ops rest R tm h') : PreD P n ops rest R tm h := hr h rfl

theorem PreD_cT {j g d : Nat} {want : Bool} {f : FuncId} {xs : Array Operand} {ts : Array TypeId} {args : Array Value} {v : Value} {h' : Hp} (hop : o.op = .call ⟨.value (.func f), xs, ts⟩) (hd : o.dst = some d) (hn : decide (d < n) = true)
    (hg : o.guard = some (j, want)) (hj : (ops[j]?).bind (·.dst) = some g) (hl : decide (g < n) = true) (hb : tm g = .bool want)
    (h2 : xs.all okX = true) (h4 : fnOK P f = true) (ha : xs.map (ev tm) = args) (hc : CallOK P f args h v h') (hadd : Adds h h') (hr : PreD P n ops rest R (upd tm d v) h') : PreD P n ops (o :: rest) R tm h :=
  ⟨by rw [hd]; exact hn, by simp only [guardOK, hg, hj]; exact hl, .inl ⟨by simp only [wantA, hg, hj, hb]; simp, v, h', ok_call hop rfl rfl h2 h4 (by rw [ha]; simpa using hc), hadd, by rw [hd]; exact hr⟩⟩
end

/-! What is known of a slice without its address. -/
theorem Sl.lenD {α : Type} {R : Hp → Value → α → Prop} {h : Hp} {v : Value} {xs : List α} (hs : Sl R h v xs) : ∀ (P : Program) (t : TypeId), Go.Eng.lenD P t v = (elT P t).map fun _ => .int .i64 xs.length := by
  obtain ⟨s, c, rfl, _, _⟩ := hs.form
  intro P t
  unfold Go.Eng.lenD
  cases elT P t <;> rfl
theorem Sl.nt {α : Type} {R : Hp → Value → α → Prop} {h : Hp} {v : Value} {xs : List α} (hs : Sl R h v xs) : notTup v = true := by
  obtain ⟨s, c, rfl, _, _⟩ := hs.form; rfl
theorem Sl.cs {α : Type} {R : Hp → Value → α → Prop} {h : Hp} {v : Value} {xs : List α} (hs : Sl R h v xs) : v.cells = #[v] := by
  obtain ⟨s, c, rfl, _, _⟩ := hs.form; rfl
theorem Ints.lenD {h : Hp} {v : Value} {xs : List Int} (hs : Ints h v xs) : ∀ (P : Program) (t : TypeId), Go.Eng.lenD P t v = (elT P t).map fun _ => .int .i64 xs.length := Sl.lenD hs
theorem Ints.nt {h : Hp} {v : Value} {xs : List Int} (hs : Ints h v xs) : notTup v = true := Sl.nt hs
theorem Ints.cs {h : Hp} {v : Value} {xs : List Int} (hs : Ints h v xs) : v.cells = #[v] := Sl.cs hs
theorem Ints.len {h : Hp} {v : Value} {xs : List Int} (hs : Ints h v xs) : xs.length < 2 ^ 63 := Sl.short hs
theorem IRows.lenD {h : Hp} {v : Value} {xs : List (List Int)} (hs : IRows h v xs) : ∀ (P : Program) (t : TypeId), Go.Eng.lenD P t v = (elT P t).map fun _ => .int .i64 xs.length := Sl.lenD hs
theorem IRows.nt {h : Hp} {v : Value} {xs : List (List Int)} (hs : IRows h v xs) : notTup v = true := Sl.nt hs
theorem IRows.cs {h : Hp} {v : Value} {xs : List (List Int)} (hs : IRows h v xs) : v.cells = #[v] := Sl.cs hs
theorem IRows.len {h : Hp} {v : Value} {xs : List (List Int)} (hs : IRows h v xs) : xs.length < 2 ^ 63 := Sl.short hs

/-- A slice that is not empty: where it lies, and all its elements. -/
theorem Sl.open {α : Type} {R : Hp → Value → α → Prop} {h : Hp} {v : Value} {xs : List α} (hs : Sl R h v xs) (hne : 0 < xs.length) :
    ∃ o i c cs own ex es, v = .slice (some ⟨o, i, none⟩) xs.length c ∧ o < h.next ∧ h.get o = .cells cs own ex es ∧ i + xs.length ≤ cs.length ∧ ∀ k (hk : k < xs.length), R h (cs.getD (i + k) undef) xs[k] := by
  obtain ⟨s, c, e, hc, hc', hx⟩ := hs
  obtain ⟨o, i, cs, own, ex, es, h1, h2, h3, h4, h5⟩ := hx 0 xs[0] (List.getElem?_eq_getElem hne)
  have key : ∀ k (hk : k < xs.length), i + k < cs.length ∧ R h (cs.getD (i + k) undef) xs[k] := fun k hk => by
    obtain ⟨o', i', cs', own', ex', es', h1', h2', h3', h4', h5'⟩ := hx k xs[k] (List.getElem?_eq_getElem hk)
    rw [h1] at h1'
    cases h1'
    rw [h3] at h3'
    cases h3'
    exact ⟨h4', h5'⟩
  exact ⟨o, i, c, cs, own, ex, es, by rw [e, h1], h2, h3, by have := (key (xs.length - 1) (by omega)).1; omega, fun k hk => (key k hk).2⟩
theorem Ints.open {h : Hp} {v : Value} {xs : List Int} (hs : Ints h v xs) (hne : 0 < xs.length) :
    ∃ o i c cs own ex es, v = .slice (some ⟨o, i, none⟩) xs.length c ∧ o < h.next ∧ h.get o = .cells cs own ex es ∧ i + xs.length ≤ cs.length ∧ ∀ k (hk : k < xs.length) (h2 : i + k < cs.length), cs[i + k] = .int .i64 xs[k] := by
  obtain ⟨o, i, c, cs, own, ex, es, h1, h2, h3, h4, h5⟩ := Sl.open hs hne
  exact ⟨o, i, c, cs, own, ex, es, h1, h2, h3, h4, fun k hk h2 => by have := h5 k hk; rw [List.getD_eq_getElem?_getD, List.getElem?_eq_getElem h2] at this; exact this⟩
theorem IRows.open {h : Hp} {v : Value} {xs : List (List Int)} (hs : IRows h v xs) (hne : 0 < xs.length) :
    ∃ o i c cs own ex es, ∃ us : Nat → Value, v = .slice (some ⟨o, i, none⟩) xs.length c ∧ o < h.next ∧ h.get o = .cells cs own ex es ∧ i + xs.length ≤ cs.length ∧ (∀ k, k < xs.length → ∀ h2 : i + k < cs.length, cs[i + k] = us k) ∧ ∀ k (hk : k < xs.length), Ints h (us k) xs[k] := by
  obtain ⟨o, i, c, cs, own, ex, es, h1, h2, h3, h4, h5⟩ := Sl.open hs hne
  exact ⟨o, i, c, cs, own, ex, es, fun k => cs.getD (i + k) undef, h1, h2, h3, h4, fun k _ h2 => by simp [h2], fun k hk => h5 k hk⟩

theorem getForm {cs : List Value} {i n : Nat} {us : Nat → Value} (r : ∀ k, k < n → cs[i + k]?.getD undef = us k) : ∀ k, k < n → ∀ h2 : i + k < cs.length, cs[i + k] = us k := fun k hk h2 => by
  have := r k hk
  rw [List.getElem?_eq_getElem h2] at this; exact this

theorem wrap64c (x : Int) (h1 : -9223372036854775808 ≤ x) (h2 : x < 9223372036854775808) : IntKind.wrap .i64 x = x := wrap64 h1 h2
end Go.Eng
