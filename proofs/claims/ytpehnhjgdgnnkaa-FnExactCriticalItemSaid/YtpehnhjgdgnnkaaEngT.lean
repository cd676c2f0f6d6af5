/- A loop with its rest kept behind a name; elements; whole numbers that do not wrap. -/
import Derived.Test.YtpehnhjgdgnnkaaEngS
namespace Go.Eng

section
variable {P : Program} {n : Nat} {tm : Nat → Value} {h : Hp} {Q : Exit → (Nat → Value) → Hp → Prop}

theorem WD_loop {c : Code} (I : Nat → (Nat → Value) → Hp → Prop) (k : Nat) (h0 : I k tm h)
    (round : ∀ k tm h, I k tm h → ∀ K : Exit → (Nat → Value) → Hp → Prop, ((∀ k' tm' h', k' < k → I k' tm' h' → K .normal tm' h') ∧ (∀ e tm' h', e ≠ .normal → Q e tm' h' → K e tm' h')) → WD P n c K tm h) :
    WD P n (.loop c) Q tm h :=
  loop_D I k h0 fun k tm h hI => round k tm h hI _ ⟨fun k' _ _ hk hI' => ⟨k', hk, hI'⟩, fun e _ _ he hq => by cases e <;> first | exact absurd rfl he | exact hq⟩
end

theorem Sl.at {α : Type} {R : Hp → Value → α → Prop} {h : Hp} {v : Value} {xs : List α} (hs : Sl R h v xs) {k : Nat} (hk : k < xs.length) :
    ∃ o i c cs own ex es u, v = .slice (some ⟨o, i, none⟩) xs.length c ∧ xs.length ≤ c ∧ c < 2 ^ 63 ∧ o < h.next ∧ h.get o = .cells cs own ex es ∧ ∃ hi : i + k < cs.length, cs[i + k] = u ∧ R h u xs[k] := by
  obtain ⟨s, c, e, hc, hc', hx⟩ := hs
  obtain ⟨o, i, cs, own, ex, es, h1, h2, h3, h4, h5⟩ := hx k xs[k] (List.getElem?_eq_getElem hk)
  refine ⟨o, i, c, cs, own, ex, es, cs[i + k], by rw [e, h1], hc, hc', h2, h3, h4, rfl, ?_⟩
  simpa [List.getD_eq_getElem?_getD, h4] using h5

theorem Sl.form {α : Type} {R : Hp → Value → α → Prop} {h : Hp} {v : Value} {xs : List α} (hs : Sl R h v xs) : ∃ s c, v = .slice s xs.length c ∧ xs.length ≤ c ∧ c < 2 ^ 63 := by
  obtain ⟨s, c, e, hc, hc', _⟩ := hs
  exact ⟨s, c, e, hc, hc'⟩
theorem Sl.short {α : Type} {R : Hp → Value → α → Prop} {h : Hp} {v : Value} {xs : List α} (hs : Sl R h v xs) : xs.length < 2 ^ 63 := by
  obtain ⟨s, c, e, hc, hc'⟩ := hs.form
  omega
theorem Ints.at {h : Hp} {v : Value} {xs : List Int} (hs : Ints h v xs) {k : Nat} (hk : k < xs.length) :
    ∃ o i c cs own ex es, v = .slice (some ⟨o, i, none⟩) xs.length c ∧ h.get o = .cells cs own ex es ∧ ∃ hi : i + k < cs.length, cs[i + k] = .int .i64 xs[k] := by
  obtain ⟨o, i, c, cs, own, ex, es, u, e, _, _, _, h1, h2, h3, h4⟩ := Sl.at hs hk
  cases h4
  exact ⟨o, i, c, cs, own, ex, es, e, h1, h2, h3⟩
theorem IRows.at {h : Hp} {v : Value} {xs : List (List Int)} (hs : IRows h v xs) {k : Nat} (hk : k < xs.length) :
    ∃ o i c cs own ex es u, v = .slice (some ⟨o, i, none⟩) xs.length c ∧ h.get o = .cells cs own ex es ∧ ∃ hi : i + k < cs.length, cs[i + k] = u ∧ Ints h u xs[k] := by
  obtain ⟨o, i, c, cs, own, ex, es, u, e, _, _, _, h1, h2, h3, h4⟩ := Sl.at hs hk
  exact ⟨o, i, c, cs, own, ex, es, u, e, h1, h2, h3, h4⟩

/-- A slice of a new object. -/
theorem Sl.mk {α : Type} {R : Hp → Value → α → Prop} {h : Hp} {o : Nat} {xs : List α} {c : Nat} {cs : List Value} {own ex : Bool} {es : Nat} (ho : o < h.next) (hg : h.get o = .cells cs own ex es) (hc : xs.length ≤ c) (hc' : c < 2 ^ 63)
    (hx : ∀ k (hk : k < xs.length), ∃ u, cs[k]? = some u ∧ R h u xs[k]) : Sl R h (.slice (some ⟨o, 0, none⟩) xs.length c) xs := by
  refine ⟨_, c, rfl, hc, hc', fun k x hk => ⟨o, 0, cs, own, ex, es, rfl, ho, hg, ?_⟩⟩
  obtain ⟨hk', e⟩ := List.getElem?_eq_some_iff.1 hk
  subst e
  obtain ⟨u, h1, h2⟩ := hx k hk'
  refine ⟨by have := (List.getElem?_eq_some_iff.1 h1).1; omega, ?_⟩
  simpa [List.getD_eq_getElem?_getD, h1] using h2

theorem wrap64 {x : Int} (h1 : -9223372036854775808 ≤ x) (h2 : x < 9223372036854775808) : IntKind.wrap .i64 x = x := by
  have e : IntKind.wrap .i64 x = if (true && decide (x % 18446744073709551616 ≥ 9223372036854775808)) = true then x % 18446744073709551616 - 18446744073709551616 else x % 18446744073709551616 := rfl
  rw [e]
  by_cases hc : x % 18446744073709551616 ≥ 9223372036854775808
  · simp only [hc, decide_true, Bool.and_self, if_true]; omega
  · simp only [hc, decide_false, Bool.and_false, Bool.false_eq_true, if_false]; omega

@[simp] theorem keeps_alloc {h h' : Hp} (k : Keeps h h') (x : AObj) : Keeps h (h'.alloc x) := k.trans (Keeps.alloc _ _)
@[simp] theorem keeps_put {h h' : Hp} (k : Keeps h h') {o : Nat} (ho : h.next ≤ o) (x : AObj) : Keeps h (h'.put o x) := k.put ho x
@[simp] theorem adds_self (h : Hp) : Adds h h := Adds.refl h
@[simp] theorem adds_alloc {h h' : Hp} (k : Adds h h') (c : List Value) (e : Bool) (n : Nat) : Adds h (h'.alloc (.cells c true e n)) := k.trans (Adds.alloc _ fun _ => rfl)
@[simp] theorem adds_put {h h' : Hp} (k : Adds h h') {o : Nat} (ho : h.next ≤ o) (c : List Value) (e : Bool) (n : Nat) : Adds h (h'.put o (.cells c true e n)) := k.put ho fun _ => rfl
@[simp] theorem live_cells (c : List Value) (a b : Bool) (n : Nat) : (AObj.cells c a b n).live = true := rfl
@[simp] theorem owned_cells (c : List Value) (a b : Bool) (n : Nat) : (AObj.cells c a b n).owned = a := rfl

@[simp] theorem zcells_int (k : IntKind) (x : Int) (n : Nat) : zcells (.int k x) n = List.replicate n (.int k x) := zcells_one rfl n
@[simp] theorem zcells_bool (b : Bool) (n : Nat) : zcells (.bool b) n = List.replicate n (.bool b) := zcells_one rfl n
@[simp] theorem zcells_str (b : ByteArray) (n : Nat) : zcells (.string b) n = List.replicate n (.string b) := zcells_one rfl n
@[simp] theorem zcells_slice (a : Option Addr) (x y : Nat) (n : Nat) : zcells (.slice a x y) n = List.replicate n (.slice a x y) := zcells_one rfl n

attribute [simp] thenP
@[simp] theorem add_1_one (x : Nat) : x + 1 + 1 = x + 2 := rfl
@[simp] theorem add_2_one (x : Nat) : x + 2 + 1 = x + 3 := rfl
@[simp] theorem add_3_one (x : Nat) : x + 3 + 1 = x + 4 := rfl
@[simp] theorem add_4_one (x : Nat) : x + 4 + 1 = x + 5 := rfl
@[simp] theorem add_5_one (x : Nat) : x + 5 + 1 = x + 6 := rfl
@[simp] theorem add_6_one (x : Nat) : x + 6 + 1 = x + 7 := rfl
@[simp] theorem add_7_one (x : Nat) : x + 7 + 1 = x + 8 := rfl
@[simp] theorem add_8_one (x : Nat) : x + 8 + 1 = x + 9 := rfl
@[simp] theorem add_9_one (x : Nat) : x + 9 + 1 = x + 10 := rfl
@[simp] theorem add_10_one (x : Nat) : x + 10 + 1 = x + 11 := rfl
@[simp] theorem add_11_one (x : Nat) : x + 11 + 1 = x + 12 := rfl
@[simp] theorem add_12_one (x : Nat) : x + 12 + 1 = x + 13 := rfl
@[simp] theorem add_13_one (x : Nat) : x + 13 + 1 = x + 14 := rfl
@[simp] theorem add_14_one (x : Nat) : x + 14 + 1 = x + 15 := rfl
@[simp] theorem add_15_one (x : Nat) : x + 15 + 1 = x + 16 := rfl
@[simp] theorem cast_inj (a b : Nat) : ((a : Int) = (b : Int)) ↔ a = b := by omega

/-- The slice is not of this object. -/
def Off (p : Nat) (v : Value) : Prop := ∀ o i n c, v = .slice (some ⟨o, i, none⟩) n c → o ≠ p
theorem Off.mk {p o i n c : Nat} (h : o ≠ p) : Off p (.slice (some ⟨o, i, none⟩) n c) := fun _ _ _ _ e => by cases e; exact h
theorem Sl.put {α : Type} {R : Hp → Value → α → Prop} {h : Hp} {v : Value} {xs : List α} {p : Nat} {x : AObj} (hs : Sl R h v xs) (ho : Off p v) (hR : ∀ k (hk : k < xs.length) u, R h u xs[k] → R (h.put p x) u xs[k]) : Sl R (h.put p x) v xs := by
  obtain ⟨s, c, e, hc, hc', hx⟩ := hs
  refine ⟨s, c, e, hc, hc', fun k y hk => ?_⟩
  obtain ⟨o, i, cs, own, ex, es, h1, h2, h3, h4, h5⟩ := hx k y hk
  obtain ⟨hk', ek⟩ := List.getElem?_eq_some_iff.1 hk
  subst ek
  exact ⟨o, i, cs, own, ex, es, h1, h2, by rw [get_put, if_neg (ho o i _ _ (by rw [e, h1]))]; exact h3, h4, hR k hk' _ h5⟩
theorem Ints.put {h : Hp} {v : Value} {xs : List Int} {p : Nat} (hs : Ints h v xs) (ho : Off p v) (x : AObj) : Ints (h.put p x) v xs := Sl.put hs ho fun _ _ _ hR => hR

theorem Off.none (p n c : Nat) : Off p (.slice .none n c) := fun _ _ _ _ e => by cases e
/-- Slices of objects from number n on. -/
def IntsN (n : Nat) (h : Hp) (v : Value) (xs : List Int) : Prop := Ints h v xs ∧ ∀ p, p < n → Off p v
def IRowsN (n : Nat) (h : Hp) (v : Value) (xs : List (List Int)) : Prop := Sl (IntsN n) h v xs ∧ ∀ p, p < n → Off p v
theorem IRowsN.rows {n : Nat} {h : Hp} {v : Value} {xs : List (List Int)} (hs : IRowsN n h v xs) : IRows h v xs :=
  by
    obtain ⟨s, c, e, hc, hc', hx⟩ := hs.1
    refine ⟨s, c, e, hc, hc', fun k x hk => ?_⟩
    obtain ⟨o, i, cs, own, ex, es, h1, h2, h3, h4, h5⟩ := hx k x hk
    exact ⟨o, i, cs, own, ex, es, h1, h2, h3, h4, h5.1⟩
theorem IntsN.keep {n : Nat} {h h' : Hp} (hk : Keeps h h') {v : Value} {xs : List Int} (hs : IntsN n h v xs) : IntsN n h' v xs := ⟨hs.1.keep hk, hs.2⟩
theorem IRowsN.keep {n : Nat} {h h' : Hp} (hk : Keeps h h') {v : Value} {xs : List (List Int)} (hs : IRowsN n h v xs) : IRowsN n h' v xs := ⟨Sl.mono (R := IntsN n) (h := h) (h' := h') (fun _ _ hR => hR.keep hk) hk hs.1, hs.2⟩
theorem IntsN.put {n : Nat} {h : Hp} {v : Value} {xs : List Int} {p : Nat} (hs : IntsN n h v xs) (hp : p < n) (x : AObj) : IntsN n (h.put p x) v xs := ⟨hs.1.put (hs.2 p hp) x, hs.2⟩
theorem IRowsN.put {n : Nat} {h : Hp} {v : Value} {xs : List (List Int)} {p : Nat} (hs : IRowsN n h v xs) (hp : p < n) (x : AObj) : IRowsN n (h.put p x) v xs := ⟨Sl.put hs.1 (hs.2 p hp) fun _ _ _ hR => hR.put hp x, hs.2⟩

/-- Whether it is a call of a function (which no rule of one operation serves). -/
def callV : Op → Bool
  | .call ⟨.value _, _, _⟩ => true
  | _ => false

section
variable {P : Program} {n : Nat} {tm : Nat → Value} {h : Hp} {ops : Array Oper} {rest : List Oper} {R : (Nat → Value) → Hp → Prop} {o : Oper}
def thenX (r : Option (Value × Hp)) (k : Value → Hp → Prop) : Prop := ∃ v h', r = some (v, h') ∧ k v h'
@[simp] theorem thenX_some (v : Value) (h' : Hp) (k : Value → Hp → Prop) : thenX (some (v, h')) k = k v h' :=
  propext ⟨fun ⟨_, _, e, hk⟩ => by cases e; exact hk, fun hk => ⟨v, h', rfl, hk⟩⟩
@[simp] theorem thenX_none (k : Value → Hp → Prop) : thenX none k = False := by simp [thenX]
/-- One operation that is no call; what follows is kept behind a name. -/
theorem RunD_o {d : Nat} {op : Op} (hop : o.op = op) (_ : callV op = false) (hd : o.dst = some d) (hn : decide (d < n) = true) (hg : o.guard = none)
    (hr : ∀ k : Value → Hp → Prop, (∀ v h', RunD P n ops rest R (upd tm d v) h' → k v h') → thenX (opD P op tm h) k) : RunD P n ops (o :: rest) R tm h := by
  obtain ⟨v, h', hv, hr⟩ := hr _ (fun _ _ h => h)
  exact RunD_op (by rw [hd]; exact hn) hg (by rw [hop, hv, hd]; exact hr)
theorem RunD_s {op : Op} (hop : o.op = op) (_ : callV op = false) (hd : o.dst = none) (hg : o.guard = none)
    (hr : ∀ k : Value → Hp → Prop, (∀ v h', RunD P n ops rest R tm h' → k v h') → thenX (opD P op tm h) k) : RunD P n ops (o :: rest) R tm h := by
  obtain ⟨v, h', hv, hr⟩ := hr _ (fun _ _ h => h)
  exact RunD_op (by rw [hd]; rfl) hg (by rw [hop, hv, hd]; exact hr)
/-- A guarded operation that runs. -/
theorem RunD_oT {j g d : Nat} {want : Bool} {op : Op} (hop : o.op = op) (_ : callV op = false) (hd : o.dst = some d) (hn : decide (d < n) = true) (hg : o.guard = some (j, want)) (hj : (ops[j]?).bind (·.dst) = some g) (hl : decide (g < n) = true)
    (hb : tm g = .bool want) (hr : ∀ k : Value → Hp → Prop, (∀ v h', RunD P n ops rest R (upd tm d v) h' → k v h') → thenX (opD P op tm h) k) : RunD P n ops (o :: rest) R tm h := by
  obtain ⟨v, h', hv, hr⟩ := hr _ (fun _ _ h => h)
  exact RunD_opT (by rw [hd]; exact hn) hg hj hl hb (by rw [hop, hv, hd]; exact hr)
/-- A guarded operation that does not run. -/
theorem RunD_oF {j g d : Nat} {want : Bool} (hd : o.dst = some d) (hn : decide (d < n) = true) (hg : o.guard = some (j, want)) (hj : (ops[j]?).bind (·.dst) = some g) (hl : decide (g < n) = true)
    (hb : tm g = .bool !want) (hr : RunD P n ops rest R (upd tm d undef) h) : RunD P n ops (o :: rest) R tm h :=
  RunD_opF (by rw [hd]; exact hn) hg hj hl hb (by rw [hd]; exact hr)
/-- A guarded operation whose guard has not run. -/
theorem RunD_oU {j g d : Nat} {want : Bool} {c : Array Value} (hd : o.dst = some d) (hn : decide (d < n) = true) (hg : o.guard = some (j, want)) (hj : (ops[j]?).bind (·.dst) = some g) (hl : decide (g < n) = true)
    (hb : tm g = .tuple c) (hr : RunD P n ops rest R (upd tm d undef) h) : RunD P n ops (o :: rest) R tm h := by
  refine ⟨by rw [hd]; exact hn, by simp only [guardOK, hg, hj]; exact hl, ?_⟩
  have hw : wantA ops tm o = some false := by simp only [wantA, hg, hj, hb]
  simp only [hw]; rw [hd]; exact hr
theorem PreD_oU {j g d : Nat} {want : Bool} {c : Array Value} (hd : o.dst = some d) (hn : decide (d < n) = true) (hg : o.guard = some (j, want)) (hj : (ops[j]?).bind (·.dst) = some g) (hl : decide (g < n) = true)
    (hb : tm g = .tuple c) (hr : PreD P n ops rest R (upd tm d undef) h) : PreD P n ops (o :: rest) R tm h := by
  refine ⟨by rw [hd]; exact hn, by simp only [guardOK, hg, hj]; exact hl, .inr ⟨?_, by rw [hd]; exact hr⟩⟩
  simp only [wantA, hg, hj, hb]
theorem RunD_c {d : Nat} {f : FuncId} {xs : Array Operand} {ts : Array TypeId} {args : Array Value} {v : Value} {h' : Hp} (hop : o.op = .call ⟨.value (.func f), xs, ts⟩) (hd : o.dst = some d) (hn : decide (d < n) = true) (hg : o.guard = none)
    (h2 : xs.all okX = true) (h4 : fnOK P f = true) (ha : xs.map (ev tm) = args) (hc : CallOK P f args h v h') (hr : RunD P n ops rest R (upd tm d v) h') : RunD P n ops (o :: rest) R tm h :=
  RunD_call' hop (by rw [hd]; exact hn) (by simp [guardOK, hg]) (by simp [wantA, hg]) h2 h4 ha hc (by rw [hd]; exact hr)
theorem RunD_cT {j g d : Nat} {want : Bool} {f : FuncId} {xs : Array Operand} {ts : Array TypeId} {args : Array Value} {v : Value} {h' : Hp} (hop : o.op = .call ⟨.value (.func f), xs, ts⟩) (hd : o.dst = some d) (hn : decide (d < n) = true)
    (hg : o.guard = some (j, want)) (hj : (ops[j]?).bind (·.dst) = some g) (hl : decide (g < n) = true) (hb : tm g = .bool want)
    (h2 : xs.all okX = true) (h4 : fnOK P f = true) (ha : xs.map (ev tm) = args) (hc : CallOK P f args h v h') (hr : RunD P n ops rest R (upd tm d v) h') : RunD P n ops (o :: rest) R tm h :=
  RunD_call' hop (by rw [hd]; exact hn) (by simp only [guardOK, hg, hj]; exact hl) (by simp only [wantA, hg, hj, hb]; simp) h2 h4 ha hc (by rw [hd]; exact hr)
theorem PreD_o {d : Nat} {op : Op} (hop : o.op = op) (_ : callV op = false) (hd : o.dst = some d) (hn : decide (d < n) = true) (hg : o.guard = none)
    (hr : ∀ k : Value → Hp → Prop, (∀ v h', Adds h h' → PreD P n ops rest R (upd tm d v) h' → k v h') → thenX (opD P op tm h) k) : PreD P n ops (o :: rest) R tm h := by
  obtain ⟨v, h', hv, hadd, hr⟩ := hr (fun v h' => Adds h h' ∧ PreD P n ops rest R (upd tm d v) h') (fun _ _ h k => ⟨h, k⟩)
  exact PreD_op (by rw [hd]; exact hn) hg (by rw [hop, hv, hd]; exact ⟨hadd, hr⟩)
theorem PreD_oT {j g d : Nat} {want : Bool} {op : Op} (hop : o.op = op) (_ : callV op = false) (hd : o.dst = some d) (hn : decide (d < n) = true) (hg : o.guard = some (j, want)) (hj : (ops[j]?).bind (·.dst) = some g) (hl : decide (g < n) = true)
    (hb : tm g = .bool want) (hr : ∀ k : Value → Hp → Prop, (∀ v h', Adds h h' → PreD P n ops rest R (upd tm d v) h' → k v h') → thenX (opD P op tm h) k) : PreD P n ops (o :: rest) R tm h := by
  obtain ⟨v, h', hv, hadd, hr⟩ := hr (fun v h' => Adds h h' ∧ PreD P n ops rest R (upd tm d v) h') (fun _ _ h k => ⟨h, k⟩)
  exact PreD_opT (by rw [hd]; exact hn) hg hj hl hb (by rw [hop, hv, hd]; exact ⟨hadd, hr⟩)
theorem PreD_oF {j g d : Nat} {want : Bool} (hd : o.dst = some d) (hn : decide (d < n) = true) (hg : o.guard = some (j, want)) (hj : (ops[j]?).bind (·.dst) = some g) (hl : decide (g < n) = true)
    (hb : tm g = .bool !want) (hr : PreD P n ops rest R (upd tm d undef) h) : PreD P n ops (o :: rest) R tm h :=
  PreD_opF (by rw [hd]; exact hn) hg hj hl hb (by rw [hd]; exact hr)
theorem PreD_c {d : Nat} {f : FuncId} {xs : Array Operand} {ts : Array TypeId} {args : Array Value} {v : Value} {h' : Hp} (hop : o.op = .call ⟨.value (.func f), xs, ts⟩) (hd : o.dst = some d) (hn : decide (d < n) = true) (hg : o.guard = none)
    (h2 : xs.all okX = true) (h4 : fnOK P f = true) (ha : xs.map (ev tm) = args) (hc : CallOK P f args h v h') (hadd : Adds h h') (hr : PreD P n ops rest R (upd tm d v) h') : PreD P n ops (o :: rest) R tm h :=
  PreD_call' hop (by rw [hd]; exact hn) hg h2 h4 ha hc hadd (by rw [hd]; exact hr)
end
end Go.Eng
