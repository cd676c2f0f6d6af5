/- Stepping with one rewriting a step: tests and guards are settled by the same rewriting as the operation. -/
import Derived.Test.YtpehnhjgdgnnkaaEngZa
namespace Go.Eng

/-- By a guard's value: wanted, or not, or not run itself. -/
def gateX (v : Value) (want : Bool) (A B : Prop) : Prop := (v = .bool want ∧ A) ∨ (v = .bool (!want) ∧ B) ∨ ∃ c, v = .tuple c ∧ B
@[simp] theorem gateX_bool (b want : Bool) (A B : Prop) : gateX (.bool b) want A B = if b = want then A else B := by
  unfold gateX
  cases b <;> cases want <;> simp
@[simp] theorem gateX_tuple (c : Array Value) (want : Bool) (A B : Prop) : gateX (.tuple c) want A B = B := by
  unfold gateX
  simp
@[simp] theorem gateX_undef (want : Bool) (A B : Prop) : gateX undef want A B = B := gateX_tuple _ _ _ _
@[congr] theorem gateX_congr {v w : Value} (want : Bool) (A B : Prop) (e : v = w) : gateX v want A B = gateX w want A B := by rw [e]
/-- By a test's value. -/
def condX (v : Value) (A B : Prop) : Prop := (v = .bool true ∧ A) ∨ (v = .bool false ∧ B)
@[simp] theorem condX_bool (b : Bool) (A B : Prop) : condX (.bool b) A B = if b = true then A else B := by
  unfold condX
  cases b <;> simp
@[congr] theorem condX_congr {v w : Value} (A B : Prop) (e : v = w) : condX v A B = condX w A B := by rw [e]

section
variable {P : Program} {n : Nat} {tm : Nat → Value} {h : Hp} {ops : Array Oper} {rest : List Oper} {R : (Nat → Value) → Hp → Prop} {o : Oper} {Q : Exit → (Nat → Value) → Hp → Prop}

theorem WD_c {c : Operand} {x y : Code} (hx : okX c = true) (hr : ∀ A B : Prop, (WD P n x Q tm h → A) → (WD P n y Q tm h → B) → condX (ev tm c) A B) : WD P n (.cond c x y) Q tm h := by
  rcases hr _ _ id id with ⟨h1, h2⟩ | ⟨h1, h2⟩
  · exact WD_true hx h1 h2
  · exact WD_false hx h1 h2

theorem RunD_g {j g d : Nat} {want : Bool} {op : Op} (hop : o.op = op) (hcv : callV op = false) (hd : o.dst = some d) (hn : decide (d < n) = true) (hg : o.guard = some (j, want)) (hj : (ops[j]?).bind (·.dst) = some g) (hl : decide (g < n) = true)
    (hr : ∀ (k : Value → Hp → Prop) (K2 : Prop), (∀ v h', RunD P n ops rest R (upd tm d v) h' → k v h') → (RunD P n ops rest R (upd tm d undef) h → K2) → gateX (tm g) want (thenX (opD P op tm h) k) K2) : RunD P n ops (o :: rest) R tm h := by
  rcases hr _ _ (fun _ _ h => h) id with ⟨h1, h2⟩ | ⟨h1, h2⟩ | ⟨c, h1, h2⟩
  · exact RunD_oT hop hcv hd hn hg hj hl h1 fun k hk => by
      obtain ⟨v, h', e, hh⟩ := h2
      exact ⟨v, h', e, hk v h' hh⟩
  · exact RunD_oF hd hn hg hj hl h1 h2
  · exact RunD_oU hd hn hg hj hl h1 h2

/-- A guarded call that does not run. -/
theorem RunD_gc {j g d : Nat} {want : Bool} {c : Call} (_ : o.op = .call c) (hd : o.dst = some d) (hn : decide (d < n) = true) (hg : o.guard = some (j, want)) (hj : (ops[j]?).bind (·.dst) = some g) (hl : decide (g < n) = true)
    (hr : ∀ (K2 : Prop), (RunD P n ops rest R (upd tm d undef) h → K2) → gateX (tm g) want False K2) : RunD P n ops (o :: rest) R tm h := by
  rcases hr _ id with ⟨h1, h2⟩ | ⟨h1, h2⟩ | ⟨c, h1, h2⟩
  · exact h2.elim
  · exact RunD_oF hd hn hg hj hl h1 h2
  · exact RunD_oU hd hn hg hj hl h1 h2

theorem PreD_g {j g d : Nat} {want : Bool} {op : Op} (hop : o.op = op) (hcv : callV op = false) (hd : o.dst = some d) (hn : decide (d < n) = true) (hg : o.guard = some (j, want)) (hj : (ops[j]?).bind (·.dst) = some g) (hl : decide (g < n) = true)
    (hr : ∀ (k : Value → Hp → Prop) (K2 : Prop), (∀ v h', Adds h h' → PreD P n ops rest R (upd tm d v) h' → k v h') → (PreD P n ops rest R (upd tm d undef) h → K2) → gateX (tm g) want (thenX (opD P op tm h) k) K2) : PreD P n ops (o :: rest) R tm h := by
  rcases hr (fun v h' => Adds h h' ∧ PreD P n ops rest R (upd tm d v) h') _ (fun _ _ h k => ⟨h, k⟩) id with ⟨h1, h2⟩ | ⟨h1, h2⟩ | ⟨c, h1, h2⟩
  · exact PreD_oT hop hcv hd hn hg hj hl h1 fun k hk => by
      obtain ⟨v, h', e, hh⟩ := h2
      exact ⟨v, h', e, hk v h' hh.1 hh.2⟩
  · exact PreD_oF hd hn hg hj hl h1 h2
  · exact PreD_oU hd hn hg hj hl h1 h2
theorem PreD_gc {j g d : Nat} {want : Bool} {c : Call} (_ : o.op = .call c) (hd : o.dst = some d) (hn : decide (d < n) = true) (hg : o.guard = some (j, want)) (hj : (ops[j]?).bind (·.dst) = some g) (hl : decide (g < n) = true)
    (hr : ∀ (K2 : Prop), (PreD P n ops rest R (upd tm d undef) h → K2) → gateX (tm g) want False K2) : PreD P n ops (o :: rest) R tm h := by
  rcases hr _ id with ⟨h1, h2⟩ | ⟨h1, h2⟩ | ⟨c, h1, h2⟩
  · exact h2.elim
  · exact PreD_oF hd hn hg hj hl h1 h2
  · exact PreD_oU hd hn hg hj hl h1 h2
end
end Go.Eng
