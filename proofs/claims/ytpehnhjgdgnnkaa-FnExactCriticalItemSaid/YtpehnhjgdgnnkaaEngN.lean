/- Stepping: one rule for each form of code, the rest of the code kept behind a name. -/
import Derived.Test.YtpehnhjgdgnnkaaEngM
namespace Go.Eng

section
variable {P : Program} {n : Nat} {tm : Nat → Value} {h : Hp} {Q : Exit → (Nat → Value) → Hp → Prop}

theorem WD_seq {x y : Code} (hk : ∀ K : Exit → (Nat → Value) → Hp → Prop, ((∀ tm h, WD P n y Q tm h → K .normal tm h) ∧ (∀ e tm h, e ≠ .normal → Q e tm h → K e tm h)) → WD P n x K tm h) : WD P n (.seq x y) Q tm h :=
  hk _ ⟨fun _ _ h => h, fun e _ _ he h => by cases e <;> first | exact absurd rfl he | exact h⟩

theorem WD_block {i : Nat} {c : Code} (hk : ∀ K : Exit → (Nat → Value) → Hp → Prop, ((∀ tm h, Q .normal tm h → K .normal tm h) ∧ (∀ tm h, Q .normal tm h → K (.exit i) tm h) ∧ (∀ e tm h, e ≠ .exit i → Q e tm h → K e tm h)) → WD P n c K tm h) : WD P n (.block i c) Q tm h :=
  hk _ ⟨fun _ _ h => h, fun _ _ h => by simp [inBlk, h], fun e _ _ he h => by
    cases e with
    | exit j =>
      have hne : j ≠ i := fun q => he (by rw [q])
      simp only [inBlk, if_neg hne]; exact h
    | _ => exact h⟩

def thenD (P : Program) (n : Nat) (ops : Array Oper) (rest : List Oper) (R : (Nat → Value) → Hp → Prop) (tm : Nat → Value) (d : Option Nat) : Option (Value × Hp) → Prop
  | some (v, h') => RunD P n ops rest R (updO tm d v) h'
  | none => False

theorem opD_call {fx : Operand} {xs : Array Operand} {ts : Array TypeId} : opD P (.call ⟨.value fx, xs, ts⟩) tm h = none := rfl

variable {ops : Array Oper} {rest : List Oper} {R : (Nat → Value) → Hp → Prop} {o : Oper}

theorem RunD_run (hd : dstOK n o.dst = true) (hg : guardOK n ops o = true) (hw : wantA ops tm o = some true) (hr : thenD P n ops rest R tm o.dst (opD P o.op tm h)) : RunD P n ops (o :: rest) R tm h := by
  refine ⟨hd, hg, ?_⟩
  simp only [hw]
  split
  · rename_i fx xs ts hop
    rw [hop, opD_call] at hr
    cases hr
  · split
    · rename_i v h' ho; rw [ho] at hr; exact hr
    · rename_i ho; rw [ho] at hr; exact hr

/-- An operation without a guard. -/
theorem RunD_op (hd : dstOK n o.dst = true) (hg : o.guard = none) (hr : thenD P n ops rest R tm o.dst (opD P o.op tm h)) : RunD P n ops (o :: rest) R tm h :=
  RunD_run hd (by simp [guardOK, hg]) (by simp [wantA, hg]) hr

/-- A guarded operation: what the guard says is known. -/
theorem RunD_opT {j d : Nat} {want : Bool} (hd : dstOK n o.dst = true) (hg : o.guard = some (j, want)) (hj : (ops[j]?).bind (·.dst) = some d) (hl : decide (d < n) = true) (hb : tm d = .bool want)
    (hr : thenD P n ops rest R tm o.dst (opD P o.op tm h)) : RunD P n ops (o :: rest) R tm h :=
  RunD_run hd (by simp only [guardOK, hg, hj]; exact hl) (by simp only [wantA, hg, hj, hb]; simp) hr
theorem RunD_opF {j d : Nat} {want : Bool} (hd : dstOK n o.dst = true) (hg : o.guard = some (j, want)) (hj : (ops[j]?).bind (·.dst) = some d) (hl : decide (d < n) = true) (hb : tm d = .bool !want)
    (hr : RunD P n ops rest R (updO tm o.dst undef) h) : RunD P n ops (o :: rest) R tm h := by
  refine ⟨hd, by simp only [guardOK, hg, hj]; exact hl, ?_⟩
  have hw : wantA ops tm o = some false := by simp only [wantA, hg, hj, hb]; simp
  simp only [hw]; exact hr

theorem RunD_call {fx : Operand} {xs : Array Operand} {ts : Array TypeId} {f : FuncId} {fst cap : Array Value} {v : Value} {h' : Hp} (hop : o.op = .call ⟨.value fx, xs, ts⟩) (hd : dstOK n o.dst = true) (hg : guardOK n ops o = true) (hw : wantA ops tm o = some true)
    (h1 : okX fx = true) (h2 : xs.all okX = true) (h3 : ev tm fx = .func (.func f) fst cap) (h4 : fnOK P f = true) (hc : CallOK P f (fst ++ xs.map (ev tm) ++ cap) h v h') (hr : RunD P n ops rest R (updO tm o.dst v) h') :
    RunD P n ops (o :: rest) R tm h := by
  refine ⟨hd, hg, ?_⟩
  simp only [hw]
  split
  · rename_i fx' xs' ts' hop'
    rw [hop] at hop'
    injection hop' with hop'
    injection hop' with e1 e2 _
    injection e1 with e1
    subst e1 e2
    refine ⟨h1, h2, ?_⟩
    rw [h3]
    exact ⟨h4, v, h', hc, hr⟩
  · rename_i hne; exact absurd hop (hne _ _ _)

/-- A call of a function by its number, nothing captured; its arguments as they read. -/
theorem RunD_call' {f : FuncId} {xs : Array Operand} {ts : Array TypeId} {args : Array Value} {v : Value} {h' : Hp} (hop : o.op = .call ⟨.value (.func f), xs, ts⟩) (hd : dstOK n o.dst = true) (hg : guardOK n ops o = true) (hw : wantA ops tm o = some true)
    (h2 : xs.all okX = true) (h4 : fnOK P f = true) (ha : xs.map (ev tm) = args) (hc : CallOK P f args h v h') (hr : RunD P n ops rest R (updO tm o.dst v) h') :
    RunD P n ops (o :: rest) R tm h :=
  RunD_call hop hd hg hw rfl h2 rfl h4 (by rw [ha]; simpa using hc) hr

theorem WD_region {i : Nat} (hr : ∀ K : (Nat → Value) → Hp → Prop, (∀ tm h, Q .normal tm h → K tm h) → RunD P n ops ops.toList K tm h) : WD P n (.region i ops false) Q tm h :=
  hr _ (fun _ _ h => h)

theorem RunD_nil (hr : R tm h) : RunD P n ops [] R tm h := hr

theorem WD_cond {c : Operand} {x y : Code} (hx : okX c = true) (b : Bool) (hc : ev tm c = .bool b) (ht : b = true → WD P n x Q tm h) (hf : b = false → WD P n y Q tm h) : WD P n (.cond c x y) Q tm h :=
  ⟨hx, b, hc, ht, hf⟩
theorem WD_if {c : Operand} {x y : Code} {p : Prop} [Decidable p] (hx : okX c = true) (hc : ev tm c = .bool (decide p)) (ht : p → WD P n x Q tm h) (hf : ¬ p → WD P n y Q tm h) : WD P n (.cond c x y) Q tm h :=
  ⟨hx, _, hc, fun e => ht (of_decide_eq_true e), fun e => hf (of_decide_eq_false e)⟩
theorem WD_true {c : Operand} {x y : Code} (hx : okX c = true) (hc : ev tm c = .bool true) (ht : WD P n x Q tm h) : WD P n (.cond c x y) Q tm h :=
  ⟨hx, true, hc, fun _ => ht, (fun e => nomatch e)⟩
theorem WD_false {c : Operand} {x y : Code} (hx : okX c = true) (hc : ev tm c = .bool false) (hf : WD P n y Q tm h) : WD P n (.cond c x y) Q tm h :=
  ⟨hx, false, hc, (fun e => nomatch e), fun _ => hf⟩
theorem WD_skip (hq : Q .normal tm h) : WD P n .skip Q tm h := hq
theorem WD_exit {i : Nat} (hq : Q (.exit i) tm h) : WD P n (.exit i) Q tm h := hq
theorem WD_ret (hq : Q .ret tm h) : WD P n .ret Q tm h := hq
end

def argL : List Value → Nat → Value
  | [], _ => undef
  | v :: _, 0 => v
  | _ :: l, t + 1 => argL l t

theorem argL_eq : ∀ (l : List Value), (fun t => l.toArray.getD t undef) = argL l
  | [] => by funext t; simp [argL]
  | v :: l => by
    funext t
    cases t with
    | zero => simp [argL]
    | succ t => have := congrFun (argL_eq l) t; simpa [argL] using this

theorem call_L {P : Program} {f : FuncId} {fn : Func} {args : List Value} {h : Hp} {R : Value → Hp → Prop} (n : Nat) (body : Code) (rs : List ResultVar) (hf : P.funcs[f]? = some fn) (hb : fn.body = some body)
    (hrs : fn.results.toList = rs) (hn : args.length + (fn.ntmps - args.length) = n) (hw : WD P n body (Done P rs R) (argL args) h) : ∃ v h', CallOK P f args.toArray h v h' ∧ R v h' :=
  call_D n body rs hf hb hrs (by simpa using hn) (by rw [argL_eq]; exact hw)

/-- For a function that hands back a plain value and writes nothing old. -/
theorem call_P {P : Program} {f : FuncId} {fn : Func} {args : List Value} {h : Hp} {v : Value} (n : Nat) (body : Code) (rs : List ResultVar) (hf : P.funcs[f]? = some fn) (hb : fn.body = some body)
    (hrs : fn.results.toList = rs) (hn : args.length + (fn.ntmps - args.length) = n) (hv : plainV v = true) (hw : WD P n body (Done P rs fun u h' => u = v ∧ Keeps h h') (argL args) h) : CallOK P f args.toArray h v h := by
  obtain ⟨u, h', hc, rfl, hk⟩ := call_L n body rs hf hb hrs hn hw
  exact hc.forget hk hv

theorem done_ret {P : Program} {rs : List ResultVar} {R : Value → Hp → Prop} {tm : Nat → Value} {h : Hp} {vs : List Value} (hv : resL P tm h rs = some vs) (hr : R (packL vs) h) : Done P rs R .ret tm h :=
  ⟨.inr rfl, vs, hv, hr⟩
theorem done_end {P : Program} {rs : List ResultVar} {R : Value → Hp → Prop} {tm : Nat → Value} {h : Hp} {vs : List Value} (hv : resL P tm h rs = some vs) (hr : R (packL vs) h) : Done P rs R .normal tm h :=
  ⟨.inl rfl, vs, hv, hr⟩

end Go.Eng
