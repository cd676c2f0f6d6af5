/- Code by computation; calls that hand back a plain value; calls that hand back new rows. Stepping: one rule for each form of code, the rest of the code kept behind a name. What simp is to know of the engine's words. A region that draws its order: its first operations in any order that the edges allow, the others behind all of them. A region that draws its order, continued: every order that the edges allow comes to the end that the text's order has. A region that draws its order, as a rule to use. -/
import Derived.Test.YtnnjehonbolliaaEngL
section
namespace Go.Eng

def WD (P : Program) (n : Nat) : Code → (Exit → (Nat → Value) → Hp → Prop) → (Nat → Value) → Hp → Prop
  | .skip, Q, tm, h => Q .normal tm h
  | .region _ ops false, Q, tm, h => RunD P n ops ops.toList (Q .normal) tm h
  | .seq x y, Q, tm, h => WD P n x (fun e tm h => match e with
    | .normal => WD P n y Q tm h
    | e => Q e tm h) tm h
  | .cond c x y, Q, tm, h => okX c = true ∧ ∃ b, ev tm c = .bool b ∧ (b = true → WD P n x Q tm h) ∧ (b = false → WD P n y Q tm h)
  | .block id c, Q, tm, h => WD P n c (inBlk id Q) tm h
  | .exit i, Q, tm, h => Q (.exit i) tm h
  | .ret, Q, tm, h => Q .ret tm h
  | .label _, Q, tm, h => Q .normal tm h
  | c, Q, tm, h => Runs P n c Q tm h

theorem WD.runs {P : Program} {n : Nat} : ∀ (c : Code) {Q : Exit → (Nat → Value) → Hp → Prop} {tm : Nat → Value} {h : Hp}, WD P n c Q tm h → Runs P n c Q tm h
  | .skip, _, _, _, hw => runs_skip hw
  | .region _ _ false, _, _, _, hw => runs_region (RunD.run _ hw)
  | .region _ _ true, _, _, _, hw => hw
  | .seq x y, _, _, _, hw => runs_seq ((WD.runs x hw).mono fun e _ _ hq => by
      cases e with
      | normal => exact .inl ⟨rfl, WD.runs y hq⟩
      | _ => exact .inr ⟨by simp, hq⟩)
  | .cond _ x y, _, _, _, hw => by
    obtain ⟨h1, b, h2, h3, h4⟩ := hw
    cases b with
    | true => exact runs_cond h2 h1 (by simpa using WD.runs x (h3 rfl))
    | false => exact runs_cond h2 h1 (by simpa using WD.runs y (h4 rfl))
  | .block _ c, _, _, _, hw => runs_block (WD.runs c hw)
  | .loop _, _, _, _, hw => hw
  | .rangeFunc .., _, _, _, hw => hw
  | .exit _, _, _, _, hw => runs_exit hw
  | .scope _, _, _, _, hw => hw
  | .label _, _, _, _, hw => runs_label hw
  | .goto _, _, _, _, hw => hw
  | .ret, _, _, _, hw => runs_ret hw
  | .refuse _, _, _, _, hw => hw

theorem call_D {P : Program} {f : FuncId} {fn : Func} {args : Array Value} {h : Hp} {R : Value → Hp → Prop} (n : Nat) (body : Code) (rs : List ResultVar) (hf : P.funcs[f]? = some fn) (hb : fn.body = some body)
    (hrs : fn.results.toList = rs) (hn : args.size + (fn.ntmps - args.size) = n) (hw : WD P n body (Done P rs R) (fun t => args.getD t undef) h) : ∃ v h', CallOK P f args h v h' ∧ R v h' := by
  subst hrs
  exact call_of_runs n hf hb hn (WD.runs body hw)

/-- A loop, its round by computation. -/
theorem loop_D {P : Program} {n : Nat} {c : Code} {Q : Exit → (Nat → Value) → Hp → Prop} {tm : Nat → Value} {h : Hp} (I : Nat → (Nat → Value) → Hp → Prop) (k : Nat) (h0 : I k tm h)
    (round : ∀ k tm h, I k tm h → WD P n c (fun e tm' h' => match e with
      | .normal => ∃ k', k' < k ∧ I k' tm' h'
      | e => Q e tm' h') tm h) : Runs P n (.loop c) Q tm h := by
  refine runs_loop I (fun k tm h hI => ((WD.runs c (round k tm h hI)).mono fun e _ _ hq => ?_)) h0
  cases e with
  | normal => exact .inl ⟨rfl, hq⟩
  | _ => exact .inr ⟨by simp, hq⟩

/-! Forgetting what a call has made. -/
/-- The old objects are as they were. -/
def Keeps (h h' : Hp) : Prop := h.next ≤ h'.next ∧ ∀ o, o < h.next → h'.get o = h.get o

theorem Keeps.refl (h : Hp) : Keeps h h := ⟨Nat.le_refl _, fun _ _ => rfl⟩
theorem Keeps.trans {a b c : Hp} (h : Keeps a b) (k : Keeps b c) : Keeps a c := ⟨Nat.le_trans h.1 k.1, fun o ho => (k.2 o (Nat.lt_of_lt_of_le ho h.1)).trans (h.2 o ho)⟩
theorem Keeps.alloc (h : Hp) (x : AObj) : Keeps h (h.alloc x) := ⟨Nat.le_succ _, fun o ho => by simp [Hp.alloc, show o ≠ h.next by omega]⟩
theorem Keeps.put {h h' : Hp} (k : Keeps h h') {o : Nat} (ho : h.next ≤ o) (x : AObj) : Keeps h (h'.put o x) := ⟨k.1, fun i hi => by simp [Hp.put, show i ≠ o by omega, k.2 i hi]⟩

/-- A value that speaks of old objects alone is related by the old embedding as well. -/
theorem VRel.back {E E' : Emb} (hD : ∀ o, E.D o → E'.blk o = E.blk o ∧ E'.off o = E.off o ∧ E'.slk o = E.slk o) {v a : Value} (h : VRel E v a) : ∀ {b : Value}, VRel E' v b → VRel E v b := by
  induction h with
  | bool b => intro b h; cases h; exact .bool _
  | int k n => intro b h; cases h; exact .int _ _
  | string s => intro b h; cases h; exact .string _
  | ptrNil => intro b h; cases h; exact .ptrNil
  | ptr o i hd =>
    intro b h
    obtain ⟨_, e⟩ := h.inv_ptr
    obtain ⟨e1, e2, _⟩ := hD o hd
    rw [e, e1, e2]; exact .ptr o i hd
  | sliceNil => intro b h; cases h; exact .sliceNil
  | slice o i n c a hd hn ha =>
    intro b h
    obtain ⟨e1, e2, e3⟩ := hD o hd
    cases h with
    | slice _ _ _ _ ad _ _ had => rw [e3]; exact .slice o i n c ad hd hn (by rwa [e1, e2, e3] at had)
  | slice0 a =>
    intro b h
    cases h with
    | slice0 ad => exact .slice0 _
  | mapNil => intro b h; cases h; exact .mapNil
  | map o hd => intro b h; cases h; rw [(hD o hd).1]; exact .map o hd
  | func fn f f' c c' hf hc _ _ h1 h2 =>
    intro b h
    obtain ⟨f2, c2, e, s1, s2, r1, r2⟩ := h.inv_func
    rw [e]
    exact .func fn f f2 c c2 s1 s2 (fun i hi => h1 i hi (r1 i hi)) (fun i hi => h2 i hi (r2 i hi))
  | nilFunc => intro b h; cases h; exact .nilFunc
  | nilIface => intro b h; cases h; exact .nilIface
  | iface t v v' _ ih => intro b h; cases h; exact .iface _ _ _ (ih (by assumption))
  | agg c c' hs h1 _ ih =>
    intro b h
    cases h with
    | agg _ c2 s2 _ r2 => exact .agg c c2 s2 h1 (fun i hi => ih i hi (r2 i hi))
  | tuple c c' hs _ ih =>
    intro b h
    cases h with
    | tuple _ c2 s2 r2 => exact .tuple c c2 s2 (fun i hi => ih i hi (r2 i hi))

theorem cut_rel {E E' : Emb} {base : Nat} {h h' : Hp} {w w' : World} (hr : HRel E base h w.heap) (st : Step E h w E' h' w') (hr' : HRel E' base h' w'.heap) (hk : Keeps h h') :
    Step E h w E h w' ∧ HRel E base h w'.heap := by
  have hmem : ∀ o, E.D o → E'.D o ∧ E'.blk o = E.blk o ∧ E'.off o = E.off o ∧ E'.slk o = E.slk o := st.dmono hr.lt
  have hD : ∀ o, E.D o → E'.blk o = E.blk o ∧ E'.off o = E.off o ∧ E'.slk o = E.slk o := fun o hd => (hmem o hd).2
  refine ⟨⟨Nat.le_refl _, fun _ _ => ⟨Iff.rfl, rfl, rfl, rfl⟩, st.os, st.tape, st.output, st.size, st.keep, fun o hd ho => .inl ⟨o, hd, ho, rfl⟩⟩, ⟨hr'.le, hr.lt, fun o hd => ?_, hr.sep⟩⟩
  have h1 := hr'.obj o (hmem o hd).1
  rw [hk.2 o (hr.lt o hd)] at h1
  have h0 := hr.obj o hd
  obtain ⟨hb, hf, hs⟩ := hD o hd
  cases hx : h.get o with
  | dead => trivial
  | cells c own ex es =>
    rw [hx] at h0 h1
    obtain ⟨C0, _, _, _, _, g3, _, _, _⟩ := h0
    obtain ⟨C, ty, fz, k1, k2, k3, k4, k5, k6⟩ := h1
    refine ⟨C, ty, fz, by rw [← hb]; exact k1, by rw [← hf, ← hs]; exact k2, fun i hi => ?_, k4, fun e => ?_, fun e => by rw [← hs]; exact k6 e⟩
    · have := k3 i hi
      rw [hf] at this
      exact (g3 i hi).back hD this
    · rw [← hb]; exact k5 e
  | map es =>
    rw [hx] at h0 h1
    obtain ⟨e0, _, _, _, _, g4⟩ := h0
    obtain ⟨ents, clock, k1, k2, k3, k4⟩ := h1
    exact ⟨ents, clock, by rw [← hb]; exact k1, by rw [← hb]; exact k2, k3, fun i hi => ⟨(g4 i hi).1.back hD (k4 i hi).1, (g4 i hi).2.back hD (k4 i hi).2⟩⟩

/-- A call that hands back a plain value leaves the heap as it was. -/
theorem CallOK.forget {P : Program} {f : FuncId} {args : Array Value} {h h' : Hp} {v : Value} (hc : CallOK P f args h v h') (hk : Keeps h h') (hv : plainV v = true) : CallOK P f args h v h := by
  intro E base w args' hr hs hrel
  refine (hc E base w args' hr hs hrel).mono fun e w' ⟨E', v', he, st, hr', hv'⟩ => ?_
  obtain ⟨st2, hr2⟩ := cut_rel hr st hr' hk
  have hvv : VRel E v v' := (VRel.ofV E hv).back (fun o hd => (st.dmono hr.lt o hd).2) hv'
  exact ⟨E, v', he, st2, hr2, hvv⟩

/-- As 'call_D', for a function that hands back a plain value and writes nothing old. -/
theorem call_plain {P : Program} {f : FuncId} {fn : Func} {args : Array Value} {h : Hp} {v : Value} (n : Nat) (body : Code) (rs : List ResultVar) (hf : P.funcs[f]? = some fn) (hb : fn.body = some body)
    (hrs : fn.results.toList = rs) (hn : args.size + (fn.ntmps - args.size) = n) (hv : plainV v = true) (hw : WD P n body (Done P rs fun u h' => u = v ∧ Keeps h h') (fun t => args.getD t undef) h) : CallOK P f args h v h := by
  obtain ⟨u, h', hc, rfl, hk⟩ := call_D n body rs hf hb hrs hn hw
  exact hc.forget hk hv

end Go.Eng
end

section
namespace Go.Eng

section
variable {P : Program} {n : Nat} {tm : Nat → Value} {h : Hp} {Q : Exit → (Nat → Value) → Hp → Prop}

theorem WD_seq {x y : Code} (hk : ∀ K : Exit → (Nat → Value) → Hp → Prop, ((∀ tm h, WD P n y Q tm h → K .normal tm h) ∧ (∀ e tm h, e ≠ .normal → Q e tm h → K e tm h)) → WD P n x K tm h) : WD P n (.seq x y) Q tm h :=
  hk _ ⟨fun _ _ h => h, fun e _ _ he h => by cases e <;> first | exact absurd rfl he | exact h⟩

theorem WD_block {i : Nat} {c : Code} (hk : ∀ K : Exit → (Nat → Value) → Hp → Prop, ((∀ tm h, Q .normal tm h → K .normal tm h) ∧ (∀ tm h, Q .normal tm h → K (.exit i) tm h) ∧ (∀ e tm h, e ≠ .exit i → Q e tm h → K e tm h)) → WD P n c K tm h) : WD P n (.block i c) Q tm h :=
  hk _ ⟨fun _ _ h => h, fun _ _ h => by simp [inBlk, h], fun e _ _ he h => by
    cases e with
    | exit j =>
      have hne : j ≠ i := fun q => he (by rw [q])
      simp only [inBlk, if_neg hne]; exact h
    | _ => exact h⟩

def thenD (P : Program) (n : Nat) (ops : Array Oper) (rest : List Oper) (R : (Nat → Value) → Hp → Prop) (tm : Nat → Value) (d : Option Nat) : Option (Value × Hp) → Prop
  | some (v, h') => RunD P n ops rest R (updO tm d v) h'
  | none => False

theorem opD_call {fx : Operand} {xs : Array Operand} {ts : Array TypeId} : opD P (.call ⟨.value fx, xs, ts⟩) tm h = none := rfl

variable {ops : Array Oper} {rest : List Oper} {R : (Nat → Value) → Hp → Prop} {o : Oper}

theorem RunD_run (hd : dstOK n o.dst = true) (hg : guardOK n ops o = true) (hw : wantA ops tm o = some true) (hr : thenD P n ops rest R tm o.dst (opD P o.op tm h)) : RunD P n ops (o :: rest) R tm h := by
  refine ⟨hd, hg, ?_⟩
  simp only [hw]
  split
  · rename_i fx xs ts hop
    rw [hop, opD_call] at hr
    cases hr
  · split
    · rename_i v h' ho; rw [ho] at hr; exact hr
    · rename_i ho; rw [ho] at hr; exact hr

/-- An operation without a guard. -/
theorem RunD_op (hd : dstOK n o.dst = true) (hg : o.guard = none) (hr : thenD P n ops rest R tm o.dst (opD P o.op tm h)) : RunD P n ops (o :: rest) R tm h :=
  RunD_run hd (by simp [guardOK, hg]) (by simp [wantA, hg]) hr

/-- A guarded operation: what the guard says is known. -/
theorem RunD_opT {j d : Nat} {want : Bool} (hd : dstOK n o.dst = true) (hg : o.guard = some (j, want)) (hj : (ops[j]?).bind (·.dst) = some d) (hl : decide (d < n) = true) (hb : tm d = .bool want)
    (hr : thenD P n ops rest R tm o.dst (opD P o.op tm h)) : RunD P n ops (o :: rest) R tm h :=
  RunD_run hd (by simp only [guardOK, hg, hj]; exact hl) (by simp only [wantA, hg, hj, hb]; simp) hr
theorem RunD_opF {j d : Nat} {want : Bool} (hd : dstOK n o.dst = true) (hg : o.guard = some (j, want)) (hj : (ops[j]?).bind (·.dst) = some d) (hl : decide (d < n) = true) (hb : tm d = .bool !want)
    (hr : RunD P n ops rest R (updO tm o.dst undef) h) : RunD P n ops (o :: rest) R tm h := by
  refine ⟨hd, by simp only [guardOK, hg, hj]; exact hl, ?_⟩
  have hw : wantA ops tm o = some false := by simp only [wantA, hg, hj, hb]; simp
  simp only [hw]; exact hr

theorem RunD_call {fx : Operand} {xs : Array Operand} {ts : Array TypeId} {f : FuncId} {fst cap : Array Value} {v : Value} {h' : Hp} (hop : o.op = .call ⟨.value fx, xs, ts⟩) (hd : dstOK n o.dst = true) (hg : guardOK n ops o = true) (hw : wantA ops tm o = some true)
    (h1 : okX fx = true) (h2 : xs.all okX = true) (h3 : ev tm fx = .func (.func f) fst cap) (h4 : fnOK P f = true) (hc : CallOK P f (fst ++ xs.map (ev tm) ++ cap) h v h') (hr : RunD P n ops rest R (updO tm o.dst v) h') :
    RunD P n ops (o :: rest) R tm h := by
  refine ⟨hd, hg, ?_⟩
  simp only [hw]
  split
  · rename_i fx' xs' ts' hop'
    rw [hop] at hop'
    injection hop' with hop'
    injection hop' with e1 e2 _
    injection e1 with e1
    subst e1 e2
    refine ⟨h1, h2, ?_⟩
    rw [h3]
    exact ⟨h4, v, h', hc, hr⟩
  · rename_i hne; exact absurd hop (hne _ _ _)

/-- A call of a function by its number, nothing captured; its arguments as they read. -/
theorem RunD_call' {f : FuncId} {xs : Array Operand} {ts : Array TypeId} {args : Array Value} {v : Value} {h' : Hp} (hop : o.op = .call ⟨.value (.func f), xs, ts⟩) (hd : dstOK n o.dst = true) (hg : guardOK n ops o = true) (hw : wantA ops tm o = some true)
    (h2 : xs.all okX = true) (h4 : fnOK P f = true) (ha : xs.map (ev tm) = args) (hc : CallOK P f args h v h') (hr : RunD P n ops rest R (updO tm o.dst v) h') :
    RunD P n ops (o :: rest) R tm h :=
  RunD_call hop hd hg hw rfl h2 rfl h4 (by rw [ha]; simpa using hc) hr

theorem WD_region {i : Nat} (hr : ∀ K : (Nat → Value) → Hp → Prop, (∀ tm h, Q .normal tm h → K tm h) → RunD P n ops ops.toList K tm h) : WD P n (.region i ops false) Q tm h :=
  hr _ (fun _ _ h => h)

theorem RunD_nil (hr : R tm h) : RunD P n ops [] R tm h := hr

theorem WD_cond {c : Operand} {x y : Code} (hx : okX c = true) (b : Bool) (hc : ev tm c = .bool b) (ht : b = true → WD P n x Q tm h) (hf : b = false → WD P n y Q tm h) : WD P n (.cond c x y) Q tm h :=
  ⟨hx, b, hc, ht, hf⟩
theorem WD_if {c : Operand} {x y : Code} {p : Prop} [Decidable p] (hx : okX c = true) (hc : ev tm c = .bool (decide p)) (ht : p → WD P n x Q tm h) (hf : ¬ p → WD P n y Q tm h) : WD P n (.cond c x y) Q tm h :=
  ⟨hx, _, hc, fun e => ht (of_decide_eq_true e), fun e => hf (of_decide_eq_false e)⟩
theorem WD_true {c : Operand} {x y : Code} (hx : okX c = true) (hc : ev tm c = .bool true) (ht : WD P n x Q tm h) : WD P n (.cond c x y) Q tm h :=
  ⟨hx, true, hc, fun _ => ht, (fun e => nomatch e)⟩
theorem WD_false {c : Operand} {x y : Code} (hx : okX c = true) (hc : ev tm c = .bool false) (hf : WD P n y Q tm h) : WD P n (.cond c x y) Q tm h :=
  ⟨hx, false, hc, (fun e => nomatch e), fun _ => hf⟩
theorem WD_skip (hq : Q .normal tm h) : WD P n .skip Q tm h := hq
theorem WD_exit {i : Nat} (hq : Q (.exit i) tm h) : WD P n (.exit i) Q tm h := hq
theorem WD_ret (hq : Q .ret tm h) : WD P n .ret Q tm h := hq
end

def argL : List Value → Nat → Value
  | [], _ => undef
  | v :: _, 0 => v
  | _ :: l, t + 1 => argL l t

theorem argL_eq : ∀ (l : List Value), (fun t => l.toArray.getD t undef) = argL l
  | [] => by funext t; simp [argL]
  | v :: l => by
    funext t
    cases t with
    | zero => simp [argL]
    | succ t => have := congrFun (argL_eq l) t; simpa [argL] using this

theorem call_L {P : Program} {f : FuncId} {fn : Func} {args : List Value} {h : Hp} {R : Value → Hp → Prop} (n : Nat) (body : Code) (rs : List ResultVar) (hf : P.funcs[f]? = some fn) (hb : fn.body = some body)
    (hrs : fn.results.toList = rs) (hn : args.length + (fn.ntmps - args.length) = n) (hw : WD P n body (Done P rs R) (argL args) h) : ∃ v h', CallOK P f args.toArray h v h' ∧ R v h' :=
  call_D n body rs hf hb hrs (by simpa using hn) (by rw [argL_eq]; exact hw)

/-- For a function that hands back a plain value and writes nothing old. -/
theorem call_P {P : Program} {f : FuncId} {fn : Func} {args : List Value} {h : Hp} {v : Value} (n : Nat) (body : Code) (rs : List ResultVar) (hf : P.funcs[f]? = some fn) (hb : fn.body = some body)
    (hrs : fn.results.toList = rs) (hn : args.length + (fn.ntmps - args.length) = n) (hv : plainV v = true) (hw : WD P n body (Done P rs fun u h' => u = v ∧ Keeps h h') (argL args) h) : CallOK P f args.toArray h v h := by
  obtain ⟨u, h', hc, rfl, hk⟩ := call_L n body rs hf hb hrs hn hw
  exact hc.forget hk hv

theorem done_ret {P : Program} {rs : List ResultVar} {R : Value → Hp → Prop} {tm : Nat → Value} {h : Hp} {vs : List Value} (hv : resL P tm h rs = some vs) (hr : R (packL vs) h) : Done P rs R .ret tm h :=
  ⟨.inr rfl, vs, hv, hr⟩
theorem done_end {P : Program} {rs : List ResultVar} {R : Value → Hp → Prop} {tm : Nat → Value} {h : Hp} {vs : List Value} (hv : resL P tm h rs = some vs) (hr : R (packL vs) h) : Done P rs R .normal tm h :=
  ⟨.inl rfl, vs, hv, hr⟩

end Go.Eng
end

section
namespace Go.Eng

@[simp] theorem upd_at (tm : Nat → Value) (d : Nat) (v : Value) (t : Nat) : upd tm d v t = if t = d then v else tm t := rfl
attribute [simp] opD okX plainV plainS ev thenD updO argL binD binV isShift strBin unV convD loadD storeD indexAddrD indexD makeD sliceD bnd okO builtinD partV isC eqV nIf
  resL resOne packL srcV srcW

theorem getD_cons0 (v : Value) (l : List Value) : (v :: l).getD 0 undef = v := rfl
theorem keep_self (h : Hp) : Keeps h h := Keeps.refl h
theorem get_alloc (h : Hp) (x : AObj) (o : Nat) : (h.alloc x).get o = if o = h.next then x else h.get o := rfl
theorem get_put (h : Hp) (i : Nat) (x : AObj) (o : Nat) : (h.put i x).get o = if o = i then x else h.get o := rfl
theorem next_alloc (h : Hp) (x : AObj) : (h.alloc x).next = h.next + 1 := rfl
theorem next_put (h : Hp) (i : Nat) (x : AObj) : (h.put i x).next = h.next := rfl
attribute [simp] get_alloc get_put next_alloc next_put keep_self


@[simp] theorem intBin_add (k : IntKind) (x y : Int) : intBin .add k x y = some (.int k (k.wrap (x + y))) := rfl
@[simp] theorem intBin_sub (k : IntKind) (x y : Int) : intBin .sub k x y = some (.int k (k.wrap (x - y))) := rfl
@[simp] theorem intBin_mul (k : IntKind) (x y : Int) : intBin .mul k x y = some (.int k (k.wrap (x * y))) := rfl
@[simp] theorem intBin_quo (k : IntKind) (x y : Int) : intBin .quo k x y = if y = 0 then none else some (.int k (k.wrap (x.tdiv y))) := rfl
@[simp] theorem intBin_rem (k : IntKind) (x y : Int) : intBin .rem k x y = if y = 0 then none else some (.int k (x.tmod y)) := rfl
@[simp] theorem intBin_eql (k : IntKind) (x y : Int) : intBin .eql k x y = some (.bool (x == y)) := rfl
@[simp] theorem intBin_neq (k : IntKind) (x y : Int) : intBin .neq k x y = some (.bool (x != y)) := rfl
@[simp] theorem intBin_lss (k : IntKind) (x y : Int) : intBin .lss k x y = some (.bool (decide (x < y))) := rfl
@[simp] theorem intBin_leq (k : IntKind) (x y : Int) : intBin .leq k x y = some (.bool (decide (x ≤ y))) := rfl
@[simp] theorem intBin_gtr (k : IntKind) (x y : Int) : intBin .gtr k x y = some (.bool (decide (x > y))) := rfl
@[simp] theorem intBin_geq (k : IntKind) (x y : Int) : intBin .geq k x y = some (.bool (decide (x ≥ y))) := rfl
@[simp] theorem lenD_slice (P : Program) (t : TypeId) (s : Option Addr) (n c : Nat) : lenD P t (.slice s n c) = (elT P t).map fun _ => .int .i64 n := by
  unfold lenD; cases elT P t <;> rfl
theorem lenD_str {P : Program} {t : TypeId} (h : P.underlying t = some .string) (s : ByteArray) : lenD P t (.string s) = some (.int .i64 s.size) := by
  unfold lenD; simp [h]
@[simp] theorem notTup_bool (b : Bool) : notTup (.bool b) = true := rfl
@[simp] theorem notTup_int (k : IntKind) (b : Int) : notTup (.int k b) = true := rfl
@[simp] theorem notTup_string (b : ByteArray) : notTup (.string b) = true := rfl
@[simp] theorem notTup_pointer (b : Option Addr) : notTup (.pointer b) = true := rfl
@[simp] theorem notTup_slice (b : Option Addr) (n c : Nat) : notTup (.slice b n c) = true := rfl
@[simp] theorem notTup_map (b : Option Nat) : notTup (.map b) = true := rfl
@[simp] theorem notTup_func (f : Fn) (a b : Array Value) : notTup (.func f a b) = true := rfl
@[simp] theorem notTup_nilFunc : notTup .nilFunc = true := rfl
@[simp] theorem notTup_nilIface : notTup .nilIface = true := rfl
@[simp] theorem notTup_iface (t : TypeId) (v : Value) : notTup (.iface t v) = true := rfl
@[simp] theorem notTup_agg (c : Array Value) : notTup (.agg c) = true := rfl
@[simp] theorem cells_bool (b : Bool) : (Value.bool b).cells = #[.bool b] := rfl
@[simp] theorem cells_int (k : IntKind) (b : Int) : (Value.int k b).cells = #[.int k b] := rfl
@[simp] theorem cells_string (b : ByteArray) : (Value.string b).cells = #[.string b] := rfl
@[simp] theorem cells_pointer (b : Option Addr) : (Value.pointer b).cells = #[.pointer b] := rfl
@[simp] theorem cells_slice (b : Option Addr) (n c : Nat) : (Value.slice b n c).cells = #[.slice b n c] := rfl
@[simp] theorem cells_map (b : Option Nat) : (Value.map b).cells = #[.map b] := rfl
@[simp] theorem cells_func (f : Fn) (a b : Array Value) : (Value.func f a b).cells = #[.func f a b] := rfl
@[simp] theorem cells_nilFunc : Value.nilFunc.cells = #[.nilFunc] := rfl
@[simp] theorem cells_nilIface : Value.nilIface.cells = #[.nilIface] := rfl
@[simp] theorem cells_iface (t : TypeId) (v : Value) : (Value.iface t v).cells = #[.iface t v] := rfl
@[simp] theorem cells_agg (c : Array Value) : (Value.agg c).cells = c := rfl
end Go.Eng
end

section
namespace Go.Eng

/-- The objects below a number alone. -/
def Emb.cut (E : Emb) (n : Nat) : Emb := ⟨fun o => o < n ∧ E.D o, E.blk, E.off, E.slk⟩

theorem HRel.congr {E F : Emb} {base : Nat} {h : Hp} {H : Array Obj} (hd : ∀ o, E.D o ↔ F.D o) (he : ∀ o, E.D o → F.blk o = E.blk o ∧ F.off o = E.off o ∧ F.slk o = E.slk o) (hr : HRel E base h H) : HRel F base h H where
  le := hr.le
  lt o h := hr.lt o ((hd o).2 h)
  obj o h := (hr.obj o ((hd o).2 h)).mono (fun o h => ⟨(hd o).1 h, he o h⟩) ((hd o).2 h) rfl
  sep o o' h h' hne h1 h2 := by
    rw [(he o ((hd o).2 h)).1, (he o' ((hd o').2 h')).1]
    exact hr.sep o o' ((hd o).2 h) ((hd o').2 h') hne h1 h2

/-- What a larger relation says of some objects only. -/
theorem sub_rel {F E' : Emb} {base : Nat} {h h' : Hp} {H H' : Array Obj} (hF : HRel F base h H) (hmem : ∀ o, F.D o → E'.D o ∧ E'.blk o = F.blk o ∧ E'.off o = F.off o ∧ E'.slk o = F.slk o)
    (hget : ∀ o, F.D o → h'.get o = h.get o) (hr' : HRel E' base h' H') : HRel F base h H' := by
  have hD : ∀ o, F.D o → E'.blk o = F.blk o ∧ E'.off o = F.off o ∧ E'.slk o = F.slk o := fun o hd => (hmem o hd).2
  refine ⟨hr'.le, hF.lt, fun o hd => ?_, hF.sep⟩
  have h1 := hr'.obj o (hmem o hd).1
  rw [hget o hd] at h1
  have h0 := hF.obj o hd
  obtain ⟨hb, hf, hs⟩ := hD o hd
  cases hx : h.get o with
  | dead => trivial
  | cells c own ex es =>
    rw [hx] at h0 h1
    obtain ⟨C0, _, _, _, _, g3, _, _, _⟩ := h0
    obtain ⟨C, ty, fz, k1, k2, k3, k4, k5, k6⟩ := h1
    refine ⟨C, ty, fz, by rw [← hb]; exact k1, by rw [← hf, ← hs]; exact k2, fun i hi => ?_, k4, fun e => ?_, fun e => by rw [← hs]; exact k6 e⟩
    · have := k3 i hi
      rw [hf] at this
      exact (g3 i hi).back hD this
    · rw [← hb]; exact k5 e
  | map es =>
    rw [hx] at h0 h1
    obtain ⟨e0, _, _, _, _, g4⟩ := h0
    obtain ⟨ents, clock, k1, k2, k3, k4⟩ := h1
    exact ⟨ents, clock, by rw [← hb]; exact k1, by rw [← hb]; exact k2, k3, fun i hi => ⟨(g4 i hi).1.back hD (k4 i hi).1, (g4 i hi).2.back hD (k4 i hi).2⟩⟩

/-- The new objects are the call's own. -/
def NewOwn (h h' : Hp) : Prop := ∀ o, h.next ≤ o → o < h'.next → (h'.get o).live = true → (h'.get o).owned = true

/-- The trace of the first operations in the order of the text. -/
structure Tr (P : Program) (n : Nat) (ops : Array Oper) (p : Nat) where
  fits : p ≤ ops.size
  T : Nat → Nat → Value
  H : Nat → Hp
  V : Nat → Value
  dst : ∀ i o, i < p → ops[i]? = some o → dstOK n o.dst = true ∧ guardOK n ops o = true
  step : ∀ i o, i < p → ops[i]? = some o → (wantA ops (T i) o = some true ∧ OpOK P o (T i) (H i) (V i) (H (i + 1))) ∨ (wantA ops (T i) o = some false ∧ V i = undef ∧ H (i + 1) = H i)
  next : ∀ i o, i < p → ops[i]? = some o → T (i + 1) = updO (T i) o.dst (V i)
  keeps : ∀ i, i < p → Keeps (H i) (H (i + 1))
  own : ∀ i, i < p → NewOwn (H i) (H (i + 1))

section
variable {P : Program} {n : Nat} {ops : Array Oper} {p : Nat}

theorem Tr.keep (t : Tr P n ops p) {i : Nat} : ∀ {k : Nat}, i ≤ k → k ≤ p → Keeps (t.H i) (t.H k)
  | 0, h, _ => by have : i = 0 := by omega
                  subst this; exact Keeps.refl _
  | k + 1, h, hk => by
    by_cases e : i = k + 1
    · subst e; exact Keeps.refl _
    · exact (Tr.keep t (by omega : i ≤ k) (by omega)).trans (t.keeps k (by omega))

theorem Tr.le (t : Tr P n ops p) {i k : Nat} (h : i ≤ k) (hk : k ≤ p) : (t.H i).next ≤ (t.H k).next := (t.keep h hk).1

/-- What was executed (S), and what it has left. -/
structure Inv (t : Tr P n ops p) (E0 : Emb) (base : Nat) (w0 : World) (S : Nat → Bool) (E : Emb) (w : World) (a : Act) : Prop where
  heap : ∀ k, k ≤ p → HRel (E.cut (t.H k).next) base (t.H k) w.heap
  ext : ∀ o, o < (t.H 0).next → (E.D o ↔ E0.D o) ∧ E.blk o = E0.blk o ∧ E.off o = E0.off o ∧ E.slk o = E0.slk o
  os : w.os = w0.os
  tape : w.tape = w0.tape
  output : Qui w0 w
  size : w0.heap.size ≤ w.heap.size
  keep : ∀ b, b < w0.heap.size → (∀ o, E0.D o → ((t.H 0).get o).owned = true → E0.blk o ≠ b) → w.heap[b]? = w0.heap[b]?
  own : ∀ o, E.D o → o < (t.H p).next → ((t.H p).get o).owned = true → (∃ o0, E0.D o0 ∧ ((t.H 0).get o0).owned = true ∧ E0.blk o0 = E.blk o) ∨ w0.heap.size ≤ E.blk o
  new : ∀ i o, i < p → S i = false → (t.H i).next ≤ o → o < (t.H (i + 1)).next → ¬ E.D o
  tmps : a.tmps.size = n
  defers : a.defers = []
  /-- a slot holds what the last of its executed writers gave -/
  last : ∀ s j o, j < p → S j = true → ops[j]? = some o → o.dst = some s → (∀ k o', j < k → k < p → S k = true → ops[k]? = some o' → o'.dst ≠ some s) → VRel (E.cut (t.H (j + 1)).next) (t.V j) (a.tmps.getD s undef)
  none : ∀ s, (∀ k o', k < p → S k = true → ops[k]? = some o' → o'.dst ≠ some s) → VRel (E.cut (t.H 0).next) (t.T 0 s) (a.tmps.getD s undef)

theorem cut_mono {E : Emb} {a b : Nat} (h : a ≤ b) {v v' : Value} (hv : VRel (E.cut a) v v') : VRel (E.cut b) v v' :=
  VRel.mono (E := E.cut a) (E' := E.cut b) (fun _ ho => ⟨⟨by have := ho.1; omega, ho.2⟩, rfl, rfl, rfl⟩) hv

/-- A slot in the order of the text: its last writer, or none. -/
theorem Tr.slot (t : Tr P n ops p) (s : Nat) : ∀ i, i ≤ p → (∃ j o, j < i ∧ ops[j]? = some o ∧ o.dst = some s ∧ t.T i s = t.V j ∧ ∀ k o', j < k → k < i → ops[k]? = some o' → o'.dst ≠ some s) ∨
    (t.T i s = t.T 0 s ∧ ∀ k o', k < i → ops[k]? = some o' → o'.dst ≠ some s)
  | 0, _ => .inr ⟨rfl, fun k o' h => absurd h (by omega)⟩
  | i + 1, hi => by
    cases ho : ops[i]? with
    | none => rw [Array.getElem?_eq_getElem (by have := t.fits; omega)] at ho; cases ho
    | some o =>
      have hn := t.next i o (by omega) ho
      by_cases hd : o.dst = some s
      · left
        refine ⟨i, o, by omega, ho, hd, by rw [hn, hd]; simp [updO, upd], fun k o' h1 h2 => absurd h1 (by omega)⟩
      · have hts : t.T (i + 1) s = t.T i s := by
          rw [hn]
          cases hdst : o.dst with
          | none => rfl
          | some d =>
            have : s ≠ d := fun e => hd (by rw [hdst, e])
            simp [updO, upd, this]
        rcases Tr.slot t s i (by omega) with ⟨j, oj, h1, h2, h3, h4, h5⟩ | ⟨h1, h2⟩
        · left
          refine ⟨j, oj, by omega, h2, h3, by rw [hts, h4], fun k o' hk1 hk2 hk => ?_⟩
          by_cases e : k = i
          · subst e; rw [ho] at hk; cases hk; exact hd
          · exact h5 k o' hk1 (by omega) hk
        · right
          refine ⟨by rw [hts, h1], fun k o' hk1 hk => ?_⟩
          by_cases e : k = i
          · subst e; rw [ho] at hk; cases hk; exact hd
          · exact h2 k o' (by omega) hk

/-- The embedding behind one more operation. -/
def Emb.mix (E' E : Emb) (n : Nat) : Emb := ⟨fun o => if o < n then E'.D o else E.D o, fun o => if o < n then E'.blk o else E.blk o, fun o => if o < n then E'.off o else E.off o, fun o => if o < n then E'.slk o else E.slk o⟩

theorem Inv.next {t : Tr P n ops p} {E0 E E' : Emb} {base : Nat} {w0 w w' : World} {S : Nat → Bool} {a : Act} {v' : Value} (inv : Inv t E0 base w0 S E w a) {i : Nat} {o : Oper} (hi : i < p) (ho : ops[i]? = some o) (hS : S i = false)
    (hdst : dstOK n o.dst = true) (hB : ∀ j oj s, j < p → i < j → ops[j]? = some oj → o.dst = some s → oj.dst = some s → S j = false)
    (st : Step (E.cut (t.H i).next) (t.H i) w E' (t.H (i + 1)) w') (hr : HRel E' base (t.H (i + 1)) w'.heap) (hv : VRel E' (t.V i) v') :
    Inv t E0 base w0 (fun k => if k = i then true else S k) (E'.mix E (t.H (i + 1)).next) w' (a.put o.dst v') := by
  have hle : (t.H i).next ≤ (t.H (i + 1)).next := t.le (by omega) (by omega)
  have hle0 : (t.H 0).next ≤ (t.H i).next := t.le (by omega) (by omega)
  have hlep : (t.H (i + 1)).next ≤ (t.H p).next := t.le (by omega) (by omega)
  -- old objects are in the new embedding, as they were
  have hsub : ∀ q, E.D q → (E'.mix E (t.H (i + 1)).next).D q ∧ (E'.mix E (t.H (i + 1)).next).blk q = E.blk q ∧ (E'.mix E (t.H (i + 1)).next).off q = E.off q ∧ (E'.mix E (t.H (i + 1)).next).slk q = E.slk q := by
    intro q hq
    by_cases h1 : q < (t.H (i + 1)).next
    · have h2 : q < (t.H i).next := by
        rcases Nat.lt_or_ge q (t.H i).next with h | h
        · exact h
        · exact absurd hq (inv.new i q hi hS h h1)
      obtain ⟨e1, e2, e3, e4⟩ := st.ext q h2
      simp only [Emb.mix, h1, if_true]
      exact ⟨e1.2 ⟨h2, hq⟩, e2, e3, e4⟩
    · simp [Emb.mix, h1, hq]
  -- and those of the operation's own embedding
  have hsub' : ∀ q, E'.D q → (E'.mix E (t.H (i + 1)).next).D q ∧ (E'.mix E (t.H (i + 1)).next).blk q = E'.blk q ∧ (E'.mix E (t.H (i + 1)).next).off q = E'.off q ∧ (E'.mix E (t.H (i + 1)).next).slk q = E'.slk q := by
    intro q hq
    have h1 := hr.lt q hq
    simp [Emb.mix, h1, hq]
  have hE' : ∀ q, q < (t.H i).next → E.D q → E'.D q ∧ E'.blk q = E.blk q ∧ E'.off q = E.off q ∧ E'.slk q = E.slk q := by
    intro q h2 hq
    obtain ⟨e1, e2, e3, e4⟩ := st.ext q h2
    exact ⟨e1.2 ⟨h2, hq⟩, e2, e3, e4⟩
  have hback : ∀ q, q < (t.H i).next → E'.D q → E.D q := fun q h2 hq => ((st.ext q h2).1.1 hq).2
  -- a new object's block was not there
  have hfresh : ∀ q, (t.H i).next ≤ q → E'.D q → ((t.H (i + 1)).get q).live = true → w.heap.size ≤ E'.blk q := by
    intro q h1 hq hlv
    have hown := t.own i hi q h1 (hr.lt q hq) hlv
    rcases st.own q hq hown with ⟨o0, h0, h00, e0⟩ | h
    · have h0lt : o0 < (t.H i).next := h0.1
      have hn0 : E'.D o0 ∧ E'.blk o0 = E.blk o0 := ⟨(hE' o0 h0lt h0.2).1, (hE' o0 h0lt h0.2).2.1⟩
      have hg : (t.H (i + 1)).get o0 = (t.H i).get o0 := (t.keeps i hi).2 o0 h0lt
      have := hr.sep q o0 hq hn0.1 (by omega) hown (by rw [hg]; exact AObj.live_of_owned h00)
      exact absurd (hn0.2.trans e0).symm this
    · exact h
  have heap : ∀ k, k ≤ p → HRel ((E'.mix E (t.H (i + 1)).next).cut (t.H k).next) base (t.H k) w'.heap := by
    intro k hk
    by_cases hki : k ≤ i
    · have hlk := t.le hki (by omega)
      have h1 := sub_rel (F := E.cut (t.H k).next) (E' := E') (inv.heap k hk) (fun q (hq : q < (t.H k).next ∧ E.D q) => hE' q (by have := hq.1; omega) hq.2)
        (fun q (hq : q < (t.H k).next ∧ E.D q) => (t.keep (show k ≤ i + 1 by omega) (by omega)).2 q hq.1) hr
      refine HRel.congr (E := E.cut (t.H k).next) (F := (E'.mix E (t.H (i + 1)).next).cut (t.H k).next) (fun q => ?_) (fun q (hq : q < (t.H k).next ∧ E.D q) => (hsub q hq.2).2) h1
      constructor
      · exact fun hq => ⟨hq.1, (hsub q hq.2).1⟩
      · rintro ⟨h2, h3⟩
        have h4 : q < (t.H (i + 1)).next := by omega
        simp only [Emb.mix, h4, if_true] at h3
        exact ⟨h2, hback q (by omega) h3⟩
    · have hlk := t.le (show i + 1 ≤ k by omega) hk
      have old := inv.heap k hk
      have hkp := t.keep (show i + 1 ≤ k by omega) hk
      have hkp0 := t.keep (show i ≤ k by omega) hk
      -- members
      have mem : ∀ q, ((E'.mix E (t.H (i + 1)).next).cut (t.H k).next).D q → (q < (t.H (i + 1)).next ∧ E'.D q) ∨ ((t.H (i + 1)).next ≤ q ∧ q < (t.H k).next ∧ E.D q) := by
        rintro q ⟨h1, h2⟩
        by_cases h3 : q < (t.H (i + 1)).next
        · simp only [Emb.mix, h3, if_true] at h2; exact .inl ⟨h3, h2⟩
        · simp only [Emb.mix, h3, if_false] at h2; exact .inr ⟨by omega, h1, h2⟩
      have blkL : ∀ q, q < (t.H (i + 1)).next → ((E'.mix E (t.H (i + 1)).next).cut (t.H k).next).blk q = E'.blk q := fun q h => by simp [Emb.cut, Emb.mix, h]
      have blkR : ∀ q, (t.H (i + 1)).next ≤ q → ((E'.mix E (t.H (i + 1)).next).cut (t.H k).next).blk q = E.blk q := fun q h => by simp [Emb.cut, Emb.mix, Nat.not_lt.2 h]
      -- a left one and a right one, one of them owned, lie apart
      have apart : ∀ q r, q < (t.H (i + 1)).next → E'.D q → (t.H (i + 1)).next ≤ r → r < (t.H k).next → E.D r → ((t.H k).get q).live = true → ((t.H k).get r).live = true → (((t.H k).get q).owned = true ∨ ((t.H k).get r).owned = true) → E'.blk q ≠ E.blk r := by
        intro q r h1 h2 h3 h4 h5 h6 h7 h8
        by_cases hq : q < (t.H i).next
        · have hq' := hback q hq h2
          rw [(hE' q hq hq').2.1]
          rcases h8 with h8 | h8
          · exact old.sep q r ⟨by omega, hq'⟩ ⟨h4, h5⟩ (by omega) h8 h7
          · exact fun e => old.sep r q ⟨h4, h5⟩ ⟨by omega, hq'⟩ (by omega) h8 h6 e.symm
        · have := hfresh q (by omega) h2 (by rw [← hkp.2 q h1]; exact h6)
          have hb := (old.obj r ⟨h4, h5⟩).block h7
          exact fun e => by simp only [Emb.cut] at hb; omega
      refine ⟨hr.le, fun q hq => hq.1, fun q hq => ?_, fun q r hq hr' hne h1 h2 => ?_⟩
      · rcases mem q hq with ⟨h1, h2⟩ | ⟨h1, h2, h3⟩
        · have hg : (t.H k).get q = (t.H (i + 1)).get q := hkp.2 q h1
          rw [hg]
          refine ORel.mono (E := E') (E' := (E'.mix E (t.H (i + 1)).next).cut (t.H k).next) (fun r hr'' => ?_) h2 rfl (hr.obj q h2)
          have := hsub' r hr''
          exact ⟨⟨by have := hr.lt r hr''; omega, this.1⟩, this.2⟩
        · have h0 := old.obj q ⟨h2, h3⟩
          cases hx : (t.H k).get q with
          | dead => trivial
          | _ =>
            have hl : ((t.H k).get q).live = true := by rw [hx]; rfl
            have hb := h0.block hl
            rw [hx] at h0
            refine ORel.mono (E := E.cut (t.H k).next) (E' := (E'.mix E (t.H (i + 1)).next).cut (t.H k).next) (fun r (hr'' : r < (t.H k).next ∧ E.D r) => ?_) ⟨h2, h3⟩ ?_ h0
            · have := hsub r hr''.2
              exact ⟨⟨hr''.1, this.1⟩, this.2⟩
            · refine st.keep _ hb ?_
              intro o0 h4 h5
              have h4lt : o0 < (t.H i).next := h4.1
              have hg0 : (t.H k).get o0 = (t.H i).get o0 := hkp0.2 o0 h4lt
              exact old.sep o0 q ⟨by omega, h4.2⟩ ⟨h2, h3⟩ (by omega) (by rw [hg0]; exact h5) hl
      · rcases mem q hq with ⟨a1, a2⟩ | ⟨a1, a2, a3⟩ <;> rcases mem r hr' with ⟨b1, b2⟩ | ⟨b1, b2, b3⟩
        · rw [blkL q a1, blkL r b1]
          refine hr.sep q r a2 b2 hne ?_ ?_
          · rw [← hkp.2 q a1]; exact h1
          · rw [← hkp.2 r b1]; exact h2
        · rw [blkL q a1, blkR r b1]
          exact apart q r a1 a2 b1 b2 b3 (AObj.live_of_owned h1) h2 (.inl h1)
        · rw [blkR q a1, blkL r b1]
          exact fun e => apart r q b1 b2 a1 a2 a3 h2 (AObj.live_of_owned h1) (.inr h1) e.symm
        · rw [blkR q a1, blkR r b1]
          exact old.sep q r ⟨a2, a3⟩ ⟨b2, b3⟩ hne h1 h2
  refine ⟨heap, fun q hq => ?_, st.os.trans inv.os, st.tape.trans inv.tape, inv.output.trans st.output, Nat.le_trans inv.size st.size, fun b hb hn => ?_, fun q hq hqp hown => ?_, fun k q hk hkS h1 h2 hq => ?_, ?_, ?_, ?_, ?_⟩
  · have h1 : q < (t.H (i + 1)).next := by omega
    obtain ⟨e1, e2, e3, e4⟩ := st.ext q (by omega)
    obtain ⟨f1, f2, f3, f4⟩ := inv.ext q hq
    simp only [Emb.mix, h1, if_true]
    refine ⟨⟨fun h => f1.1 (e1.1 h).2, fun h => e1.2 ⟨by omega, f1.2 h⟩⟩, e2.trans f2, e3.trans f3, e4.trans f4⟩
  · rw [st.keep b (Nat.lt_of_lt_of_le hb inv.size) ?_]
    · exact inv.keep b hb hn
    · intro o1 h1 h2 e
      have hg1 : (t.H p).get o1 = (t.H i).get o1 := (t.keep (show i ≤ p by omega) (Nat.le_refl _)).2 o1 h1.1
      have h1p : o1 < (t.H p).next := by have := h1.1; omega
      rcases inv.own o1 h1.2 h1p (by rw [hg1]; exact h2) with ⟨o0, h0, h00, e0⟩ | h
      · exact hn o0 h0 h00 (e0.trans e)
      · have e' : E.blk o1 = b := e
        omega
  · by_cases h1 : q < (t.H (i + 1)).next
    · simp only [Emb.mix, h1, if_true] at hq ⊢
      by_cases h2 : q < (t.H i).next
      · have hq' := hback q h2 hq
        rw [(hE' q h2 hq').2.1]
        exact inv.own q hq' hqp hown
      · right
        refine Nat.le_trans inv.size (hfresh q (by omega) hq ?_)
        rw [← (t.keep (show i + 1 ≤ p by omega) (Nat.le_refl _)).2 q h1]; exact AObj.live_of_owned hown
    · simp only [Emb.mix, h1, if_false] at hq ⊢
      exact inv.own q hq hqp hown
  · by_cases hki : k = i
    · simp [hki] at hkS
    · simp only [hki, if_false] at hkS
      have := inv.new k q hk hkS h1 h2
      by_cases h3 : q < (t.H (i + 1)).next
      · simp only [Emb.mix, h3, if_true] at hq
        rcases Nat.lt_or_gt_of_ne hki with h4 | h4
        · have := t.le (show k + 1 ≤ i by omega) (by omega)
          exact inv.new k q hk hkS h1 h2 (hback q (by omega) hq)
        · have := t.le (show i + 1 ≤ k by omega) (by omega)
          omega
      · simp only [Emb.mix, h3, if_false] at hq
        exact this hq
  · cases hd : o.dst <;> simp [Act.put, inv.tmps]
  · cases hd : o.dst <;> simp [Act.put, inv.defers]
  · intro s j oj hj hSj hoj hdj hlast
    by_cases hji : j = i
    · subst hji
      rw [ho] at hoj; cases hoj
      have hs : s < n := by rw [hdj] at hdst; simpa [dstOK] using hdst
      have : (a.put o.dst v').tmps.getD s undef = v' := by rw [hdj]; simp [Act.put, inv.tmps, hs]
      rw [this]
      exact VRel.mono (E := E') (E' := (E'.mix E (t.H (j + 1)).next).cut (t.H (j + 1)).next) (fun q hq => ⟨⟨hr.lt q hq, (hsub' q hq).1⟩, (hsub' q hq).2⟩) hv
    · have hSj' : S j = true := by simpa [hji] using hSj
      have hne : o.dst ≠ some s := by
        intro e
        rcases Nat.lt_or_gt_of_ne hji with h4 | h4
        · exact hlast i o h4 hi (by simp) ho e
        · have := hB j oj s hj h4 hoj e hdj
          rw [this] at hSj'; cases hSj'
      have : (a.put o.dst v').tmps.getD s undef = a.tmps.getD s undef := by
        cases hd : o.dst with
        | none => rfl
        | some d =>
          have hds : d ≠ s := fun e => hne (by rw [hd, e])
          simp only [Act.put]
          rw [Array.getD_eq_getD_getElem?, Array.getD_eq_getD_getElem?, Array.getElem?_setIfInBounds_ne hds]
      rw [this]
      exact VRel.mono (E := E.cut (t.H (j + 1)).next) (E' := (E'.mix E (t.H (i + 1)).next).cut (t.H (j + 1)).next) (fun q hq => ⟨⟨hq.1, (hsub q hq.2).1⟩, (hsub q hq.2).2⟩) (inv.last s j oj hj hSj' hoj hdj (fun k ok h1 h2 h3 h4 => hlast k ok h1 h2 (by simp only [h3]; split <;> rfl) h4))
  · intro s hnone
    have hne : o.dst ≠ some s := hnone i o hi (by simp) ho
    have : (a.put o.dst v').tmps.getD s undef = a.tmps.getD s undef := by
      cases hd : o.dst with
      | none => rfl
      | some d =>
        have hds : d ≠ s := fun e => hne (by rw [hd, e])
        simp only [Act.put]
        rw [Array.getD_eq_getD_getElem?, Array.getD_eq_getD_getElem?, Array.getElem?_setIfInBounds_ne hds]
    rw [this]
    exact VRel.mono (E := E.cut (t.H 0).next) (E' := (E'.mix E (t.H (i + 1)).next).cut (t.H 0).next) (fun q hq => ⟨⟨hq.1, (hsub q hq.2).1⟩, (hsub q hq.2).2⟩) (inv.none s (fun k ok h2 h3 h4 => hnone k ok h2 (by simp only [h3]; split <;> rfl) h4))

end
end Go.Eng
end

section
namespace Go.Eng

def dirE (ops : Array Oper) (i j : Nat) : Bool := match ops[i]? with
  | some o => o.after.any fun e => Region.binds .any e && e.on == j
  | none => false

/-- An edge, or a way over a few. -/
def tclE (ops : Array Oper) : Nat → Nat → Nat → Bool
  | 0, i, j => dirE ops i j
  | m + 1, i, j => dirE ops i j || (List.range i).any fun k => dirE ops i k && tclE ops m k j

/-- The edges order what has to be ordered: slots' writers and readers; from p on everything. -/
def drawOK (ops : Array Oper) (p : Nat) : Bool :=
  decide (p ≤ ops.size) &&
  (List.range ops.size).all (fun i => match ops[i]? with
    | some o => o.after.all (fun e => !Region.binds .any e || decide (e.on < i)) &&
      (if i < p then
        (List.range p).all (fun j => i == j || match ops[j]? with
          | some oj => (match oj.dst with
            | some s => (!(o.looksAt ops).contains s || (if j < i then dirE ops i j else dirE ops j i)) && (o.dst != some s || !decide (i < j) || dirE ops j i)
            | none => true)
          | none => false)
      else (List.range i).all fun j => tclE ops 8 i j)
    | none => false)

def cntF (f : Nat → Bool) : Nat → Nat
  | 0 => 0
  | m + 1 => cntF f m + if f m then 0 else 1

theorem cntF_set {f g : Nat → Bool} {i : Nat} : ∀ {m : Nat}, i < m → f i = false → (∀ k, g k = if k = i then true else f k) → cntF f m = cntF g m + 1
  | 0, h, _, _ => absurd h (by omega)
  | m + 1, h, hf, hg => by
    simp only [cntF]
    by_cases e : i = m
    · subst e
      have hsame : ∀ k, k ≤ i → cntF g k = cntF f k := by
        intro k
        induction k with
        | zero => intro _; rfl
        | succ k ih =>
          intro hk
          have hgk : g k = f k := by rw [hg k]; exact if_neg (by omega)
          simp only [cntF, ih (by omega), hgk]
      rw [hsame i (Nat.le_refl _), hg i, hf]
      simp
    · have hgm : g m = f m := by rw [hg m]; exact if_neg (fun q => e q.symm)
      rw [cntF_set (m := m) (by omega) hf hg, hgm]
      omega

theorem cntF_zero {f : Nat → Bool} : ∀ {m : Nat}, cntF f m = 0 → ∀ i, i < m → f i = true
  | 0, _, i, h => absurd h (by omega)
  | m + 1, hc, i, h => by
    simp only [cntF] at hc
    by_cases e : i = m
    · subst e
      cases hf : f i with
      | true => rfl
      | false => simp [hf] at hc
    · exact cntF_zero (m := m) (by omega) i (by omega)

theorem cntF_pos {f : Nat → Bool} : ∀ {m : Nat}, 0 < cntF f m → ∃ i, i < m ∧ f i = false ∧ ∀ k, k < i → f k = true
  | 0, h => absurd h (by simp [cntF])
  | m + 1, h => by
    by_cases hc : 0 < cntF f m
    · obtain ⟨i, h1, h2, h3⟩ := cntF_pos hc
      exact ⟨i, by omega, h2, h3⟩
    · refine ⟨m, by omega, ?_, cntF_zero (by omega)⟩
      simp only [cntF] at h
      cases hf : f m with
      | false => rfl
      | true => simp [hf] at h; omega

section
variable {P : Program} {n : Nat} {ops : Array Oper} {p : Nat}

theorem drawOK_spec (hd : drawOK ops p = true) : p ≤ ops.size ∧ (∀ i o, ops[i]? = some o → ∀ e ∈ o.after.toList, Region.binds .any e = true → e.on < i) ∧
    (∀ i j o oj s, i < p → j < p → i ≠ j → ops[i]? = some o → ops[j]? = some oj → oj.dst = some s → ((o.looksAt ops).contains s = true → if j < i then dirE ops i j = true else dirE ops j i = true) ∧ (o.dst = some s → i < j → dirE ops j i = true)) ∧
    (∀ i, p ≤ i → i < ops.size → ∀ j, j < i → tclE ops 8 i j = true) := by
  unfold drawOK at hd
  simp only [Bool.and_eq_true, decide_eq_true_eq, List.all_eq_true, List.mem_range] at hd
  obtain ⟨h1, h2⟩ := hd
  refine ⟨h1, fun i o ho e he hb => ?_, fun i j o oj s hi hj hne ho hoj hs => ?_, fun i hp hi j hj => ?_⟩
  · have hi : i < ops.size := (Array.getElem?_eq_some_iff.1 ho).1
    have := h2 i hi
    simp only [ho, Bool.and_eq_true, Array.all_eq_true'] at this
    have h3 := this.1 e (Array.mem_toList_iff.1 he)
    simp only [hb, Bool.not_true, Bool.false_or, decide_eq_true_eq] at h3
    exact h3
  · have := h2 i (by omega)
    simp only [ho, Bool.and_eq_true, if_pos hi, List.all_eq_true, List.mem_range] at this
    have h3 := this.2 j hj
    have hij : (i == j) = false := by simpa using hne
    simp only [hij, Bool.false_or, hoj, hs, Bool.and_eq_true, Bool.or_eq_true, Bool.not_eq_true'] at h3
    refine ⟨fun hl => ?_, fun hds hlt => ?_⟩
    · rcases h3.1 with h4 | h4
      · rw [hl] at h4; cases h4
      · split at h4 <;> rename_i hq <;> simp [hq, h4]
    · rcases h3.2 with (h4 | h4) | h4
      · simp [hds] at h4
      · simp [hlt] at h4
      · exact h4
  · have := h2 i hi
    rw [Array.getElem?_eq_getElem hi] at this
    simp only [Bool.and_eq_true, if_neg (Nat.not_lt.2 hp), List.all_eq_true, List.mem_range] at this
    exact this.2 j hj

/-- What has been listed is closed. -/
def Closed (ops : Array Oper) (l : Array Bool) : Prop := ∀ i j, l.getD i false = true → dirE ops i j = true → l.getD j false = true

theorem tcl_done {l : Array Bool} (hc : Closed ops l) : ∀ (m i j : Nat), tclE ops m i j = true → (∀ j, dirE ops i j = true → l.getD j false = true) → l.getD j false = true
  | 0, i, j, h, hd => hd j h
  | m + 1, i, j, h, hd => by
    simp only [tclE, Bool.or_eq_true, List.any_eq_true, List.mem_range, Bool.and_eq_true] at h
    rcases h with h | ⟨k, _, h1, h2⟩
    · exact hd j h
    · exact tcl_done hc m k j h2 fun q hq => hc k q (hd k h1) hq

theorem ready_spec {l : Array Bool} (hs : l.size = ops.size) {i : Nat} (hi : i ∈ Region.ready .any ops l) : i < ops.size ∧ l.getD i false = false ∧ ∀ j, dirE ops i j = true → l.getD j false = true := by
  unfold Region.ready at hi
  simp only [List.mem_filter, List.mem_range, Bool.and_eq_true, Bool.not_eq_true'] at hi
  obtain ⟨h1, h2, h3⟩ := hi
  refine ⟨h1, ?_, fun j hj => ?_⟩
  · rw [Array.getD_eq_getD_getElem?, Array.getElem?_eq_getElem (by omega)] at h2 ⊢
    exact h2
  · rw [Array.getElem?_eq_getElem h1] at h3
    unfold dirE at hj
    rw [Array.getElem?_eq_getElem h1] at hj
    simp only [Option.map_some, Option.getD_some, Array.all_eq_true'] at h3
    simp only [Array.any_eq_true'] at hj
    obtain ⟨e, he, hb⟩ := hj
    simp only [Bool.and_eq_true, beq_iff_eq] at hb
    have := h3 e he
    rw [hb.1, hb.2] at this
    simpa using this

theorem ready_mk (hok : ∀ i o, ops[i]? = some o → ∀ e ∈ o.after.toList, Region.binds .any e = true → e.on < i) {l : Array Bool} (hs : l.size = ops.size) {i : Nat} (h1 : i < ops.size) (h2 : l.getD i false = false) (h3 : ∀ j, j < i → l.getD j false = true) :
    i ∈ Region.ready .any ops l := by
  unfold Region.ready
  simp only [List.mem_filter, List.mem_range, Bool.and_eq_true, Bool.not_eq_true']
  refine ⟨h1, ?_, ?_⟩
  · rw [Array.getD_eq_getD_getElem?, Array.getElem?_eq_getElem (by omega)] at h2 ⊢
    exact h2
  · rw [Array.getElem?_eq_getElem h1]
    simp only [Option.map_some, Option.getD_some, Array.all_eq_true']
    intro e he
    cases hb : Region.binds .any e with
    | false => rfl
    | true => simp only [Bool.not_true, Bool.false_or]; exact h3 _ (hok i _ (Array.getElem?_eq_getElem h1) e (Array.mem_toList_iff.2 he) hb)

/-- The tail, totally ordered. -/
theorem any_tail {Q : Exit → Act → World → Prop} (hok : ∀ i o, ops[i]? = some o → ∀ e ∈ o.after.toList, Region.binds .any e = true → e.on < i) (hc : ∀ i, p ≤ i → i < ops.size → ∀ j, j < i → tclE ops 8 i j = true) :
    ∀ (k q : Nat) (l : Array Bool) (a : Act) (w : World), p ≤ q → q + k = ops.size → l.size = ops.size → (∀ i, i < ops.size → l.getD i false = decide (i < q)) → wpOps P ops Q (List.range' q k) a w → wpAny P .any ops Q k l a w
  | 0, q, l, a, w, hp, hq, hs, hl, hw => by
    simp only [wpAny]
    refine ⟨?_, by simpa [wpOps] using hw⟩
    apply List.eq_nil_iff_forall_not_mem.2
    intro i hi
    obtain ⟨h1, h2, _⟩ := ready_spec hs hi
    rw [hl i h1] at h2
    simp at h2; omega
  | k + 1, q, l, a, w, hp, hq, hs, hl, hw => by
    simp only [wpAny]
    have hqs : q < ops.size := by omega
    refine ⟨fun h => ?_, fun i hi => ?_⟩
    · have := ready_mk (l := l) hok hs hqs (by rw [hl q hqs]; simp) (fun j hj => by rw [hl j (by omega)]; simp [hj])
      rw [h] at this; cases this
    · obtain ⟨h1, h2, h3⟩ := ready_spec hs hi
      have hiq : i = q := by
        rw [hl i h1] at h2
        simp at h2
        by_cases e : i = q
        · exact e
        · have hcl : Closed ops l := fun x y hx hxy => by
            have hxs : x < ops.size := by
              by_cases hx' : x < ops.size
              · exact hx'
              · unfold dirE at hxy; rw [Array.getElem?_eq_none (by omega)] at hxy; cases hxy
            rw [hl x hxs] at hx
            simp at hx
            have hxy' := hxy
            unfold dirE at hxy'
            rw [Array.getElem?_eq_getElem hxs] at hxy'
            simp only [Array.any_eq_true', Bool.and_eq_true, beq_iff_eq] at hxy'
            obtain ⟨e, he, hb, rfl⟩ := hxy'
            have := hok x _ (Array.getElem?_eq_getElem hxs) e (Array.mem_toList_iff.2 he) hb
            rw [hl _ (by omega)]; simp; omega
          have := tcl_done hcl 8 i q (hc i (by omega) h1 q (by omega)) h3
          rw [hl q hqs] at this; simp at this
      subst hiq
      rw [List.range'_succ, wpOps_cons] at hw
      refine wpOp_mono (fun a w h => any_tail hok hc k (i + 1) _ a w (by omega) (by omega) (by simp [hs]) (fun j hj => ?_) h) hw
      by_cases e : j = i
      · subst e
        rw [Array.getD_eq_getD_getElem?, Array.getElem?_setIfInBounds_self_of_lt (by omega)]
        simp
      · rw [Array.getD_eq_getD_getElem?, Array.getElem?_setIfInBounds_ne (fun q => e q.symm), ← Array.getD_eq_getD_getElem?, hl j hj]
        simp; omega

theorem Inv.operand {t : Tr P n ops p} {E0 E : Emb} {base : Nat} {w0 w : World} {S : Nat → Bool} {a : Act} (inv : Inv t E0 base w0 S E w a) {i s : Nat} (hi : i < p) (hS : S i = false)
    (hw : ∀ j oj, j < p → j ≠ i → ops[j]? = some oj → oj.dst = some s → (j < i → S j = true) ∧ (i < j → S j = false)) : VRel (E.cut (t.H i).next) (t.T i s) (a.tmps.getD s undef) := by
  rcases t.slot s i (by omega) with ⟨j, oj, h1, h2, h3, h4, h5⟩ | ⟨h1, h2⟩
  · rw [h4]
    refine cut_mono (t.le (show j + 1 ≤ i by omega) (by omega)) (inv.last s j oj (by omega) ((hw j oj (by omega) (by omega) h2 h3).1 h1) h2 h3 (fun k ok k1 k2 k3 k4 k5 => ?_))
    rcases Nat.lt_trichotomy k i with h | h | h
    · exact h5 k ok k1 h k4 k5
    · subst h; rw [hS] at k3; cases k3
    · have := (hw k ok k2 (by omega) k4 k5).2 h
      rw [this] at k3; cases k3
  · rw [h1]
    refine cut_mono (t.le (show 0 ≤ i by omega) (by omega)) (inv.none s (fun k ok k2 k3 k4 k5 => ?_))
    rcases Nat.lt_trichotomy k i with h | h | h
    · exact h2 k ok h k4 k5
    · subst h; rw [hS] at k3; cases k3
    · have := (hw k ok k2 (by omega) k4 k5).2 h
      rw [this] at k3; cases k3

theorem getD_set {l : Array Bool} {i : Nat} (hi : i < l.size) (k : Nat) : (l.setIfInBounds i true).getD k false = if k = i then true else l.getD k false := by
  by_cases e : k = i
  · subst e; rw [if_pos rfl, Array.getD_eq_getD_getElem?, Array.getElem?_setIfInBounds_self_of_lt hi]; rfl
  · rw [if_neg e, Array.getD_eq_getD_getElem?, Array.getElem?_setIfInBounds_ne (fun q => e q.symm), ← Array.getD_eq_getD_getElem?]

theorem Inv.congr {t : Tr P n ops p} {E0 E : Emb} {base : Nat} {w0 w : World} {S S' : Nat → Bool} {a : Act} (inv : Inv t E0 base w0 S E w a) (h : ∀ k, S' k = S k) : Inv t E0 base w0 S' E w a := by
  have : S' = S := funext h
  rw [this]; exact inv

theorem any_head {Q : Exit → Act → World → Prop} (t : Tr P n ops p) (hd : drawOK ops p = true) {E0 : Emb} {base : Nat} {w0 : World}
    (hend : ∀ E w a, Step E0 (t.H 0) w0 E (t.H p) w → HRel E base (t.H p) w.heap → TRel E n (t.T p) a → wpOps P ops Q (List.range' p (ops.size - p)) a w) :
    ∀ (c : Nat) (l : Array Bool) (E : Emb) (w : World) (a : Act), l.size = ops.size → cntF (fun k => l.getD k false) p = c → Closed ops l → (∀ i, p ≤ i → l.getD i false = false) →
      Inv t E0 base w0 (fun k => l.getD k false) E w a → wpAny P .any ops Q (c + (ops.size - p)) l a w
  | 0, l, E, w, a, hs, hc, hcl, htl, inv => by
    obtain ⟨h1, h2, h3, h4⟩ := drawOK_spec hd
    have hall := cntF_zero hc
    have hgd : ∀ i, i < ops.size → l.getD i false = decide (i < p) := fun i hi => by
      by_cases e : i < p
      · rw [hall i e]; simp [e]
      · rw [htl i (by omega)]; simp [e]
    rw [Nat.zero_add]
    refine any_tail h2 h4 _ p l a w (Nat.le_refl _) (by omega) hs hgd ?_
    have hr := inv.heap p (Nat.le_refl _)
    refine hend (E.cut (t.H p).next) w a ⟨t.le (Nat.zero_le _) (Nat.le_refl _), fun o ho => ?_, inv.os, inv.tape, inv.output, inv.size, inv.keep, fun o ho hown => inv.own o ho.2 ho.1 hown⟩ hr ⟨inv.tmps, fun s => ?_, inv.defers⟩
    · obtain ⟨e1, e2, e3, e4⟩ := inv.ext o ho
      have hlt : o < (t.H p).next := Nat.lt_of_lt_of_le ho (t.le (Nat.zero_le _) (Nat.le_refl _))
      exact ⟨⟨fun h => e1.1 h.2, fun h => ⟨hlt, e1.2 h⟩⟩, e2, e3, e4⟩
    · rcases t.slot s p (Nat.le_refl _) with ⟨j, oj, g1, g2, g3, g4, g5⟩ | ⟨g1, g2⟩
      · rw [g4]
        exact cut_mono (t.le (show j + 1 ≤ p by omega) (Nat.le_refl _)) (inv.last s j oj g1 (hall j g1) g2 g3 (fun k ok k1 k2 _ k4 => g5 k ok k1 k2 k4))
      · rw [g1]
        exact cut_mono (t.le (Nat.zero_le _) (Nat.le_refl _)) (inv.none s (fun k ok k2 _ k4 => g2 k ok k2 k4))
  | c + 1, l, E, w, a, hs, hc, hcl, htl, inv => by
    obtain ⟨h1, h2, h3, h4⟩ := drawOK_spec hd
    obtain ⟨i0, i1, i2, i3⟩ := cntF_pos (f := fun k => l.getD k false) (m := p) (by omega)
    rw [show c + 1 + (ops.size - p) = c + (ops.size - p) + 1 by omega]
    simp only [wpAny]
    refine ⟨fun h => ?_, fun i hi => ?_⟩
    · have := ready_mk (l := l) h2 hs (show i0 < ops.size by omega) i2 i3
      rw [h] at this; cases this
    · obtain ⟨r1, r2, r3⟩ := ready_spec hs hi
      have hip : i < p := by
        rcases Nat.lt_or_ge i p with h | h
        · exact h
        · have := tcl_done hcl 8 i i0 (h4 i h r1 i0 (by omega)) r3
          have i2' : l.getD i0 false = false := i2
          rw [i2'] at this; cases this
      have ho := Array.getElem?_eq_getElem r1
      generalize hov : ops[i] = o at ho
      -- who writes what the operation looks at
      have hlook : ∀ s, (o.looksAt ops).contains s = true → ∀ j oj, j < p → j ≠ i → ops[j]? = some oj → oj.dst = some s → (j < i → l.getD j false = true) ∧ (i < j → l.getD j false = false) := by
        intro s hcs j oj hj hne hoj hds
        have h5 := (h3 i j o oj s hip hj (fun e => hne e.symm) ho hoj hds).1 hcs
        refine ⟨fun hlt => ?_, fun hlt => ?_⟩
        · rw [if_pos hlt] at h5; exact r3 j h5
        · rw [if_neg (by omega)] at h5
          cases hlj : l.getD j false with
          | false => rfl
          | true => have := hcl j i hlj h5; rw [r2] at this; cases this
      have hval : ∀ s, (o.looksAt ops).contains s = true → VRel (E.cut (t.H i).next) (t.T i s) (a.tmps.getD s undef) := fun s hcs => inv.operand hip r2 (hlook s hcs)
      have hB : ∀ j oj s, j < p → i < j → ops[j]? = some oj → o.dst = some s → oj.dst = some s → l.getD j false = false := by
        intro j oj s hj hlt hoj hds hds'
        have h5 := (h3 i j o oj s hip hj (by omega) ho hoj hds').2 hds hlt
        cases hlj : l.getD j false with
        | false => rfl
        | true => have := hcl j i hlj h5; rw [r2] at this; cases this
      obtain ⟨d1, d2⟩ := t.dst i o hip ho
      have hcnt : cntF (fun k => (l.setIfInBounds i true).getD k false) p = c := by
        have := cntF_set (f := fun k => l.getD k false) (g := fun k => (l.setIfInBounds i true).getD k false) hip r2 (fun k => getD_set (by omega) k)
        omega
      have hcl' : Closed ops (l.setIfInBounds i true) := by
        intro x y hx hxy
        rw [getD_set (by omega)] at hx ⊢
        by_cases e : x = i
        · subst e; split
          · rfl
          · exact r3 y hxy
        · rw [if_neg e] at hx
          split
          · rfl
          · exact hcl x y hx hxy
      have htl' : ∀ k, p ≤ k → (l.setIfInBounds i true).getD k false = false := fun k hk => by
        rw [getD_set (by omega), if_neg (by omega)]; exact htl k hk
      have cont : ∀ E' w' v', Step (E.cut (t.H i).next) (t.H i) w E' (t.H (i + 1)) w' → HRel E' base (t.H (i + 1)) w'.heap → VRel E' (t.V i) v' → wpAny P .any ops Q (c + (ops.size - p)) (l.setIfInBounds i true) (a.put o.dst v') w' := by
        intro E' w' v' st hr hv
        exact any_head t hd hend c _ _ w' _ (by simp [hs]) hcnt hcl' htl' ((inv.next hip ho r2 d1 hB st hr hv).congr (fun k => getD_set (by omega) k))
      have hr0 := inv.heap i (by omega)
      -- the guard
      have hwant : ∀ b, wantA ops (t.T i) o = some b → Region.wanted o (yielded ops a.tmps) = b := by
        intro b hb
        unfold wantA at hb
        unfold Region.wanted
        split at hb
        · rename_i hgd; simp only [Option.some.injEq] at hb; subst hb; rw [hgd]
        · rename_i j want hgd
          rw [hgd]
          split at hb
          · rename_i d hdd
            split at hb
            · rename_i bb hbb
              simp only [Option.some.injEq] at hb
              subst hb
              have hlt := guardOK_spec d2 j want d hgd hdd
              have hcs : (o.looksAt ops).contains d = true := by simp [Oper.looksAt, hgd, hdd]
              have hrr := hval d hcs
              rw [hbb] at hrr
              obtain ⟨z, hz, hz'⟩ := getD_some (c := a.tmps) (i := d) (by rw [inv.tmps]; exact hlt)
              have hz2 : z = .bool bb := by rw [← hz']; exact hrr.inv_bool
              subst hz2
              simp only [yielded, hdd, Option.bind_some, hz]
              cases bb <;> cases want <;> rfl
            · rename_i bb hbb
              simp only [Option.some.injEq] at hb
              subst hb
              have hlt := guardOK_spec d2 j want d hgd hdd
              have hcs : (o.looksAt ops).contains d = true := by simp [Oper.looksAt, hgd, hdd]
              have hrr := hval d hcs
              rw [hbb] at hrr
              obtain ⟨z, hz, hz'⟩ := getD_some (c := a.tmps) (i := d) (by rw [inv.tmps]; exact hlt)
              obtain ⟨c', hc'⟩ := hrr.inv_tuple
              have hz2 : z = .tuple c' := by rw [← hz']; exact hc'
              subst hz2
              simp only [yielded, hdd, Option.bind_some, hz]
              cases want <;> rfl
            · cases hb
          · cases hb
      unfold wpOp
      simp only [ho]
      rcases t.step i o hip ho with ⟨g1, g2⟩ | ⟨g1, g2, g3⟩
      · rw [hwant true g1, if_pos rfl]
        left
        refine g2 (E.cut (t.H i).next) base w a _ Q hr0 (fun s hsm => hval s ?_) cont
        simp only [Oper.looksAt, List.contains_eq_mem, List.mem_append, decide_eq_true_eq]
        left
        exact List.mem_filterMap.2 ⟨.tmp s, by simpa using hsm, rfl⟩
      · rw [hwant false g1, if_neg (by simp)]
        refine cont (E.cut (t.H i).next) w undef ?_ ?_ ?_
        · rw [g3]; exact Step.refl _ _ _
        · rw [g3]; exact hr0
        · rw [g2]; exact VRel.undef _

end
end Go.Eng
end

section
namespace Go.Eng

/-- What a call or an operation adds and leaves alone. -/
def Adds (h h' : Hp) : Prop := Keeps h h' ∧ NewOwn h h'

theorem NewOwn.refl (h : Hp) : NewOwn h h := fun _ h1 h2 _ => by omega
theorem Adds.refl (h : Hp) : Adds h h := ⟨Keeps.refl h, NewOwn.refl h⟩
theorem Adds.trans {a b c : Hp} (h : Adds a b) (k : Adds b c) : Adds a c :=
  ⟨h.1.trans k.1, fun o h1 h2 hl => by
    rcases Nat.lt_or_ge o b.next with h3 | h3
    · have hg := k.1.2 o h3
      rw [hg] at hl ⊢
      exact h.2 o h1 h3 hl
    · exact k.2 o h3 h2 hl⟩
theorem Adds.alloc (h : Hp) {x : AObj} (hx : x.live = true → x.owned = true) : Adds h (h.alloc x) :=
  ⟨Keeps.alloc h x, fun o h1 h2 hl => by
    have : o = h.next := by simp [Hp.alloc] at h2; omega
    subst this
    simp only [Hp.alloc, if_true] at hl ⊢
    exact hx hl⟩
theorem Adds.put {h h' : Hp} (k : Adds h h') {o : Nat} (ho : h.next ≤ o) {x : AObj} (hx : x.live = true → x.owned = true) : Adds h (h'.put o x) :=
  ⟨k.1.put ho x, fun i h1 h2 hl => by
    by_cases e : i = o
    · subst e; simp only [Hp.put, if_true] at hl ⊢; exact hx hl
    · simp only [Hp.put, e, if_false] at hl ⊢; exact k.2 i h1 h2 hl⟩
theorem Adds.grow {h h' : Hp} (k : Adds h h') {o : Nat} (ho : h.next ≤ o) {ex : Bool} {x : AObj} (hx : x.live = true → x.owned = true) : Adds h (growHp h' o ex x) := by
  cases ex with
  | true => exact k.trans (Adds.alloc _ hx)
  | false => exact (k.put ho (fun hl => by cases hl)).trans (Adds.alloc _ hx)

/-- The first operations of a drawn region, in the order of the text. -/
def PreD (P : Program) (n : Nat) (ops : Array Oper) : List Oper → ((Nat → Value) → Hp → Prop) → (Nat → Value) → Hp → Prop
  | [], R, tm, h => R tm h
  | o :: rest, R, tm, h => dstOK n o.dst = true ∧ guardOK n ops o = true ∧
    ((wantA ops tm o = some true ∧ ∃ v h', OpOK P o tm h v h' ∧ Adds h h' ∧ PreD P n ops rest R (updO tm o.dst v) h') ∨
     (wantA ops tm o = some false ∧ PreD P n ops rest R (updO tm o.dst undef) h))

section
variable {P : Program} {n : Nat} {ops : Array Oper}

theorem pre_trace {R : (Nat → Value) → Hp → Prop} : ∀ (l : List Oper) (tm : Nat → Value) (h : Hp), PreD P n ops l R tm h →
    ∃ (T : Nat → Nat → Value) (H : Nat → Hp) (V : Nat → Value), T 0 = tm ∧ H 0 = h ∧ R (T l.length) (H l.length) ∧
      ∀ i o, l[i]? = some o → (dstOK n o.dst = true ∧ guardOK n ops o = true) ∧
        ((wantA ops (T i) o = some true ∧ OpOK P o (T i) (H i) (V i) (H (i + 1))) ∨ (wantA ops (T i) o = some false ∧ V i = undef ∧ H (i + 1) = H i)) ∧
        T (i + 1) = updO (T i) o.dst (V i) ∧ Keeps (H i) (H (i + 1)) ∧ NewOwn (H i) (H (i + 1))
  | [], tm, h, hq => ⟨fun _ => tm, fun _ => h, fun _ => undef, rfl, rfl, hq, fun i o ho => by simp at ho⟩
  | o :: rest, tm, h, hq => by
    obtain ⟨h1, h2, h3⟩ := hq
    have shift : ∀ (v : Value) (h' : Hp), PreD P n ops rest R (updO tm o.dst v) h' → Adds h h' → ((wantA ops tm o = some true ∧ OpOK P o tm h v h') ∨ (wantA ops tm o = some false ∧ v = undef ∧ h' = h)) →
        ∃ (T : Nat → Nat → Value) (H : Nat → Hp) (V : Nat → Value), T 0 = tm ∧ H 0 = h ∧ R (T (o :: rest).length) (H (o :: rest).length) ∧
          ∀ i q, (o :: rest)[i]? = some q → (dstOK n q.dst = true ∧ guardOK n ops q = true) ∧
            ((wantA ops (T i) q = some true ∧ OpOK P q (T i) (H i) (V i) (H (i + 1))) ∨ (wantA ops (T i) q = some false ∧ V i = undef ∧ H (i + 1) = H i)) ∧
            T (i + 1) = updO (T i) q.dst (V i) ∧ Keeps (H i) (H (i + 1)) ∧ NewOwn (H i) (H (i + 1)) := by
      intro v h' hp ha hs
      obtain ⟨T, H, V, e1, e2, hR, hi⟩ := pre_trace rest _ _ hp
      refine ⟨fun k => match k with | 0 => tm | k + 1 => T k, fun k => match k with | 0 => h | k + 1 => H k, fun k => match k with | 0 => v | k + 1 => V k, rfl, rfl, hR, fun i q hq => ?_⟩
      cases i with
      | zero =>
        simp only [List.getElem?_cons_zero, Option.some.injEq] at hq
        subst hq
        simp only [e1, e2]
        exact ⟨⟨h1, h2⟩, hs, trivial, ha.1, ha.2⟩
      | succ i =>
        simp only [List.getElem?_cons_succ] at hq
        exact hi i q hq
    rcases h3 with ⟨hw, v, h', hok, ha, hp⟩ | ⟨hw, hp⟩
    · exact shift v h' hp ha (.inl ⟨hw, hok⟩)
    · exact shift undef h hp (Adds.refl h) (.inr ⟨hw, rfl, rfl⟩)

theorem runs_draw {id p : Nat} {Q : Exit → (Nat → Value) → Hp → Prop} {tm : Nat → Value} {h : Hp} (hm : P.follows .mixedOrders = true) (hd : drawOK ops p = true)
    (hq : PreD P n ops (ops.toList.take p) (fun tm h => RunOps P n ops (ops.toList.drop p) (Q .normal) tm h) tm h) : Runs P n (.region id ops true) Q tm h := by
  have hps := (drawOK_spec hd).1
  obtain ⟨T, H, V, e1, e2, hR, hi⟩ := pre_trace _ _ _ hq
  have hlen : (ops.toList.take p).length = p := by simp; omega
  have hget : ∀ i, i < p → (ops.toList.take p)[i]? = ops[i]? := fun i hi => by simp [hi]
  rw [hlen] at hR
  let t : Tr P n ops p :=
    { fits := hps, T := T, H := H, V := V
      dst := fun i o hip ho => (hi i o (by rw [hget i hip]; exact ho)).1
      step := fun i o hip ho => (hi i o (by rw [hget i hip]; exact ho)).2.1
      next := fun i o hip ho => (hi i o (by rw [hget i hip]; exact ho)).2.2.1
      keeps := fun i hip => (hi i ops[i] (by rw [hget i hip, Array.getElem?_eq_getElem (by omega)])).2.2.2.1
      own := fun i hip => (hi i ops[i] (by rw [hget i hip, Array.getElem?_eq_getElem (by omega)])).2.2.2.2 }
  obtain ⟨tm', h', hQ, hs⟩ := runOps_sound (ops.toList.drop p) p _ _ rfl hR
  refine ⟨.normal, tm', h', fun E base w a hr ht => wp_region_any hm ?_, hQ⟩
  have hheap : ∀ k, k ≤ p → HRel (E.cut (t.H k).next) base (t.H k) w.heap := by
    intro k hk
    have hkk := t.keep (Nat.zero_le k) hk
    have hlt : ∀ o, E.D o → o < (t.H 0).next := fun o ho => by have := hr.lt o ho; show o < (H 0).next; rw [e2]; exact this
    refine ⟨hr.le, fun o ho => ho.1, fun o ho => ?_, fun o o' ho ho' hne h1 h2 => ?_⟩
    · rw [hkk.2 o (hlt o ho.2)]
      show ORel (E.cut (t.H k).next) base w.heap o ((H 0).get o)
      rw [e2]
      exact ORel.mono (E := E) (E' := E.cut (t.H k).next) (fun r hr' => ⟨⟨Nat.lt_of_lt_of_le (hlt r hr') hkk.1, hr'⟩, rfl, rfl, rfl⟩) ho.2 rfl (hr.obj o ho.2)
    · rw [hkk.2 o (hlt o ho.2)] at h1
      rw [hkk.2 o' (hlt o' ho'.2)] at h2
      have g1 : (h.get o).owned = true := by have := h1; rwa [show t.H 0 = h from e2] at this
      have g2 : (h.get o').live = true := by have := h2; rwa [show t.H 0 = h from e2] at this
      exact hr.sep o o' ho.2 ho'.2 hne g1 g2
  have hinit : Inv t E base w (fun k => (Array.replicate ops.size false).getD k false) E { w with drawn := w.drawn + 1 } a := by
    have hfalse : ∀ k, (Array.replicate ops.size false).getD k false = false := fun k => by
      rw [Array.getD_eq_getD_getElem?, Array.getElem?_replicate]; split <;> rfl
    have hlt : ∀ o, E.D o → o < (t.H 0).next := fun o ho => by have := hr.lt o ho; show o < (H 0).next; rw [e2]; exact this
    have hto : ∀ s, VRel (E.cut (t.H 0).next) (t.T 0 s) (a.tmps.getD s undef) := fun s => by
      show VRel (E.cut (t.H 0).next) (T 0 s) _
      rw [e1]
      exact VRel.mono (E := E) (E' := E.cut (t.H 0).next) (fun r hr' => ⟨⟨hlt r hr', hr'⟩, rfl, rfl, rfl⟩) (ht.rel s)
    refine ⟨hheap, fun o _ => ⟨Iff.rfl, rfl, rfl, rfl⟩, rfl, rfl, ⟨rfl, Nat.le_succ _⟩, Nat.le_refl _, fun _ _ _ => rfl, fun o ho _ hown => .inl ⟨o, ho, ?_, rfl⟩, fun i o _ _ h1 _ ho => ?_, ht.size, ht.defers, fun s j o _ hS => ?_, fun s _ => hto s⟩
    · rw [(t.keep (Nat.zero_le p) (Nat.le_refl _)).2 o (hlt o ho)] at hown; exact hown
    · have h3 := hlt o ho
      have h4 : (t.H 0).next ≤ (t.H i).next := t.le (Nat.zero_le _) (by omega)
      omega
    · rw [hfalse] at hS; cases hS
  have hcnt : cntF (fun k => (Array.replicate ops.size false).getD k false) p = p := by
    have hfalse : ∀ k, (Array.replicate ops.size false).getD k false = false := fun k => by
      rw [Array.getD_eq_getD_getElem?, Array.getElem?_replicate]; split <;> rfl
    have : ∀ m, cntF (fun k => (Array.replicate ops.size false).getD k false) m = m := by
      intro m
      induction m with
      | zero => rfl
      | succ m ih =>
        show cntF _ m + (if (Array.replicate ops.size false).getD m false = true then 0 else 1) = m + 1
        rw [ih, hfalse]; simp
    exact this p
  have hfalse : ∀ k, (Array.replicate ops.size false).getD k false = false := fun k => by
    rw [Array.getD_eq_getD_getElem?, Array.getElem?_replicate]; split <;> rfl
  have := any_head (Q := fun ex a' w' => ex = .normal ∧ ∃ E', Step E h w E' h' w' ∧ HRel E' base h' w'.heap ∧ TRel E' n tm' a') t hd (E0 := E) (base := base) (w0 := w) ?_ p (Array.replicate ops.size false) E { w with drawn := w.drawn + 1 } a (by simp) hcnt (fun i j hi => by rw [hfalse] at hi; cases hi) (fun i _ => hfalse i) hinit
  · rwa [show p + (ops.size - p) = ops.size by omega] at this
  · intro E1 w1 a1 st hr1 ht1
    have st' : Step E h w E1 (t.H p) w1 := by rw [show t.H 0 = h from e2] at st; exact st
    have hl : (ops.toList.drop p).length = ops.size - p := by simp
    have h5 := hs E1 base w1 a1 (fun ex a' w' => ex = .normal ∧ ∃ E', Step E h w E' h' w' ∧ HRel E' base h' w'.heap ∧ TRel E' n tm' a') hr1 ht1 (fun E2 w2 a2 st2 hr2 ht2 => ⟨rfl, E2, st'.trans st2, hr2, ht2⟩)
    rwa [hl] at h5

variable {o : Oper} {rest : List Oper} {R : (Nat → Value) → Hp → Prop} {tm : Nat → Value} {h : Hp}

def thenP (P : Program) (n : Nat) (ops : Array Oper) (rest : List Oper) (R : (Nat → Value) → Hp → Prop) (tm : Nat → Value) (h : Hp) (d : Option Nat) : Option (Value × Hp) → Prop
  | some (v, h') => Adds h h' ∧ PreD P n ops rest R (updO tm d v) h'
  | none => False

theorem PreD_run (hd : dstOK n o.dst = true) (hg : guardOK n ops o = true) (hw : wantA ops tm o = some true) (hr : thenP P n ops rest R tm h o.dst (opD P o.op tm h)) : PreD P n ops (o :: rest) R tm h := by
  refine ⟨hd, hg, .inl ⟨hw, ?_⟩⟩
  cases ho : opD P o.op tm h with
  | none => rw [ho] at hr; cases hr
  | some q =>
    obtain ⟨v, h'⟩ := q
    rw [ho] at hr
    exact ⟨v, h', opD_sound ho, hr.1, hr.2⟩

theorem PreD_op (hd : dstOK n o.dst = true) (hg : o.guard = none) (hr : thenP P n ops rest R tm h o.dst (opD P o.op tm h)) : PreD P n ops (o :: rest) R tm h :=
  PreD_run hd (by simp [guardOK, hg]) (by simp [wantA, hg]) hr
theorem PreD_opT {j d : Nat} {want : Bool} (hd : dstOK n o.dst = true) (hg : o.guard = some (j, want)) (hj : (ops[j]?).bind (·.dst) = some d) (hl : decide (d < n) = true) (hb : tm d = .bool want)
    (hr : thenP P n ops rest R tm h o.dst (opD P o.op tm h)) : PreD P n ops (o :: rest) R tm h :=
  PreD_run hd (by simp only [guardOK, hg, hj]; exact hl) (by simp only [wantA, hg, hj, hb]; simp) hr
theorem PreD_opF {j d : Nat} {want : Bool} (hd : dstOK n o.dst = true) (hg : o.guard = some (j, want)) (hj : (ops[j]?).bind (·.dst) = some d) (hl : decide (d < n) = true) (hb : tm d = .bool !want)
    (hr : PreD P n ops rest R (updO tm o.dst undef) h) : PreD P n ops (o :: rest) R tm h := by
  refine ⟨hd, by simp only [guardOK, hg, hj]; exact hl, .inr ⟨?_, hr⟩⟩
  simp only [wantA, hg, hj, hb]; simp
theorem PreD_call' {f : FuncId} {xs : Array Operand} {ts : Array TypeId} {args : Array Value} {v : Value} {h' : Hp} (hop : o.op = .call ⟨.value (.func f), xs, ts⟩) (hd : dstOK n o.dst = true) (hg : o.guard = none)
    (h2 : xs.all okX = true) (h4 : fnOK P f = true) (ha : xs.map (ev tm) = args) (hc : CallOK P f args h v h') (hadd : Adds h h') (hr : PreD P n ops rest R (updO tm o.dst v) h') :
    PreD P n ops (o :: rest) R tm h :=
  ⟨hd, by simp [guardOK, hg], .inl ⟨by simp [wantA, hg], v, h', ok_call hop rfl rfl h2 h4 (by rw [ha]; simpa using hc), hadd, hr⟩⟩
theorem PreD_nil (hr : R tm h) : PreD P n ops [] R tm h := hr

/-- The rule for stepping: the operations behind the first p are as in any region. -/
theorem WD_draw {id : Nat} {Q : Exit → (Nat → Value) → Hp → Prop} (p : Nat) (hm : P.follows .mixedOrders = true) (hd : drawOK ops p = true)
    (hq : ∀ K : (Nat → Value) → Hp → Prop, (∀ tm h, RunD P n ops (ops.toList.drop p) (Q .normal) tm h → K tm h) → PreD P n ops (ops.toList.take p) K tm h) : WD P n (.region id ops true) Q tm h := by
  have key : ∀ (l : List Oper) (R R' : (Nat → Value) → Hp → Prop), (∀ tm h, R tm h → R' tm h) → ∀ tm h, PreD P n ops l R tm h → PreD P n ops l R' tm h := by
    intro l R R' hRR
    induction l with
    | nil => exact fun tm h hq => hRR _ _ hq
    | cons o rest ih =>
      rintro tm h ⟨h1, h2, h3⟩
      refine ⟨h1, h2, h3.imp ?_ ?_⟩
      · rintro ⟨hw, v, h', hok, ha, hp⟩; exact ⟨hw, v, h', hok, ha, ih _ _ hp⟩
      · rintro ⟨hw, hp⟩; exact ⟨hw, ih _ _ hp⟩
  exact runs_draw hm hd (key _ _ _ (fun tm h hq => RunD.run _ hq) _ _ (hq _ (fun _ _ h => h)))
end
end Go.Eng
end
