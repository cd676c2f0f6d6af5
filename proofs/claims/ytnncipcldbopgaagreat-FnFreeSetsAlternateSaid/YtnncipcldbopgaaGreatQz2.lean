/- Part 2 of the proof of freeSetsAlternate_holds: what it uses of the texts that lie in the notes, merged. -/
import Derived.Test.YtnncipcldbopgaaGreatQz1
import Derived.Below
import Derived.Test.YtnncipcldbopgaaGreatProg
import Derived.KernelRfl
import Derived.Deep.Matrix
import Derived.ChangeSlices
import Derived.RowKit
import Derived.WideShapes
import Derived.Test.YtnncipcldbopgaaGreatRows
import Derived.WalkKit
import Derived.ProofKit
import Derived.Lib.SmallJoins
section
namespace Go.Eng
def WD (P : Program) (n : Nat) : Code → (Exit → (Nat → Value) → Hp → Prop) → (Nat → Value) → Hp → Prop
  | .skip, Q, tm, h => Q .normal tm h
  | .region _ ops false, Q, tm, h => RunD P n ops ops.toList (Q .normal) tm h
  | .seq x y, Q, tm, h => WD P n x (fun e tm h => match e with
    | .normal => WD P n y Q tm h
    | e => Q e tm h) tm h
  | .cond c x y, Q, tm, h => okX c = true ∧ ∃ b, ev tm c = .bool b ∧ (b = true → WD P n x Q tm h) ∧ (b = false → WD P n y Q tm h)
  | .block id c, Q, tm, h => WD P n c (inBlk id Q) tm h
  | .exit i, Q, tm, h => Q (.exit i) tm h
  | .ret, Q, tm, h => Q .ret tm h
  | .label _, Q, tm, h => Q .normal tm h
  | c, Q, tm, h => Runs P n c Q tm h
theorem WD.runs {P : Program} {n : Nat} : ∀ (c : Code) {Q : Exit → (Nat → Value) → Hp → Prop} {tm : Nat → Value} {h : Hp}, WD P n c Q tm h → Runs P n c Q tm h
  | .skip, _, _, _, hw => runs_skip hw
  | .region _ _ false, _, _, _, hw => runs_region (RunD.run _ hw)
  | .region _ _ true, _, _, _, hw => hw
  | .seq x y, _, _, _, hw => runs_seq ((WD.runs x hw).mono fun e _ _ hq => by
      cases e with
      | normal => exact .inl ⟨rfl, WD.runs y hq⟩
      | _ => exact .inr ⟨by simp, hq⟩)
  | .cond _ x y, _, _, _, hw => by
    obtain ⟨h1, b, h2, h3, h4⟩ := hw
    cases b with
    | true => exact runs_cond h2 h1 (by simpa using WD.runs x (h3 rfl))
    | false => exact runs_cond h2 h1 (by simpa using WD.runs y (h4 rfl))
  | .block _ c, _, _, _, hw => runs_block (WD.runs c hw)
  | .loop _, _, _, _, hw => hw
  | .rangeFunc .., _, _, _, hw => hw
  | .exit _, _, _, _, hw => runs_exit hw
  | .scope _, _, _, _, hw => hw
  | .label _, _, _, _, hw => runs_label hw
  | .goto _, _, _, _, hw => hw
  | .ret, _, _, _, hw => runs_ret hw
  | .refuse _, _, _, _, hw => hw
theorem call_D {P : Program} {f : FuncId} {fn : Func} {args : Array Value} {h : Hp} {R : Value → Hp → Prop} (n : Nat) (body : Code) (rs : List ResultVar) (hf : P.funcs[f]? = some fn) (hb : fn.body = some body)
    (hrs : fn.results.toList = rs) (hn : args.size + (fn.ntmps - args.size) = n) (hw : WD P n body (Done P rs R) (fun t => args.getD t undef) h) : ∃ v h', CallOK P f args h v h' ∧ R v h' := by
  subst hrs
  exact call_of_runs n hf hb hn (WD.runs body hw)
def Keeps (h h' : Hp) : Prop := h.next ≤ h'.next ∧ ∀ o, o < h.next → h'.get o = h.get o
theorem Keeps.refl (h : Hp) : Keeps h h := ⟨Nat.le_refl _, fun _ _ => rfl⟩
theorem Keeps.trans {a b c : Hp} (h : Keeps a b) (k : Keeps b c) : Keeps a c := ⟨Nat.le_trans h.1 k.1, fun o ho => (k.2 o (Nat.lt_of_lt_of_le ho h.1)).trans (h.2 o ho)⟩
theorem Keeps.alloc (h : Hp) (x : AObj) : Keeps h (h.alloc x) := ⟨Nat.le_succ _, fun o ho => by simp [Hp.alloc, show o ≠ h.next by omega]⟩
theorem Keeps.put {h h' : Hp} (k : Keeps h h') {o : Nat} (ho : h.next ≤ o) (x : AObj) : Keeps h (h'.put o x) := ⟨k.1, fun i hi => by simp [Hp.put, show i ≠ o by omega, k.2 i hi]⟩
theorem VRel.back {E E' : Emb} (hD : ∀ o, E.D o → E'.blk o = E.blk o ∧ E'.off o = E.off o ∧ E'.slk o = E.slk o) {v a : Value} (h : VRel E v a) : ∀ {b : Value}, VRel E' v b → VRel E v b := by
  induction h with
  | bool b => intro b h; cases h; exact .bool _
  | int k n => intro b h; cases h; exact .int _ _
  | string s => intro b h; cases h; exact .string _
  | ptrNil => intro b h; cases h; exact .ptrNil
  | ptr o i hd =>
    intro b h
    obtain ⟨_, e⟩ := h.inv_ptr
    obtain ⟨e1, e2, _⟩ := hD o hd
    rw [e, e1, e2]; exact .ptr o i hd
  | sliceNil => intro b h; cases h; exact .sliceNil
  | slice o i n c a hd hn ha =>
    intro b h
    obtain ⟨e1, e2, e3⟩ := hD o hd
    cases h with
    | slice _ _ _ _ ad _ _ had => rw [e3]; exact .slice o i n c ad hd hn (by rwa [e1, e2, e3] at had)
  | slice0 a =>
    intro b h
    cases h with
    | slice0 ad => exact .slice0 _
  | mapNil => intro b h; cases h; exact .mapNil
  | map o hd => intro b h; cases h; rw [(hD o hd).1]; exact .map o hd
  | func fn f f' c c' hf hc _ _ h1 h2 =>
    intro b h
    obtain ⟨f2, c2, e, s1, s2, r1, r2⟩ := h.inv_func
    rw [e]
    exact .func fn f f2 c c2 s1 s2 (fun i hi => h1 i hi (r1 i hi)) (fun i hi => h2 i hi (r2 i hi))
  | nilFunc => intro b h; cases h; exact .nilFunc
  | nilIface => intro b h; cases h; exact .nilIface
  | iface t v v' _ ih => intro b h; cases h; exact .iface _ _ _ (ih (by assumption))
  | agg c c' hs h1 _ ih =>
    intro b h
    cases h with
    | agg _ c2 s2 _ r2 => exact .agg c c2 s2 h1 (fun i hi => ih i hi (r2 i hi))
  | tuple c c' hs _ ih =>
    intro b h
    cases h with
    | tuple _ c2 s2 r2 => exact .tuple c c2 s2 (fun i hi => ih i hi (r2 i hi))
theorem cut_rel {E E' : Emb} {base : Nat} {h h' : Hp} {w w' : World} (hr : HRel E base h w.heap) (st : Step E h w E' h' w') (hr' : HRel E' base h' w'.heap) (hk : Keeps h h') :
    Step E h w E h w' ∧ HRel E base h w'.heap := by
  have hmem : ∀ o, E.D o → E'.D o ∧ E'.blk o = E.blk o ∧ E'.off o = E.off o ∧ E'.slk o = E.slk o := st.dmono hr.lt
  have hD : ∀ o, E.D o → E'.blk o = E.blk o ∧ E'.off o = E.off o ∧ E'.slk o = E.slk o := fun o hd => (hmem o hd).2
  refine ⟨⟨Nat.le_refl _, fun _ _ => ⟨Iff.rfl, rfl, rfl, rfl⟩, st.os, st.tape, st.output, st.size, st.keep, fun o hd ho => .inl ⟨o, hd, ho, rfl⟩⟩, ⟨hr'.le, hr.lt, fun o hd => ?_, hr.sep⟩⟩
  have h1 := hr'.obj o (hmem o hd).1
  rw [hk.2 o (hr.lt o hd)] at h1
  have h0 := hr.obj o hd
  obtain ⟨hb, hf, hs⟩ := hD o hd
  cases hx : h.get o with
  | dead => trivial
  | cells c own ex es =>
    rw [hx] at h0 h1
    obtain ⟨C0, _, _, _, _, g3, _, _, _⟩ := h0
    obtain ⟨C, ty, fz, k1, k2, k3, k4, k5, k6⟩ := h1
    refine ⟨C, ty, fz, by rw [← hb]; exact k1, by rw [← hf, ← hs]; exact k2, fun i hi => ?_, k4, fun e => ?_, fun e => by rw [← hs]; exact k6 e⟩
    · have := k3 i hi
      rw [hf] at this
      exact (g3 i hi).back hD this
    · rw [← hb]; exact k5 e
  | map es =>
    rw [hx] at h0 h1
    obtain ⟨e0, _, _, _, _, g4⟩ := h0
    obtain ⟨ents, clock, k1, k2, k3, k4⟩ := h1
    exact ⟨ents, clock, by rw [← hb]; exact k1, by rw [← hb]; exact k2, k3, fun i hi => ⟨(g4 i hi).1.back hD (k4 i hi).1, (g4 i hi).2.back hD (k4 i hi).2⟩⟩
theorem CallOK.forget {P : Program} {f : FuncId} {args : Array Value} {h h' : Hp} {v : Value} (hc : CallOK P f args h v h') (hk : Keeps h h') (hv : plainV v = true) : CallOK P f args h v h := by
  intro E base w args' hr hs hrel
  refine (hc E base w args' hr hs hrel).mono fun e w' ⟨E', v', he, st, hr', hv'⟩ => ?_
  obtain ⟨st2, hr2⟩ := cut_rel hr st hr' hk
  have hvv : VRel E v v' := (VRel.ofV E hv).back (fun o hd => (st.dmono hr.lt o hd).2) hv'
  exact ⟨E, v', he, st2, hr2, hvv⟩
end Go.Eng
end
section
namespace Go.Eng
section
variable {P : Program} {n : Nat} {tm : Nat → Value} {h : Hp} {Q : Exit → (Nat → Value) → Hp → Prop}
def thenD (P : Program) (n : Nat) (ops : Array Oper) (rest : List Oper) (R : (Nat → Value) → Hp → Prop) (tm : Nat → Value) (d : Option Nat) : Option (Value × Hp) → Prop
  | some (v, h') => RunD P n ops rest R (updO tm d v) h'
  | none => False
variable {ops : Array Oper} {rest : List Oper} {R : (Nat → Value) → Hp → Prop} {o : Oper}
end
def argL : List Value → Nat → Value
  | [], _ => undef
  | v :: _, 0 => v
  | _ :: l, t + 1 => argL l t
theorem argL_eq : ∀ (l : List Value), (fun t => l.toArray.getD t undef) = argL l
  | [] => by funext t; simp [argL]
  | v :: l => by
    funext t
    cases t with
    | zero => simp [argL]
    | succ t => have := congrFun (argL_eq l) t; simpa [argL] using this
theorem call_L {P : Program} {f : FuncId} {fn : Func} {args : List Value} {h : Hp} {R : Value → Hp → Prop} (n : Nat) (body : Code) (rs : List ResultVar) (hf : P.funcs[f]? = some fn) (hb : fn.body = some body)
    (hrs : fn.results.toList = rs) (hn : args.length + (fn.ntmps - args.length) = n) (hw : WD P n body (Done P rs R) (argL args) h) : ∃ v h', CallOK P f args.toArray h v h' ∧ R v h' :=
  call_D n body rs hf hb hrs (by simpa using hn) (by rw [argL_eq]; exact hw)
theorem call_P {P : Program} {f : FuncId} {fn : Func} {args : List Value} {h : Hp} {v : Value} (n : Nat) (body : Code) (rs : List ResultVar) (hf : P.funcs[f]? = some fn) (hb : fn.body = some body)
    (hrs : fn.results.toList = rs) (hn : args.length + (fn.ntmps - args.length) = n) (hv : plainV v = true) (hw : WD P n body (Done P rs fun u h' => u = v ∧ Keeps h h') (argL args) h) : CallOK P f args.toArray h v h := by
  obtain ⟨u, h', hc, rfl, hk⟩ := call_L n body rs hf hb hrs hn hw
  exact hc.forget hk hv
theorem done_ret {P : Program} {rs : List ResultVar} {R : Value → Hp → Prop} {tm : Nat → Value} {h : Hp} {vs : List Value} (hv : resL P tm h rs = some vs) (hr : R (packL vs) h) : Done P rs R .ret tm h :=
  ⟨.inr rfl, vs, hv, hr⟩
theorem done_end {P : Program} {rs : List ResultVar} {R : Value → Hp → Prop} {tm : Nat → Value} {h : Hp} {vs : List Value} (hv : resL P tm h rs = some vs) (hr : R (packL vs) h) : Done P rs R .normal tm h :=
  ⟨.inl rfl, vs, hv, hr⟩
end Go.Eng
end
section
namespace Go.Eng
@[simp] theorem upd_at (tm : Nat → Value) (d : Nat) (v : Value) (t : Nat) : upd tm d v t = if t = d then v else tm t := rfl
attribute [simp] opD okX plainV plainS ev thenD updO argL binD binV isShift strBin unV convD loadD storeD indexAddrD indexD makeD sliceD bnd okO builtinD partV isC eqV nIf
attribute [simp] clearD
  resL resOne packL srcV srcW
theorem keep_self (h : Hp) : Keeps h h := Keeps.refl h
theorem get_alloc (h : Hp) (x : AObj) (o : Nat) : (h.alloc x).get o = if o = h.next then x else h.get o := rfl
theorem get_put (h : Hp) (i : Nat) (x : AObj) (o : Nat) : (h.put i x).get o = if o = i then x else h.get o := rfl
theorem next_alloc (h : Hp) (x : AObj) : (h.alloc x).next = h.next + 1 := rfl
theorem next_put (h : Hp) (i : Nat) (x : AObj) : (h.put i x).next = h.next := rfl
attribute [simp] get_alloc get_put next_alloc next_put keep_self
@[simp] theorem intBin_add (k : IntKind) (x y : Int) : intBin .add k x y = some (.int k (k.wrap (x + y))) := rfl
@[simp] theorem intBin_sub (k : IntKind) (x y : Int) : intBin .sub k x y = some (.int k (k.wrap (x - y))) := rfl
@[simp] theorem intBin_mul (k : IntKind) (x y : Int) : intBin .mul k x y = some (.int k (k.wrap (x * y))) := rfl
@[simp] theorem intBin_quo (k : IntKind) (x y : Int) : intBin .quo k x y = if y = 0 then none else some (.int k (k.wrap (x.tdiv y))) := rfl
@[simp] theorem intBin_rem (k : IntKind) (x y : Int) : intBin .rem k x y = if y = 0 then none else some (.int k (x.tmod y)) := rfl
@[simp] theorem intBin_eql (k : IntKind) (x y : Int) : intBin .eql k x y = some (.bool (x == y)) := rfl
@[simp] theorem intBin_neq (k : IntKind) (x y : Int) : intBin .neq k x y = some (.bool (x != y)) := rfl
@[simp] theorem intBin_lss (k : IntKind) (x y : Int) : intBin .lss k x y = some (.bool (decide (x < y))) := rfl
@[simp] theorem intBin_leq (k : IntKind) (x y : Int) : intBin .leq k x y = some (.bool (decide (x ≤ y))) := rfl
@[simp] theorem intBin_gtr (k : IntKind) (x y : Int) : intBin .gtr k x y = some (.bool (decide (x > y))) := rfl
@[simp] theorem intBin_geq (k : IntKind) (x y : Int) : intBin .geq k x y = some (.bool (decide (x ≥ y))) := rfl
@[simp] theorem lenD_slice (P : Program) (t : TypeId) (s : Option Addr) (n c : Nat) : lenD P t (.slice s n c) = (elT P t).map fun _ => .int .i64 n := by
  unfold lenD; cases elT P t <;> rfl
@[simp] theorem notTup_bool (b : Bool) : notTup (.bool b) = true := rfl
@[simp] theorem notTup_int (k : IntKind) (b : Int) : notTup (.int k b) = true := rfl
@[simp] theorem notTup_string (b : ByteArray) : notTup (.string b) = true := rfl
@[simp] theorem notTup_pointer (b : Option Addr) : notTup (.pointer b) = true := rfl
@[simp] theorem notTup_slice (b : Option Addr) (n c : Nat) : notTup (.slice b n c) = true := rfl
@[simp] theorem notTup_map (b : Option Nat) : notTup (.map b) = true := rfl
@[simp] theorem notTup_func (f : Fn) (a b : Array Value) : notTup (.func f a b) = true := rfl
@[simp] theorem notTup_nilFunc : notTup .nilFunc = true := rfl
@[simp] theorem notTup_nilIface : notTup .nilIface = true := rfl
@[simp] theorem notTup_iface (t : TypeId) (v : Value) : notTup (.iface t v) = true := rfl
@[simp] theorem notTup_agg (c : Array Value) : notTup (.agg c) = true := rfl
@[simp] theorem cells_bool (b : Bool) : (Value.bool b).cells = #[.bool b] := rfl
@[simp] theorem cells_int (k : IntKind) (b : Int) : (Value.int k b).cells = #[.int k b] := rfl
@[simp] theorem cells_string (b : ByteArray) : (Value.string b).cells = #[.string b] := rfl
@[simp] theorem cells_pointer (b : Option Addr) : (Value.pointer b).cells = #[.pointer b] := rfl
@[simp] theorem cells_slice (b : Option Addr) (n c : Nat) : (Value.slice b n c).cells = #[.slice b n c] := rfl
@[simp] theorem cells_map (b : Option Nat) : (Value.map b).cells = #[.map b] := rfl
@[simp] theorem cells_func (f : Fn) (a b : Array Value) : (Value.func f a b).cells = #[.func f a b] := rfl
@[simp] theorem cells_nilFunc : Value.nilFunc.cells = #[.nilFunc] := rfl
@[simp] theorem cells_nilIface : Value.nilIface.cells = #[.nilIface] := rfl
@[simp] theorem cells_iface (t : TypeId) (v : Value) : (Value.iface t v).cells = #[.iface t v] := rfl
@[simp] theorem cells_agg (c : Array Value) : (Value.agg c).cells = c := rfl
end Go.Eng
end
section
namespace Go.Eng
def Emb.cut (E : Emb) (n : Nat) : Emb := ⟨fun o => o < n ∧ E.D o, E.blk, E.off, E.slk⟩
theorem HRel.congr {E F : Emb} {base : Nat} {h : Hp} {H : Array Obj} (hd : ∀ o, E.D o ↔ F.D o) (he : ∀ o, E.D o → F.blk o = E.blk o ∧ F.off o = E.off o ∧ F.slk o = E.slk o) (hr : HRel E base h H) : HRel F base h H where
  le := hr.le
  lt o h := hr.lt o ((hd o).2 h)
  obj o h := (hr.obj o ((hd o).2 h)).mono (fun o h => ⟨(hd o).1 h, he o h⟩) ((hd o).2 h) rfl
  sep o o' h h' hne h1 h2 := by
    rw [(he o ((hd o).2 h)).1, (he o' ((hd o').2 h')).1]
    exact hr.sep o o' ((hd o).2 h) ((hd o').2 h') hne h1 h2
theorem sub_rel {F E' : Emb} {base : Nat} {h h' : Hp} {H H' : Array Obj} (hF : HRel F base h H) (hmem : ∀ o, F.D o → E'.D o ∧ E'.blk o = F.blk o ∧ E'.off o = F.off o ∧ E'.slk o = F.slk o)
    (hget : ∀ o, F.D o → h'.get o = h.get o) (hr' : HRel E' base h' H') : HRel F base h H' := by
  have hD : ∀ o, F.D o → E'.blk o = F.blk o ∧ E'.off o = F.off o ∧ E'.slk o = F.slk o := fun o hd => (hmem o hd).2
  refine ⟨hr'.le, hF.lt, fun o hd => ?_, hF.sep⟩
  have h1 := hr'.obj o (hmem o hd).1
  rw [hget o hd] at h1
  have h0 := hF.obj o hd
  obtain ⟨hb, hf, hs⟩ := hD o hd
  cases hx : h.get o with
  | dead => trivial
  | cells c own ex es =>
    rw [hx] at h0 h1
    obtain ⟨C0, _, _, _, _, g3, _, _, _⟩ := h0
    obtain ⟨C, ty, fz, k1, k2, k3, k4, k5, k6⟩ := h1
    refine ⟨C, ty, fz, by rw [← hb]; exact k1, by rw [← hf, ← hs]; exact k2, fun i hi => ?_, k4, fun e => ?_, fun e => by rw [← hs]; exact k6 e⟩
    · have := k3 i hi
      rw [hf] at this
      exact (g3 i hi).back hD this
    · rw [← hb]; exact k5 e
  | map es =>
    rw [hx] at h0 h1
    obtain ⟨e0, _, _, _, _, g4⟩ := h0
    obtain ⟨ents, clock, k1, k2, k3, k4⟩ := h1
    exact ⟨ents, clock, by rw [← hb]; exact k1, by rw [← hb]; exact k2, k3, fun i hi => ⟨(g4 i hi).1.back hD (k4 i hi).1, (g4 i hi).2.back hD (k4 i hi).2⟩⟩
def NewOwn (h h' : Hp) : Prop := ∀ o, h.next ≤ o → o < h'.next → (h'.get o).live = true → (h'.get o).owned = true
structure Tr (P : Program) (n : Nat) (ops : Array Oper) (p : Nat) where
  fits : p ≤ ops.size
  T : Nat → Nat → Value
  H : Nat → Hp
  V : Nat → Value
  dst : ∀ i o, i < p → ops[i]? = some o → dstOK n o.dst = true ∧ guardOK n ops o = true
  step : ∀ i o, i < p → ops[i]? = some o → (wantA ops (T i) o = some true ∧ OpOK P o (T i) (H i) (V i) (H (i + 1))) ∨ (wantA ops (T i) o = some false ∧ V i = undef ∧ H (i + 1) = H i)
  next : ∀ i o, i < p → ops[i]? = some o → T (i + 1) = updO (T i) o.dst (V i)
  keeps : ∀ i, i < p → Keeps (H i) (H (i + 1))
  own : ∀ i, i < p → NewOwn (H i) (H (i + 1))
section
variable {P : Program} {n : Nat} {ops : Array Oper} {p : Nat}
theorem Tr.keep (t : Tr P n ops p) {i : Nat} : ∀ {k : Nat}, i ≤ k → k ≤ p → Keeps (t.H i) (t.H k)
  | 0, h, _ => by have : i = 0 := by omega
                  subst this; exact Keeps.refl _
  | k + 1, h, hk => by
    by_cases e : i = k + 1
    · subst e; exact Keeps.refl _
    · exact (Tr.keep t (by omega : i ≤ k) (by omega)).trans (t.keeps k (by omega))
theorem Tr.le (t : Tr P n ops p) {i k : Nat} (h : i ≤ k) (hk : k ≤ p) : (t.H i).next ≤ (t.H k).next := (t.keep h hk).1
structure Inv (t : Tr P n ops p) (E0 : Emb) (base : Nat) (w0 : World) (S : Nat → Bool) (E : Emb) (w : World) (a : Act) : Prop where
  heap : ∀ k, k ≤ p → HRel (E.cut (t.H k).next) base (t.H k) w.heap
  ext : ∀ o, o < (t.H 0).next → (E.D o ↔ E0.D o) ∧ E.blk o = E0.blk o ∧ E.off o = E0.off o ∧ E.slk o = E0.slk o
  os : w.os = w0.os
  tape : w.tape = w0.tape
  output : Qui w0 w
  size : w0.heap.size ≤ w.heap.size
  keep : ∀ b, b < w0.heap.size → (∀ o, E0.D o → ((t.H 0).get o).owned = true → E0.blk o ≠ b) → w.heap[b]? = w0.heap[b]?
  own : ∀ o, E.D o → o < (t.H p).next → ((t.H p).get o).owned = true → (∃ o0, E0.D o0 ∧ ((t.H 0).get o0).owned = true ∧ E0.blk o0 = E.blk o) ∨ w0.heap.size ≤ E.blk o
  new : ∀ i o, i < p → S i = false → (t.H i).next ≤ o → o < (t.H (i + 1)).next → ¬ E.D o
  tmps : a.tmps.size = n
  defers : a.defers = []
  /-- a slot holds what the last of its executed writers gave -/
  last : ∀ s j o, j < p → S j = true → ops[j]? = some o → o.dst = some s → (∀ k o', j < k → k < p → S k = true → ops[k]? = some o' → o'.dst ≠ some s) → VRel (E.cut (t.H (j + 1)).next) (t.V j) (a.tmps.getD s undef)
  none : ∀ s, (∀ k o', k < p → S k = true → ops[k]? = some o' → o'.dst ≠ some s) → VRel (E.cut (t.H 0).next) (t.T 0 s) (a.tmps.getD s undef)
theorem cut_mono {E : Emb} {a b : Nat} (h : a ≤ b) {v v' : Value} (hv : VRel (E.cut a) v v') : VRel (E.cut b) v v' :=
  VRel.mono (E := E.cut a) (E' := E.cut b) (fun _ ho => ⟨⟨by have := ho.1; omega, ho.2⟩, rfl, rfl, rfl⟩) hv
theorem Tr.slot (t : Tr P n ops p) (s : Nat) : ∀ i, i ≤ p → (∃ j o, j < i ∧ ops[j]? = some o ∧ o.dst = some s ∧ t.T i s = t.V j ∧ ∀ k o', j < k → k < i → ops[k]? = some o' → o'.dst ≠ some s) ∨
    (t.T i s = t.T 0 s ∧ ∀ k o', k < i → ops[k]? = some o' → o'.dst ≠ some s)
  | 0, _ => .inr ⟨rfl, fun k o' h => absurd h (by omega)⟩
  | i + 1, hi => by
    cases ho : ops[i]? with
    | none => rw [Array.getElem?_eq_getElem (by have := t.fits; omega)] at ho; cases ho
    | some o =>
      have hn := t.next i o (by omega) ho
      by_cases hd : o.dst = some s
      · left
        refine ⟨i, o, by omega, ho, hd, by rw [hn, hd]; simp [updO, upd], fun k o' h1 h2 => absurd h1 (by omega)⟩
      · have hts : t.T (i + 1) s = t.T i s := by
          rw [hn]
          cases hdst : o.dst with
          | none => rfl
          | some d =>
            have : s ≠ d := fun e => hd (by rw [hdst, e])
            simp [updO, upd, this]
        rcases Tr.slot t s i (by omega) with ⟨j, oj, h1, h2, h3, h4, h5⟩ | ⟨h1, h2⟩
        · left
          refine ⟨j, oj, by omega, h2, h3, by rw [hts, h4], fun k o' hk1 hk2 hk => ?_⟩
          by_cases e : k = i
          · subst e; rw [ho] at hk; cases hk; exact hd
          · exact h5 k o' hk1 (by omega) hk
        · right
          refine ⟨by rw [hts, h1], fun k o' hk1 hk => ?_⟩
          by_cases e : k = i
          · subst e; rw [ho] at hk; cases hk; exact hd
          · exact h2 k o' (by omega) hk
def Emb.mix (E' E : Emb) (n : Nat) : Emb := ⟨fun o => if o < n then E'.D o else E.D o, fun o => if o < n then E'.blk o else E.blk o, fun o => if o < n then E'.off o else E.off o, fun o => if o < n then E'.slk o else E.slk o⟩
theorem Inv.next {t : Tr P n ops p} {E0 E E' : Emb} {base : Nat} {w0 w w' : World} {S : Nat → Bool} {a : Act} {v' : Value} (inv : Inv t E0 base w0 S E w a) {i : Nat} {o : Oper} (hi : i < p) (ho : ops[i]? = some o) (hS : S i = false)
    (hdst : dstOK n o.dst = true) (hB : ∀ j oj s, j < p → i < j → ops[j]? = some oj → o.dst = some s → oj.dst = some s → S j = false)
    (st : Step (E.cut (t.H i).next) (t.H i) w E' (t.H (i + 1)) w') (hr : HRel E' base (t.H (i + 1)) w'.heap) (hv : VRel E' (t.V i) v') :
    Inv t E0 base w0 (fun k => if k = i then true else S k) (E'.mix E (t.H (i + 1)).next) w' (a.put o.dst v') := by
  have hle : (t.H i).next ≤ (t.H (i + 1)).next := t.le (by omega) (by omega)
  have hle0 : (t.H 0).next ≤ (t.H i).next := t.le (by omega) (by omega)
  have hlep : (t.H (i + 1)).next ≤ (t.H p).next := t.le (by omega) (by omega)
  -- old objects are in the new embedding, as they were
  have hsub : ∀ q, E.D q → (E'.mix E (t.H (i + 1)).next).D q ∧ (E'.mix E (t.H (i + 1)).next).blk q = E.blk q ∧ (E'.mix E (t.H (i + 1)).next).off q = E.off q ∧ (E'.mix E (t.H (i + 1)).next).slk q = E.slk q := by
    intro q hq
    by_cases h1 : q < (t.H (i + 1)).next
    · have h2 : q < (t.H i).next := by
        rcases Nat.lt_or_ge q (t.H i).next with h | h
        · exact h
        · exact absurd hq (inv.new i q hi hS h h1)
      obtain ⟨e1, e2, e3, e4⟩ := st.ext q h2
      simp only [Emb.mix, h1, if_true]
      exact ⟨e1.2 ⟨h2, hq⟩, e2, e3, e4⟩
    · simp [Emb.mix, h1, hq]
  -- and those of the operation's own embedding
  have hsub' : ∀ q, E'.D q → (E'.mix E (t.H (i + 1)).next).D q ∧ (E'.mix E (t.H (i + 1)).next).blk q = E'.blk q ∧ (E'.mix E (t.H (i + 1)).next).off q = E'.off q ∧ (E'.mix E (t.H (i + 1)).next).slk q = E'.slk q := by
    intro q hq
    have h1 := hr.lt q hq
    simp [Emb.mix, h1, hq]
  have hE' : ∀ q, q < (t.H i).next → E.D q → E'.D q ∧ E'.blk q = E.blk q ∧ E'.off q = E.off q ∧ E'.slk q = E.slk q := by
    intro q h2 hq
    obtain ⟨e1, e2, e3, e4⟩ := st.ext q h2
    exact ⟨e1.2 ⟨h2, hq⟩, e2, e3, e4⟩
  have hback : ∀ q, q < (t.H i).next → E'.D q → E.D q := fun q h2 hq => ((st.ext q h2).1.1 hq).2
  -- a new object's block was not there
  have hfresh : ∀ q, (t.H i).next ≤ q → E'.D q → ((t.H (i + 1)).get q).live = true → w.heap.size ≤ E'.blk q := by
    intro q h1 hq hlv
    have hown := t.own i hi q h1 (hr.lt q hq) hlv
    rcases st.own q hq hown with ⟨o0, h0, h00, e0⟩ | h
    · have h0lt : o0 < (t.H i).next := h0.1
      have hn0 : E'.D o0 ∧ E'.blk o0 = E.blk o0 := ⟨(hE' o0 h0lt h0.2).1, (hE' o0 h0lt h0.2).2.1⟩
      have hg : (t.H (i + 1)).get o0 = (t.H i).get o0 := (t.keeps i hi).2 o0 h0lt
      have := hr.sep q o0 hq hn0.1 (by omega) hown (by rw [hg]; exact AObj.live_of_owned h00)
      exact absurd (hn0.2.trans e0).symm this
    · exact h
  have heap : ∀ k, k ≤ p → HRel ((E'.mix E (t.H (i + 1)).next).cut (t.H k).next) base (t.H k) w'.heap := by
    intro k hk
    by_cases hki : k ≤ i
    · have hlk := t.le hki (by omega)
      have h1 := sub_rel (F := E.cut (t.H k).next) (E' := E') (inv.heap k hk) (fun q (hq : q < (t.H k).next ∧ E.D q) => hE' q (by have := hq.1; omega) hq.2)
        (fun q (hq : q < (t.H k).next ∧ E.D q) => (t.keep (show k ≤ i + 1 by omega) (by omega)).2 q hq.1) hr
      refine HRel.congr (E := E.cut (t.H k).next) (F := (E'.mix E (t.H (i + 1)).next).cut (t.H k).next) (fun q => ?_) (fun q (hq : q < (t.H k).next ∧ E.D q) => (hsub q hq.2).2) h1
      constructor
      · exact fun hq => ⟨hq.1, (hsub q hq.2).1⟩
      · rintro ⟨h2, h3⟩
        have h4 : q < (t.H (i + 1)).next := by omega
        simp only [Emb.mix, h4, if_true] at h3
        exact ⟨h2, hback q (by omega) h3⟩
    · have hlk := t.le (show i + 1 ≤ k by omega) hk
      have old := inv.heap k hk
      have hkp := t.keep (show i + 1 ≤ k by omega) hk
      have hkp0 := t.keep (show i ≤ k by omega) hk
      -- members
      have mem : ∀ q, ((E'.mix E (t.H (i + 1)).next).cut (t.H k).next).D q → (q < (t.H (i + 1)).next ∧ E'.D q) ∨ ((t.H (i + 1)).next ≤ q ∧ q < (t.H k).next ∧ E.D q) := by
        rintro q ⟨h1, h2⟩
        by_cases h3 : q < (t.H (i + 1)).next
        · simp only [Emb.mix, h3, if_true] at h2; exact .inl ⟨h3, h2⟩
        · simp only [Emb.mix, h3, if_false] at h2; exact .inr ⟨by omega, h1, h2⟩
      have blkL : ∀ q, q < (t.H (i + 1)).next → ((E'.mix E (t.H (i + 1)).next).cut (t.H k).next).blk q = E'.blk q := fun q h => by simp [Emb.cut, Emb.mix, h]
      have blkR : ∀ q, (t.H (i + 1)).next ≤ q → ((E'.mix E (t.H (i + 1)).next).cut (t.H k).next).blk q = E.blk q := fun q h => by simp [Emb.cut, Emb.mix, Nat.not_lt.2 h]
      -- a left one and a right one, one of them owned, lie apart
      have apart : ∀ q r, q < (t.H (i + 1)).next → E'.D q → (t.H (i + 1)).next ≤ r → r < (t.H k).next → E.D r → ((t.H k).get q).live = true → ((t.H k).get r).live = true → (((t.H k).get q).owned = true ∨ ((t.H k).get r).owned = true) → E'.blk q ≠ E.blk r := by
        intro q r h1 h2 h3 h4 h5 h6 h7 h8
        by_cases hq : q < (t.H i).next
        · have hq' := hback q hq h2
          rw [(hE' q hq hq').2.1]
          rcases h8 with h8 | h8
          · exact old.sep q r ⟨by omega, hq'⟩ ⟨h4, h5⟩ (by omega) h8 h7
          · exact fun e => old.sep r q ⟨h4, h5⟩ ⟨by omega, hq'⟩ (by omega) h8 h6 e.symm
        · have := hfresh q (by omega) h2 (by rw [← hkp.2 q h1]; exact h6)
          have hb := (old.obj r ⟨h4, h5⟩).block h7
          exact fun e => by simp only [Emb.cut] at hb; omega
      refine ⟨hr.le, fun q hq => hq.1, fun q hq => ?_, fun q r hq hr' hne h1 h2 => ?_⟩
      · rcases mem q hq with ⟨h1, h2⟩ | ⟨h1, h2, h3⟩
        · have hg : (t.H k).get q = (t.H (i + 1)).get q := hkp.2 q h1
          rw [hg]
          refine ORel.mono (E := E') (E' := (E'.mix E (t.H (i + 1)).next).cut (t.H k).next) (fun r hr'' => ?_) h2 rfl (hr.obj q h2)
          have := hsub' r hr''
          exact ⟨⟨by have := hr.lt r hr''; omega, this.1⟩, this.2⟩
        · have h0 := old.obj q ⟨h2, h3⟩
          cases hx : (t.H k).get q with
          | dead => trivial
          | _ =>
            have hl : ((t.H k).get q).live = true := by rw [hx]; rfl
            have hb := h0.block hl
            rw [hx] at h0
            refine ORel.mono (E := E.cut (t.H k).next) (E' := (E'.mix E (t.H (i + 1)).next).cut (t.H k).next) (fun r (hr'' : r < (t.H k).next ∧ E.D r) => ?_) ⟨h2, h3⟩ ?_ h0
            · have := hsub r hr''.2
              exact ⟨⟨hr''.1, this.1⟩, this.2⟩
            · refine st.keep _ hb ?_
              intro o0 h4 h5
              have h4lt : o0 < (t.H i).next := h4.1
              have hg0 : (t.H k).get o0 = (t.H i).get o0 := hkp0.2 o0 h4lt
              exact old.sep o0 q ⟨by omega, h4.2⟩ ⟨h2, h3⟩ (by omega) (by rw [hg0]; exact h5) hl
      · rcases mem q hq with ⟨a1, a2⟩ | ⟨a1, a2, a3⟩ <;> rcases mem r hr' with ⟨b1, b2⟩ | ⟨b1, b2, b3⟩
        · rw [blkL q a1, blkL r b1]
          refine hr.sep q r a2 b2 hne ?_ ?_
          · rw [← hkp.2 q a1]; exact h1
          · rw [← hkp.2 r b1]; exact h2
        · rw [blkL q a1, blkR r b1]
          exact apart q r a1 a2 b1 b2 b3 (AObj.live_of_owned h1) h2 (.inl h1)
        · rw [blkR q a1, blkL r b1]
          exact fun e => apart r q b1 b2 a1 a2 a3 h2 (AObj.live_of_owned h1) (.inr h1) e.symm
        · rw [blkR q a1, blkR r b1]
          exact old.sep q r ⟨a2, a3⟩ ⟨b2, b3⟩ hne h1 h2
  refine ⟨heap, fun q hq => ?_, st.os.trans inv.os, st.tape.trans inv.tape, inv.output.trans st.output, Nat.le_trans inv.size st.size, fun b hb hn => ?_, fun q hq hqp hown => ?_, fun k q hk hkS h1 h2 hq => ?_, ?_, ?_, ?_, ?_⟩
  · have h1 : q < (t.H (i + 1)).next := by omega
    obtain ⟨e1, e2, e3, e4⟩ := st.ext q (by omega)
    obtain ⟨f1, f2, f3, f4⟩ := inv.ext q hq
    simp only [Emb.mix, h1, if_true]
    refine ⟨⟨fun h => f1.1 (e1.1 h).2, fun h => e1.2 ⟨by omega, f1.2 h⟩⟩, e2.trans f2, e3.trans f3, e4.trans f4⟩
  · rw [st.keep b (Nat.lt_of_lt_of_le hb inv.size) ?_]
    · exact inv.keep b hb hn
    · intro o1 h1 h2 e
      have hg1 : (t.H p).get o1 = (t.H i).get o1 := (t.keep (show i ≤ p by omega) (Nat.le_refl _)).2 o1 h1.1
      have h1p : o1 < (t.H p).next := by have := h1.1; omega
      rcases inv.own o1 h1.2 h1p (by rw [hg1]; exact h2) with ⟨o0, h0, h00, e0⟩ | h
      · exact hn o0 h0 h00 (e0.trans e)
      · have e' : E.blk o1 = b := e
        omega
  · by_cases h1 : q < (t.H (i + 1)).next
    · simp only [Emb.mix, h1, if_true] at hq ⊢
      by_cases h2 : q < (t.H i).next
      · have hq' := hback q h2 hq
        rw [(hE' q h2 hq').2.1]
        exact inv.own q hq' hqp hown
      · right
        refine Nat.le_trans inv.size (hfresh q (by omega) hq ?_)
        rw [← (t.keep (show i + 1 ≤ p by omega) (Nat.le_refl _)).2 q h1]; exact AObj.live_of_owned hown
    · simp only [Emb.mix, h1, if_false] at hq ⊢
      exact inv.own q hq hqp hown
  · by_cases hki : k = i
    · simp [hki] at hkS
    · simp only [hki, if_false] at hkS
      have := inv.new k q hk hkS h1 h2
      by_cases h3 : q < (t.H (i + 1)).next
      · simp only [Emb.mix, h3, if_true] at hq
        rcases Nat.lt_or_gt_of_ne hki with h4 | h4
        · have := t.le (show k + 1 ≤ i by omega) (by omega)
          exact inv.new k q hk hkS h1 h2 (hback q (by omega) hq)
        · have := t.le (show i + 1 ≤ k by omega) (by omega)
          omega
      · simp only [Emb.mix, h3, if_false] at hq
        exact this hq
  · cases hd : o.dst <;> simp [Act.put, inv.tmps]
  · cases hd : o.dst <;> simp [Act.put, inv.defers]
  · intro s j oj hj hSj hoj hdj hlast
    by_cases hji : j = i
    · subst hji
      rw [ho] at hoj; cases hoj
      have hs : s < n := by rw [hdj] at hdst; simpa [dstOK] using hdst
      have : (a.put o.dst v').tmps.getD s undef = v' := by rw [hdj]; simp [Act.put, inv.tmps, hs]
      rw [this]
      exact VRel.mono (E := E') (E' := (E'.mix E (t.H (j + 1)).next).cut (t.H (j + 1)).next) (fun q hq => ⟨⟨hr.lt q hq, (hsub' q hq).1⟩, (hsub' q hq).2⟩) hv
    · have hSj' : S j = true := by simpa [hji] using hSj
      have hne : o.dst ≠ some s := by
        intro e
        rcases Nat.lt_or_gt_of_ne hji with h4 | h4
        · exact hlast i o h4 hi (by simp) ho e
        · have := hB j oj s hj h4 hoj e hdj
          rw [this] at hSj'; cases hSj'
      have : (a.put o.dst v').tmps.getD s undef = a.tmps.getD s undef := by
        cases hd : o.dst with
        | none => rfl
        | some d =>
          have hds : d ≠ s := fun e => hne (by rw [hd, e])
          simp only [Act.put]
          rw [Array.getD_eq_getD_getElem?, Array.getD_eq_getD_getElem?, Array.getElem?_setIfInBounds_ne hds]
      rw [this]
      exact VRel.mono (E := E.cut (t.H (j + 1)).next) (E' := (E'.mix E (t.H (i + 1)).next).cut (t.H (j + 1)).next) (fun q hq => ⟨⟨hq.1, (hsub q hq.2).1⟩, (hsub q hq.2).2⟩) (inv.last s j oj hj hSj' hoj hdj (fun k ok h1 h2 h3 h4 => hlast k ok h1 h2 (by simp only [h3]; split <;> rfl) h4))
  · intro s hnone
    have hne : o.dst ≠ some s := hnone i o hi (by simp) ho
    have : (a.put o.dst v').tmps.getD s undef = a.tmps.getD s undef := by
      cases hd : o.dst with
      | none => rfl
      | some d =>
        have hds : d ≠ s := fun e => hne (by rw [hd, e])
        simp only [Act.put]
        rw [Array.getD_eq_getD_getElem?, Array.getD_eq_getD_getElem?, Array.getElem?_setIfInBounds_ne hds]
    rw [this]
    exact VRel.mono (E := E.cut (t.H 0).next) (E' := (E'.mix E (t.H (i + 1)).next).cut (t.H 0).next) (fun q hq => ⟨⟨hq.1, (hsub q hq.2).1⟩, (hsub q hq.2).2⟩) (inv.none s (fun k ok h2 h3 h4 => hnone k ok h2 (by simp only [h3]; split <;> rfl) h4))
end
end Go.Eng
end
section
namespace Go.Eng
def dirE (ops : Array Oper) (i j : Nat) : Bool := match ops[i]? with
  | some o => o.after.any fun e => Region.binds .any e && e.on == j
  | none => false
def tclE (ops : Array Oper) : Nat → Nat → Nat → Bool
  | 0, i, j => dirE ops i j
  | m + 1, i, j => dirE ops i j || (List.range i).any fun k => dirE ops i k && tclE ops m k j
def drawOK (ops : Array Oper) (p : Nat) : Bool :=
  decide (p ≤ ops.size) &&
  (List.range ops.size).all (fun i => match ops[i]? with
    | some o => o.after.all (fun e => !Region.binds .any e || decide (e.on < i)) &&
      (if i < p then
        (List.range p).all (fun j => i == j || match ops[j]? with
          | some oj => (match oj.dst with
            | some s => (!(o.looksAt ops).contains s || (if j < i then dirE ops i j else dirE ops j i)) && (o.dst != some s || !decide (i < j) || dirE ops j i)
            | none => true)
          | none => false)
      else (List.range i).all fun j => tclE ops 8 i j)
    | none => false)
def cntF (f : Nat → Bool) : Nat → Nat
  | 0 => 0
  | m + 1 => cntF f m + if f m then 0 else 1
theorem cntF_set {f g : Nat → Bool} {i : Nat} : ∀ {m : Nat}, i < m → f i = false → (∀ k, g k = if k = i then true else f k) → cntF f m = cntF g m + 1
  | 0, h, _, _ => absurd h (by omega)
  | m + 1, h, hf, hg => by
    simp only [cntF]
    by_cases e : i = m
    · subst e
      have hsame : ∀ k, k ≤ i → cntF g k = cntF f k := by
        intro k
        induction k with
        | zero => intro _; rfl
        | succ k ih =>
          intro hk
          have hgk : g k = f k := by rw [hg k]; exact if_neg (by omega)
          simp only [cntF, ih (by omega), hgk]
      rw [hsame i (Nat.le_refl _), hg i, hf]
      simp
    · have hgm : g m = f m := by rw [hg m]; exact if_neg (fun q => e q.symm)
      rw [cntF_set (m := m) (by omega) hf hg, hgm]
      omega
theorem cntF_zero {f : Nat → Bool} : ∀ {m : Nat}, cntF f m = 0 → ∀ i, i < m → f i = true
  | 0, _, i, h => absurd h (by omega)
  | m + 1, hc, i, h => by
    simp only [cntF] at hc
    by_cases e : i = m
    · subst e
      cases hf : f i with
      | true => rfl
      | false => simp [hf] at hc
    · exact cntF_zero (m := m) (by omega) i (by omega)
theorem cntF_pos {f : Nat → Bool} : ∀ {m : Nat}, 0 < cntF f m → ∃ i, i < m ∧ f i = false ∧ ∀ k, k < i → f k = true
  | 0, h => absurd h (by simp [cntF])
  | m + 1, h => by
    by_cases hc : 0 < cntF f m
    · obtain ⟨i, h1, h2, h3⟩ := cntF_pos hc
      exact ⟨i, by omega, h2, h3⟩
    · refine ⟨m, by omega, ?_, cntF_zero (by omega)⟩
      simp only [cntF] at h
      cases hf : f m with
      | false => rfl
      | true => simp [hf] at h; omega
section
variable {P : Program} {n : Nat} {ops : Array Oper} {p : Nat}
theorem drawOK_spec (hd : drawOK ops p = true) : p ≤ ops.size ∧ (∀ i o, ops[i]? = some o → ∀ e ∈ o.after.toList, Region.binds .any e = true → e.on < i) ∧
    (∀ i j o oj s, i < p → j < p → i ≠ j → ops[i]? = some o → ops[j]? = some oj → oj.dst = some s → ((o.looksAt ops).contains s = true → if j < i then dirE ops i j = true else dirE ops j i = true) ∧ (o.dst = some s → i < j → dirE ops j i = true)) ∧
    (∀ i, p ≤ i → i < ops.size → ∀ j, j < i → tclE ops 8 i j = true) := by
  unfold drawOK at hd
  simp only [Bool.and_eq_true, decide_eq_true_eq, List.all_eq_true, List.mem_range] at hd
  obtain ⟨h1, h2⟩ := hd
  refine ⟨h1, fun i o ho e he hb => ?_, fun i j o oj s hi hj hne ho hoj hs => ?_, fun i hp hi j hj => ?_⟩
  · have hi : i < ops.size := (Array.getElem?_eq_some_iff.1 ho).1
    have := h2 i hi
    simp only [ho, Bool.and_eq_true, Array.all_eq_true'] at this
    have h3 := this.1 e (Array.mem_toList_iff.1 he)
    simp only [hb, Bool.not_true, Bool.false_or, decide_eq_true_eq] at h3
    exact h3
  · have := h2 i (by omega)
    simp only [ho, Bool.and_eq_true, if_pos hi, List.all_eq_true, List.mem_range] at this
    have h3 := this.2 j hj
    have hij : (i == j) = false := by simpa using hne
    simp only [hij, Bool.false_or, hoj, hs, Bool.and_eq_true, Bool.or_eq_true, Bool.not_eq_true'] at h3
    refine ⟨fun hl => ?_, fun hds hlt => ?_⟩
    · rcases h3.1 with h4 | h4
      · rw [hl] at h4; cases h4
      · split at h4 <;> rename_i hq <;> simp [hq, h4]
    · rcases h3.2 with (h4 | h4) | h4
      · simp [hds] at h4
      · simp [hlt] at h4
      · exact h4
  · have := h2 i hi
    rw [Array.getElem?_eq_getElem hi] at this
    simp only [Bool.and_eq_true, if_neg (Nat.not_lt.2 hp), List.all_eq_true, List.mem_range] at this
    exact this.2 j hj
def Closed (ops : Array Oper) (l : Array Bool) : Prop := ∀ i j, l.getD i false = true → dirE ops i j = true → l.getD j false = true
theorem tcl_done {l : Array Bool} (hc : Closed ops l) : ∀ (m i j : Nat), tclE ops m i j = true → (∀ j, dirE ops i j = true → l.getD j false = true) → l.getD j false = true
  | 0, i, j, h, hd => hd j h
  | m + 1, i, j, h, hd => by
    simp only [tclE, Bool.or_eq_true, List.any_eq_true, List.mem_range, Bool.and_eq_true] at h
    rcases h with h | ⟨k, _, h1, h2⟩
    · exact hd j h
    · exact tcl_done hc m k j h2 fun q hq => hc k q (hd k h1) hq
theorem ready_spec {l : Array Bool} (hs : l.size = ops.size) {i : Nat} (hi : i ∈ Region.ready .any ops l) : i < ops.size ∧ l.getD i false = false ∧ ∀ j, dirE ops i j = true → l.getD j false = true := by
  unfold Region.ready at hi
  simp only [List.mem_filter, List.mem_range, Bool.and_eq_true, Bool.not_eq_true'] at hi
  obtain ⟨h1, h2, h3⟩ := hi
  refine ⟨h1, ?_, fun j hj => ?_⟩
  · rw [Array.getD_eq_getD_getElem?, Array.getElem?_eq_getElem (by omega)] at h2 ⊢
    exact h2
  · rw [Array.getElem?_eq_getElem h1] at h3
    unfold dirE at hj
    rw [Array.getElem?_eq_getElem h1] at hj
    simp only [Option.map_some, Option.getD_some, Array.all_eq_true'] at h3
    simp only [Array.any_eq_true'] at hj
    obtain ⟨e, he, hb⟩ := hj
    simp only [Bool.and_eq_true, beq_iff_eq] at hb
    have := h3 e he
    rw [hb.1, hb.2] at this
    simpa using this
theorem ready_mk (hok : ∀ i o, ops[i]? = some o → ∀ e ∈ o.after.toList, Region.binds .any e = true → e.on < i) {l : Array Bool} (hs : l.size = ops.size) {i : Nat} (h1 : i < ops.size) (h2 : l.getD i false = false) (h3 : ∀ j, j < i → l.getD j false = true) :
    i ∈ Region.ready .any ops l := by
  unfold Region.ready
  simp only [List.mem_filter, List.mem_range, Bool.and_eq_true, Bool.not_eq_true']
  refine ⟨h1, ?_, ?_⟩
  · rw [Array.getD_eq_getD_getElem?, Array.getElem?_eq_getElem (by omega)] at h2 ⊢
    exact h2
  · rw [Array.getElem?_eq_getElem h1]
    simp only [Option.map_some, Option.getD_some, Array.all_eq_true']
    intro e he
    cases hb : Region.binds .any e with
    | false => rfl
    | true => simp only [Bool.not_true, Bool.false_or]; exact h3 _ (hok i _ (Array.getElem?_eq_getElem h1) e (Array.mem_toList_iff.2 he) hb)
theorem any_tail {Q : Exit → Act → World → Prop} (hok : ∀ i o, ops[i]? = some o → ∀ e ∈ o.after.toList, Region.binds .any e = true → e.on < i) (hc : ∀ i, p ≤ i → i < ops.size → ∀ j, j < i → tclE ops 8 i j = true) :
    ∀ (k q : Nat) (l : Array Bool) (a : Act) (w : World), p ≤ q → q + k = ops.size → l.size = ops.size → (∀ i, i < ops.size → l.getD i false = decide (i < q)) → wpOps P ops Q (List.range' q k) a w → wpAny P .any ops Q k l a w
  | 0, q, l, a, w, hp, hq, hs, hl, hw => by
    simp only [wpAny]
    refine ⟨?_, by simpa [wpOps] using hw⟩
    apply List.eq_nil_iff_forall_not_mem.2
    intro i hi
    obtain ⟨h1, h2, _⟩ := ready_spec hs hi
    rw [hl i h1] at h2
    simp at h2; omega
  | k + 1, q, l, a, w, hp, hq, hs, hl, hw => by
    simp only [wpAny]
    have hqs : q < ops.size := by omega
    refine ⟨fun h => ?_, fun i hi => ?_⟩
    · have := ready_mk (l := l) hok hs hqs (by rw [hl q hqs]; simp) (fun j hj => by rw [hl j (by omega)]; simp [hj])
      rw [h] at this; cases this
    · obtain ⟨h1, h2, h3⟩ := ready_spec hs hi
      have hiq : i = q := by
        rw [hl i h1] at h2
        simp at h2
        by_cases e : i = q
        · exact e
        · have hcl : Closed ops l := fun x y hx hxy => by
            have hxs : x < ops.size := by
              by_cases hx' : x < ops.size
              · exact hx'
              · unfold dirE at hxy; rw [Array.getElem?_eq_none (by omega)] at hxy; cases hxy
            rw [hl x hxs] at hx
            simp at hx
            have hxy' := hxy
            unfold dirE at hxy'
            rw [Array.getElem?_eq_getElem hxs] at hxy'
            simp only [Array.any_eq_true', Bool.and_eq_true, beq_iff_eq] at hxy'
            obtain ⟨e, he, hb, rfl⟩ := hxy'
            have := hok x _ (Array.getElem?_eq_getElem hxs) e (Array.mem_toList_iff.2 he) hb
            rw [hl _ (by omega)]; simp; omega
          have := tcl_done hcl 8 i q (hc i (by omega) h1 q (by omega)) h3
          rw [hl q hqs] at this; simp at this
      subst hiq
      rw [List.range'_succ, wpOps_cons] at hw
      refine wpOp_mono (fun a w h => any_tail hok hc k (i + 1) _ a w (by omega) (by omega) (by simp [hs]) (fun j hj => ?_) h) hw
      by_cases e : j = i
      · subst e
        rw [Array.getD_eq_getD_getElem?, Array.getElem?_setIfInBounds_self_of_lt (by omega)]
        simp
      · rw [Array.getD_eq_getD_getElem?, Array.getElem?_setIfInBounds_ne (fun q => e q.symm), ← Array.getD_eq_getD_getElem?, hl j hj]
        simp; omega
theorem Inv.operand {t : Tr P n ops p} {E0 E : Emb} {base : Nat} {w0 w : World} {S : Nat → Bool} {a : Act} (inv : Inv t E0 base w0 S E w a) {i s : Nat} (hi : i < p) (hS : S i = false)
    (hw : ∀ j oj, j < p → j ≠ i → ops[j]? = some oj → oj.dst = some s → (j < i → S j = true) ∧ (i < j → S j = false)) : VRel (E.cut (t.H i).next) (t.T i s) (a.tmps.getD s undef) := by
  rcases t.slot s i (by omega) with ⟨j, oj, h1, h2, h3, h4, h5⟩ | ⟨h1, h2⟩
  · rw [h4]
    refine cut_mono (t.le (show j + 1 ≤ i by omega) (by omega)) (inv.last s j oj (by omega) ((hw j oj (by omega) (by omega) h2 h3).1 h1) h2 h3 (fun k ok k1 k2 k3 k4 k5 => ?_))
    rcases Nat.lt_trichotomy k i with h | h | h
    · exact h5 k ok k1 h k4 k5
    · subst h; rw [hS] at k3; cases k3
    · have := (hw k ok k2 (by omega) k4 k5).2 h
      rw [this] at k3; cases k3
  · rw [h1]
    refine cut_mono (t.le (show 0 ≤ i by omega) (by omega)) (inv.none s (fun k ok k2 k3 k4 k5 => ?_))
    rcases Nat.lt_trichotomy k i with h | h | h
    · exact h2 k ok h k4 k5
    · subst h; rw [hS] at k3; cases k3
    · have := (hw k ok k2 (by omega) k4 k5).2 h
      rw [this] at k3; cases k3
theorem getD_set {l : Array Bool} {i : Nat} (hi : i < l.size) (k : Nat) : (l.setIfInBounds i true).getD k false = if k = i then true else l.getD k false := by
  by_cases e : k = i
  · subst e; rw [if_pos rfl, Array.getD_eq_getD_getElem?, Array.getElem?_setIfInBounds_self_of_lt hi]; rfl
  · rw [if_neg e, Array.getD_eq_getD_getElem?, Array.getElem?_setIfInBounds_ne (fun q => e q.symm), ← Array.getD_eq_getD_getElem?]
theorem Inv.congr {t : Tr P n ops p} {E0 E : Emb} {base : Nat} {w0 w : World} {S S' : Nat → Bool} {a : Act} (inv : Inv t E0 base w0 S E w a) (h : ∀ k, S' k = S k) : Inv t E0 base w0 S' E w a := by
  have : S' = S := funext h
  rw [this]; exact inv
theorem any_head {Q : Exit → Act → World → Prop} (t : Tr P n ops p) (hd : drawOK ops p = true) {E0 : Emb} {base : Nat} {w0 : World}
    (hend : ∀ E w a, Step E0 (t.H 0) w0 E (t.H p) w → HRel E base (t.H p) w.heap → TRel E n (t.T p) a → wpOps P ops Q (List.range' p (ops.size - p)) a w) :
    ∀ (c : Nat) (l : Array Bool) (E : Emb) (w : World) (a : Act), l.size = ops.size → cntF (fun k => l.getD k false) p = c → Closed ops l → (∀ i, p ≤ i → l.getD i false = false) →
      Inv t E0 base w0 (fun k => l.getD k false) E w a → wpAny P .any ops Q (c + (ops.size - p)) l a w
  | 0, l, E, w, a, hs, hc, hcl, htl, inv => by
    obtain ⟨h1, h2, h3, h4⟩ := drawOK_spec hd
    have hall := cntF_zero hc
    have hgd : ∀ i, i < ops.size → l.getD i false = decide (i < p) := fun i hi => by
      by_cases e : i < p
      · rw [hall i e]; simp [e]
      · rw [htl i (by omega)]; simp [e]
    rw [Nat.zero_add]
    refine any_tail h2 h4 _ p l a w (Nat.le_refl _) (by omega) hs hgd ?_
    have hr := inv.heap p (Nat.le_refl _)
    refine hend (E.cut (t.H p).next) w a ⟨t.le (Nat.zero_le _) (Nat.le_refl _), fun o ho => ?_, inv.os, inv.tape, inv.output, inv.size, inv.keep, fun o ho hown => inv.own o ho.2 ho.1 hown⟩ hr ⟨inv.tmps, fun s => ?_, inv.defers⟩
    · obtain ⟨e1, e2, e3, e4⟩ := inv.ext o ho
      have hlt : o < (t.H p).next := Nat.lt_of_lt_of_le ho (t.le (Nat.zero_le _) (Nat.le_refl _))
      exact ⟨⟨fun h => e1.1 h.2, fun h => ⟨hlt, e1.2 h⟩⟩, e2, e3, e4⟩
    · rcases t.slot s p (Nat.le_refl _) with ⟨j, oj, g1, g2, g3, g4, g5⟩ | ⟨g1, g2⟩
      · rw [g4]
        exact cut_mono (t.le (show j + 1 ≤ p by omega) (Nat.le_refl _)) (inv.last s j oj g1 (hall j g1) g2 g3 (fun k ok k1 k2 _ k4 => g5 k ok k1 k2 k4))
      · rw [g1]
        exact cut_mono (t.le (Nat.zero_le _) (Nat.le_refl _)) (inv.none s (fun k ok k2 _ k4 => g2 k ok k2 k4))
  | c + 1, l, E, w, a, hs, hc, hcl, htl, inv => by
    obtain ⟨h1, h2, h3, h4⟩ := drawOK_spec hd
    obtain ⟨i0, i1, i2, i3⟩ := cntF_pos (f := fun k => l.getD k false) (m := p) (by omega)
    rw [show c + 1 + (ops.size - p) = c + (ops.size - p) + 1 by omega]
    simp only [wpAny]
    refine ⟨fun h => ?_, fun i hi => ?_⟩
    · have := ready_mk (l := l) h2 hs (show i0 < ops.size by omega) i2 i3
      rw [h] at this; cases this
    · obtain ⟨r1, r2, r3⟩ := ready_spec hs hi
      have hip : i < p := by
        rcases Nat.lt_or_ge i p with h | h
        · exact h
        · have := tcl_done hcl 8 i i0 (h4 i h r1 i0 (by omega)) r3
          have i2' : l.getD i0 false = false := i2
          rw [i2'] at this; cases this
      have ho := Array.getElem?_eq_getElem r1
      generalize hov : ops[i] = o at ho
      -- who writes what the operation looks at
      have hlook : ∀ s, (o.looksAt ops).contains s = true → ∀ j oj, j < p → j ≠ i → ops[j]? = some oj → oj.dst = some s → (j < i → l.getD j false = true) ∧ (i < j → l.getD j false = false) := by
        intro s hcs j oj hj hne hoj hds
        have h5 := (h3 i j o oj s hip hj (fun e => hne e.symm) ho hoj hds).1 hcs
        refine ⟨fun hlt => ?_, fun hlt => ?_⟩
        · rw [if_pos hlt] at h5; exact r3 j h5
        · rw [if_neg (by omega)] at h5
          cases hlj : l.getD j false with
          | false => rfl
          | true => have := hcl j i hlj h5; rw [r2] at this; cases this
      have hval : ∀ s, (o.looksAt ops).contains s = true → VRel (E.cut (t.H i).next) (t.T i s) (a.tmps.getD s undef) := fun s hcs => inv.operand hip r2 (hlook s hcs)
      have hB : ∀ j oj s, j < p → i < j → ops[j]? = some oj → o.dst = some s → oj.dst = some s → l.getD j false = false := by
        intro j oj s hj hlt hoj hds hds'
        have h5 := (h3 i j o oj s hip hj (by omega) ho hoj hds').2 hds hlt
        cases hlj : l.getD j false with
        | false => rfl
        | true => have := hcl j i hlj h5; rw [r2] at this; cases this
      obtain ⟨d1, d2⟩ := t.dst i o hip ho
      have hcnt : cntF (fun k => (l.setIfInBounds i true).getD k false) p = c := by
        have := cntF_set (f := fun k => l.getD k false) (g := fun k => (l.setIfInBounds i true).getD k false) hip r2 (fun k => getD_set (by omega) k)
        omega
      have hcl' : Closed ops (l.setIfInBounds i true) := by
        intro x y hx hxy
        rw [getD_set (by omega)] at hx ⊢
        by_cases e : x = i
        · subst e; split
          · rfl
          · exact r3 y hxy
        · rw [if_neg e] at hx
          split
          · rfl
          · exact hcl x y hx hxy
      have htl' : ∀ k, p ≤ k → (l.setIfInBounds i true).getD k false = false := fun k hk => by
        rw [getD_set (by omega), if_neg (by omega)]; exact htl k hk
      have cont : ∀ E' w' v', Step (E.cut (t.H i).next) (t.H i) w E' (t.H (i + 1)) w' → HRel E' base (t.H (i + 1)) w'.heap → VRel E' (t.V i) v' → wpAny P .any ops Q (c + (ops.size - p)) (l.setIfInBounds i true) (a.put o.dst v') w' := by
        intro E' w' v' st hr hv
        exact any_head t hd hend c _ _ w' _ (by simp [hs]) hcnt hcl' htl' ((inv.next hip ho r2 d1 hB st hr hv).congr (fun k => getD_set (by omega) k))
      have hr0 := inv.heap i (by omega)
      -- the guard
      have hwant : ∀ b, wantA ops (t.T i) o = some b → Region.wanted o (yielded ops a.tmps) = b := by
        intro b hb
        unfold wantA at hb
        unfold Region.wanted
        split at hb
        · rename_i hgd; simp only [Option.some.injEq] at hb; subst hb; rw [hgd]
        · rename_i j want hgd
          rw [hgd]
          split at hb
          · rename_i d hdd
            split at hb
            · rename_i bb hbb
              simp only [Option.some.injEq] at hb
              subst hb
              have hlt := guardOK_spec d2 j want d hgd hdd
              have hcs : (o.looksAt ops).contains d = true := by simp [Oper.looksAt, hgd, hdd]
              have hrr := hval d hcs
              rw [hbb] at hrr
              obtain ⟨z, hz, hz'⟩ := getD_some (c := a.tmps) (i := d) (by rw [inv.tmps]; exact hlt)
              have hz2 : z = .bool bb := by rw [← hz']; exact hrr.inv_bool
              subst hz2
              simp only [yielded, hdd, Option.bind_some, hz]
              cases bb <;> cases want <;> rfl
            · rename_i bb hbb
              simp only [Option.some.injEq] at hb
              subst hb
              have hlt := guardOK_spec d2 j want d hgd hdd
              have hcs : (o.looksAt ops).contains d = true := by simp [Oper.looksAt, hgd, hdd]
              have hrr := hval d hcs
              rw [hbb] at hrr
              obtain ⟨z, hz, hz'⟩ := getD_some (c := a.tmps) (i := d) (by rw [inv.tmps]; exact hlt)
              obtain ⟨c', hc'⟩ := hrr.inv_tuple
              have hz2 : z = .tuple c' := by rw [← hz']; exact hc'
              subst hz2
              simp only [yielded, hdd, Option.bind_some, hz]
              cases want <;> rfl
            · cases hb
          · cases hb
      unfold wpOp
      simp only [ho]
      rcases t.step i o hip ho with ⟨g1, g2⟩ | ⟨g1, g2, g3⟩
      · rw [hwant true g1, if_pos rfl]
        left
        refine g2 (E.cut (t.H i).next) base w a _ Q hr0 (fun s hsm => hval s ?_) cont
        simp only [Oper.looksAt, List.contains_eq_mem, List.mem_append, decide_eq_true_eq]
        left
        exact List.mem_filterMap.2 ⟨.tmp s, by simpa using hsm, rfl⟩
      · rw [hwant false g1, if_neg (by simp)]
        refine cont (E.cut (t.H i).next) w undef ?_ ?_ ?_
        · rw [g3]; exact Step.refl _ _ _
        · rw [g3]; exact hr0
        · rw [g2]; exact VRel.undef _
end
end Go.Eng
end
section
namespace Go.Eng
def Adds (h h' : Hp) : Prop := Keeps h h' ∧ NewOwn h h'
theorem NewOwn.refl (h : Hp) : NewOwn h h := fun _ h1 h2 _ => by omega
theorem Adds.refl (h : Hp) : Adds h h := ⟨Keeps.refl h, NewOwn.refl h⟩
theorem Adds.trans {a b c : Hp} (h : Adds a b) (k : Adds b c) : Adds a c :=
  ⟨h.1.trans k.1, fun o h1 h2 hl => by
    rcases Nat.lt_or_ge o b.next with h3 | h3
    · have hg := k.1.2 o h3
      rw [hg] at hl ⊢
      exact h.2 o h1 h3 hl
    · exact k.2 o h3 h2 hl⟩
theorem Adds.alloc (h : Hp) {x : AObj} (hx : x.live = true → x.owned = true) : Adds h (h.alloc x) :=
  ⟨Keeps.alloc h x, fun o h1 h2 hl => by
    have : o = h.next := by simp [Hp.alloc] at h2; omega
    subst this
    simp only [Hp.alloc, if_true] at hl ⊢
    exact hx hl⟩
theorem Adds.put {h h' : Hp} (k : Adds h h') {o : Nat} (ho : h.next ≤ o) {x : AObj} (hx : x.live = true → x.owned = true) : Adds h (h'.put o x) :=
  ⟨k.1.put ho x, fun i h1 h2 hl => by
    by_cases e : i = o
    · subst e; simp only [Hp.put, if_true] at hl ⊢; exact hx hl
    · simp only [Hp.put, e, if_false] at hl ⊢; exact k.2 i h1 h2 hl⟩
theorem Adds.grow {h h' : Hp} (k : Adds h h') {o : Nat} (ho : h.next ≤ o) {ex : Bool} {x : AObj} (hx : x.live = true → x.owned = true) : Adds h (growHp h' o ex x) := by
  cases ex with
  | true => exact k.trans (Adds.alloc _ hx)
  | false => exact (k.put ho (fun hl => by cases hl)).trans (Adds.alloc _ hx)
def PreD (P : Program) (n : Nat) (ops : Array Oper) : List Oper → ((Nat → Value) → Hp → Prop) → (Nat → Value) → Hp → Prop
  | [], R, tm, h => R tm h
  | o :: rest, R, tm, h => dstOK n o.dst = true ∧ guardOK n ops o = true ∧
    ((wantA ops tm o = some true ∧ ∃ v h', OpOK P o tm h v h' ∧ Adds h h' ∧ PreD P n ops rest R (updO tm o.dst v) h') ∨
     (wantA ops tm o = some false ∧ PreD P n ops rest R (updO tm o.dst undef) h))
section
variable {P : Program} {n : Nat} {ops : Array Oper}
theorem pre_trace {R : (Nat → Value) → Hp → Prop} : ∀ (l : List Oper) (tm : Nat → Value) (h : Hp), PreD P n ops l R tm h →
    ∃ (T : Nat → Nat → Value) (H : Nat → Hp) (V : Nat → Value), T 0 = tm ∧ H 0 = h ∧ R (T l.length) (H l.length) ∧
      ∀ i o, l[i]? = some o → (dstOK n o.dst = true ∧ guardOK n ops o = true) ∧
        ((wantA ops (T i) o = some true ∧ OpOK P o (T i) (H i) (V i) (H (i + 1))) ∨ (wantA ops (T i) o = some false ∧ V i = undef ∧ H (i + 1) = H i)) ∧
        T (i + 1) = updO (T i) o.dst (V i) ∧ Keeps (H i) (H (i + 1)) ∧ NewOwn (H i) (H (i + 1))
  | [], tm, h, hq => ⟨fun _ => tm, fun _ => h, fun _ => undef, rfl, rfl, hq, fun i o ho => by simp at ho⟩
  | o :: rest, tm, h, hq => by
    obtain ⟨h1, h2, h3⟩ := hq
    have shift : ∀ (v : Value) (h' : Hp), PreD P n ops rest R (updO tm o.dst v) h' → Adds h h' → ((wantA ops tm o = some true ∧ OpOK P o tm h v h') ∨ (wantA ops tm o = some false ∧ v = undef ∧ h' = h)) →
        ∃ (T : Nat → Nat → Value) (H : Nat → Hp) (V : Nat → Value), T 0 = tm ∧ H 0 = h ∧ R (T (o :: rest).length) (H (o :: rest).length) ∧
          ∀ i q, (o :: rest)[i]? = some q → (dstOK n q.dst = true ∧ guardOK n ops q = true) ∧
            ((wantA ops (T i) q = some true ∧ OpOK P q (T i) (H i) (V i) (H (i + 1))) ∨ (wantA ops (T i) q = some false ∧ V i = undef ∧ H (i + 1) = H i)) ∧
            T (i + 1) = updO (T i) q.dst (V i) ∧ Keeps (H i) (H (i + 1)) ∧ NewOwn (H i) (H (i + 1)) := by
      intro v h' hp ha hs
      obtain ⟨T, H, V, e1, e2, hR, hi⟩ := pre_trace rest _ _ hp
      refine ⟨fun k => match k with | 0 => tm | k + 1 => T k, fun k => match k with | 0 => h | k + 1 => H k, fun k => match k with | 0 => v | k + 1 => V k, rfl, rfl, hR, fun i q hq => ?_⟩
      cases i with
      | zero =>
        simp only [List.getElem?_cons_zero, Option.some.injEq] at hq
        subst hq
        simp only [e1, e2]
        exact ⟨⟨h1, h2⟩, hs, trivial, ha.1, ha.2⟩
      | succ i =>
        simp only [List.getElem?_cons_succ] at hq
        exact hi i q hq
    rcases h3 with ⟨hw, v, h', hok, ha, hp⟩ | ⟨hw, hp⟩
    · exact shift v h' hp ha (.inl ⟨hw, hok⟩)
    · exact shift undef h hp (Adds.refl h) (.inr ⟨hw, rfl, rfl⟩)
theorem runs_draw {id p : Nat} {Q : Exit → (Nat → Value) → Hp → Prop} {tm : Nat → Value} {h : Hp} (hm : P.follows .mixedOrders = true) (hd : drawOK ops p = true)
    (hq : PreD P n ops (ops.toList.take p) (fun tm h => RunOps P n ops (ops.toList.drop p) (Q .normal) tm h) tm h) : Runs P n (.region id ops true) Q tm h := by
  have hps := (drawOK_spec hd).1
  obtain ⟨T, H, V, e1, e2, hR, hi⟩ := pre_trace _ _ _ hq
  have hlen : (ops.toList.take p).length = p := by simp; omega
  have hget : ∀ i, i < p → (ops.toList.take p)[i]? = ops[i]? := fun i hi => by simp [hi]
  rw [hlen] at hR
  let t : Tr P n ops p :=
    { fits := hps, T := T, H := H, V := V
      dst := fun i o hip ho => (hi i o (by rw [hget i hip]; exact ho)).1
      step := fun i o hip ho => (hi i o (by rw [hget i hip]; exact ho)).2.1
      next := fun i o hip ho => (hi i o (by rw [hget i hip]; exact ho)).2.2.1
      keeps := fun i hip => (hi i ops[i] (by rw [hget i hip, Array.getElem?_eq_getElem (by omega)])).2.2.2.1
      own := fun i hip => (hi i ops[i] (by rw [hget i hip, Array.getElem?_eq_getElem (by omega)])).2.2.2.2 }
  obtain ⟨tm', h', hQ, hs⟩ := runOps_sound (ops.toList.drop p) p _ _ rfl hR
  refine ⟨.normal, tm', h', fun E base w a hr ht => wp_region_any hm ?_, hQ⟩
  have hheap : ∀ k, k ≤ p → HRel (E.cut (t.H k).next) base (t.H k) w.heap := by
    intro k hk
    have hkk := t.keep (Nat.zero_le k) hk
    have hlt : ∀ o, E.D o → o < (t.H 0).next := fun o ho => by have := hr.lt o ho; show o < (H 0).next; rw [e2]; exact this
    refine ⟨hr.le, fun o ho => ho.1, fun o ho => ?_, fun o o' ho ho' hne h1 h2 => ?_⟩
    · rw [hkk.2 o (hlt o ho.2)]
      show ORel (E.cut (t.H k).next) base w.heap o ((H 0).get o)
      rw [e2]
      exact ORel.mono (E := E) (E' := E.cut (t.H k).next) (fun r hr' => ⟨⟨Nat.lt_of_lt_of_le (hlt r hr') hkk.1, hr'⟩, rfl, rfl, rfl⟩) ho.2 rfl (hr.obj o ho.2)
    · rw [hkk.2 o (hlt o ho.2)] at h1
      rw [hkk.2 o' (hlt o' ho'.2)] at h2
      have g1 : (h.get o).owned = true := by have := h1; rwa [show t.H 0 = h from e2] at this
      have g2 : (h.get o').live = true := by have := h2; rwa [show t.H 0 = h from e2] at this
      exact hr.sep o o' ho.2 ho'.2 hne g1 g2
  have hinit : Inv t E base w (fun k => (Array.replicate ops.size false).getD k false) E { w with drawn := w.drawn + 1 } a := by
    have hfalse : ∀ k, (Array.replicate ops.size false).getD k false = false := fun k => by
      rw [Array.getD_eq_getD_getElem?, Array.getElem?_replicate]; split <;> rfl
    have hlt : ∀ o, E.D o → o < (t.H 0).next := fun o ho => by have := hr.lt o ho; show o < (H 0).next; rw [e2]; exact this
    have hto : ∀ s, VRel (E.cut (t.H 0).next) (t.T 0 s) (a.tmps.getD s undef) := fun s => by
      show VRel (E.cut (t.H 0).next) (T 0 s) _
      rw [e1]
      exact VRel.mono (E := E) (E' := E.cut (t.H 0).next) (fun r hr' => ⟨⟨hlt r hr', hr'⟩, rfl, rfl, rfl⟩) (ht.rel s)
    refine ⟨hheap, fun o _ => ⟨Iff.rfl, rfl, rfl, rfl⟩, rfl, rfl, ⟨rfl, Nat.le_succ _⟩, Nat.le_refl _, fun _ _ _ => rfl, fun o ho _ hown => .inl ⟨o, ho, ?_, rfl⟩, fun i o _ _ h1 _ ho => ?_, ht.size, ht.defers, fun s j o _ hS => ?_, fun s _ => hto s⟩
    · rw [(t.keep (Nat.zero_le p) (Nat.le_refl _)).2 o (hlt o ho)] at hown; exact hown
    · have h3 := hlt o ho
      have h4 : (t.H 0).next ≤ (t.H i).next := t.le (Nat.zero_le _) (by omega)
      omega
    · rw [hfalse] at hS; cases hS
  have hcnt : cntF (fun k => (Array.replicate ops.size false).getD k false) p = p := by
    have hfalse : ∀ k, (Array.replicate ops.size false).getD k false = false := fun k => by
      rw [Array.getD_eq_getD_getElem?, Array.getElem?_replicate]; split <;> rfl
    have : ∀ m, cntF (fun k => (Array.replicate ops.size false).getD k false) m = m := by
      intro m
      induction m with
      | zero => rfl
      | succ m ih =>
        show cntF _ m + (if (Array.replicate ops.size false).getD m false = true then 0 else 1) = m + 1
        rw [ih, hfalse]; simp
    exact this p
  have hfalse : ∀ k, (Array.replicate ops.size false).getD k false = false := fun k => by
    rw [Array.getD_eq_getD_getElem?, Array.getElem?_replicate]; split <;> rfl
  have := any_head (Q := fun ex a' w' => ex = .normal ∧ ∃ E', Step E h w E' h' w' ∧ HRel E' base h' w'.heap ∧ TRel E' n tm' a') t hd (E0 := E) (base := base) (w0 := w) ?_ p (Array.replicate ops.size false) E { w with drawn := w.drawn + 1 } a (by simp) hcnt (fun i j hi => by rw [hfalse] at hi; cases hi) (fun i _ => hfalse i) hinit
  · rwa [show p + (ops.size - p) = ops.size by omega] at this
  · intro E1 w1 a1 st hr1 ht1
    have st' : Step E h w E1 (t.H p) w1 := by rw [show t.H 0 = h from e2] at st; exact st
    have hl : (ops.toList.drop p).length = ops.size - p := by simp
    have h5 := hs E1 base w1 a1 (fun ex a' w' => ex = .normal ∧ ∃ E', Step E h w E' h' w' ∧ HRel E' base h' w'.heap ∧ TRel E' n tm' a') hr1 ht1 (fun E2 w2 a2 st2 hr2 ht2 => ⟨rfl, E2, st'.trans st2, hr2, ht2⟩)
    rwa [hl] at h5
variable {o : Oper} {rest : List Oper} {R : (Nat → Value) → Hp → Prop} {tm : Nat → Value} {h : Hp}
def thenP (P : Program) (n : Nat) (ops : Array Oper) (rest : List Oper) (R : (Nat → Value) → Hp → Prop) (tm : Nat → Value) (h : Hp) (d : Option Nat) : Option (Value × Hp) → Prop
  | some (v, h') => Adds h h' ∧ PreD P n ops rest R (updO tm d v) h'
  | none => False
theorem WD_draw {id : Nat} {Q : Exit → (Nat → Value) → Hp → Prop} (p : Nat) (hm : P.follows .mixedOrders = true) (hd : drawOK ops p = true)
    (hq : ∀ K : (Nat → Value) → Hp → Prop, (∀ tm h, RunD P n ops (ops.toList.drop p) (Q .normal) tm h → K tm h) → PreD P n ops (ops.toList.take p) K tm h) : WD P n (.region id ops true) Q tm h := by
  have key : ∀ (l : List Oper) (R R' : (Nat → Value) → Hp → Prop), (∀ tm h, R tm h → R' tm h) → ∀ tm h, PreD P n ops l R tm h → PreD P n ops l R' tm h := by
    intro l R R' hRR
    induction l with
    | nil => exact fun tm h hq => hRR _ _ hq
    | cons o rest ih =>
      rintro tm h ⟨h1, h2, h3⟩
      refine ⟨h1, h2, h3.imp ?_ ?_⟩
      · rintro ⟨hw, v, h', hok, ha, hp⟩; exact ⟨hw, v, h', hok, ha, ih _ _ hp⟩
      · rintro ⟨hw, hp⟩; exact ⟨hw, ih _ _ hp⟩
  exact runs_draw hm hd (key _ _ _ (fun tm h hq => RunD.run _ hq) _ _ (hq _ (fun _ _ h => h)))
end
end Go.Eng
end
section
namespace Go.Eng
open Go.RowKit (Below)
def Sl {α : Type} (R : Hp → Value → α → Prop) (h : Hp) (v : Value) (xs : List α) : Prop :=
  ∃ s c, v = .slice s xs.length c ∧ xs.length ≤ c ∧ c < 2 ^ 63 ∧ ∀ k x, xs[k]? = some x → ∃ o i cs own ex es, s = some ⟨o, i, none⟩ ∧ o < h.next ∧ h.get o = .cells cs own ex es ∧ i + k < cs.length ∧ R h (cs.getD (i + k) undef) x
def isInt (_ : Hp) (u : Value) (x : Int) : Prop := u = .int .i64 x
def Ints : Hp → Value → List Int → Prop := Sl isInt
def IRows : Hp → Value → List (List Int) → Prop := Sl Ints
theorem Sl.mono {α : Type} {R : Hp → Value → α → Prop} {h h' : Hp} (hR : ∀ u x, R h u x → R h' u x) (hk : Keeps h h') {v : Value} {xs : List α} (hs : Sl R h v xs) : Sl R h' v xs := by
  obtain ⟨s, c, e, hc, hc', hx⟩ := hs
  refine ⟨s, c, e, hc, hc', fun k x hk' => ?_⟩
  obtain ⟨o, i, cs, own, ex, es, h1, h2, h3, h4, h5⟩ := hx k x hk'
  exact ⟨o, i, cs, own, ex, es, h1, Nat.lt_of_lt_of_le h2 hk.1, by rw [hk.2 o h2]; exact h3, h4, hR _ _ h5⟩
theorem Ints.keep {h h' : Hp} (hk : Keeps h h') {v : Value} {xs : List Int} (hs : Ints h v xs) : Ints h' v xs := Sl.mono (R := isInt) (h := h) (h' := h') (fun _ _ h => h) hk hs
theorem IRows.keep {h h' : Hp} (hk : Keeps h h') {v : Value} {xs : List (List Int)} (hs : IRows h v xs) : IRows h' v xs := Sl.mono (R := Ints) (fun _ _ h => Ints.keep hk h) hk hs
structure Start (E : Emb) (h : Hp) (W : World) : Prop where
  rel : HRel E W.heap.size h W.heap
  ro : ∀ o, E.D o → (h.get o).owned = false
theorem start0 (W : World) : Start ⟨fun _ => False, fun _ => 0, fun _ => 0, fun _ => 0⟩ ⟨fun _ => .dead, 0⟩ W :=
  ⟨⟨Nat.le_refl _, fun _ h => h.elim, fun _ h => h.elim, fun _ _ h => h.elim⟩, fun _ h => h.elim⟩
structure More (E : Emb) (h : Hp) (E' : Emb) (h' : Hp) : Prop where
  vrel : ∀ x y, VRel E x y → VRel E' x y
  keep : Keeps h h'
theorem More.refl (E : Emb) (h : Hp) : More E h E h := ⟨fun _ _ h => h, Keeps.refl h⟩
theorem add_ro {E : Emb} {h : Hp} {W : World} (st : Start E h W) (x : Addr) (cs : List Value) (hpos : 0 < cs.length)
    (hc : ∀ i, i < cs.length → (cs.getD i undef).oneCell' = true ∧ ∃ v', W.cell? (x.add i) = some v' ∧ VRel E (cs.getD i undef) v') :
    x.spot = none ∧ Start (E.add h.next x.block x.off 0) (h.alloc (.cells cs false true 1)) W ∧ More E h (E.add h.next x.block x.off 0) (h.alloc (.cells cs false true 1)) := by
  have hD : ∀ i, E.D i → (E.add h.next x.block x.off 0).D i ∧ (E.add h.next x.block x.off 0).blk i = E.blk i ∧ (E.add h.next x.block x.off 0).off i = E.off i ∧ (E.add h.next x.block x.off 0).slk i = E.slk i := fun i hd => by
    obtain ⟨a, b, c, d⟩ := E.add_ext h.next x.block x.off 0 i (st.rel.lt i hd); exact ⟨a.2 hd, b, c, d⟩
  obtain ⟨_, v0, h0, _⟩ := hc 0 hpos
  have hx0 : x.add 0 = x := by simp [Addr.add]
  rw [hx0] at h0
  have hspot : x.spot = none := by
    unfold World.cell? at h0
    split at h0
    · cases hs : x.spot with
      | none => rfl
      | some s => simp [hs] at h0
    · cases h0
  obtain ⟨C, ty, fz, hb⟩ : ∃ C ty fz, W.heap[x.block]? = some (.cells C ty fz) := by
    unfold World.cell? at h0
    split at h0
    · exact ⟨_, _, _, by assumption⟩
    · cases h0
  have hadd : ∀ i, x.add i = ⟨x.block, x.off + i, none⟩ := fun i => by
    obtain ⟨b, o, s⟩ := x
    simp only at hspot
    subst hspot
    exact add_plain' b o i
  have hcell : ∀ i, i < cs.length → x.off + i < C.size ∧ VRel E (cs.getD i undef) (C.getD (x.off + i) undef) := by
    intro i hi
    obtain ⟨_, v', h1, h2⟩ := hc i hi
    rw [hadd i] at h1
    simp only [World.cell?, hb, Option.isSome_none] at h1
    obtain ⟨hlt, e⟩ := Array.getElem?_eq_some_iff.1 (by simpa using h1)
    refine ⟨hlt, ?_⟩
    rw [Array.getD_eq_getD_getElem?, Array.getElem?_eq_getElem hlt, e]
    exact h2
  have hget : ∀ o, o < h.next → (h.alloc (.cells cs false true 1)).get o = h.get o := fun o ho => by simp [Hp.alloc, show o ≠ h.next by omega]
  have hgn : (h.alloc (.cells cs false true 1)).get h.next = .cells cs false true 1 := by simp [Hp.alloc]
  refine ⟨hspot, ⟨⟨Nat.le_refl _, fun o ho => ?_, fun o ho => ?_, fun o o' ho ho' hne h1 h2 => ?_⟩, fun o ho => ?_⟩, ⟨fun a b hab => hab.mono hD, Keeps.alloc h _⟩⟩
  · rcases ho with rfl | ho
    · exact Nat.lt_succ_self _
    · exact Nat.lt_succ_of_lt (st.rel.lt o ho)
  · rcases ho with rfl | ho
    · rw [hgn]
      have hlast := (hcell (cs.length - 1) (by omega)).1
      refine ⟨C, ty, fz, by simp [Emb.add]; exact hb, by simp [Emb.add]; omega, fun i hi => ?_, fun i hi => (hc i hi).1, fun e => (by cases e), fun _ => by simp [Emb.add]⟩
      have := (hcell i hi).2.mono hD
      simpa [Emb.add] using this
    · rw [hget o (st.rel.lt o ho)]
      exact (st.rel.obj o ho).mono hD ho rfl
  · rcases ho with rfl | ho
    · rw [hgn] at h1; cases h1
    · rw [hget o (st.rel.lt o ho), st.ro o ho] at h1; cases h1
  · rcases ho with rfl | ho
    · rw [hgn]; rfl
    · rw [hget o (st.rel.lt o ho)]; exact st.ro o ho
theorem add_slice {α : Type} {R : Hp → Value → α → Prop} {E : Emb} {h : Hp} {W : World} (st : Start E h W) (hR : ∀ h h' u x, Keeps h h' → R h u x → R h' u x) (a : Option Addr) (len cap : Nat) (cs : List Value) (xs : List α)
    (hlc : len ≤ cap) (hcap : cap < 2 ^ 63) (hcs : cs.length = cap) (hnil : a = none → cap = 0) (hlen : xs.length = len)
    (hc : ∀ x, a = some x → ∀ i, i < cap → (cs.getD i undef).oneCell' = true ∧ ∃ v', W.cell? (x.add i) = some v' ∧ VRel E (cs.getD i undef) v') (hr : ∀ i x, xs[i]? = some x → R h (cs.getD i undef) x) :
    ∃ E' h' v, Start E' h' W ∧ More E h E' h' ∧ VRel E' v (.slice a len cap) ∧ Sl R h' v xs := by
  cases a with
  | none =>
    have := hnil rfl
    subst this
    have h0 : len = 0 := by omega
    subst h0
    refine ⟨E, h, _, st, More.refl E h, .sliceNil, ⟨none, 0, by rw [hlen], by omega, by decide, fun k x hk => ?_⟩⟩
    have := List.length_eq_zero_iff.1 hlen
    subst this; simp at hk
  | some x =>
    by_cases h0 : cap = 0
    · subst h0
      have h0 : len = 0 := by omega
      subst h0
      refine ⟨E, h, _, st, More.refl E h, .slice0 x, ⟨some ⟨0, 0, some 0⟩, 0, by rw [hlen], by omega, by decide, fun k x hk => ?_⟩⟩
      have := List.length_eq_zero_iff.1 hlen
      subst this; simp at hk
    · obtain ⟨hsp, st', mo⟩ := add_ro st x cs (by omega) (fun i hi => hc x rfl i (by omega))
      refine ⟨_, _, .slice (some ⟨h.next, 0, none⟩) len cap, st', mo, ?_, ⟨some ⟨h.next, 0, none⟩, cap, by rw [hlen], by omega, hcap, fun k y hk => ?_⟩⟩
      · have := VRel.slice (E := E.add h.next x.block x.off 0) h.next 0 len cap x (.inl rfl) hlc (.inr (by
          obtain ⟨b, o, s⟩ := x
          simp only at hsp
          subst hsp
          simp [Emb.add]))
        simpa [Emb.add] using this
      · have hkl : k < xs.length := (List.getElem?_eq_some_iff.1 hk).1
        refine ⟨h.next, 0, cs, false, true, 1, rfl, Nat.lt_succ_self _, by simp [Hp.alloc], by omega, ?_⟩
        rw [Nat.zero_add]
        exact hR _ _ _ _ mo.keep (hr k y hk)
theorem law_calls {P : Program} {f : FuncId} {W : World} {E : Emb} {h h' : Hp} {args args' : Array Value} {v : Value} (st : Start E h W) (hs : args.size = args'.size) (hv : ∀ i, i < args.size → VRel E (args.getD i undef) (args'.getD i undef))
    (hc : CallOK P f args h v h') (hp : plainV v = true) : Calls P f args' W fun e W' => e = .returned v ∧ Below W.heap.size W W' := by
  refine (hc E W.heap.size W args' st.rel hs hv).mono fun e W' ⟨E', v', he, s, _, hv'⟩ => ?_
  have hvv : v' = v := by
    clear he s hc hv hs
    unfold plainV at hp
    have key : ∀ {u u' : Value}, plainS u = true → VRel E' u u' → u' = u := by
      intro u u' hu hr
      unfold plainS at hu
      split at hu <;> first | exact absurd hu Bool.false_ne_true | (cases hr; rfl)
    split at hp
    · rename_i cs
      cases hv' with
      | agg _ c' hs' _ hr =>
        congr 1
        exact ext_getD hs'.symm fun i hi => key (all_getD hp (by omega)) (hr i (by omega))
    · rename_i cs
      cases hv' with
      | tuple _ c' hs' hr =>
        congr 1
        exact ext_getD hs'.symm fun i hi => key (all_getD hp (by omega)) (hr i (by omega))
    · exact key hp hv'
  refine ⟨by rw [he, hvv], s.os, s.tape, s.output.out, s.size, fun k hk => ?_⟩
  exact s.keep k hk fun o ho hown => by rw [st.ro o ho] at hown; cases hown
end Go.Eng
end
section
namespace Go.Eng
section
variable {P : Program} {n : Nat} {tm : Nat → Value} {h : Hp} {Q : Exit → (Nat → Value) → Hp → Prop}
end
theorem Sl.form {α : Type} {R : Hp → Value → α → Prop} {h : Hp} {v : Value} {xs : List α} (hs : Sl R h v xs) : ∃ s c, v = .slice s xs.length c ∧ xs.length ≤ c ∧ c < 2 ^ 63 := by
  obtain ⟨s, c, e, hc, hc', _⟩ := hs
  exact ⟨s, c, e, hc, hc'⟩
theorem Sl.short {α : Type} {R : Hp → Value → α → Prop} {h : Hp} {v : Value} {xs : List α} (hs : Sl R h v xs) : xs.length < 2 ^ 63 := by
  obtain ⟨s, c, e, hc, hc'⟩ := hs.form
  omega
theorem Sl.mk {α : Type} {R : Hp → Value → α → Prop} {h : Hp} {o : Nat} {xs : List α} {c : Nat} {cs : List Value} {own ex : Bool} {es : Nat} (ho : o < h.next) (hg : h.get o = .cells cs own ex es) (hc : xs.length ≤ c) (hc' : c < 2 ^ 63)
    (hx : ∀ k (hk : k < xs.length), ∃ u, cs[k]? = some u ∧ R h u xs[k]) : Sl R h (.slice (some ⟨o, 0, none⟩) xs.length c) xs := by
  refine ⟨_, c, rfl, hc, hc', fun k x hk => ⟨o, 0, cs, own, ex, es, rfl, ho, hg, ?_⟩⟩
  obtain ⟨hk', e⟩ := List.getElem?_eq_some_iff.1 hk
  subst e
  obtain ⟨u, h1, h2⟩ := hx k hk'
  refine ⟨by have := (List.getElem?_eq_some_iff.1 h1).1; omega, ?_⟩
  simpa [List.getD_eq_getElem?_getD, h1] using h2
theorem wrap64 {x : Int} (h1 : -9223372036854775808 ≤ x) (h2 : x < 9223372036854775808) : IntKind.wrap .i64 x = x := by
  have e : IntKind.wrap .i64 x = if (true && decide (x % 18446744073709551616 ≥ 9223372036854775808)) = true then x % 18446744073709551616 - 18446744073709551616 else x % 18446744073709551616 := rfl
  rw [e]
  by_cases hc : x % 18446744073709551616 ≥ 9223372036854775808
  · simp only [hc, decide_true, Bool.and_self, if_true]; omega
  · simp only [hc, decide_false, Bool.and_false, Bool.false_eq_true, if_false]; omega
@[simp] theorem keeps_alloc {h h' : Hp} (k : Keeps h h') (x : AObj) : Keeps h (h'.alloc x) := k.trans (Keeps.alloc _ _)
@[simp] theorem keeps_put {h h' : Hp} (k : Keeps h h') {o : Nat} (ho : h.next ≤ o) (x : AObj) : Keeps h (h'.put o x) := k.put ho x
@[simp] theorem adds_self (h : Hp) : Adds h h := Adds.refl h
@[simp] theorem adds_alloc {h h' : Hp} (k : Adds h h') (c : List Value) (e : Bool) (n : Nat) : Adds h (h'.alloc (.cells c true e n)) := k.trans (Adds.alloc _ fun _ => rfl)
@[simp] theorem adds_put {h h' : Hp} (k : Adds h h') {o : Nat} (ho : h.next ≤ o) (c : List Value) (e : Bool) (n : Nat) : Adds h (h'.put o (.cells c true e n)) := k.put ho fun _ => rfl
@[simp] theorem live_cells (c : List Value) (a b : Bool) (n : Nat) : (AObj.cells c a b n).live = true := rfl
@[simp] theorem owned_cells (c : List Value) (a b : Bool) (n : Nat) : (AObj.cells c a b n).owned = a := rfl
@[simp] theorem zcells_int (k : IntKind) (x : Int) (n : Nat) : zcells (.int k x) n = List.replicate n (.int k x) := zcells_one rfl n
attribute [simp] thenP
@[simp] theorem add_1_one (x : Nat) : x + 1 + 1 = x + 2 := rfl
@[simp] theorem add_2_one (x : Nat) : x + 2 + 1 = x + 3 := rfl
@[simp] theorem add_3_one (x : Nat) : x + 3 + 1 = x + 4 := rfl
@[simp] theorem add_4_one (x : Nat) : x + 4 + 1 = x + 5 := rfl
@[simp] theorem add_5_one (x : Nat) : x + 5 + 1 = x + 6 := rfl
@[simp] theorem add_6_one (x : Nat) : x + 6 + 1 = x + 7 := rfl
@[simp] theorem add_7_one (x : Nat) : x + 7 + 1 = x + 8 := rfl
@[simp] theorem add_8_one (x : Nat) : x + 8 + 1 = x + 9 := rfl
@[simp] theorem add_9_one (x : Nat) : x + 9 + 1 = x + 10 := rfl
@[simp] theorem add_10_one (x : Nat) : x + 10 + 1 = x + 11 := rfl
@[simp] theorem add_11_one (x : Nat) : x + 11 + 1 = x + 12 := rfl
@[simp] theorem add_12_one (x : Nat) : x + 12 + 1 = x + 13 := rfl
@[simp] theorem add_13_one (x : Nat) : x + 13 + 1 = x + 14 := rfl
@[simp] theorem add_14_one (x : Nat) : x + 14 + 1 = x + 15 := rfl
@[simp] theorem add_15_one (x : Nat) : x + 15 + 1 = x + 16 := rfl
@[simp] theorem cast_inj (a b : Nat) : ((a : Int) = (b : Int)) ↔ a = b := by omega
def Off (p : Nat) (v : Value) : Prop := ∀ o i n c, v = .slice (some ⟨o, i, none⟩) n c → o ≠ p
def IntsN (n : Nat) (h : Hp) (v : Value) (xs : List Int) : Prop := Ints h v xs ∧ ∀ p, p < n → Off p v
def IRowsN (n : Nat) (h : Hp) (v : Value) (xs : List (List Int)) : Prop := Sl (IntsN n) h v xs ∧ ∀ p, p < n → Off p v
def callV : Op → Bool
  | .call ⟨.value _, _, _⟩ => true
  | _ => false
section
variable {P : Program} {n : Nat} {tm : Nat → Value} {h : Hp} {ops : Array Oper} {rest : List Oper} {R : (Nat → Value) → Hp → Prop} {o : Oper}
def thenX (r : Option (Value × Hp)) (k : Value → Hp → Prop) : Prop := ∃ v h', r = some (v, h') ∧ k v h'
@[simp] theorem thenX_some (v : Value) (h' : Hp) (k : Value → Hp → Prop) : thenX (some (v, h')) k = k v h' :=
  propext ⟨fun ⟨_, _, e, hk⟩ => by cases e; exact hk, fun hk => ⟨v, h', rfl, hk⟩⟩
@[simp] theorem thenX_none (k : Value → Hp → Prop) : thenX none k = False := by simp [thenX]
end
end Go.Eng
end
section
namespace Go.Eng
def Btw (n m o : Nat) : Prop := n ≤ o ∧ o < m
def IntsO (S : Nat → Prop) (h : Hp) (v : Value) (xs : List Int) : Prop :=
  ∃ s c, v = .slice s xs.length c ∧ xs.length ≤ c ∧ c < 2 ^ 63 ∧ (xs.length = 0 ∨ ∃ o i cs ex, s = some ⟨o, i, none⟩ ∧ S o ∧ o < h.next ∧ h.get o = .cells cs true ex 1 ∧ i + c ≤ cs.length ∧
    ∀ k (hk : k < xs.length), cs[i + k]? = some (.int .i64 xs[k]))
def Same (S : Nat → Prop) (h h' : Hp) : Prop := h.next ≤ h'.next ∧ ∀ o, S o → o < h.next → h'.get o = h.get o
theorem Same.of_keeps {S : Nat → Prop} {h h' : Hp} (k : Keeps h h') : Same S h h' := ⟨k.1, fun o _ ho => k.2 o ho⟩
theorem Same.put {S : Nat → Prop} {h h' : Hp} (k : Same S h h') {o : Nat} (ho : ¬ S o) (x : AObj) : Same S h (h'.put o x) := ⟨k.1, fun i hs hi => by simp [show i ≠ o from fun e => ho (e ▸ hs), k.2 i hs hi]⟩
theorem Same.refl (S : Nat → Prop) (h : Hp) : Same S h h := ⟨Nat.le_refl _, fun _ _ _ => rfl⟩
theorem IntsO.same {S : Nat → Prop} {h h' : Hp} (k : Same S h h') {v : Value} {xs : List Int} (hs : IntsO S h v xs) : IntsO S h' v xs := by
  obtain ⟨s, c, e, h1, h2, h3⟩ := hs
  refine ⟨s, c, e, h1, h2, h3.imp id ?_⟩
  rintro ⟨o, i, cs, ex, g1, g2, g3, g4, g5⟩
  exact ⟨o, i, cs, ex, g1, g2, Nat.lt_of_lt_of_le g3 k.1, by rw [k.2 o g2 g3]; exact g4, g5⟩
theorem IntsO.keep {S : Nat → Prop} {h h' : Hp} (k : Keeps h h') {v : Value} {xs : List Int} (hs : IntsO S h v xs) : IntsO S h' v xs := hs.same (.of_keeps k)
theorem IntsO.sub {S T : Nat → Prop} (hst : ∀ o, S o → T o) {h : Hp} {v : Value} {xs : List Int} (hs : IntsO S h v xs) : IntsO T h v xs := by
  obtain ⟨s, c, e, h1, h2, h3⟩ := hs
  exact ⟨s, c, e, h1, h2, h3.imp id fun ⟨o, i, cs, ex, g1, g2, g⟩ => ⟨o, i, cs, ex, g1, hst o g2, g⟩⟩
theorem IntsO.ints {S : Nat → Prop} {h : Hp} {v : Value} {xs : List Int} (hs : IntsO S h v xs) : Ints h v xs := by
  obtain ⟨s, c, e, h1, h2, h3⟩ := hs
  refine ⟨s, c, e, h1, h2, fun k x hk => ?_⟩
  obtain ⟨hk', ek⟩ := List.getElem?_eq_some_iff.1 hk
  subst ek
  rcases h3 with h3 | ⟨o, i, cs, ex, g1, g2, g3, g4, g5, g6⟩
  · omega
  · refine ⟨o, i, cs, true, ex, 1, g1, g3, g4, by omega, ?_⟩
    simp [isInt, List.getD_eq_getElem?_getD, g6 k hk']
theorem IntsO.nil (S : Nat → Prop) (h : Hp) : IntsO S h (.slice none 0 0) [] := ⟨none, 0, rfl, Nat.le_refl _, by decide, .inl rfl⟩
theorem IntsO.mk {S : Nat → Prop} {h : Hp} {o : Nat} {xs : List Int} {ex : Bool} (hS : S o) (ho : o < h.next) (hl : xs.length < 2 ^ 63) (hg : h.get o = .cells (xs.map (.int .i64)) true ex 1) : IntsO S h (.slice (some ⟨o, 0, none⟩) xs.length xs.length) xs :=
  ⟨_, _, rfl, Nat.le_refl _, hl, .inr ⟨o, 0, _, ex, rfl, hS, ho, hg, by simp, fun k hk => by simp [hk]⟩⟩
def IntsA (n : Nat) (h : Hp) (v : Value) (xs : List Int) : Prop :=
  (xs = [] ∧ v = .slice none 0 0) ∨ ∃ o ex, v = .slice (some ⟨o, 0, none⟩) xs.length xs.length ∧ n ≤ o ∧ o < h.next ∧ h.get o = .cells (xs.map (.int .i64)) true ex 1
theorem IntsA.own {n : Nat} {h : Hp} {v : Value} {xs : List Int} (hs : IntsA n h v xs) (hl : xs.length < 2 ^ 63) : IntsO (Btw n h.next) h v xs := by
  rcases hs with ⟨rfl, rfl⟩ | ⟨o, ex, rfl, h1, h2, h3⟩
  · exact .nil _ _
  · exact .mk ⟨h1, h2⟩ h2 hl h3
theorem IntsA.keep {n : Nat} {h h' : Hp} (k : Keeps h h') {v : Value} {xs : List Int} (hs : IntsA n h v xs) : IntsA n h' v xs := by
  rcases hs with ⟨rfl, rfl⟩ | ⟨o, ex, rfl, h1, h2, h3⟩
  · exact .inl ⟨rfl, rfl⟩
  · exact .inr ⟨o, ex, rfl, h1, Nat.lt_of_lt_of_le h2 k.1, by rw [k.2 o h2]; exact h3⟩
section
variable {P : Program}
theorem append_one {n : Nat} {h0 h : Hp} {v : Value} {xs : List Int} {t t' e q b : Nat} {x : Int} {qx : Bool} (hs : IntsA n h v xs) (h1 : elT P t = some e) (h2 : szT P e = some 1) (h3 : zeroT P e = some (.int .i64 0)) (h4 : byT P e = some b)
    (hb : b ≠ 0) (hb8 : b ≤ 8) (h5 : srcT P t' = true) (hq : h.get q = .cells [.int .i64 x] true qx 1) (hl : xs.length < 2 ^ 40) (hn : n ≤ h.next) (hA : Adds h0 h) (h0n : h0.next ≤ n) :
    ∃ v' h', appendD P t t' v (.slice (some ⟨q, 0, none⟩) 1 1) h = some (v', h') ∧ IntsA n h' v' (xs ++ [x]) ∧ Adds h0 h' ∧ h.next < h'.next ∧ ∀ o, o < h.next → o < n → h'.get o = h.get o := by
  have hsrc : srcV h 1 (.slice (some ⟨q, 0, none⟩) 1 1) = some (1, [.int .i64 x]) := by simp [srcV, srcW, hq]
  have hbb : (xs.length + 1) * b ≤ 140737488355328 := Nat.le_trans (Nat.mul_le_mul (Nat.succ_le_of_lt hl) hb8) (by decide)
  have hbb1 : b ≤ 140737488355328 := Nat.le_trans hb8 (by decide)
  have hA1 : Adds h0 h := hA
  rcases hs with ⟨rfl, rfl⟩ | ⟨o, ex, rfl, g1, g2, g3⟩
  · refine ⟨.slice (some ⟨h.next, 0, none⟩) 1 1, h.alloc (.cells [.int .i64 x] true false 1), ?_, .inr ⟨h.next, false, rfl, hn, Nat.lt_succ_self _, by simp⟩, by simp [hA], Nat.lt_succ_self _, fun o ho _ => by simp [Nat.ne_of_lt ho]⟩
    simp only [appendD, h1, h2, h3, h4, hsrc, h5]
    simp [Value.cells, hb, hbb1]
  · refine ⟨.slice (some ⟨h.next, 0, none⟩) (xs.length + 1) (xs.length + 1), growHp h o ex (.cells (xs.map (.int .i64) ++ [.int .i64 x]) true false 1), ?_, .inr ⟨h.next, false, by simp, hn, ?_, ?_⟩, hA.grow (by omega) (fun _ => rfl), ?_, fun i hi hin => ?_⟩
    · simp only [appendD, h1, h2, h3, h4, hsrc, h5]
      have ht : (xs.map (Value.int .i64)).take xs.length = xs.map (.int .i64) := List.take_of_length_le (by simp)
      simp [Value.cells, hb, g3, hbb, ht]
    · cases ex <;> simp [growHp]
    · cases ex <;> simp [growHp]
    · cases ex <;> simp [growHp]
    · have e1 : i ≠ h.next := by omega
      have e2 : i ≠ o := by omega
      cases ex <;> simp [growHp, e1, e2]
end
end Go.Eng
end
section
namespace Go.Eng
def FrameL : List Nat → (Nat → Value) → (Nat → Value) → Prop
  | [], _, _ => True
  | s :: l, a, b => b s = a s ∧ FrameL l a b
theorem FrameL.refl : ∀ (l : List Nat) (a : Nat → Value), FrameL l a a
  | [], _ => trivial
  | _ :: l, a => ⟨rfl, FrameL.refl l a⟩
theorem FrameL.trans : ∀ {l : List Nat} {a b c : Nat → Value}, FrameL l a b → FrameL l b c → FrameL l a c
  | [], _, _, _, _, _ => trivial
  | _ :: _, _, _, _, h, k => ⟨k.1.trans h.1, FrameL.trans h.2 k.2⟩
section
variable {P : Program} {n : Nat} {tm : Nat → Value} {h : Hp} {Q : Exit → (Nat → Value) → Hp → Prop}
variable {ops : Array Oper} {rest : List Oper} {R : (Nat → Value) → Hp → Prop} {o : Oper}
end
theorem Sl.lenD {α : Type} {R : Hp → Value → α → Prop} {h : Hp} {v : Value} {xs : List α} (hs : Sl R h v xs) : ∀ (P : Program) (t : TypeId), Go.Eng.lenD P t v = (elT P t).map fun _ => .int .i64 xs.length := by
  obtain ⟨s, c, rfl, _, _⟩ := hs.form
  intro P t
  unfold Go.Eng.lenD
  cases elT P t <;> rfl
theorem Sl.nt {α : Type} {R : Hp → Value → α → Prop} {h : Hp} {v : Value} {xs : List α} (hs : Sl R h v xs) : notTup v = true := by
  obtain ⟨s, c, rfl, _, _⟩ := hs.form; rfl
theorem Sl.cs {α : Type} {R : Hp → Value → α → Prop} {h : Hp} {v : Value} {xs : List α} (hs : Sl R h v xs) : v.cells = #[v] := by
  obtain ⟨s, c, rfl, _, _⟩ := hs.form; rfl
theorem Ints.lenD {h : Hp} {v : Value} {xs : List Int} (hs : Ints h v xs) : ∀ (P : Program) (t : TypeId), Go.Eng.lenD P t v = (elT P t).map fun _ => .int .i64 xs.length := Sl.lenD hs
theorem Ints.nt {h : Hp} {v : Value} {xs : List Int} (hs : Ints h v xs) : notTup v = true := Sl.nt hs
theorem Ints.cs {h : Hp} {v : Value} {xs : List Int} (hs : Ints h v xs) : v.cells = #[v] := Sl.cs hs
theorem Ints.len {h : Hp} {v : Value} {xs : List Int} (hs : Ints h v xs) : xs.length < 2 ^ 63 := Sl.short hs
theorem IRows.lenD {h : Hp} {v : Value} {xs : List (List Int)} (hs : IRows h v xs) : ∀ (P : Program) (t : TypeId), Go.Eng.lenD P t v = (elT P t).map fun _ => .int .i64 xs.length := Sl.lenD hs
theorem IRows.nt {h : Hp} {v : Value} {xs : List (List Int)} (hs : IRows h v xs) : notTup v = true := Sl.nt hs
theorem IRows.cs {h : Hp} {v : Value} {xs : List (List Int)} (hs : IRows h v xs) : v.cells = #[v] := Sl.cs hs
theorem IRows.len {h : Hp} {v : Value} {xs : List (List Int)} (hs : IRows h v xs) : xs.length < 2 ^ 63 := Sl.short hs
theorem Sl.open {α : Type} {R : Hp → Value → α → Prop} {h : Hp} {v : Value} {xs : List α} (hs : Sl R h v xs) (hne : 0 < xs.length) :
    ∃ o i c cs own ex es, v = .slice (some ⟨o, i, none⟩) xs.length c ∧ o < h.next ∧ h.get o = .cells cs own ex es ∧ i + xs.length ≤ cs.length ∧ ∀ k (hk : k < xs.length), R h (cs.getD (i + k) undef) xs[k] := by
  obtain ⟨s, c, e, hc, hc', hx⟩ := hs
  obtain ⟨o, i, cs, own, ex, es, h1, h2, h3, h4, h5⟩ := hx 0 xs[0] (List.getElem?_eq_getElem hne)
  have key : ∀ k (hk : k < xs.length), i + k < cs.length ∧ R h (cs.getD (i + k) undef) xs[k] := fun k hk => by
    obtain ⟨o', i', cs', own', ex', es', h1', h2', h3', h4', h5'⟩ := hx k xs[k] (List.getElem?_eq_getElem hk)
    rw [h1] at h1'
    cases h1'
    rw [h3] at h3'
    cases h3'
    exact ⟨h4', h5'⟩
  exact ⟨o, i, c, cs, own, ex, es, by rw [e, h1], h2, h3, by have := (key (xs.length - 1) (by omega)).1; omega, fun k hk => (key k hk).2⟩
theorem Ints.open {h : Hp} {v : Value} {xs : List Int} (hs : Ints h v xs) (hne : 0 < xs.length) :
    ∃ o i c cs own ex es, v = .slice (some ⟨o, i, none⟩) xs.length c ∧ o < h.next ∧ h.get o = .cells cs own ex es ∧ i + xs.length ≤ cs.length ∧ ∀ k (hk : k < xs.length) (h2 : i + k < cs.length), cs[i + k] = .int .i64 xs[k] := by
  obtain ⟨o, i, c, cs, own, ex, es, h1, h2, h3, h4, h5⟩ := Sl.open hs hne
  exact ⟨o, i, c, cs, own, ex, es, h1, h2, h3, h4, fun k hk h2 => by have := h5 k hk; rw [List.getD_eq_getElem?_getD, List.getElem?_eq_getElem h2] at this; exact this⟩
theorem IRows.open {h : Hp} {v : Value} {xs : List (List Int)} (hs : IRows h v xs) (hne : 0 < xs.length) :
    ∃ o i c cs own ex es, ∃ us : Nat → Value, v = .slice (some ⟨o, i, none⟩) xs.length c ∧ o < h.next ∧ h.get o = .cells cs own ex es ∧ i + xs.length ≤ cs.length ∧ (∀ k, k < xs.length → ∀ h2 : i + k < cs.length, cs[i + k] = us k) ∧ ∀ k (hk : k < xs.length), Ints h (us k) xs[k] := by
  obtain ⟨o, i, c, cs, own, ex, es, h1, h2, h3, h4, h5⟩ := Sl.open hs hne
  exact ⟨o, i, c, cs, own, ex, es, fun k => cs.getD (i + k) undef, h1, h2, h3, h4, fun k _ h2 => by simp [h2], fun k hk => h5 k hk⟩
theorem wrap64c (x : Int) (h1 : -9223372036854775808 ≤ x) (h2 : x < 9223372036854775808) : IntKind.wrap .i64 x = x := wrap64 h1 h2
end Go.Eng
end
section
namespace Go.Eng
theorem IntsO.lenD {S : Nat → Prop} {h : Hp} {v : Value} {xs : List Int} (hs : IntsO S h v xs) : ∀ (P : Program) (t : TypeId), Go.Eng.lenD P t v = (elT P t).map fun _ => .int .i64 xs.length := hs.ints.lenD
theorem IntsO.nt {S : Nat → Prop} {h : Hp} {v : Value} {xs : List Int} (hs : IntsO S h v xs) : notTup v = true := hs.ints.nt
theorem IntsO.cs {S : Nat → Prop} {h : Hp} {v : Value} {xs : List Int} (hs : IntsO S h v xs) : v.cells = #[v] := hs.ints.cs
def Upd (S : Nat → Prop) (h h' : Hp) : Prop := h.next ≤ h'.next ∧ ∀ o, o < h.next → ¬ S o → h'.get o = h.get o
theorem Upd.refl (S : Nat → Prop) (h : Hp) : Upd S h h := ⟨Nat.le_refl _, fun _ _ _ => rfl⟩
theorem Upd.trans {S : Nat → Prop} {a b c : Hp} (k : Upd S a b) (l : Upd S b c) : Upd S a c := ⟨Nat.le_trans k.1 l.1, fun o ho hs => (l.2 o (Nat.lt_of_lt_of_le ho k.1) hs).trans (k.2 o ho hs)⟩
theorem Upd.of_keeps {S : Nat → Prop} {h h' : Hp} (k : Keeps h h') : Upd S h h' := ⟨k.1, fun o ho _ => k.2 o ho⟩
theorem Upd.put {S : Nat → Prop} {h h' : Hp} (k : Upd S h h') {o : Nat} (ho : S o) (x : AObj) : Upd S h (h'.put o x) := ⟨k.1, fun i hi hs => by simp [show i ≠ o from fun e => hs (e ▸ ho), k.2 i hi hs]⟩
theorem Upd.mono {S T : Nat → Prop} {h h' : Hp} (k : Upd S h h') (hst : ∀ o, o < h.next → S o → T o) : Upd T h h' := ⟨k.1, fun o ho hs => k.2 o ho fun e => hs (hst o ho e)⟩
theorem Upd.keeps {S : Nat → Prop} {a h h' : Hp} (k : Upd S h h') (ha : Keeps a h) (hs : ∀ o, S o → a.next ≤ o) : Keeps a h' :=
  ⟨Nat.le_trans ha.1 k.1, fun o ho => (k.2 o (Nat.lt_of_lt_of_le ho ha.1) fun e => by have := hs o e; omega).trans (ha.2 o ho)⟩
theorem Upd.same {S T : Nat → Prop} {h h' : Hp} (k : Upd S h h') (hd : ∀ o, T o → ¬ S o) : Same T h h' := ⟨k.1, fun o ht ho => k.2 o ho (hd o ht)⟩
theorem Adds.keeps {h h' : Hp} (k : Adds h h') : Keeps h h' := k.1
theorem zarr_list (z : Value) (n : Nat) : zarr #[z] n = (List.replicate n z).toArray := by
  unfold zarr
  apply Array.ext
  · simp
  · intro i h1 h2
    simp at h1
    simp [Nat.mod_one]
@[simp] theorem zarr_0 (z : Value) : zarr #[z] 0 = #[] := by rw [zarr_list]; rfl
@[simp] theorem zarr_1 (z : Value) : zarr #[z] 1 = #[z] := by rw [zarr_list]; rfl
@[simp] theorem zarr_2 (z : Value) : zarr #[z] 2 = #[z, z] := by rw [zarr_list]; rfl
@[simp] theorem zarr_5 (z : Value) : zarr #[z] 5 = #[z, z, z, z, z] := by rw [zarr_list]; rfl
attribute [simp] Instr.fill
def partsOk (tm : Nat → Value) : List (Nat × Operand) → Bool
  | [] => true
  | q :: l => okX q.2 && notTup (ev tm q.2) && partsOk tm l
def partsV (tm : Nat → Value) : List (Nat × Operand) → List (Nat × Value)
  | [] => []
  | q :: l => (q.1, ev tm q.2) :: partsV tm l
theorem partsOk_eq (tm : Nat → Value) (parts : Array (Nat × Operand)) : (parts.all (fun q => okX q.2) && parts.all (fun q => notTup (ev tm q.2))) = partsOk tm parts.toList := by
  rw [← Array.all_toList, ← Array.all_toList]
  induction parts.toList with
  | nil => rfl
  | cons q l ih =>
    simp only [List.all_cons, partsOk, ← ih]
    generalize okX q.2 = a
    generalize notTup (ev tm q.2) = b
    generalize (l.all fun q => okX q.2) = c
    generalize (l.all fun q => notTup (ev tm q.2)) = d
    cases a <;> cases b <;> cases c <;> cases d <;> rfl
theorem partsV_eq (tm : Nat → Value) (parts : Array (Nat × Operand)) : (parts.map fun (i, x) => (i, ev tm x)).toList = partsV tm parts.toList := by
  rw [Array.toList_map]
  induction parts.toList with
  | nil => rfl
  | cons q l ih => simp only [List.map_cons, partsV, ← ih]
def buildX (P : Program) (t : TypeId) (l : List (Nat × Value)) : Option Value := match zeroT P t with
  | some z => if plainV z && notTup z then
      match placesT P t with
      | some pl => (Instr.fill (pl[·]?) z.cells l).map fun r => .agg r
      | none => match arT P t with
        | some (_, e) => match szT P e with
          | some m => (Instr.fill (fun i => some (i * m, m)) z.cells l).map fun r => .agg r
          | none => none
        | none => none
    else none
  | none => none
def litX (P : Program) (t : TypeId) (n : Nat) (l : List (Nat × Value)) (h : Hp) : Option (Value × Hp) := match elT P t with
  | some e => match szT P e, zeroT P e with
    | some m, some z => if plainV z && notTup z && decide (z.cells.size = m) && decide (n * m ≤ 2 ^ 24) then
        match Instr.fill (fun i => some (i * m, m)) (zarr z.cells (n * m)) l with
        | some r => if r.size = n * m then some (.slice (some ⟨h.next, 0, none⟩) n n, h.alloc (.cells r.toList true true m)) else none
        | none => none
      else none
    | _, _ => none
  | none => none
@[simp ↓ high] theorem opD_build (P : Program) (t : TypeId) (parts : Array (Nat × Operand)) (tm : Nat → Value) (h : Hp) : opD P (.build t parts) tm h =
    if partsOk tm parts.toList = true then (buildX P t (partsV tm parts.toList)).map fun v => (v, h) else none := by
  simp only [opD, partsOk_eq, partsV_eq, buildX]
  by_cases hp : partsOk tm parts.toList = true
  · rw [if_pos hp, if_pos hp]
    cases hz : zeroT P t with
    | none => rfl
    | some z =>
      simp only
      by_cases hb : (plainV z && notTup z) = true
      · rw [if_pos hb, if_pos hb]
        cases hq : placesT P t with
        | some pl => simp only [Option.map_map, Function.comp_def]
        | none =>
          cases ha : arT P t with
          | none => rfl
          | some q =>
            obtain ⟨n, e⟩ := q
            simp only
            cases hs : szT P e with
            | none => rfl
            | some m => simp only [Option.map_map, Function.comp_def]
      · rw [if_neg hb, if_neg hb]; rfl
  · rw [if_neg hp, if_neg hp]
@[simp ↓ high] theorem opD_buildSlice (P : Program) (t : TypeId) (n : Nat) (parts : Array (Nat × Operand)) (tm : Nat → Value) (h : Hp) : opD P (.buildSlice t n parts) tm h =
    if partsOk tm parts.toList = true then litX P t n (partsV tm parts.toList) h else none := by
  simp only [opD, partsOk_eq, partsV_eq, litX]
  rfl
@[simp] theorem partsOk_nil (tm : Nat → Value) : partsOk tm [] = true := rfl
@[simp] theorem partsOk_cons (tm : Nat → Value) (i : Nat) (x : Operand) (l : List (Nat × Operand)) : partsOk tm ((i, x) :: l) = (okX x && notTup (ev tm x) && partsOk tm l) := rfl
@[simp] theorem partsV_nil (tm : Nat → Value) : partsV tm [] = [] := rfl
@[simp] theorem partsV_cons (tm : Nat → Value) (i : Nat) (x : Operand) (l : List (Nat × Operand)) : partsV tm ((i, x) :: l) = (i, ev tm x) :: partsV tm l := rfl
attribute [simp] buildX litX
def IRowsO (S : Nat → Prop) (h : Hp) (v : Value) (L : List (List Int)) : Prop :=
  ∃ s c, v = .slice s L.length c ∧ L.length ≤ c ∧ c < 2 ^ 63 ∧ (L.length = 0 ∨ ∃ o i cs ex, ∃ us : Nat → Value, ∃ T : Nat → Nat → Prop, s = some ⟨o, i, none⟩ ∧ S o ∧ o < h.next ∧ h.get o = .cells cs true ex 1 ∧ i + c ≤ cs.length ∧
    (∀ k, k < L.length → cs[i + k]?.getD undef = us k) ∧ (∀ k x, T k x → S x ∧ x ≠ o) ∧ (∀ k k' x, T k x → T k' x → k = k') ∧ ∀ k (hk : k < L.length), IntsO (T k) h (us k) L[k])
theorem IRowsO.rows {S : Nat → Prop} {h : Hp} {v : Value} {L : List (List Int)} (hs : IRowsO S h v L) : IRows h v L := by
  obtain ⟨s, c, e, h1, h2, h3⟩ := hs
  refine ⟨s, c, e, h1, h2, fun k x hk => ?_⟩
  obtain ⟨hk', ek⟩ := List.getElem?_eq_some_iff.1 hk
  subst ek
  rcases h3 with h3 | ⟨o, i, cs, ex, us, T, g1, g2, g3, g4, g5, g6, g7, g8, g9⟩
  · omega
  · refine ⟨o, i, cs, true, ex, 1, g1, g3, g4, by omega, ?_⟩
    rw [List.getD_eq_getElem?_getD, g6 k hk']
    exact (g9 k hk').ints
theorem IRowsO.nil (S : Nat → Prop) (h : Hp) : IRowsO S h (.slice none 0 0) [] := ⟨none, 0, rfl, Nat.le_refl _, by decide, .inl rfl⟩
def RowsB (n o : Nat) (h : Hp) (us : List Value) (L : List (List Int)) : Prop :=
  us.length = L.length ∧ ∃ T : Nat → Nat → Prop, (∀ k x, T k x → n ≤ x ∧ x < h.next ∧ x ≠ o) ∧ (∀ k k' x, T k x → T k' x → k = k') ∧ ∀ k (hk : k < L.length), IntsO (T k) h (us.getD k undef) L[k]
theorem RowsB.same {n o : Nat} {h h' : Hp} {us : List Value} {L : List (List Int)} (hs : RowsB n o h us L) (k : Same (fun x => n ≤ x ∧ x ≠ o) h h') : RowsB n o h' us L := by
  obtain ⟨h1, T, h2, h3, h4⟩ := hs
  exact ⟨h1, T, fun q x hq => ⟨(h2 q x hq).1, Nat.lt_of_lt_of_le (h2 q x hq).2.1 k.1, (h2 q x hq).2.2⟩, h3, fun q hq => (h4 q hq).same ⟨k.1, fun x hx hx' => k.2 x ⟨(h2 q x hx).1, (h2 q x hx).2.2⟩ hx'⟩⟩
theorem RowsB.other {n o p : Nat} {h : Hp} {us : List Value} {L : List (List Int)} (hs : RowsB n o h us L) (hp : h.next ≤ p) : RowsB n p h us L := by
  obtain ⟨h1, T, h2, h3, h4⟩ := hs
  exact ⟨h1, T, fun q x hq => ⟨(h2 q x hq).1, (h2 q x hq).2.1, by have := (h2 q x hq).2.1; omega⟩, h3, h4⟩
theorem RowsB.snoc {n o : Nat} {h h' : Hp} {us : List Value} {L : List (List Int)} {u : Value} {r : List Int} (hs : RowsB n o h us L) (hk : Keeps h h') (ho : o < h.next) (hn : n ≤ h.next) (hr : IntsO (Btw h.next h'.next) h' u r) : RowsB n o h' (us ++ [u]) (L ++ [r]) := by
  have hs' := hs.same (.of_keeps hk)
  obtain ⟨h1, T, h2, h3, h4⟩ := hs
  obtain ⟨_, _⟩ := hs'
  refine ⟨by simp [h1], fun k x => if k < L.length then T k x else k = L.length ∧ Btw h.next h'.next x, fun k x hx => ?_, fun k k' x hx hx' => ?_, fun k hk' => ?_⟩
  · by_cases e : k < L.length
    · simp only [e, if_true] at hx; have := h2 k x hx; have := hk.1; omega
    · simp only [e, if_false] at hx; have := hx.2; unfold Btw at this; omega
  · by_cases e : k < L.length <;> by_cases e' : k' < L.length <;> simp only [e, e', if_true, if_false] at hx hx'
    · exact h3 k k' x hx hx'
    · have := h2 k x hx; have := hx'.2; unfold Btw at this; omega
    · have := h2 k' x hx'; have := hx.2; unfold Btw at this; omega
    · omega
  · by_cases e : k < L.length
    · simp only [e, if_true]
      rw [List.getElem_append_left e, show (us ++ [u]).getD k undef = us.getD k undef from getD_append_left (by omega)]
      exact (h4 k e).keep hk
    · have ek : k = L.length := by simp at hk'; omega
      subst ek
      have : (us ++ [u]).getD L.length undef = u := by simp [List.getD_eq_getElem?_getD, ← h1]
      rw [this]
      have e2 : (fun x => if L.length < L.length then T L.length x else L.length = L.length ∧ Btw h.next h'.next x) = Btw h.next h'.next := by funext x; simp
      show IntsO (fun x => if L.length < L.length then T L.length x else L.length = L.length ∧ Btw h.next h'.next x) h' u _
      rw [e2]
      simpa using hr
def IRowsA (n : Nat) (h : Hp) (v : Value) (L : List (List Int)) : Prop :=
  (L = [] ∧ v = .slice none 0 0) ∨ ∃ o ex us, v = .slice (some ⟨o, 0, none⟩) L.length L.length ∧ n ≤ o ∧ o < h.next ∧ h.get o = .cells us true ex 1 ∧ RowsB n o h us L
theorem IRowsA.own {n : Nat} {h : Hp} {v : Value} {L : List (List Int)} (hs : IRowsA n h v L) (hl : L.length < 2 ^ 63) : IRowsO (Btw n h.next) h v L := by
  rcases hs with ⟨rfl, rfl⟩ | ⟨o, ex, us, rfl, h1, h2, h3, h4, T, h5, h6, h7⟩
  · exact .nil _ _
  · refine ⟨_, _, rfl, Nat.le_refl _, hl, .inr ⟨o, 0, us, ex, fun k => us.getD k undef, T, rfl, ⟨h1, h2⟩, h2, h3, by omega, fun k _ => by simp, fun k x hk => ⟨⟨(h5 k x hk).1, (h5 k x hk).2.1⟩, (h5 k x hk).2.2⟩, h6, h7⟩⟩
theorem IRowsA.nt {n : Nat} {h : Hp} {v : Value} {L : List (List Int)} (hs : IRowsA n h v L) : notTup v = true := by
  rcases hs with ⟨rfl, rfl⟩ | ⟨o, ex, us, rfl, _⟩ <;> rfl
theorem IntsA.nt {n : Nat} {h : Hp} {v : Value} {L : List Int} (hs : IntsA n h v L) : notTup v = true := by
  rcases hs with ⟨rfl, rfl⟩ | ⟨o, ex, rfl, _⟩ <;> rfl
theorem IntsA.lenD {n : Nat} {h : Hp} {v : Value} {L : List Int} (hs : IntsA n h v L) (P : Program) (t : TypeId) : Go.Eng.lenD P t v = (elT P t).map fun _ => .int .i64 L.length := by
  rcases hs with ⟨rfl, rfl⟩ | ⟨o, ex, rfl, _⟩ <;> simp
theorem IntsA.nil (n : Nat) (h : Hp) : IntsA n h (.slice none 0 0) [] := .inl ⟨rfl, rfl⟩
theorem IRowsA.nil (n : Nat) (h : Hp) : IRowsA n h (.slice none 0 0) [] := .inl ⟨rfl, rfl⟩
theorem IntsA.lit {n : Nat} {h : Hp} {o : Nat} {ex : Bool} (h1 : n ≤ o) (h2 : o < h.next) (h3 : h.get o = .cells [] true ex 1) : IntsA n h (.slice (some ⟨o, 0, none⟩) 0 0) [] := .inr ⟨o, ex, rfl, h1, h2, h3⟩
section
variable {P : Program}
theorem append_row {n : Nat} {h0 h1 h : Hp} {v : Value} {L : List (List Int)} {t t' e q b : Nat} {u : Value} {r : List Int} {qx : Bool} (hs : IRowsA n h1 v L) (hk1 : Keeps h1 h) (hu : IntsO (Btw h1.next h.next) h u r) 
    (h1t : elT P t = some e) (h2 : szT P e = some 1) (h3 : zeroT P e = some (.slice none 0 0)) (h4 : byT P e = some b)
    (hb : b ≠ 0) (hb8 : b ≤ 24) (h5 : srcT P t' = true) (hq : h.get q = .cells [u] true qx 1) (hl : L.length < 2 ^ 40) (hn : n ≤ h1.next) (hA : Adds h0 h) (h0n : h0.next ≤ n) :
    ∃ v' h', appendD P t t' v (.slice (some ⟨q, 0, none⟩) 1 1) h = some (v', h') ∧ IRowsA n h' v' (L ++ [r]) ∧ Adds h0 h' ∧ h.next < h'.next ∧ ∀ o, o < h.next → o < n → h'.get o = h.get o := by
  have hsrc : srcV h 1 (.slice (some ⟨q, 0, none⟩) 1 1) = some (1, [u]) := by simp [srcV, srcW, hq]
  have hbb : (L.length + 1) * b ≤ 140737488355328 := Nat.le_trans (Nat.mul_le_mul (Nat.succ_le_of_lt hl) hb8) (by decide)
  have hbb1 : b ≤ 140737488355328 := Nat.le_trans hb8 (by decide)
  have hhn : h1.next ≤ h.next := hk1.1
  rcases hs with ⟨rfl, rfl⟩ | ⟨o, ex, us, rfl, g1, g2, g3, g4⟩
  · have hB : RowsB n h.next (h.alloc (.cells [u] true false 1)) [u] [r] := by
      refine ⟨rfl, fun k x => k = 0 ∧ Btw h1.next h.next x, fun k x hx => ?_, fun k k' x hx hx' => by omega, fun k hk => ?_⟩
      · have := hx.2; unfold Btw at this; simp; omega
      · have hk0 : k = 0 := by simp at hk; exact hk
        subst hk0
        have e2 : (fun x => 0 = 0 ∧ Btw h1.next h.next x) = Btw h1.next h.next := by funext x; simp
        show IntsO (fun x => 0 = 0 ∧ Btw h1.next h.next x) _ _ _
        rw [e2]
        simpa using hu.keep (Keeps.alloc _ _)
    refine ⟨.slice (some ⟨h.next, 0, none⟩) 1 1, h.alloc (.cells [u] true false 1), ?_, .inr ⟨h.next, false, [u], rfl, Nat.le_trans hn hhn, Nat.lt_succ_self _, by simp, hB⟩, by simp [hA], Nat.lt_succ_self _, fun o ho _ => by simp [Nat.ne_of_lt ho]⟩
    simp only [appendD, h1t, h2, h3, h4, hsrc, h5]
    simp [Value.cells, hb, hbb1]
  · have hus : us.length = L.length := g4.1
    have g3' : h.get o = .cells us true ex 1 := by rw [hk1.2 o g2]; exact g3
    have hB1 : RowsB n o h (us ++ [u]) (L ++ [r]) := g4.snoc hk1 g2 hn hu
    have hB2 : RowsB n h.next (growHp h o ex (.cells (us ++ [u]) true false 1)) (us ++ [u]) (L ++ [r]) := by
      have := (hB1.other (p := h.next) (Nat.le_refl _))
      obtain ⟨a1, T, a2, a3, a4⟩ := hB1
      refine ⟨a1, T, fun k x hx => ?_, a3, fun k hk => (a4 k hk).same ⟨?_, fun x hx hx' => ?_⟩⟩
      · have := a2 k x hx; cases ex <;> simp [growHp] <;> omega
      · cases ex <;> simp [growHp]
      · have := a2 k x hx
        have e1 : x ≠ h.next := by omega
        have e2 : x ≠ o := this.2.2
        cases ex <;> simp [growHp, e1, e2]
    refine ⟨.slice (some ⟨h.next, 0, none⟩) (L.length + 1) (L.length + 1), growHp h o ex (.cells (us ++ [u]) true false 1), ?_, .inr ⟨h.next, false, us ++ [u], by simp, Nat.le_trans hn hhn, ?_, ?_, hB2⟩, hA.grow (by omega) (fun _ => rfl), ?_, fun i hi hin => ?_⟩
    · simp only [appendD, h1t, h2, h3, h4, hsrc, h5]
      have ht : us.take L.length = us := List.take_of_length_le (by omega)
      simp [Value.cells, hb, g3', hbb, ht, hus]
    · cases ex <;> simp [growHp]
    · cases ex <;> simp [growHp]
    · cases ex <;> simp [growHp]
    · have e1 : i ≠ h.next := by omega
      have e2 : i ≠ o := by omega
      cases ex <;> simp [growHp, e1, e2]
theorem srcV_zero (h : Hp) (m : Nat) (s : Option Addr) (c : Nat) : srcV h m (.slice s 0 c) = some (0, []) := by
  unfold srcV
  split
  · rename_i r hr
    unfold srcW at hr
    split at hr
    · exact hr.symm
    · rename_i q j n' c' heq
      injection heq with e1 e2 e3
      subst e2
      split at hr
      · split at hr
        · simpa using hr.symm
        · cases hr
      · cases hr
    · rename_i heq; cases heq
    · cases hr
  · rfl
theorem Ints.src {h : Hp} {v : Value} {xs : List Int} (hs : Ints h v xs) : srcV h 1 v = some (xs.length, xs.map (.int .i64)) := by
  by_cases h0 : xs.length = 0
  · obtain ⟨s, c, e, _, _⟩ := Sl.form hs
    have := List.length_eq_zero_iff.1 h0
    subst this
    rw [e]
    exact srcV_zero _ _ _ _
  · obtain ⟨o, i, c, cs, own, ex, es, e, _, hg, hl, hr⟩ := hs.open (by omega)
    have hb : i + xs.length * 1 ≤ cs.length := by omega
    have he : (cs.drop i).take (xs.length * 1) = xs.map (.int .i64) := by
      apply List.ext_getElem?
      intro k
      by_cases hk : k < xs.length
      · have h1 := hr k hk
        have h2 : i + k < cs.length := by omega
        have h1 := hr k hk h2
        simp [hk, h2, h1]
      · rw [List.getElem?_eq_none (by simp; omega), List.getElem?_eq_none (by simpa using hk)]
    rw [e]
    simp only [srcV, srcW, hg, hb, if_true, he]
theorem append_ints {n : Nat} {h0 h : Hp} {v y : Value} {xs ys : List Int} {t t' e b : Nat} (hs : IntsA n h v xs) (hy : Ints h y ys) (h1 : elT P t = some e) (h2 : szT P e = some 1) (h3 : zeroT P e = some (.int .i64 0)) (h4 : byT P e = some b)
    (hb : b ≠ 0) (hb8 : b ≤ 8) (h5 : srcT P t' = true) (hl : xs.length + ys.length < 2 ^ 40) (hn : n ≤ h.next) (hA : Adds h0 h) (h0n : h0.next ≤ n) :
    ∃ v' h', appendD P t t' v y h = some (v', h') ∧ IntsA n h' v' (xs ++ ys) ∧ Adds h0 h' ∧ h.next ≤ h'.next ∧ ∀ o, o < h.next → o < n → h'.get o = h.get o := by
  have hsrc := hy.src
  by_cases hy0 : ys.length = 0
  · have := List.length_eq_zero_iff.1 hy0
    subst this
    refine ⟨v, h, ?_, by simpa using hs, hA, Nat.le_refl _, fun _ _ _ => rfl⟩
    simp only [appendD, h1, h2, h3, h4, hsrc, h5]
    rcases hs with ⟨rfl, rfl⟩ | ⟨o, ex, rfl, g1, g2, g3⟩ <;> simp [Value.cells, hb]
  have hbb : (xs.length + ys.length) * b ≤ 140737488355328 := Nat.le_trans (Nat.mul_le_mul (Nat.le_of_lt hl) hb8) (by decide)
  have hbb1 : ys.length * b ≤ 140737488355328 := Nat.le_trans (Nat.mul_le_mul_right _ (by omega)) hbb
  have hne : ys ≠ [] := fun e => hy0 (by rw [e]; rfl)
  rcases hs with ⟨rfl, rfl⟩ | ⟨o, ex, rfl, g1, g2, g3⟩
  · refine ⟨.slice (some ⟨h.next, 0, none⟩) ys.length ys.length, h.alloc (.cells (ys.map (.int .i64)) true false 1), ?_, .inr ⟨h.next, false, rfl, hn, Nat.lt_succ_self _, by simp⟩, by simp [hA], Nat.le_succ _, fun o ho _ => by simp [Nat.ne_of_lt ho]⟩
    simp only [appendD, h1, h2, h3, h4, hsrc, h5]
    simp [Value.cells, hb, hbb1, hne]
  · refine ⟨.slice (some ⟨h.next, 0, none⟩) (xs.length + ys.length) (xs.length + ys.length), growHp h o ex (.cells (xs.map (.int .i64) ++ ys.map (.int .i64)) true false 1), ?_, .inr ⟨h.next, false, by simp, hn, ?_, ?_⟩, hA.grow (by omega) (fun _ => rfl), ?_, fun i hi hin => ?_⟩
    · simp only [appendD, h1, h2, h3, h4, hsrc, h5]
      have ht : (xs.map (Value.int .i64)).take xs.length = xs.map (.int .i64) := List.take_of_length_le (by simp)
      have hlt : 0 < ys.length := by omega
      simp [Value.cells, hb, g3, hbb, ht, hne, hlt]
    · cases ex <;> simp [growHp]
    · cases ex <;> simp [growHp]
    · cases ex <;> simp [growHp]
    · have e1 : i ≠ h.next := by omega
      have e2 : i ≠ o := by omega
      cases ex <;> simp [growHp, e1, e2]
end
end Go.Eng
end
section
namespace Go.Eng
def SlF {α : Type} (F : Nat → Prop) (R : Hp → Value → α → Prop) (h : Hp) (v : Value) (xs : List α) : Prop :=
  ∃ s c, v = .slice s xs.length c ∧ xs.length ≤ c ∧ c < 2 ^ 63 ∧ ∀ k x, xs[k]? = some x → ∃ o i cs own ex es, s = some ⟨o, i, none⟩ ∧ F o ∧ o < h.next ∧ h.get o = .cells cs own ex es ∧ i + k < cs.length ∧ R h (cs.getD (i + k) undef) x
def IntsF (F : Nat → Prop) : Hp → Value → List Int → Prop := SlF F isInt
def IRowsF (F : Nat → Prop) : Hp → Value → List (List Int) → Prop := SlF F (IntsF F)
theorem SlF.sl {α : Type} {F : Nat → Prop} {R : Hp → Value → α → Prop} {h : Hp} {v : Value} {xs : List α} (hs : SlF F R h v xs) : Sl R h v xs := by
  obtain ⟨s, c, e, hc, hc', hx⟩ := hs
  exact ⟨s, c, e, hc, hc', fun k x hk => let ⟨o, i, cs, own, ex, es, h1, _, h2, h3, h4, h5⟩ := hx k x hk; ⟨o, i, cs, own, ex, es, h1, h2, h3, h4, h5⟩⟩
theorem SlF.mono {α : Type} {F G : Nat → Prop} {R R' : Hp → Value → α → Prop} {h h' : Hp} (hR : ∀ u x, R h u x → R' h' u x) (hfg : ∀ o, F o → G o) (hk : Same F h h') {v : Value} {xs : List α} (hs : SlF F R h v xs) : SlF G R' h' v xs := by
  obtain ⟨s, c, e, hc, hc', hx⟩ := hs
  refine ⟨s, c, e, hc, hc', fun k x hk' => ?_⟩
  obtain ⟨o, i, cs, own, ex, es, h1, hf, h2, h3, h4, h5⟩ := hx k x hk'
  exact ⟨o, i, cs, own, ex, es, h1, hfg o hf, Nat.lt_of_lt_of_le h2 hk.1, by rw [hk.2 o hf h2]; exact h3, h4, hR _ _ h5⟩
theorem IntsF.ints {F : Nat → Prop} {h : Hp} {v : Value} {xs : List Int} (hs : IntsF F h v xs) : Ints h v xs := SlF.sl hs
theorem IntsF.same {F : Nat → Prop} {h h' : Hp} (hk : Same F h h') {v : Value} {xs : List Int} (hs : IntsF F h v xs) : IntsF F h' v xs := SlF.mono (R := isInt) (R' := isInt) (h := h) (h' := h') (fun _ _ h => h) (fun _ h => h) hk hs
theorem IntsF.keep {F : Nat → Prop} {h h' : Hp} (hk : Keeps h h') {v : Value} {xs : List Int} (hs : IntsF F h v xs) : IntsF F h' v xs := hs.same (.of_keeps hk)
theorem IntsF.sub {F G : Nat → Prop} (hfg : ∀ o, F o → G o) {h : Hp} {v : Value} {xs : List Int} (hs : IntsF F h v xs) : IntsF G h v xs := SlF.mono (R := isInt) (R' := isInt) (h := h) (h' := h) (fun _ _ h => h) hfg (Same.refl _ _) hs
theorem Ints.old {h : Hp} {v : Value} {xs : List Int} (hs : Ints h v xs) : IntsF (fun o => o < h.next) h v xs := by
  obtain ⟨s, c, e, hc, hc', hx⟩ := hs
  exact ⟨s, c, e, hc, hc', fun k x hk => let ⟨o, i, cs, own, ex, es, h1, h2, h3, h4, h5⟩ := hx k x hk; ⟨o, i, cs, own, ex, es, h1, h2, h2, h3, h4, h5⟩⟩
theorem IntsO.read {S : Nat → Prop} {h : Hp} {v : Value} {xs : List Int} (hs : IntsO S h v xs) : IntsF S h v xs := by
  obtain ⟨s, c, e, h1, h2, h3⟩ := hs
  refine ⟨s, c, e, h1, h2, fun k x hk => ?_⟩
  obtain ⟨hk', ek⟩ := List.getElem?_eq_some_iff.1 hk
  subst ek
  rcases h3 with h3 | ⟨o, i, cs, ex, g1, g2, g3, g4, g5, g6⟩
  · omega
  · exact ⟨o, i, cs, true, ex, 1, g1, g2, g3, g4, by omega, by simp [isInt, List.getD_eq_getElem?_getD, g6 k hk']⟩
theorem IntsF.lenD {F : Nat → Prop} {h : Hp} {v : Value} {xs : List Int} (hs : IntsF F h v xs) : ∀ (P : Program) (t : TypeId), Go.Eng.lenD P t v = (elT P t).map fun _ => .int .i64 xs.length := hs.ints.lenD
structure Wr (S : Nat → Prop) (h h' : Hp) : Prop where
  upd : Upd S h h'
  own : ∀ o, o < h.next → S o → (h'.get o).live = true → (h'.get o).owned = true ∨ h'.get o = h.get o
  new : NewOwn h h'
theorem Wr.refl (S : Nat → Prop) (h : Hp) : Wr S h h := ⟨Upd.refl S h, fun _ _ _ _ => .inr rfl, fun _ h1 h2 _ => by omega⟩
theorem Wr.trans {S : Nat → Prop} {a b c : Hp} (k : Wr S a b) (l : Wr S b c) : Wr S a c where
  upd := k.upd.trans l.upd
  own o ho hs hl := by
    rcases l.own o (Nat.lt_of_lt_of_le ho k.upd.1) hs hl with h1 | h1
    · exact .inl h1
    · rw [h1] at hl ⊢; exact k.own o ho hs hl
  new o h1 h2 hl := by
    by_cases h3 : o < b.next
    · by_cases hs : S o
      · rcases l.own o h3 hs hl with h4 | h4
        · exact h4
        · rw [h4] at hl ⊢; exact k.new o h1 h3 hl
      · rw [l.upd.2 o h3 hs] at hl ⊢; exact k.new o h1 h3 hl
    · exact l.new o (by omega) h2 hl
theorem Wr.of_adds {S : Nat → Prop} {h h' : Hp} (k : Adds h h') : Wr S h h' := ⟨.of_keeps k.1, fun o ho _ _ => .inr (k.1.2 o ho), k.2⟩
theorem Wr.put {S : Nat → Prop} {h h' : Hp} (k : Wr S h h') {o : Nat} (ho : S o) {x : AObj} (hx : x.live = true → x.owned = true) : Wr S h (h'.put o x) where
  upd := k.upd.put ho x
  own i hi hs hl := by
    by_cases e : i = o
    · subst e; simp only [Hp.put, if_true] at hl ⊢; exact .inl (hx hl)
    · simp only [Hp.put, e, if_false] at hl ⊢; exact k.own i hi hs hl
  new i h1 h2 hl := by
    by_cases e : i = o
    · subst e; simp only [Hp.put, if_true] at hl ⊢; exact hx hl
    · simp only [Hp.put, e, if_false] at hl ⊢; exact k.new i h1 h2 hl
theorem Wr.mono {S T : Nat → Prop} {h h' : Hp} (k : Wr S h h') (hst : ∀ o, o < h.next → S o → T o) : Wr T h h' where
  upd := k.upd.mono hst
  own o ho _ hl := by
    by_cases hs : S o
    · exact k.own o ho hs hl
    · exact .inr (k.upd.2 o ho hs)
  new := k.new
theorem Adds.wr {S : Nat → Prop} {a h h' : Hp} (ha : Adds a h) (k : Wr S h h') (hs : ∀ o, S o → a.next ≤ o) : Adds a h' :=
  ⟨k.upd.keeps ha.1 hs, fun o h1 h2 hl => by
    by_cases h3 : o < h.next
    · by_cases hso : S o
      · rcases k.own o h3 hso hl with h4 | h4
        · exact h4
        · rw [h4] at hl ⊢; exact ha.2 o h1 h3 hl
      · rw [k.upd.2 o h3 hso] at hl ⊢; exact ha.2 o h1 h3 hl
    · exact k.new o (by omega) h2 hl⟩
def OffF (F : Nat → Prop) (v : Value) : Prop := ∀ o i n c, v = .slice (some ⟨o, i, none⟩) n c → ¬ F o
theorem OffF.nil (F : Nat → Prop) (n c : Nat) : OffF F (.slice none n c) := fun _ _ _ _ e => by cases e
theorem OffF.mk {F : Nat → Prop} {o i n c : Nat} (h : ¬ F o) : OffF F (.slice (some ⟨o, i, none⟩) n c) := fun _ _ _ _ e => by cases e; exact h
theorem OffF.mono {F G : Nat → Prop} {v : Value} (h : OffF G v) (hfg : ∀ o, F o → G o) : OffF F v := fun o i n c e hf => h o i n c e (hfg o hf)
section
variable {P : Program}
theorem append_one2 {n : Nat} {h0 h : Hp} {v : Value} {xs : List Int} {t t' e q b : Nat} {x : Int} {qx : Bool} (hs : IntsA n h v xs) (h1 : elT P t = some e) (h2 : szT P e = some 1) (h3 : zeroT P e = some (.int .i64 0)) (h4 : byT P e = some b)
    (hb : b ≠ 0) (hb8 : b ≤ 8) (h5 : srcT P t' = true) (hq : h.get q = .cells [.int .i64 x] true qx 1) (hl : xs.length < 2 ^ 40) (hn : n ≤ h.next) (hA : Adds h0 h) (h0n : h0.next ≤ n) :
    ∃ v' h', appendD P t t' v (.slice (some ⟨q, 0, none⟩) 1 1) h = some (v', h') ∧ IntsA n h' v' (xs ++ [x]) ∧ Adds h0 h' ∧ h.next < h'.next ∧ (∀ F : Nat → Prop, OffF F v → Same F h h') ∧ ∀ F : Nat → Prop, (∀ o, F o → o < h.next) → OffF F v' := by
  have hsrc : srcV h 1 (.slice (some ⟨q, 0, none⟩) 1 1) = some (1, [.int .i64 x]) := by simp [srcV, srcW, hq]
  have hbb : (xs.length + 1) * b ≤ 140737488355328 := Nat.le_trans (Nat.mul_le_mul (Nat.succ_le_of_lt hl) hb8) (by decide)
  have hbb1 : b ≤ 140737488355328 := Nat.le_trans hb8 (by decide)
  rcases hs with ⟨rfl, rfl⟩ | ⟨o, ex, rfl, g1, g2, g3⟩
  · refine ⟨.slice (some ⟨h.next, 0, none⟩) 1 1, h.alloc (.cells [.int .i64 x] true false 1), ?_, .inr ⟨h.next, false, rfl, hn, Nat.lt_succ_self _, by simp⟩, by simp [hA], Nat.lt_succ_self _, fun F _ => ⟨by simp, fun o _ ho => by simp [Nat.ne_of_lt ho]⟩, fun F hF => .mk fun hf => by have := hF _ hf; omega⟩
    simp only [appendD, h1, h2, h3, h4, hsrc, h5]
    simp [Value.cells, hb, hbb1]
  · refine ⟨.slice (some ⟨h.next, 0, none⟩) (xs.length + 1) (xs.length + 1), growHp h o ex (.cells (xs.map (.int .i64) ++ [.int .i64 x]) true false 1), ?_, .inr ⟨h.next, false, by simp, hn, ?_, ?_⟩, hA.grow (by omega) (fun _ => rfl), ?_, fun F hF => ⟨?_, fun i hi hin => ?_⟩, fun F hF => .mk fun hf => by have := hF _ hf; omega⟩
    · simp only [appendD, h1, h2, h3, h4, hsrc, h5]
      have ht : (xs.map (Value.int .i64)).take xs.length = xs.map (.int .i64) := List.take_of_length_le (by simp)
      simp [Value.cells, hb, g3, hbb, ht]
    · cases ex <;> simp [growHp]
    · cases ex <;> simp [growHp]
    · cases ex <;> simp [growHp]
    · cases ex <;> simp [growHp]
    · have e1 : i ≠ h.next := by omega
      have e2 : i ≠ o := fun e => hF o 0 _ _ rfl (e ▸ hi)
      cases ex <;> simp [growHp, e1, e2]
end
section
variable {P : Program} {n : Nat} {tm : Nat → Value} {h : Hp} {ops : Array Oper} {rest : List Oper} {R : (Nat → Value) → Hp → Prop} {o : Oper}
end
end Go.Eng
end
section
namespace Go.Eng
def bAnd (k : IntKind) (x y : Int) : Int := k.wrap (BitVec.ofInt k.bits x &&& BitVec.ofInt k.bits y).toNat
def bOr (k : IntKind) (x y : Int) : Int := k.wrap (BitVec.ofInt k.bits x ||| BitVec.ofInt k.bits y).toNat
def bXor (k : IntKind) (x y : Int) : Int := k.wrap (BitVec.ofInt k.bits x ^^^ BitVec.ofInt k.bits y).toNat
def bAndNot (k : IntKind) (x y : Int) : Int := k.wrap (BitVec.ofInt k.bits x &&& ~~~(BitVec.ofInt k.bits y)).toNat
def bShl (k : IntKind) (x y : Int) : Int := k.wrap (x * 2 ^ min y.toNat k.bits)
def bShr (k : IntKind) (x y : Int) : Int := x.fdiv (2 ^ min y.toNat k.bits)
theorem ofInt_nat (x : Int) (hx : 0 ≤ x) (h2 : x < 9223372036854775808) : (BitVec.ofInt 64 x).toNat = x.toNat := by
  obtain ⟨n, rfl⟩ : ∃ n : Nat, x = n := ⟨x.toNat, by omega⟩
  rw [BitVec.ofInt_natCast, BitVec.toNat_ofNat]
  simp
  omega
theorem bAnd_nat (x y : Int) (hx : 0 ≤ x) (hx2 : x < 9223372036854775808) (hy : 0 ≤ y) (hy2 : y < 9223372036854775808) : bAnd .i64 x y = ((x.toNat &&& y.toNat : Nat) : Int) := by
  unfold bAnd
  have e : (BitVec.ofInt IntKind.i64.bits x &&& BitVec.ofInt IntKind.i64.bits y).toNat = x.toNat &&& y.toNat := by
    rw [BitVec.toNat_and, show IntKind.i64.bits = 64 from rfl, ofInt_nat x hx hx2, ofInt_nat y hy hy2]
  rw [e]
  have : x.toNat &&& y.toNat ≤ x.toNat := Nat.and_le_left
  exact wrap64 (by omega) (by omega)
theorem bOr_nat (x y : Int) (hx : 0 ≤ x) (hx2 : x < 9223372036854775808) (hy : 0 ≤ y) (hy2 : y < 9223372036854775808) : bOr .i64 x y = ((x.toNat ||| y.toNat : Nat) : Int) := by
  unfold bOr
  have e : (BitVec.ofInt IntKind.i64.bits x ||| BitVec.ofInt IntKind.i64.bits y).toNat = x.toNat ||| y.toNat := by
    rw [BitVec.toNat_or, show IntKind.i64.bits = 64 from rfl, ofInt_nat x hx hx2, ofInt_nat y hy hy2]
  rw [e]
  have : x.toNat ||| y.toNat < 2 ^ 63 := Nat.or_lt_two_pow (by omega) (by omega)
  exact wrap64 (by omega) (by omega)
theorem bXor_nat (x y : Int) (hx : 0 ≤ x) (hx2 : x < 9223372036854775808) (hy : 0 ≤ y) (hy2 : y < 9223372036854775808) : bXor .i64 x y = ((x.toNat ^^^ y.toNat : Nat) : Int) := by
  unfold bXor
  have e : (BitVec.ofInt IntKind.i64.bits x ^^^ BitVec.ofInt IntKind.i64.bits y).toNat = x.toNat ^^^ y.toNat := by
    rw [BitVec.toNat_xor, show IntKind.i64.bits = 64 from rfl, ofInt_nat x hx hx2, ofInt_nat y hy hy2]
  rw [e]
  have : x.toNat ^^^ y.toNat < 2 ^ 63 := Nat.xor_lt_two_pow (by omega) (by omega)
  exact wrap64 (by omega) (by omega)
def ndiff (a b : Nat) : Nat := a ^^^ (a &&& b)
theorem bAndNot_nat (x y : Int) (hx : 0 ≤ x) (hx2 : x < 9223372036854775808) (hy : 0 ≤ y) (hy2 : y < 9223372036854775808) : bAndNot .i64 x y = ((ndiff x.toNat y.toNat : Nat) : Int) := by
  unfold bAndNot ndiff
  have e : (BitVec.ofInt IntKind.i64.bits x &&& ~~~(BitVec.ofInt IntKind.i64.bits y)) = BitVec.ofInt IntKind.i64.bits x ^^^ (BitVec.ofInt IntKind.i64.bits x &&& BitVec.ofInt IntKind.i64.bits y) := by
    apply BitVec.eq_of_getElem_eq
    intro i hi
    simp only [BitVec.getElem_and, BitVec.getElem_not, BitVec.getElem_xor]
    generalize (BitVec.ofInt IntKind.i64.bits x)[i] = a
    generalize (BitVec.ofInt IntKind.i64.bits y)[i] = b
    cases a <;> cases b <;> rfl
  have e2 : (BitVec.ofInt IntKind.i64.bits x ^^^ (BitVec.ofInt IntKind.i64.bits x &&& BitVec.ofInt IntKind.i64.bits y)).toNat = x.toNat ^^^ (x.toNat &&& y.toNat) := by
    rw [BitVec.toNat_xor, BitVec.toNat_and, show IntKind.i64.bits = 64 from rfl, ofInt_nat x hx hx2, ofInt_nat y hy hy2]
  rw [e, e2]
  have h1 : x.toNat &&& y.toNat ≤ x.toNat := Nat.and_le_left
  have : x.toNat ^^^ (x.toNat &&& y.toNat) < 2 ^ 63 := Nat.xor_lt_two_pow (by omega) (by omega)
  exact wrap64 (by omega) (by omega)
theorem bShl_nat (x y : Int) (hx : 0 ≤ x) (hx2 : x < 1048576) (hy : 0 ≤ y) (hy2 : y < 40) : bShl .i64 x y = ((x.toNat <<< y.toNat : Nat) : Int) := by
  unfold bShl
  obtain ⟨a, rfl⟩ : ∃ a : Nat, x = a := ⟨x.toNat, by omega⟩
  obtain ⟨b, rfl⟩ : ∃ b : Nat, y = b := ⟨y.toNat, by omega⟩
  have hb : min (b : Int).toNat IntKind.i64.bits = b := by show min _ 64 = b; simp; omega
  rw [hb]
  simp only [Int.toNat_natCast, Nat.shiftLeft_eq]
  have h3 : a * 2 ^ b ≤ 1048576 * 2 ^ 40 := Nat.mul_le_mul (by omega) (Nat.pow_le_pow_right (by omega) (by omega))
  have h4 : 1048576 * 2 ^ 40 < 9223372036854775808 := by decide
  have e : (a : Int) * 2 ^ b = ((a * 2 ^ b : Nat) : Int) := by push_cast; rfl
  rw [e]
  exact wrap64 (by omega) (by omega)
theorem bShr_nat (x y : Int) (hx : 0 ≤ x) (hy : 0 ≤ y) (hy2 : y < 64) : bShr .i64 x y = ((x.toNat >>> y.toNat : Nat) : Int) := by
  unfold bShr
  obtain ⟨a, rfl⟩ : ∃ a : Nat, x = a := ⟨x.toNat, by omega⟩
  obtain ⟨b, rfl⟩ : ∃ b : Nat, y = b := ⟨y.toNat, by omega⟩
  have hb : min (b : Int).toNat IntKind.i64.bits = b := by show min _ 64 = b; simp; omega
  rw [hb]
  simp only [Int.toNat_natCast, Nat.shiftRight_eq_div_pow]
  rw [Int.fdiv_eq_ediv_of_nonneg _ (by exact Int.le_of_lt (Int.pow_pos (by omega)))]
  push_cast; rfl
@[simp] theorem intBin_and (k : IntKind) (x y : Int) : intBin .and k x y = some (.int k (bAnd k x y)) := rfl
@[simp] theorem intBin_or (k : IntKind) (x y : Int) : intBin .or k x y = some (.int k (bOr k x y)) := rfl
@[simp] theorem intBin_xor (k : IntKind) (x y : Int) : intBin .xor k x y = some (.int k (bXor k x y)) := rfl
@[simp] theorem intBin_andNot (k : IntKind) (x y : Int) : intBin .andNot k x y = some (.int k (bAndNot k x y)) := rfl
@[simp] theorem shiftV_shl (k : IntKind) (x y : Int) : shiftV .shl k x y = if y < 0 then none else some (.int k (bShl k x y)) := rfl
@[simp] theorem shiftV_shr (k : IntKind) (x y : Int) : shiftV .shr k x y = if y < 0 then none else some (.int k (bShr k x y)) := rfl
attribute [simp] nilD lookupD updateD
def zlist (n : Nat) (v : Value) : List Value := List.replicate n v
def zrow (n : Nat) (v : Value) : Array Value := (zlist n v).toArray
@[simp] theorem zrow_list (n : Nat) (v : Value) : (zrow n v).toList = zlist n v := rfl
@[simp] theorem zrow_size (n : Nat) (v : Value) : (zrow n v).size = n := by simp [zrow, zlist]
@[simp] theorem zlist_length (n : Nat) (v : Value) : (zlist n v).length = n := by simp [zlist]
theorem zrow_all {n m : Nat} {v : Value} (h : plainS v = true) : (zrow n v).all plainS 0 m = true := by
  rw [Array.all_iff_forall]
  intro i hi _
  have e : (zrow n v)[i] = v := by simp [zrow, zlist]
  rw [e]; exact h
@[simp] theorem zrow_bool (n m : Nat) (b : Bool) : (zrow n (.bool b)).all plainS 0 m = true := zrow_all rfl
end Go.Eng
end
section
namespace Go.Eng
def pureOp : Op → Bool
  | .move _ | .assign _ | .pick _ _ _ | .fieldAddr _ _ _ | .field _ _ _ | .indexAddr _ _ _ | .index _ _ _ | .extract _ _ | .binOp _ _ _ _ _ | .unOp _ _ _ | .convert _ _ _ | .makeFunc _ _ _ | .nilCheck _ => true
  | .slice _ _ _ _ none => true
  | .call ⟨.builtin .len, _, _⟩ | .call ⟨.builtin .max, _, _⟩ | .call ⟨.builtin .min, _, _⟩ => true
  | _ => false
section
variable {P : Program} {n : Nat} {ops : Array Oper}
theorem builtinD_same {b : Builtin} {xs : List Operand} {ts : List TypeId} {tm : Nat → Value} (hb : b = .len ∨ b = .max ∨ b = .min) (h h2 : Hp) : builtinD P b xs ts tm h2 = (builtinD P b xs ts tm h).map fun q => (q.1, h2) := by
  have mm : ∀ r : Option Value, (r.map fun v => (v, h2)) = (r.map fun v => (v, h)).map fun q => (q.1, h2) := by intro r; cases r <;> rfl
  rcases hb with rfl | rfl | rfl
  · unfold builtinD
    split
    · split
      · exact mm _
      · rfl
    all_goals first | rfl | (rename_i hh; cases hh) | skip
    all_goals simp_all
  · unfold builtinD
    split
    all_goals first | rfl | (rename_i hh; cases hh) | skip
    · split
      · split <;> rfl
      · rfl
    all_goals simp_all
  · unfold builtinD
    split
    all_goals first | rfl | (rename_i hh; cases hh) | skip
    · split
      · split <;> rfl
      · rfl
    all_goals simp_all
theorem opD_same {op : Op} {tm : Nat → Value} (hp : pureOp op = true) (h h2 : Hp) : opD P op tm h2 = (opD P op tm h).map fun q => (q.1, h2) := by
  have mm : ∀ r : Option Value, (r.map fun v => (v, h2)) = (r.map fun v => (v, h)).map fun q => (q.1, h2) := by intro r; cases r <;> rfl
  by_cases hc : ∃ c, op = .call c
  · obtain ⟨⟨callee, args, ts⟩, rfl⟩ := hc
    cases callee with
    | builtin b =>
      simp only [opD]
      refine builtinD_same ?_ h h2
      cases b <;> simp [pureOp] at hp ⊢
    | _ => simp [pureOp] at hp
  cases op <;> simp only [pureOp, Bool.false_eq_true] at hp <;> simp only [opD]
  case call c => exact absurd ⟨c, rfl⟩ hc
  case slice t x lo hi mx =>
    cases mx with
    | some y => simp at hp
    | none =>
      show (if (okX x && okO lo && okO hi) = true then (sliceD P t (ev tm x) lo hi tm).map (fun v => (v, h2)) else none) = (if (okX x && okO lo && okO hi) = true then (sliceD P t (ev tm x) lo hi tm).map (fun v => (v, h)) else none).map fun q => (q.1, h2)
      cases (okX x && okO lo && okO hi) <;> first | rfl | exact mm _
  case nilCheck x => cases okX x <;> first | rfl | exact mm _
  case move x => cases okX x <;> first | rfl | exact mm _
  case assign x => cases okX x <;> first | rfl | exact mm _
  case pick c x y =>
    cases (okX c && okX x && okX y)
    · simp
    · simp only [if_true]
      split <;> simp
  case fieldAddr s x f =>
    cases okX x
    · simp
    · simp only [if_true]
      split
      · split <;> simp
      · simp
  case field s x f =>
    cases okX x
    · simp
    · simp only [if_true]
      split
      · split <;> simp
      · simp
  case indexAddr t x y => cases (okX x && okX y) <;> first | rfl | exact mm _
  case index t x y => cases (okX x && okX y) <;> first | rfl | exact mm _
  case extract x i =>
    cases okX x
    · rfl
    · simp only [if_true]
      split <;> first | rfl | exact mm _
  case makeFunc fn f c => cases (f.all okX && c.all okX) <;> simp
  case binOp op t x y t' => cases (okX x && okX y) <;> first | rfl | exact mm _
  case unOp op t x => cases okX x <;> first | rfl | exact mm _
  case convert s d x => cases okX x <;> first | rfl | exact mm _
theorem opD_pure {op : Op} {tm : Nat → Value} {h h' : Hp} {v : Value} (hp : pureOp op = true) (hd : opD P op tm h = some (v, h')) : h' = h ∧ ∀ h2, opD P op tm h2 = some (v, h2) := by
  have h1 := opD_same (P := P) (tm := tm) hp h h
  rw [hd] at h1
  simp only [Option.map_some, Option.some.injEq, Prod.mk.injEq, true_and] at h1
  exact ⟨h1, fun h2 => by rw [opD_same hp h h2, hd]; rfl⟩
structure Tr2 (P : Program) (n : Nat) (ops : Array Oper) where
  T : Nat → Nat → Value
  H : Nat → Hp
  V : Nat → Value
  dst : ∀ (i : Nat) (o : Oper), ops[i]? = some o → dstOK n o.dst = true ∧ guardOK n ops o = true
  step : ∀ (i : Nat) (o : Oper), ops[i]? = some o → (wantA ops (T i) o = some true ∧ OpOK P o (T i) (H i) (V i) (H (i + 1)) ∧ (pureOp o.op = true → H (i + 1) = H i ∧ ∀ h, OpOK P o (T i) h (V i) h)) ∨ (wantA ops (T i) o = some false ∧ V i = undef ∧ H (i + 1) = H i)
  next : ∀ (i : Nat) (o : Oper), ops[i]? = some o → T (i + 1) = updO (T i) o.dst (V i)
theorem run_trace {R : (Nat → Value) → Hp → Prop} : ∀ (l : List Oper) (tm : Nat → Value) (h : Hp), RunD P n ops l R tm h →
    ∃ (T : Nat → Nat → Value) (H : Nat → Hp) (V : Nat → Value), T 0 = tm ∧ H 0 = h ∧ R (T l.length) (H l.length) ∧
      ∀ i o, l[i]? = some o → (dstOK n o.dst = true ∧ guardOK n ops o = true) ∧
        ((wantA ops (T i) o = some true ∧ OpOK P o (T i) (H i) (V i) (H (i + 1)) ∧ (pureOp o.op = true → H (i + 1) = H i ∧ ∀ h, OpOK P o (T i) h (V i) h)) ∨ (wantA ops (T i) o = some false ∧ V i = undef ∧ H (i + 1) = H i)) ∧
        T (i + 1) = updO (T i) o.dst (V i)
  | [], tm, h, hq => ⟨fun _ => tm, fun _ => h, fun _ => undef, rfl, rfl, hq, fun i o ho => by simp at ho⟩
  | o :: rest, tm, h, hq => by
    obtain ⟨h1, h2, h3⟩ := hq
    have shift : ∀ (v : Value) (h' : Hp), RunD P n ops rest R (updO tm o.dst v) h' → ((wantA ops tm o = some true ∧ OpOK P o tm h v h' ∧ (pureOp o.op = true → h' = h ∧ ∀ h2, OpOK P o tm h2 v h2)) ∨ (wantA ops tm o = some false ∧ v = undef ∧ h' = h)) →
        ∃ (T : Nat → Nat → Value) (H : Nat → Hp) (V : Nat → Value), T 0 = tm ∧ H 0 = h ∧ R (T (o :: rest).length) (H (o :: rest).length) ∧
          ∀ i q, (o :: rest)[i]? = some q → (dstOK n q.dst = true ∧ guardOK n ops q = true) ∧
            ((wantA ops (T i) q = some true ∧ OpOK P q (T i) (H i) (V i) (H (i + 1)) ∧ (pureOp q.op = true → H (i + 1) = H i ∧ ∀ h, OpOK P q (T i) h (V i) h)) ∨ (wantA ops (T i) q = some false ∧ V i = undef ∧ H (i + 1) = H i)) ∧
            T (i + 1) = updO (T i) q.dst (V i) := by
      intro v h' hp hs
      obtain ⟨T, H, V, e1, e2, hR, hi⟩ := run_trace rest _ _ hp
      refine ⟨fun k => match k with | 0 => tm | k + 1 => T k, fun k => match k with | 0 => h | k + 1 => H k, fun k => match k with | 0 => v | k + 1 => V k, rfl, rfl, hR, fun i q hq => ?_⟩
      cases i with
      | zero =>
        simp only [List.getElem?_cons_zero, Option.some.injEq] at hq
        subst hq
        simp only [e1, e2]
        exact ⟨⟨h1, h2⟩, hs, trivial⟩
      | succ i =>
        simp only [List.getElem?_cons_succ] at hq
        exact hi i q hq
    split at h3
    · cases h3
    · rename_i hw; exact shift undef h h3 (.inr ⟨hw, rfl, rfl⟩)
    · rename_i hw
      split at h3
      · rename_i fx xs ts hop
        obtain ⟨k1, k2, k3⟩ := h3
        split at k3
        rotate_left
        · cases k3
        rename_i f fst cap hfx
        obtain ⟨k4, v, h', k5, k6⟩ := k3
        exact shift v h' k6 (.inl ⟨hw, ok_call hop hfx k1 k2 k4 k5, fun hp => by rw [hop] at hp; cases hp⟩)
      · split at h3
        rotate_left
        · cases h3
        rename_i v h' hd
        refine shift v h' h3 (.inl ⟨hw, opD_sound hd, fun hp => ?_⟩)
        obtain ⟨e, hall⟩ := opD_pure hp hd
        exact ⟨e, fun h2 => opD_sound (hall h2)⟩
def chainB (ops : Array Oper) : Bool :=
  (List.range ops.size).all fun i => match ops[i]? with
    | some o => pureOp o.op || (List.range i).all fun j => match ops[j]? with
      | some oj => pureOp oj.op || tclE ops 8 i j
      | none => false
    | none => false
theorem chainB_spec (h : chainB ops = true) {i j : Nat} {o oj : Oper} (hi : ops[i]? = some o) (hj : ops[j]? = some oj) (h1 : pureOp o.op = false) (h2 : pureOp oj.op = false) (hlt : j < i) : tclE ops 8 i j = true := by
  unfold chainB at h
  simp only [List.all_eq_true, List.mem_range] at h
  have hs : i < ops.size := (Array.getElem?_eq_some_iff.1 hi).1
  have h3 := h i hs
  simp only [hi, h1, Bool.false_or, List.all_eq_true, List.mem_range] at h3
  have h4 := h3 j hlt
  simpa only [hj, h2, Bool.false_or] using h4
theorem Tr2.slot (t : Tr2 P n ops) (s : Nat) : ∀ i, i ≤ ops.size → (∃ j o, j < i ∧ ops[j]? = some o ∧ o.dst = some s ∧ t.T i s = t.V j ∧ ∀ k o', j < k → k < i → ops[k]? = some o' → o'.dst ≠ some s) ∨
    (t.T i s = t.T 0 s ∧ ∀ k o', k < i → ops[k]? = some o' → o'.dst ≠ some s)
  | 0, _ => .inr ⟨rfl, fun k o' h => absurd h (by omega)⟩
  | i + 1, hi => by
    cases ho : ops[i]? with
    | none => rw [Array.getElem?_eq_getElem (by omega)] at ho; cases ho
    | some o =>
      have hn := t.next i o ho
      by_cases hd : o.dst = some s
      · left
        refine ⟨i, o, by omega, ho, hd, by rw [hn, hd]; simp [updO, upd], fun k o' h1 h2 => absurd h1 (by omega)⟩
      · have hts : t.T (i + 1) s = t.T i s := by
          rw [hn]
          cases hdst : o.dst with
          | none => rfl
          | some d =>
            have : s ≠ d := fun e => hd (by rw [hdst, e])
            simp [updO, upd, this]
        rcases Tr2.slot t s i (by omega) with ⟨j, oj, h1, h2, h3, h4, h5⟩ | ⟨h1, h2⟩
        · left
          refine ⟨j, oj, by omega, h2, h3, by rw [hts, h4], fun k o' hk1 hk2 hk => ?_⟩
          by_cases e : k = i
          · subst e; rw [ho] at hk; cases hk; exact hd
          · exact h5 k o' hk1 (by omega) hk
        · right
          refine ⟨by rw [hts, h1], fun k o' hk1 hk => ?_⟩
          by_cases e : k = i
          · subst e; rw [ho] at hk; cases hk; exact hd
          · exact h2 k o' (by omega) hk
theorem Tr2.still (t : Tr2 P n ops) {i : Nat} : ∀ (k : Nat), i ≤ k → k ≤ ops.size → (∀ j o, i ≤ j → j < k → ops[j]? = some o → pureOp o.op = true) → t.H k = t.H i
  | 0, h, _, _ => by rw [show i = 0 by omega]
  | k + 1, h, hk, hp => by
    by_cases e : i = k + 1
    · rw [e]
    · have ih := Tr2.still t k (by omega) (by omega) (fun j o h1 h2 h3 => hp j o h1 (by omega) h3)
      have ho := Array.getElem?_eq_getElem (show k < ops.size by omega)
      rcases t.step k _ ho with ⟨_, _, h3⟩ | ⟨_, _, h3⟩
      · rw [(h3 (hp k _ (by omega) (by omega) ho)).1, ih]
      · rw [h3, ih]
structure Inv2 (t : Tr2 P n ops) (E0 : Emb) (base : Nat) (w0 : World) (S : Nat → Bool) (c : Nat) (E : Emb) (w : World) (a : Act) : Prop where
  le : c ≤ ops.size
  mem : ∀ (i : Nat) (o : Oper), ops[i]? = some o → pureOp o.op = false → (S i = true ↔ i < c)
  step : Step E0 (t.H 0) w0 E (t.H c) w
  heap : HRel E base (t.H c) w.heap
  tmps : a.tmps.size = n
  defers : a.defers = []
  last : ∀ (s j : Nat) (o : Oper), S j = true → ops[j]? = some o → o.dst = some s → (∀ k o', j < k → S k = true → ops[k]? = some o' → o'.dst ≠ some s) → VRel E (t.V j) (a.tmps.getD s undef)
  none : ∀ (s : Nat), (∀ (k : Nat) (o' : Oper), S k = true → ops[k]? = some o' → o'.dst ≠ some s) → VRel E (t.T 0 s) (a.tmps.getD s undef)
theorem Inv2.next {t : Tr2 P n ops} {E0 E E' : Emb} {base : Nat} {w0 w w' : World} {S : Nat → Bool} {c c' : Nat} {a : Act} {v' : Value} (inv : Inv2 t E0 base w0 S c E w a) {i : Nat} {o : Oper} (ho : ops[i]? = some o) (hS : S i = false)
    (hdst : dstOK n o.dst = true) (hB : ∀ j oj s, i < j → ops[j]? = some oj → o.dst = some s → oj.dst = some s → S j = false)
    (hc : c' ≤ ops.size) (hm : ∀ k ok, ops[k]? = some ok → pureOp ok.op = false → ((if k = i then true else S k) = true ↔ k < c'))
    (st : Step E (t.H c) w E' (t.H c') w') (hr : HRel E' base (t.H c') w'.heap) (hv : VRel E' (t.V i) v') : Inv2 t E0 base w0 (fun k => if k = i then true else S k) c' E' w' (a.put o.dst v') where
  le := hc
  mem := hm
  step := inv.step.trans st
  heap := hr
  tmps := by cases hd : o.dst <;> simp [Act.put, inv.tmps]
  defers := by cases hd : o.dst <;> simp [Act.put, inv.defers]
  last s j oj hSj hoj hdj hlast := by
    by_cases hji : j = i
    · subst hji
      rw [ho] at hoj; cases hoj
      have hs : s < n := by rw [hdj] at hdst; simpa [dstOK] using hdst
      have : (a.put o.dst v').tmps.getD s undef = v' := by rw [hdj]; simp [Act.put, inv.tmps, hs]
      rw [this]; exact hv
    · have hSj' : S j = true := by simpa [hji] using hSj
      have hne : o.dst ≠ some s := by
        intro e
        rcases Nat.lt_or_gt_of_ne hji with h4 | h4
        · exact hlast i o h4 (by simp) ho e
        · have := hB j oj s h4 hoj e hdj
          rw [this] at hSj'; cases hSj'
      have : (a.put o.dst v').tmps.getD s undef = a.tmps.getD s undef := by
        cases hd : o.dst with
        | none => rfl
        | some d =>
          have hds : d ≠ s := fun e => hne (by rw [hd, e])
          simp only [Act.put]
          rw [Array.getD_eq_getD_getElem?, Array.getD_eq_getD_getElem?, Array.getElem?_setIfInBounds_ne hds]
      rw [this]
      exact st.vrel inv.heap (inv.last s j oj hSj' hoj hdj (fun k ok h1 h3 h4 => hlast k ok h1 (by simp only [h3]; split <;> rfl) h4))
  none s hnone := by
    have hne : o.dst ≠ some s := hnone i o (by simp) ho
    have : (a.put o.dst v').tmps.getD s undef = a.tmps.getD s undef := by
      cases hd : o.dst with
      | none => rfl
      | some d =>
        have hds : d ≠ s := fun e => hne (by rw [hd, e])
        simp only [Act.put]
        rw [Array.getD_eq_getD_getElem?, Array.getD_eq_getD_getElem?, Array.getElem?_setIfInBounds_ne hds]
    rw [this]
    exact st.vrel inv.heap (inv.none s (fun k ok h3 h4 => hnone k ok (by simp only [h3]; split <;> rfl) h4))
theorem Inv2.operand {t : Tr2 P n ops} {E0 E : Emb} {base : Nat} {w0 w : World} {S : Nat → Bool} {c : Nat} {a : Act} (inv : Inv2 t E0 base w0 S c E w a) {i s : Nat} (hi : i < ops.size) (hS : S i = false)
    (hw : ∀ j oj, j ≠ i → ops[j]? = some oj → oj.dst = some s → (j < i → S j = true) ∧ (i < j → S j = false)) : VRel E (t.T i s) (a.tmps.getD s undef) := by
  rcases t.slot s i (by omega) with ⟨j, oj, h1, h2, h3, h4, h5⟩ | ⟨h1, h2⟩
  · rw [h4]
    refine inv.last s j oj ((hw j oj (by omega) h2 h3).1 h1) h2 h3 (fun k ok k1 k3 k4 k5 => ?_)
    rcases Nat.lt_trichotomy k i with h | h | h
    · exact h5 k ok k1 h k4 k5
    · subst h; rw [hS] at k3; cases k3
    · have := (hw k ok (by omega) k4 k5).2 h
      rw [this] at k3; cases k3
  · rw [h1]
    refine inv.none s (fun k ok k3 k4 k5 => ?_)
    rcases Nat.lt_trichotomy k i with h | h | h
    · exact h2 k ok h k4 k5
    · subst h; rw [hS] at k3; cases k3
    · have := (hw k ok (by omega) k4 k5).2 h
      rw [this] at k3; cases k3
theorem any_chain {Q : Exit → Act → World → Prop} (t : Tr2 P n ops) (hd : drawOK ops ops.size = true) (hch : chainB ops = true) {E0 : Emb} {base : Nat} {w0 : World}
    (hend : ∀ E w a, Step E0 (t.H 0) w0 E (t.H ops.size) w → HRel E base (t.H ops.size) w.heap → TRel E n (t.T ops.size) a → Q .normal a w) :
    ∀ (k : Nat) (l : Array Bool) (c : Nat) (E : Emb) (w : World) (a : Act), l.size = ops.size → cntF (fun k => l.getD k false) ops.size = k → Closed ops l →
      Inv2 t E0 base w0 (fun k => l.getD k false) c E w a → wpAny P .any ops Q k l a w
  | 0, l, c, E, w, a, hs, hc, hcl, inv => by
    have hall := cntF_zero hc
    simp only [wpAny]
    refine ⟨?_, ?_⟩
    · apply List.eq_nil_iff_forall_not_mem.2
      intro i hi
      obtain ⟨h1, h2, _⟩ := ready_spec hs hi
      have := hall i h1
      rw [this] at h2; cases h2
    · have hcc : ∀ j o, c ≤ j → j < ops.size → ops[j]? = some o → pureOp o.op = true := fun j o h1 h2 ho => by
        cases hp : pureOp o.op with
        | true => rfl
        | false => have := (inv.mem j o ho hp).1 (hall j h2); omega
      have hH := t.still ops.size inv.le (Nat.le_refl _) hcc
      refine hend E w a (by rw [hH]; exact inv.step) (by rw [hH]; exact inv.heap) ⟨inv.tmps, fun s => ?_, inv.defers⟩
      rcases t.slot s ops.size (Nat.le_refl _) with ⟨j, oj, g1, g2, g3, g4, g5⟩ | ⟨g1, g2⟩
      · rw [g4]
        exact inv.last s j oj (hall j g1) g2 g3 (fun k ok k1 _ k4 => g5 k ok k1 (Array.getElem?_eq_some_iff.1 k4).1 k4)
      · rw [g1]
        exact inv.none s (fun k ok _ k4 => g2 k ok (Array.getElem?_eq_some_iff.1 k4).1 k4)
  | k + 1, l, c, E, w, a, hs, hc, hcl, inv => by
    obtain ⟨h1, h2, h3, _⟩ := drawOK_spec hd
    obtain ⟨i0, i1, i2, i3⟩ := cntF_pos (f := fun k => l.getD k false) (m := ops.size) (by omega)
    simp only [wpAny]
    refine ⟨fun h => ?_, fun i hi => ?_⟩
    · have := ready_mk (l := l) h2 hs i1 i2 i3
      rw [h] at this; cases this
    · obtain ⟨r1, r2, r3⟩ := ready_spec hs hi
      have ho := Array.getElem?_eq_getElem r1
      generalize hov : ops[i] = o at ho
      have hlook : ∀ s, (o.looksAt ops).contains s = true → ∀ j oj, j ≠ i → ops[j]? = some oj → oj.dst = some s → (j < i → l.getD j false = true) ∧ (i < j → l.getD j false = false) := by
        intro s hcs j oj hne hoj hds
        have hj : j < ops.size := (Array.getElem?_eq_some_iff.1 hoj).1
        have h5 := (h3 i j o oj s r1 hj (fun e => hne e.symm) ho hoj hds).1 hcs
        refine ⟨fun hlt => ?_, fun hlt => ?_⟩
        · rw [if_pos hlt] at h5; exact r3 j h5
        · rw [if_neg (by omega)] at h5
          cases hlj : l.getD j false with
          | false => rfl
          | true => have := hcl j i hlj h5; rw [r2] at this; cases this
      have hval : ∀ s, (o.looksAt ops).contains s = true → VRel E (t.T i s) (a.tmps.getD s undef) := fun s hcs => inv.operand r1 r2 (hlook s hcs)
      have hB : ∀ j oj s, i < j → ops[j]? = some oj → o.dst = some s → oj.dst = some s → l.getD j false = false := by
        intro j oj s hlt hoj hds hds'
        have hj : j < ops.size := (Array.getElem?_eq_some_iff.1 hoj).1
        have h5 := (h3 i j o oj s r1 hj (by omega) ho hoj hds').2 hds hlt
        cases hlj : l.getD j false with
        | false => rfl
        | true => have := hcl j i hlj h5; rw [r2] at this; cases this
      obtain ⟨d1, d2⟩ := t.dst i o ho
      have hcnt : cntF (fun k => (l.setIfInBounds i true).getD k false) ops.size = k := by
        have := cntF_set (f := fun k => l.getD k false) (g := fun k => (l.setIfInBounds i true).getD k false) r1 r2 (fun k => getD_set (by omega) k)
        omega
      have hcl' : Closed ops (l.setIfInBounds i true) := by
        intro x y hx hxy
        rw [getD_set (by omega)] at hx ⊢
        by_cases e : x = i
        · subst e; split
          · rfl
          · exact r3 y hxy
        · rw [if_neg e] at hx
          split
          · rfl
          · exact hcl x y hx hxy
      have cont : ∀ c' E' w' v', c' ≤ ops.size → (∀ k ok, ops[k]? = some ok → pureOp ok.op = false → ((if k = i then true else l.getD k false) = true ↔ k < c')) → Step E (t.H c) w E' (t.H c') w' → HRel E' base (t.H c') w'.heap → VRel E' (t.V i) v' → wpAny P .any ops Q k (l.setIfInBounds i true) (a.put o.dst v') w' := by
        intro c' E' w' v' hc' hm' st hr hv
        have inv' := inv.next (v' := v') ho r2 d1 hB hc' hm' st hr hv
        refine any_chain t hd hch hend k _ c' E' w' _ (by simp [hs]) hcnt hcl' ?_
        have e : (fun k => (l.setIfInBounds i true).getD k false) = fun k => if k = i then true else l.getD k false := funext fun k => getD_set (by omega) k
        rw [e]; exact inv'
      -- the guard
      have hwant : ∀ b, wantA ops (t.T i) o = some b → Region.wanted o (yielded ops a.tmps) = b := by
        intro b hb
        unfold wantA at hb
        unfold Region.wanted
        split at hb
        · rename_i hgd; simp only [Option.some.injEq] at hb; subst hb; rw [hgd]
        · rename_i j want hgd
          rw [hgd]
          split at hb
          · rename_i d hdd
            split at hb
            · rename_i bb hbb
              simp only [Option.some.injEq] at hb
              subst hb
              have hlt := guardOK_spec d2 j want d hgd hdd
              have hcs : (o.looksAt ops).contains d = true := by simp [Oper.looksAt, hgd, hdd]
              have hrr := hval d hcs
              rw [hbb] at hrr
              obtain ⟨z, hz, hz'⟩ := getD_some (c := a.tmps) (i := d) (by rw [inv.tmps]; exact hlt)
              have hz2 : z = .bool bb := by rw [← hz']; exact hrr.inv_bool
              subst hz2
              simp only [yielded, hdd, Option.bind_some, hz]
              cases bb <;> cases want <;> rfl
            · rename_i bb hbb
              simp only [Option.some.injEq] at hb
              subst hb
              have hlt := guardOK_spec d2 j want d hgd hdd
              have hcs : (o.looksAt ops).contains d = true := by simp [Oper.looksAt, hgd, hdd]
              have hrr := hval d hcs
              rw [hbb] at hrr
              obtain ⟨z, hz, hz'⟩ := getD_some (c := a.tmps) (i := d) (by rw [inv.tmps]; exact hlt)
              obtain ⟨c', hc'⟩ := hrr.inv_tuple
              have hz2 : z = .tuple c' := by rw [← hz']; exact hc'
              subst hz2
              simp only [yielded, hdd, Option.bind_some, hz]
              cases want <;> rfl
            · cases hb
          · cases hb
      have hops : ∀ s, Operand.tmp s ∈ o.op.operands → VRel E (t.T i s) (a.tmps.getD s undef) := fun s hsm => hval s (by
        simp only [Oper.looksAt, List.contains_eq_mem, List.mem_append, decide_eq_true_eq]
        left
        exact List.mem_filterMap.2 ⟨.tmp s, by simpa using hsm, rfl⟩)
      -- where the heap stands
      cases hp : pureOp o.op with
      | true =>
        have hm' : ∀ k ok, ops[k]? = some ok → pureOp ok.op = false → ((if k = i then true else l.getD k false) = true ↔ k < c) := fun k ok hk hpk => by
          by_cases e : k = i
          · subst e; rw [ho] at hk; cases hk; rw [hp] at hpk; cases hpk
          · rw [if_neg e]; exact inv.mem k ok hk hpk
        unfold wpOp
        simp only [ho]
        rcases t.step i o ho with ⟨g1, _, g2⟩ | ⟨g1, g2, g3⟩
        · rw [hwant true g1, if_pos rfl]
          left
          exact (g2 hp).2 (t.H c) E base w a _ Q inv.heap hops (fun E' w' v' st hr hv => cont c E' w' v' inv.le hm' st hr hv)
        · rw [hwant false g1, if_neg (by simp)]
          refine cont c E w undef inv.le hm' (Step.refl _ _ _) inv.heap ?_
          rw [g2]; exact VRel.undef _
      | false =>
        have hci : c ≤ i := by
          apply Nat.le_of_not_lt
          intro hlt
          have := (inv.mem i o ho hp).2 hlt
          rw [r2] at this; cases this
        have hbet : ∀ j oj, c ≤ j → j < i → ops[j]? = some oj → pureOp oj.op = true := fun j oj q1 q2 hoj => by
          cases hpj : pureOp oj.op with
          | true => rfl
          | false =>
            have := tcl_done hcl 8 i j (chainB_spec hch ho hoj hp hpj q2) r3
            have := (inv.mem j oj hoj hpj).1 this
            omega
        have hH := t.still i hci (by omega) hbet
        have hm' : ∀ k ok, ops[k]? = some ok → pureOp ok.op = false → ((if k = i then true else l.getD k false) = true ↔ k < i + 1) := fun k ok hk hpk => by
          by_cases e : k = i
          · subst e; simp
          · rw [if_neg e]
            have hmk := inv.mem k ok hk hpk
            constructor
            · intro hl; have := hmk.1 hl; omega
            · intro hlt
              exact tcl_done hcl 8 i k (chainB_spec hch ho hk hp hpk (by omega)) r3
        unfold wpOp
        simp only [ho]
        rcases t.step i o ho with ⟨g1, g2, _⟩ | ⟨g1, g2, g3⟩
        · rw [hwant true g1, if_pos rfl]
          left
          rw [hH] at g2
          exact g2 E base w a _ Q inv.heap hops (fun E' w' v' st hr hv => cont (i + 1) E' w' v' (by omega) hm' st hr hv)
        · rw [hwant false g1, if_neg (by simp)]
          rw [hH] at g3
          refine cont (i + 1) E w undef (by omega) hm' ?_ ?_ ?_
          · rw [g3]; exact Step.refl _ _ _
          · rw [g3]; exact inv.heap
          · rw [g2]; exact VRel.undef _
theorem runs_chain {id : Nat} {Q : Exit → (Nat → Value) → Hp → Prop} {tm : Nat → Value} {h : Hp} (hm : P.follows .mixedOrders = true) (hd : drawOK ops ops.size = true) (hch : chainB ops = true)
    (hq : RunD P n ops ops.toList (Q .normal) tm h) : Runs P n (.region id ops true) Q tm h := by
  obtain ⟨T, H, V, e1, e2, hR, hi⟩ := run_trace _ _ _ hq
  rw [Array.length_toList] at hR
  let t : Tr2 P n ops :=
    { T := T, H := H, V := V
      dst := fun i o ho => (hi i o (by simpa using ho)).1
      step := fun i o ho => (hi i o (by simpa using ho)).2.1
      next := fun i o ho => (hi i o (by simpa using ho)).2.2 }
  refine ⟨.normal, T ops.size, H ops.size, fun E base w a hr ht => wp_region_any hm ?_, hR⟩
  have hfalse : ∀ k, (Array.replicate ops.size false).getD k false = false := fun k => by
    rw [Array.getD_eq_getD_getElem?, Array.getElem?_replicate]; split <;> rfl
  have hinit : Inv2 t E base w (fun k => (Array.replicate ops.size false).getD k false) 0 E { w with drawn := w.drawn + 1 } a := by
    refine ⟨Nat.zero_le _, fun i o _ _ => ?_, Step.same rfl rfl rfl ⟨rfl, Nat.le_succ _⟩, ?_, ht.size, ht.defers, fun s j o hS => ?_, fun s _ => ?_⟩
    · rw [hfalse]; simp
    · show HRel E base (H 0) w.heap
      rw [e2]; exact hr
    · rw [hfalse] at hS; cases hS
    · show VRel E (T 0 s) _
      rw [e1]; exact ht.rel s
  have hcnt : cntF (fun k => (Array.replicate ops.size false).getD k false) ops.size = ops.size := by
    have : ∀ m, cntF (fun k => (Array.replicate ops.size false).getD k false) m = m := by
      intro m
      induction m with
      | zero => rfl
      | succ m ih =>
        show cntF _ m + (if (Array.replicate ops.size false).getD m false = true then 0 else 1) = m + 1
        rw [ih, hfalse]; simp
    exact this ops.size
  refine any_chain (Q := fun ex a' w' => ex = .normal ∧ ∃ E', Step E h w E' (H ops.size) w' ∧ HRel E' base (H ops.size) w'.heap ∧ TRel E' n (T ops.size) a') t hd hch (E0 := E) (base := base) (w0 := w) ?_ ops.size (Array.replicate ops.size false) 0 E { w with drawn := w.drawn + 1 } a (by simp) hcnt (fun i j hi => by rw [hfalse] at hi; cases hi) hinit
  intro E1 w1 a1 st hr1 ht1
  have st' : Step E h w E1 (H ops.size) w1 := by have := st; rw [show t.H 0 = h from e2] at this; exact this
  exact ⟨rfl, E1, st', hr1, ht1⟩
end
end Go.Eng
end
section
namespace Go.Eng
def gateX (v : Value) (want : Bool) (A B : Prop) : Prop := (v = .bool want ∧ A) ∨ (v = .bool (!want) ∧ B) ∨ ∃ c, v = .tuple c ∧ B
@[simp] theorem gateX_bool (b want : Bool) (A B : Prop) : gateX (.bool b) want A B = if b = want then A else B := by
  unfold gateX
  cases b <;> cases want <;> simp
@[simp] theorem gateX_tuple (c : Array Value) (want : Bool) (A B : Prop) : gateX (.tuple c) want A B = B := by
  unfold gateX
  simp
@[simp] theorem gateX_undef (want : Bool) (A B : Prop) : gateX undef want A B = B := gateX_tuple _ _ _ _
@[congr] theorem gateX_congr {v w : Value} (want : Bool) (A B : Prop) (e : v = w) : gateX v want A B = gateX w want A B := by rw [e]
def condX (v : Value) (A B : Prop) : Prop := (v = .bool true ∧ A) ∨ (v = .bool false ∧ B)
@[simp] theorem condX_bool (b : Bool) (A B : Prop) : condX (.bool b) A B = if b = true then A else B := by
  unfold condX
  cases b <;> simp
@[congr] theorem condX_congr {v w : Value} (A B : Prop) (e : v = w) : condX v A B = condX w A B := by rw [e]
section
variable {P : Program} {n : Nat} {tm : Nat → Value} {h : Hp} {ops : Array Oper} {rest : List Oper} {R : (Nat → Value) → Hp → Prop} {o : Oper} {Q : Exit → (Nat → Value) → Hp → Prop}
end
end Go.Eng
end
namespace Go.Eng
structure Wit {α : Type} (a : α) : Type where
section
variable {P : Program} {n : Nat} {tm : Nat → Value} {h : Hp} {Q : Exit → (Nat → Value) → Hp → Prop} {R : (Nat → Value) → Hp → Prop}
def WY (P : Program) (n : Nat) (c : Code) (Q : Exit → (Nat → Value) → Hp → Prop) (_ : Wit (c, Q)) (tm : Nat → Value) (h : Hp) : Prop := WD P n c Q tm h
def RY (P : Program) (n : Nat) (ops : Array Oper) (l : List Oper) (R : (Nat → Value) → Hp → Prop) (_ : Wit (ops, l, R)) (tm : Nat → Value) (h : Hp) : Prop := RunD P n ops l R tm h
def thenY (r : Option (Value × Hp)) (k : Value → Hp → Prop) (_ : Wit k) : Prop := thenX r k
def condY (v : Value) (A B : Prop) (_ : Wit (A, B)) : Prop := condX v A B
def gateY (v : Value) (w : Bool) (A B : Prop) (_ : Wit (A, B)) : Prop := gateX v w A B
def doneY (P : Program) (rs : List ResultVar) (R : Value → Hp → Prop) (_ : Wit R) (e : Exit) (tm : Nat → Value) (h : Hp) : Prop := Done P rs R e tm h
@[simp] theorem thenY_some (v : Value) (h' : Hp) (k : Value → Hp → Prop) (z : Wit k) : thenY (some (v, h')) k z = k v h' := thenX_some v h' k
@[simp] theorem condY_t (A B : Prop) (z : Wit (A, B)) : condY (.bool true) A B z = A := by simp [condY]
@[simp] theorem condY_f (A B : Prop) (z : Wit (A, B)) : condY (.bool false) A B z = B := by simp [condY]
@[simp] theorem condY_dp (p : Prop) [Decidable p] (A B : Prop) (z : Wit (A, B)) (hp : p) : condY (.bool (decide p)) A B z = A := by simp [condY, hp]
@[simp] theorem condY_dn (p : Prop) [Decidable p] (A B : Prop) (z : Wit (A, B)) (hp : ¬ p) : condY (.bool (decide p)) A B z = B := by simp [condY, hp]
@[simp] theorem condY_en {α : Type} [BEq α] [LawfulBEq α] (a b : α) (A B : Prop) (z : Wit (A, B)) (hp : ¬ a = b) : condY (.bool (a == b)) A B z = B := by simp [condY, hp]
@[simp] theorem condY_np {α : Type} [BEq α] [LawfulBEq α] (a b : α) (A B : Prop) (z : Wit (A, B)) (hp : ¬ a = b) : condY (.bool (a != b)) A B z = A := by simp [condY, hp]
@[simp] theorem gateY_dp (p : Prop) [Decidable p] (w : Bool) (A B : Prop) (z : Wit (A, B)) (hp : p) : gateY (.bool (decide p)) w A B z = if w = true then A else B := by cases w <;> simp [gateY, hp]
@[simp] theorem gateY_dn (p : Prop) [Decidable p] (w : Bool) (A B : Prop) (z : Wit (A, B)) (hp : ¬ p) : gateY (.bool (decide p)) w A B z = if w = true then B else A := by cases w <;> simp [gateY, hp]
@[simp] theorem gateY_t (A B : Prop) (b : Bool) (z : Wit (A, B)) : gateY (.bool b) b A B z = A := by simp [gateY]
@[simp] theorem gateY_f (A B : Prop) (z : Wit (A, B)) : gateY (.bool false) true A B z = B := by simp [gateY]
@[simp] theorem gateY_g (A B : Prop) (z : Wit (A, B)) : gateY (.bool true) false A B z = B := by simp [gateY]
@[simp] theorem gateY_u (A B : Prop) (w : Bool) (z : Wit (A, B)) : gateY undef w A B z = B := by simp [gateY]
theorem callY_P {f : FuncId} {fn : Func} {args : List Value} {v : Value} (n : Nat) (body : Code) (rs : List ResultVar) (hf : P.funcs[f]? = some fn) (hb : fn.body = some body)
    (hrs : fn.results.toList = rs) (hn : args.length + (fn.ntmps - args.length) = n) (hv : plainV v = true) (hw : WY P n body (doneY P rs (fun u h' => u = v ∧ Keeps h h') ⟨⟩) ⟨⟩ (argL args) h) : CallOK P f args.toArray h v h := call_P n body rs hf hb hrs hn hv hw
theorem callY_L {f : FuncId} {fn : Func} {args : List Value} {R : Value → Hp → Prop} (n : Nat) (body : Code) (rs : List ResultVar) (hf : P.funcs[f]? = some fn) (hb : fn.body = some body)
    (hrs : fn.results.toList = rs) (hn : args.length + (fn.ntmps - args.length) = n) (hw : WY P n body (doneY P rs R ⟨⟩) ⟨⟩ (argL args) h) : ∃ v h', CallOK P f args.toArray h v h' ∧ R v h' := call_L n body rs hf hb hrs hn hw
def seqK (P : Program) (n : Nat) (y : Code) (Q : Exit → (Nat → Value) → Hp → Prop) : Exit → (Nat → Value) → Hp → Prop
  | .normal, tm, h => WY P n y Q ⟨⟩ tm h
  | e, tm, h => Q e tm h
@[simp ↓] theorem seqK_n (y : Code) : seqK P n y Q .normal tm h = WY P n y Q ⟨⟩ tm h := rfl
@[simp ↓] theorem seqK_r (y : Code) : seqK P n y Q .ret tm h = Q .ret tm h := rfl
@[simp ↓] theorem seqK_x (y : Code) (i : Nat) : seqK P n y Q (.exit i) tm h = Q (.exit i) tm h := rfl
theorem wd_seq' (x y : Code) : WD P n (.seq x y) Q tm h = WD P n x (seqK P n y Q) tm h := by
  show WD P n x _ tm h = _
  congr 1
  funext e tm h
  cases e <;> rfl
@[simp ↓] theorem wd_seq (x y : Code) {z : Wit _} : WY P n (.seq x y) Q z tm h = WY P n x (seqK P n y Q) ⟨⟩ tm h := wd_seq' x y
@[simp ↓] theorem wd_block (i : Nat) (c : Code) {z : Wit _} : WY P n (.block i c) Q z tm h = WY P n c (inBlk i Q) ⟨⟩ tm h := rfl
@[simp ↓] theorem inBlk_n (i : Nat) : inBlk i Q .normal tm h = Q .normal tm h := rfl
@[simp ↓] theorem inBlk_r (i : Nat) : inBlk i Q .ret tm h = Q .ret tm h := rfl
@[simp ↓] theorem inBlk_x (i : Nat) : inBlk i Q (.exit i) tm h = Q .normal tm h := by simp [inBlk]
@[simp ↓] theorem wd_skip {z : Wit _} : WY P n .skip Q z tm h = Q .normal tm h := rfl
@[simp ↓] theorem wd_ret {z : Wit _} : WY P n .ret Q z tm h = Q .ret tm h := rfl
@[simp ↓] theorem wd_exit (i : Nat) {z : Wit _} : WY P n (.exit i) Q z tm h = Q (.exit i) tm h := rfl
@[simp ↓] theorem wd_region (i : Nat) (l : List Oper) {z : Wit _} : WY P n (.region i (List.toArray l) false) Q z tm h = RY P n (List.toArray l) l (Q .normal) ⟨⟩ tm h := rfl
@[simp ↓] theorem wd_cond (c : Operand) (x y : Code) {z : Wit _} : WY P n (.cond c x y) Q z tm h = (okX c = true ∧ condY (ev tm c) (WY P n x Q ⟨⟩ tm h) (WY P n y Q ⟨⟩ tm h) ⟨⟩) := by
  apply propext
  constructor
  · rintro ⟨h1, b, h2, h3, h4⟩
    refine ⟨h1, ?_⟩
    cases b
    · exact .inr ⟨h2, h4 rfl⟩
    · exact .inl ⟨h2, h3 rfl⟩
  · rintro ⟨h1, h2 | h2⟩
    · exact ⟨h1, true, h2.1, fun _ => h2.2, fun e => by cases e⟩
    · exact ⟨h1, false, h2.1, (fun e => by cases e), fun _ => h2.2⟩
@[simp ↓] theorem runD_nil (ops : Array Oper) {z : Wit _} : RY P n ops [] R z tm h = R tm h := rfl
def runK (P : Program) (n : Nat) (ops : Array Oper) (l : List Oper) (R : (Nat → Value) → Hp → Prop) (tm : Nat → Value) (d : Nat) : Value → Hp → Prop := fun v h => RY P n ops l R ⟨⟩ (upd tm d v) h
def runS (P : Program) (n : Nat) (ops : Array Oper) (l : List Oper) (R : (Nat → Value) → Hp → Prop) (tm : Nat → Value) : Value → Hp → Prop := fun _ h => RY P n ops l R ⟨⟩ tm h
@[simp ↓] theorem runK_app (ops : Array Oper) (l : List Oper) (d : Nat) (v : Value) : runK P n ops l R tm d v h = RY P n ops l R ⟨⟩ (upd tm d v) h := rfl
@[simp ↓] theorem runS_app (ops : Array Oper) (l : List Oper) (v : Value) : runS P n ops l R tm v h = RY P n ops l R ⟨⟩ tm h := rfl
def callG (P : Program) (n : Nat) (ops : Array Oper) (fx : Operand) (xs : Array Operand) (l : List Oper) (R : (Nat → Value) → Hp → Prop) (_ : Wit (ops, fx, xs, l, R)) (tm : Nat → Value) (d : Nat) (h : Hp) : Prop :=
  okX fx = true ∧ xs.all okX = true ∧ match ev tm fx with
    | .func (.func f) fst cap => fnOK P f = true ∧ ∃ v h', CallOK P f (fst ++ xs.map (ev tm) ++ cap) h v h' ∧ RunD P n ops l R (upd tm d v) h'
    | _ => False
theorem callG_c {ops : Array Oper} {l : List Oper} {d : Nat} {f : FuncId} {xs : Array Operand} {z : Wit _} {args : Array Value} {v : Value} {h' : Hp} (h2 : xs.all okX = true) (h4 : fnOK P f = true) (ha : xs.map (ev tm) = args) (hc : CallOK P f args h v h')
    (hr : RY P n ops l R ⟨⟩ (upd tm d v) h') : callG P n ops (.func f) xs l R z tm d h :=
  ⟨rfl, h2, h4, v, h', by rw [ha]; simpa using hc, hr⟩
theorem callG_f {ops : Array Oper} {l : List Oper} {d : Nat} {f : FuncId} {fx : Operand} {fst cap : Array Value} {xs : Array Operand} {z : Wit _} {args : Array Value} {v : Value} {h' : Hp} (hx : okX fx = true) (h2 : xs.all okX = true) (h3 : ev tm fx = .func (.func f) fst cap) (h4 : fnOK P f = true)
    (ha : fst ++ xs.map (ev tm) ++ cap = args) (hc : CallOK P f args h v h') (hr : RY P n ops l R ⟨⟩ (upd tm d v) h') : callG P n ops fx xs l R z tm d h := by
  refine ⟨hx, h2, ?_⟩
  rw [h3]
  exact ⟨h4, v, h', by rw [ha]; exact hc, hr⟩
def gsl (l : List Oper) (j : Nat) : Option Nat := (l[j]?).bind (·.dst)
@[simp ↓] theorem gsl_0 (o : Oper) (l : List Oper) : gsl (o :: l) 0 = o.dst := rfl
@[simp ↓] theorem gsl_s (o : Oper) (l : List Oper) (j : Nat) : gsl (o :: l) (j + 1) = gsl l j := by simp [gsl]
def gateO (n : Nat) (g : Option Nat) (tm : Nat → Value) (w : Bool) (A B : Prop) (_ : Wit (A, B)) : Prop := match g with
  | some g => g < n ∧ gateX (tm g) w A B
  | none => False
@[simp] theorem gateO_some (g : Nat) (w : Bool) (A B : Prop) {z : Wit _} : gateO n (some g) tm w A B z = (g < n ∧ gateY (tm g) w A B ⟨⟩) := rfl
theorem gate_eq (n : Nat) (g : Option Nat) (tm : Nat → Value) (w : Bool) (A B : Prop) : ((match g with | some d => decide (d < n) | none => false) = true ∧ (match (match g with | some d => (match tm d with | .bool b => some (b == w) | .tuple _ => some false | _ => none) | none => none) with
    | none => False | some false => B | some true => A)) = gateO n g tm w A B ⟨⟩ := by
  cases g with
  | none => simp [gateO]
  | some d =>
    simp only [gateO, decide_eq_true_eq]
    congr 1
    cases hv : tm d with
    | bool b => cases b <;> cases w <;> simp [gateX]
    | tuple c => simp [gateX]
    | _ => simp [gateX]
def stepA (P : Program) (n : Nat) (ops : Array Oper) (op : Op) (l : List Oper) (R : (Nat → Value) → Hp → Prop) (tm : Nat → Value) (d : Nat) (h : Hp) : Prop := match op with
  | .call ⟨.value fx, xs, _⟩ => callG P n ops fx xs l R ⟨⟩ tm d h
  | op => thenY (opD P op tm h) (runK P n ops l R tm d) ⟨⟩
variable {ops : Array Oper} {L : List Oper} {op : Op} {ty : TypeId} {pos : String} {aft : Array Edge} {l : List Oper} {d j p : Nat} {w : Bool}
theorem stepA_op (hc : callV op = false) : stepA P n ops op l R tm d h = thenY (opD P op tm h) (runK P n ops l R tm d) ⟨⟩ := by
  unfold stepA
  split
  · simp [callV] at hc
  · rfl
theorem runD_match : (match op with
      | .call ⟨.value fx, xs, _⟩ => okX fx = true ∧ xs.all okX = true ∧ match ev tm fx with
          | .func (.func f) fst cap => fnOK P f = true ∧ ∃ v h', CallOK P f (fst ++ xs.map (ev tm) ++ cap) h v h' ∧ RunD P n ops l R (updO tm (some d) v) h'
          | _ => False
      | op => match opD P op tm h with
        | some (v, h') => RunD P n ops l R (updO tm (some d) v) h'
        | none => False) = stepA P n ops op l R tm d h := by
  unfold stepA
  split
  · rfl
  · cases ho : opD P op tm h with
    | none => simp [thenY]
    | some q =>
      obtain ⟨v, h'⟩ := q
      rw [thenY_some]; rfl
theorem runD_u {z : Wit _} : RY P n ops (⟨some d, op, ty, pos, aft, none⟩ :: l) R z tm h = (d < n ∧ stepA P n ops op l R tm d h) := by
  rw [← runD_match]
  simp only [RY, RunD, dstOK, guardOK, wantA, decide_eq_true_eq, true_and]
  rfl
theorem runD_g {z : Wit _} : RY P n (List.toArray L) (⟨some d, op, ty, pos, aft, some (j, w)⟩ :: l) R z tm h = (d < n ∧ gateO n (gsl L j) tm w (stepA P n (List.toArray L) op l R tm d h) (RY P n (List.toArray L) l R ⟨⟩ (upd tm d undef) h) ⟨⟩) := by
  rw [← gate_eq, ← runD_match]
  simp only [RY, RunD, dstOK, guardOK, wantA, decide_eq_true_eq, gsl, List.getElem?_toArray]
  rfl
theorem ru (hc : callV op = false) {z : Wit _} : RY P n ops (⟨some d, op, ty, pos, aft, none⟩ :: l) R z tm h = (d < n ∧ thenY (opD P op tm h) (runK P n ops l R tm d) ⟨⟩) := by rw [runD_u, stepA_op hc]
theorem rg (hc : callV op = false) {z : Wit _} : RY P n (List.toArray L) (⟨some d, op, ty, pos, aft, some (j, w)⟩ :: l) R z tm h = (d < n ∧ gateO n (gsl L j) tm w (thenY (opD P op tm h) (runK P n (List.toArray L) l R tm d) ⟨⟩) (RY P n (List.toArray L) l R ⟨⟩ (upd tm d undef) h) ⟨⟩) := by rw [runD_g, stepA_op hc]
theorem rs (hc : callV op = false) {z : Wit _} : RY P n ops (⟨none, op, ty, pos, aft, none⟩ :: l) R z tm h = thenY (opD P op tm h) (runS P n ops l R tm) ⟨⟩ := by
  simp only [RY, RunD, dstOK, guardOK, wantA, true_and]
  split
  · simp [callV] at hc
  · cases ho : opD P op tm h with
    | none => simp [thenY]
    | some q =>
      obtain ⟨v, h'⟩ := q
      rw [thenY_some]; rfl
@[simp ↓] theorem ru_move {x} {z : Wit _} : RY P n ops (⟨some d, .move x, ty, pos, aft, none⟩ :: l) R z tm h = (d < n ∧ thenY (opD P (.move x) tm h) (runK P n ops l R tm d) ⟨⟩) := ru rfl
@[simp ↓] theorem rg_move {x} {z : Wit _} : RY P n (List.toArray L) (⟨some d, .move x, ty, pos, aft, some (j, w)⟩ :: l) R z tm h = (d < n ∧ gateO n (gsl L j) tm w (thenY (opD P (.move x) tm h) (runK P n (List.toArray L) l R tm d) ⟨⟩) (RY P n (List.toArray L) l R ⟨⟩ (upd tm d undef) h) ⟨⟩) := rg rfl
@[simp ↓] theorem ru_assign {x} {z : Wit _} : RY P n ops (⟨some d, .assign x, ty, pos, aft, none⟩ :: l) R z tm h = (d < n ∧ thenY (opD P (.assign x) tm h) (runK P n ops l R tm d) ⟨⟩) := ru rfl
@[simp ↓] theorem ru_pick {c x y} {z : Wit _} : RY P n ops (⟨some d, .pick c x y, ty, pos, aft, none⟩ :: l) R z tm h = (d < n ∧ thenY (opD P (.pick c x y) tm h) (runK P n ops l R tm d) ⟨⟩) := ru rfl
@[simp ↓] theorem rg_pick {c x y} {z : Wit _} : RY P n (List.toArray L) (⟨some d, .pick c x y, ty, pos, aft, some (j, w)⟩ :: l) R z tm h = (d < n ∧ gateO n (gsl L j) tm w (thenY (opD P (.pick c x y) tm h) (runK P n (List.toArray L) l R tm d) ⟨⟩) (RY P n (List.toArray L) l R ⟨⟩ (upd tm d undef) h) ⟨⟩) := rg rfl
@[simp ↓] theorem ru_alloc {e} {z : Wit _} : RY P n ops (⟨some d, .alloc e, ty, pos, aft, none⟩ :: l) R z tm h = (d < n ∧ thenY (opD P (.alloc e) tm h) (runK P n ops l R tm d) ⟨⟩) := ru rfl
@[simp ↓] theorem ru_box {e x} {z : Wit _} : RY P n ops (⟨some d, .box e x, ty, pos, aft, none⟩ :: l) R z tm h = (d < n ∧ thenY (opD P (.box e x) tm h) (runK P n ops l R tm d) ⟨⟩) := ru rfl
@[simp ↓] theorem ru_load {t x} {z : Wit _} : RY P n ops (⟨some d, .load t x, ty, pos, aft, none⟩ :: l) R z tm h = (d < n ∧ thenY (opD P (.load t x) tm h) (runK P n ops l R tm d) ⟨⟩) := ru rfl
@[simp ↓] theorem rg_load {t x} {z : Wit _} : RY P n (List.toArray L) (⟨some d, .load t x, ty, pos, aft, some (j, w)⟩ :: l) R z tm h = (d < n ∧ gateO n (gsl L j) tm w (thenY (opD P (.load t x) tm h) (runK P n (List.toArray L) l R tm d) ⟨⟩) (RY P n (List.toArray L) l R ⟨⟩ (upd tm d undef) h) ⟨⟩) := rg rfl
@[simp ↓] theorem ru_fieldAddr {s x f} {z : Wit _} : RY P n ops (⟨some d, .fieldAddr s x f, ty, pos, aft, none⟩ :: l) R z tm h = (d < n ∧ thenY (opD P (.fieldAddr s x f) tm h) (runK P n ops l R tm d) ⟨⟩) := ru rfl
@[simp ↓] theorem rg_fieldAddr {s x f} {z : Wit _} : RY P n (List.toArray L) (⟨some d, .fieldAddr s x f, ty, pos, aft, some (j, w)⟩ :: l) R z tm h = (d < n ∧ gateO n (gsl L j) tm w (thenY (opD P (.fieldAddr s x f) tm h) (runK P n (List.toArray L) l R tm d) ⟨⟩) (RY P n (List.toArray L) l R ⟨⟩ (upd tm d undef) h) ⟨⟩) := rg rfl
@[simp ↓] theorem ru_indexAddr {t x y} {z : Wit _} : RY P n ops (⟨some d, .indexAddr t x y, ty, pos, aft, none⟩ :: l) R z tm h = (d < n ∧ thenY (opD P (.indexAddr t x y) tm h) (runK P n ops l R tm d) ⟨⟩) := ru rfl
@[simp ↓] theorem rg_indexAddr {t x y} {z : Wit _} : RY P n (List.toArray L) (⟨some d, .indexAddr t x y, ty, pos, aft, some (j, w)⟩ :: l) R z tm h = (d < n ∧ gateO n (gsl L j) tm w (thenY (opD P (.indexAddr t x y) tm h) (runK P n (List.toArray L) l R tm d) ⟨⟩) (RY P n (List.toArray L) l R ⟨⟩ (upd tm d undef) h) ⟨⟩) := rg rfl
@[simp ↓] theorem ru_extract {x i} {z : Wit _} : RY P n ops (⟨some d, .extract x i, ty, pos, aft, none⟩ :: l) R z tm h = (d < n ∧ thenY (opD P (.extract x i) tm h) (runK P n ops l R tm d) ⟨⟩) := ru rfl
@[simp ↓] theorem ru_makeFunc {fn f c} {z : Wit _} : RY P n ops (⟨some d, .makeFunc fn f c, ty, pos, aft, none⟩ :: l) R z tm h = (d < n ∧ thenY (opD P (.makeFunc fn f c) tm h) (runK P n ops l R tm d) ⟨⟩) := ru rfl
@[simp ↓] theorem ru_binOp {b t x y t2} {z : Wit _} : RY P n ops (⟨some d, .binOp b t x y t2, ty, pos, aft, none⟩ :: l) R z tm h = (d < n ∧ thenY (opD P (.binOp b t x y t2) tm h) (runK P n ops l R tm d) ⟨⟩) := ru rfl
@[simp ↓] theorem rg_binOp {b t x y t2} {z : Wit _} : RY P n (List.toArray L) (⟨some d, .binOp b t x y t2, ty, pos, aft, some (j, w)⟩ :: l) R z tm h = (d < n ∧ gateO n (gsl L j) tm w (thenY (opD P (.binOp b t x y t2) tm h) (runK P n (List.toArray L) l R tm d) ⟨⟩) (RY P n (List.toArray L) l R ⟨⟩ (upd tm d undef) h) ⟨⟩) := rg rfl
@[simp ↓] theorem ru_unOp {u t x} {z : Wit _} : RY P n ops (⟨some d, .unOp u t x, ty, pos, aft, none⟩ :: l) R z tm h = (d < n ∧ thenY (opD P (.unOp u t x) tm h) (runK P n ops l R tm d) ⟨⟩) := ru rfl
@[simp ↓] theorem rg_unOp {u t x} {z : Wit _} : RY P n (List.toArray L) (⟨some d, .unOp u t x, ty, pos, aft, some (j, w)⟩ :: l) R z tm h = (d < n ∧ gateO n (gsl L j) tm w (thenY (opD P (.unOp u t x) tm h) (runK P n (List.toArray L) l R tm d) ⟨⟩) (RY P n (List.toArray L) l R ⟨⟩ (upd tm d undef) h) ⟨⟩) := rg rfl
@[simp ↓] theorem ru_convert {s e x} {z : Wit _} : RY P n ops (⟨some d, .convert s e x, ty, pos, aft, none⟩ :: l) R z tm h = (d < n ∧ thenY (opD P (.convert s e x) tm h) (runK P n ops l R tm d) ⟨⟩) := ru rfl
@[simp ↓] theorem ru_makeSlice {t x y} {z : Wit _} : RY P n ops (⟨some d, .makeSlice t x y, ty, pos, aft, none⟩ :: l) R z tm h = (d < n ∧ thenY (opD P (.makeSlice t x y) tm h) (runK P n ops l R tm d) ⟨⟩) := ru rfl
@[simp ↓] theorem ru_slice {t x lo hi mx} {z : Wit _} : RY P n ops (⟨some d, .slice t x lo hi mx, ty, pos, aft, none⟩ :: l) R z tm h = (d < n ∧ thenY (opD P (.slice t x lo hi mx) tm h) (runK P n ops l R tm d) ⟨⟩) := ru rfl
@[simp ↓] theorem ru_build {t ps} {z : Wit _} : RY P n ops (⟨some d, .build t ps, ty, pos, aft, none⟩ :: l) R z tm h = (d < n ∧ thenY (opD P (.build t ps) tm h) (runK P n ops l R tm d) ⟨⟩) := ru rfl
@[simp ↓] theorem ru_buildSlice {t m ps} {z : Wit _} : RY P n ops (⟨some d, .buildSlice t m ps, ty, pos, aft, none⟩ :: l) R z tm h = (d < n ∧ thenY (opD P (.buildSlice t m ps) tm h) (runK P n ops l R tm d) ⟨⟩) := ru rfl
@[simp ↓] theorem ru_nilCheck {x} {z : Wit _} : RY P n ops (⟨some d, .nilCheck x, ty, pos, aft, none⟩ :: l) R z tm h = (d < n ∧ thenY (opD P (.nilCheck x) tm h) (runK P n ops l R tm d) ⟨⟩) := ru rfl
@[simp ↓] theorem rg_nilCheck {x} {z : Wit _} : RY P n (List.toArray L) (⟨some d, .nilCheck x, ty, pos, aft, some (j, w)⟩ :: l) R z tm h = (d < n ∧ gateO n (gsl L j) tm w (thenY (opD P (.nilCheck x) tm h) (runK P n (List.toArray L) l R tm d) ⟨⟩) (RY P n (List.toArray L) l R ⟨⟩ (upd tm d undef) h) ⟨⟩) := rg rfl
@[simp ↓] theorem ru_bi {b xs ts} {z : Wit _} : RY P n ops (⟨some d, .call ⟨.builtin b, xs, ts⟩, ty, pos, aft, none⟩ :: l) R z tm h = (d < n ∧ thenY (opD P (.call ⟨.builtin b, xs, ts⟩) tm h) (runK P n ops l R tm d) ⟨⟩) := ru rfl
@[simp ↓] theorem rg_bi {b xs ts} {z : Wit _} : RY P n (List.toArray L) (⟨some d, .call ⟨.builtin b, xs, ts⟩, ty, pos, aft, some (j, w)⟩ :: l) R z tm h = (d < n ∧ gateO n (gsl L j) tm w (thenY (opD P (.call ⟨.builtin b, xs, ts⟩) tm h) (runK P n (List.toArray L) l R tm d) ⟨⟩) (RY P n (List.toArray L) l R ⟨⟩ (upd tm d undef) h) ⟨⟩) := rg rfl
@[simp ↓] theorem rs_store {t x y} {z : Wit _} : RY P n ops (⟨none, .store t x y, ty, pos, aft, none⟩ :: l) R z tm h = thenY (opD P (.store t x y) tm h) (runS P n ops l R tm) ⟨⟩ := rs rfl
@[simp ↓] theorem ru_call {fx xs ts} {z : Wit _} : RY P n ops (⟨some d, .call ⟨.value fx, xs, ts⟩, ty, pos, aft, none⟩ :: l) R z tm h = (d < n ∧ callG P n ops fx xs l R ⟨⟩ tm d h) := runD_u
@[simp ↓] theorem rg_call {fx xs ts} {z : Wit _} : RY P n (List.toArray L) (⟨some d, .call ⟨.value fx, xs, ts⟩, ty, pos, aft, some (j, w)⟩ :: l) R z tm h = (d < n ∧ gateO n (gsl L j) tm w (callG P n (List.toArray L) fx xs l R ⟨⟩ tm d h) (RY P n (List.toArray L) l R ⟨⟩ (upd tm d undef) h) ⟨⟩) := runD_g
def PreC (P : Program) (n : Nat) (ops : Array Oper) : Nat → List Oper → ((Nat → Value) → Hp → Prop) → (Nat → Value) → Hp → Prop
  | 0, l, R, tm, h => RunD P n ops l R tm h
  | _ + 1, [], R, tm, h => R tm h
  | p + 1, o :: l, R, tm, h => dstOK n o.dst = true ∧ guardOK n ops o = true ∧
    match wantA ops tm o with
    | none => False
    | some false => PreC P n ops p l R (updO tm o.dst undef) h
    | some true => match o.op with
      | .call ⟨.value fx, xs, _⟩ => okX fx = true ∧ xs.all okX = true ∧ match ev tm fx with
          | .func (.func f) fst cap => fnOK P f = true ∧ ∃ v h', CallOK P f (fst ++ xs.map (ev tm) ++ cap) h v h' ∧ Adds h h' ∧ PreC P n ops p l R (updO tm o.dst v) h'
          | _ => False
      | op => match opD P op tm h with
        | some (v, h') => Adds h h' ∧ PreC P n ops p l R (updO tm o.dst v) h'
        | none => False
theorem PreC.pre {ops : Array Oper} {R : (Nat → Value) → Hp → Prop} : ∀ (p : Nat) (l : List Oper) (tm : Nat → Value) (h : Hp), PreC P n ops p l R tm h → PreD P n ops (l.take p) (fun tm h => RunD P n ops (l.drop p) R tm h) tm h
  | 0, l, tm, h, hp => hp
  | p + 1, [], tm, h, hp => hp
  | p + 1, o :: l, tm, h, ⟨h1, h2, h3⟩ => by
    refine ⟨h1, h2, ?_⟩
    cases hw : wantA ops tm o with
    | none => rw [hw] at h3; exact h3.elim
    | some b =>
      rw [hw] at h3
      cases b with
      | false => exact .inr ⟨rfl, PreC.pre p l _ _ h3⟩
      | true =>
        left
        refine ⟨rfl, ?_⟩
        simp only at h3
        split at h3
        · rename_i fx xs ts heq
          obtain ⟨h4, h5, h6⟩ := h3
          split at h6
          · rename_i f fst cap hf
            obtain ⟨h7, v, h', h8, h9, h10⟩ := h6
            exact ⟨v, h', ok_call heq hf h4 h5 h7 h8, h9, PreC.pre p l _ _ h10⟩
          · exact h6.elim
        · split at h3
          · rename_i v h' hv
            exact ⟨v, h', opD_sound hv, h3.1, PreC.pre p l _ _ h3.2⟩
          · exact h3.elim
theorem preD_mono {ops : Array Oper} : ∀ (l : List Oper) (R R' : (Nat → Value) → Hp → Prop), (∀ tm h, R tm h → R' tm h) → ∀ tm h, PreD P n ops l R tm h → PreD P n ops l R' tm h := by
  intro l R R' hRR
  induction l with
  | nil => exact fun tm h hq => hRR _ _ hq
  | cons o rest ih =>
    rintro tm h ⟨h1, h2, h3⟩
    refine ⟨h1, h2, h3.imp ?_ ?_⟩
    · rintro ⟨hw, v, h', hok, ha, hp⟩; exact ⟨hw, v, h', hok, ha, ih _ _ hp⟩
    · rintro ⟨hw, hp⟩; exact ⟨hw, ih _ _ hp⟩
def PY (P : Program) (n : Nat) (ops : Array Oper) (p : Nat) (l : List Oper) (R : (Nat → Value) → Hp → Prop) (_ : Wit (ops, l, R)) (tm : Nat → Value) (h : Hp) : Prop := PreC P n ops p l R tm h
theorem WD_drawC {id : Nat} (p : Nat) (hm : P.follows .mixedOrders = true) (hd : drawOK (List.toArray l) p = true) {z : Wit _} (hq : PY P n (List.toArray l) p l (Q .normal) ⟨⟩ tm h) : WY P n (.region id (List.toArray l) true) Q z tm h :=
  WD_draw p hm hd fun _ hK => preD_mono _ _ _ hK _ _ (PreC.pre p l tm h hq)
theorem WD_chainC {id : Nat} (hm : P.follows .mixedOrders = true) (hd : drawOK (List.toArray l) (List.toArray l).size = true) (hch : chainB (List.toArray l) = true) {z : Wit _} (hr : RY P n (List.toArray l) l (Q .normal) ⟨⟩ tm h) : WY P n (.region id (List.toArray l) true) Q z tm h :=
  runs_chain hm hd hch hr
@[simp ↓] theorem preC_0 {z : Wit _} : PY P n ops 0 l R z tm h = RY P n ops l R ⟨⟩ tm h := rfl
def preK (P : Program) (n : Nat) (ops : Array Oper) (p : Nat) (l : List Oper) (R : (Nat → Value) → Hp → Prop) (tm : Nat → Value) (d : Nat) (h : Hp) : Value → Hp → Prop := fun v h' => Adds h h' ∧ PY P n ops p l R ⟨⟩ (upd tm d v) h'
@[simp ↓] theorem preK_app (v : Value) (h' : Hp) : preK P n ops p l R tm d h v h' = (Adds h h' ∧ PY P n ops p l R ⟨⟩ (upd tm d v) h') := rfl
def callP (P : Program) (n : Nat) (ops : Array Oper) (p : Nat) (fx : Operand) (xs : Array Operand) (l : List Oper) (R : (Nat → Value) → Hp → Prop) (_ : Wit (ops, fx, xs, l, R)) (tm : Nat → Value) (d : Nat) (h : Hp) : Prop :=
  okX fx = true ∧ xs.all okX = true ∧ match ev tm fx with
    | .func (.func f) fst cap => fnOK P f = true ∧ ∃ v h', CallOK P f (fst ++ xs.map (ev tm) ++ cap) h v h' ∧ Adds h h' ∧ PreC P n ops p l R (upd tm d v) h'
    | _ => False
theorem callP_c {f : FuncId} {xs : Array Operand} {z : Wit _} {args : Array Value} {v : Value} {h' : Hp} (h2 : xs.all okX = true) (h4 : fnOK P f = true) (ha : xs.map (ev tm) = args) (hc : CallOK P f args h v h') (hadd : Adds h h')
    (hr : PY P n ops p l R ⟨⟩ (upd tm d v) h') : callP P n ops p (.func f) xs l R z tm d h :=
  ⟨rfl, h2, h4, v, h', by rw [ha]; simpa using hc, hadd, hr⟩
def stepP (P : Program) (n : Nat) (ops : Array Oper) (p : Nat) (op : Op) (l : List Oper) (R : (Nat → Value) → Hp → Prop) (tm : Nat → Value) (d : Nat) (h : Hp) : Prop := match op with
  | .call ⟨.value fx, xs, _⟩ => callP P n ops p fx xs l R ⟨⟩ tm d h
  | op => thenY (opD P op tm h) (preK P n ops p l R tm d h) ⟨⟩
theorem stepP_op (hc : callV op = false) : stepP P n ops p op l R tm d h = thenY (opD P op tm h) (preK P n ops p l R tm d h) ⟨⟩ := by
  unfold stepP
  split
  · simp [callV] at hc
  · rfl
theorem preC_match : (match op with
      | .call ⟨.value fx, xs, _⟩ => okX fx = true ∧ xs.all okX = true ∧ match ev tm fx with
          | .func (.func f) fst cap => fnOK P f = true ∧ ∃ v h', CallOK P f (fst ++ xs.map (ev tm) ++ cap) h v h' ∧ Adds h h' ∧ PreC P n ops p l R (updO tm (some d) v) h'
          | _ => False
      | op => match opD P op tm h with
        | some (v, h') => Adds h h' ∧ PreC P n ops p l R (updO tm (some d) v) h'
        | none => False) = stepP P n ops p op l R tm d h := by
  unfold stepP
  split
  · rfl
  · cases ho : opD P op tm h with
    | none => simp [thenY]
    | some q =>
      obtain ⟨v, h'⟩ := q
      rw [thenY_some]; rfl
theorem preC_u {z : Wit _} : PY P n ops (p + 1) (⟨some d, op, ty, pos, aft, none⟩ :: l) R z tm h = (d < n ∧ stepP P n ops p op l R tm d h) := by
  rw [← preC_match]
  simp only [PY, PreC, dstOK, guardOK, wantA, decide_eq_true_eq, true_and]
theorem preC_g {z : Wit _} : PY P n (List.toArray L) (p + 1) (⟨some d, op, ty, pos, aft, some (j, w)⟩ :: l) R z tm h = (d < n ∧ gateO n (gsl L j) tm w (stepP P n (List.toArray L) p op l R tm d h) (PY P n (List.toArray L) p l R ⟨⟩ (upd tm d undef) h) ⟨⟩) := by
  rw [← gate_eq, ← preC_match]
  simp only [PY, PreC, dstOK, guardOK, wantA, decide_eq_true_eq, gsl, List.getElem?_toArray]
  rfl
theorem pu (hc : callV op = false) {z : Wit _} : PY P n ops (p + 1) (⟨some d, op, ty, pos, aft, none⟩ :: l) R z tm h = (d < n ∧ thenY (opD P op tm h) (preK P n ops p l R tm d h) ⟨⟩) := by rw [preC_u, stepP_op hc]
theorem pg (hc : callV op = false) {z : Wit _} : PY P n (List.toArray L) (p + 1) (⟨some d, op, ty, pos, aft, some (j, w)⟩ :: l) R z tm h = (d < n ∧ gateO n (gsl L j) tm w (thenY (opD P op tm h) (preK P n (List.toArray L) p l R tm d h) ⟨⟩) (PY P n (List.toArray L) p l R ⟨⟩ (upd tm d undef) h) ⟨⟩) := by rw [preC_g, stepP_op hc]
@[simp ↓] theorem pu_move {x} {z : Wit _} : PY P n ops (p + 1) (⟨some d, .move x, ty, pos, aft, none⟩ :: l) R z tm h = (d < n ∧ thenY (opD P (.move x) tm h) (preK P n ops p l R tm d h) ⟨⟩) := pu rfl
@[simp ↓] theorem pg_move {x} {z : Wit _} : PY P n (List.toArray L) (p + 1) (⟨some d, .move x, ty, pos, aft, some (j, w)⟩ :: l) R z tm h = (d < n ∧ gateO n (gsl L j) tm w (thenY (opD P (.move x) tm h) (preK P n (List.toArray L) p l R tm d h) ⟨⟩) (PY P n (List.toArray L) p l R ⟨⟩ (upd tm d undef) h) ⟨⟩) := pg rfl
@[simp ↓] theorem pu_pick {c x y} {z : Wit _} : PY P n ops (p + 1) (⟨some d, .pick c x y, ty, pos, aft, none⟩ :: l) R z tm h = (d < n ∧ thenY (opD P (.pick c x y) tm h) (preK P n ops p l R tm d h) ⟨⟩) := pu rfl
@[simp ↓] theorem pu_load {t x} {z : Wit _} : PY P n ops (p + 1) (⟨some d, .load t x, ty, pos, aft, none⟩ :: l) R z tm h = (d < n ∧ thenY (opD P (.load t x) tm h) (preK P n ops p l R tm d h) ⟨⟩) := pu rfl
@[simp ↓] theorem pg_load {t x} {z : Wit _} : PY P n (List.toArray L) (p + 1) (⟨some d, .load t x, ty, pos, aft, some (j, w)⟩ :: l) R z tm h = (d < n ∧ gateO n (gsl L j) tm w (thenY (opD P (.load t x) tm h) (preK P n (List.toArray L) p l R tm d h) ⟨⟩) (PY P n (List.toArray L) p l R ⟨⟩ (upd tm d undef) h) ⟨⟩) := pg rfl
@[simp ↓] theorem pu_fieldAddr {s x f} {z : Wit _} : PY P n ops (p + 1) (⟨some d, .fieldAddr s x f, ty, pos, aft, none⟩ :: l) R z tm h = (d < n ∧ thenY (opD P (.fieldAddr s x f) tm h) (preK P n ops p l R tm d h) ⟨⟩) := pu rfl
@[simp ↓] theorem pg_fieldAddr {s x f} {z : Wit _} : PY P n (List.toArray L) (p + 1) (⟨some d, .fieldAddr s x f, ty, pos, aft, some (j, w)⟩ :: l) R z tm h = (d < n ∧ gateO n (gsl L j) tm w (thenY (opD P (.fieldAddr s x f) tm h) (preK P n (List.toArray L) p l R tm d h) ⟨⟩) (PY P n (List.toArray L) p l R ⟨⟩ (upd tm d undef) h) ⟨⟩) := pg rfl
@[simp ↓] theorem pu_indexAddr {t x y} {z : Wit _} : PY P n ops (p + 1) (⟨some d, .indexAddr t x y, ty, pos, aft, none⟩ :: l) R z tm h = (d < n ∧ thenY (opD P (.indexAddr t x y) tm h) (preK P n ops p l R tm d h) ⟨⟩) := pu rfl
@[simp ↓] theorem pg_indexAddr {t x y} {z : Wit _} : PY P n (List.toArray L) (p + 1) (⟨some d, .indexAddr t x y, ty, pos, aft, some (j, w)⟩ :: l) R z tm h = (d < n ∧ gateO n (gsl L j) tm w (thenY (opD P (.indexAddr t x y) tm h) (preK P n (List.toArray L) p l R tm d h) ⟨⟩) (PY P n (List.toArray L) p l R ⟨⟩ (upd tm d undef) h) ⟨⟩) := pg rfl
@[simp ↓] theorem pu_binOp {b t x y t2} {z : Wit _} : PY P n ops (p + 1) (⟨some d, .binOp b t x y t2, ty, pos, aft, none⟩ :: l) R z tm h = (d < n ∧ thenY (opD P (.binOp b t x y t2) tm h) (preK P n ops p l R tm d h) ⟨⟩) := pu rfl
@[simp ↓] theorem pg_binOp {b t x y t2} {z : Wit _} : PY P n (List.toArray L) (p + 1) (⟨some d, .binOp b t x y t2, ty, pos, aft, some (j, w)⟩ :: l) R z tm h = (d < n ∧ gateO n (gsl L j) tm w (thenY (opD P (.binOp b t x y t2) tm h) (preK P n (List.toArray L) p l R tm d h) ⟨⟩) (PY P n (List.toArray L) p l R ⟨⟩ (upd tm d undef) h) ⟨⟩) := pg rfl
@[simp ↓] theorem pu_unOp {u t x} {z : Wit _} : PY P n ops (p + 1) (⟨some d, .unOp u t x, ty, pos, aft, none⟩ :: l) R z tm h = (d < n ∧ thenY (opD P (.unOp u t x) tm h) (preK P n ops p l R tm d h) ⟨⟩) := pu rfl
@[simp ↓] theorem pg_unOp {u t x} {z : Wit _} : PY P n (List.toArray L) (p + 1) (⟨some d, .unOp u t x, ty, pos, aft, some (j, w)⟩ :: l) R z tm h = (d < n ∧ gateO n (gsl L j) tm w (thenY (opD P (.unOp u t x) tm h) (preK P n (List.toArray L) p l R tm d h) ⟨⟩) (PY P n (List.toArray L) p l R ⟨⟩ (upd tm d undef) h) ⟨⟩) := pg rfl
@[simp ↓] theorem pu_slice {t x lo hi mx} {z : Wit _} : PY P n ops (p + 1) (⟨some d, .slice t x lo hi mx, ty, pos, aft, none⟩ :: l) R z tm h = (d < n ∧ thenY (opD P (.slice t x lo hi mx) tm h) (preK P n ops p l R tm d h) ⟨⟩) := pu rfl
@[simp ↓] theorem pu_nilCheck {x} {z : Wit _} : PY P n ops (p + 1) (⟨some d, .nilCheck x, ty, pos, aft, none⟩ :: l) R z tm h = (d < n ∧ thenY (opD P (.nilCheck x) tm h) (preK P n ops p l R tm d h) ⟨⟩) := pu rfl
@[simp ↓] theorem pg_nilCheck {x} {z : Wit _} : PY P n (List.toArray L) (p + 1) (⟨some d, .nilCheck x, ty, pos, aft, some (j, w)⟩ :: l) R z tm h = (d < n ∧ gateO n (gsl L j) tm w (thenY (opD P (.nilCheck x) tm h) (preK P n (List.toArray L) p l R tm d h) ⟨⟩) (PY P n (List.toArray L) p l R ⟨⟩ (upd tm d undef) h) ⟨⟩) := pg rfl
@[simp ↓] theorem pu_bi {b xs ts} {z : Wit _} : PY P n ops (p + 1) (⟨some d, .call ⟨.builtin b, xs, ts⟩, ty, pos, aft, none⟩ :: l) R z tm h = (d < n ∧ thenY (opD P (.call ⟨.builtin b, xs, ts⟩) tm h) (preK P n ops p l R tm d h) ⟨⟩) := pu rfl
@[simp ↓] theorem pg_bi {b xs ts} {z : Wit _} : PY P n (List.toArray L) (p + 1) (⟨some d, .call ⟨.builtin b, xs, ts⟩, ty, pos, aft, some (j, w)⟩ :: l) R z tm h = (d < n ∧ gateO n (gsl L j) tm w (thenY (opD P (.call ⟨.builtin b, xs, ts⟩) tm h) (preK P n (List.toArray L) p l R tm d h) ⟨⟩) (PY P n (List.toArray L) p l R ⟨⟩ (upd tm d undef) h) ⟨⟩) := pg rfl
@[simp ↓] theorem pu_call {fx xs ts} {z : Wit _} : PY P n ops (p + 1) (⟨some d, .call ⟨.value fx, xs, ts⟩, ty, pos, aft, none⟩ :: l) R z tm h = (d < n ∧ callP P n ops p fx xs l R ⟨⟩ tm d h) := preC_u
@[simp ↓] theorem pg_call {fx xs ts} {z : Wit _} : PY P n (List.toArray L) (p + 1) (⟨some d, .call ⟨.value fx, xs, ts⟩, ty, pos, aft, some (j, w)⟩ :: l) R z tm h = (d < n ∧ gateO n (gsl L j) tm w (callP P n (List.toArray L) p fx xs l R ⟨⟩ tm d h) (PY P n (List.toArray L) p l R ⟨⟩ (upd tm d undef) h) ⟨⟩) := preC_g
def stopK (P : Program) (n : Nat) (y : Code) (Q : Exit → (Nat → Value) → Hp → Prop) (_ : Wit (y, Q)) : (Nat → Value) → Hp → Prop := fun tm h => WD P n y Q tm h
theorem WD_first {i : Nat} {y : Code} {z : Wit _} (hr : RY P n (List.toArray l) l (stopK P n y Q ⟨⟩) ⟨⟩ tm h) : WY P n (.seq (.region i (List.toArray l) false) y) Q z tm h := by
  rw [wd_seq]; exact hr
theorem stopK_go {y : Code} {z : Wit _} (hr : WY P n y Q ⟨⟩ tm h) : stopK P n y Q z tm h := hr
def loopK (fs : List Nat) (I : Nat → (Nat → Value) → Hp → Prop) (k : Nat) (tm0 : Nat → Value) (Q : Exit → (Nat → Value) → Hp → Prop) (_ : Wit (fs, I, k, tm0, Q)) : Exit → (Nat → Value) → Hp → Prop
  | .normal, tm, h => ∃ k', k' < k ∧ FrameL fs tm0 tm ∧ I k' tm h
  | e, tm, h => Q e tm h
variable {fs : List Nat} {I : Nat → (Nat → Value) → Hp → Prop} {k : Nat} {tm0 : Nat → Value}
@[simp ↓] theorem loopK_r {z : Wit _} : loopK fs I k tm0 Q z .ret tm h = Q .ret tm h := rfl
@[simp ↓] theorem loopK_x {z : Wit _} (i : Nat) : loopK fs I k tm0 Q z (.exit i) tm h = Q (.exit i) tm h := rfl
theorem loopK_next {z : Wit _} (k' : Nat) (hm : k' < k) (hf : FrameL fs tm0 tm) (hi : I k' tm h) : loopK fs I k tm0 Q z .normal tm h := ⟨k', hm, hf, hi⟩
theorem WD_loopC (fs : List Nat) {c : Code} {z : Wit _} (I : Nat → (Nat → Value) → Hp → Prop) (k : Nat) (h0 : I k tm h) (round : ∀ k tm' h', FrameL fs tm tm' → I k tm' h' → WY P n c (loopK fs I k tm' Q ⟨⟩) ⟨⟩ tm' h') : WY P n (.loop c) Q z tm h := by
  show Runs P n (.loop c) Q tm h
  refine runs_loop (fun k tm' h' => FrameL fs tm tm' ∧ I k tm' h') (fun k tm' h' hI => ((WD.runs c (round k tm' h' hI.1 hI.2)).mono fun e tm2 h2 hq => ?_)) ⟨FrameL.refl _ _, h0⟩
  cases e with
  | normal =>
    obtain ⟨k', h1, h3, h4⟩ := hq
    exact .inl ⟨rfl, k', h1, hI.1.trans h3, h4⟩
  | _ => exact .inr ⟨by simp, hq⟩
variable {fx : Operand} {xs : Array Operand} {e : Exit}
theorem WY_heap {c : Code} {z : Wit _} (hr : ∀ h', h' = h → WY P n c Q z tm h') : WY P n c Q z tm h := hr h rfl
theorem RY_heap {z : Wit _} (hr : ∀ h', h' = h → RY P n ops l R z tm h') : RY P n ops l R z tm h := hr h rfl
theorem PY_heap {z : Wit _} (hr : ∀ h', h' = h → PY P n ops p l R z tm h') : PY P n ops p l R z tm h := hr h rfl
theorem callG_heap {z : Wit _} (hr : ∀ h', h' = h → callG P n ops fx xs l R z tm d h') : callG P n ops fx xs l R z tm d h := hr h rfl
theorem callP_heap {z : Wit _} (hr : ∀ h', h' = h → callP P n ops p fx xs l R z tm d h') : callP P n ops p fx xs l R z tm d h := hr h rfl
theorem stopK_heap {c : Code} {z : Wit _} (hr : ∀ h', h' = h → stopK P n c Q z tm h') : stopK P n c Q z tm h := hr h rfl
theorem loopK_heap {z : Wit _} (hr : ∀ h', h' = h → loopK fs I k tm0 Q z e tm h') : loopK fs I k tm0 Q z e tm h := hr h rfl
theorem doneY_heap {rs : List ResultVar} {R : Value → Hp → Prop} {z : Wit _} (hr : ∀ h', h' = h → doneY P rs R z e tm h') : doneY P rs R z e tm h := hr h rfl
theorem thenY_heap {t t' : TypeId} {x y : Value} {k : Value → Hp → Prop} {z : Wit k} (hr : ∀ h', h' = h → thenY (appendD P t t' x y h') k z) : thenY (appendD P t t' x y h) k z := hr h rfl
theorem thenM_heap {r : Option Value} {k : Value → Hp → Prop} {z : Wit k} (hr : ∀ h', h' = h → thenY (r.map fun v => (v, h')) k z) : thenY (r.map fun v => (v, h)) k z := hr h rfl
@[simp] theorem adds_allocM {h h' : Hp} (k : Adds h h') (es : List (Value × Value)) : Adds h (h'.alloc (.map es)) := k.trans (Adds.alloc _ fun _ => rfl)
theorem aK {h h' : Hp} (p : Adds h h' := by repeat (first | exact keep_self _ | exact adds_self _ | assumption | exact Adds.keeps (by assumption) | refine keeps_alloc ?_ _ | refine adds_alloc ?_ _ _ _ | refine adds_allocM ?_ _ | (refine keeps_put ?_ ?hle _; (case hle => first | omega | (simp; done) | (simp; omega))) | (refine adds_put ?_ ?hle _ _ _; (case hle => first | omega | (simp; done) | (simp; omega))))) : Adds h h' := p
theorem kK {h h' : Hp} (p : Keeps h h' := by repeat (first | exact keep_self _ | exact adds_self _ | assumption | exact Adds.keeps (by assumption) | refine keeps_alloc ?_ _ | refine adds_alloc ?_ _ _ _ | refine adds_allocM ?_ _ | (refine keeps_put ?_ ?hle _; (case hle => first | omega | (simp; done) | (simp; omega))) | (refine adds_put ?_ ?hle _ _ _; (case hle => first | omega | (simp; done) | (simp; omega))))) : Keeps h h' := p
end
end Go.Eng
namespace Go.Proofs.YtnncipcldbopgaaGreat
open Go Go.Eng
@[simp] theorem ty_fnOK_6 : fnOK Tryz.prog 6 = true := by kernel_rfl
@[simp] theorem ty_fnOK_7 : fnOK Tryz.prog 7 = true := by kernel_rfl
@[simp] theorem ty_fnOK_8 : fnOK Tryz.prog 8 = true := by kernel_rfl
@[simp] theorem ty_fnOK_9 : fnOK Tryz.prog 9 = true := by kernel_rfl
@[simp] theorem ty_fnOK_10 : fnOK Tryz.prog 10 = true := by kernel_rfl
@[simp] theorem ty_fnOK_11 : fnOK Tryz.prog 11 = true := by kernel_rfl
@[simp] theorem ty_fnOK_12 : fnOK Tryz.prog 12 = true := by kernel_rfl
@[simp] theorem ty_fnOK_13 : fnOK Tryz.prog 13 = true := by kernel_rfl
@[simp] theorem ty_fnOK_14 : fnOK Tryz.prog 14 = true := by kernel_rfl
@[simp] theorem ty_fnOK_15 : fnOK Tryz.prog 15 = true := by kernel_rfl
@[simp] theorem ty_fnOK_16 : fnOK Tryz.prog 16 = true := by kernel_rfl
@[simp] theorem ty_fnOK_17 : fnOK Tryz.prog 17 = true := by kernel_rfl
@[simp] theorem ty_fnOK_18 : fnOK Tryz.prog 18 = true := by kernel_rfl
@[simp] theorem ty_fnOK_19 : fnOK Tryz.prog 19 = true := by kernel_rfl
@[simp] theorem ty_fnOK_20 : fnOK Tryz.prog 20 = true := by kernel_rfl
@[simp] theorem ty_fnOK_21 : fnOK Tryz.prog 21 = true := by kernel_rfl
@[simp] theorem ty_fnOK_22 : fnOK Tryz.prog 22 = true := by kernel_rfl
@[simp] theorem ty_fnOK_23 : fnOK Tryz.prog 23 = true := by kernel_rfl
@[simp] theorem ty_fnOK_24 : fnOK Tryz.prog 24 = true := by kernel_rfl
@[simp] theorem ty_fnOK_25 : fnOK Tryz.prog 25 = true := by kernel_rfl
@[simp] theorem ty_fnOK_26 : fnOK Tryz.prog 26 = true := by kernel_rfl
@[simp] theorem ty_fnOK_51 : fnOK Tryz.prog 51 = true := by kernel_rfl
@[simp] theorem ty_fnOK_57 : fnOK Tryz.prog 57 = true := by kernel_rfl
@[simp] theorem ty_fnOK_58 : fnOK Tryz.prog 58 = true := by kernel_rfl
@[simp] theorem ty_fnOK_59 : fnOK Tryz.prog 59 = true := by kernel_rfl
@[simp] theorem ty_fnOK_60 : fnOK Tryz.prog 60 = true := by kernel_rfl
@[simp] theorem ty_fnOK_61 : fnOK Tryz.prog 61 = true := by kernel_rfl
@[simp] theorem ty_fnOK_62 : fnOK Tryz.prog 62 = true := by kernel_rfl
@[simp] theorem ty_fnOK_63 : fnOK Tryz.prog 63 = true := by kernel_rfl
@[simp] theorem ty_fnOK_64 : fnOK Tryz.prog 64 = true := by kernel_rfl
@[simp] theorem ty_fnOK_65 : fnOK Tryz.prog 65 = true := by kernel_rfl
@[simp] theorem ty_fnOK_66 : fnOK Tryz.prog 66 = true := by kernel_rfl
@[simp] theorem ty_fnOK_67 : fnOK Tryz.prog 67 = true := by kernel_rfl
@[simp] theorem ty_fnOK_68 : fnOK Tryz.prog 68 = true := by kernel_rfl
@[simp] theorem ty_fnOK_69 : fnOK Tryz.prog 69 = true := by kernel_rfl
@[simp] theorem ty_fnOK_70 : fnOK Tryz.prog 70 = true := by kernel_rfl
@[simp] theorem ty_fnOK_71 : fnOK Tryz.prog 71 = true := by kernel_rfl
@[simp] theorem ty_fnOK_72 : fnOK Tryz.prog 72 = true := by kernel_rfl
@[simp] theorem ty_fnOK_73 : fnOK Tryz.prog 73 = true := by kernel_rfl
@[simp] theorem ty_fnOK_74 : fnOK Tryz.prog 74 = true := by kernel_rfl
@[simp] theorem ty_fnOK_75 : fnOK Tryz.prog 75 = true := by kernel_rfl
@[simp] theorem ty_fnOK_76 : fnOK Tryz.prog 76 = true := by kernel_rfl
@[simp] theorem ty_fnOK_79 : fnOK Tryz.prog 79 = true := by kernel_rfl
@[simp] theorem ty_fnOK_81 : fnOK Tryz.prog 81 = true := by kernel_rfl
@[simp] theorem ty_fnOK_97 : fnOK Tryz.prog 97 = true := by kernel_rfl
@[simp] theorem ty_fnOK_99 : fnOK Tryz.prog 99 = true := by kernel_rfl
@[simp] theorem ty_fnOK_107 : fnOK Tryz.prog 107 = true := by kernel_rfl
@[simp] theorem ty_fnOK_110 : fnOK Tryz.prog 110 = true := by kernel_rfl
@[simp] theorem ty_fnOK_111 : fnOK Tryz.prog 111 = true := by kernel_rfl
@[simp] theorem ty_fnOK_112 : fnOK Tryz.prog 112 = true := by kernel_rfl
@[simp] theorem ty_fnOK_113 : fnOK Tryz.prog 113 = true := by kernel_rfl
@[simp] theorem ty_fnOK_114 : fnOK Tryz.prog 114 = true := by kernel_rfl
@[simp] theorem ty_fnOK_117 : fnOK Tryz.prog 117 = true := by kernel_rfl
@[simp] theorem ty_fnOK_118 : fnOK Tryz.prog 118 = true := by kernel_rfl
@[simp] theorem ty_fnOK_120 : fnOK Tryz.prog 120 = true := by kernel_rfl
@[simp] theorem ty_fnOK_124 : fnOK Tryz.prog 124 = true := by kernel_rfl
@[simp] theorem ty_fnOK_125 : fnOK Tryz.prog 125 = true := by kernel_rfl
@[simp] theorem ty_fnOK_126 : fnOK Tryz.prog 126 = true := by kernel_rfl
@[simp] theorem ty_fnOK_127 : fnOK Tryz.prog 127 = true := by kernel_rfl
@[simp] theorem ty_fnOK_128 : fnOK Tryz.prog 128 = true := by kernel_rfl
@[simp] theorem ty_fnOK_129 : fnOK Tryz.prog 129 = true := by kernel_rfl
@[simp] theorem ty_fnOK_130 : fnOK Tryz.prog 130 = true := by kernel_rfl
@[simp] theorem ty_fnOK_131 : fnOK Tryz.prog 131 = true := by kernel_rfl
@[simp] theorem ty_fnOK_132 : fnOK Tryz.prog 132 = true := by kernel_rfl
@[simp] theorem ty_fnOK_133 : fnOK Tryz.prog 133 = true := by kernel_rfl
@[simp] theorem ty_fnOK_134 : fnOK Tryz.prog 134 = true := by kernel_rfl
@[simp] theorem ty_fnOK_145 : fnOK Tryz.prog 145 = true := by kernel_rfl
@[simp] theorem ty_fnOK_147 : fnOK Tryz.prog 147 = true := by kernel_rfl
@[simp] theorem ty_fnOK_150 : fnOK Tryz.prog 150 = true := by kernel_rfl
@[simp] theorem ty_fnOK_155 : fnOK Tryz.prog 155 = true := by kernel_rfl
@[simp] theorem ty_fnOK_168 : fnOK Tryz.prog 168 = true := by kernel_rfl
@[simp] theorem ty_fnOK_169 : fnOK Tryz.prog 169 = true := by kernel_rfl
@[simp] theorem ty_fnOK_170 : fnOK Tryz.prog 170 = true := by kernel_rfl
@[simp] theorem ty_fnOK_171 : fnOK Tryz.prog 171 = true := by kernel_rfl
@[simp] theorem ty_fnOK_172 : fnOK Tryz.prog 172 = true := by kernel_rfl
@[simp] theorem ty_fnOK_173 : fnOK Tryz.prog 173 = true := by kernel_rfl
@[simp] theorem ty_fnOK_174 : fnOK Tryz.prog 174 = true := by kernel_rfl
@[simp] theorem ty_fnOK_175 : fnOK Tryz.prog 175 = true := by kernel_rfl
@[simp] theorem ty_fnOK_176 : fnOK Tryz.prog 176 = true := by kernel_rfl
@[simp] theorem ty_fnOK_177 : fnOK Tryz.prog 177 = true := by kernel_rfl
@[simp] theorem ty_fnOK_178 : fnOK Tryz.prog 178 = true := by kernel_rfl
@[simp] theorem ty_fnOK_185 : fnOK Tryz.prog 185 = true := by kernel_rfl
@[simp] theorem ty_fnOK_193 : fnOK Tryz.prog 193 = true := by kernel_rfl
@[simp] theorem ty_aggT_3 : aggT Tryz.prog 3 = some false := by kernel_rfl
@[simp] theorem ty_szT_3 : szT Tryz.prog 3 = some 1 := by kernel_rfl
@[simp] theorem ty_zeroT_3 : zeroT Tryz.prog 3 = some (Go.Value.int Go.IntKind.i64 0) := by kernel_rfl
@[simp] theorem ty_byT_3 : byT Tryz.prog 3 = some 8 := by kernel_rfl
@[simp] theorem ty_inT_3 : inT Tryz.prog 3 = some Go.IntKind.i64 := by kernel_rfl
@[simp] theorem ty_aggT_4 : aggT Tryz.prog 4 = some false := by kernel_rfl
@[simp] theorem ty_szT_4 : szT Tryz.prog 4 = some 1 := by kernel_rfl
@[simp] theorem ty_zeroT_4 : zeroT Tryz.prog 4 = some (Go.Value.bool false) := by kernel_rfl
@[simp] theorem ty_aggT_5 : aggT Tryz.prog 5 = some false := by kernel_rfl
@[simp] theorem ty_szT_5 : szT Tryz.prog 5 = some 1 := by kernel_rfl
@[simp] theorem ty_aggT_22 : aggT Tryz.prog 22 = some false := by kernel_rfl
@[simp] theorem ty_elT_22 : elT Tryz.prog 22 = some 5 := by kernel_rfl
@[simp] theorem ty_aggT_24 : aggT Tryz.prog 24 = some false := by kernel_rfl
@[simp] theorem ty_szT_24 : szT Tryz.prog 24 = some 1 := by kernel_rfl
@[simp] theorem ty_zeroT_24 : zeroT Tryz.prog 24 = some (Go.Value.slice none 0 0) := by kernel_rfl
@[simp] theorem ty_byT_24 : byT Tryz.prog 24 = some 24 := by kernel_rfl
@[simp] theorem ty_elT_24 : elT Tryz.prog 24 = some 3 := by kernel_rfl
@[simp] theorem ty_srcT_24 : srcT Tryz.prog 24 = true := by kernel_rfl
@[simp] theorem ty_aggT_26 : aggT Tryz.prog 26 = some true := by kernel_rfl
@[simp] theorem ty_szT_26 : szT Tryz.prog 26 = some 2 := by kernel_rfl
@[simp] theorem ty_zeroT_26 : zeroT Tryz.prog 26 = some (Go.Value.agg #[Go.Value.int Go.IntKind.i64 0, Go.Value.slice none 0 0]) := by kernel_rfl
@[simp] theorem ty_placesT_26 : placesT Tryz.prog 26 = some #[(0, 1), (1, 1)] := by kernel_rfl
@[simp] theorem ty_fldT_26_0 : fldT Tryz.prog 26 0 = some (0, 1, false) := by kernel_rfl
@[simp] theorem ty_fldT_26_1 : fldT Tryz.prog 26 1 = some (1, 1, false) := by kernel_rfl
@[simp] theorem ty_elT_49 : elT Tryz.prog 49 = some 24 := by kernel_rfl
@[simp] theorem ty_srcT_49 : srcT Tryz.prog 49 = true := by kernel_rfl
@[simp] theorem ty_aggT_67 : aggT Tryz.prog 67 = some false := by kernel_rfl
@[simp] theorem ty_szT_67 : szT Tryz.prog 67 = some 1 := by kernel_rfl
@[simp] theorem ty_zeroT_67 : zeroT Tryz.prog 67 = some (Go.Value.pointer none) := by kernel_rfl
@[simp] theorem ty_aggT_70 : aggT Tryz.prog 70 = some false := by kernel_rfl
@[simp] theorem ty_szT_70 : szT Tryz.prog 70 = some 1 := by kernel_rfl
@[simp] theorem ty_inT_70 : inT Tryz.prog 70 = some Go.IntKind.u64 := by kernel_rfl
@[simp] theorem ty_zeroT_72 : zeroT Tryz.prog 72 = some (Go.Value.agg #[Go.Value.slice none 0 0, Go.Value.int Go.IntKind.i64 0, Go.Value.int Go.IntKind.u64 0]) := by kernel_rfl
@[simp] theorem ty_placesT_72 : placesT Tryz.prog 72 = some #[(0, 1), (1, 1), (2, 1)] := by kernel_rfl
@[simp] theorem ty_fldT_72_0 : fldT Tryz.prog 72 0 = some (0, 1, false) := by kernel_rfl
@[simp] theorem ty_fldT_72_1 : fldT Tryz.prog 72 1 = some (1, 1, false) := by kernel_rfl
@[simp] theorem ty_fldT_72_2 : fldT Tryz.prog 72 2 = some (2, 1, false) := by kernel_rfl
@[simp] theorem ty_inT_101 : inT Tryz.prog 101 = some Go.IntKind.u64 := by kernel_rfl
@[simp] theorem ty_zeroT_104 : zeroT Tryz.prog 104 = some (.agg (zrow 128 (Go.Value.bool false))) := by kernel_rfl
@[simp] theorem ty_arT_104 : arT Tryz.prog 104 = some (128, 4) := by kernel_rfl
@[simp] theorem ty_placesT_104 : placesT Tryz.prog 104 = none := by kernel_rfl
@[simp] theorem ty_aggT_107 : aggT Tryz.prog 107 = some false := by kernel_rfl
@[simp] theorem ty_aggT_125 : aggT Tryz.prog 125 = some false := by kernel_rfl
@[simp] theorem ty_szT_125 : szT Tryz.prog 125 = some 1 := by kernel_rfl
@[simp] theorem ty_zeroT_125 : zeroT Tryz.prog 125 = some Go.Value.nilFunc := by kernel_rfl
end Go.Proofs.YtnncipcldbopgaaGreat
namespace Go.Eng
open Go.ChangeShapes Go.WideShapes Go.Deep Go.ChangeShapes 
section
variable {H : Type} {enc : TypeId × Value → H} {P : Program} {W : World} {base : Nat} {held : Bool} {E : Emb} {h : Hp}
theorem maxLen_lt {c : Nat} (hc : c ≤ maxLen) : c < 2 ^ 63 := by unfold maxLen at hc; omega
end
end Go.Eng
namespace Go.Eng
open Go.ChangeShapes Go.WideShapes Go.Deep
def isByte (_ : Hp) (u : Value) (x : Int) : Prop := u = .int .u8 x ∧ 0 ≤ x ∧ x ≤ 255
def Bytes : Hp → Value → List Int → Prop := Sl isByte
def BytesF (base : Nat) : Hp → Value → List Int → Prop := SlF (fun o => o < base) isByte
theorem Bytes.keep {h h' : Hp} (hk : Keeps h h') {v : Value} {xs : List Int} (hs : Bytes h v xs) : Bytes h' v xs := Sl.mono (R := isByte) (h := h) (h' := h') (fun _ _ h => h) hk hs
theorem Bytes.lenD {h : Hp} {v : Value} {xs : List Int} (hs : Bytes h v xs) : ∀ (P : Program) (t : TypeId), Go.Eng.lenD P t v = (elT P t).map fun _ => .int .i64 xs.length := Sl.lenD hs
theorem Bytes.nt {h : Hp} {v : Value} {xs : List Int} (hs : Bytes h v xs) : notTup v = true := Sl.nt hs
theorem Bytes.cs {h : Hp} {v : Value} {xs : List Int} (hs : Bytes h v xs) : v.cells = #[v] := Sl.cs hs
theorem Bytes.len {h : Hp} {v : Value} {xs : List Int} (hs : Bytes h v xs) : xs.length < 2 ^ 63 := Sl.short hs
theorem Bytes.open {h : Hp} {v : Value} {xs : List Int} (hs : Bytes h v xs) (hne : 0 < xs.length) :
    ∃ o i c cs own ex es, v = .slice (some ⟨o, i, none⟩) xs.length c ∧ o < h.next ∧ h.get o = .cells cs own ex es ∧ i + xs.length ≤ cs.length ∧ ∀ k (hk : k < xs.length) (h2 : i + k < cs.length), cs[i + k] = .int .u8 xs[k] ∧ 0 ≤ xs[k] ∧ xs[k] ≤ 255 := by
  obtain ⟨o, i, c, cs, own, ex, es, h1, h2, h3, h4, h5⟩ := Sl.open hs hne
  exact ⟨o, i, c, cs, own, ex, es, h1, h2, h3, h4, fun k hk h2 => by have := h5 k hk; rw [List.getD_eq_getElem?_getD, List.getElem?_eq_getElem h2] at this; exact this⟩
theorem BytesF.same {base : Nat} {h h' : Hp} (hk : Same (fun o => o < base) h h') {v : Value} {xs : List Int} (hs : BytesF base h v xs) : BytesF base h' v xs := SlF.mono (R := isByte) (R' := isByte) (h := h) (h' := h') (fun _ _ h => h) (fun _ h => h) hk hs
theorem BytesF.bytes {base : Nat} {h : Hp} {v : Value} {xs : List Int} (hs : BytesF base h v xs) : Bytes h v xs := SlF.sl hs
section
variable {H : Type} {enc : TypeId × Value → H} {P : Program} {W : World} {base : Nat} {held : Bool} {E : Emb} {h : Hp}
theorem lay_u8s {t e : TypeId} {fuel : Nat} {v : Value} {x : DataW H × List MemPlace} (ht : P.underlying t = some (.slice e)) (he : P.underlying e = some (.int .u8)) (hc : P.cellsOf e = 1)
    (hf : DataW.trod enc P W base (fun _ => true) held fuel t [v] = some x) (st : Start E h W) :
    ∃ E' h' a A, Start E' h' W ∧ More E h E' h' ∧ VRel E' a v ∧ Bytes h' a A := by
  rcases open_ints ht he hc hf with ⟨h1, _⟩ | ⟨a, len, cap, zs, h1, _, hl, hm, hz, _, hcell, hwf⟩
  · simp only [List.cons.injEq, and_true] at h1
    subst h1
    exact ⟨E, h, _, [], st, More.refl E h, .sliceNil, ⟨none, 0, rfl, Nat.le_refl _, by decide, fun k x hk => by simp at hk⟩⟩
  · simp only [List.cons.injEq, and_true] at h1
    subst h1
    simp only [if_true] at hz
    obtain ⟨E', h', v', s1, s2, s3, s4⟩ := add_slice (R := isByte) (W := W) st (fun _ _ _ _ _ h => h) (some a) len cap (zs.map (.int .u8)) (zs.take len) hl (maxLen_lt hm) (by simpa using hz) (fun hx => by cases hx) (by simp; omega) (fun y hy i hi => by
      cases hy
      have e : (zs.map (Value.int .u8)).getD i undef = .int .u8 (zs.getD i 0) := by
        simp [List.getD_eq_getElem?_getD, show i < zs.length by omega]
      rw [e]
      exact ⟨rfl, _, hcell i (by omega), .int _ _⟩) (fun i x hx => by
      have hx' : zs[i]? = some x := by
        rw [List.getElem?_take] at hx
        split at hx
        · exact hx
        · cases hx
      have hmem := List.mem_of_getElem? hx'
      have hw := hwf x hmem
      refine ⟨by simp [List.getD_eq_getElem?_getD, hx'], ?_⟩
      simp [Lit.wf] at hw
      have e1 : IntKind.u8.min = 0 := by decide
      have e2 : IntKind.u8.max = 255 := by decide
      omega)
    exact ⟨E', h', v', _, s1, s2, s3, s4⟩
end
end Go.Eng
namespace Go.Proofs.YtnncipcldbopgaaGreat
set_option linter.unusedSimpArgs false
set_option linter.unusedVariables false
open Go Go.Eng Go.ChangeShapes Go.WideShapes Go.ChangeAt Go.RowKit Go.Joins
theorem own : ownKnob Tryz.prog.godebug = none := by kernel_rfl
theorem laidOut : laidOutB Tryz.prog = true := by kernel_rfl
theorem cellsByte : Tryz.prog.cellsOf 5 = 1 := by kernel_rfl
set_option maxRecDepth 100000 in
theorem lay_bytes {H : Type} {enc : TypeId × Value → H} {W : World} {base b0 : Nat} {held : Bool} {E : Emb} {h : Hp} {v : Value} {d : DataW H} {p : List MemPlace} (hv : Value.okWide Tryz.prog W .any b0 22 v)
    (hd : DataW.Trod enc Tryz.prog W base (fun _ => true) held 22 v d p) (st : Go.Eng.Start E h W) : ∃ E' h' a X, Go.Eng.Start E' h' W ∧ More E h E' h' ∧ VRel E' a v ∧ Bytes h' a X := by
  obtain ⟨a0, len, cap, rfl⟩ := okWide_slice Tryz.underlying22 hv
  obtain ⟨m, hm⟩ := hd
  exact lay_u8s Tryz.underlying22 Tryz.underlying5 cellsByte hm st
end Go.Proofs.YtnncipcldbopgaaGreat
namespace Go.Proofs.YtnncipcldbopgaaGreat
set_option linter.unusedSimpArgs false
set_option linter.unusedVariables false
set_option maxHeartbeats 4000000
open Go Go.Eng
attribute [local irreducible] WD RunD PreD Runs CallOK
structure CurS (base o k : Nat) (h : Hp) : Prop where
  bo : base ≤ o ∧ o < h.next
  st : ∃ v bs at_ seed, h.get o = .cells [v, .int .i64 ((at_ : Nat) : Int), .int .u64 seed] true true 1 ∧ BytesF base h v bs ∧ at_ ≤ k
theorem CurS.mono {base o k k' : Nat} {h : Hp} (c : CurS base o k h) (hk : k ≤ k') : CurS base o k' h := by
  obtain ⟨v, bs, a, s, h1, h2, h3⟩ := c.st
  exact ⟨c.bo, v, bs, a, s, h1, h2, by omega⟩
theorem CurS.same {base o k : Nat} {h h' : Hp} (c : CurS base o k h) (hs : Same (fun x => x < base ∨ x = o) h h') : CurS base o k h' := by
  obtain ⟨v, bs, a, s, h1, h2, h3⟩ := c.st
  have b := c.bo
  exact ⟨⟨b.1, Nat.lt_of_lt_of_le b.2 hs.1⟩, v, bs, a, s, by rw [hs.2 o (.inr rfl) b.2]; exact h1, h2.same ⟨hs.1, fun x hx hl => hs.2 x (.inl hx) hl⟩, h3⟩
theorem CurS.keep {base o k : Nat} {h h' : Hp} (c : CurS base o k h) (hk : Keeps h h') : CurS base o k h' := c.same (.of_keeps hk)
theorem wrapU64c : ∀ n : Nat, n ≤ 255 → IntKind.wrap .u64 (n : Int) = (n : Int) := by
  intro n hn
  exact (show ∀ n : Nat, n < 256 → IntKind.wrap .u64 (n : Int) = (n : Int) by decide +kernel) n (by omega)
theorem and255 (x : Int) : ∃ n : Nat, n ≤ 255 ∧ bAnd .u64 x 255 = (n : Int) := by
  refine ⟨(BitVec.ofInt 64 x &&& BitVec.ofInt 64 255).toNat, ?_, ?_⟩
  · rw [BitVec.toNat_and]
    exact Nat.le_trans Nat.and_le_right (by decide)
  · exact wrapU64c _ (by rw [BitVec.toNat_and]; exact Nat.le_trans Nat.and_le_right (by decide))
theorem cur_put {base o k a : Nat} {h : Hp} {v : Value} {bs : List Int} {s s' : Int} (hc : CurS base o k h) (hb : BytesF base h v bs) (hg : h.get o = .cells [v, .int .i64 (a : Int), .int .u64 s] true true 1) {y : AObj} (ha : (a : Int) + 1 ≤ k + 1) :
    CurS base o (k + 1) ((h.put o y).put o (.cells [v, .int .i64 ((a : Int) + 1), .int .u64 s'] true true 1)) :=
  ⟨hc.bo, v, bs, a + 1, s', by simp, hb.same (h := h) (h' := (h.put o y).put o (.cells [v, .int .i64 ((a : Int) + 1), .int .u64 s'] true true 1)) ⟨Nat.le_refl _, fun x hx _ => by have := hc.bo; simp [show x ≠ o from fun e => by subst e; exact absurd hx (by omega)]⟩, by omega⟩
theorem curNext_ok (base o k : Nat) (h : Hp) (hc : CurS base o k h) (hk : k < 2 ^ 40) : ∃ v h', CallOK Tryz.prog 147 #[.pointer (some ⟨o, 0, none⟩)] h v h' ∧ ∃ r : Nat, v = .int .i64 (r : Int) ∧ r ≤ 255 ∧ Wr (fun x => x = o) h h' ∧ h'.next = h.next ∧ CurS base o (k + 1) h' := by
  obtain ⟨v, bs, a, s, h1, h2, h3⟩ := hc.st
  have hB := h2.bytes
  have lB := hB.lenD
  have ntB := hB.nt
  have csB := hB.cs
  have h1' := h1
  have hbl := hB.len
  have hp1 : ∀ x y z t : Value, putCells [x, y, z] 1 [t] = [x, t, z] := fun _ _ _ _ => rfl
  have hp2 : ∀ x y z t : Value, putCells [x, y, z] 2 [t] = [x, y, t] := fun _ _ _ _ => rfl
  refine callY_L (args := [.pointer (some ⟨o, 0, none⟩)]) 62 _ [.tmp 2] Tryz.func147 rfl rfl rfl ?_
  try simp (disch := first | omega | (simp; done) | fail) [wrap64c, if_pos, if_neg, lB, ntB, csB, h1', hp1, hp2]
  refine WD_drawC 9 rfl (by kernel_rfl) ?_
  try simp (disch := first | omega | (simp; done) | fail) [wrap64c, if_pos, if_neg, lB, ntB, csB, h1', hp1, hp2]
  by_cases c1 : a < bs.length
  · have c1' : (a : Int) < (bs.length : Int) := by omega
    obtain ⟨ob, ib, cb, cs, own, ex, es, qb, bb, gb, lb, rb⟩ := hB.open (by omega)
    obtain ⟨rb1, rb2, rb3⟩ := rb a c1 (by omega)
    have rb1' := rb1
    obtain ⟨b, hb⟩ : ∃ b : Nat, bs[a] = (b : Int) := ⟨bs[a].toNat, by omega⟩
    try simp (disch := first | omega | (simp; done) | fail) [wrap64c, if_pos, if_neg, lB, ntB, csB, h1', hp1, hp2, c1', qb, gb, lb, rb1', hb]
    refine WD_drawC 8 rfl (by kernel_rfl) ?_
    try simp (disch := first | omega | (simp; done) | fail) [wrap64c, if_pos, if_neg, lB, ntB, csB, h1', hp1, hp2, c1', qb, gb, lb, rb1', hb]
    have c2 : ((a : Int) + 1 ≤ (bs.length : Int)) := by omega
    refine WD_drawC 9 rfl (by kernel_rfl) ?_
    try simp (disch := first | omega | (simp; done) | fail) [wrap64c, if_pos, if_neg, lB, ntB, csB, h1', hp1, hp2, c1', qb, gb, lb, rb1', hb, c2]
    exact done_ret rfl (by
      refine ⟨b, by simp, by omega, (Wr.put (S := fun x => x = o) (Wr.put (S := fun x => x = o) (Wr.refl _ h) rfl (fun _ => rfl)) rfl (fun _ => rfl)), rfl, ?_⟩
      rw [← qb]
      exact cur_put hc h2 h1 (by omega))
  · have c1' : ¬ (a : Int) < (bs.length : Int) := by omega
    have c2 : ¬ ((a : Int) + 1 ≤ (bs.length : Int)) := by omega
    try simp (disch := first | omega | (simp; done) | fail) [wrap64c, if_pos, if_neg, lB, ntB, csB, h1', hp1, hp2, c1', c2]
    refine WD_drawC 9 rfl (by kernel_rfl) ?_
    try simp (disch := first | omega | (simp; done) | fail) [wrap64c, if_pos, if_neg, lB, ntB, csB, h1', hp1, hp2, c1', c2]
    obtain ⟨r, hr, hw⟩ := and255 (bShr .u64 (IntKind.u64.wrap (IntKind.u64.wrap (IntKind.u64.wrap (s * 6364136223846793005) + IntKind.u64.wrap 0) + 1442695040888963407)) 40)
    have hx : IntKind.wrap .i64 (r : Int) = (r : Int) := (show ∀ n : Nat, n < 256 → IntKind.wrap .i64 (n : Int) = (n : Int) by decide +kernel) r (by omega)
    exact done_ret rfl (by
      refine ⟨r, by simp [hw, hx], hr, (Wr.put (S := fun x => x = o) (Wr.put (S := fun x => x = o) (Wr.refl _ h) rfl (fun _ => rfl)) rfl (fun _ => rfl)), rfl, ?_⟩
      exact cur_put hc h2 h1 (by omega))
structure CurW (base o k : Nat) (h h' : Hp) : Prop where
  wr : Wr (fun x => x = o) h h'
  nx : h'.next = h.next
  cur : CurS base o k h'
theorem CurW.refl {base o k : Nat} {h : Hp} (c : CurS base o k h) : CurW base o k h h := ⟨Wr.refl _ h, rfl, c⟩
theorem CurW.mono {base o k k' : Nat} {a b : Hp} (x : CurW base o k a b) (h : k ≤ k') : CurW base o k' a b := ⟨x.wr, x.nx, x.cur.mono h⟩
theorem CurW.get {base o k : Nat} {a b : Hp} (x : CurW base o k a b) (p : Nat) (hp : p < a.next) (hne : p ≠ o) : b.get p = a.get p := x.wr.upd.2 p hp hne
theorem CurW.same {base o k : Nat} {a b : Hp} (x : CurW base o k a b) {S : Nat → Prop} (hs : ∀ p, S p → p ≠ o) : Same S a b := ⟨by rw [x.nx]; exact Nat.le_refl _, fun p hp hl => x.get p hl (hs p hp)⟩
theorem pick_ok (base o k : Nat) (h : Hp) (n : Int) (hc : CurS base o k h) (hk : k + 2 < 2 ^ 40) : ∃ v h', CallOK Tryz.prog 97 #[.pointer (some ⟨o, 0, none⟩), .int .i64 n] h v h' ∧ ∃ r : Nat, v = .int .i64 (r : Int) ∧ (1 ≤ n → (r : Int) < n) ∧ CurW base o (k + 2) h h' := by
  by_cases n1 : n ≤ 1
  · have n1' := n1
    refine callY_L (args := [.pointer (some ⟨o, 0, none⟩), .int .i64 n]) 20 _ [.tmp 4] Tryz.func97 rfl rfl rfl ?_
    try simp (disch := first | omega | (simp; done) | fail) [wrap64c, if_pos, if_neg, n1']
    exact done_ret rfl ⟨0, by simp, fun h => by omega, (CurW.refl hc).mono (by omega)⟩
  · obtain ⟨v1, h1, c1, r1, q1, l1, w1, x1, y1⟩ := curNext_ok base o k h hc (by omega)
    obtain ⟨v2, h2, c2, r2, q2, l2, w2, x2, y2⟩ := curNext_ok base o (k + 1) h1 y1 (by omega)
    subst q1; subst q2
    have n1' := n1
    have hm : ∀ r : Nat, ∃ q : Nat, Int.tmod (r : Int) n = (q : Int) ∧ (q : Int) < n := by
      intro r
      obtain ⟨m, rfl⟩ : ∃ m : Nat, n = (m : Int) := ⟨n.toNat, by omega⟩
      refine ⟨r % m, ?_, ?_⟩
      · rw [Int.tmod_eq_emod_of_nonneg (by omega)]
        simp
      · have := Nat.mod_lt r (show m > 0 by omega)
        omega
    obtain ⟨q1, m1, z1⟩ := hm r1
    obtain ⟨q2, m2, z2⟩ := hm (r1 * 256 + r2)
    have m2' : ((r1 : Int) * 256 + (r2 : Int)).tmod n = (q2 : Int) := by simpa using m2
    refine callY_L (args := [.pointer (some ⟨o, 0, none⟩), .int .i64 n]) 20 _ [.tmp 4] Tryz.func97 rfl rfl rfl ?_
    try simp (disch := first | omega | (simp; done) | fail) [wrap64c, if_pos, if_neg, n1']
    refine callG_c (by simp) (by simp) ?ha (c1) ?_
    (case ha => simp (disch := first | omega | (simp; done) | fail) [wrap64c, if_pos, if_neg, n1'])
    by_cases n2 : n > 200
    · have n2' : 200 < n := n2
      try simp (disch := first | omega | (simp; done) | fail) [wrap64c, if_pos, if_neg, n1', n2']
      refine callG_c (by simp) (by simp) ?ha (c2) ?_
      (case ha => simp (disch := first | omega | (simp; done) | fail) [wrap64c, if_pos, if_neg, n1', n2'])
      try simp (disch := first | omega | (simp; done) | fail) [wrap64c, if_pos, if_neg, n1', n2']
      exact done_ret rfl ⟨q2, by simp [m2'], fun _ => z2, ⟨w1.trans w2, x2.trans x1, y2⟩⟩
    · have n2' : ¬ 200 < n := n2
      try simp (disch := first | omega | (simp; done) | fail) [wrap64c, if_pos, if_neg, n1', n2']
      exact done_ret rfl ⟨q1, by simp [m1], fun _ => z1, ⟨w1, x1, y1.mono (by omega)⟩⟩
theorem one_ok (base o k : Nat) (h : Hp) (n : Int) (hc : CurS base o k h) (hk : k + 2 < 2 ^ 40) : ∃ v h', CallOK Tryz.prog 79 #[.pointer (some ⟨o, 0, none⟩), .int .i64 n] h v h' ∧ ∃ r : Bool, v = .bool r ∧ CurW base o (k + 2) h h' := by
  obtain ⟨v1, h1, c1, r1, q1, l1, w1⟩ := pick_ok base o k h n hc (by omega)
  subst q1
  refine callY_L (args := [.pointer (some ⟨o, 0, none⟩), .int .i64 n]) 9 _ [.tmp 4] Tryz.func79 rfl rfl rfl ?_
  try simp (disch := first | omega | (simp; done) | fail) [wrap64c, if_pos, if_neg]
  refine callG_c (by simp) (by simp) ?ha (c1) ?_
  (case ha => simp (disch := first | omega | (simp; done) | fail) [wrap64c, if_pos, if_neg])
  try simp (disch := first | omega | (simp; done) | fail) [wrap64c, if_pos, if_neg]
  exact done_ret rfl ⟨_, by simp; rfl, w1⟩
theorem among_ok (base o k : Nat) (h : Hp) (v : Value) (xs : List Int) (hc : CurS base o k h) (hk : k + 2 < 2 ^ 40) (hx : IntsF (fun x => x ≠ o) h v xs) (hl : 0 < xs.length) : ∃ w h', CallOK Tryz.prog 114 #[.pointer (some ⟨o, 0, none⟩), v] h w h' ∧ ∃ i : Nat, ∃ hi : i < xs.length, w = .int .i64 xs[i] ∧ CurW base o (k + 2) h h' := by
  have lB := hx.lenD
  have ntB := hx.ints.nt
  have csB := hx.ints.cs
  obtain ⟨v1, h1, c1, r1, q1, l1, w1⟩ := pick_ok base o k h xs.length hc (by omega)
  subst q1
  have hr : r1 < xs.length := by have := l1 (by omega); omega
  have hr' := hr
  have hx1 := hx.same (w1.same fun p hp => hp)
  refine callY_L (args := [.pointer (some ⟨o, 0, none⟩), v]) 12 _ [.tmp 4] Tryz.func114 rfl rfl rfl ?_
  try simp (disch := first | omega | (simp; done) | fail) [wrap64c, if_pos, if_neg, lB, ntB, csB, hr']
  refine callG_c (by simp) (by simp) ?ha (c1) ?_
  (case ha => simp (disch := first | omega | (simp; done) | fail) [wrap64c, if_pos, if_neg, lB, ntB, csB, hr'])
  obtain ⟨o_x, i_x, c_x, cs_x, own_x, ex_x, es_x, q_x, b_x, g_x, l_x, r_x⟩ := (hx1.ints).open (hl)
  have z_x : ∀ h2 : i_x < cs_x.length, cs_x[i_x] = _ := fun h2 => r_x 0 (hl) h2
  try simp (disch := first | omega | (simp; done) | fail) [wrap64c, if_pos, if_neg, lB, ntB, csB, hr', q_x, g_x, l_x, r_x, z_x]
  exact done_ret rfl ⟨r1, hr, by simp, w1⟩
end Go.Proofs.YtnncipcldbopgaaGreat
namespace Go.Proofs.YtnncipcldbopgaaGreat
set_option linter.unusedSimpArgs false
set_option linter.unusedVariables false
open Go Go.Eng
attribute [local irreducible] WD RunD PreD Runs CallOK
theorem l1In_ok (h : Hp) (a b c : Int) : CallOK Tryz.prog 145 #[.int .i64 a, .int .i64 b, .int .i64 c] h (.bool (decide (b ≤ a ∧ a ≤ c))) h := by
  refine callY_P 15 _ [.tmp 6] Tryz.func145 rfl rfl rfl (by first | rfl | simp) ?_
  by_cases hc : b ≤ a
  · try simp (disch := first | omega | (simp; done) | fail) [wrap64c, if_pos, if_neg, hc]
    exact done_ret rfl (by simp [hc])
  · try simp (disch := first | omega | (simp; done) | fail) [wrap64c, if_pos, if_neg, hc]
    exact done_ret rfl (by simp [hc])
def szS (k : Int) (xs : List Int) : Int := if k - xs.length < 0 then -1 else k - xs.length
def szL : Int → List (List Int) → Int
  | k, [] => k
  | k, x :: l => if szS k x < 0 then -1 else szL (szS k x) l
def szSS (k : Int) (xs : List (List Int)) : Int := if k - xs.length < 0 then -1 else szL (k - xs.length) xs
end Go.Proofs.YtnncipcldbopgaaGreat
namespace Go.Proofs.YtnncipcldbopgaaGreat
set_option linter.unusedSimpArgs false
set_option linter.unusedVariables false
open Go Go.Eng
attribute [local irreducible] WD RunD PreD Runs CallOK
def mkL (k : Int) (n : Nat) : List Int := (List.range n).map fun (i : Nat) => k + (i : Int)
end Go.Proofs.YtnncipcldbopgaaGreat
namespace Go.Proofs.YtnncipcldbopgaaGreat
set_option linter.unusedSimpArgs false
set_option linter.unusedVariables false
open Go Go.Eng
attribute [local irreducible] WD RunD PreD Runs CallOK
def mkR : Int → List (List Int) → List (List Int)
  | _, [] => []
  | k, r :: L => mkL k r.length :: mkR (k + r.length) L
def tot : List (List Int) → Nat
  | [] => 0
  | r :: L => r.length + tot L
theorem appI {n : Nat} {h0 h : Hp} {v : Value} {xs : List Int} (hs : IntsA n h v xs) (x : Int) (hl : xs.length < 2 ^ 40) (hn : n ≤ h.next) (hA : Adds h0 h) (h0n : h0.next ≤ n) :
    ∃ v' h', appendD Tryz.prog 24 24 v (.slice (some ⟨h.next, 0, none⟩) 1 1) (h.alloc (.cells [.int .i64 x] true true 1)) = some (v', h') ∧ IntsA n h' v' (xs ++ [x]) ∧ Adds h0 h' ∧ h.next < h'.next ∧ ∀ o, o < h.next → o < n → h'.get o = h.get o := by
  obtain ⟨v', h', g1, g2, g3, g4, g5⟩ := append_one (P := Tryz.prog) (t := 24) (t' := 24) (x := x) (q := h.next) (h := h.alloc (.cells [.int .i64 x] true true 1)) (qx := true) (n := n) (v := v) (xs := xs) (by
    rcases hs with ⟨a, b⟩ | ⟨o, ex, a, b, c, d⟩
    · exact .inl ⟨a, b⟩
    · exact .inr ⟨o, ex, a, b, Nat.lt_succ_of_lt c, by simp [Nat.ne_of_lt c, d]⟩) ty_elT_24 ty_szT_3 ty_zeroT_3 ty_byT_3 (by decide) (by decide) (by simp) (by simp) hl (by simp; omega) (show Adds h0 _ from (by first | exact aK | exact kK)) h0n
  exact ⟨v', h', g1, g2, g3, Nat.lt_of_le_of_lt (by simp) g4, fun o ho hn => by rw [g5 o (by simp; omega) hn]; simp [Nat.ne_of_lt ho]⟩
theorem appR {n : Nat} {h0 h1 h : Hp} {v u : Value} {L : List (List Int)} {r : List Int} (hs : IRowsA n h1 v L) (hk1 : Keeps h1 h) (hu : IntsO (Btw h1.next h.next) h u r) (hl : L.length < 2 ^ 40) (hn : n ≤ h1.next) (hA : Adds h0 h) (h0n : h0.next ≤ n) :
    ∃ v' h', appendD Tryz.prog 49 49 v (.slice (some ⟨h.next, 0, none⟩) 1 1) (h.alloc (.cells [u] true true 1)) = some (v', h') ∧ IRowsA n h' v' (L ++ [r]) ∧ Adds h0 h' ∧ h.next < h'.next ∧ ∀ o, o < h.next → o < n → h'.get o = h.get o := by
  obtain ⟨v', h', g1, g2, g3, g4, g5⟩ := append_row (P := Tryz.prog) (t := 49) (t' := 49) (q := h.next) (h := h.alloc (.cells [u] true true 1)) (qx := true) (n := n) (u := u) (r := r) hs (hk1.trans (Keeps.alloc _ _)) ((hu.keep (Keeps.alloc _ _)).sub fun o ho => ⟨ho.1, Nat.lt_succ_of_lt ho.2⟩)
    ty_elT_49 ty_szT_24 ty_zeroT_24 ty_byT_24 (by decide) (by decide) (by simp) (by simp) hl hn (show Adds h0 _ from (by first | exact aK | exact kK)) h0n
  exact ⟨v', h', g1, g2, g3, Nat.lt_of_le_of_lt (by simp) g4, fun o ho hn => by rw [g5 o (by simp; omega) hn]; simp [Nat.ne_of_lt ho]⟩
theorem l1Own_ok (h : Hp) (v : Value) (xs : List Int) (hv : Ints h v xs) (hl : xs.length < 2 ^ 39) : ∃ v' h', CallOK Tryz.prog 129 #[v] h v' h' ∧ Adds h h' ∧ IntsO (Btw h.next h'.next) h' v' xs ∧ IntsA h.next h' v' xs := by
  refine callY_L (args := [v]) 6 _ [.tmp 2] Tryz.func129 rfl rfl rfl ?_
  try simp (disch := first | omega | (simp; done) | fail) [wrap64c, if_pos, if_neg]
  first | refine WY_heap fun h1 q_h1 => ?_ | refine callG_heap fun h1 q_h1 => ?_ | refine callP_heap fun h1 q_h1 => ?_ | refine callS_heap fun h1 q_h1 => ?_ | refine RY_heap fun h1 q_h1 => ?_ | refine PY_heap fun h1 q_h1 => ?_ | refine SY_heap fun h1 q_h1 => ?_ | refine doneY_heap fun h1 q_h1 => ?_ | refine loopK_heap fun h1 q_h1 => ?_ | refine thenY_heap fun h1 q_h1 => ?_ | refine thenM_heap fun h1 q_h1 => ?_
  have k1 : Adds h h1 := by rw [q_h1]; exact (by first | exact aK | exact kK)
  have hA : IntsA h.next h1 (.slice (some ⟨h.next, 0, none⟩) 0 0) [] := .lit (ex := true) (Nat.le_refl _) (by simp [q_h1]) (by simp [q_h1, zarr])
  obtain ⟨v2, h2, hap, hA2, k2, n2, s2⟩ := append_ints (P := Tryz.prog) (t := 24) (t' := 24) hA (hv.keep k1.1) ty_elT_24 ty_szT_3 ty_zeroT_3 ty_byT_3 (by decide) (by decide) (by simp) (by simp; omega) (by simp [q_h1]) k1 (Nat.le_refl _)
  simp only [List.nil_append] at hA2
  try simp (disch := first | omega | (simp; done) | fail) [wrap64c, if_pos, if_neg, hap]
  exact done_ret rfl ⟨k2, hA2.own (by omega), hA2⟩
end Go.Proofs.YtnncipcldbopgaaGreat
