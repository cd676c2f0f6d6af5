/- Code by computation; calls that hand back a plain value; calls that hand back new rows. -/
import Derived.Test.YtpehnhjgdgnnkaaEngL
namespace Go.Eng

def WD (P : Program) (n : Nat) : Code → (Exit → (Nat → Value) → Hp → Prop) → (Nat → Value) → Hp → Prop
  | .skip, Q, tm, h => Q .normal tm h
  | .region _ ops false, Q, tm, h => RunD P n ops ops.toList (Q .normal) tm h
  | .seq x y, Q, tm, h => WD P n x (fun e tm h => match e with
    | .normal => WD P n y Q tm h
    | e => Q e tm h) tm h
  | .cond c x y, Q, tm, h => okX c = true ∧ ∃ b, ev tm c = .bool b ∧ (b = true → WD P n x Q tm h) ∧ (b = false → WD P n y Q tm h)
  | .block id c, Q, tm, h => WD P n c (inBlk id Q) tm h
  | .exit i, Q, tm, h => Q (.exit i) tm h
  | .ret, Q, tm, h => Q .ret tm h
  | .label _, Q, tm, h => Q .normal tm h
  | c, Q, tm, h => Runs P n c Q tm h

theorem WD.runs {P : Program} {n : Nat} : ∀ (c : Code) {Q : Exit → (Nat → Value) → Hp → Prop} {tm : Nat → Value} {h : Hp}, WD P n c Q tm h → Runs P n c Q tm h
  | .skip, _, _, _, hw => runs_skip hw
  | .region _ _ false, _, _, _, hw => runs_region (RunD.run _ hw)
  | .region _ _ true, _, _, _, hw => hw
  | .seq x y, _, _, _, hw => runs_seq ((WD.runs x hw).mono fun e _ _ hq => by
      cases e with
      | normal => exact .inl ⟨rfl, WD.runs y hq⟩
      | _ => exact .inr ⟨by simp, hq⟩)
  | .cond _ x y, _, _, _, hw => by
    obtain ⟨h1, b, h2, h3, h4⟩ := hw
    cases b with
    | true => exact runs_cond h2 h1 (by simpa using WD.runs x (h3 rfl))
    | false => exact runs_cond h2 h1 (by simpa using WD.runs y (h4 rfl))
  | .block _ c, _, _, _, hw => runs_block (WD.runs c hw)
  | .loop _, _, _, _, hw => hw
  | .rangeFunc .., _, _, _, hw => hw
  | .exit _, _, _, _, hw => runs_exit hw
  | .scope _, _, _, _, hw => hw
  | .label _, _, _, _, hw => runs_label hw
  | .goto _, _, _, _, hw => hw
  | .ret, _, _, _, hw => runs_ret hw
  | .refuse _, _, _, _, hw => hw

theorem call_D {P : Program} {f : FuncId} {fn : Func} {args : Array Value} {h : Hp} {R : Value → Hp → Prop} (n : Nat) (body : Code) (rs : List ResultVar) (hf : P.funcs[f]? = some fn) (hb : fn.body = some body)
    (hrs : fn.results.toList = rs) (hn : args.size + (fn.ntmps - args.size) = n) (hw : WD P n body (Done P rs R) (fun t => args.getD t undef) h) : ∃ v h', CallOK P f args h v h' ∧ R v h' := by
  subst hrs
  exact call_of_runs n hf hb hn (WD.runs body hw)

/-- A loop, its round by computation. -/
theorem loop_D {P : Program} {n : Nat} {c : Code} {Q : Exit → (Nat → Value) → Hp → Prop} {tm : Nat → Value} {h : Hp} (I : Nat → (Nat → Value) → Hp → Prop) (k : Nat) (h0 : I k tm h)
    (round : ∀ k tm h, I k tm h → WD P n c (fun e tm' h' => match e with
      | .normal => ∃ k', k' < k ∧ I k' tm' h'
      | e => Q e tm' h') tm h) : Runs P n (.loop c) Q tm h := by
  refine runs_loop I (fun k tm h hI => ((WD.runs c (round k tm h hI)).mono fun e _ _ hq => ?_)) h0
  cases e with
  | normal => exact .inl ⟨rfl, hq⟩
  | _ => exact .inr ⟨by simp, hq⟩

/-! Forgetting what a call has made. -/
/-- The old objects are as they were. -/
def Keeps (h h' : Hp) : Prop := h.next ≤ h'.next ∧ ∀ o, o < h.next → h'.get o = h.get o

theorem Keeps.refl (h : Hp) : Keeps h h := ⟨Nat.le_refl _, fun _ _ => rfl⟩
theorem Keeps.trans {a b c : Hp} (h : Keeps a b) (k : Keeps b c) : Keeps a c := ⟨Nat.le_trans h.1 k.1, fun o ho => (k.2 o (Nat.lt_of_lt_of_le ho h.1)).trans (h.2 o ho)⟩
theorem Keeps.alloc (h : Hp) (x : AObj) : Keeps h (h.alloc x) := ⟨Nat.le_succ _, fun o ho => by simp [Hp.alloc, show o ≠ h.next by omega]⟩
theorem Keeps.put {h h' : Hp} (k : Keeps h h') {o : Nat} (ho : h.next ≤ o) (x : AObj) : Keeps h (h'.put o x) := ⟨k.1, fun i hi => by simp [Hp.put, show i ≠ o by omega, k.2 i hi]⟩

/-- A value that speaks of old objects alone is related by the old embedding as well. -/
theorem VRel.back {E E' : Emb} (hD : ∀ o, E.D o → E'.blk o = E.blk o ∧ E'.off o = E.off o ∧ E'.slk o = E.slk o) {v a : Value} (h : VRel E v a) : ∀ {b : Value}, VRel E' v b → VRel E v b := by
  induction h with
  | bool b => intro b h; cases h; exact .bool _
  | int k n => intro b h; cases h; exact .int _ _
  | string s => intro b h; cases h; exact .string _
  | ptrNil => intro b h; cases h; exact .ptrNil
  | ptr o i hd =>
    intro b h
    obtain ⟨_, e⟩ := h.inv_ptr
    obtain ⟨e1, e2, _⟩ := hD o hd
    rw [e, e1, e2]; exact .ptr o i hd
  | sliceNil => intro b h; cases h; exact .sliceNil
  | slice o i n c a hd hn ha =>
    intro b h
    obtain ⟨e1, e2, e3⟩ := hD o hd
    cases h with
    | slice _ _ _ _ ad _ _ had => rw [e3]; exact .slice o i n c ad hd hn (by rwa [e1, e2, e3] at had)
  | slice0 a =>
    intro b h
    cases h with
    | slice0 ad => exact .slice0 _
  | mapNil => intro b h; cases h; exact .mapNil
  | map o hd => intro b h; cases h; rw [(hD o hd).1]; exact .map o hd
  | func fn f f' c c' hf hc _ _ h1 h2 =>
    intro b h
    obtain ⟨f2, c2, e, s1, s2, r1, r2⟩ := h.inv_func
    rw [e]
    exact .func fn f f2 c c2 s1 s2 (fun i hi => h1 i hi (r1 i hi)) (fun i hi => h2 i hi (r2 i hi))
  | nilFunc => intro b h; cases h; exact .nilFunc
  | nilIface => intro b h; cases h; exact .nilIface
  | iface t v v' _ ih => intro b h; cases h; exact .iface _ _ _ (ih (by assumption))
  | agg c c' hs h1 _ ih =>
    intro b h
    cases h with
    | agg _ c2 s2 _ r2 => exact .agg c c2 s2 h1 (fun i hi => ih i hi (r2 i hi))
  | tuple c c' hs _ ih =>
    intro b h
    cases h with
    | tuple _ c2 s2 r2 => exact .tuple c c2 s2 (fun i hi => ih i hi (r2 i hi))

theorem cut_rel {E E' : Emb} {base : Nat} {h h' : Hp} {w w' : World} (hr : HRel E base h w.heap) (st : Step E h w E' h' w') (hr' : HRel E' base h' w'.heap) (hk : Keeps h h') :
    Step E h w E h w' ∧ HRel E base h w'.heap := by
  have hmem : ∀ o, E.D o → E'.D o ∧ E'.blk o = E.blk o ∧ E'.off o = E.off o ∧ E'.slk o = E.slk o := st.dmono hr.lt
  have hD : ∀ o, E.D o → E'.blk o = E.blk o ∧ E'.off o = E.off o ∧ E'.slk o = E.slk o := fun o hd => (hmem o hd).2
  refine ⟨⟨Nat.le_refl _, fun _ _ => ⟨Iff.rfl, rfl, rfl, rfl⟩, st.os, st.tape, st.output, st.size, st.keep, fun o hd ho => .inl ⟨o, hd, ho, rfl⟩⟩, ⟨hr'.le, hr.lt, fun o hd => ?_, hr.sep⟩⟩
  have h1 := hr'.obj o (hmem o hd).1
  rw [hk.2 o (hr.lt o hd)] at h1
  have h0 := hr.obj o hd
  obtain ⟨hb, hf, hs⟩ := hD o hd
  cases hx : h.get o with
  | dead => trivial
  | cells c own ex es =>
    rw [hx] at h0 h1
    obtain ⟨C0, _, _, _, _, g3, _, _, _⟩ := h0
    obtain ⟨C, ty, fz, k1, k2, k3, k4, k5, k6⟩ := h1
    refine ⟨C, ty, fz, by rw [← hb]; exact k1, by rw [← hf, ← hs]; exact k2, fun i hi => ?_, k4, fun e => ?_, fun e => by rw [← hs]; exact k6 e⟩
    · have := k3 i hi
      rw [hf] at this
      exact (g3 i hi).back hD this
    · rw [← hb]; exact k5 e
  | map es =>
    rw [hx] at h0 h1
    obtain ⟨e0, _, _, _, _, g4⟩ := h0
    obtain ⟨ents, clock, k1, k2, k3, k4⟩ := h1
    exact ⟨ents, clock, by rw [← hb]; exact k1, by rw [← hb]; exact k2, k3, fun i hi => ⟨(g4 i hi).1.back hD (k4 i hi).1, (g4 i hi).2.back hD (k4 i hi).2⟩⟩

/-- A call that hands back a plain value leaves the heap as it was. -/
theorem CallOK.forget {P : Program} {f : FuncId} {args : Array Value} {h h' : Hp} {v : Value} (hc : CallOK P f args h v h') (hk : Keeps h h') (hv : plainV v = true) : CallOK P f args h v h := by
  intro E base w args' hr hs hrel
  refine (hc E base w args' hr hs hrel).mono fun e w' ⟨E', v', he, st, hr', hv'⟩ => ?_
  obtain ⟨st2, hr2⟩ := cut_rel hr st hr' hk
  have hvv : VRel E v v' := (VRel.ofV E hv).back (fun o hd => (st.dmono hr.lt o hd).2) hv'
  exact ⟨E, v', he, st2, hr2, hvv⟩

/-- As 'call_D', for a function that hands back a plain value and writes nothing old. -/
theorem call_plain {P : Program} {f : FuncId} {fn : Func} {args : Array Value} {h : Hp} {v : Value} (n : Nat) (body : Code) (rs : List ResultVar) (hf : P.funcs[f]? = some fn) (hb : fn.body = some body)
    (hrs : fn.results.toList = rs) (hn : args.size + (fn.ntmps - args.size) = n) (hv : plainV v = true) (hw : WD P n body (Done P rs fun u h' => u = v ∧ Keeps h h') (fun t => args.getD t undef) h) : CallOK P f args h v h := by
  obtain ⟨u, h', hc, rfl, hk⟩ := call_D n body rs hf hb hrs hn hw
  exact hc.forget hk hv

end Go.Eng
