/- Calls, regions in the order of the text, code, loops, functions. -/
import Derived.Test.YtpehnhjgdgnnkaaEngI
namespace Go.Eng

/-- A call: from these arguments and this heap the function hands back v and leaves the heap h'. -/
def CallOK (P : Program) (f : FuncId) (args : Array Value) (h : Hp) (v : Value) (h' : Hp) : Prop :=
  ∀ (E : Emb) (base : Nat) (w : World) (args' : Array Value), HRel E base h w.heap → args.size = args'.size → (∀ i, i < args.size → VRel E (args.getD i undef) (args'.getD i undef)) →
    Calls P f args' w fun e w' => ∃ E' v', e = .returned v' ∧ Step E h w E' h' w' ∧ HRel E' base h' w'.heap ∧ VRel E' v v'

def fnOK (P : Program) (f : FuncId) : Bool := match P.funcs[f]? with
  | some fn => fn.body.isSome && !(fn.name == "runtime.NumGoroutine")
  | none => false

section
variable {P : Program} {o : Oper} {tm : Nat → Value} {h h' : Hp}

theorem VRel.inv_func {E : Emb} {fn : Fn} {f c : Array Value} {v' : Value} (h : VRel E (.func fn f c) v') : ∃ f' c', v' = .func fn f' c' ∧ f.size = f'.size ∧ c.size = c'.size ∧
    (∀ i, i < f.size → VRel E (f.getD i Go.undef) (f'.getD i Go.undef)) ∧ ∀ i, i < c.size → VRel E (c.getD i Go.undef) (c'.getD i Go.undef) := by
  cases h; exact ⟨_, _, rfl, by assumption, by assumption, by assumption, by assumption⟩

theorem arr_append {E : Emb} {a b a' b' : Array Value} (h1 : a.size = a'.size) (h2 : b.size = b'.size) (r1 : ∀ i, i < a.size → VRel E (a.getD i Go.undef) (a'.getD i Go.undef))
    (r2 : ∀ i, i < b.size → VRel E (b.getD i Go.undef) (b'.getD i Go.undef)) : (a ++ b).size = (a' ++ b').size ∧ ∀ i, i < (a ++ b).size → VRel E ((a ++ b).getD i Go.undef) ((a' ++ b').getD i Go.undef) := by
  refine ⟨by simp [h1, h2], fun i hi => ?_⟩
  simp at hi
  by_cases hl : i < a.size
  · have e1 : (a ++ b).getD i undef = a.getD i undef := by rw [Array.getD_eq_getD_getElem?, Array.getD_eq_getD_getElem?, Array.getElem?_append_left hl]
    have e2 : (a' ++ b').getD i undef = a'.getD i undef := by rw [Array.getD_eq_getD_getElem?, Array.getD_eq_getD_getElem?, Array.getElem?_append_left (by omega)]
    rw [e1, e2]; exact r1 i hl
  · have e1 : (a ++ b).getD i undef = b.getD (i - a.size) undef := by rw [Array.getD_eq_getD_getElem?, Array.getD_eq_getD_getElem?, Array.getElem?_append_right (by omega)]
    have e2 : (a' ++ b').getD i undef = b'.getD (i - a.size) undef := by rw [Array.getD_eq_getD_getElem?, Array.getD_eq_getD_getElem?, Array.getElem?_append_right (by omega), h1]
    rw [e1, e2]; exact r2 _ (by omega)

theorem args_rel {E : Emb} {a : Act} {xs : Array Operand} (hx : xs.all okX = true) (hm : ∀ x ∈ xs, x ∈ o.op.operands) (ht : ∀ t, Operand.tmp t ∈ o.op.operands → VRel E (tm t) (a.tmps.getD t undef)) :
    ∀ i, i < (xs.map (ev tm)).size → VRel E ((xs.map (ev tm)).getD i undef) ((xs.map a.eval).getD i undef) := by
  intro i hi
  simp at hi
  have e1 : (xs.map (ev tm)).getD i undef = ev tm xs[i] := by simp [Array.getD_eq_getD_getElem?, hi]
  have e2 : (xs.map a.eval).getD i undef = a.eval xs[i] := by simp [Array.getD_eq_getD_getElem?, hi]
  rw [e1, e2]
  rw [Array.all_eq_true] at hx
  exact mem_ops (hx i hi) (hm _ (Array.getElem_mem hi)) ht

theorem ok_call {fx : Operand} {xs : Array Operand} {ts : Array TypeId} {f : FuncId} {fst cap : Array Value} {v : Value} (ho : o.op = .call ⟨.value fx, xs, ts⟩) (hfx : ev tm fx = .func (.func f) fst cap) (hfx' : okX fx = true)
    (hxs : xs.all okX = true) (hfn : fnOK P f = true) (hc : CallOK P f (fst ++ xs.map (ev tm) ++ cap) h v h') : OpOK P o tm h v h' := by
  intro E base w a next Q hr ht hn
  have hv := mem_ops (x := fx) hfx' (by rw [ho]; simp [Op.operands, Call.operands]) ht
  have ha := args_rel (tm := tm) (a := a) hxs (fun x hx => by rw [ho]; simp [Op.operands, Call.operands, hx]) ht
  rw [hfx] at hv
  obtain ⟨f', c', e, s1, s2, r1, r2⟩ := hv.inv_func
  obtain ⟨q1, q2⟩ := arr_append s1 (show (xs.map (ev tm)).size = (xs.map a.eval).size by simp) r1 ha
  obtain ⟨q3, q4⟩ := arr_append q1 s2 q2 r2
  have hrun : (execOp a.eval o).run P w = .ok (.enter f (f' ++ xs.map a.eval ++ c')) w := by
    unfold fnOK at hfn
    split at hfn
    · rename_i fn hfn'
      simp only [Bool.and_eq_true, Bool.not_eq_true'] at hfn
      have hbn : ¬ fn.body = none := by intro hb; rw [hb] at hfn; simp at hfn
      have hnm : ¬ fn.name = "runtime.NumGoroutine" := by have := hfn.2; simpa using this
      simp [execOp, ho, resolve, e, Deferred.ofValue, invoke, callFunc, hfn', hnm, hbn]
    · cases hfn
  unfold Oper.wp
  rw [hrun]
  exact (hc E base w _ hr q3 q4).mono fun e' w' ⟨E', v', he, st, hr', hv'⟩ => by subst he; exact hn E' w' v' st hr' hv'
end

def upd (tm : Nat → Value) (d : Nat) (v : Value) : Nat → Value := fun t => if t = d then v else tm t
def updO (tm : Nat → Value) : Option Nat → Value → Nat → Value
  | none, _ => tm
  | some d, v => upd tm d v
def dstOK (n : Nat) : Option Nat → Bool
  | none => true
  | some d => decide (d < n)

structure TRel (E : Emb) (n : Nat) (tm : Nat → Value) (a : Act) : Prop where
  size : a.tmps.size = n
  rel : ∀ t, VRel E (tm t) (a.tmps.getD t undef)
  defers : a.defers = []

theorem TRel.put {E : Emb} {n : Nat} {tm : Nat → Value} {a : Act} (h : TRel E n tm a) {v v' : Value} (hv : VRel E v v') {d : Option Nat} (hd : dstOK n d = true) : TRel E n (updO tm d v) (a.put d v') := by
  cases d with
  | none => exact h
  | some d =>
    have hd' : d < n := by simpa [dstOK] using hd
    refine ⟨by simp [Act.put, h.size], fun t => ?_, h.defers⟩
    simp only [updO, upd, Act.put]
    by_cases e : t = d
    · subst e
      have : (a.tmps.setIfInBounds t v').getD t undef = v' := by simp [Array.getD_eq_getD_getElem?, h.size, hd']
      rw [if_pos rfl, this]; exact hv
    · have : (a.tmps.setIfInBounds d v').getD t undef = a.tmps.getD t undef := by
        rw [Array.getD_eq_getD_getElem?, Array.getD_eq_getD_getElem?, Array.getElem?_setIfInBounds_ne (fun q => e q.symm)]
      rw [if_neg e, this]; exact h.rel t

theorem TRel.step {E E' : Emb} {n : Nat} {tm : Nat → Value} {a : Act} {h h' : Hp} {w w' : World} {base : Nat} (ht : TRel E n tm a) (s : Step E h w E' h' w') (hr : HRel E base h w.heap) : TRel E' n tm a :=
  ⟨ht.size, fun t => s.vrel hr (ht.rel t), ht.defers⟩

/-- The guard of an operation in a region: whether it is wanted. -/
def wantA (ops : Array Oper) (tm : Nat → Value) (o : Oper) : Option Bool :=
  match o.guard with
  | none => some true
  | some (j, want) => match (ops[j]?).bind (·.dst) with
    | some d => match tm d with
      | .bool b => some (b == want)
      | .tuple _ => some false
      | _ => none
    | none => none

theorem VRel.inv_tuple {E : Emb} {c : Array Value} {v' : Value} (h : VRel E (.tuple c) v') : ∃ c', v' = .tuple c' := by cases h; exact ⟨_, rfl⟩

theorem wantA_rel {ops : Array Oper} {E : Emb} {n : Nat} {tm : Nat → Value} {a : Act} {o : Oper} {b : Bool} (h : wantA ops tm o = some b) (hg : ∀ j want d, o.guard = some (j, want) → (ops[j]?).bind (·.dst) = some d → d < n)
    (ht : TRel E n tm a) : Region.wanted o (yielded ops a.tmps) = b := by
  unfold wantA at h
  unfold Region.wanted
  split at h
  · rename_i hgd; simp only [Option.some.injEq] at h; subst h; rw [hgd]
  · rename_i j want hgd
    rw [hgd]
    split at h
    · rename_i d hd
      split at h
      · rename_i bb hb
        simp only [Option.some.injEq] at h
        subst h
        have hlt := hg j want d hgd hd
        have hr := ht.rel d
        rw [hb] at hr
        obtain ⟨z, hz, hz'⟩ := getD_some (c := a.tmps) (i := d) (by rw [ht.size]; exact hlt)
        have hz2 : z = .bool bb := by rw [← hz']; exact hr.inv_bool
        subst hz2
        simp only [yielded, hd, Option.bind_some, hz]
        cases bb <;> cases want <;> rfl
      · rename_i bb hb
        simp only [Option.some.injEq] at h
        subst h
        have hlt := hg j want d hgd hd
        have hr := ht.rel d
        rw [hb] at hr
        obtain ⟨z, hz, hz'⟩ := getD_some (c := a.tmps) (i := d) (by rw [ht.size]; exact hlt)
        obtain ⟨c', hc'⟩ := hr.inv_tuple
        have hz2 : z = .tuple c' := by rw [← hz']; exact hc'
        subst hz2
        simp only [yielded, hd, Option.bind_some, hz]
        cases want <;> rfl
      · cases h
    · cases h

def guardOK (n : Nat) (ops : Array Oper) (o : Oper) : Bool :=
  match o.guard with
  | none => true
  | some (j, _) => match (ops[j]?).bind (·.dst) with
    | some d => decide (d < n)
    | none => false

theorem guardOK_spec {n : Nat} {ops : Array Oper} {o : Oper} (h : guardOK n ops o = true) : ∀ j want d, o.guard = some (j, want) → (ops[j]?).bind (·.dst) = some d → d < n := by
  intro j want d hg hd
  unfold guardOK at h
  rw [hg] at h
  simp only [hd] at h
  simpa using h

/-- The operations of a region, one behind the other. -/
def RunOps (P : Program) (n : Nat) (ops : Array Oper) : List Oper → ((Nat → Value) → Hp → Prop) → (Nat → Value) → Hp → Prop
  | [], Q, tm, h => Q tm h
  | o :: rest, Q, tm, h => dstOK n o.dst = true ∧ guardOK n ops o = true ∧
    ((wantA ops tm o = some true ∧ ∃ v h', OpOK P o tm h v h' ∧ RunOps P n ops rest Q (updO tm o.dst v) h') ∨
     (wantA ops tm o = some false ∧ RunOps P n ops rest Q (updO tm o.dst undef) h))

theorem runOps_sound {P : Program} {n : Nat} {ops : Array Oper} {Q : (Nat → Value) → Hp → Prop} : ∀ (l : List Oper) (k : Nat) (tm : Nat → Value) (h : Hp), ops.toList.drop k = l → RunOps P n ops l Q tm h →
    ∃ tm' h', Q tm' h' ∧ ∀ (E : Emb) (base : Nat) (w : World) (a : Act) (R : Exit → Act → World → Prop), HRel E base h w.heap → TRel E n tm a →
      (∀ E' w' a', Step E h w E' h' w' → HRel E' base h' w'.heap → TRel E' n tm' a' → R .normal a' w') → wpOps P ops R (List.range' k l.length) a w
  | [], k, tm, h, _, hq => ⟨tm, h, hq, fun E base w a R hr ht hn => by simpa [wpOps] using hn E w a (Step.refl E h w) hr ht⟩
  | o :: rest, k, tm, h, hl, hq => by
    have hk : ops[k]? = some o := by
      have : (ops.toList.drop k)[0]? = some o := by rw [hl]; rfl
      simpa using this
    have hl2 : ops.toList.drop (k + 1) = rest := by
      rw [← List.drop_drop, hl]; rfl
    obtain ⟨hd, hg, hq⟩ := hq
    rcases hq with ⟨hw, v, h1, hok, hq⟩ | ⟨hw, hq⟩
    · obtain ⟨tm', h', hQ, hs⟩ := runOps_sound rest (k + 1) _ _ hl2 hq
      refine ⟨tm', h', hQ, fun E base w a R hr ht hn => ?_⟩
      simp only [List.length_cons, List.range'_succ, wpOps, hk]
      rw [wantA_rel hw (guardOK_spec hg) ht, if_pos rfl]
      left
      exact hok E base w a _ R hr (fun t _ => ht.rel t) fun E1 w1 v1 st hr1 hv1 =>
        hs E1 base w1 _ R hr1 ((ht.step st hr).put hv1 hd) fun E2 w2 a2 st2 hr2 ht2 => hn E2 w2 a2 (st.trans st2) hr2 ht2
    · obtain ⟨tm', h', hQ, hs⟩ := runOps_sound rest (k + 1) _ _ hl2 hq
      refine ⟨tm', h', hQ, fun E base w a R hr ht hn => ?_⟩
      simp only [List.length_cons, List.range'_succ, wpOps, hk]
      rw [wantA_rel hw (guardOK_spec hg) ht, if_neg (by simp)]
      exact hs E base w _ R hr (ht.put (VRel.undef E) hd) hn

/-- Code: from the abstract state (tm, h) it ends by e in (tm', h'). -/
def CodeOK (P : Program) (n : Nat) (c : Code) (tm : Nat → Value) (h : Hp) (e : Exit) (tm' : Nat → Value) (h' : Hp) : Prop :=
  ∀ (E : Emb) (base : Nat) (w : World) (a : Act), HRel E base h w.heap → TRel E n tm a →
    c.wp P (fun ex a' w' => ex = e ∧ ∃ E', Step E h w E' h' w' ∧ HRel E' base h' w'.heap ∧ TRel E' n tm' a') a w

def Runs (P : Program) (n : Nat) (c : Code) (Q : Exit → (Nat → Value) → Hp → Prop) (tm : Nat → Value) (h : Hp) : Prop :=
  ∃ e tm' h', CodeOK P n c tm h e tm' h' ∧ Q e tm' h'

section
variable {P : Program} {n : Nat} {tm : Nat → Value} {h : Hp}

theorem Runs.mono {c : Code} {Q Q' : Exit → (Nat → Value) → Hp → Prop} (hr : Runs P n c Q tm h) (hq : ∀ e tm h, Q e tm h → Q' e tm h) : Runs P n c Q' tm h :=
  let ⟨e, tm', h', hc, q⟩ := hr; ⟨e, tm', h', hc, hq _ _ _ q⟩

theorem runs_skip {Q : Exit → (Nat → Value) → Hp → Prop} (hq : Q .normal tm h) : Runs P n .skip Q tm h :=
  ⟨.normal, tm, h, fun E _ w _ hr ht => wp_skip ⟨rfl, E, Step.refl E h w, hr, ht⟩, hq⟩
theorem runs_label {l : Nat} {Q : Exit → (Nat → Value) → Hp → Prop} (hq : Q .normal tm h) : Runs P n (.label l) Q tm h :=
  ⟨.normal, tm, h, fun E _ w _ hr ht => wp_label ⟨rfl, E, Step.refl E h w, hr, ht⟩, hq⟩
theorem runs_exit {i : Nat} {Q : Exit → (Nat → Value) → Hp → Prop} (hq : Q (.exit i) tm h) : Runs P n (.exit i) Q tm h :=
  ⟨.exit i, tm, h, fun E _ w _ hr ht => wp_exit ⟨rfl, E, Step.refl E h w, hr, ht⟩, hq⟩
theorem runs_ret {Q : Exit → (Nat → Value) → Hp → Prop} (hq : Q .ret tm h) : Runs P n .ret Q tm h :=
  ⟨.ret, tm, h, fun E _ w _ hr ht => wp_ret ⟨rfl, E, Step.refl E h w, hr, ht⟩, hq⟩

theorem runs_region {id : Nat} {ops : Array Oper} {Q : Exit → (Nat → Value) → Hp → Prop} (hq : RunOps P n ops ops.toList (Q .normal) tm h) : Runs P n (.region id ops false) Q tm h := by
  obtain ⟨tm', h', hQ, hs⟩ := runOps_sound ops.toList 0 tm h rfl hq
  refine ⟨.normal, tm', h', fun E base w a hr ht => wp_region ?_, hQ⟩
  have := hs E base w a (fun ex a' w' => ex = .normal ∧ ∃ E', Step E h w E' h' w' ∧ HRel E' base h' w'.heap ∧ TRel E' n tm' a') hr ht (fun E' w' a' st hr' ht' => ⟨rfl, E', st, hr', ht'⟩)
  simpa [List.range_eq_range'] using this

theorem codeOK_seq {x y : Code} {tm1 tm2 : Nat → Value} {h1 h2 : Hp} {e : Exit} (ha : CodeOK P n x tm h .normal tm1 h1) (hb : CodeOK P n y tm1 h1 e tm2 h2) : CodeOK P n (.seq x y) tm h e tm2 h2 := by
  intro E base w a hr ht
  refine wp_seq (wp_mono (ha E base w a hr ht) ?_)
  rintro ex a1 w1 ⟨rfl, E1, st, hr1, ht1⟩
  refine wp_mono (hb E1 base w1 a1 hr1 ht1) ?_
  rintro ex a2 w2 ⟨rfl, E2, st2, hr2, ht2⟩
  exact ⟨rfl, E2, st.trans st2, hr2, ht2⟩

theorem codeOK_seq' {x y : Code} {tm1 : Nat → Value} {h1 : Hp} {e : Exit} (he : e ≠ .normal) (ha : CodeOK P n x tm h e tm1 h1) : CodeOK P n (.seq x y) tm h e tm1 h1 := by
  intro E base w a hr ht
  refine wp_seq (wp_mono (ha E base w a hr ht) ?_)
  rintro ex a1 w1 ⟨rfl, E1, st, hr1, ht1⟩
  cases ex with
  | normal => exact absurd rfl he
  | _ => exact ⟨rfl, E1, st, hr1, ht1⟩

theorem runs_seq {x y : Code} {Q : Exit → (Nat → Value) → Hp → Prop} (hx : Runs P n x (fun e tm h => (e = .normal ∧ Runs P n y Q tm h) ∨ (e ≠ .normal ∧ Q e tm h)) tm h) : Runs P n (.seq x y) Q tm h := by
  obtain ⟨e, tm1, h1, hc, hq⟩ := hx
  rcases hq with ⟨rfl, e2, tm2, h2, hc2, hq2⟩ | ⟨he, hq⟩
  · exact ⟨e2, tm2, h2, codeOK_seq hc hc2, hq2⟩
  · exact ⟨e, tm1, h1, codeOK_seq' he hc, hq⟩

theorem runs_cond {c : Operand} {x y : Code} {t : Bool} {Q : Exit → (Nat → Value) → Hp → Prop} (hc : ev tm c = .bool t) (hc' : okX c = true) (hq : Runs P n (if t then x else y) Q tm h) : Runs P n (.cond c x y) Q tm h := by
  obtain ⟨e, tm1, h1, hok, hq⟩ := hq
  refine ⟨e, tm1, h1, fun E base w a hr ht => ?_, hq⟩
  have hv := ev_rel (tm := tm) (a := a) hc' (fun q _ => ht.rel q)
  rw [hc] at hv
  exact wp_cond hv.inv_bool (hok E base w a hr ht)

def inBlk (id : Nat) (Q : Exit → (Nat → Value) → Hp → Prop) : Exit → (Nat → Value) → Hp → Prop
  | .exit id', tm, h => if id' = id then Q .normal tm h else Q (.exit id') tm h
  | e, tm, h => Q e tm h

theorem runs_block {id : Nat} {c : Code} {Q : Exit → (Nat → Value) → Hp → Prop} (hq : Runs P n c (inBlk id Q) tm h) : Runs P n (.block id c) Q tm h := by
  obtain ⟨e, tm1, h1, hok, hq⟩ := hq
  refine ⟨match e with | .exit id' => if id' = id then .normal else .exit id' | e => e, tm1, h1, fun E base w a hr ht => wp_block (wp_mono (hok E base w a hr ht) ?_), ?_⟩
  · rintro ex a1 w1 ⟨rfl, q⟩
    cases ex with
    | exit id' =>
      simp only [Exit.inBlock]
      split <;> exact ⟨by simp_all, q⟩
    | _ => exact ⟨rfl, q⟩
  · cases e with
    | exit id' => simp only [inBlk] at hq; split at hq <;> simp_all
    | _ => exact hq

/-- A loop's rounds, by a number that falls. -/
theorem wp_loop_of {c : Code} {Q : Exit → Act → World → Prop} (I : Nat → Act → World → Prop) (round : ∀ k a w, I k a w → c.wp P (Exit.then (fun a' w' => ∃ k', k' < k ∧ I k' a' w') Q) a w) {k : Nat} {a : Act} {w : World} (h₀ : I k a w) :
    (Code.loop c).wp P Q a w := by
  intro b kk cs
  have key : ∀ n a w, I n a w → ∃ e a' w', Q e a' w' ∧ Arrives P (lone (b.at a (.code c :: .inLoop c :: kk)) cs w) b kk cs e a' w' := by
    intro n
    induction n using Nat.strongRecOn with
    | _ n ih =>
      intro a w hI
      obtain ⟨e, a₁, w₁, hq, harr⟩ := round n a w hI b (.inLoop c :: kk) cs
      cases e with
      | normal =>
        obtain ⟨k', hlt, hI₁⟩ := hq
        obtain ⟨e₂, a₂, w₂, hq₂, harr₂⟩ := ih k' hlt a₁ w₁ hI₁
        exact ⟨e₂, a₂, w₂, hq₂, .of_steps (Steps.trans harr (.one step_inLoop)) harr₂⟩
      | exit id => exact ⟨_, a₁, w₁, hq, .pass (x := .inLoop c) rfl (fun _ _ => .inl (by simp)) harr⟩
      | goto l => exact ⟨_, a₁, w₁, hq, .pass (x := .inLoop c) rfl (fun _ _ => .inl (by simp)) harr⟩
      | ret => exact ⟨_, a₁, w₁, hq, .pass (x := .inLoop c) rfl (fun _ _ => .inl (by simp)) harr⟩
      | panic ch => exact ⟨_, a₁, w₁, hq, .pass (x := .inLoop c) rfl (fun _ _ => .inl (by simp)) harr⟩
      | outgrown => exact ⟨_, a₁, w₁, hq, .pass (x := .inLoop c) rfl (fun _ _ => .inl (by simp)) harr⟩
  obtain ⟨e, a', w', hq, harr⟩ := key _ a w h₀
  exact ⟨e, a', w', hq, .of_steps (.one step_loop) harr⟩

/-- So many rounds of a loop. -/
inductive Rounds (P : Program) (n : Nat) (c : Code) (e : Exit) (tm' : Nat → Value) (h' : Hp) : Nat → (Nat → Value) → Hp → Prop
  | last {k : Nat} {tm : Nat → Value} {h : Hp} (he : e ≠ .normal) (hc : CodeOK P n c tm h e tm' h') : Rounds P n c e tm' h' k tm h
  | more {k : Nat} {tm tm1 : Nat → Value} {h h1 : Hp} (hc : CodeOK P n c tm h .normal tm1 h1) (hr : Rounds P n c e tm' h' k tm1 h1) : Rounds P n c e tm' h' (k + 1) tm h

theorem Rounds.code {c : Code} {e : Exit} {tm' : Nat → Value} {h' : Hp} {k : Nat} (hr : Rounds P n c e tm' h' k tm h) : CodeOK P n (.loop c) tm h e tm' h' := by
  intro E base w a hrel ht
  refine wp_loop_of (fun k a1 w1 => ∃ tm1 h1 E1, Rounds P n c e tm' h' k tm1 h1 ∧ Step E h w E1 h1 w1 ∧ HRel E1 base h1 w1.heap ∧ TRel E1 n tm1 a1) ?_ (k := k) ⟨tm, h, E, hr, Step.refl E h w, hrel, ht⟩
  rintro k a1 w1 ⟨tm1, h1, E1, hr1, st, hrel1, ht1⟩
  cases hr1 with
  | last he hc =>
    refine wp_mono (hc E1 base w1 a1 hrel1 ht1) ?_
    rintro ex a2 w2 ⟨rfl, E2, st2, hrel2, ht2⟩
    cases ex with
    | normal => exact absurd rfl he
    | _ => exact ⟨rfl, E2, st.trans st2, hrel2, ht2⟩
  | more hc hr2 =>
    refine wp_mono (hc E1 base w1 a1 hrel1 ht1) ?_
    rintro ex a2 w2 ⟨rfl, E2, st2, hrel2, ht2⟩
    exact ⟨_, Nat.lt_succ_self _, _, _, E2, hr2, st.trans st2, hrel2, ht2⟩

/-- A loop with an invariant and a measure. -/
theorem runs_loop {c : Code} {Q : Exit → (Nat → Value) → Hp → Prop} (I : Nat → (Nat → Value) → Hp → Prop) (round : ∀ k tm h, I k tm h → Runs P n c (fun e tm' h' => (e = .normal ∧ ∃ k', k' < k ∧ I k' tm' h') ∨ (e ≠ .normal ∧ Q e tm' h')) tm h)
    {k : Nat} (h0 : I k tm h) : Runs P n (.loop c) Q tm h := by
  have key : ∀ k tm h, I k tm h → ∃ e tm' h' j, Rounds P n c e tm' h' j tm h ∧ Q e tm' h' := by
    intro k
    induction k using Nat.strongRecOn with
    | _ k ih =>
      intro tm h hI
      obtain ⟨e, tm1, h1, hc, hq⟩ := round k tm h hI
      rcases hq with ⟨rfl, k', hlt, hI'⟩ | ⟨he, hq⟩
      · obtain ⟨e2, tm2, h2, j, hr, hq2⟩ := ih k' hlt tm1 h1 hI'
        exact ⟨e2, tm2, h2, j + 1, .more hc hr, hq2⟩
      · exact ⟨e, tm1, h1, 0, .last he hc, hq⟩
  obtain ⟨e, tm', h', j, hr, hq⟩ := key k tm h h0
  exact ⟨e, tm', h', hr.code, hq⟩
end

/-- What is to be shown of code, by its text. Loops and drawn regions stay as they are. -/
def WP (P : Program) (n : Nat) : Code → (Exit → (Nat → Value) → Hp → Prop) → (Nat → Value) → Hp → Prop
  | .skip, Q, tm, h => Q .normal tm h
  | .region _ ops false, Q, tm, h => RunOps P n ops ops.toList (Q .normal) tm h
  | .seq x y, Q, tm, h => WP P n x (fun e tm h => (e = .normal ∧ WP P n y Q tm h) ∨ (e ≠ .normal ∧ Q e tm h)) tm h
  | .cond c x y, Q, tm, h => okX c = true ∧ ((ev tm c = .bool true ∧ WP P n x Q tm h) ∨ (ev tm c = .bool false ∧ WP P n y Q tm h))
  | .block id c, Q, tm, h => WP P n c (inBlk id Q) tm h
  | .exit i, Q, tm, h => Q (.exit i) tm h
  | .ret, Q, tm, h => Q .ret tm h
  | .label _, Q, tm, h => Q .normal tm h
  | c, Q, tm, h => Runs P n c Q tm h

theorem WP.runs {P : Program} {n : Nat} : ∀ (c : Code) {Q : Exit → (Nat → Value) → Hp → Prop} {tm : Nat → Value} {h : Hp}, WP P n c Q tm h → Runs P n c Q tm h
  | .skip, _, _, _, hw => runs_skip hw
  | .region _ _ false, _, _, _, hw => runs_region hw
  | .region _ _ true, _, _, _, hw => hw
  | .seq x y, _, _, _, hw => runs_seq ((WP.runs x hw).mono fun _ _ _ hq => hq.imp (fun ⟨he, hy⟩ => ⟨he, WP.runs y hy⟩) id)
  | .cond _ x y, _, _, _, hw => by
    obtain ⟨h1, ⟨h2, h3⟩ | ⟨h2, h3⟩⟩ := hw
    · exact runs_cond h2 h1 (by simpa using WP.runs x h3)
    · exact runs_cond h2 h1 (by simpa using WP.runs y h3)
  | .block _ c, _, _, _, hw => runs_block (WP.runs c hw)
  | .loop _, _, _, _, hw => hw
  | .rangeFunc .., _, _, _, hw => hw
  | .exit _, _, _, _, hw => runs_exit hw
  | .scope _, _, _, _, hw => hw
  | .label _, _, _, _, hw => runs_label hw
  | .goto _, _, _, _, hw => hw
  | .ret, _, _, _, hw => runs_ret hw
  | .refuse _, _, _, _, hw => hw

end Go.Eng
