/- A region that draws its order, as a rule to use. -/
import Derived.Test.YtpehnhjgdgnnkaaEngQ
namespace Go.Eng

/-- What a call or an operation adds and leaves alone. -/
def Adds (h h' : Hp) : Prop := Keeps h h' ∧ NewOwn h h'

theorem NewOwn.refl (h : Hp) : NewOwn h h := fun _ h1 h2 _ => by omega
theorem Adds.refl (h : Hp) : Adds h h := ⟨Keeps.refl h, NewOwn.refl h⟩
theorem Adds.trans {a b c : Hp} (h : Adds a b) (k : Adds b c) : Adds a c :=
  ⟨h.1.trans k.1, fun o h1 h2 hl => by
    rcases Nat.lt_or_ge o b.next with h3 | h3
    · have hg := k.1.2 o h3
      rw [hg] at hl ⊢
      exact h.2 o h1 h3 hl
    · exact k.2 o h3 h2 hl⟩
theorem Adds.alloc (h : Hp) {x : AObj} (hx : x.live = true → x.owned = true) : Adds h (h.alloc x) :=
  ⟨Keeps.alloc h x, fun o h1 h2 hl => by
    have : o = h.next := by simp [Hp.alloc] at h2; omega
    subst this
    simp only [Hp.alloc, if_true] at hl ⊢
    exact hx hl⟩
theorem Adds.put {h h' : Hp} (k : Adds h h') {o : Nat} (ho : h.next ≤ o) {x : AObj} (hx : x.live = true → x.owned = true) : Adds h (h'.put o x) :=
  ⟨k.1.put ho x, fun i h1 h2 hl => by
    by_cases e : i = o
    · subst e; simp only [Hp.put, if_true] at hl ⊢; exact hx hl
    · simp only [Hp.put, e, if_false] at hl ⊢; exact k.2 i h1 h2 hl⟩
theorem Adds.grow {h h' : Hp} (k : Adds h h') {o : Nat} (ho : h.next ≤ o) {ex : Bool} {x : AObj} (hx : x.live = true → x.owned = true) : Adds h (growHp h' o ex x) := by
  cases ex with
  | true => exact k.trans (Adds.alloc _ hx)
  | false => exact (k.put ho (fun hl => by cases hl)).trans (Adds.alloc _ hx)

/-- The first operations of a drawn region, in the order of the text. -/
def PreD (P : Program) (n : Nat) (ops : Array Oper) : List Oper → ((Nat → Value) → Hp → Prop) → (Nat → Value) → Hp → Prop
  | [], R, tm, h => R tm h
  | o :: rest, R, tm, h => dstOK n o.dst = true ∧ guardOK n ops o = true ∧
    ((wantA ops tm o = some true ∧ ∃ v h', OpOK P o tm h v h' ∧ Adds h h' ∧ PreD P n ops rest R (updO tm o.dst v) h') ∨
     (wantA ops tm o = some false ∧ PreD P n ops rest R (updO tm o.dst undef) h))

section
variable {P : Program} {n : Nat} {ops : Array Oper}

theorem pre_trace {R : (Nat → Value) → Hp → Prop} : ∀ (l : List Oper) (tm : Nat → Value) (h : Hp), PreD P n ops l R tm h →
    ∃ (T : Nat → Nat → Value) (H : Nat → Hp) (V : Nat → Value), T 0 = tm ∧ H 0 = h ∧ R (T l.length) (H l.length) ∧
      ∀ i o, l[i]? = some o → (dstOK n o.dst = true ∧ guardOK n ops o = true) ∧
        ((wantA ops (T i) o = some true ∧ OpOK P o (T i) (H i) (V i) (H (i + 1))) ∨ (wantA ops (T i) o = some false ∧ V i = undef ∧ H (i + 1) = H i)) ∧
        T (i + 1) = updO (T i) o.dst (V i) ∧ Keeps (H i) (H (i + 1)) ∧ NewOwn (H i) (H (i + 1))
  | [], tm, h, hq => ⟨fun _ => tm, fun _ => h, fun _ => undef, rfl, rfl, hq, fun i o ho => by simp at ho⟩
  | o :: rest, tm, h, hq => by
    obtain ⟨h1, h2, h3⟩ := hq
    have shift : ∀ (v : Value) (h' : Hp), PreD P n ops rest R (updO tm o.dst v) h' → Adds h h' → ((wantA ops tm o = some true ∧ OpOK P o tm h v h') ∨ (wantA ops tm o = some false ∧ v = undef ∧ h' = h)) →
        ∃ (T : Nat → Nat → Value) (H : Nat → Hp) (V : Nat → Value), T 0 = tm ∧ H 0 = h ∧ R (T (o :: rest).length) (H (o :: rest).length) ∧
          ∀ i q, (o :: rest)[i]? = some q → (dstOK n q.dst = true ∧ guardOK n ops q = true) ∧
            ((wantA ops (T i) q = some true ∧ OpOK P q (T i) (H i) (V i) (H (i + 1))) ∨ (wantA ops (T i) q = some false ∧ V i = undef ∧ H (i + 1) = H i)) ∧
            T (i + 1) = updO (T i) q.dst (V i) ∧ Keeps (H i) (H (i + 1)) ∧ NewOwn (H i) (H (i + 1)) := by
      intro v h' hp ha hs
      obtain ⟨T, H, V, e1, e2, hR, hi⟩ := pre_trace rest _ _ hp
      refine ⟨fun k => match k with | 0 => tm | k + 1 => T k, fun k => match k with | 0 => h | k + 1 => H k, fun k => match k with | 0 => v | k + 1 => V k, rfl, rfl, hR, fun i q hq => ?_⟩
      cases i with
      | zero =>
        simp only [List.getElem?_cons_zero, Option.some.injEq] at hq
        subst hq
        simp only [e1, e2]
        exact ⟨⟨h1, h2⟩, hs, trivial, ha.1, ha.2⟩
      | succ i =>
        simp only [List.getElem?_cons_succ] at hq
        exact hi i q hq
    rcases h3 with ⟨hw, v, h', hok, ha, hp⟩ | ⟨hw, hp⟩
    · exact shift v h' hp ha (.inl ⟨hw, hok⟩)
    · exact shift undef h hp (Adds.refl h) (.inr ⟨hw, rfl, rfl⟩)

theorem runs_draw {id p : Nat} {Q : Exit → (Nat → Value) → Hp → Prop} {tm : Nat → Value} {h : Hp} (hm : P.follows .mixedOrders = true) (hd : drawOK ops p = true)
    (hq : PreD P n ops (ops.toList.take p) (fun tm h => RunOps P n ops (ops.toList.drop p) (Q .normal) tm h) tm h) : Runs P n (.region id ops true) Q tm h := by
  have hps := (drawOK_spec hd).1
  obtain ⟨T, H, V, e1, e2, hR, hi⟩ := pre_trace _ _ _ hq
  have hlen : (ops.toList.take p).length = p := by simp; omega
  have hget : ∀ i, i < p → (ops.toList.take p)[i]? = ops[i]? := fun i hi => by simp [hi]
  rw [hlen] at hR
  let t : Tr P n ops p :=
    { fits := hps, T := T, H := H, V := V
      dst := fun i o hip ho => (hi i o (by rw [hget i hip]; exact ho)).1
      step := fun i o hip ho => (hi i o (by rw [hget i hip]; exact ho)).2.1
      next := fun i o hip ho => (hi i o (by rw [hget i hip]; exact ho)).2.2.1
      keeps := fun i hip => (hi i ops[i] (by rw [hget i hip, Array.getElem?_eq_getElem (by omega)])).2.2.2.1
      own := fun i hip => (hi i ops[i] (by rw [hget i hip, Array.getElem?_eq_getElem (by omega)])).2.2.2.2 }
  obtain ⟨tm', h', hQ, hs⟩ := runOps_sound (ops.toList.drop p) p _ _ rfl hR
  refine ⟨.normal, tm', h', fun E base w a hr ht => wp_region_any hm ?_, hQ⟩
  have hheap : ∀ k, k ≤ p → HRel (E.cut (t.H k).next) base (t.H k) w.heap := by
    intro k hk
    have hkk := t.keep (Nat.zero_le k) hk
    have hlt : ∀ o, E.D o → o < (t.H 0).next := fun o ho => by have := hr.lt o ho; show o < (H 0).next; rw [e2]; exact this
    refine ⟨hr.le, fun o ho => ho.1, fun o ho => ?_, fun o o' ho ho' hne h1 h2 => ?_⟩
    · rw [hkk.2 o (hlt o ho.2)]
      show ORel (E.cut (t.H k).next) base w.heap o ((H 0).get o)
      rw [e2]
      exact ORel.mono (E := E) (E' := E.cut (t.H k).next) (fun r hr' => ⟨⟨Nat.lt_of_lt_of_le (hlt r hr') hkk.1, hr'⟩, rfl, rfl, rfl⟩) ho.2 rfl (hr.obj o ho.2)
    · rw [hkk.2 o (hlt o ho.2)] at h1
      rw [hkk.2 o' (hlt o' ho'.2)] at h2
      have g1 : (h.get o).owned = true := by have := h1; rwa [show t.H 0 = h from e2] at this
      have g2 : (h.get o').live = true := by have := h2; rwa [show t.H 0 = h from e2] at this
      exact hr.sep o o' ho.2 ho'.2 hne g1 g2
  have hinit : Inv t E base w (fun k => (Array.replicate ops.size false).getD k false) E { w with drawn := w.drawn + 1 } a := by
    have hfalse : ∀ k, (Array.replicate ops.size false).getD k false = false := fun k => by
      rw [Array.getD_eq_getD_getElem?, Array.getElem?_replicate]; split <;> rfl
    have hlt : ∀ o, E.D o → o < (t.H 0).next := fun o ho => by have := hr.lt o ho; show o < (H 0).next; rw [e2]; exact this
    have hto : ∀ s, VRel (E.cut (t.H 0).next) (t.T 0 s) (a.tmps.getD s undef) := fun s => by
      show VRel (E.cut (t.H 0).next) (T 0 s) _
      rw [e1]
      exact VRel.mono (E := E) (E' := E.cut (t.H 0).next) (fun r hr' => ⟨⟨hlt r hr', hr'⟩, rfl, rfl, rfl⟩) (ht.rel s)
    refine ⟨hheap, fun o _ => ⟨Iff.rfl, rfl, rfl, rfl⟩, rfl, rfl, rfl, Nat.le_refl _, fun _ _ _ => rfl, fun o ho _ hown => .inl ⟨o, ho, ?_, rfl⟩, fun i o _ _ h1 _ ho => ?_, ht.size, ht.defers, fun s j o _ hS => ?_, fun s _ => hto s⟩
    · rw [(t.keep (Nat.zero_le p) (Nat.le_refl _)).2 o (hlt o ho)] at hown; exact hown
    · have h3 := hlt o ho
      have h4 : (t.H 0).next ≤ (t.H i).next := t.le (Nat.zero_le _) (by omega)
      omega
    · rw [hfalse] at hS; cases hS
  have hcnt : cntF (fun k => (Array.replicate ops.size false).getD k false) p = p := by
    have hfalse : ∀ k, (Array.replicate ops.size false).getD k false = false := fun k => by
      rw [Array.getD_eq_getD_getElem?, Array.getElem?_replicate]; split <;> rfl
    have : ∀ m, cntF (fun k => (Array.replicate ops.size false).getD k false) m = m := by
      intro m
      induction m with
      | zero => rfl
      | succ m ih =>
        show cntF _ m + (if (Array.replicate ops.size false).getD m false = true then 0 else 1) = m + 1
        rw [ih, hfalse]; simp
    exact this p
  have hfalse : ∀ k, (Array.replicate ops.size false).getD k false = false := fun k => by
    rw [Array.getD_eq_getD_getElem?, Array.getElem?_replicate]; split <;> rfl
  have := any_head (Q := fun ex a' w' => ex = .normal ∧ ∃ E', Step E h w E' h' w' ∧ HRel E' base h' w'.heap ∧ TRel E' n tm' a') t hd (E0 := E) (base := base) (w0 := w) ?_ p (Array.replicate ops.size false) E { w with drawn := w.drawn + 1 } a (by simp) hcnt (fun i j hi => by rw [hfalse] at hi; cases hi) (fun i _ => hfalse i) hinit
  · rwa [show p + (ops.size - p) = ops.size by omega] at this
  · intro E1 w1 a1 st hr1 ht1
    have st' : Step E h w E1 (t.H p) w1 := by rw [show t.H 0 = h from e2] at st; exact st
    have hl : (ops.toList.drop p).length = ops.size - p := by simp
    have h5 := hs E1 base w1 a1 (fun ex a' w' => ex = .normal ∧ ∃ E', Step E h w E' h' w' ∧ HRel E' base h' w'.heap ∧ TRel E' n tm' a') hr1 ht1 (fun E2 w2 a2 st2 hr2 ht2 => ⟨rfl, E2, st'.trans st2, hr2, ht2⟩)
    rwa [hl] at h5

variable {o : Oper} {rest : List Oper} {R : (Nat → Value) → Hp → Prop} {tm : Nat → Value} {h : Hp}

def thenP (P : Program) (n : Nat) (ops : Array Oper) (rest : List Oper) (R : (Nat → Value) → Hp → Prop) (tm : Nat → Value) (h : Hp) (d : Option Nat) : Option (Value × Hp) → Prop
  | some (v, h') => Adds h h' ∧ PreD P n ops rest R (updO tm d v) h'
  | none => False

theorem PreD_run (hd : dstOK n o.dst = true) (hg : guardOK n ops o = true) (hw : wantA ops tm o = some true) (hr : thenP P n ops rest R tm h o.dst (opD P o.op tm h)) : PreD P n ops (o :: rest) R tm h := by
  refine ⟨hd, hg, .inl ⟨hw, ?_⟩⟩
  cases ho : opD P o.op tm h with
  | none => rw [ho] at hr; cases hr
  | some q =>
    obtain ⟨v, h'⟩ := q
    rw [ho] at hr
    exact ⟨v, h', opD_sound ho, hr.1, hr.2⟩

theorem PreD_op (hd : dstOK n o.dst = true) (hg : o.guard = none) (hr : thenP P n ops rest R tm h o.dst (opD P o.op tm h)) : PreD P n ops (o :: rest) R tm h :=
  PreD_run hd (by simp [guardOK, hg]) (by simp [wantA, hg]) hr
theorem PreD_opT {j d : Nat} {want : Bool} (hd : dstOK n o.dst = true) (hg : o.guard = some (j, want)) (hj : (ops[j]?).bind (·.dst) = some d) (hl : decide (d < n) = true) (hb : tm d = .bool want)
    (hr : thenP P n ops rest R tm h o.dst (opD P o.op tm h)) : PreD P n ops (o :: rest) R tm h :=
  PreD_run hd (by simp only [guardOK, hg, hj]; exact hl) (by simp only [wantA, hg, hj, hb]; simp) hr
theorem PreD_opF {j d : Nat} {want : Bool} (hd : dstOK n o.dst = true) (hg : o.guard = some (j, want)) (hj : (ops[j]?).bind (·.dst) = some d) (hl : decide (d < n) = true) (hb : tm d = .bool !want)
    (hr : PreD P n ops rest R (updO tm o.dst undef) h) : PreD P n ops (o :: rest) R tm h := by
  refine ⟨hd, by simp only [guardOK, hg, hj]; exact hl, .inr ⟨?_, hr⟩⟩
  simp only [wantA, hg, hj, hb]; simp
theorem PreD_call' {f : FuncId} {xs : Array Operand} {ts : Array TypeId} {args : Array Value} {v : Value} {h' : Hp} (hop : o.op = .call ⟨.value (.func f), xs, ts⟩) (hd : dstOK n o.dst = true) (hg : o.guard = none)
    (h2 : xs.all okX = true) (h4 : fnOK P f = true) (ha : xs.map (ev tm) = args) (hc : CallOK P f args h v h') (hadd : Adds h h') (hr : PreD P n ops rest R (updO tm o.dst v) h') :
    PreD P n ops (o :: rest) R tm h :=
  ⟨hd, by simp [guardOK, hg], .inl ⟨by simp [wantA, hg], v, h', ok_call hop rfl rfl h2 h4 (by rw [ha]; simpa using hc), hadd, hr⟩⟩
theorem PreD_nil (hr : R tm h) : PreD P n ops [] R tm h := hr

/-- The rule for stepping: the operations behind the first p are as in any region. -/
theorem WD_draw {id : Nat} {Q : Exit → (Nat → Value) → Hp → Prop} (p : Nat) (hm : P.follows .mixedOrders = true) (hd : drawOK ops p = true)
    (hq : ∀ K : (Nat → Value) → Hp → Prop, (∀ tm h, RunD P n ops (ops.toList.drop p) (Q .normal) tm h → K tm h) → PreD P n ops (ops.toList.take p) K tm h) : WD P n (.region id ops true) Q tm h := by
  have key : ∀ (l : List Oper) (R R' : (Nat → Value) → Hp → Prop), (∀ tm h, R tm h → R' tm h) → ∀ tm h, PreD P n ops l R tm h → PreD P n ops l R' tm h := by
    intro l R R' hRR
    induction l with
    | nil => exact fun tm h hq => hRR _ _ hq
    | cons o rest ih =>
      rintro tm h ⟨h1, h2, h3⟩
      refine ⟨h1, h2, h3.imp ?_ ?_⟩
      · rintro ⟨hw, v, h', hok, ha, hp⟩; exact ⟨hw, v, h', hok, ha, ih _ _ hp⟩
      · rintro ⟨hw, hp⟩; exact ⟨hw, ih _ _ hp⟩
  exact runs_draw hm hd (key _ _ _ (fun tm h hq => RunD.run _ hq) _ _ (hq _ (fun _ _ h => h)))
end
end Go.Eng
