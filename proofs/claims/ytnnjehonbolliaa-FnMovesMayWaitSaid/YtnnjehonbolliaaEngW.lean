/- A drawn region in which some loads may come late: they read objects that the region does not change. All other operations on memory stand in a chain. Written by gen_engW.py. -/
import Derived.Test.YtnnjehonbolliaaEngY
namespace Go.Eng
/-- A load that may come late, by the slots of those. -/
def sfHas : List Nat → Nat → Bool
  | [], _ => false
  | a :: l, d => decide (a = d) || sfHas l d
def softL (sf : List Nat) (o : Oper) : Bool := match o.op, o.dst with
  | .load _ _, some d => sfHas sf d
  | _, _ => false
/-- A literal that may be made early or late, by the slots of those. -/
def lsIdx : List Nat → Nat → Option Nat
  | [], _ => none
  | a :: l, d => if a = d then some 0 else (lsIdx l d).map (· + 1)
def litO (ls : List Nat) (o : Oper) : Option Nat := match o.op, o.dst with
  | .buildSlice _ _ _, some d => lsIdx ls d
  | _, _ => none
def litC (P : Program) (t : TypeId) (n : Nat) (parts : Array (Nat × Operand)) : Option (List Value × Nat) := if parts.all (fun q => okX q.2) && parts.all (fun q => notTup (ev (fun _ => undef) q.2)) then
      match elT P t with
      | some e => match szT P e, zeroT P e with
        | some m, some z => if plainV z && notTup z && decide (z.cells.size = m) && decide (n * m ≤ 2 ^ 24) then
            match Instr.fill (fun i => some (i * m, m)) (zarr z.cells (n * m)) (parts.map fun (i, x) => (i, ev (fun _ => undef) x)).toList with
            | some r => if r.size = n * m then some (r.toList, m) else none
            | none => none
          else none
        | _, _ => none
      | none => none
    else none
def constX : Operand → Bool
  | .const _ => true
  | _ => false
def constL : List (Nat × Operand) → Bool
  | [] => true
  | (_, .const _) :: l => constL l
  | _ => false
theorem constL_all : ∀ {l : List (Nat × Operand)}, constL l = true → ∀ q ∈ l, constX q.2 = true
  | [], _, q, hq => by cases hq
  | (_, .const _) :: l, h, q, hq => by
    rcases List.mem_cons.1 hq with rfl | hq
    · rfl
    · exact constL_all (l := l) h q hq
  | (_, .tmp _) :: l, h, q, hq => by cases h
  | (_, .func _) :: l, h, q, hq => by cases h
  | (_, .global _) :: l, h, q, hq => by cases h
theorem litC_op {P : Program} {t : TypeId} {n : Nat} {parts : Array (Nat × Operand)} (hc : constL parts.toList = true) (tm : Nat → Value) (h : Hp) :
    opD P (.buildSlice t n parts) tm h = (litC P t n parts).map fun r => (.slice (some ⟨h.next, 0, none⟩) n n, h.alloc (.cells r.1 true true r.2)) := by
  have e1 : ∀ q ∈ parts, ev tm q.2 = ev (fun _ => undef) q.2 := fun q hq => by
    have := constL_all hc q (Array.mem_toList_iff.2 hq)
    cases hx : q.2 with
    | const v => rfl
    | _ => rw [hx] at this; cases this
  have e2 : parts.all (fun q => notTup (ev tm q.2)) = parts.all (fun q => notTup (ev (fun _ => undef) q.2)) := by
    rw [Bool.eq_iff_iff, Array.all_eq_true_iff_forall_mem, Array.all_eq_true_iff_forall_mem]
    exact ⟨fun h q hq => by rw [← e1 q hq]; exact h q hq, fun h q hq => by rw [e1 q hq]; exact h q hq⟩
  have e3 : (parts.map fun (i, x) => (i, ev tm x)) = (parts.map fun (i, x) => (i, ev (fun _ => undef) x)) := by
    apply Array.map_congr_left
    rintro ⟨i, x⟩ hq
    have := e1 _ hq
    simp only at this
    simp only [this]
  show (if _ then _ else _) = _
  unfold litC
  rw [e2, e3]
  cases (parts.all (fun q => okX q.2) && parts.all (fun q => notTup (ev (fun _ => undef) q.2))) with
  | false => rfl
  | true =>
    simp only [if_true]
    cases elT P t with
    | none => rfl
    | some e =>
      simp only
      cases szT P e with
      | none => cases zeroT P e <;> rfl
      | some m =>
        cases zeroT P e with
        | none => rfl
        | some z =>
          simp only
          cases (plainV z && notTup z && decide (z.cells.size = m) && decide (n * m ≤ 2 ^ 24)) with
          | false => rfl
          | true =>
            simp only [if_true]
            cases Instr.fill (fun i => some (i * m, m)) (zarr z.cells (n * m)) (parts.map fun (i, x) => (i, ev (fun _ => undef) x)).toList with
            | none => rfl
            | some r =>
              simp only
              by_cases hr : r.size = n * m
              · rw [if_pos hr, if_pos hr]; rfl
              · rw [if_neg hr, if_neg hr]; rfl
def hardO (sf ls : List Nat) (o : Oper) : Bool := !(pureOp o.op || softL sf o || (litO ls o).isSome)
/-- The other operations on memory are ordered among themselves. -/
def chainS (sf ls : List Nat) (ops : Array Oper) : Bool :=
  (List.range ops.size).all fun i => match ops[i]? with
    | some o => (!(hardO sf ls o) || (List.range i).all fun j => match ops[j]? with
      | some oj => !(hardO sf ls oj) || tclE ops 8 i j
      | none => false) && (!(litO ls o).isSome || (List.range i).all fun j => match ops[j]? with
      | some oj => decide (litO ls oj ≠ litO ls o)
      | none => false)
    | none => false
theorem chainS_spec {sf ls : List Nat} {ops : Array Oper} (h : chainS sf ls ops = true) {i j : Nat} {o oj : Oper} (hi : ops[i]? = some o) (hj : ops[j]? = some oj) (h1 : hardO sf ls o = true) (h2 : hardO sf ls oj = true) (hlt : j < i) : tclE ops 8 i j = true := by
  unfold chainS at h
  simp only [List.all_eq_true, List.mem_range] at h
  have hs : i < ops.size := (Array.getElem?_eq_some_iff.1 hi).1
  have h3 := h i hs
  simp only [hi, h1, Bool.not_true, Bool.false_or, Bool.and_eq_true, List.all_eq_true, List.mem_range] at h3
  have h4 := h3.1 j hlt
  simpa only [hj, h2, Bool.not_true, Bool.false_or] using h4
theorem chainS_lit {sf ls : List Nat} {ops : Array Oper} (h : chainS sf ls ops = true) {i j k : Nat} {o oj : Oper} (hi : ops[i]? = some o) (hj : ops[j]? = some oj) (h1 : litO ls o = some k) (h2 : litO ls oj = some k) : i = j := by
  have key : ∀ (i j : Nat) (o oj : Oper), ops[i]? = some o → ops[j]? = some oj → litO ls o = some k → litO ls oj = some k → ¬ j < i := by
    intro i j o oj hi hj h1 h2 hlt
    unfold chainS at h
    simp only [List.all_eq_true, List.mem_range] at h
    have hs : i < ops.size := (Array.getElem?_eq_some_iff.1 hi).1
    have h3 := h i hs
    simp only [hi, Bool.and_eq_true] at h3
    have h4 := h3.2
    simp only [h1, Option.isSome_some, Bool.not_true, Bool.false_or, List.all_eq_true, List.mem_range] at h4
    have h5 := h4 j hlt
    simp [hj, h2] at h5
  have h3 := key i j o oj hi hj h1 h2
  have h4 := key j i oj o hj hi h2 h1
  omega
/-- The objects of F stay. -/
def KeepF (F : Nat → Prop) (h h' : Hp) : Prop := ∀ b, F b → h'.get b = h.get b
def inF (F : Nat → Prop) : Value → Prop
  | .pointer (some ⟨b, _, none⟩) => F b
  | _ => False
section
variable {P : Program} {n : Nat} {ops : Array Oper} {sf ls : List Nat} {F : Nat → Prop} {N0 : Nat}
/-- An operation that makes one object of plain values. -/
def LitOK (P : Program) (o : Oper) (k : Nat) (cs : List Value) (es : Nat) : Prop :=
  (∀ tm h, OpOK P o tm h (.slice (some ⟨h.next, 0, none⟩) k k) (h.alloc (.cells cs true true es))) ∧ ∀ c ∈ cs, plainV c = true
theorem VRel.plain {E E' : Emb} {v v' : Value} (hp : plainV v = true) (h : VRel E v v') : VRel E' v v' := by
  have h1 : VRel ⟨fun _ => False, E.blk, E.off, E.slk⟩ v v' := VRel.back (E := ⟨fun _ => False, E.blk, E.off, E.slk⟩) (fun o ho => ho.elim) (VRel.ofV _ hp) h
  exact h1.mono (fun o (ho : False) => ho.elim)
theorem getD_mem {cs : List Value} {i : Nat} (hi : i < cs.length) : cs.getD i undef ∈ cs := by
  rw [List.getD_eq_getElem?_getD, List.getElem?_eq_getElem hi]
  exact List.getElem_mem hi
/-- The object has stood in the abstract heap; now it is there. -/
theorem late_add {E E' E0 : Emb} {base N : Nat} {h0 hc : Hp} {w0 w w' : World} {cs : List Value} {es : Nat} (st0 : Step E0 h0 w0 E hc w) (hr : HRel E base hc w.heap) (st : Step E hc w E' (hc.alloc (.cells cs true true es)) w')
    (hr' : HRel E' base (hc.alloc (.cells cs true true es)) w'.heap) (hN : h0.next ≤ N) (hNc : N < hc.next) (hnd : ¬ E.D N) (hg : hc.get N = .cells cs true true es) (hp : ∀ c ∈ cs, plainV c = true) (hM : E'.D hc.next) :
    Step E0 h0 w0 (E.add N (E'.blk hc.next) (E'.off hc.next) (E'.slk hc.next)) hc w' ∧ HRel (E.add N (E'.blk hc.next) (E'.off hc.next) (E'.slk hc.next)) base hc w'.heap := by
  obtain ⟨st1, hr1⟩ := cut_rel hr st hr' (Keeps.alloc hc _)
  have st2 := st0.trans st1
  have hE : ∀ o, E.D o → o ≠ N := fun o ho e => hnd (e ▸ ho)
  have hE' : ∀ o, E.D o → E'.D o ∧ E'.blk o = E.blk o ∧ E'.off o = E.off o ∧ E'.slk o = E.slk o := st.dmono hr.lt
  have hlt := hr.lt
  have hgM : (hc.alloc (.cells cs true true es)).get hc.next = .cells cs true true es := by simp [Hp.alloc]
  have hgo : ∀ o, E.D o → (hc.alloc (.cells cs true true es)).get o = hc.get o := fun o ho => by simp [Hp.alloc, show o ≠ hc.next from Nat.ne_of_lt (hlt o ho)]
  have hne : ∀ o, E.D o → o ≠ hc.next := fun o ho => Nat.ne_of_lt (hlt o ho)
  have hfresh : w.heap.size ≤ E'.blk hc.next := by
    rcases st.own hc.next hM (by rw [hgM]; rfl) with ⟨o0, h1, h2, h3⟩ | h
    · have := hr'.sep hc.next o0 hM (hE' o0 h1).1 (hne o0 h1).symm (by rw [hgM]; rfl) (by rw [hgo o0 h1]; exact AObj.live_of_owned h2)
      rw [(hE' o0 h1).2.1] at this
      exact absurd h3.symm this
    · exact h
  refine ⟨⟨st2.next, fun o ho => ?_, st2.os, st2.tape, st2.output, st2.size, st2.keep, fun o hd ho => ?_⟩, hr1.le, fun o ho => ?_, fun o ho => ?_, fun o o' ho ho' hno h1 h2 => ?_⟩
  · have hoN : o ≠ N := by omega
    obtain ⟨a, b, c, d⟩ := st2.ext o ho
    simp only [Emb.add, hoN, if_false, false_or]
    exact ⟨a, b, c, d⟩
  · by_cases e : o = N
    · right
      simp only [Emb.add, e, if_true]
      exact Nat.le_trans st0.size hfresh
    · simp only [Emb.add, e, false_or] at hd
      simp only [Emb.add, e, if_false]
      exact st2.own o hd ho
  · rcases ho with rfl | ho
    · exact hNc
    · exact hlt o ho
  · by_cases e : o = N
    · subst e
      rw [hg]
      have hobj := hr'.obj hc.next hM
      rw [hgM] at hobj
      obtain ⟨C, ty, fz, k1, k2, k3, k4, k5, k6⟩ := hobj
      refine ⟨C, ty, fz, by simpa [Emb.add] using k1, by simpa [Emb.add] using k2, fun i hi => ?_, k4, by simpa [Emb.add] using k5, by simpa [Emb.add] using k6⟩
      have := k3 i hi
      simp only [Emb.add, if_true]
      exact VRel.plain (hp _ (getD_mem hi)) this
    · have ho' : E.D o := by rcases ho with h | h; exact absurd h e; exact h
      exact (hr1.obj o ho').mono (fun q hq => ⟨.inr hq, by simp [Emb.add, hE q hq], by simp [Emb.add, hE q hq], by simp [Emb.add, hE q hq]⟩) ho' rfl
  · by_cases e : o = N
    · have ho1 : E.D o' := by rcases ho' with h | h; exact absurd (e.trans h.symm) hno; exact h
      have := hr'.sep hc.next o' hM (hE' o' ho1).1 (hne o' ho1).symm (by rw [hgM]; rfl) (by rw [hgo o' ho1]; exact h2)
      simp only [Emb.add, e, if_true, hE o' ho1, if_false]
      rw [← (hE' o' ho1).2.1]; exact this
    · have ho1 : E.D o := by rcases ho with h | h; exact absurd h e; exact h
      by_cases e' : o' = N
      · have := hr'.sep o hc.next (hE' o ho1).1 hM (hne o ho1) (by rw [hgo o ho1]; exact h1) (by rw [hgM]; rfl)
        simp only [Emb.add, e', if_true, e, if_false]
        rw [← (hE' o ho1).2.1]; exact this
      · have ho2 : E.D o' := by rcases ho' with h | h; exact absurd h e'; exact h
        simp only [Emb.add, e, e', if_false]
        exact hr1.sep o o' ho1 ho2 hno h1 h2
theorem late_val {E E' : Emb} {N M k : Nat} {v' : Value} (h : VRel E' (.slice (some ⟨M, 0, none⟩) k k) v') : VRel (E.add N (E'.blk M) (E'.off M) (E'.slk M)) (.slice (some ⟨N, 0, none⟩) k k) v' ∧ E'.D M := by
  cases h with
  | slice _ _ _ _ a hD hn ha =>
    refine ⟨?_, hD⟩
    have := VRel.slice (E := E.add N (E'.blk M) (E'.off M) (E'.slk M)) N 0 k k a (.inl rfl) hn (by simpa [Emb.add] using ha)
    simpa [Emb.add] using this
/-- The trace of a region in the order of the text. -/
structure Tr3 (P : Program) (n : Nat) (ops : Array Oper) (sf ls : List Nat) (F : Nat → Prop) (N0 : Nat) where
  T : Nat → Nat → Value
  H : Nat → Hp
  V : Nat → Value
  dst : ∀ (i : Nat) (o : Oper), ops[i]? = some o → dstOK n o.dst = true ∧ guardOK n ops o = true
  step : ∀ (i : Nat) (o : Oper), ops[i]? = some o → (wantA ops (T i) o = some true ∧ OpOK P o (T i) (H i) (V i) (H (i + 1)) ∧ (hardO sf ls o = false → H (i + 1) = H i ∧ ∀ h, KeepF F (H i) h → OpOK P o (T i) h (V i) h) ∧ KeepF F (H i) (H (i + 1))) ∨ (wantA ops (T i) o = some false ∧ V i = undef ∧ H (i + 1) = H i) ∨
    ∃ j k cs es, litO ls o = some j ∧ j < ls.length ∧ o.guard = none ∧ LitOK P o k cs es ∧ V i = .slice (some ⟨N0 + j, 0, none⟩) k k ∧ (H i).get (N0 + j) = .cells cs true true es ∧ H (i + 1) = H i
  lit : ∀ j, j < ls.length → F (N0 + j)
  lo : N0 + ls.length ≤ (H 0).next
  next : ∀ (i : Nat) (o : Oper), ops[i]? = some o → T (i + 1) = updO (T i) o.dst (V i)
theorem Tr3.fix (t : Tr3 P n ops sf ls F N0) : ∀ i, i ≤ ops.size → ∀ b, F b → (t.H i).get b = (t.H 0).get b
  | 0, _, _, _ => rfl
  | i + 1, hi, b, hb => by
    have ho := Array.getElem?_eq_getElem (show i < ops.size by omega)
    have ih := Tr3.fix t i (by omega) b hb
    rcases t.step i _ ho with ⟨_, _, _, h3⟩ | ⟨_, _, h3⟩ | ⟨_, _, _, _, _, _, _, _, _, _, h3⟩
    · rw [h3 b hb, ih]
    · rw [h3, ih]
    · rw [h3, ih]
theorem Tr3.slot (t : Tr3 P n ops sf ls F N0) (s : Nat) : ∀ i, i ≤ ops.size → (∃ j o, j < i ∧ ops[j]? = some o ∧ o.dst = some s ∧ t.T i s = t.V j ∧ ∀ k o', j < k → k < i → ops[k]? = some o' → o'.dst ≠ some s) ∨
    (t.T i s = t.T 0 s ∧ ∀ k o', k < i → ops[k]? = some o' → o'.dst ≠ some s)
  | 0, _ => .inr ⟨rfl, fun k o' h => absurd h (by omega)⟩
  | i + 1, hi => by
    cases ho : ops[i]? with
    | none => rw [Array.getElem?_eq_getElem (by omega)] at ho; cases ho
    | some o =>
      have hn := t.next i o ho
      by_cases hd : o.dst = some s
      · left
        refine ⟨i, o, by omega, ho, hd, by rw [hn, hd]; simp [updO, upd], fun k o' h1 h2 => absurd h1 (by omega)⟩
      · have hts : t.T (i + 1) s = t.T i s := by
          rw [hn]
          cases hdst : o.dst with
          | none => rfl
          | some d =>
            have : s ≠ d := fun e => hd (by rw [hdst, e])
            simp [updO, upd, this]
        rcases Tr3.slot t s i (by omega) with ⟨j, oj, h1, h2, h3, h4, h5⟩ | ⟨h1, h2⟩
        · left
          refine ⟨j, oj, by omega, h2, h3, by rw [hts, h4], fun k o' hk1 hk2 hk => ?_⟩
          by_cases e : k = i
          · subst e; rw [ho] at hk; cases hk; exact hd
          · exact h5 k o' hk1 (by omega) hk
        · right
          refine ⟨by rw [hts, h1], fun k o' hk1 hk => ?_⟩
          by_cases e : k = i
          · subst e; rw [ho] at hk; cases hk; exact hd
          · exact h2 k o' (by omega) hk

/-- Between operations on memory the heap stays. -/
theorem Tr3.still (t : Tr3 P n ops sf ls F N0) {i : Nat} : ∀ (k : Nat), i ≤ k → k ≤ ops.size → (∀ j o, i ≤ j → j < k → ops[j]? = some o → hardO sf ls o = false) → t.H k = t.H i
  | 0, h, _, _ => by rw [show i = 0 by omega]
  | k + 1, h, hk, hp => by
    by_cases e : i = k + 1
    · rw [e]
    · have ih := Tr3.still t k (by omega) (by omega) (fun j o h1 h2 h3 => hp j o h1 (by omega) h3)
      have ho := Array.getElem?_eq_getElem (show k < ops.size by omega)
      rcases t.step k _ ho with ⟨_, _, h3, _⟩ | ⟨_, _, h3⟩ | ⟨_, _, _, _, _, _, _, _, _, _, h3⟩
      · rw [(h3 (hp k _ (by omega) (by omega) ho)).1, ih]
      · rw [h3, ih]
      · rw [h3, ih]

structure Inv3 (t : Tr3 P n ops sf ls F N0) (h0 : Hp) (E0 : Emb) (base : Nat) (w0 : World) (S : Nat → Bool) (c : Nat) (E : Emb) (w : World) (a : Act) : Prop where
  le : c ≤ ops.size
  mem : ∀ (i : Nat) (o : Oper), ops[i]? = some o → hardO sf ls o = true → (S i = true ↔ i < c)
  step : Step E0 h0 w0 E (t.H c) w
  nx : (t.H 0).next ≤ (t.H c).next
  lit : ∀ (i : Nat) (o : Oper) (j : Nat), S i = false → ops[i]? = some o → litO ls o = some j → ¬ E.D (N0 + j)
  heap : HRel E base (t.H c) w.heap
  tmps : a.tmps.size = n
  defers : a.defers = []
  last : ∀ (s j : Nat) (o : Oper), S j = true → ops[j]? = some o → o.dst = some s → (∀ k o', j < k → S k = true → ops[k]? = some o' → o'.dst ≠ some s) → VRel E (t.V j) (a.tmps.getD s undef)
  none : ∀ (s : Nat), (∀ (k : Nat) (o' : Oper), S k = true → ops[k]? = some o' → o'.dst ≠ some s) → VRel E (t.T 0 s) (a.tmps.getD s undef)

theorem Inv3.next {t : Tr3 P n ops sf ls F N0} {h0 : Hp} {E0 E E' : Emb} {base : Nat} {w0 w w' : World} {S : Nat → Bool} {c c' : Nat} {a : Act} {v' : Value} (inv : Inv3 t h0 E0 base w0 S c E w a) {i : Nat} {o : Oper} (ho : ops[i]? = some o) (hS : S i = false)
    (hdst : dstOK n o.dst = true) (hB : ∀ j oj s, i < j → ops[j]? = some oj → o.dst = some s → oj.dst = some s → S j = false)
    (hc : c' ≤ ops.size) (hm : ∀ k ok, ops[k]? = some ok → hardO sf ls ok = true → ((if k = i then true else S k) = true ↔ k < c'))
    (st : Step E0 h0 w0 E' (t.H c') w') (mono : ∀ v v', VRel E v v' → VRel E' v v') (hnx : (t.H c).next ≤ (t.H c').next) (hlit : ∀ (k : Nat) (ok : Oper) (j : Nat), k ≠ i → S k = false → ops[k]? = some ok → litO ls ok = some j → ¬ E'.D (N0 + j)) (hr : HRel E' base (t.H c') w'.heap) (hv : VRel E' (t.V i) v') : Inv3 t h0 E0 base w0 (fun k => if k = i then true else S k) c' E' w' (a.put o.dst v') where
  le := hc
  mem := hm
  step := st
  nx := Nat.le_trans inv.nx hnx
  lit k ok j hk hok hl := by
    by_cases e : k = i
    · simp [e] at hk
    · exact hlit k ok j e (by simpa [e] using hk) hok hl
  heap := hr
  tmps := by cases hd : o.dst <;> simp [Act.put, inv.tmps]
  defers := by cases hd : o.dst <;> simp [Act.put, inv.defers]
  last s j oj hSj hoj hdj hlast := by
    by_cases hji : j = i
    · subst hji
      rw [ho] at hoj; cases hoj
      have hs : s < n := by rw [hdj] at hdst; simpa [dstOK] using hdst
      have : (a.put o.dst v').tmps.getD s undef = v' := by rw [hdj]; simp [Act.put, inv.tmps, hs]
      rw [this]; exact hv
    · have hSj' : S j = true := by simpa [hji] using hSj
      have hne : o.dst ≠ some s := by
        intro e
        rcases Nat.lt_or_gt_of_ne hji with h4 | h4
        · exact hlast i o h4 (by simp) ho e
        · have := hB j oj s h4 hoj e hdj
          rw [this] at hSj'; cases hSj'
      have : (a.put o.dst v').tmps.getD s undef = a.tmps.getD s undef := by
        cases hd : o.dst with
        | none => rfl
        | some d =>
          have hds : d ≠ s := fun e => hne (by rw [hd, e])
          simp only [Act.put]
          rw [Array.getD_eq_getD_getElem?, Array.getD_eq_getD_getElem?, Array.getElem?_setIfInBounds_ne hds]
      rw [this]
      exact mono _ _ (inv.last s j oj hSj' hoj hdj (fun k ok h1 h3 h4 => hlast k ok h1 (by simp only [h3]; split <;> rfl) h4))
  none s hnone := by
    have hne : o.dst ≠ some s := hnone i o (by simp) ho
    have : (a.put o.dst v').tmps.getD s undef = a.tmps.getD s undef := by
      cases hd : o.dst with
      | none => rfl
      | some d =>
        have hds : d ≠ s := fun e => hne (by rw [hd, e])
        simp only [Act.put]
        rw [Array.getD_eq_getD_getElem?, Array.getD_eq_getD_getElem?, Array.getElem?_setIfInBounds_ne hds]
    rw [this]
    exact mono _ _ (inv.none s (fun k ok h3 h4 => hnone k ok (by simp only [h3]; split <;> rfl) h4))

theorem Inv3.operand {t : Tr3 P n ops sf ls F N0} {h0 : Hp} {E0 E : Emb} {base : Nat} {w0 w : World} {S : Nat → Bool} {c : Nat} {a : Act} (inv : Inv3 t h0 E0 base w0 S c E w a) {i s : Nat} (hi : i < ops.size) (hS : S i = false)
    (hw : ∀ j oj, j ≠ i → ops[j]? = some oj → oj.dst = some s → (j < i → S j = true) ∧ (i < j → S j = false)) : VRel E (t.T i s) (a.tmps.getD s undef) := by
  rcases t.slot s i (by omega) with ⟨j, oj, h1, h2, h3, h4, h5⟩ | ⟨h1, h2⟩
  · rw [h4]
    refine inv.last s j oj ((hw j oj (by omega) h2 h3).1 h1) h2 h3 (fun k ok k1 k3 k4 k5 => ?_)
    rcases Nat.lt_trichotomy k i with h | h | h
    · exact h5 k ok k1 h k4 k5
    · subst h; rw [hS] at k3; cases k3
    · have := (hw k ok (by omega) k4 k5).2 h
      rw [this] at k3; cases k3
  · rw [h1]
    refine inv.none s (fun k ok k3 k4 k5 => ?_)
    rcases Nat.lt_trichotomy k i with h | h | h
    · exact h2 k ok h k4 k5
    · subst h; rw [hS] at k3; cases k3
    · have := (hw k ok (by omega) k4 k5).2 h
      rw [this] at k3; cases k3

theorem lsIdx_lt : ∀ {ls : List Nat} {d j : Nat}, lsIdx ls d = some j → j < ls.length
  | [], _, _, h => by cases h
  | a :: l, d, j, h => by
    unfold lsIdx at h
    split at h
    · simp only [Option.some.injEq] at h; subst h; simp
    · cases hl : lsIdx l d with
      | none => rw [hl] at h; cases h
      | some q => rw [hl] at h; simp only [Option.map_some, Option.some.injEq] at h; subst h; have := lsIdx_lt hl; simp; omega
theorem litO_lt {ls : List Nat} {o : Oper} {j : Nat} (h : litO ls o = some j) : j < ls.length := by
  unfold litO at h
  split at h
  · exact lsIdx_lt h
  · cases h

theorem any_soft {Q : Exit → Act → World → Prop} (t : Tr3 P n ops sf ls F N0) {h0 : Hp} (hN0 : h0.next ≤ N0) (hd : drawOK ops ops.size = true) (hch : chainS sf ls ops = true) {E0 : Emb} {base : Nat} {w0 : World}
    (hend : ∀ E w a, Step E0 h0 w0 E (t.H ops.size) w → HRel E base (t.H ops.size) w.heap → TRel E n (t.T ops.size) a → Q .normal a w) :
    ∀ (k : Nat) (l : Array Bool) (c : Nat) (E : Emb) (w : World) (a : Act), l.size = ops.size → cntF (fun k => l.getD k false) ops.size = k → Closed ops l →
      Inv3 t h0 E0 base w0 (fun k => l.getD k false) c E w a → wpAny P .any ops Q k l a w
  | 0, l, c, E, w, a, hs, hc, hcl, inv => by
    have hall := cntF_zero hc
    simp only [wpAny]
    refine ⟨?_, ?_⟩
    · apply List.eq_nil_iff_forall_not_mem.2
      intro i hi
      obtain ⟨h1, h2, _⟩ := ready_spec hs hi
      have := hall i h1
      rw [this] at h2; cases h2
    · have hcc : ∀ j o, c ≤ j → j < ops.size → ops[j]? = some o → hardO sf ls o = false := fun j o h1 h2 ho => by
        cases hp : hardO sf ls o with
        | false => rfl
        | true => have := (inv.mem j o ho hp).1 (hall j h2); omega
      have hH := t.still ops.size inv.le (Nat.le_refl _) hcc
      refine hend E w a (by rw [hH]; exact inv.step) (by rw [hH]; exact inv.heap) ⟨inv.tmps, fun s => ?_, inv.defers⟩
      rcases t.slot s ops.size (Nat.le_refl _) with ⟨j, oj, g1, g2, g3, g4, g5⟩ | ⟨g1, g2⟩
      · rw [g4]
        exact inv.last s j oj (hall j g1) g2 g3 (fun k ok k1 _ k4 => g5 k ok k1 (Array.getElem?_eq_some_iff.1 k4).1 k4)
      · rw [g1]
        exact inv.none s (fun k ok _ k4 => g2 k ok (Array.getElem?_eq_some_iff.1 k4).1 k4)
  | k + 1, l, c, E, w, a, hs, hc, hcl, inv => by
    obtain ⟨h1, h2, h3, _⟩ := drawOK_spec hd
    obtain ⟨i0, i1, i2, i3⟩ := cntF_pos (f := fun k => l.getD k false) (m := ops.size) (by omega)
    simp only [wpAny]
    refine ⟨fun h => ?_, fun i hi => ?_⟩
    · have := ready_mk (l := l) h2 hs i1 i2 i3
      rw [h] at this; cases this
    · obtain ⟨r1, r2, r3⟩ := ready_spec hs hi
      have ho := Array.getElem?_eq_getElem r1
      generalize hov : ops[i] = o at ho
      have hlook : ∀ s, (o.looksAt ops).contains s = true → ∀ j oj, j ≠ i → ops[j]? = some oj → oj.dst = some s → (j < i → l.getD j false = true) ∧ (i < j → l.getD j false = false) := by
        intro s hcs j oj hne hoj hds
        have hj : j < ops.size := (Array.getElem?_eq_some_iff.1 hoj).1
        have h5 := (h3 i j o oj s r1 hj (fun e => hne e.symm) ho hoj hds).1 hcs
        refine ⟨fun hlt => ?_, fun hlt => ?_⟩
        · rw [if_pos hlt] at h5; exact r3 j h5
        · rw [if_neg (by omega)] at h5
          cases hlj : l.getD j false with
          | false => rfl
          | true => have := hcl j i hlj h5; rw [r2] at this; cases this
      have hval : ∀ s, (o.looksAt ops).contains s = true → VRel E (t.T i s) (a.tmps.getD s undef) := fun s hcs => inv.operand r1 r2 (hlook s hcs)
      have hB : ∀ j oj s, i < j → ops[j]? = some oj → o.dst = some s → oj.dst = some s → l.getD j false = false := by
        intro j oj s hlt hoj hds hds'
        have hj : j < ops.size := (Array.getElem?_eq_some_iff.1 hoj).1
        have h5 := (h3 i j o oj s r1 hj (by omega) ho hoj hds').2 hds hlt
        cases hlj : l.getD j false with
        | false => rfl
        | true => have := hcl j i hlj h5; rw [r2] at this; cases this
      obtain ⟨d1, d2⟩ := t.dst i o ho
      have hcnt : cntF (fun k => (l.setIfInBounds i true).getD k false) ops.size = k := by
        have := cntF_set (f := fun k => l.getD k false) (g := fun k => (l.setIfInBounds i true).getD k false) r1 r2 (fun k => getD_set (by omega) k)
        omega
      have hcl' : Closed ops (l.setIfInBounds i true) := by
        intro x y hx hxy
        rw [getD_set (by omega)] at hx ⊢
        by_cases e : x = i
        · subst e; split
          · rfl
          · exact r3 y hxy
        · rw [if_neg e] at hx
          split
          · rfl
          · exact hcl x y hx hxy
      have cont : ∀ c' E' w' v', c' ≤ ops.size → (∀ k ok, ops[k]? = some ok → hardO sf ls ok = true → ((if k = i then true else l.getD k false) = true ↔ k < c')) → Step E (t.H c) w E' (t.H c') w' → HRel E' base (t.H c') w'.heap → VRel E' (t.V i) v' → wpAny P .any ops Q k (l.setIfInBounds i true) (a.put o.dst v') w' := by
        intro c' E' w' v' hc' hm' st hr hv
        have inv' := inv.next (v' := v') ho r2 d1 hB hc' hm' (inv.step.trans st) (fun _ _ h => st.vrel inv.heap h) st.next (fun k ok j _ hk hok hl hD => by
          have hj := litO_lt hl
          have := t.lo
          have := inv.nx
          exact inv.lit k ok j hk hok hl (((st.ext (N0 + j) (by omega)).1).1 hD)) hr hv
        refine any_soft t hN0 hd hch hend k _ c' E' w' _ (by simp [hs]) hcnt hcl' ?_
        have e : (fun k => (l.setIfInBounds i true).getD k false) = fun k => if k = i then true else l.getD k false := funext fun k => getD_set (by omega) k
        rw [e]; exact inv'
      -- the guard
      have hwant : ∀ b, wantA ops (t.T i) o = some b → Region.wanted o (yielded ops a.tmps) = b := by
        intro b hb
        unfold wantA at hb
        unfold Region.wanted
        split at hb
        · rename_i hgd; simp only [Option.some.injEq] at hb; subst hb; rw [hgd]
        · rename_i j want hgd
          rw [hgd]
          split at hb
          · rename_i d hdd
            split at hb
            · rename_i bb hbb
              simp only [Option.some.injEq] at hb
              subst hb
              have hlt := guardOK_spec d2 j want d hgd hdd
              have hcs : (o.looksAt ops).contains d = true := by simp [Oper.looksAt, hgd, hdd]
              have hrr := hval d hcs
              rw [hbb] at hrr
              obtain ⟨z, hz, hz'⟩ := getD_some (c := a.tmps) (i := d) (by rw [inv.tmps]; exact hlt)
              have hz2 : z = .bool bb := by rw [← hz']; exact hrr.inv_bool
              subst hz2
              simp only [yielded, hdd, Option.bind_some, hz]
              cases bb <;> cases want <;> rfl
            · rename_i bb hbb
              simp only [Option.some.injEq] at hb
              subst hb
              have hlt := guardOK_spec d2 j want d hgd hdd
              have hcs : (o.looksAt ops).contains d = true := by simp [Oper.looksAt, hgd, hdd]
              have hrr := hval d hcs
              rw [hbb] at hrr
              obtain ⟨z, hz, hz'⟩ := getD_some (c := a.tmps) (i := d) (by rw [inv.tmps]; exact hlt)
              obtain ⟨c', hc'⟩ := hrr.inv_tuple
              have hz2 : z = .tuple c' := by rw [← hz']; exact hc'
              subst hz2
              simp only [yielded, hdd, Option.bind_some, hz]
              cases want <;> rfl
            · cases hb
          · cases hb
      have hops : ∀ s, Operand.tmp s ∈ o.op.operands → VRel E (t.T i s) (a.tmps.getD s undef) := fun s hsm => hval s (by
        simp only [Oper.looksAt, List.contains_eq_mem, List.mem_append, decide_eq_true_eq]
        left
        exact List.mem_filterMap.2 ⟨.tmp s, by simpa using hsm, rfl⟩)
      -- where the heap stands
      cases hp : hardO sf ls o with
      | false =>
        have hm' : ∀ k ok, ops[k]? = some ok → hardO sf ls ok = true → ((if k = i then true else l.getD k false) = true ↔ k < c) := fun k ok hk hpk => by
          by_cases e : k = i
          · subst e; rw [ho] at hk; cases hk; rw [hp] at hpk; cases hpk
          · rw [if_neg e]; exact inv.mem k ok hk hpk
        unfold wpOp
        simp only [ho]
        rcases t.step i o ho with ⟨g1, _, g2⟩ | ⟨g1, g2, g3⟩ | ⟨j, kk, cs, es, g1, g2, g3, g4, g5, g6, g7⟩
        · rw [hwant true g1, if_pos rfl]
          left
          exact (g2.1 hp).2 (t.H c) (fun b hb => (t.fix c inv.le b hb).trans (t.fix i (by omega) b hb).symm) E base w a _ Q inv.heap hops (fun E' w' v' st hr hv => cont c E' w' v' inv.le hm' st hr hv)
        · rw [hwant false g1, if_neg (by simp)]
          refine cont c E w undef inv.le hm' (Step.refl _ _ _) inv.heap ?_
          rw [g2]; exact VRel.undef _
        · have hw : Region.wanted o (yielded ops a.tmps) = true := by unfold Region.wanted; rw [g3]
          rw [hw, if_pos rfl]
          left
          have hlo := t.lo
          have hnx := inv.nx
          have hFj := t.lit j g2
          have hget : (t.H c).get (N0 + j) = .cells cs true true es := by rw [t.fix c inv.le _ hFj, ← t.fix i (by omega) _ hFj, g6]
          refine g4.1 (t.T i) (t.H c) E base w a _ Q inv.heap hops (fun E' w' v' st hr hv => ?_)
          obtain ⟨hv2, hM⟩ := late_val (E := E) (N := N0 + j) hv
          obtain ⟨st2, hr2⟩ := late_add inv.step inv.heap st hr (by omega) (by omega) (inv.lit i o j r2 ho g1) hget g4.2 hM
          have inv' := inv.next (v' := v') ho r2 d1 hB inv.le hm' st2 (fun _ _ h => h.mono fun q hq => by
            have hqN : q ≠ N0 + j := fun e => inv.lit i o j r2 ho g1 (e ▸ hq)
            exact ⟨.inr hq, by simp [Emb.add, hqN], by simp [Emb.add, hqN], by simp [Emb.add, hqN]⟩) (Nat.le_refl _) (fun k ok j' hki hk hok hl hD => by
            rcases hD with e | hD
            · have : j' = j := by omega
              subst this
              exact hki (chainS_lit hch hok ho hl g1)
            · exact inv.lit k ok j' hk hok hl hD) hr2 (by rw [g5]; exact hv2)
          refine any_soft t hN0 hd hch hend k _ c (E.add (N0 + j) (E'.blk (t.H c).next) (E'.off (t.H c).next) (E'.slk (t.H c).next)) w' _ (by simp [hs]) hcnt hcl' ?_
          have e : (fun k => (l.setIfInBounds i true).getD k false) = fun k => if k = i then true else l.getD k false := funext fun k => getD_set (by omega) k
          rw [e]; exact inv'
      | true =>
        have hci : c ≤ i := by
          apply Nat.le_of_not_lt
          intro hlt
          have := (inv.mem i o ho hp).2 hlt
          rw [r2] at this; cases this
        have hbet : ∀ j oj, c ≤ j → j < i → ops[j]? = some oj → hardO sf ls oj = false := fun j oj q1 q2 hoj => by
          cases hpj : hardO sf ls oj with
          | false => rfl
          | true =>
            have := tcl_done hcl 8 i j (chainS_spec hch ho hoj hp hpj q2) r3
            have := (inv.mem j oj hoj hpj).1 this
            omega
        have hH := t.still i hci (by omega) hbet
        have hm' : ∀ k ok, ops[k]? = some ok → hardO sf ls ok = true → ((if k = i then true else l.getD k false) = true ↔ k < i + 1) := fun k ok hk hpk => by
          by_cases e : k = i
          · subst e; simp
          · rw [if_neg e]
            have hmk := inv.mem k ok hk hpk
            constructor
            · intro hl; have := hmk.1 hl; omega
            · intro hlt
              exact tcl_done hcl 8 i k (chainS_spec hch ho hk hp hpk (by omega)) r3
        unfold wpOp
        simp only [ho]
        rcases t.step i o ho with ⟨g1, g2, _⟩ | ⟨g1, g2, g3⟩ | ⟨j, kk, cs, es, g1, g2, g3, g4, g5, g6, g7⟩
        · rw [hwant true g1, if_pos rfl]
          left
          rw [hH] at g2
          exact g2 E base w a _ Q inv.heap hops (fun E' w' v' st hr hv => cont (i + 1) E' w' v' (by omega) hm' st hr hv)
        · rw [hwant false g1, if_neg (by simp)]
          rw [hH] at g3
          refine cont (i + 1) E w undef (by omega) hm' ?_ ?_ ?_
          · rw [g3]; exact Step.refl _ _ _
          · rw [g3]; exact inv.heap
          · rw [g2]; exact VRel.undef _
        · simp [hardO, g1] at hp


/-- An operation by computation. -/
def OpD (P : Program) (o : Oper) (tm : Nat → Value) (h : Hp) (v : Value) (h' : Hp) : Prop := match o.op with
  | .call ⟨.value fx, xs, _⟩ => okX fx = true ∧ xs.all okX = true ∧ match ev tm fx with
      | .func (.func f) fst cap => fnOK P f = true ∧ CallOK P f (fst ++ xs.map (ev tm) ++ cap) h v h'
      | _ => False
  | op => opD P op tm h = some (v, h')
def oblO (sf : List Nat) (F : Nat → Prop) (o : Oper) (tm : Nat → Value) : Prop := match o.op, o.dst with
  | .load _ x, some d => sfHas sf d = true → inF F (ev tm x)
  | _, _ => True
/-- The objects of the literals. -/
def litF : List Nat → Nat → Nat → Prop
  | [], _, _ => False
  | _ :: l, N, b => b = N ∨ litF l (N + 1) b
theorem litF_mem : ∀ (ls : List Nat) (N j : Nat), j < ls.length → litF ls N (N + j)
  | [], _, _, h => absurd h (by simp)
  | _ :: l, N, 0, _ => .inl rfl
  | _ :: l, N, j + 1, h => .inr (by rw [show N + (j + 1) = N + 1 + j by omega]; exact litF_mem l (N + 1) j (by simpa using h))
def litP (P : Program) (o : Oper) (k : Nat) (cs : List Value) (es : Nat) : Prop := match o.op with
  | .buildSlice t k' parts => k' = k ∧ constL parts.toList = true ∧ litC P t k' parts = some (cs, es) ∧ ∀ c ∈ cs, plainV c = true
  | _ => False
theorem litP.ok {o : Oper} {k : Nat} {cs : List Value} {es : Nat} (h : litP P o k cs es) : LitOK P o k cs es := by
  unfold litP at h
  split at h
  · rename_i t k' parts hop
    obtain ⟨rfl, h2, h3, h4⟩ := h
    refine ⟨fun tm hp => opD_sound ?_, h4⟩
    rw [hop, litC_op h2, h3]
    rfl
  · cases h
/-- The operations of a drawn region, by computation. -/
def SrC (P : Program) (n : Nat) (ops : Array Oper) (sf ls : List Nat) (F : Nat → Prop) (N0 : Nat) : List Oper → ((Nat → Value) → Hp → Prop) → (Nat → Value) → Hp → Prop
  | [], R, tm, h => R tm h
  | o :: l, R, tm, h => dstOK n o.dst = true ∧ guardOK n ops o = true ∧ match litO ls o with
    | some j => o.guard = none ∧ ∃ k cs es, litP P o k cs es ∧ h.get (N0 + j) = .cells cs true true es ∧ SrC P n ops sf ls F N0 l R (updO tm o.dst (.slice (some ⟨N0 + j, 0, none⟩) k k)) h
    | none => match wantA ops tm o with
      | none => False
      | some false => SrC P n ops sf ls F N0 l R (updO tm o.dst undef) h
      | some true => ∃ v h', OpD P o tm h v h' ∧ KeepF F h h' ∧ oblO sf F o tm ∧ SrC P n ops sf ls F N0 l R (updO tm o.dst v) h'
theorem opD_ok {o : Oper} {tm : Nat → Value} {h h' : Hp} {v : Value} (hln : litO ls o = none) (hd : OpD P o tm h v h') (hb : oblO sf F o tm) : OpOK P o tm h v h' ∧ (hardO sf ls o = false → h' = h ∧ ∀ h2, KeepF F h h2 → OpOK P o tm h2 v h2) := by
  unfold OpD at hd
  split at hd
  · rename_i fx xs ts hop
    obtain ⟨k1, k2, k3⟩ := hd
    split at k3
    rotate_left
    · cases k3
    rename_i f fst cap hfx
    exact ⟨ok_call hop hfx k1 k2 k3.1 k3.2, fun hp => by simp [hardO, hop, pureOp, softL, hln] at hp⟩
  · refine ⟨opD_sound hd, fun hp => ?_⟩
    by_cases hpu : pureOp o.op = true
    · obtain ⟨e, hall⟩ := opD_pure hpu hd
      exact ⟨e, fun h2 _ => opD_sound (hall h2)⟩
    · have hs : softL sf o = true := by simpa [hardO, hpu, hln] using hp
      unfold softL at hs
      split at hs
      · rename_i t x d hop hdst
        simp only [oblO, hop, hdst] at hb
        have hin := hb hs
        rw [hop] at hd
        have key : ∀ h2, opD P (.load t x) tm h2 = if okX x then match ev tm x with
            | .pointer (some ⟨p, i, none⟩) => (loadD P t i (h2.get p)).map fun v => (v, h2)
            | _ => none
          else none := fun _ => rfl
        rw [key] at hd
        split at hd
        · rename_i hok
          split at hd
          · rename_i p i hev
            rw [hev] at hin
            cases hl : loadD P t i (h.get p) with
            | none => rw [hl] at hd; cases hd
            | some u =>
              rw [hl] at hd
              simp only [Option.map_some, Option.some.injEq, Prod.mk.injEq] at hd
              obtain ⟨rfl, rfl⟩ := hd
              refine ⟨rfl, fun h2 hk => opD_sound ?_⟩
              rw [hop, key, if_pos hok, hev]
              show (loadD P t i (h2.get p)).map _ = _
              rw [hk p hin, hl]
              rfl
          · cases hd
        · cases hd
      · cases hs
theorem srC_trace {R : (Nat → Value) → Hp → Prop} : ∀ (l : List Oper) (tm : Nat → Value) (h : Hp), SrC P n ops sf ls F N0 l R tm h →
    ∃ (T : Nat → Nat → Value) (H : Nat → Hp) (V : Nat → Value), T 0 = tm ∧ H 0 = h ∧ R (T l.length) (H l.length) ∧
      ∀ i o, l[i]? = some o → (dstOK n o.dst = true ∧ guardOK n ops o = true) ∧
        ((wantA ops (T i) o = some true ∧ OpOK P o (T i) (H i) (V i) (H (i + 1)) ∧ (hardO sf ls o = false → H (i + 1) = H i ∧ ∀ h, KeepF F (H i) h → OpOK P o (T i) h (V i) h) ∧ KeepF F (H i) (H (i + 1))) ∨ (wantA ops (T i) o = some false ∧ V i = undef ∧ H (i + 1) = H i) ∨
          ∃ j k cs es, litO ls o = some j ∧ j < ls.length ∧ o.guard = none ∧ LitOK P o k cs es ∧ V i = .slice (some ⟨N0 + j, 0, none⟩) k k ∧ (H i).get (N0 + j) = .cells cs true true es ∧ H (i + 1) = H i) ∧
        T (i + 1) = updO (T i) o.dst (V i)
  | [], tm, h, hq => ⟨fun _ => tm, fun _ => h, fun _ => undef, rfl, rfl, hq, fun i o ho => by simp at ho⟩
  | o :: rest, tm, h, hq => by
    obtain ⟨h1, h2, h3⟩ := hq
    have shift : ∀ (v : Value) (h' : Hp), SrC P n ops sf ls F N0 rest R (updO tm o.dst v) h' → ((wantA ops tm o = some true ∧ OpOK P o tm h v h' ∧ (hardO sf ls o = false → h' = h ∧ ∀ h2, KeepF F h h2 → OpOK P o tm h2 v h2) ∧ KeepF F h h') ∨ (wantA ops tm o = some false ∧ v = undef ∧ h' = h) ∨
        ∃ j k cs es, litO ls o = some j ∧ j < ls.length ∧ o.guard = none ∧ LitOK P o k cs es ∧ v = .slice (some ⟨N0 + j, 0, none⟩) k k ∧ h.get (N0 + j) = .cells cs true true es ∧ h' = h) →
        ∃ (T : Nat → Nat → Value) (H : Nat → Hp) (V : Nat → Value), T 0 = tm ∧ H 0 = h ∧ R (T (o :: rest).length) (H (o :: rest).length) ∧
          ∀ i q, (o :: rest)[i]? = some q → (dstOK n q.dst = true ∧ guardOK n ops q = true) ∧
            ((wantA ops (T i) q = some true ∧ OpOK P q (T i) (H i) (V i) (H (i + 1)) ∧ (hardO sf ls q = false → H (i + 1) = H i ∧ ∀ h, KeepF F (H i) h → OpOK P q (T i) h (V i) h) ∧ KeepF F (H i) (H (i + 1))) ∨ (wantA ops (T i) q = some false ∧ V i = undef ∧ H (i + 1) = H i) ∨
              ∃ j k cs es, litO ls q = some j ∧ j < ls.length ∧ q.guard = none ∧ LitOK P q k cs es ∧ V i = .slice (some ⟨N0 + j, 0, none⟩) k k ∧ (H i).get (N0 + j) = .cells cs true true es ∧ H (i + 1) = H i) ∧
            T (i + 1) = updO (T i) q.dst (V i) := by
      intro v h' hp hs
      obtain ⟨T, H, V, e1, e2, hR, hi⟩ := srC_trace rest _ _ hp
      refine ⟨fun k => match k with | 0 => tm | k + 1 => T k, fun k => match k with | 0 => h | k + 1 => H k, fun k => match k with | 0 => v | k + 1 => V k, rfl, rfl, hR, fun i q hq => ?_⟩
      cases i with
      | zero =>
        simp only [List.getElem?_cons_zero, Option.some.injEq] at hq
        subst hq
        simp only [e1, e2]
        exact ⟨⟨h1, h2⟩, hs, trivial⟩
      | succ i =>
        simp only [List.getElem?_cons_succ] at hq
        exact hi i q hq
    cases hl : litO ls o with
    | some j =>
      rw [hl] at h3
      obtain ⟨hg, k, cs, es, k1, k2, k3⟩ := h3
      exact shift _ h k3 (.inr (.inr ⟨j, k, cs, es, hl, litO_lt hl, hg, k1.ok, rfl, k2, rfl⟩))
    | none =>
      rw [hl] at h3
      cases hw : wantA ops tm o with
      | none => rw [hw] at h3; exact h3.elim
      | some b =>
        rw [hw] at h3
        cases b with
        | false => exact shift undef h h3 (.inr (.inl ⟨hw, rfl, rfl⟩))
        | true =>
          obtain ⟨v, h', k1, k2, k3, k4⟩ := h3
          have hk := opD_ok hl k1 k3
          exact shift v h' k4 (.inl ⟨hw, hk.1, hk.2, k2⟩)
theorem runs_soft {id : Nat} {Q : Exit → (Nat → Value) → Hp → Prop} {tm : Nat → Value} {h hL : Hp} (hm : P.follows .mixedOrders = true) (hd : drawOK ops ops.size = true) (hch : chainS sf ls ops = true) (hk : Keeps h hL) (hlo : h.next + ls.length ≤ hL.next) (hF : ∀ j, j < ls.length → F (h.next + j))
    (hq : SrC P n ops sf ls F h.next ops.toList (Q .normal) tm hL) : Runs P n (.region id ops true) Q tm h := by
  obtain ⟨T, H, V, e1, e2, hR, hi⟩ := srC_trace _ _ _ hq
  rw [Array.length_toList] at hR
  let t : Tr3 P n ops sf ls F h.next :=
    { T := T, H := H, V := V
      dst := fun i o ho => (hi i o (by simpa using ho)).1
      step := fun i o ho => (hi i o (by simpa using ho)).2.1
      lit := hF
      lo := by show h.next + ls.length ≤ (H 0).next; rw [e2]; exact hlo
      next := fun i o ho => (hi i o (by simpa using ho)).2.2 }
  refine ⟨.normal, T ops.size, H ops.size, fun E base w a hr ht => wp_region_any hm ?_, hR⟩
  have hfalse : ∀ k, (Array.replicate ops.size false).getD k false = false := fun k => by
    rw [Array.getD_eq_getD_getElem?, Array.getElem?_replicate]; split <;> rfl
  have hinit : Inv3 t h E base w (fun k => (Array.replicate ops.size false).getD k false) 0 E { w with drawn := w.drawn + 1 } a := by
    refine ⟨Nat.zero_le _, fun i o _ _ => ?_, ?_, Nat.le_refl _, fun i o j _ _ hl hD => ?_, ?_, ht.size, ht.defers, fun s j o hS => ?_, fun s _ => ?_⟩
    · rw [hfalse]; simp
    · show Step E h w E (H 0) _
      rw [e2]
      exact ⟨hk.1, fun _ _ => ⟨Iff.rfl, rfl, rfl, rfl⟩, rfl, rfl, ⟨rfl, Nat.le_succ _⟩, Nat.le_refl _, fun _ _ _ => rfl, fun o hd ho => .inl ⟨o, hd, by rw [hk.2 o (hr.lt o hd)] at ho; exact ho, rfl⟩⟩
    · have := hr.lt _ hD
      omega
    · show HRel E base (H 0) w.heap
      rw [e2]
      exact ⟨hr.le, fun o ho => Nat.lt_of_lt_of_le (hr.lt o ho) hk.1, fun o ho => by rw [hk.2 o (hr.lt o ho)]; exact hr.obj o ho, fun o o' ho ho' hne h1 h2 => hr.sep o o' ho ho' hne (by rwa [hk.2 o (hr.lt o ho)] at h1) (by rwa [hk.2 o' (hr.lt o' ho')] at h2)⟩
    · rw [hfalse] at hS; cases hS
    · show VRel E (T 0 s) _
      rw [e1]; exact ht.rel s
  have hcnt : cntF (fun k => (Array.replicate ops.size false).getD k false) ops.size = ops.size := by
    have : ∀ m, cntF (fun k => (Array.replicate ops.size false).getD k false) m = m := by
      intro m
      induction m with
      | zero => rfl
      | succ m ih =>
        show cntF _ m + (if (Array.replicate ops.size false).getD m false = true then 0 else 1) = m + 1
        rw [ih, hfalse]; simp
    exact this ops.size
  refine any_soft (Q := fun ex a' w' => ex = .normal ∧ ∃ E', Step E h w E' (H ops.size) w' ∧ HRel E' base (H ops.size) w'.heap ∧ TRel E' n (T ops.size) a') t (h0 := h) (Nat.le_refl _) hd hch (E0 := E) (base := base) (w0 := w) ?_ ops.size (Array.replicate ops.size false) 0 E { w with drawn := w.drawn + 1 } a (by simp) hcnt (fun i j hi => by rw [hfalse] at hi; cases hi) hinit
  intro E1 w1 a1 st hr1 ht1
  exact ⟨rfl, E1, st, hr1, ht1⟩
end
section
variable {P : Program} {n : Nat} {tm : Nat → Value} {h : Hp} {Q : Exit → (Nat → Value) → Hp → Prop} {R : (Nat → Value) → Hp → Prop} {sf ls : List Nat} {F : Nat → Prop} {N0 : Nat}
variable {ops : Array Oper} {L : List Oper} {op : Op} {ty : TypeId} {pos : String} {aft : Array Edge} {l : List Oper} {d j p : Nat} {w : Bool}
def SY (P : Program) (n : Nat) (ops : Array Oper) (sf ls : List Nat) (F : Nat → Prop) (N0 : Nat) (l : List Oper) (R : (Nat → Value) → Hp → Prop) (_ : Wit (ops, F, l, R)) (tm : Nat → Value) (h : Hp) : Prop := SrC P n ops sf ls F N0 l R tm h
def allocL (h : Hp) : List (List Value × Nat) → Hp
  | [] => h
  | x :: l => allocL (h.alloc (.cells x.1 true true x.2)) l
@[simp] theorem allocL_n (h : Hp) : allocL h [] = h := rfl
@[simp] theorem allocL_c (h : Hp) (x : List Value × Nat) (l : List (List Value × Nat)) : allocL h (x :: l) = allocL (h.alloc (.cells x.1 true true x.2)) l := rfl
theorem allocL_keeps : ∀ (l : List (List Value × Nat)) (h : Hp), Adds h (allocL h l) ∧ (allocL h l).next = h.next + l.length
  | [], h => ⟨Adds.refl h, rfl⟩
  | x :: l, h => by
    obtain ⟨k1, k2⟩ := allocL_keeps l (h.alloc (.cells x.1 true true x.2))
    refine ⟨(Adds.alloc h (fun _ => rfl)).trans k1, ?_⟩
    rw [allocL_c, k2]
    simp [Hp.alloc]; omega
theorem WD_softC (sf ls : List Nat) (xs : List (List Value × Nat)) (F : Nat → Prop) {id : Nat} (hm : P.follows .mixedOrders = true) (hd : drawOK (List.toArray l) (List.toArray l).size = true) (hch : chainS sf ls (List.toArray l) = true) (hx : ls.length = xs.length) {z : Wit _}
    (hr : SY P n (List.toArray l) sf ls (fun b => F b ∨ litF ls h.next b) h.next l (Q .normal) ⟨⟩ tm (allocL h xs)) : WY P n (.region id (List.toArray l) true) Q z tm h :=
  runs_soft (sf := sf) (ls := ls) (F := fun b => F b ∨ litF ls h.next b) hm hd hch (allocL_keeps xs h).1.1 (by rw [(allocL_keeps xs h).2, hx]; exact Nat.le_refl _) (fun j hj => .inr (litF_mem ls h.next j hj)) hr
@[simp] theorem litF_n (N b : Nat) : litF [] N b = False := rfl
@[simp] theorem litF_c (a : Nat) (l : List Nat) (N b : Nat) : litF (a :: l) N b = (b = N ∨ litF l (N + 1) b) := rfl
@[simp] theorem constL_n : constL [] = true := rfl
@[simp] theorem constL_c (i : Nat) (v : Value) (l : List (Nat × Operand)) : constL ((i, .const v) :: l) = constL l := rfl
@[simp] theorem lsIdx_n (d : Nat) : lsIdx [] d = none := rfl
@[simp] theorem lsIdx_c (a : Nat) (l : List Nat) (d : Nat) : lsIdx (a :: l) d = if a = d then some 0 else (lsIdx l d).map (· + 1) := rfl
@[simp] theorem sfHas_n (d : Nat) : sfHas [] d = false := rfl
@[simp] theorem sfHas_c (a : Nat) (l : List Nat) (d : Nat) : sfHas (a :: l) d = (decide (a = d) || sfHas l d) := rfl
@[simp] theorem inF_p (b i : Nat) : inF F (.pointer (some ⟨b, i, none⟩)) = F b := rfl
@[simp] theorem keepF_self : KeepF F h h = True := eq_true fun _ _ => rfl
@[simp] theorem keepF_put (o : Nat) (x : AObj) (ho : ¬ F o) : KeepF F h (h.put o x) = True := eq_true fun b hb => by simp [Hp.put, show b ≠ o from fun e => ho (e ▸ hb)]
@[simp] theorem keepF_alloc (x : AObj) (ho : ¬ F h.next) : KeepF F h (h.alloc x) = True := eq_true fun b hb => by simp [Hp.alloc, show b ≠ h.next from fun e => ho (e ▸ hb)]
@[simp ↓] theorem srC_nil {z : Wit _} : SY P n ops sf ls F N0 [] R z tm h = R tm h := rfl
def srK (P : Program) (n : Nat) (ops : Array Oper) (sf ls : List Nat) (F : Nat → Prop) (N0 : Nat) (l : List Oper) (R : (Nat → Value) → Hp → Prop) (tm : Nat → Value) (d : Nat) (h : Hp) : Value → Hp → Prop := fun v h' => KeepF F h h' ∧ SY P n ops sf ls F N0 l R ⟨⟩ (upd tm d v) h'
def srS (P : Program) (n : Nat) (ops : Array Oper) (sf ls : List Nat) (F : Nat → Prop) (N0 : Nat) (l : List Oper) (R : (Nat → Value) → Hp → Prop) (tm : Nat → Value) (h : Hp) : Value → Hp → Prop := fun _ h' => KeepF F h h' ∧ SY P n ops sf ls F N0 l R ⟨⟩ tm h'
@[simp ↓] theorem srK_app (v : Value) (h' : Hp) : srK P n ops sf ls F N0 l R tm d h v h' = (KeepF F h h' ∧ SY P n ops sf ls F N0 l R ⟨⟩ (upd tm d v) h') := rfl
@[simp ↓] theorem srS_app (v : Value) (h' : Hp) : srS P n ops sf ls F N0 l R tm h v h' = (KeepF F h h' ∧ SY P n ops sf ls F N0 l R ⟨⟩ tm h') := rfl
def callS (P : Program) (n : Nat) (ops : Array Oper) (sf ls : List Nat) (F : Nat → Prop) (N0 : Nat) (fx : Operand) (xs : Array Operand) (l : List Oper) (R : (Nat → Value) → Hp → Prop) (_ : Wit (ops, F, fx, xs, l, R)) (tm : Nat → Value) (d : Nat) (h : Hp) : Prop :=
  okX fx = true ∧ xs.all okX = true ∧ match ev tm fx with
    | .func (.func f) fst cap => fnOK P f = true ∧ ∃ v h', CallOK P f (fst ++ xs.map (ev tm) ++ cap) h v h' ∧ KeepF F h h' ∧ SrC P n ops sf ls F N0 l R (upd tm d v) h'
    | _ => False
theorem callS_c {f : FuncId} {xs : Array Operand} {z : Wit _} {args : Array Value} {v : Value} {h' : Hp} (h2 : xs.all okX = true) (h4 : fnOK P f = true) (ha : xs.map (ev tm) = args) (hc : CallOK P f args h v h') (hk : KeepF F h h')
    (hr : SY P n ops sf ls F N0 l R ⟨⟩ (upd tm d v) h') : callS P n ops sf ls F N0 (.func f) xs l R z tm d h :=
  ⟨rfl, h2, h4, v, h', by rw [ha]; simpa using hc, hk, hr⟩
theorem thenX_eq (r : Option (Value × Hp)) (k : Value → Hp → Prop) : thenX r k = ∃ v h', r = some (v, h') ∧ k v h' := rfl
def litY (r : Option Nat) (A : Prop) (B : Nat → Prop) (_ : Wit (A, B)) : Prop := match r with
  | none => A
  | some j => B j
@[simp] theorem litY_n (A : Prop) (B : Nat → Prop) (z : Wit (A, B)) : litY none A B z = A := rfl
@[simp] theorem litY_s (j : Nat) (A : Prop) (B : Nat → Prop) (z : Wit (A, B)) : litY (some j) A B z = B j := rfl
def plainO : AObj → Bool
  | .cells c _ _ _ => c.all plainV
  | _ => false
@[simp] theorem plainO_c (c : List Value) (a b : Bool) (e : Nat) : plainO (.cells c a b e) = c.all plainV := rfl
def litK (P : Program) (n : Nat) (ops : Array Oper) (sf ls : List Nat) (F : Nat → Prop) (N0 : Nat) (l : List Oper) (R : (Nat → Value) → Hp → Prop) (tm : Nat → Value) (d j k : Nat) (h : Hp) : Value → Hp → Prop := fun _ h' => h.get (N0 + j) = h'.get h.next ∧ plainO (h'.get h.next) = true ∧ SY P n ops sf ls F N0 l R ⟨⟩ (upd tm d (.slice (some ⟨N0 + j, 0, none⟩) k k)) h
@[simp ↓] theorem litK_app {k : Nat} {hv : Hp} (v : Value) (h' : Hp) : litK P n ops sf ls F N0 l R tm d j k hv v h' = (hv.get (N0 + j) = h'.get hv.next ∧ plainO (h'.get hv.next) = true ∧ SY P n ops sf ls F N0 l R ⟨⟩ (upd tm d (.slice (some ⟨N0 + j, 0, none⟩) k k)) hv) := rfl
def stepS (P : Program) (n : Nat) (ops : Array Oper) (sf ls : List Nat) (F : Nat → Prop) (N0 : Nat) (o : Oper) (l : List Oper) (R : (Nat → Value) → Hp → Prop) (tm : Nat → Value) (h : Hp) : Prop := ∃ v h', OpD P o tm h v h' ∧ KeepF F h h' ∧ oblO sf F o tm ∧ SrC P n ops sf ls F N0 l R (updO tm o.dst v) h'
theorem srC_u (hl : litO ls ⟨some d, op, ty, pos, aft, none⟩ = none) {z : Wit _} : SY P n ops sf ls F N0 (⟨some d, op, ty, pos, aft, none⟩ :: l) R z tm h = (d < n ∧ stepS P n ops sf ls F N0 ⟨some d, op, ty, pos, aft, none⟩ l R tm h) := by
  simp only [SY, SrC, hl, dstOK, guardOK, wantA, decide_eq_true_eq, true_and, stepS]
theorem srC_g (hl : litO ls ⟨some d, op, ty, pos, aft, some (j, w)⟩ = none) {z : Wit _} : SY P n (List.toArray L) sf ls F N0 (⟨some d, op, ty, pos, aft, some (j, w)⟩ :: l) R z tm h = (d < n ∧ gateO n (gsl L j) tm w (stepS P n (List.toArray L) sf ls F N0 ⟨some d, op, ty, pos, aft, some (j, w)⟩ l R tm h) (SY P n (List.toArray L) sf ls F N0 l R ⟨⟩ (upd tm d undef) h) ⟨⟩) := by
  rw [← gate_eq]
  simp only [SY, SrC, hl, dstOK, guardOK, wantA, decide_eq_true_eq, gsl, List.getElem?_toArray, stepS]
  rfl
theorem stepS_op {g : Option (Nat × Bool)} (hc : callV op = false) (hl : ∀ t x, op ≠ .load t x) : stepS P n ops sf ls F N0 ⟨some d, op, ty, pos, aft, g⟩ l R tm h = thenY (opD P op tm h) (srK P n ops sf ls F N0 l R tm d h) ⟨⟩ := by
  apply propext
  constructor
  · rintro ⟨v, h', k1, k2, _, k4⟩
    refine ⟨v, h', ?_, k2, k4⟩
    unfold OpD at k1
    simp only at k1
    split at k1
    · simp [callV] at hc
    · exact k1
  · rintro ⟨v, h', k1, k2, k4⟩
    refine ⟨v, h', ?_, k2, ?_, k4⟩
    · unfold OpD
      simp only
      split
      · simp [callV] at hc
      · exact k1
    · unfold oblO
      cases op <;> first | trivial | exact absurd rfl (hl _ _)
theorem stepS_load {g : Option (Nat × Bool)} {t : TypeId} {x : Operand} : stepS P n ops sf ls F N0 ⟨some d, .load t x, ty, pos, aft, g⟩ l R tm h = ((sfHas sf d = true → inF F (ev tm x)) ∧ thenY (opD P (.load t x) tm h) (srK P n ops sf ls F N0 l R tm d h) ⟨⟩) := by
  apply propext
  constructor
  · rintro ⟨v, h', k1, k2, k3, k4⟩
    exact ⟨k3, v, h', k1, k2, k4⟩
  · rintro ⟨k3, v, h', k1, k2, k4⟩
    exact ⟨v, h', k1, k2, k3, k4⟩
theorem stepS_call {g : Option (Nat × Bool)} {fx xs ts} : stepS P n ops sf ls F N0 ⟨some d, .call ⟨.value fx, xs, ts⟩, ty, pos, aft, g⟩ l R tm h = callS P n ops sf ls F N0 fx xs l R ⟨⟩ tm d h := by
  apply propext
  constructor
  · rintro ⟨v, h', ⟨k1, k2, k3⟩, k4, _, k5⟩
    refine ⟨k1, k2, ?_⟩
    split at k3
    · exact ⟨k3.1, v, h', k3.2, k4, k5⟩
    · exact k3.elim
  · rintro ⟨k1, k2, k3⟩
    split at k3
    · rename_i f fst cap hf
      obtain ⟨k6, v, h', k7, k4, k5⟩ := k3
      exact ⟨v, h', ⟨k1, k2, by simp only [hf]; exact ⟨k6, k7⟩⟩, k4, trivial, k5⟩
    · exact k3.elim
theorem su (hc : callV op = false) (hl : ∀ t x, op ≠ .load t x) (hb : ∀ g, litO ls ⟨some d, op, ty, pos, aft, g⟩ = none) {z : Wit _} : SY P n ops sf ls F N0 (⟨some d, op, ty, pos, aft, none⟩ :: l) R z tm h = (d < n ∧ thenY (opD P op tm h) (srK P n ops sf ls F N0 l R tm d h) ⟨⟩) := by rw [srC_u (hb _), stepS_op hc hl]
theorem sg (hc : callV op = false) (hl : ∀ t x, op ≠ .load t x) (hb : ∀ g, litO ls ⟨some d, op, ty, pos, aft, g⟩ = none) {z : Wit _} : SY P n (List.toArray L) sf ls F N0 (⟨some d, op, ty, pos, aft, some (j, w)⟩ :: l) R z tm h = (d < n ∧ gateO n (gsl L j) tm w (thenY (opD P op tm h) (srK P n (List.toArray L) sf ls F N0 l R tm d h) ⟨⟩) (SY P n (List.toArray L) sf ls F N0 l R ⟨⟩ (upd tm d undef) h) ⟨⟩) := by rw [srC_g (hb _), stepS_op hc hl]
theorem ss (hc : callV op = false) (hl : ∀ t x, op ≠ .load t x) {z : Wit _} : SY P n ops sf ls F N0 (⟨none, op, ty, pos, aft, none⟩ :: l) R z tm h = thenY (opD P op tm h) (srS P n ops sf ls F N0 l R tm h) ⟨⟩ := by
  have hln : litO ls ⟨none, op, ty, pos, aft, none⟩ = none := by cases op <;> rfl
  simp only [SY, SrC, hln, dstOK, guardOK, wantA, true_and]
  apply propext
  constructor
  · rintro ⟨v, h', k1, k2, _, k4⟩
    refine ⟨v, h', ?_, k2, k4⟩
    unfold OpD at k1
    simp only at k1
    split at k1
    · simp [callV] at hc
    · exact k1
  · rintro ⟨v, h', k1, k2, k4⟩
    refine ⟨v, h', ?_, k2, ?_, k4⟩
    · unfold OpD
      simp only
      split
      · simp [callV] at hc
      · exact k1
    · unfold oblO
      simp
@[simp ↓] theorem su_move {x} {z : Wit _} : SY P n ops sf ls F N0 (⟨some d, .move x, ty, pos, aft, none⟩ :: l) R z tm h = (d < n ∧ thenY (opD P (.move x) tm h) (srK P n ops sf ls F N0 l R tm d h) ⟨⟩) := su rfl (fun _ _ e => by cases e) (fun _ => rfl)
@[simp ↓] theorem sg_move {x} {z : Wit _} : SY P n (List.toArray L) sf ls F N0 (⟨some d, .move x, ty, pos, aft, some (j, w)⟩ :: l) R z tm h = (d < n ∧ gateO n (gsl L j) tm w (thenY (opD P (.move x) tm h) (srK P n (List.toArray L) sf ls F N0 l R tm d h) ⟨⟩) (SY P n (List.toArray L) sf ls F N0 l R ⟨⟩ (upd tm d undef) h) ⟨⟩) := sg rfl (fun _ _ e => by cases e) (fun _ => rfl)
@[simp ↓] theorem su_assign {x} {z : Wit _} : SY P n ops sf ls F N0 (⟨some d, .assign x, ty, pos, aft, none⟩ :: l) R z tm h = (d < n ∧ thenY (opD P (.assign x) tm h) (srK P n ops sf ls F N0 l R tm d h) ⟨⟩) := su rfl (fun _ _ e => by cases e) (fun _ => rfl)
@[simp ↓] theorem sg_assign {x} {z : Wit _} : SY P n (List.toArray L) sf ls F N0 (⟨some d, .assign x, ty, pos, aft, some (j, w)⟩ :: l) R z tm h = (d < n ∧ gateO n (gsl L j) tm w (thenY (opD P (.assign x) tm h) (srK P n (List.toArray L) sf ls F N0 l R tm d h) ⟨⟩) (SY P n (List.toArray L) sf ls F N0 l R ⟨⟩ (upd tm d undef) h) ⟨⟩) := sg rfl (fun _ _ e => by cases e) (fun _ => rfl)
@[simp ↓] theorem su_pick {c x y} {z : Wit _} : SY P n ops sf ls F N0 (⟨some d, .pick c x y, ty, pos, aft, none⟩ :: l) R z tm h = (d < n ∧ thenY (opD P (.pick c x y) tm h) (srK P n ops sf ls F N0 l R tm d h) ⟨⟩) := su rfl (fun _ _ e => by cases e) (fun _ => rfl)
@[simp ↓] theorem sg_pick {c x y} {z : Wit _} : SY P n (List.toArray L) sf ls F N0 (⟨some d, .pick c x y, ty, pos, aft, some (j, w)⟩ :: l) R z tm h = (d < n ∧ gateO n (gsl L j) tm w (thenY (opD P (.pick c x y) tm h) (srK P n (List.toArray L) sf ls F N0 l R tm d h) ⟨⟩) (SY P n (List.toArray L) sf ls F N0 l R ⟨⟩ (upd tm d undef) h) ⟨⟩) := sg rfl (fun _ _ e => by cases e) (fun _ => rfl)
@[simp ↓] theorem su_alloc {e} {z : Wit _} : SY P n ops sf ls F N0 (⟨some d, .alloc e, ty, pos, aft, none⟩ :: l) R z tm h = (d < n ∧ thenY (opD P (.alloc e) tm h) (srK P n ops sf ls F N0 l R tm d h) ⟨⟩) := su rfl (fun _ _ e => by cases e) (fun _ => rfl)
@[simp ↓] theorem sg_alloc {e} {z : Wit _} : SY P n (List.toArray L) sf ls F N0 (⟨some d, .alloc e, ty, pos, aft, some (j, w)⟩ :: l) R z tm h = (d < n ∧ gateO n (gsl L j) tm w (thenY (opD P (.alloc e) tm h) (srK P n (List.toArray L) sf ls F N0 l R tm d h) ⟨⟩) (SY P n (List.toArray L) sf ls F N0 l R ⟨⟩ (upd tm d undef) h) ⟨⟩) := sg rfl (fun _ _ e => by cases e) (fun _ => rfl)
@[simp ↓] theorem su_box {e x} {z : Wit _} : SY P n ops sf ls F N0 (⟨some d, .box e x, ty, pos, aft, none⟩ :: l) R z tm h = (d < n ∧ thenY (opD P (.box e x) tm h) (srK P n ops sf ls F N0 l R tm d h) ⟨⟩) := su rfl (fun _ _ e => by cases e) (fun _ => rfl)
@[simp ↓] theorem sg_box {e x} {z : Wit _} : SY P n (List.toArray L) sf ls F N0 (⟨some d, .box e x, ty, pos, aft, some (j, w)⟩ :: l) R z tm h = (d < n ∧ gateO n (gsl L j) tm w (thenY (opD P (.box e x) tm h) (srK P n (List.toArray L) sf ls F N0 l R tm d h) ⟨⟩) (SY P n (List.toArray L) sf ls F N0 l R ⟨⟩ (upd tm d undef) h) ⟨⟩) := sg rfl (fun _ _ e => by cases e) (fun _ => rfl)
@[simp ↓] theorem su_load {t x} {z : Wit _} : SY P n ops sf ls F N0 (⟨some d, .load t x, ty, pos, aft, none⟩ :: l) R z tm h = (d < n ∧ (sfHas sf d = true → inF F (ev tm x)) ∧ thenY (opD P (.load t x) tm h) (srK P n ops sf ls F N0 l R tm d h) ⟨⟩) := by rw [srC_u rfl, stepS_load]
@[simp ↓] theorem sg_load {t x} {z : Wit _} : SY P n (List.toArray L) sf ls F N0 (⟨some d, .load t x, ty, pos, aft, some (j, w)⟩ :: l) R z tm h = (d < n ∧ gateO n (gsl L j) tm w ((sfHas sf d = true → inF F (ev tm x)) ∧ thenY (opD P (.load t x) tm h) (srK P n (List.toArray L) sf ls F N0 l R tm d h) ⟨⟩) (SY P n (List.toArray L) sf ls F N0 l R ⟨⟩ (upd tm d undef) h) ⟨⟩) := by rw [srC_g rfl, stepS_load]
@[simp ↓] theorem su_fieldAddr {s x f} {z : Wit _} : SY P n ops sf ls F N0 (⟨some d, .fieldAddr s x f, ty, pos, aft, none⟩ :: l) R z tm h = (d < n ∧ thenY (opD P (.fieldAddr s x f) tm h) (srK P n ops sf ls F N0 l R tm d h) ⟨⟩) := su rfl (fun _ _ e => by cases e) (fun _ => rfl)
@[simp ↓] theorem sg_fieldAddr {s x f} {z : Wit _} : SY P n (List.toArray L) sf ls F N0 (⟨some d, .fieldAddr s x f, ty, pos, aft, some (j, w)⟩ :: l) R z tm h = (d < n ∧ gateO n (gsl L j) tm w (thenY (opD P (.fieldAddr s x f) tm h) (srK P n (List.toArray L) sf ls F N0 l R tm d h) ⟨⟩) (SY P n (List.toArray L) sf ls F N0 l R ⟨⟩ (upd tm d undef) h) ⟨⟩) := sg rfl (fun _ _ e => by cases e) (fun _ => rfl)
@[simp ↓] theorem su_field {s x f} {z : Wit _} : SY P n ops sf ls F N0 (⟨some d, .field s x f, ty, pos, aft, none⟩ :: l) R z tm h = (d < n ∧ thenY (opD P (.field s x f) tm h) (srK P n ops sf ls F N0 l R tm d h) ⟨⟩) := su rfl (fun _ _ e => by cases e) (fun _ => rfl)
@[simp ↓] theorem sg_field {s x f} {z : Wit _} : SY P n (List.toArray L) sf ls F N0 (⟨some d, .field s x f, ty, pos, aft, some (j, w)⟩ :: l) R z tm h = (d < n ∧ gateO n (gsl L j) tm w (thenY (opD P (.field s x f) tm h) (srK P n (List.toArray L) sf ls F N0 l R tm d h) ⟨⟩) (SY P n (List.toArray L) sf ls F N0 l R ⟨⟩ (upd tm d undef) h) ⟨⟩) := sg rfl (fun _ _ e => by cases e) (fun _ => rfl)
@[simp ↓] theorem su_indexAddr {t x y} {z : Wit _} : SY P n ops sf ls F N0 (⟨some d, .indexAddr t x y, ty, pos, aft, none⟩ :: l) R z tm h = (d < n ∧ thenY (opD P (.indexAddr t x y) tm h) (srK P n ops sf ls F N0 l R tm d h) ⟨⟩) := su rfl (fun _ _ e => by cases e) (fun _ => rfl)
@[simp ↓] theorem sg_indexAddr {t x y} {z : Wit _} : SY P n (List.toArray L) sf ls F N0 (⟨some d, .indexAddr t x y, ty, pos, aft, some (j, w)⟩ :: l) R z tm h = (d < n ∧ gateO n (gsl L j) tm w (thenY (opD P (.indexAddr t x y) tm h) (srK P n (List.toArray L) sf ls F N0 l R tm d h) ⟨⟩) (SY P n (List.toArray L) sf ls F N0 l R ⟨⟩ (upd tm d undef) h) ⟨⟩) := sg rfl (fun _ _ e => by cases e) (fun _ => rfl)
@[simp ↓] theorem su_index {t x y} {z : Wit _} : SY P n ops sf ls F N0 (⟨some d, .index t x y, ty, pos, aft, none⟩ :: l) R z tm h = (d < n ∧ thenY (opD P (.index t x y) tm h) (srK P n ops sf ls F N0 l R tm d h) ⟨⟩) := su rfl (fun _ _ e => by cases e) (fun _ => rfl)
@[simp ↓] theorem sg_index {t x y} {z : Wit _} : SY P n (List.toArray L) sf ls F N0 (⟨some d, .index t x y, ty, pos, aft, some (j, w)⟩ :: l) R z tm h = (d < n ∧ gateO n (gsl L j) tm w (thenY (opD P (.index t x y) tm h) (srK P n (List.toArray L) sf ls F N0 l R tm d h) ⟨⟩) (SY P n (List.toArray L) sf ls F N0 l R ⟨⟩ (upd tm d undef) h) ⟨⟩) := sg rfl (fun _ _ e => by cases e) (fun _ => rfl)
@[simp ↓] theorem su_extract {x i} {z : Wit _} : SY P n ops sf ls F N0 (⟨some d, .extract x i, ty, pos, aft, none⟩ :: l) R z tm h = (d < n ∧ thenY (opD P (.extract x i) tm h) (srK P n ops sf ls F N0 l R tm d h) ⟨⟩) := su rfl (fun _ _ e => by cases e) (fun _ => rfl)
@[simp ↓] theorem sg_extract {x i} {z : Wit _} : SY P n (List.toArray L) sf ls F N0 (⟨some d, .extract x i, ty, pos, aft, some (j, w)⟩ :: l) R z tm h = (d < n ∧ gateO n (gsl L j) tm w (thenY (opD P (.extract x i) tm h) (srK P n (List.toArray L) sf ls F N0 l R tm d h) ⟨⟩) (SY P n (List.toArray L) sf ls F N0 l R ⟨⟩ (upd tm d undef) h) ⟨⟩) := sg rfl (fun _ _ e => by cases e) (fun _ => rfl)
@[simp ↓] theorem su_makeFunc {fn f c} {z : Wit _} : SY P n ops sf ls F N0 (⟨some d, .makeFunc fn f c, ty, pos, aft, none⟩ :: l) R z tm h = (d < n ∧ thenY (opD P (.makeFunc fn f c) tm h) (srK P n ops sf ls F N0 l R tm d h) ⟨⟩) := su rfl (fun _ _ e => by cases e) (fun _ => rfl)
@[simp ↓] theorem sg_makeFunc {fn f c} {z : Wit _} : SY P n (List.toArray L) sf ls F N0 (⟨some d, .makeFunc fn f c, ty, pos, aft, some (j, w)⟩ :: l) R z tm h = (d < n ∧ gateO n (gsl L j) tm w (thenY (opD P (.makeFunc fn f c) tm h) (srK P n (List.toArray L) sf ls F N0 l R tm d h) ⟨⟩) (SY P n (List.toArray L) sf ls F N0 l R ⟨⟩ (upd tm d undef) h) ⟨⟩) := sg rfl (fun _ _ e => by cases e) (fun _ => rfl)
@[simp ↓] theorem su_binOp {b t x y t2} {z : Wit _} : SY P n ops sf ls F N0 (⟨some d, .binOp b t x y t2, ty, pos, aft, none⟩ :: l) R z tm h = (d < n ∧ thenY (opD P (.binOp b t x y t2) tm h) (srK P n ops sf ls F N0 l R tm d h) ⟨⟩) := su rfl (fun _ _ e => by cases e) (fun _ => rfl)
@[simp ↓] theorem sg_binOp {b t x y t2} {z : Wit _} : SY P n (List.toArray L) sf ls F N0 (⟨some d, .binOp b t x y t2, ty, pos, aft, some (j, w)⟩ :: l) R z tm h = (d < n ∧ gateO n (gsl L j) tm w (thenY (opD P (.binOp b t x y t2) tm h) (srK P n (List.toArray L) sf ls F N0 l R tm d h) ⟨⟩) (SY P n (List.toArray L) sf ls F N0 l R ⟨⟩ (upd tm d undef) h) ⟨⟩) := sg rfl (fun _ _ e => by cases e) (fun _ => rfl)
@[simp ↓] theorem su_unOp {u t x} {z : Wit _} : SY P n ops sf ls F N0 (⟨some d, .unOp u t x, ty, pos, aft, none⟩ :: l) R z tm h = (d < n ∧ thenY (opD P (.unOp u t x) tm h) (srK P n ops sf ls F N0 l R tm d h) ⟨⟩) := su rfl (fun _ _ e => by cases e) (fun _ => rfl)
@[simp ↓] theorem sg_unOp {u t x} {z : Wit _} : SY P n (List.toArray L) sf ls F N0 (⟨some d, .unOp u t x, ty, pos, aft, some (j, w)⟩ :: l) R z tm h = (d < n ∧ gateO n (gsl L j) tm w (thenY (opD P (.unOp u t x) tm h) (srK P n (List.toArray L) sf ls F N0 l R tm d h) ⟨⟩) (SY P n (List.toArray L) sf ls F N0 l R ⟨⟩ (upd tm d undef) h) ⟨⟩) := sg rfl (fun _ _ e => by cases e) (fun _ => rfl)
@[simp ↓] theorem su_convert {s e x} {z : Wit _} : SY P n ops sf ls F N0 (⟨some d, .convert s e x, ty, pos, aft, none⟩ :: l) R z tm h = (d < n ∧ thenY (opD P (.convert s e x) tm h) (srK P n ops sf ls F N0 l R tm d h) ⟨⟩) := su rfl (fun _ _ e => by cases e) (fun _ => rfl)
@[simp ↓] theorem sg_convert {s e x} {z : Wit _} : SY P n (List.toArray L) sf ls F N0 (⟨some d, .convert s e x, ty, pos, aft, some (j, w)⟩ :: l) R z tm h = (d < n ∧ gateO n (gsl L j) tm w (thenY (opD P (.convert s e x) tm h) (srK P n (List.toArray L) sf ls F N0 l R tm d h) ⟨⟩) (SY P n (List.toArray L) sf ls F N0 l R ⟨⟩ (upd tm d undef) h) ⟨⟩) := sg rfl (fun _ _ e => by cases e) (fun _ => rfl)
@[simp ↓] theorem su_makeSlice {t x y} {z : Wit _} : SY P n ops sf ls F N0 (⟨some d, .makeSlice t x y, ty, pos, aft, none⟩ :: l) R z tm h = (d < n ∧ thenY (opD P (.makeSlice t x y) tm h) (srK P n ops sf ls F N0 l R tm d h) ⟨⟩) := su rfl (fun _ _ e => by cases e) (fun _ => rfl)
@[simp ↓] theorem sg_makeSlice {t x y} {z : Wit _} : SY P n (List.toArray L) sf ls F N0 (⟨some d, .makeSlice t x y, ty, pos, aft, some (j, w)⟩ :: l) R z tm h = (d < n ∧ gateO n (gsl L j) tm w (thenY (opD P (.makeSlice t x y) tm h) (srK P n (List.toArray L) sf ls F N0 l R tm d h) ⟨⟩) (SY P n (List.toArray L) sf ls F N0 l R ⟨⟩ (upd tm d undef) h) ⟨⟩) := sg rfl (fun _ _ e => by cases e) (fun _ => rfl)
@[simp ↓] theorem su_slice {t x lo hi mx} {z : Wit _} : SY P n ops sf ls F N0 (⟨some d, .slice t x lo hi mx, ty, pos, aft, none⟩ :: l) R z tm h = (d < n ∧ thenY (opD P (.slice t x lo hi mx) tm h) (srK P n ops sf ls F N0 l R tm d h) ⟨⟩) := su rfl (fun _ _ e => by cases e) (fun _ => rfl)
@[simp ↓] theorem sg_slice {t x lo hi mx} {z : Wit _} : SY P n (List.toArray L) sf ls F N0 (⟨some d, .slice t x lo hi mx, ty, pos, aft, some (j, w)⟩ :: l) R z tm h = (d < n ∧ gateO n (gsl L j) tm w (thenY (opD P (.slice t x lo hi mx) tm h) (srK P n (List.toArray L) sf ls F N0 l R tm d h) ⟨⟩) (SY P n (List.toArray L) sf ls F N0 l R ⟨⟩ (upd tm d undef) h) ⟨⟩) := sg rfl (fun _ _ e => by cases e) (fun _ => rfl)
@[simp ↓] theorem su_build {t ps} {z : Wit _} : SY P n ops sf ls F N0 (⟨some d, .build t ps, ty, pos, aft, none⟩ :: l) R z tm h = (d < n ∧ thenY (opD P (.build t ps) tm h) (srK P n ops sf ls F N0 l R tm d h) ⟨⟩) := su rfl (fun _ _ e => by cases e) (fun _ => rfl)
@[simp ↓] theorem sg_build {t ps} {z : Wit _} : SY P n (List.toArray L) sf ls F N0 (⟨some d, .build t ps, ty, pos, aft, some (j, w)⟩ :: l) R z tm h = (d < n ∧ gateO n (gsl L j) tm w (thenY (opD P (.build t ps) tm h) (srK P n (List.toArray L) sf ls F N0 l R tm d h) ⟨⟩) (SY P n (List.toArray L) sf ls F N0 l R ⟨⟩ (upd tm d undef) h) ⟨⟩) := sg rfl (fun _ _ e => by cases e) (fun _ => rfl)
@[simp ↓] theorem su_buildSlice {t m ps} {z : Wit _} (hl : lsIdx ls d = none) : SY P n ops sf ls F N0 (⟨some d, .buildSlice t m ps, ty, pos, aft, none⟩ :: l) R z tm h = (d < n ∧ thenY (opD P (.buildSlice t m ps) tm h) (srK P n ops sf ls F N0 l R tm d h) ⟨⟩) :=
  (srC_u (show litO ls ⟨some d, .buildSlice t m ps, ty, pos, aft, none⟩ = none from hl)).trans (by rw [stepS_op rfl (fun _ _ e => by cases e)])
@[simp ↓] theorem su_buildSliceL {t m ps} {z : Wit _} (hls : (lsIdx ls d).isSome = true) : SY P n ops sf ls F N0 (⟨some d, .buildSlice t m ps, ty, pos, aft, none⟩ :: l) R z tm h = (d < n ∧ constL ps.toList = true ∧ thenY (opD P (.buildSlice t m ps) tm h) (litK P n ops sf ls F N0 l R tm d ((lsIdx ls d).getD 0) m h) ⟨⟩) := by
  obtain ⟨j, hl⟩ := Option.isSome_iff_exists.1 hls
  rw [hl]
  show _ = (d < n ∧ constL ps.toList = true ∧ thenY (opD P (.buildSlice t m ps) tm h) (litK P n ops sf ls F N0 l R tm d j m h) ⟨⟩)
  · skip
    have hl' : litO ls ⟨some d, .buildSlice t m ps, ty, pos, aft, none⟩ = some j := hl
    simp only [SY, SrC, hl', dstOK, guardOK, decide_eq_true_eq, true_and]
    apply propext
    constructor
    · rintro ⟨h1, k, cs, es, ⟨rfl, h2, h3, h4⟩, h5, h6⟩
      refine ⟨h1, h2, _, _, by rw [litC_op h2, h3]; rfl, ?_, ?_, h6⟩
      · rw [h5]; simp [Hp.alloc]
      · simp only [Hp.alloc, if_true, plainO_c, List.all_eq_true]; exact h4
    · rintro ⟨h1, h2, v, h', h3, h4, h5, h6⟩
      rw [litC_op h2] at h3
      cases hx : litC P t m ps with
      | none => rw [hx] at h3; cases h3
      | some r =>
        rw [hx] at h3
        simp only [Option.map_some, Option.some.injEq, Prod.mk.injEq] at h3
        obtain ⟨rfl, rfl⟩ := h3
        refine ⟨h1, m, r.1, r.2, ⟨rfl, h2, hx, ?_⟩, ?_, h6⟩
        · simp only [Hp.alloc, if_true, plainO_c, List.all_eq_true] at h5; exact h5
        · rw [h4]; simp [Hp.alloc]
@[simp ↓] theorem su_nilCheck {x} {z : Wit _} : SY P n ops sf ls F N0 (⟨some d, .nilCheck x, ty, pos, aft, none⟩ :: l) R z tm h = (d < n ∧ thenY (opD P (.nilCheck x) tm h) (srK P n ops sf ls F N0 l R tm d h) ⟨⟩) := su rfl (fun _ _ e => by cases e) (fun _ => rfl)
@[simp ↓] theorem sg_nilCheck {x} {z : Wit _} : SY P n (List.toArray L) sf ls F N0 (⟨some d, .nilCheck x, ty, pos, aft, some (j, w)⟩ :: l) R z tm h = (d < n ∧ gateO n (gsl L j) tm w (thenY (opD P (.nilCheck x) tm h) (srK P n (List.toArray L) sf ls F N0 l R tm d h) ⟨⟩) (SY P n (List.toArray L) sf ls F N0 l R ⟨⟩ (upd tm d undef) h) ⟨⟩) := sg rfl (fun _ _ e => by cases e) (fun _ => rfl)
@[simp ↓] theorem su_makeMap {t r} {z : Wit _} : SY P n ops sf ls F N0 (⟨some d, .makeMap t r, ty, pos, aft, none⟩ :: l) R z tm h = (d < n ∧ thenY (opD P (.makeMap t r) tm h) (srK P n ops sf ls F N0 l R tm d h) ⟨⟩) := su rfl (fun _ _ e => by cases e) (fun _ => rfl)
@[simp ↓] theorem sg_makeMap {t r} {z : Wit _} : SY P n (List.toArray L) sf ls F N0 (⟨some d, .makeMap t r, ty, pos, aft, some (j, w)⟩ :: l) R z tm h = (d < n ∧ gateO n (gsl L j) tm w (thenY (opD P (.makeMap t r) tm h) (srK P n (List.toArray L) sf ls F N0 l R tm d h) ⟨⟩) (SY P n (List.toArray L) sf ls F N0 l R ⟨⟩ (upd tm d undef) h) ⟨⟩) := sg rfl (fun _ _ e => by cases e) (fun _ => rfl)
@[simp ↓] theorem su_lookup {t x y ok} {z : Wit _} : SY P n ops sf ls F N0 (⟨some d, .lookup t x y ok, ty, pos, aft, none⟩ :: l) R z tm h = (d < n ∧ thenY (opD P (.lookup t x y ok) tm h) (srK P n ops sf ls F N0 l R tm d h) ⟨⟩) := su rfl (fun _ _ e => by cases e) (fun _ => rfl)
@[simp ↓] theorem sg_lookup {t x y ok} {z : Wit _} : SY P n (List.toArray L) sf ls F N0 (⟨some d, .lookup t x y ok, ty, pos, aft, some (j, w)⟩ :: l) R z tm h = (d < n ∧ gateO n (gsl L j) tm w (thenY (opD P (.lookup t x y ok) tm h) (srK P n (List.toArray L) sf ls F N0 l R tm d h) ⟨⟩) (SY P n (List.toArray L) sf ls F N0 l R ⟨⟩ (upd tm d undef) h) ⟨⟩) := sg rfl (fun _ _ e => by cases e) (fun _ => rfl)
@[simp ↓] theorem su_bi {b xs ts} {z : Wit _} : SY P n ops sf ls F N0 (⟨some d, .call ⟨.builtin b, xs, ts⟩, ty, pos, aft, none⟩ :: l) R z tm h = (d < n ∧ thenY (opD P (.call ⟨.builtin b, xs, ts⟩) tm h) (srK P n ops sf ls F N0 l R tm d h) ⟨⟩) := su rfl (fun _ _ e => by cases e) (fun _ => rfl)
@[simp ↓] theorem sg_bi {b xs ts} {z : Wit _} : SY P n (List.toArray L) sf ls F N0 (⟨some d, .call ⟨.builtin b, xs, ts⟩, ty, pos, aft, some (j, w)⟩ :: l) R z tm h = (d < n ∧ gateO n (gsl L j) tm w (thenY (opD P (.call ⟨.builtin b, xs, ts⟩) tm h) (srK P n (List.toArray L) sf ls F N0 l R tm d h) ⟨⟩) (SY P n (List.toArray L) sf ls F N0 l R ⟨⟩ (upd tm d undef) h) ⟨⟩) := sg rfl (fun _ _ e => by cases e) (fun _ => rfl)
@[simp ↓] theorem ss_store {t x y} {z : Wit _} : SY P n ops sf ls F N0 (⟨none, .store t x y, ty, pos, aft, none⟩ :: l) R z tm h = thenY (opD P (.store t x y) tm h) (srS P n ops sf ls F N0 l R tm h) ⟨⟩ := ss rfl (fun _ _ e => by cases e)
@[simp ↓] theorem ss_mapUpdate {t x y u} {z : Wit _} : SY P n ops sf ls F N0 (⟨none, .mapUpdate t x y u, ty, pos, aft, none⟩ :: l) R z tm h = thenY (opD P (.mapUpdate t x y u) tm h) (srS P n ops sf ls F N0 l R tm h) ⟨⟩ := ss rfl (fun _ _ e => by cases e)
@[simp ↓] theorem su_call {fx xs ts} {z : Wit _} : SY P n ops sf ls F N0 (⟨some d, .call ⟨.value fx, xs, ts⟩, ty, pos, aft, none⟩ :: l) R z tm h = (d < n ∧ callS P n ops sf ls F N0 fx xs l R ⟨⟩ tm d h) := by rw [srC_u rfl, stepS_call]
@[simp ↓] theorem sg_call {fx xs ts} {z : Wit _} : SY P n (List.toArray L) sf ls F N0 (⟨some d, .call ⟨.value fx, xs, ts⟩, ty, pos, aft, some (j, w)⟩ :: l) R z tm h = (d < n ∧ gateO n (gsl L j) tm w (callS P n (List.toArray L) sf ls F N0 fx xs l R ⟨⟩ tm d h) (SY P n (List.toArray L) sf ls F N0 l R ⟨⟩ (upd tm d undef) h) ⟨⟩) := by rw [srC_g rfl, stepS_call]
variable {fx : Operand} {xs : Array Operand}
theorem SY_heap {z : Wit _} (hr : ∀ h', h' = h → SY P n ops sf ls F N0 l R z tm h') : SY P n ops sf ls F N0 l R z tm h := hr h rfl
theorem callS_heap {z : Wit _} (hr : ∀ h', h' = h → callS P n ops sf ls F N0 fx xs l R z tm d h') : callS P n ops sf ls F N0 fx xs l R z tm d h := hr h rfl
end
end Go.Eng
