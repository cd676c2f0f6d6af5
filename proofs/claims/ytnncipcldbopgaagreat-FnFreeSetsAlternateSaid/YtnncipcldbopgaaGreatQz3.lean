/- Part 3 of the proof of freeSetsAlternate_holds: what it uses of the texts that lie in the notes, merged. -/
import Derived.Test.YtnncipcldbopgaaGreatQz2
namespace Go.Eng
def sfHas : List Nat → Nat → Bool
  | [], _ => false
  | a :: l, d => decide (a = d) || sfHas l d
def softL (sf : List Nat) (o : Oper) : Bool := match o.op, o.dst with
  | .load _ _, some d => sfHas sf d
  | _, _ => false
def lsIdx : List Nat → Nat → Option Nat
  | [], _ => none
  | a :: l, d => if a = d then some 0 else (lsIdx l d).map (· + 1)
def litO (ls : List Nat) (o : Oper) : Option Nat := match o.op, o.dst with
  | .buildSlice _ _ _, some d => lsIdx ls d
  | _, _ => none
def litC (P : Program) (t : TypeId) (n : Nat) (parts : Array (Nat × Operand)) : Option (List Value × Nat) := if parts.all (fun q => okX q.2) && parts.all (fun q => notTup (ev (fun _ => undef) q.2)) then
      match elT P t with
      | some e => match szT P e, zeroT P e with
        | some m, some z => if plainV z && notTup z && decide (z.cells.size = m) && decide (n * m ≤ 2 ^ 24) then
            match Instr.fill (fun i => some (i * m, m)) (zarr z.cells (n * m)) (parts.map fun (i, x) => (i, ev (fun _ => undef) x)).toList with
            | some r => if r.size = n * m then some (r.toList, m) else none
            | none => none
          else none
        | _, _ => none
      | none => none
    else none
def constX : Operand → Bool
  | .const _ => true
  | _ => false
def constL : List (Nat × Operand) → Bool
  | [] => true
  | (_, .const _) :: l => constL l
  | _ => false
theorem constL_all : ∀ {l : List (Nat × Operand)}, constL l = true → ∀ q ∈ l, constX q.2 = true
  | [], _, q, hq => by cases hq
  | (_, .const _) :: l, h, q, hq => by
    rcases List.mem_cons.1 hq with rfl | hq
    · rfl
    · exact constL_all (l := l) h q hq
  | (_, .tmp _) :: l, h, q, hq => by cases h
  | (_, .func _) :: l, h, q, hq => by cases h
  | (_, .global _) :: l, h, q, hq => by cases h
theorem litC_op {P : Program} {t : TypeId} {n : Nat} {parts : Array (Nat × Operand)} (hc : constL parts.toList = true) (tm : Nat → Value) (h : Hp) :
    opD P (.buildSlice t n parts) tm h = (litC P t n parts).map fun r => (.slice (some ⟨h.next, 0, none⟩) n n, h.alloc (.cells r.1 true true r.2)) := by
  have e1 : ∀ q ∈ parts, ev tm q.2 = ev (fun _ => undef) q.2 := fun q hq => by
    have := constL_all hc q (Array.mem_toList_iff.2 hq)
    cases hx : q.2 with
    | const v => rfl
    | _ => rw [hx] at this; cases this
  have e2 : parts.all (fun q => notTup (ev tm q.2)) = parts.all (fun q => notTup (ev (fun _ => undef) q.2)) := by
    rw [Bool.eq_iff_iff, Array.all_eq_true_iff_forall_mem, Array.all_eq_true_iff_forall_mem]
    exact ⟨fun h q hq => by rw [← e1 q hq]; exact h q hq, fun h q hq => by rw [e1 q hq]; exact h q hq⟩
  have e3 : (parts.map fun (i, x) => (i, ev tm x)) = (parts.map fun (i, x) => (i, ev (fun _ => undef) x)) := by
    apply Array.map_congr_left
    rintro ⟨i, x⟩ hq
    have := e1 _ hq
    simp only at this
    simp only [this]
  show (if _ then _ else _) = _
  unfold litC
  rw [e2, e3]
  cases (parts.all (fun q => okX q.2) && parts.all (fun q => notTup (ev (fun _ => undef) q.2))) with
  | false => rfl
  | true =>
    simp only [if_true]
    cases elT P t with
    | none => rfl
    | some e =>
      simp only
      cases szT P e with
      | none => cases zeroT P e <;> rfl
      | some m =>
        cases zeroT P e with
        | none => rfl
        | some z =>
          simp only
          cases (plainV z && notTup z && decide (z.cells.size = m) && decide (n * m ≤ 2 ^ 24)) with
          | false => rfl
          | true =>
            simp only [if_true]
            cases Instr.fill (fun i => some (i * m, m)) (zarr z.cells (n * m)) (parts.map fun (i, x) => (i, ev (fun _ => undef) x)).toList with
            | none => rfl
            | some r =>
              simp only
              by_cases hr : r.size = n * m
              · rw [if_pos hr, if_pos hr]; rfl
              · rw [if_neg hr, if_neg hr]; rfl
def hardO (sf ls : List Nat) (o : Oper) : Bool := !(pureOp o.op || softL sf o || (litO ls o).isSome)
def chainS (sf ls : List Nat) (ops : Array Oper) : Bool :=
  (List.range ops.size).all fun i => match ops[i]? with
    | some o => (!(hardO sf ls o) || (List.range i).all fun j => match ops[j]? with
      | some oj => !(hardO sf ls oj) || tclE ops 8 i j
      | none => false) && (!(litO ls o).isSome || (List.range i).all fun j => match ops[j]? with
      | some oj => decide (litO ls oj ≠ litO ls o)
      | none => false)
    | none => false
theorem chainS_spec {sf ls : List Nat} {ops : Array Oper} (h : chainS sf ls ops = true) {i j : Nat} {o oj : Oper} (hi : ops[i]? = some o) (hj : ops[j]? = some oj) (h1 : hardO sf ls o = true) (h2 : hardO sf ls oj = true) (hlt : j < i) : tclE ops 8 i j = true := by
  unfold chainS at h
  simp only [List.all_eq_true, List.mem_range] at h
  have hs : i < ops.size := (Array.getElem?_eq_some_iff.1 hi).1
  have h3 := h i hs
  simp only [hi, h1, Bool.not_true, Bool.false_or, Bool.and_eq_true, List.all_eq_true, List.mem_range] at h3
  have h4 := h3.1 j hlt
  simpa only [hj, h2, Bool.not_true, Bool.false_or] using h4
theorem chainS_lit {sf ls : List Nat} {ops : Array Oper} (h : chainS sf ls ops = true) {i j k : Nat} {o oj : Oper} (hi : ops[i]? = some o) (hj : ops[j]? = some oj) (h1 : litO ls o = some k) (h2 : litO ls oj = some k) : i = j := by
  have key : ∀ (i j : Nat) (o oj : Oper), ops[i]? = some o → ops[j]? = some oj → litO ls o = some k → litO ls oj = some k → ¬ j < i := by
    intro i j o oj hi hj h1 h2 hlt
    unfold chainS at h
    simp only [List.all_eq_true, List.mem_range] at h
    have hs : i < ops.size := (Array.getElem?_eq_some_iff.1 hi).1
    have h3 := h i hs
    simp only [hi, Bool.and_eq_true] at h3
    have h4 := h3.2
    simp only [h1, Option.isSome_some, Bool.not_true, Bool.false_or, List.all_eq_true, List.mem_range] at h4
    have h5 := h4 j hlt
    simp [hj, h2] at h5
  have h3 := key i j o oj hi hj h1 h2
  have h4 := key j i oj o hj hi h2 h1
  omega
def KeepF (F : Nat → Prop) (h h' : Hp) : Prop := ∀ b, F b → h'.get b = h.get b
def inF (F : Nat → Prop) : Value → Prop
  | .pointer (some ⟨b, _, none⟩) => F b
  | _ => False
section
variable {P : Program} {n : Nat} {ops : Array Oper} {sf ls : List Nat} {F : Nat → Prop} {N0 : Nat}
def LitOK (P : Program) (o : Oper) (k : Nat) (cs : List Value) (es : Nat) : Prop :=
  (∀ tm h, OpOK P o tm h (.slice (some ⟨h.next, 0, none⟩) k k) (h.alloc (.cells cs true true es))) ∧ ∀ c ∈ cs, plainV c = true
theorem VRel.plain {E E' : Emb} {v v' : Value} (hp : plainV v = true) (h : VRel E v v') : VRel E' v v' := by
  have h1 : VRel ⟨fun _ => False, E.blk, E.off, E.slk⟩ v v' := VRel.back (E := ⟨fun _ => False, E.blk, E.off, E.slk⟩) (fun o ho => ho.elim) (VRel.ofV _ hp) h
  exact h1.mono (fun o (ho : False) => ho.elim)
theorem getD_mem {cs : List Value} {i : Nat} (hi : i < cs.length) : cs.getD i undef ∈ cs := by
  rw [List.getD_eq_getElem?_getD, List.getElem?_eq_getElem hi]
  exact List.getElem_mem hi
theorem late_add {E E' E0 : Emb} {base N : Nat} {h0 hc : Hp} {w0 w w' : World} {cs : List Value} {es : Nat} (st0 : Step E0 h0 w0 E hc w) (hr : HRel E base hc w.heap) (st : Step E hc w E' (hc.alloc (.cells cs true true es)) w')
    (hr' : HRel E' base (hc.alloc (.cells cs true true es)) w'.heap) (hN : h0.next ≤ N) (hNc : N < hc.next) (hnd : ¬ E.D N) (hg : hc.get N = .cells cs true true es) (hp : ∀ c ∈ cs, plainV c = true) (hM : E'.D hc.next) :
    Step E0 h0 w0 (E.add N (E'.blk hc.next) (E'.off hc.next) (E'.slk hc.next)) hc w' ∧ HRel (E.add N (E'.blk hc.next) (E'.off hc.next) (E'.slk hc.next)) base hc w'.heap := by
  obtain ⟨st1, hr1⟩ := cut_rel hr st hr' (Keeps.alloc hc _)
  have st2 := st0.trans st1
  have hE : ∀ o, E.D o → o ≠ N := fun o ho e => hnd (e ▸ ho)
  have hE' : ∀ o, E.D o → E'.D o ∧ E'.blk o = E.blk o ∧ E'.off o = E.off o ∧ E'.slk o = E.slk o := st.dmono hr.lt
  have hlt := hr.lt
  have hgM : (hc.alloc (.cells cs true true es)).get hc.next = .cells cs true true es := by simp [Hp.alloc]
  have hgo : ∀ o, E.D o → (hc.alloc (.cells cs true true es)).get o = hc.get o := fun o ho => by simp [Hp.alloc, show o ≠ hc.next from Nat.ne_of_lt (hlt o ho)]
  have hne : ∀ o, E.D o → o ≠ hc.next := fun o ho => Nat.ne_of_lt (hlt o ho)
  have hfresh : w.heap.size ≤ E'.blk hc.next := by
    rcases st.own hc.next hM (by rw [hgM]; rfl) with ⟨o0, h1, h2, h3⟩ | h
    · have := hr'.sep hc.next o0 hM (hE' o0 h1).1 (hne o0 h1).symm (by rw [hgM]; rfl) (by rw [hgo o0 h1]; exact AObj.live_of_owned h2)
      rw [(hE' o0 h1).2.1] at this
      exact absurd h3.symm this
    · exact h
  refine ⟨⟨st2.next, fun o ho => ?_, st2.os, st2.tape, st2.output, st2.size, st2.keep, fun o hd ho => ?_⟩, hr1.le, fun o ho => ?_, fun o ho => ?_, fun o o' ho ho' hno h1 h2 => ?_⟩
  · have hoN : o ≠ N := by omega
    obtain ⟨a, b, c, d⟩ := st2.ext o ho
    simp only [Emb.add, hoN, if_false, false_or]
    exact ⟨a, b, c, d⟩
  · by_cases e : o = N
    · right
      simp only [Emb.add, e, if_true]
      exact Nat.le_trans st0.size hfresh
    · simp only [Emb.add, e, false_or] at hd
      simp only [Emb.add, e, if_false]
      exact st2.own o hd ho
  · rcases ho with rfl | ho
    · exact hNc
    · exact hlt o ho
  · by_cases e : o = N
    · subst e
      rw [hg]
      have hobj := hr'.obj hc.next hM
      rw [hgM] at hobj
      obtain ⟨C, ty, fz, k1, k2, k3, k4, k5, k6⟩ := hobj
      refine ⟨C, ty, fz, by simpa [Emb.add] using k1, by simpa [Emb.add] using k2, fun i hi => ?_, k4, by simpa [Emb.add] using k5, by simpa [Emb.add] using k6⟩
      have := k3 i hi
      simp only [Emb.add, if_true]
      exact VRel.plain (hp _ (getD_mem hi)) this
    · have ho' : E.D o := by rcases ho with h | h; exact absurd h e; exact h
      exact (hr1.obj o ho').mono (fun q hq => ⟨.inr hq, by simp [Emb.add, hE q hq], by simp [Emb.add, hE q hq], by simp [Emb.add, hE q hq]⟩) ho' rfl
  · by_cases e : o = N
    · have ho1 : E.D o' := by rcases ho' with h | h; exact absurd (e.trans h.symm) hno; exact h
      have := hr'.sep hc.next o' hM (hE' o' ho1).1 (hne o' ho1).symm (by rw [hgM]; rfl) (by rw [hgo o' ho1]; exact h2)
      simp only [Emb.add, e, if_true, hE o' ho1, if_false]
      rw [← (hE' o' ho1).2.1]; exact this
    · have ho1 : E.D o := by rcases ho with h | h; exact absurd h e; exact h
      by_cases e' : o' = N
      · have := hr'.sep o hc.next (hE' o ho1).1 hM (hne o ho1) (by rw [hgo o ho1]; exact h1) (by rw [hgM]; rfl)
        simp only [Emb.add, e', if_true, e, if_false]
        rw [← (hE' o ho1).2.1]; exact this
      · have ho2 : E.D o' := by rcases ho' with h | h; exact absurd h e'; exact h
        simp only [Emb.add, e, e', if_false]
        exact hr1.sep o o' ho1 ho2 hno h1 h2
theorem late_val {E E' : Emb} {N M k : Nat} {v' : Value} (h : VRel E' (.slice (some ⟨M, 0, none⟩) k k) v') : VRel (E.add N (E'.blk M) (E'.off M) (E'.slk M)) (.slice (some ⟨N, 0, none⟩) k k) v' ∧ E'.D M := by
  cases h with
  | slice _ _ _ _ a hD hn ha =>
    refine ⟨?_, hD⟩
    have := VRel.slice (E := E.add N (E'.blk M) (E'.off M) (E'.slk M)) N 0 k k a (.inl rfl) hn (by simpa [Emb.add] using ha)
    simpa [Emb.add] using this
structure Tr3 (P : Program) (n : Nat) (ops : Array Oper) (sf ls : List Nat) (F : Nat → Prop) (N0 : Nat) where
  T : Nat → Nat → Value
  H : Nat → Hp
  V : Nat → Value
  dst : ∀ (i : Nat) (o : Oper), ops[i]? = some o → dstOK n o.dst = true ∧ guardOK n ops o = true
  step : ∀ (i : Nat) (o : Oper), ops[i]? = some o → (wantA ops (T i) o = some true ∧ OpOK P o (T i) (H i) (V i) (H (i + 1)) ∧ (hardO sf ls o = false → H (i + 1) = H i ∧ ∀ h, KeepF F (H i) h → OpOK P o (T i) h (V i) h) ∧ KeepF F (H i) (H (i + 1))) ∨ (wantA ops (T i) o = some false ∧ V i = undef ∧ H (i + 1) = H i) ∨
    ∃ j k cs es, litO ls o = some j ∧ j < ls.length ∧ o.guard = none ∧ LitOK P o k cs es ∧ V i = .slice (some ⟨N0 + j, 0, none⟩) k k ∧ (H i).get (N0 + j) = .cells cs true true es ∧ H (i + 1) = H i
  lit : ∀ j, j < ls.length → F (N0 + j)
  lo : N0 + ls.length ≤ (H 0).next
  next : ∀ (i : Nat) (o : Oper), ops[i]? = some o → T (i + 1) = updO (T i) o.dst (V i)
theorem Tr3.fix (t : Tr3 P n ops sf ls F N0) : ∀ i, i ≤ ops.size → ∀ b, F b → (t.H i).get b = (t.H 0).get b
  | 0, _, _, _ => rfl
  | i + 1, hi, b, hb => by
    have ho := Array.getElem?_eq_getElem (show i < ops.size by omega)
    have ih := Tr3.fix t i (by omega) b hb
    rcases t.step i _ ho with ⟨_, _, _, h3⟩ | ⟨_, _, h3⟩ | ⟨_, _, _, _, _, _, _, _, _, _, h3⟩
    · rw [h3 b hb, ih]
    · rw [h3, ih]
    · rw [h3, ih]
theorem Tr3.slot (t : Tr3 P n ops sf ls F N0) (s : Nat) : ∀ i, i ≤ ops.size → (∃ j o, j < i ∧ ops[j]? = some o ∧ o.dst = some s ∧ t.T i s = t.V j ∧ ∀ k o', j < k → k < i → ops[k]? = some o' → o'.dst ≠ some s) ∨
    (t.T i s = t.T 0 s ∧ ∀ k o', k < i → ops[k]? = some o' → o'.dst ≠ some s)
  | 0, _ => .inr ⟨rfl, fun k o' h => absurd h (by omega)⟩
  | i + 1, hi => by
    cases ho : ops[i]? with
    | none => rw [Array.getElem?_eq_getElem (by omega)] at ho; cases ho
    | some o =>
      have hn := t.next i o ho
      by_cases hd : o.dst = some s
      · left
        refine ⟨i, o, by omega, ho, hd, by rw [hn, hd]; simp [updO, upd], fun k o' h1 h2 => absurd h1 (by omega)⟩
      · have hts : t.T (i + 1) s = t.T i s := by
          rw [hn]
          cases hdst : o.dst with
          | none => rfl
          | some d =>
            have : s ≠ d := fun e => hd (by rw [hdst, e])
            simp [updO, upd, this]
        rcases Tr3.slot t s i (by omega) with ⟨j, oj, h1, h2, h3, h4, h5⟩ | ⟨h1, h2⟩
        · left
          refine ⟨j, oj, by omega, h2, h3, by rw [hts, h4], fun k o' hk1 hk2 hk => ?_⟩
          by_cases e : k = i
          · subst e; rw [ho] at hk; cases hk; exact hd
          · exact h5 k o' hk1 (by omega) hk
        · right
          refine ⟨by rw [hts, h1], fun k o' hk1 hk => ?_⟩
          by_cases e : k = i
          · subst e; rw [ho] at hk; cases hk; exact hd
          · exact h2 k o' (by omega) hk
theorem Tr3.still (t : Tr3 P n ops sf ls F N0) {i : Nat} : ∀ (k : Nat), i ≤ k → k ≤ ops.size → (∀ j o, i ≤ j → j < k → ops[j]? = some o → hardO sf ls o = false) → t.H k = t.H i
  | 0, h, _, _ => by rw [show i = 0 by omega]
  | k + 1, h, hk, hp => by
    by_cases e : i = k + 1
    · rw [e]
    · have ih := Tr3.still t k (by omega) (by omega) (fun j o h1 h2 h3 => hp j o h1 (by omega) h3)
      have ho := Array.getElem?_eq_getElem (show k < ops.size by omega)
      rcases t.step k _ ho with ⟨_, _, h3, _⟩ | ⟨_, _, h3⟩ | ⟨_, _, _, _, _, _, _, _, _, _, h3⟩
      · rw [(h3 (hp k _ (by omega) (by omega) ho)).1, ih]
      · rw [h3, ih]
      · rw [h3, ih]
structure Inv3 (t : Tr3 P n ops sf ls F N0) (h0 : Hp) (E0 : Emb) (base : Nat) (w0 : World) (S : Nat → Bool) (c : Nat) (E : Emb) (w : World) (a : Act) : Prop where
  le : c ≤ ops.size
  mem : ∀ (i : Nat) (o : Oper), ops[i]? = some o → hardO sf ls o = true → (S i = true ↔ i < c)
  step : Step E0 h0 w0 E (t.H c) w
  nx : (t.H 0).next ≤ (t.H c).next
  lit : ∀ (i : Nat) (o : Oper) (j : Nat), S i = false → ops[i]? = some o → litO ls o = some j → ¬ E.D (N0 + j)
  heap : HRel E base (t.H c) w.heap
  tmps : a.tmps.size = n
  defers : a.defers = []
  last : ∀ (s j : Nat) (o : Oper), S j = true → ops[j]? = some o → o.dst = some s → (∀ k o', j < k → S k = true → ops[k]? = some o' → o'.dst ≠ some s) → VRel E (t.V j) (a.tmps.getD s undef)
  none : ∀ (s : Nat), (∀ (k : Nat) (o' : Oper), S k = true → ops[k]? = some o' → o'.dst ≠ some s) → VRel E (t.T 0 s) (a.tmps.getD s undef)
theorem Inv3.next {t : Tr3 P n ops sf ls F N0} {h0 : Hp} {E0 E E' : Emb} {base : Nat} {w0 w w' : World} {S : Nat → Bool} {c c' : Nat} {a : Act} {v' : Value} (inv : Inv3 t h0 E0 base w0 S c E w a) {i : Nat} {o : Oper} (ho : ops[i]? = some o) (hS : S i = false)
    (hdst : dstOK n o.dst = true) (hB : ∀ j oj s, i < j → ops[j]? = some oj → o.dst = some s → oj.dst = some s → S j = false)
    (hc : c' ≤ ops.size) (hm : ∀ k ok, ops[k]? = some ok → hardO sf ls ok = true → ((if k = i then true else S k) = true ↔ k < c'))
    (st : Step E0 h0 w0 E' (t.H c') w') (mono : ∀ v v', VRel E v v' → VRel E' v v') (hnx : (t.H c).next ≤ (t.H c').next) (hlit : ∀ (k : Nat) (ok : Oper) (j : Nat), k ≠ i → S k = false → ops[k]? = some ok → litO ls ok = some j → ¬ E'.D (N0 + j)) (hr : HRel E' base (t.H c') w'.heap) (hv : VRel E' (t.V i) v') : Inv3 t h0 E0 base w0 (fun k => if k = i then true else S k) c' E' w' (a.put o.dst v') where
  le := hc
  mem := hm
  step := st
  nx := Nat.le_trans inv.nx hnx
  lit k ok j hk hok hl := by
    by_cases e : k = i
    · simp [e] at hk
    · exact hlit k ok j e (by simpa [e] using hk) hok hl
  heap := hr
  tmps := by cases hd : o.dst <;> simp [Act.put, inv.tmps]
  defers := by cases hd : o.dst <;> simp [Act.put, inv.defers]
  last s j oj hSj hoj hdj hlast := by
    by_cases hji : j = i
    · subst hji
      rw [ho] at hoj; cases hoj
      have hs : s < n := by rw [hdj] at hdst; simpa [dstOK] using hdst
      have : (a.put o.dst v').tmps.getD s undef = v' := by rw [hdj]; simp [Act.put, inv.tmps, hs]
      rw [this]; exact hv
    · have hSj' : S j = true := by simpa [hji] using hSj
      have hne : o.dst ≠ some s := by
        intro e
        rcases Nat.lt_or_gt_of_ne hji with h4 | h4
        · exact hlast i o h4 (by simp) ho e
        · have := hB j oj s h4 hoj e hdj
          rw [this] at hSj'; cases hSj'
      have : (a.put o.dst v').tmps.getD s undef = a.tmps.getD s undef := by
        cases hd : o.dst with
        | none => rfl
        | some d =>
          have hds : d ≠ s := fun e => hne (by rw [hd, e])
          simp only [Act.put]
          rw [Array.getD_eq_getD_getElem?, Array.getD_eq_getD_getElem?, Array.getElem?_setIfInBounds_ne hds]
      rw [this]
      exact mono _ _ (inv.last s j oj hSj' hoj hdj (fun k ok h1 h3 h4 => hlast k ok h1 (by simp only [h3]; split <;> rfl) h4))
  none s hnone := by
    have hne : o.dst ≠ some s := hnone i o (by simp) ho
    have : (a.put o.dst v').tmps.getD s undef = a.tmps.getD s undef := by
      cases hd : o.dst with
      | none => rfl
      | some d =>
        have hds : d ≠ s := fun e => hne (by rw [hd, e])
        simp only [Act.put]
        rw [Array.getD_eq_getD_getElem?, Array.getD_eq_getD_getElem?, Array.getElem?_setIfInBounds_ne hds]
    rw [this]
    exact mono _ _ (inv.none s (fun k ok h3 h4 => hnone k ok (by simp only [h3]; split <;> rfl) h4))
theorem Inv3.operand {t : Tr3 P n ops sf ls F N0} {h0 : Hp} {E0 E : Emb} {base : Nat} {w0 w : World} {S : Nat → Bool} {c : Nat} {a : Act} (inv : Inv3 t h0 E0 base w0 S c E w a) {i s : Nat} (hi : i < ops.size) (hS : S i = false)
    (hw : ∀ j oj, j ≠ i → ops[j]? = some oj → oj.dst = some s → (j < i → S j = true) ∧ (i < j → S j = false)) : VRel E (t.T i s) (a.tmps.getD s undef) := by
  rcases t.slot s i (by omega) with ⟨j, oj, h1, h2, h3, h4, h5⟩ | ⟨h1, h2⟩
  · rw [h4]
    refine inv.last s j oj ((hw j oj (by omega) h2 h3).1 h1) h2 h3 (fun k ok k1 k3 k4 k5 => ?_)
    rcases Nat.lt_trichotomy k i with h | h | h
    · exact h5 k ok k1 h k4 k5
    · subst h; rw [hS] at k3; cases k3
    · have := (hw k ok (by omega) k4 k5).2 h
      rw [this] at k3; cases k3
  · rw [h1]
    refine inv.none s (fun k ok k3 k4 k5 => ?_)
    rcases Nat.lt_trichotomy k i with h | h | h
    · exact h2 k ok h k4 k5
    · subst h; rw [hS] at k3; cases k3
    · have := (hw k ok (by omega) k4 k5).2 h
      rw [this] at k3; cases k3
theorem lsIdx_lt : ∀ {ls : List Nat} {d j : Nat}, lsIdx ls d = some j → j < ls.length
  | [], _, _, h => by cases h
  | a :: l, d, j, h => by
    unfold lsIdx at h
    split at h
    · simp only [Option.some.injEq] at h; subst h; simp
    · cases hl : lsIdx l d with
      | none => rw [hl] at h; cases h
      | some q => rw [hl] at h; simp only [Option.map_some, Option.some.injEq] at h; subst h; have := lsIdx_lt hl; simp; omega
theorem litO_lt {ls : List Nat} {o : Oper} {j : Nat} (h : litO ls o = some j) : j < ls.length := by
  unfold litO at h
  split at h
  · exact lsIdx_lt h
  · cases h
theorem any_soft {Q : Exit → Act → World → Prop} (t : Tr3 P n ops sf ls F N0) {h0 : Hp} (hN0 : h0.next ≤ N0) (hd : drawOK ops ops.size = true) (hch : chainS sf ls ops = true) {E0 : Emb} {base : Nat} {w0 : World}
    (hend : ∀ E w a, Step E0 h0 w0 E (t.H ops.size) w → HRel E base (t.H ops.size) w.heap → TRel E n (t.T ops.size) a → Q .normal a w) :
    ∀ (k : Nat) (l : Array Bool) (c : Nat) (E : Emb) (w : World) (a : Act), l.size = ops.size → cntF (fun k => l.getD k false) ops.size = k → Closed ops l →
      Inv3 t h0 E0 base w0 (fun k => l.getD k false) c E w a → wpAny P .any ops Q k l a w
  | 0, l, c, E, w, a, hs, hc, hcl, inv => by
    have hall := cntF_zero hc
    simp only [wpAny]
    refine ⟨?_, ?_⟩
    · apply List.eq_nil_iff_forall_not_mem.2
      intro i hi
      obtain ⟨h1, h2, _⟩ := ready_spec hs hi
      have := hall i h1
      rw [this] at h2; cases h2
    · have hcc : ∀ j o, c ≤ j → j < ops.size → ops[j]? = some o → hardO sf ls o = false := fun j o h1 h2 ho => by
        cases hp : hardO sf ls o with
        | false => rfl
        | true => have := (inv.mem j o ho hp).1 (hall j h2); omega
      have hH := t.still ops.size inv.le (Nat.le_refl _) hcc
      refine hend E w a (by rw [hH]; exact inv.step) (by rw [hH]; exact inv.heap) ⟨inv.tmps, fun s => ?_, inv.defers⟩
      rcases t.slot s ops.size (Nat.le_refl _) with ⟨j, oj, g1, g2, g3, g4, g5⟩ | ⟨g1, g2⟩
      · rw [g4]
        exact inv.last s j oj (hall j g1) g2 g3 (fun k ok k1 _ k4 => g5 k ok k1 (Array.getElem?_eq_some_iff.1 k4).1 k4)
      · rw [g1]
        exact inv.none s (fun k ok _ k4 => g2 k ok (Array.getElem?_eq_some_iff.1 k4).1 k4)
  | k + 1, l, c, E, w, a, hs, hc, hcl, inv => by
    obtain ⟨h1, h2, h3, _⟩ := drawOK_spec hd
    obtain ⟨i0, i1, i2, i3⟩ := cntF_pos (f := fun k => l.getD k false) (m := ops.size) (by omega)
    simp only [wpAny]
    refine ⟨fun h => ?_, fun i hi => ?_⟩
    · have := ready_mk (l := l) h2 hs i1 i2 i3
      rw [h] at this; cases this
    · obtain ⟨r1, r2, r3⟩ := ready_spec hs hi
      have ho := Array.getElem?_eq_getElem r1
      generalize hov : ops[i] = o at ho
      have hlook : ∀ s, (o.looksAt ops).contains s = true → ∀ j oj, j ≠ i → ops[j]? = some oj → oj.dst = some s → (j < i → l.getD j false = true) ∧ (i < j → l.getD j false = false) := by
        intro s hcs j oj hne hoj hds
        have hj : j < ops.size := (Array.getElem?_eq_some_iff.1 hoj).1
        have h5 := (h3 i j o oj s r1 hj (fun e => hne e.symm) ho hoj hds).1 hcs
        refine ⟨fun hlt => ?_, fun hlt => ?_⟩
        · rw [if_pos hlt] at h5; exact r3 j h5
        · rw [if_neg (by omega)] at h5
          cases hlj : l.getD j false with
          | false => rfl
          | true => have := hcl j i hlj h5; rw [r2] at this; cases this
      have hval : ∀ s, (o.looksAt ops).contains s = true → VRel E (t.T i s) (a.tmps.getD s undef) := fun s hcs => inv.operand r1 r2 (hlook s hcs)
      have hB : ∀ j oj s, i < j → ops[j]? = some oj → o.dst = some s → oj.dst = some s → l.getD j false = false := by
        intro j oj s hlt hoj hds hds'
        have hj : j < ops.size := (Array.getElem?_eq_some_iff.1 hoj).1
        have h5 := (h3 i j o oj s r1 hj (by omega) ho hoj hds').2 hds hlt
        cases hlj : l.getD j false with
        | false => rfl
        | true => have := hcl j i hlj h5; rw [r2] at this; cases this
      obtain ⟨d1, d2⟩ := t.dst i o ho
      have hcnt : cntF (fun k => (l.setIfInBounds i true).getD k false) ops.size = k := by
        have := cntF_set (f := fun k => l.getD k false) (g := fun k => (l.setIfInBounds i true).getD k false) r1 r2 (fun k => getD_set (by omega) k)
        omega
      have hcl' : Closed ops (l.setIfInBounds i true) := by
        intro x y hx hxy
        rw [getD_set (by omega)] at hx ⊢
        by_cases e : x = i
        · subst e; split
          · rfl
          · exact r3 y hxy
        · rw [if_neg e] at hx
          split
          · rfl
          · exact hcl x y hx hxy
      have cont : ∀ c' E' w' v', c' ≤ ops.size → (∀ k ok, ops[k]? = some ok → hardO sf ls ok = true → ((if k = i then true else l.getD k false) = true ↔ k < c')) → Step E (t.H c) w E' (t.H c') w' → HRel E' base (t.H c') w'.heap → VRel E' (t.V i) v' → wpAny P .any ops Q k (l.setIfInBounds i true) (a.put o.dst v') w' := by
        intro c' E' w' v' hc' hm' st hr hv
        have inv' := inv.next (v' := v') ho r2 d1 hB hc' hm' (inv.step.trans st) (fun _ _ h => st.vrel inv.heap h) st.next (fun k ok j _ hk hok hl hD => by
          have hj := litO_lt hl
          have := t.lo
          have := inv.nx
          exact inv.lit k ok j hk hok hl (((st.ext (N0 + j) (by omega)).1).1 hD)) hr hv
        refine any_soft t hN0 hd hch hend k _ c' E' w' _ (by simp [hs]) hcnt hcl' ?_
        have e : (fun k => (l.setIfInBounds i true).getD k false) = fun k => if k = i then true else l.getD k false := funext fun k => getD_set (by omega) k
        rw [e]; exact inv'
      -- the guard
      have hwant : ∀ b, wantA ops (t.T i) o = some b → Region.wanted o (yielded ops a.tmps) = b := by
        intro b hb
        unfold wantA at hb
        unfold Region.wanted
        split at hb
        · rename_i hgd; simp only [Option.some.injEq] at hb; subst hb; rw [hgd]
        · rename_i j want hgd
          rw [hgd]
          split at hb
          · rename_i d hdd
            split at hb
            · rename_i bb hbb
              simp only [Option.some.injEq] at hb
              subst hb
              have hlt := guardOK_spec d2 j want d hgd hdd
              have hcs : (o.looksAt ops).contains d = true := by simp [Oper.looksAt, hgd, hdd]
              have hrr := hval d hcs
              rw [hbb] at hrr
              obtain ⟨z, hz, hz'⟩ := getD_some (c := a.tmps) (i := d) (by rw [inv.tmps]; exact hlt)
              have hz2 : z = .bool bb := by rw [← hz']; exact hrr.inv_bool
              subst hz2
              simp only [yielded, hdd, Option.bind_some, hz]
              cases bb <;> cases want <;> rfl
            · rename_i bb hbb
              simp only [Option.some.injEq] at hb
              subst hb
              have hlt := guardOK_spec d2 j want d hgd hdd
              have hcs : (o.looksAt ops).contains d = true := by simp [Oper.looksAt, hgd, hdd]
              have hrr := hval d hcs
              rw [hbb] at hrr
              obtain ⟨z, hz, hz'⟩ := getD_some (c := a.tmps) (i := d) (by rw [inv.tmps]; exact hlt)
              obtain ⟨c', hc'⟩ := hrr.inv_tuple
              have hz2 : z = .tuple c' := by rw [← hz']; exact hc'
              subst hz2
              simp only [yielded, hdd, Option.bind_some, hz]
              cases want <;> rfl
            · cases hb
          · cases hb
      have hops : ∀ s, Operand.tmp s ∈ o.op.operands → VRel E (t.T i s) (a.tmps.getD s undef) := fun s hsm => hval s (by
        simp only [Oper.looksAt, List.contains_eq_mem, List.mem_append, decide_eq_true_eq]
        left
        exact List.mem_filterMap.2 ⟨.tmp s, by simpa using hsm, rfl⟩)
      -- where the heap stands
      cases hp : hardO sf ls o with
      | false =>
        have hm' : ∀ k ok, ops[k]? = some ok → hardO sf ls ok = true → ((if k = i then true else l.getD k false) = true ↔ k < c) := fun k ok hk hpk => by
          by_cases e : k = i
          · subst e; rw [ho] at hk; cases hk; rw [hp] at hpk; cases hpk
          · rw [if_neg e]; exact inv.mem k ok hk hpk
        unfold wpOp
        simp only [ho]
        rcases t.step i o ho with ⟨g1, _, g2⟩ | ⟨g1, g2, g3⟩ | ⟨j, kk, cs, es, g1, g2, g3, g4, g5, g6, g7⟩
        · rw [hwant true g1, if_pos rfl]
          left
          exact (g2.1 hp).2 (t.H c) (fun b hb => (t.fix c inv.le b hb).trans (t.fix i (by omega) b hb).symm) E base w a _ Q inv.heap hops (fun E' w' v' st hr hv => cont c E' w' v' inv.le hm' st hr hv)
        · rw [hwant false g1, if_neg (by simp)]
          refine cont c E w undef inv.le hm' (Step.refl _ _ _) inv.heap ?_
          rw [g2]; exact VRel.undef _
        · have hw : Region.wanted o (yielded ops a.tmps) = true := by unfold Region.wanted; rw [g3]
          rw [hw, if_pos rfl]
          left
          have hlo := t.lo
          have hnx := inv.nx
          have hFj := t.lit j g2
          have hget : (t.H c).get (N0 + j) = .cells cs true true es := by rw [t.fix c inv.le _ hFj, ← t.fix i (by omega) _ hFj, g6]
          refine g4.1 (t.T i) (t.H c) E base w a _ Q inv.heap hops (fun E' w' v' st hr hv => ?_)
          obtain ⟨hv2, hM⟩ := late_val (E := E) (N := N0 + j) hv
          obtain ⟨st2, hr2⟩ := late_add inv.step inv.heap st hr (by omega) (by omega) (inv.lit i o j r2 ho g1) hget g4.2 hM
          have inv' := inv.next (v' := v') ho r2 d1 hB inv.le hm' st2 (fun _ _ h => h.mono fun q hq => by
            have hqN : q ≠ N0 + j := fun e => inv.lit i o j r2 ho g1 (e ▸ hq)
            exact ⟨.inr hq, by simp [Emb.add, hqN], by simp [Emb.add, hqN], by simp [Emb.add, hqN]⟩) (Nat.le_refl _) (fun k ok j' hki hk hok hl hD => by
            rcases hD with e | hD
            · have : j' = j := by omega
              subst this
              exact hki (chainS_lit hch hok ho hl g1)
            · exact inv.lit k ok j' hk hok hl hD) hr2 (by rw [g5]; exact hv2)
          refine any_soft t hN0 hd hch hend k _ c (E.add (N0 + j) (E'.blk (t.H c).next) (E'.off (t.H c).next) (E'.slk (t.H c).next)) w' _ (by simp [hs]) hcnt hcl' ?_
          have e : (fun k => (l.setIfInBounds i true).getD k false) = fun k => if k = i then true else l.getD k false := funext fun k => getD_set (by omega) k
          rw [e]; exact inv'
      | true =>
        have hci : c ≤ i := by
          apply Nat.le_of_not_lt
          intro hlt
          have := (inv.mem i o ho hp).2 hlt
          rw [r2] at this; cases this
        have hbet : ∀ j oj, c ≤ j → j < i → ops[j]? = some oj → hardO sf ls oj = false := fun j oj q1 q2 hoj => by
          cases hpj : hardO sf ls oj with
          | false => rfl
          | true =>
            have := tcl_done hcl 8 i j (chainS_spec hch ho hoj hp hpj q2) r3
            have := (inv.mem j oj hoj hpj).1 this
            omega
        have hH := t.still i hci (by omega) hbet
        have hm' : ∀ k ok, ops[k]? = some ok → hardO sf ls ok = true → ((if k = i then true else l.getD k false) = true ↔ k < i + 1) := fun k ok hk hpk => by
          by_cases e : k = i
          · subst e; simp
          · rw [if_neg e]
            have hmk := inv.mem k ok hk hpk
            constructor
            · intro hl; have := hmk.1 hl; omega
            · intro hlt
              exact tcl_done hcl 8 i k (chainS_spec hch ho hk hp hpk (by omega)) r3
        unfold wpOp
        simp only [ho]
        rcases t.step i o ho with ⟨g1, g2, _⟩ | ⟨g1, g2, g3⟩ | ⟨j, kk, cs, es, g1, g2, g3, g4, g5, g6, g7⟩
        · rw [hwant true g1, if_pos rfl]
          left
          rw [hH] at g2
          exact g2 E base w a _ Q inv.heap hops (fun E' w' v' st hr hv => cont (i + 1) E' w' v' (by omega) hm' st hr hv)
        · rw [hwant false g1, if_neg (by simp)]
          rw [hH] at g3
          refine cont (i + 1) E w undef (by omega) hm' ?_ ?_ ?_
          · rw [g3]; exact Step.refl _ _ _
          · rw [g3]; exact inv.heap
          · rw [g2]; exact VRel.undef _
        · simp [hardO, g1] at hp
def OpD (P : Program) (o : Oper) (tm : Nat → Value) (h : Hp) (v : Value) (h' : Hp) : Prop := match o.op with
  | .call ⟨.value fx, xs, _⟩ => okX fx = true ∧ xs.all okX = true ∧ match ev tm fx with
      | .func (.func f) fst cap => fnOK P f = true ∧ CallOK P f (fst ++ xs.map (ev tm) ++ cap) h v h'
      | _ => False
  | op => opD P op tm h = some (v, h')
def oblO (sf : List Nat) (F : Nat → Prop) (o : Oper) (tm : Nat → Value) : Prop := match o.op, o.dst with
  | .load _ x, some d => sfHas sf d = true → inF F (ev tm x)
  | _, _ => True
def litF : List Nat → Nat → Nat → Prop
  | [], _, _ => False
  | _ :: l, N, b => b = N ∨ litF l (N + 1) b
theorem litF_mem : ∀ (ls : List Nat) (N j : Nat), j < ls.length → litF ls N (N + j)
  | [], _, _, h => absurd h (by simp)
  | _ :: l, N, 0, _ => .inl rfl
  | _ :: l, N, j + 1, h => .inr (by rw [show N + (j + 1) = N + 1 + j by omega]; exact litF_mem l (N + 1) j (by simpa using h))
def litP (P : Program) (o : Oper) (k : Nat) (cs : List Value) (es : Nat) : Prop := match o.op with
  | .buildSlice t k' parts => k' = k ∧ constL parts.toList = true ∧ litC P t k' parts = some (cs, es) ∧ ∀ c ∈ cs, plainV c = true
  | _ => False
theorem litP.ok {o : Oper} {k : Nat} {cs : List Value} {es : Nat} (h : litP P o k cs es) : LitOK P o k cs es := by
  unfold litP at h
  split at h
  · rename_i t k' parts hop
    obtain ⟨rfl, h2, h3, h4⟩ := h
    refine ⟨fun tm hp => opD_sound ?_, h4⟩
    rw [hop, litC_op h2, h3]
    rfl
  · cases h
def SrC (P : Program) (n : Nat) (ops : Array Oper) (sf ls : List Nat) (F : Nat → Prop) (N0 : Nat) : List Oper → ((Nat → Value) → Hp → Prop) → (Nat → Value) → Hp → Prop
  | [], R, tm, h => R tm h
  | o :: l, R, tm, h => dstOK n o.dst = true ∧ guardOK n ops o = true ∧ match litO ls o with
    | some j => o.guard = none ∧ ∃ k cs es, litP P o k cs es ∧ h.get (N0 + j) = .cells cs true true es ∧ SrC P n ops sf ls F N0 l R (updO tm o.dst (.slice (some ⟨N0 + j, 0, none⟩) k k)) h
    | none => match wantA ops tm o with
      | none => False
      | some false => SrC P n ops sf ls F N0 l R (updO tm o.dst undef) h
      | some true => ∃ v h', OpD P o tm h v h' ∧ KeepF F h h' ∧ oblO sf F o tm ∧ SrC P n ops sf ls F N0 l R (updO tm o.dst v) h'
theorem opD_ok {o : Oper} {tm : Nat → Value} {h h' : Hp} {v : Value} (hln : litO ls o = none) (hd : OpD P o tm h v h') (hb : oblO sf F o tm) : OpOK P o tm h v h' ∧ (hardO sf ls o = false → h' = h ∧ ∀ h2, KeepF F h h2 → OpOK P o tm h2 v h2) := by
  unfold OpD at hd
  split at hd
  · rename_i fx xs ts hop
    obtain ⟨k1, k2, k3⟩ := hd
    split at k3
    rotate_left
    · cases k3
    rename_i f fst cap hfx
    exact ⟨ok_call hop hfx k1 k2 k3.1 k3.2, fun hp => by simp [hardO, hop, pureOp, softL, hln] at hp⟩
  · refine ⟨opD_sound hd, fun hp => ?_⟩
    by_cases hpu : pureOp o.op = true
    · obtain ⟨e, hall⟩ := opD_pure hpu hd
      exact ⟨e, fun h2 _ => opD_sound (hall h2)⟩
    · have hs : softL sf o = true := by simpa [hardO, hpu, hln] using hp
      unfold softL at hs
      split at hs
      · rename_i t x d hop hdst
        simp only [oblO, hop, hdst] at hb
        have hin := hb hs
        rw [hop] at hd
        have key : ∀ h2, opD P (.load t x) tm h2 = if okX x then match ev tm x with
            | .pointer (some ⟨p, i, none⟩) => (loadD P t i (h2.get p)).map fun v => (v, h2)
            | _ => none
          else none := fun _ => rfl
        rw [key] at hd
        split at hd
        · rename_i hok
          split at hd
          · rename_i p i hev
            rw [hev] at hin
            cases hl : loadD P t i (h.get p) with
            | none => rw [hl] at hd; cases hd
            | some u =>
              rw [hl] at hd
              simp only [Option.map_some, Option.some.injEq, Prod.mk.injEq] at hd
              obtain ⟨rfl, rfl⟩ := hd
              refine ⟨rfl, fun h2 hk => opD_sound ?_⟩
              rw [hop, key, if_pos hok, hev]
              show (loadD P t i (h2.get p)).map _ = _
              rw [hk p hin, hl]
              rfl
          · cases hd
        · cases hd
      · cases hs
theorem srC_trace {R : (Nat → Value) → Hp → Prop} : ∀ (l : List Oper) (tm : Nat → Value) (h : Hp), SrC P n ops sf ls F N0 l R tm h →
    ∃ (T : Nat → Nat → Value) (H : Nat → Hp) (V : Nat → Value), T 0 = tm ∧ H 0 = h ∧ R (T l.length) (H l.length) ∧
      ∀ i o, l[i]? = some o → (dstOK n o.dst = true ∧ guardOK n ops o = true) ∧
        ((wantA ops (T i) o = some true ∧ OpOK P o (T i) (H i) (V i) (H (i + 1)) ∧ (hardO sf ls o = false → H (i + 1) = H i ∧ ∀ h, KeepF F (H i) h → OpOK P o (T i) h (V i) h) ∧ KeepF F (H i) (H (i + 1))) ∨ (wantA ops (T i) o = some false ∧ V i = undef ∧ H (i + 1) = H i) ∨
          ∃ j k cs es, litO ls o = some j ∧ j < ls.length ∧ o.guard = none ∧ LitOK P o k cs es ∧ V i = .slice (some ⟨N0 + j, 0, none⟩) k k ∧ (H i).get (N0 + j) = .cells cs true true es ∧ H (i + 1) = H i) ∧
        T (i + 1) = updO (T i) o.dst (V i)
  | [], tm, h, hq => ⟨fun _ => tm, fun _ => h, fun _ => undef, rfl, rfl, hq, fun i o ho => by simp at ho⟩
  | o :: rest, tm, h, hq => by
    obtain ⟨h1, h2, h3⟩ := hq
    have shift : ∀ (v : Value) (h' : Hp), SrC P n ops sf ls F N0 rest R (updO tm o.dst v) h' → ((wantA ops tm o = some true ∧ OpOK P o tm h v h' ∧ (hardO sf ls o = false → h' = h ∧ ∀ h2, KeepF F h h2 → OpOK P o tm h2 v h2) ∧ KeepF F h h') ∨ (wantA ops tm o = some false ∧ v = undef ∧ h' = h) ∨
        ∃ j k cs es, litO ls o = some j ∧ j < ls.length ∧ o.guard = none ∧ LitOK P o k cs es ∧ v = .slice (some ⟨N0 + j, 0, none⟩) k k ∧ h.get (N0 + j) = .cells cs true true es ∧ h' = h) →
        ∃ (T : Nat → Nat → Value) (H : Nat → Hp) (V : Nat → Value), T 0 = tm ∧ H 0 = h ∧ R (T (o :: rest).length) (H (o :: rest).length) ∧
          ∀ i q, (o :: rest)[i]? = some q → (dstOK n q.dst = true ∧ guardOK n ops q = true) ∧
            ((wantA ops (T i) q = some true ∧ OpOK P q (T i) (H i) (V i) (H (i + 1)) ∧ (hardO sf ls q = false → H (i + 1) = H i ∧ ∀ h, KeepF F (H i) h → OpOK P q (T i) h (V i) h) ∧ KeepF F (H i) (H (i + 1))) ∨ (wantA ops (T i) q = some false ∧ V i = undef ∧ H (i + 1) = H i) ∨
              ∃ j k cs es, litO ls q = some j ∧ j < ls.length ∧ q.guard = none ∧ LitOK P q k cs es ∧ V i = .slice (some ⟨N0 + j, 0, none⟩) k k ∧ (H i).get (N0 + j) = .cells cs true true es ∧ H (i + 1) = H i) ∧
            T (i + 1) = updO (T i) q.dst (V i) := by
      intro v h' hp hs
      obtain ⟨T, H, V, e1, e2, hR, hi⟩ := srC_trace rest _ _ hp
      refine ⟨fun k => match k with | 0 => tm | k + 1 => T k, fun k => match k with | 0 => h | k + 1 => H k, fun k => match k with | 0 => v | k + 1 => V k, rfl, rfl, hR, fun i q hq => ?_⟩
      cases i with
      | zero =>
        simp only [List.getElem?_cons_zero, Option.some.injEq] at hq
        subst hq
        simp only [e1, e2]
        exact ⟨⟨h1, h2⟩, hs, trivial⟩
      | succ i =>
        simp only [List.getElem?_cons_succ] at hq
        exact hi i q hq
    cases hl : litO ls o with
    | some j =>
      rw [hl] at h3
      obtain ⟨hg, k, cs, es, k1, k2, k3⟩ := h3
      exact shift _ h k3 (.inr (.inr ⟨j, k, cs, es, hl, litO_lt hl, hg, k1.ok, rfl, k2, rfl⟩))
    | none =>
      rw [hl] at h3
      cases hw : wantA ops tm o with
      | none => rw [hw] at h3; exact h3.elim
      | some b =>
        rw [hw] at h3
        cases b with
        | false => exact shift undef h h3 (.inr (.inl ⟨hw, rfl, rfl⟩))
        | true =>
          obtain ⟨v, h', k1, k2, k3, k4⟩ := h3
          have hk := opD_ok hl k1 k3
          exact shift v h' k4 (.inl ⟨hw, hk.1, hk.2, k2⟩)
theorem runs_soft {id : Nat} {Q : Exit → (Nat → Value) → Hp → Prop} {tm : Nat → Value} {h hL : Hp} (hm : P.follows .mixedOrders = true) (hd : drawOK ops ops.size = true) (hch : chainS sf ls ops = true) (hk : Keeps h hL) (hlo : h.next + ls.length ≤ hL.next) (hF : ∀ j, j < ls.length → F (h.next + j))
    (hq : SrC P n ops sf ls F h.next ops.toList (Q .normal) tm hL) : Runs P n (.region id ops true) Q tm h := by
  obtain ⟨T, H, V, e1, e2, hR, hi⟩ := srC_trace _ _ _ hq
  rw [Array.length_toList] at hR
  let t : Tr3 P n ops sf ls F h.next :=
    { T := T, H := H, V := V
      dst := fun i o ho => (hi i o (by simpa using ho)).1
      step := fun i o ho => (hi i o (by simpa using ho)).2.1
      lit := hF
      lo := by show h.next + ls.length ≤ (H 0).next; rw [e2]; exact hlo
      next := fun i o ho => (hi i o (by simpa using ho)).2.2 }
  refine ⟨.normal, T ops.size, H ops.size, fun E base w a hr ht => wp_region_any hm ?_, hR⟩
  have hfalse : ∀ k, (Array.replicate ops.size false).getD k false = false := fun k => by
    rw [Array.getD_eq_getD_getElem?, Array.getElem?_replicate]; split <;> rfl
  have hinit : Inv3 t h E base w (fun k => (Array.replicate ops.size false).getD k false) 0 E { w with drawn := w.drawn + 1 } a := by
    refine ⟨Nat.zero_le _, fun i o _ _ => ?_, ?_, Nat.le_refl _, fun i o j _ _ hl hD => ?_, ?_, ht.size, ht.defers, fun s j o hS => ?_, fun s _ => ?_⟩
    · rw [hfalse]; simp
    · show Step E h w E (H 0) _
      rw [e2]
      exact ⟨hk.1, fun _ _ => ⟨Iff.rfl, rfl, rfl, rfl⟩, rfl, rfl, ⟨rfl, Nat.le_succ _⟩, Nat.le_refl _, fun _ _ _ => rfl, fun o hd ho => .inl ⟨o, hd, by rw [hk.2 o (hr.lt o hd)] at ho; exact ho, rfl⟩⟩
    · have := hr.lt _ hD
      omega
    · show HRel E base (H 0) w.heap
      rw [e2]
      exact ⟨hr.le, fun o ho => Nat.lt_of_lt_of_le (hr.lt o ho) hk.1, fun o ho => by rw [hk.2 o (hr.lt o ho)]; exact hr.obj o ho, fun o o' ho ho' hne h1 h2 => hr.sep o o' ho ho' hne (by rwa [hk.2 o (hr.lt o ho)] at h1) (by rwa [hk.2 o' (hr.lt o' ho')] at h2)⟩
    · rw [hfalse] at hS; cases hS
    · show VRel E (T 0 s) _
      rw [e1]; exact ht.rel s
  have hcnt : cntF (fun k => (Array.replicate ops.size false).getD k false) ops.size = ops.size := by
    have : ∀ m, cntF (fun k => (Array.replicate ops.size false).getD k false) m = m := by
      intro m
      induction m with
      | zero => rfl
      | succ m ih =>
        show cntF _ m + (if (Array.replicate ops.size false).getD m false = true then 0 else 1) = m + 1
        rw [ih, hfalse]; simp
    exact this ops.size
  refine any_soft (Q := fun ex a' w' => ex = .normal ∧ ∃ E', Step E h w E' (H ops.size) w' ∧ HRel E' base (H ops.size) w'.heap ∧ TRel E' n (T ops.size) a') t (h0 := h) (Nat.le_refl _) hd hch (E0 := E) (base := base) (w0 := w) ?_ ops.size (Array.replicate ops.size false) 0 E { w with drawn := w.drawn + 1 } a (by simp) hcnt (fun i j hi => by rw [hfalse] at hi; cases hi) hinit
  intro E1 w1 a1 st hr1 ht1
  exact ⟨rfl, E1, st, hr1, ht1⟩
end
section
variable {P : Program} {n : Nat} {tm : Nat → Value} {h : Hp} {Q : Exit → (Nat → Value) → Hp → Prop} {R : (Nat → Value) → Hp → Prop} {sf ls : List Nat} {F : Nat → Prop} {N0 : Nat}
variable {ops : Array Oper} {L : List Oper} {op : Op} {ty : TypeId} {pos : String} {aft : Array Edge} {l : List Oper} {d j p : Nat} {w : Bool}
def SY (P : Program) (n : Nat) (ops : Array Oper) (sf ls : List Nat) (F : Nat → Prop) (N0 : Nat) (l : List Oper) (R : (Nat → Value) → Hp → Prop) (_ : Wit (ops, F, l, R)) (tm : Nat → Value) (h : Hp) : Prop := SrC P n ops sf ls F N0 l R tm h
def allocL (h : Hp) : List (List Value × Nat) → Hp
  | [] => h
  | x :: l => allocL (h.alloc (.cells x.1 true true x.2)) l
@[simp] theorem allocL_n (h : Hp) : allocL h [] = h := rfl
@[simp] theorem allocL_c (h : Hp) (x : List Value × Nat) (l : List (List Value × Nat)) : allocL h (x :: l) = allocL (h.alloc (.cells x.1 true true x.2)) l := rfl
theorem allocL_keeps : ∀ (l : List (List Value × Nat)) (h : Hp), Adds h (allocL h l) ∧ (allocL h l).next = h.next + l.length
  | [], h => ⟨Adds.refl h, rfl⟩
  | x :: l, h => by
    obtain ⟨k1, k2⟩ := allocL_keeps l (h.alloc (.cells x.1 true true x.2))
    refine ⟨(Adds.alloc h (fun _ => rfl)).trans k1, ?_⟩
    rw [allocL_c, k2]
    simp [Hp.alloc]; omega
theorem WD_softC (sf ls : List Nat) (xs : List (List Value × Nat)) (F : Nat → Prop) {id : Nat} (hm : P.follows .mixedOrders = true) (hd : drawOK (List.toArray l) (List.toArray l).size = true) (hch : chainS sf ls (List.toArray l) = true) (hx : ls.length = xs.length) {z : Wit _}
    (hr : SY P n (List.toArray l) sf ls (fun b => F b ∨ litF ls h.next b) h.next l (Q .normal) ⟨⟩ tm (allocL h xs)) : WY P n (.region id (List.toArray l) true) Q z tm h :=
  runs_soft (sf := sf) (ls := ls) (F := fun b => F b ∨ litF ls h.next b) hm hd hch (allocL_keeps xs h).1.1 (by rw [(allocL_keeps xs h).2, hx]; exact Nat.le_refl _) (fun j hj => .inr (litF_mem ls h.next j hj)) hr
@[simp] theorem litF_n (N b : Nat) : litF [] N b = False := rfl
@[simp] theorem litF_c (a : Nat) (l : List Nat) (N b : Nat) : litF (a :: l) N b = (b = N ∨ litF l (N + 1) b) := rfl
@[simp] theorem constL_n : constL [] = true := rfl
@[simp] theorem constL_c (i : Nat) (v : Value) (l : List (Nat × Operand)) : constL ((i, .const v) :: l) = constL l := rfl
@[simp] theorem lsIdx_n (d : Nat) : lsIdx [] d = none := rfl
@[simp] theorem lsIdx_c (a : Nat) (l : List Nat) (d : Nat) : lsIdx (a :: l) d = if a = d then some 0 else (lsIdx l d).map (· + 1) := rfl
@[simp] theorem sfHas_n (d : Nat) : sfHas [] d = false := rfl
@[simp] theorem sfHas_c (a : Nat) (l : List Nat) (d : Nat) : sfHas (a :: l) d = (decide (a = d) || sfHas l d) := rfl
@[simp] theorem inF_p (b i : Nat) : inF F (.pointer (some ⟨b, i, none⟩)) = F b := rfl
@[simp] theorem keepF_self : KeepF F h h = True := eq_true fun _ _ => rfl
@[simp] theorem keepF_put (o : Nat) (x : AObj) (ho : ¬ F o) : KeepF F h (h.put o x) = True := eq_true fun b hb => by simp [Hp.put, show b ≠ o from fun e => ho (e ▸ hb)]
@[simp ↓] theorem srC_nil {z : Wit _} : SY P n ops sf ls F N0 [] R z tm h = R tm h := rfl
def srK (P : Program) (n : Nat) (ops : Array Oper) (sf ls : List Nat) (F : Nat → Prop) (N0 : Nat) (l : List Oper) (R : (Nat → Value) → Hp → Prop) (tm : Nat → Value) (d : Nat) (h : Hp) : Value → Hp → Prop := fun v h' => KeepF F h h' ∧ SY P n ops sf ls F N0 l R ⟨⟩ (upd tm d v) h'
def srS (P : Program) (n : Nat) (ops : Array Oper) (sf ls : List Nat) (F : Nat → Prop) (N0 : Nat) (l : List Oper) (R : (Nat → Value) → Hp → Prop) (tm : Nat → Value) (h : Hp) : Value → Hp → Prop := fun _ h' => KeepF F h h' ∧ SY P n ops sf ls F N0 l R ⟨⟩ tm h'
@[simp ↓] theorem srK_app (v : Value) (h' : Hp) : srK P n ops sf ls F N0 l R tm d h v h' = (KeepF F h h' ∧ SY P n ops sf ls F N0 l R ⟨⟩ (upd tm d v) h') := rfl
@[simp ↓] theorem srS_app (v : Value) (h' : Hp) : srS P n ops sf ls F N0 l R tm h v h' = (KeepF F h h' ∧ SY P n ops sf ls F N0 l R ⟨⟩ tm h') := rfl
def callS (P : Program) (n : Nat) (ops : Array Oper) (sf ls : List Nat) (F : Nat → Prop) (N0 : Nat) (fx : Operand) (xs : Array Operand) (l : List Oper) (R : (Nat → Value) → Hp → Prop) (_ : Wit (ops, F, fx, xs, l, R)) (tm : Nat → Value) (d : Nat) (h : Hp) : Prop :=
  okX fx = true ∧ xs.all okX = true ∧ match ev tm fx with
    | .func (.func f) fst cap => fnOK P f = true ∧ ∃ v h', CallOK P f (fst ++ xs.map (ev tm) ++ cap) h v h' ∧ KeepF F h h' ∧ SrC P n ops sf ls F N0 l R (upd tm d v) h'
    | _ => False
theorem callS_c {f : FuncId} {xs : Array Operand} {z : Wit _} {args : Array Value} {v : Value} {h' : Hp} (h2 : xs.all okX = true) (h4 : fnOK P f = true) (ha : xs.map (ev tm) = args) (hc : CallOK P f args h v h') (hk : KeepF F h h')
    (hr : SY P n ops sf ls F N0 l R ⟨⟩ (upd tm d v) h') : callS P n ops sf ls F N0 (.func f) xs l R z tm d h :=
  ⟨rfl, h2, h4, v, h', by rw [ha]; simpa using hc, hk, hr⟩
def litY (r : Option Nat) (A : Prop) (B : Nat → Prop) (_ : Wit (A, B)) : Prop := match r with
  | none => A
  | some j => B j
@[simp] theorem litY_n (A : Prop) (B : Nat → Prop) (z : Wit (A, B)) : litY none A B z = A := rfl
@[simp] theorem litY_s (j : Nat) (A : Prop) (B : Nat → Prop) (z : Wit (A, B)) : litY (some j) A B z = B j := rfl
def plainO : AObj → Bool
  | .cells c _ _ _ => c.all plainV
  | _ => false
@[simp] theorem plainO_c (c : List Value) (a b : Bool) (e : Nat) : plainO (.cells c a b e) = c.all plainV := rfl
def litK (P : Program) (n : Nat) (ops : Array Oper) (sf ls : List Nat) (F : Nat → Prop) (N0 : Nat) (l : List Oper) (R : (Nat → Value) → Hp → Prop) (tm : Nat → Value) (d j k : Nat) (h : Hp) : Value → Hp → Prop := fun _ h' => h.get (N0 + j) = h'.get h.next ∧ plainO (h'.get h.next) = true ∧ SY P n ops sf ls F N0 l R ⟨⟩ (upd tm d (.slice (some ⟨N0 + j, 0, none⟩) k k)) h
@[simp ↓] theorem litK_app {k : Nat} {hv : Hp} (v : Value) (h' : Hp) : litK P n ops sf ls F N0 l R tm d j k hv v h' = (hv.get (N0 + j) = h'.get hv.next ∧ plainO (h'.get hv.next) = true ∧ SY P n ops sf ls F N0 l R ⟨⟩ (upd tm d (.slice (some ⟨N0 + j, 0, none⟩) k k)) hv) := rfl
def stepS (P : Program) (n : Nat) (ops : Array Oper) (sf ls : List Nat) (F : Nat → Prop) (N0 : Nat) (o : Oper) (l : List Oper) (R : (Nat → Value) → Hp → Prop) (tm : Nat → Value) (h : Hp) : Prop := ∃ v h', OpD P o tm h v h' ∧ KeepF F h h' ∧ oblO sf F o tm ∧ SrC P n ops sf ls F N0 l R (updO tm o.dst v) h'
theorem srC_u (hl : litO ls ⟨some d, op, ty, pos, aft, none⟩ = none) {z : Wit _} : SY P n ops sf ls F N0 (⟨some d, op, ty, pos, aft, none⟩ :: l) R z tm h = (d < n ∧ stepS P n ops sf ls F N0 ⟨some d, op, ty, pos, aft, none⟩ l R tm h) := by
  simp only [SY, SrC, hl, dstOK, guardOK, wantA, decide_eq_true_eq, true_and, stepS]
theorem stepS_op {g : Option (Nat × Bool)} (hc : callV op = false) (hl : ∀ t x, op ≠ .load t x) : stepS P n ops sf ls F N0 ⟨some d, op, ty, pos, aft, g⟩ l R tm h = thenY (opD P op tm h) (srK P n ops sf ls F N0 l R tm d h) ⟨⟩ := by
  apply propext
  constructor
  · rintro ⟨v, h', k1, k2, _, k4⟩
    refine ⟨v, h', ?_, k2, k4⟩
    unfold OpD at k1
    simp only at k1
    split at k1
    · simp [callV] at hc
    · exact k1
  · rintro ⟨v, h', k1, k2, k4⟩
    refine ⟨v, h', ?_, k2, ?_, k4⟩
    · unfold OpD
      simp only
      split
      · simp [callV] at hc
      · exact k1
    · unfold oblO
      cases op <;> first | trivial | exact absurd rfl (hl _ _)
theorem stepS_load {g : Option (Nat × Bool)} {t : TypeId} {x : Operand} : stepS P n ops sf ls F N0 ⟨some d, .load t x, ty, pos, aft, g⟩ l R tm h = ((sfHas sf d = true → inF F (ev tm x)) ∧ thenY (opD P (.load t x) tm h) (srK P n ops sf ls F N0 l R tm d h) ⟨⟩) := by
  apply propext
  constructor
  · rintro ⟨v, h', k1, k2, k3, k4⟩
    exact ⟨k3, v, h', k1, k2, k4⟩
  · rintro ⟨k3, v, h', k1, k2, k4⟩
    exact ⟨v, h', k1, k2, k3, k4⟩
theorem stepS_call {g : Option (Nat × Bool)} {fx xs ts} : stepS P n ops sf ls F N0 ⟨some d, .call ⟨.value fx, xs, ts⟩, ty, pos, aft, g⟩ l R tm h = callS P n ops sf ls F N0 fx xs l R ⟨⟩ tm d h := by
  apply propext
  constructor
  · rintro ⟨v, h', ⟨k1, k2, k3⟩, k4, _, k5⟩
    refine ⟨k1, k2, ?_⟩
    split at k3
    · exact ⟨k3.1, v, h', k3.2, k4, k5⟩
    · exact k3.elim
  · rintro ⟨k1, k2, k3⟩
    split at k3
    · rename_i f fst cap hf
      obtain ⟨k6, v, h', k7, k4, k5⟩ := k3
      exact ⟨v, h', ⟨k1, k2, by simp only [hf]; exact ⟨k6, k7⟩⟩, k4, trivial, k5⟩
    · exact k3.elim
theorem su (hc : callV op = false) (hl : ∀ t x, op ≠ .load t x) (hb : ∀ g, litO ls ⟨some d, op, ty, pos, aft, g⟩ = none) {z : Wit _} : SY P n ops sf ls F N0 (⟨some d, op, ty, pos, aft, none⟩ :: l) R z tm h = (d < n ∧ thenY (opD P op tm h) (srK P n ops sf ls F N0 l R tm d h) ⟨⟩) := by rw [srC_u (hb _), stepS_op hc hl]
theorem ss (hc : callV op = false) (hl : ∀ t x, op ≠ .load t x) {z : Wit _} : SY P n ops sf ls F N0 (⟨none, op, ty, pos, aft, none⟩ :: l) R z tm h = thenY (opD P op tm h) (srS P n ops sf ls F N0 l R tm h) ⟨⟩ := by
  have hln : litO ls ⟨none, op, ty, pos, aft, none⟩ = none := by cases op <;> rfl
  simp only [SY, SrC, hln, dstOK, guardOK, wantA, true_and]
  apply propext
  constructor
  · rintro ⟨v, h', k1, k2, _, k4⟩
    refine ⟨v, h', ?_, k2, k4⟩
    unfold OpD at k1
    simp only at k1
    split at k1
    · simp [callV] at hc
    · exact k1
  · rintro ⟨v, h', k1, k2, k4⟩
    refine ⟨v, h', ?_, k2, ?_, k4⟩
    · unfold OpD
      simp only
      split
      · simp [callV] at hc
      · exact k1
    · unfold oblO
      simp
@[simp ↓] theorem su_move {x} {z : Wit _} : SY P n ops sf ls F N0 (⟨some d, .move x, ty, pos, aft, none⟩ :: l) R z tm h = (d < n ∧ thenY (opD P (.move x) tm h) (srK P n ops sf ls F N0 l R tm d h) ⟨⟩) := su rfl (fun _ _ e => by cases e) (fun _ => rfl)
@[simp ↓] theorem su_load {t x} {z : Wit _} : SY P n ops sf ls F N0 (⟨some d, .load t x, ty, pos, aft, none⟩ :: l) R z tm h = (d < n ∧ (sfHas sf d = true → inF F (ev tm x)) ∧ thenY (opD P (.load t x) tm h) (srK P n ops sf ls F N0 l R tm d h) ⟨⟩) := by rw [srC_u rfl, stepS_load]
@[simp ↓] theorem su_fieldAddr {s x f} {z : Wit _} : SY P n ops sf ls F N0 (⟨some d, .fieldAddr s x f, ty, pos, aft, none⟩ :: l) R z tm h = (d < n ∧ thenY (opD P (.fieldAddr s x f) tm h) (srK P n ops sf ls F N0 l R tm d h) ⟨⟩) := su rfl (fun _ _ e => by cases e) (fun _ => rfl)
@[simp ↓] theorem su_indexAddr {t x y} {z : Wit _} : SY P n ops sf ls F N0 (⟨some d, .indexAddr t x y, ty, pos, aft, none⟩ :: l) R z tm h = (d < n ∧ thenY (opD P (.indexAddr t x y) tm h) (srK P n ops sf ls F N0 l R tm d h) ⟨⟩) := su rfl (fun _ _ e => by cases e) (fun _ => rfl)
@[simp ↓] theorem su_buildSliceL {t m ps} {z : Wit _} (hls : (lsIdx ls d).isSome = true) : SY P n ops sf ls F N0 (⟨some d, .buildSlice t m ps, ty, pos, aft, none⟩ :: l) R z tm h = (d < n ∧ constL ps.toList = true ∧ thenY (opD P (.buildSlice t m ps) tm h) (litK P n ops sf ls F N0 l R tm d ((lsIdx ls d).getD 0) m h) ⟨⟩) := by
  obtain ⟨j, hl⟩ := Option.isSome_iff_exists.1 hls
  rw [hl]
  show _ = (d < n ∧ constL ps.toList = true ∧ thenY (opD P (.buildSlice t m ps) tm h) (litK P n ops sf ls F N0 l R tm d j m h) ⟨⟩)
  · skip
    have hl' : litO ls ⟨some d, .buildSlice t m ps, ty, pos, aft, none⟩ = some j := hl
    simp only [SY, SrC, hl', dstOK, guardOK, decide_eq_true_eq, true_and]
    apply propext
    constructor
    · rintro ⟨h1, k, cs, es, ⟨rfl, h2, h3, h4⟩, h5, h6⟩
      refine ⟨h1, h2, _, _, by rw [litC_op h2, h3]; rfl, ?_, ?_, h6⟩
      · rw [h5]; simp [Hp.alloc]
      · simp only [Hp.alloc, if_true, plainO_c, List.all_eq_true]; exact h4
    · rintro ⟨h1, h2, v, h', h3, h4, h5, h6⟩
      rw [litC_op h2] at h3
      cases hx : litC P t m ps with
      | none => rw [hx] at h3; cases h3
      | some r =>
        rw [hx] at h3
        simp only [Option.map_some, Option.some.injEq, Prod.mk.injEq] at h3
        obtain ⟨rfl, rfl⟩ := h3
        refine ⟨h1, m, r.1, r.2, ⟨rfl, h2, hx, ?_⟩, ?_, h6⟩
        · simp only [Hp.alloc, if_true, plainO_c, List.all_eq_true] at h5; exact h5
        · rw [h4]; simp [Hp.alloc]
@[simp ↓] theorem su_bi {b xs ts} {z : Wit _} : SY P n ops sf ls F N0 (⟨some d, .call ⟨.builtin b, xs, ts⟩, ty, pos, aft, none⟩ :: l) R z tm h = (d < n ∧ thenY (opD P (.call ⟨.builtin b, xs, ts⟩) tm h) (srK P n ops sf ls F N0 l R tm d h) ⟨⟩) := su rfl (fun _ _ e => by cases e) (fun _ => rfl)
@[simp ↓] theorem ss_store {t x y} {z : Wit _} : SY P n ops sf ls F N0 (⟨none, .store t x y, ty, pos, aft, none⟩ :: l) R z tm h = thenY (opD P (.store t x y) tm h) (srS P n ops sf ls F N0 l R tm h) ⟨⟩ := ss rfl (fun _ _ e => by cases e)
@[simp ↓] theorem su_call {fx xs ts} {z : Wit _} : SY P n ops sf ls F N0 (⟨some d, .call ⟨.value fx, xs, ts⟩, ty, pos, aft, none⟩ :: l) R z tm h = (d < n ∧ callS P n ops sf ls F N0 fx xs l R ⟨⟩ tm d h) := by rw [srC_u rfl, stepS_call]
variable {fx : Operand} {xs : Array Operand}
theorem SY_heap {z : Wit _} (hr : ∀ h', h' = h → SY P n ops sf ls F N0 l R z tm h') : SY P n ops sf ls F N0 l R z tm h := hr h rfl
theorem callS_heap {z : Wit _} (hr : ∀ h', h' = h → callS P n ops sf ls F N0 fx xs l R z tm d h') : callS P n ops sf ls F N0 fx xs l R z tm d h := hr h rfl
end
end Go.Eng
namespace Go.Proofs.YtnncipcldbopgaaGreat
set_option linter.unusedSimpArgs false
set_option linter.unusedVariables false
set_option maxHeartbeats 4000000
open Go Go.Eng
attribute [local irreducible] WD RunD PreD Runs CallOK
structure DrW (hB : Hp) (o k : Nat) (h h' : Hp) : Prop where
  add : Adds hB h'
  nx : h.next ≤ h'.next
  sm : ∀ p, p < h.next → p ≠ o → h'.get p = h.get p
  cur : CurS hB.next o k h'
theorem DrW.refl {hB h : Hp} {o k : Nat} (hA : Adds hB h) (hc : CurS hB.next o k h) : DrW hB o k h h := ⟨hA, Nat.le_refl _, fun _ _ _ => rfl, hc⟩
theorem DrW.trans {hB a b c : Hp} {o k k' : Nat} (x : DrW hB o k a b) (y : DrW hB o k' b c) : DrW hB o k' a c :=
  ⟨y.add, Nat.le_trans x.nx y.nx, fun p hp hne => (y.sm p (Nat.lt_of_lt_of_le hp x.nx) hne).trans (x.sm p hp hne), y.cur⟩
theorem DrW.mono {hB a b : Hp} {o k k' : Nat} (x : DrW hB o k a b) (hk : k ≤ k') : DrW hB o k' a b := ⟨x.add, x.nx, x.sm, x.cur.mono hk⟩
theorem DrW.same {hB a b : Hp} {o k : Nat} (x : DrW hB o k a b) {S : Nat → Prop} (hs : ∀ p, S p → p ≠ o) : Same S a b := ⟨x.nx, fun p hp hl => x.sm p hl (hs p hp)⟩
theorem DrW.of_adds {hB a b : Hp} {o k : Nat} (hA : Adds hB a) (hc : CurS hB.next o k a) (hk : Adds a b) : DrW hB o k a b := ⟨hA.trans hk, hk.1.1, fun p hp _ => hk.1.2 p hp, hc.keep hk.1⟩
theorem CurW.dr {hB a b : Hp} {o k k' : Nat} (hA : Adds hB a) (hc : CurS hB.next o k a) (x : CurW hB.next o k' a b) : DrW hB o k' a b :=
  ⟨hA.wr x.wr (fun p hp => by have := hc.bo.1; omega), by rw [x.nx]; exact Nat.le_refl _, fun p hp hne => x.get p hp hne, x.cur⟩
theorem DrW.app {hB a b c : Hp} {o k : Nat} (x : DrW hB o k a b) (hA : Adds hB a) (ho : o < a.next) (k3 : Adds hB c) (n3 : b.next ≤ c.next) (s3 : ∀ p, p < b.next → p < a.next → c.get p = b.get p) : DrW hB o k a c := by
  refine ⟨k3, Nat.le_trans x.nx n3, fun p hp hne => by rw [s3 p (Nat.lt_of_lt_of_le hp x.nx) hp]; exact x.sm p hp hne, ?_⟩
  exact x.cur.same ⟨n3, fun p hp hl => s3 p hl (by have := hA.1.1; omega)⟩
theorem ints_cur {n : Nat} {a b : Hp} {v : Value} {xs : List Int} (hs : IntsA n a v xs) (hn : a.next ≤ b.next) (hg : ∀ p, n ≤ p → p < a.next → b.get p = a.get p) : IntsA n b v xs := by
  rcases hs with ⟨x, y⟩ | ⟨o, ex, x, y, z, w⟩
  · exact .inl ⟨x, y⟩
  · exact .inr ⟨o, ex, x, y, Nat.lt_of_lt_of_le z hn, by rw [hg o y z]; exact w⟩
theorem lit_ints {F : Nat → Prop} {h : Hp} {p : Nat} {xs : List Int} {own ex : Bool} {es : Nat} (hg : h.get p = .cells (xs.map (.int .i64)) own ex es) (hp : p < h.next) (hF : F p) (hl : xs.length < 2 ^ 63) : IntsF F h (.slice (some ⟨p, 0, none⟩) xs.length xs.length) xs := by
  refine ⟨_, _, rfl, Nat.le_refl _, hl, fun k x hk => ⟨p, 0, _, own, ex, es, rfl, hF, hp, hg, ?_, ?_⟩⟩
  · have := (List.getElem?_eq_some_iff.1 hk).1
    simpa using this
  · obtain ⟨h1, h2⟩ := List.getElem?_eq_some_iff.1 hk
    subst h2
    simp [isInt, List.getD_eq_getElem?_getD, h1]
theorem rows_cur {n : Nat} {a b : Hp} {v : Value} {L : List (List Int)} (hs : IRowsA n a v L) (hn : a.next ≤ b.next) (hg : ∀ p, n ≤ p → p < a.next → b.get p = a.get p) : IRowsA n b v L := by
  rcases hs with ⟨x, y⟩ | ⟨o, ex, us, x, y, z, w, u⟩
  · exact .inl ⟨x, y⟩
  · refine .inr ⟨o, ex, us, x, y, Nat.lt_of_lt_of_le z hn, by rw [hg o y z]; exact w, ?_⟩
    obtain ⟨h1, T, h2, h3, h4⟩ := u
    refine ⟨h1, T, fun k x hk => ⟨(h2 k x hk).1, Nat.lt_of_lt_of_le (h2 k x hk).2.1 hn, (h2 k x hk).2.2⟩, h3, fun k hk => (h4 k hk).same ⟨hn, fun x hx hl => hg x (h2 k x hx).1 hl⟩⟩
theorem DrW.put {hB a b : Hp} {o k : Nat} (x : DrW hB o k a b) (hA : Adds hB a) (ho : o < a.next) {p : Nat} (hp : a.next ≤ p) (c : List Value) (e : Bool) (n : Nat) : DrW hB o k a (b.put p (.cells c true e n)) := by
  have h1 := hA.1.1
  refine ⟨x.add.put (by omega) (fun _ => rfl), x.nx, fun q hq hne => ?_, x.cur.same ⟨Nat.le_refl _, fun q hq _ => ?_⟩⟩
  · simp only [Hp.put, show q ≠ p by omega, if_false]; exact x.sm q hq hne
  · simp only [Hp.put, show q ≠ p by omega, if_false]
theorem cur_mk {h hh : Hp} {v : Value} {bs : List Int} (hb : BytesF h.next h v bs) (hk : Keeps h hh) {o : Nat} (ho : h.next ≤ o ∧ o < hh.next) (hg : hh.get o = .cells [v, .int .i64 0, .int .u64 0] true true 1) : CurS h.next o 0 hh :=
  ⟨ho, v, bs, 0, 0, by simpa using hg, hb.same (h := h) (h' := hh) (.of_keeps hk), Nat.le_refl _⟩
theorem choices_ok (hB h : Hp) (o k : Nat) (hA : Adds hB h) (hc : CurS hB.next o k h) (hk : k + 100 < 2 ^ 40) : ∃ v h', CallOK Tryz.prog 69 #[.pointer (some ⟨o, 0, none⟩)] h v h' ∧ DrW hB o (k + 30) h h' ∧ ∃ xs, IntsA h.next h' v xs ∧ xs.length ≤ 13 := by
  obtain ⟨v1, h1, c1, r1, q1, l1, w1⟩ := pick_ok hB.next o k h 12 hc (by omega)
  subst q1
  have d1 := w1.dr hA hc
  have hr1 := l1 (by omega)
  refine callY_L (args := [.pointer (some ⟨o, 0, none⟩)]) 25 _ [.tmp 2] Tryz.func69 rfl rfl rfl ?_
  try simp (disch := first | omega | (simp; done) | fail) [wrap64c, if_pos, if_neg]
  refine callG_c (by simp) (by simp) ?ha (c1) ?_
  (case ha => simp (disch := first | omega | (simp; done) | fail) [wrap64c, if_pos, if_neg])
  try simp (disch := first | omega | (simp; done) | fail) [wrap64c, if_pos, if_neg]
  refine WD_loopC [0] (fun m tm h' => ∃ v xs j, m = r1 - j ∧ tm 3 = v ∧ tm 4 = .int .i64 ((r1 : Int) - (j : Int)) ∧ (IntsA h.next h' v xs) ∧ (DrW hB o (k + 2 + 2 * j) h h') ∧ (j ≤ r1) ∧ (xs.length = j)) _ ⟨Value.slice none 0 0, [], 0, rfl, (by simp (disch := first | omega | (simp; done) | fail) [wrap64c, if_pos, if_neg]), (by simp), (.nil _ _), (by simpa using d1), (by first | omega | assumption | (simp (disch := first | omega | (simp; done) | fail) [wrap64c, if_pos, if_neg] <;> omega)), rfl⟩ ?_
  rintro m tm h' hFr ⟨v, xs, j, rfl, e3, e4, hi, hd, hj, hx⟩
  simp only [FrameL] at hFr
  obtain ⟨f0_0, -⟩ := hFr
  try simp (disch := first | omega | (simp; done) | fail) [wrap64c, if_pos, if_neg] at f0_0
  have e0 := f0_0
  have ntv := hi.nt
  by_cases ha : j < r1
  · have ha' : 0 < (r1 : Int) - (j : Int) := by omega
    obtain ⟨v2, h2, c2, r2, q2, l2, w2⟩ := pick_ok hB.next o (k + 2 + 2 * j) h' 7 hd.cur (by omega)
    subst q2
    have d2 := hd.trans (w2.dr hd.add hd.cur)
    have hi2 : IntsA h.next h2 v xs := ints_cur hi (by rw [w2.nx]; exact Nat.le_refl _) (fun p h1 h2 => w2.get p h2 (by have := hc.bo; omega))
    obtain ⟨v3, h3, hap, hi3, k3, n3, s3⟩ := appI hi2 (r2 : Int) (by omega) d2.nx d2.add hA.1.1
    try simp (disch := first | omega | (simp; done) | fail) [wrap64c, if_pos, if_neg, e0, e3, e4, ntv, ha']
    refine callG_c (by simp) (by simp) ?ha (c2) ?_
    (case ha => simp (disch := first | omega | (simp; done) | fail) [wrap64c, if_pos, if_neg, e0, e3, e4, ntv, ha'])
    try simp (disch := first | omega | (simp; done) | fail) [wrap64c, if_pos, if_neg, e0, e3, e4, ntv, ha', hap]
    refine loopK_next _ ?hm ?hf ⟨v3, xs ++ [(r2 : Int)], j + 1, rfl, (by simp (disch := first | omega | (simp; done) | fail) [wrap64c, if_pos, if_neg, e0, e3, e4, ntv, ha'] <;> omega), (by simp; omega), hi3, ((d2.app hA hc.bo.2 k3 (Nat.le_of_lt n3) s3).mono (by omega)), (by omega), (by simp [hx])⟩
    (case hm => first | omega | (simp; omega))
    (case hf => simp [FrameL, e0, e3, e4, ntv, ha', f0_0])
  · have ha' : ¬ 0 < (r1 : Int) - (j : Int) := by omega
    obtain ⟨v4, h4, c4, b4, q4, w4⟩ := one_ok hB.next o (k + 2 + 2 * j) h' 14 hd.cur (by omega)
    subst q4
    have d4 := hd.trans (w4.dr hd.add hd.cur)
    have hi4 : IntsA h.next h4 v xs := ints_cur hi (by rw [w4.nx]; exact Nat.le_refl _) (fun p h1 h2 => w4.get p h2 (by have := hc.bo; omega))
    try simp (disch := first | omega | (simp; done) | fail) [wrap64c, if_pos, if_neg, e0, e3, e4, ntv, ha']
    refine callG_c (by simp) (by simp) ?ha (c4) ?_
    (case ha => simp (disch := first | omega | (simp; done) | fail) [wrap64c, if_pos, if_neg, e0, e3, e4, ntv, ha'])
    cases b4
    · try simp (disch := first | omega | (simp; done) | fail) [wrap64c, if_pos, if_neg, e0, e3, e4, ntv, ha']
      exact done_ret rfl (by simp; exact ⟨d4.mono (by omega), xs, hi4, by omega⟩)
    · try simp (disch := first | omega | (simp; done) | fail) [wrap64c, if_pos, if_neg, e0, e3, e4, ntv, ha']
      first | refine WY_heap fun h5 q_h5 => ?_ | refine callG_heap fun h5 q_h5 => ?_ | refine callP_heap fun h5 q_h5 => ?_ | refine callS_heap fun h5 q_h5 => ?_ | refine RY_heap fun h5 q_h5 => ?_ | refine PY_heap fun h5 q_h5 => ?_ | refine SY_heap fun h5 q_h5 => ?_ | refine doneY_heap fun h5 q_h5 => ?_ | refine loopK_heap fun h5 q_h5 => ?_ | refine thenY_heap fun h5 q_h5 => ?_ | refine thenM_heap fun h5 q_h5 => ?_
      have k5 : Adds h4 h5 := by rw [q_h5]; exact (by first | exact aK | exact kK)
      have d5 := d4.trans (DrW.of_adds d4.add d4.cur k5)
      have hi5 : IntsA h.next h5 v xs := hi4.keep k5.1
      have hl5 : IntsF (fun x => x ≠ o) h5 (.slice (some ⟨h4.next, 0, none⟩) 2 2) [-1, 4611686018427387904] := by
        exact lit_ints (xs := [-1, 4611686018427387904]) (own := true) (ex := true) (es := 1) (by simp [q_h5]) (by simp [q_h5]) (by have := hc.bo; have := d4.nx; omega) (by simp)
      obtain ⟨v6, h6, c6, i6, p6, q6, w6⟩ := among_ok hB.next o (k + 2 + 2 * j + 2) h5 _ _ d5.cur (by omega) hl5 (by simp)
      subst q6
      have d6 := d5.trans (w6.dr d5.add d5.cur)
      have hi6 : IntsA h.next h6 v xs := ints_cur hi5 (by rw [w6.nx]; exact Nat.le_refl _) (fun p h1 h2 => w6.get p h2 (by have := hc.bo; omega))
      generalize hx6 : [-1, 4611686018427387904][i6] = x6 at c6
      obtain ⟨v7, h7, hap, hi7, k7, n7, s7⟩ := appI hi6 x6 (by omega) d6.nx d6.add hA.1.1
      refine callG_c (by simp) (by simp) ?ha (c6) ?_
      (case ha => simp (disch := first | omega | (simp; done) | fail) [wrap64c, if_pos, if_neg, e0, e3, e4, ntv, ha'])
      try simp (disch := first | omega | (simp; done) | fail) [wrap64c, if_pos, if_neg, e0, e3, e4, ntv, ha', hap]
      exact done_ret rfl (by simp; exact ⟨(d6.app hA hc.bo.2 k7 (Nat.le_of_lt n7) s7).mono (by omega), _, hi7, by simp; omega⟩)
end Go.Proofs.YtnncipcldbopgaaGreat
namespace Go.Proofs.YtnncipcldbopgaaGreat
set_option linter.unusedSimpArgs false
set_option linter.unusedVariables false
set_option maxHeartbeats 4000000
open Go Go.Eng
def nAnd (a b : Nat) : Nat := a &&& b
def nOr (a b : Nat) : Nat := a ||| b
def nXor (a b : Nat) : Nat := a ^^^ b
def nShr (a i : Nat) : Nat := a >>> i
def bit (i : Nat) : Nat := 2 ^ i
theorem nOr_bit (a b i : Nat) : (nOr a b).testBit i = (a.testBit i || b.testBit i) := Nat.testBit_or a b i
theorem nXor_bit (a b i : Nat) : (nXor a b).testBit i = (a.testBit i ^^ b.testBit i) := Nat.testBit_xor a b i
theorem bit_bit (j i : Nat) : (bit j).testBit i = decide (j = i) := Nat.testBit_two_pow
theorem ndiff_bit (a b i : Nat) : (ndiff a b).testBit i = (a.testBit i && !b.testBit i) := by
  unfold ndiff
  rw [Nat.testBit_xor, Nat.testBit_and]
  cases a.testBit i <;> cases b.testBit i <;> rfl
theorem ndiff_one {a i : Nat} (h : a.testBit i = true) : ndiff a (bit i) = nXor a (bit i) := by
  apply Nat.eq_of_testBit_eq
  intro j
  rw [ndiff_bit, nXor_bit, bit_bit]
  by_cases e : i = j
  · subst e; simp [h]
  · simp [e]
theorem nShr_le (a i : Nat) : nShr a i ≤ a := by unfold nShr; rw [Nat.shiftRight_eq_div_pow]; exact Nat.div_le_self _ _
theorem bit_pos (i : Nat) : 1 ≤ bit i := Nat.two_pow_pos i
theorem bit_mono {i j : Nat} (h : i ≤ j) : bit i ≤ bit j := Nat.pow_le_pow_right (by omega) h
theorem bit7 {i : Nat} (h : i ≤ 7) : 1 ≤ bit i ∧ bit i ≤ 128 := ⟨bit_pos i, bit_mono h⟩
theorem bit_lt7 {i : Nat} (h : i < 7) : 1 ≤ bit i ∧ bit i ≤ 64 := ⟨bit_pos i, bit_mono (j := 6) (by omega)⟩
theorem bit20 {i : Nat} (h : i ≤ 20) : 1 ≤ bit i ∧ bit i ≤ 1048576 := ⟨bit_pos i, bit_mono (j := 20) h⟩
theorem nAnd_le' (a b : Nat) : nAnd a b ≤ b := Nat.and_le_right
theorem nOr_lt {a b n : Nat} (ha : a < bit n) (hb : b < bit n) : nOr a b < bit n := Nat.or_lt_two_pow ha hb
theorem nXor_lt {a b n : Nat} (ha : a < bit n) (hb : b < bit n) : nXor a b < bit n := Nat.xor_lt_two_pow ha hb
theorem ndiff_lt {a b n : Nat} (ha : a < bit n) : ndiff a b < bit n := by
  unfold ndiff
  exact Nat.xor_lt_two_pow ha (Nat.lt_of_le_of_lt Nat.and_le_left ha)
theorem nOr128 {a b : Nat} (ha : a < 128) (hb : b < 128) : nOr a b < 128 := nOr_lt (n := 7) ha hb
theorem ndiff128 {a b : Nat} (ha : a < 128) : ndiff a b < 128 := ndiff_lt (n := 7) ha
theorem nXor128 {a b : Nat} (ha : a < 128) (hb : b < 128) : nXor a b < 128 := nXor_lt (n := 7) ha hb
theorem lt_bit_of {a n : Nat} (h : ∀ i, n ≤ i → a.testBit i = false) : a < bit n := Nat.lt_pow_two_of_testBit a h
theorem hi_bit {a n i : Nat} (h : a < bit n) (hi : n ≤ i) : a.testBit i = false := Nat.testBit_lt_two_pow (Nat.lt_of_lt_of_le h (Nat.pow_le_pow_right (by omega) hi))
theorem bit_lt_bit {i n : Nat} (h : i < n) : bit i < bit n := Nat.pow_lt_pow_right (by omega) h
theorem full_bit (n i : Nat) : (bit n - 1).testBit i = decide (i < n) := Nat.testBit_two_pow_sub_one n i
theorem eq_bits {a b : Nat} (h : ∀ i, a.testBit i = b.testBit i) : a = b := Nat.eq_of_testBit_eq h
theorem eq_bits_n {a b n : Nat} (ha : a < bit n) (hb : b < bit n) (h : ∀ i, i < n → a.testBit i = b.testBit i) : a = b := by
  apply eq_bits
  intro i
  by_cases hi : i < n
  · exact h i hi
  · rw [hi_bit ha (by omega), hi_bit hb (by omega)]
theorem ndiff_zero (a b : Nat) : ndiff a b = 0 ↔ ∀ i, a.testBit i = true → b.testBit i = true := by
  constructor
  · intro h i hi
    have := ndiff_bit a b i
    rw [h, hi] at this
    simpa using this.symm
  · intro h
    apply eq_bits
    intro i
    rw [ndiff_bit, Nat.zero_testBit]
    cases hb : a.testBit i
    · rfl
    · rw [h i hb]; rfl
theorem nShr_and (a i : Nat) : (nAnd (nShr a i) 1 = 1) = (a.testBit i = true) := by
  unfold nAnd nShr Nat.testBit
  rw [Nat.and_comm]
  rcases Nat.mod_two_eq_zero_or_one (a >>> i) with h | h <;> simp [Nat.one_and_eq_mod_two, h]
theorem nShr_and01 (a i : Nat) : nAnd (nShr a i) 1 = if a.testBit i = true then 1 else 0 := by
  have h := nShr_and a i
  have h2 : nAnd (nShr a i) 1 ≤ 1 := nAnd_le' _ _
  by_cases hb : a.testBit i = true
  · rw [if_pos hb]; exact h.mpr hb
  · rw [if_neg hb]
    have : ¬ nAnd (nShr a i) 1 = 1 := fun e => hb (h.mp e)
    omega
theorem nShr_mod (a i : Nat) : nShr a i % 2 = if a.testBit i = true then 1 else 0 := by
  unfold nShr Nat.testBit
  rw [Nat.and_comm]
  rcases Nat.mod_two_eq_zero_or_one (a >>> i) with h | h <;> simp [Nat.and_one_is_mod, h]
theorem opAnd (x y : Int) (hx : 0 ≤ x) (hx2 : x < 9223372036854775808) (hy : 0 ≤ y) (hy2 : y < 9223372036854775808) : bAnd .i64 x y = ((nAnd x.toNat y.toNat : Nat) : Int) := bAnd_nat x y hx hx2 hy hy2
theorem opOr (x y : Int) (hx : 0 ≤ x) (hx2 : x < 9223372036854775808) (hy : 0 ≤ y) (hy2 : y < 9223372036854775808) : bOr .i64 x y = ((nOr x.toNat y.toNat : Nat) : Int) := bOr_nat x y hx hx2 hy hy2
theorem opXor (x y : Int) (hx : 0 ≤ x) (hx2 : x < 9223372036854775808) (hy : 0 ≤ y) (hy2 : y < 9223372036854775808) : bXor .i64 x y = ((nXor x.toNat y.toNat : Nat) : Int) := bXor_nat x y hx hx2 hy hy2
theorem opDiff (x y : Int) (hx : 0 ≤ x) (hx2 : x < 9223372036854775808) (hy : 0 ≤ y) (hy2 : y < 9223372036854775808) : bAndNot .i64 x y = ((ndiff x.toNat y.toNat : Nat) : Int) := bAndNot_nat x y hx hx2 hy hy2
theorem opShr (x y : Int) (hx : 0 ≤ x) (hy : 0 ≤ y) (hy2 : y < 64) : bShr .i64 x y = ((nShr x.toNat y.toNat : Nat) : Int) := bShr_nat x y hx hy hy2
theorem opBit (y : Int) (hy : 0 ≤ y) (hy2 : y < 40) : bShl .i64 1 y = ((bit y.toNat : Nat) : Int) := by
  rw [bShl_nat 1 y (by omega) (by omega) hy hy2]
  unfold bit
  rw [Nat.shiftLeft_eq]
  simp
def maskN (p : Nat → Bool) : Nat → Nat
  | 0 => 0
  | k + 1 => if p k then nOr (maskN p k) (bit k) else maskN p k
theorem maskN_lt (p : Nat → Bool) : ∀ k, maskN p k < bit k
  | 0 => by simp [maskN, bit]
  | k + 1 => by
    have h1 := maskN_lt p k
    have h2 : bit k < bit (k + 1) := bit_lt_bit (Nat.lt_succ_self k)
    unfold maskN
    split
    · exact nOr_lt (by omega) h2
    · omega
theorem maskN_bit (p : Nat → Bool) : ∀ k i, (maskN p k).testBit i = (decide (i < k) && p i)
  | 0, i => by simp [maskN]
  | k + 1, i => by
    unfold maskN
    by_cases hp : p k = true
    · rw [if_pos hp, nOr_bit, maskN_bit p k i, bit_bit]
      by_cases e : k = i
      · subst e; simp [hp]
      · by_cases h : i < k
        · simp [h, e, show i < k + 1 by omega]
        · simp [h, e, show ¬ i < k + 1 by omega]
    · rw [if_neg hp, maskN_bit p k i]
      by_cases e : k = i
      · subst e; simp [hp]
      · by_cases h : i < k
        · simp [h, show i < k + 1 by omega]
        · simp [h, show ¬ i < k + 1 by omega]
def maskL (p : Nat → Bool) : List Nat → Nat → Nat
  | [], o => o
  | i :: l, o => maskL p l (if p i then nOr o (bit i) else o)
theorem maskL_bit (p : Nat → Bool) : ∀ (l : List Nat) (o i : Nat), (maskL p l o).testBit i = (o.testBit i || (decide (i ∈ l) && p i))
  | [], o, i => by simp [maskL]
  | j :: l, o, i => by
    rw [maskL, maskL_bit p l]
    by_cases e : i = j
    · subst e
      cases hp : p i <;> simp [nOr_bit, bit_bit]
    · cases hp : p j <;> simp [nOr_bit, bit_bit, e, Ne.symm e]
theorem maskL_snoc (p : Nat → Bool) : ∀ (l : List Nat) (j o : Nat), maskL p (l ++ [j]) o = if p j then nOr (maskL p l o) (bit j) else maskL p l o
  | [], j, o => by simp [maskL]
  | i :: l, j, o => by simp only [List.cons_append, maskL, maskL_snoc p l]
def itemsN (a : Nat) : List Nat := (List.range 7).filter fun i => a.testBit i
theorem mem_items {a i : Nat} : i ∈ itemsN a ↔ i < 7 ∧ a.testBit i = true := by simp [itemsN]
def innerN (M : Nat → Bool) (a : Nat) : Nat := maskN (fun i => a.testBit i && M (nXor a (bit i))) 7
def outerN (M : Nat → Bool) (n a : Nat) : Nat := maskN (fun i => !a.testBit i && M (nOr a (bit i))) n
theorem innerN_items (M : Nat → Bool) (a : Nat) : maskL (fun i => M (ndiff a (bit i))) (itemsN a) 0 = innerN M a := by
  apply eq_bits
  intro i
  rw [maskL_bit, innerN, maskN_bit, Nat.zero_testBit, Bool.false_or]
  by_cases hi : i < 7
  · by_cases hb : a.testBit i = true
    · rw [ndiff_one hb]; simp [mem_items, hi, hb]
    · simp [mem_items, hi, hb]
  · simp [mem_items, hi]
def toN (xs : List Nat) : List Int := xs.map fun (n : Nat) => (n : Int)
@[simp] theorem toN_length (xs : List Nat) : (toN xs).length = xs.length := by simp [toN]
theorem toN_get (xs : List Nat) (i : Nat) (h : i < (toN xs).length) : (toN xs)[i] = ((xs[i]'(by simpa using h) : Nat) : Int) := by simp [toN]
theorem mem_toN {a : Nat} {xs : List Nat} : (a : Int) ∈ toN xs ↔ a ∈ xs := by
  simp only [toN, List.mem_map]
  constructor
  · rintro ⟨b, hb, e⟩
    have : b = a := by omega
    exact this ▸ hb
  · intro h; exact ⟨a, h, rfl⟩
theorem mem_toN' {x : Int} {xs : List Nat} (h : x ∈ toN xs) : ∃ a : Nat, x = a ∧ a ∈ xs := by
  simp only [toN, List.mem_map] at h
  obtain ⟨b, hb, e⟩ := h
  exact ⟨b, e.symm, hb⟩
theorem toN_inj {xs ys : List Nat} : toN xs = toN ys ↔ xs = ys := by
  constructor
  · intro h
    unfold toN at h
    exact List.map_inj_right (fun a b e => by omega) |>.1 h
  · intro h; rw [h]
theorem toN_srt {xs : List Nat} : (toN xs).Pairwise (· < ·) ↔ xs.Pairwise (· < ·) := by
  simp [toN, List.pairwise_map]
theorem toN_of {X : List Int} (h : ∀ x ∈ X, 0 ≤ x) : X = toN (X.map Int.toNat) := by
  unfold toN
  rw [List.map_map]
  conv => lhs; rw [← List.map_id X]
  apply List.map_congr_left
  intro x hx
  have := h x hx
  simp; omega
theorem toN_append (xs ys : List Nat) : toN (xs ++ ys) = toN xs ++ toN ys := by simp [toN]
theorem toN_snoc (xs : List Nat) (y : Nat) : toN (xs ++ [y]) = toN xs ++ [(y : Int)] := by simp [toN]
theorem srt_len {xs : List Nat} {lo m : Nat} (hs : xs.Pairwise (· < ·)) (hl : ∀ x ∈ xs, lo ≤ x ∧ x < m) : xs.length ≤ m - lo := by
  induction xs generalizing lo with
  | nil => simp
  | cons a l ih =>
    have ha := hl a (by simp)
    have h1 := ih (lo := a + 1) (List.pairwise_cons.1 hs).2 (fun x hx => ⟨(List.pairwise_cons.1 hs).1 x hx, (hl x (by simp [hx])).2⟩)
    simp only [List.length_cons]
    omega
def fam (xs : List Nat) (a : Nat) : Bool := decide (a ∈ xs)
structure SpGood (n : Nat) (xs : List Nat) : Prop where
  n1 : 1 ≤ n
  n7 : n ≤ 7
  srt : xs.Pairwise (· < ·)
  lt : ∀ x ∈ xs, x < bit n
  zero : 0 ∈ xs
  full : bit n - 1 ∈ xs
  inn : ∀ x ∈ xs, x ≠ 0 → innerN (fam xs) x ≠ 0
  uni : ∀ x ∈ xs, ∀ y ∈ xs, nOr x y ∈ xs
theorem SpGood.len {n : Nat} {xs : List Nat} (g : SpGood n xs) : xs.length ≤ bit n := by
  have := srt_len (lo := 0) g.srt (fun x hx => ⟨Nat.zero_le _, g.lt x hx⟩)
  omega
theorem SpGood.len7 {n : Nat} {xs : List Nat} (g : SpGood n xs) : xs.length ≤ 128 := by
  have h1 := g.len
  have h2 := bit7 g.n7
  omega
theorem SpGood.lt7 {n : Nat} {xs : List Nat} (g : SpGood n xs) : ∀ x ∈ xs, x < 128 := fun x hx => by
  have h1 := g.lt x hx
  have h2 := bit7 g.n7
  omega
def SpOK (N : Int) (X : List Int) : Prop := ∃ n xs, N = (n : Nat) ∧ X = toN xs ∧ SpGood n xs
open Classical in
noncomputable def spB (N : Int) (X : List Int) : Bool := decide (SpOK N X)
theorem spB_true {N : Int} {X : List Int} (h : spB N X = true) : ∃ n xs, N = (n : Nat) ∧ X = toN xs ∧ SpGood n xs := by
  unfold spB at h
  exact (@decide_eq_true_iff _ (Classical.propDecidable _)).1 h
theorem spB_of {n : Nat} {xs : List Nat} (g : SpGood n xs) : spB n (toN xs) = true := by
  unfold spB
  exact (@decide_eq_true_iff _ (Classical.propDecidable _)).2 ⟨n, xs, rfl, rfl, g⟩
theorem spB_false {N : Int} {X : List Int} (h : ∀ n xs, N = (n : Nat) → X = toN xs → SpGood n xs → False) : spB N X = false := by
  unfold spB
  exact (@decide_eq_false_iff_not _ (Classical.propDecidable _)).2 (fun ⟨n, xs, a, b, c⟩ => h n xs a b c)
def Rising (X : List Int) (lo hi : Int) : Prop := X.Pairwise (· < ·) ∧ ∀ x ∈ X, lo ≤ x ∧ x ≤ hi
open Classical in
noncomputable def risB (X : List Int) (lo hi : Int) : Bool := decide (Rising X lo hi)
theorem risB_true {X : List Int} {lo hi : Int} (h : risB X lo hi = true) : Rising X lo hi := by
  unfold risB at h
  exact (@decide_eq_true_iff _ (Classical.propDecidable _)).1 h
theorem risB_iff {X : List Int} {lo hi : Int} : risB X lo hi = true ↔ Rising X lo hi := ⟨risB_true, fun h => by unfold risB; exact (@decide_eq_true_iff _ (Classical.propDecidable _)).2 h⟩
theorem SpGood.rising {n : Nat} {xs : List Nat} (g : SpGood n xs) : Rising (toN xs) 0 ((bit n : Nat) - 1 : Int) := by
  refine ⟨toN_srt.2 g.srt, fun x hx => ?_⟩
  obtain ⟨a, rfl, ha⟩ := mem_toN' hx
  have h1 := g.lt a ha
  omega
theorem Rising.nats {X : List Int} {n : Nat} (h : Rising X 0 ((bit n : Nat) - 1 : Int)) : ∃ xs : List Nat, X = toN xs ∧ xs.Pairwise (· < ·) ∧ (∀ x ∈ xs, x < bit n) ∧ xs.length ≤ bit n := by
  have e := toN_of (X := X) (fun x hx => (h.2 x hx).1)
  have h1 : (X.map Int.toNat).Pairwise (· < ·) := by
    rw [← toN_srt, ← e]; exact h.1
  have h2 : ∀ x ∈ X.map Int.toNat, x < bit n := by
    intro x hx
    obtain ⟨y, hy, rfl⟩ := List.mem_map.1 hx
    have := h.2 y hy
    have := bit_pos n
    omega
  refine ⟨X.map Int.toNat, e, h1, h2, ?_⟩
  have := srt_len (lo := 0) h1 (fun x hx => ⟨Nat.zero_le _, h2 x hx⟩)
  omega
end Go.Proofs.YtnncipcldbopgaaGreat
namespace Go.Proofs.YtnncipcldbopgaaGreat
set_option linter.unusedSimpArgs false
set_option linter.unusedVariables false
set_option maxHeartbeats 4000000
open Go Go.Eng
def pcF : Nat → Nat → Nat
  | 0, _ => 0
  | k + 1, a => a % 2 + pcF k (a / 2)
def pcN (a : Nat) : Nat := pcF 7 a
theorem pcF_zero : ∀ k, pcF k 0 = 0
  | 0 => rfl
  | k + 1 => by simp [pcF, pcF_zero k]
theorem pcF_le : ∀ k a, pcF k a ≤ k
  | 0, _ => Nat.le_refl _
  | k + 1, a => by have := pcF_le k (a / 2); have := Nat.mod_lt a (y := 2) (by omega); simp only [pcF]; omega
theorem pcN_le (a : Nat) : pcN a ≤ 7 := pcF_le 7 a
theorem pc_or : ∀ s, s < 128 → ∀ i, i < 7 → s.testBit i = false → pcN (s ||| 2 ^ i) = pcN s + 1 := by decide +kernel
theorem pcN_or {s i : Nat} (h1 : s < 128) (h2 : i < 7) (h3 : s.testBit i = false) : pcN (nOr s (bit i)) = pcN s + 1 := pc_or s h1 i h2 h3
theorem pc_full : ∀ n, n < 8 → pcN (2 ^ n - 1) = n := by decide +kernel
theorem pcN_full {n : Nat} (h : n ≤ 7) : pcN (bit n - 1) = n := pc_full n (by omega)
theorem pc_lt : ∀ n, n < 8 → ∀ s, s < 2 ^ n → pcN s ≤ n ∧ (pcN s = n → s = 2 ^ n - 1) := by decide +kernel
theorem pcN_lt {n s : Nat} (h : n ≤ 7) (hs : s < bit n) : pcN s ≤ n ∧ (pcN s = n → s = bit n - 1) := pc_lt n (by omega) s hs
theorem xor_less : ∀ y, y < 128 → ∀ i, i < 7 → y.testBit i = true → y ^^^ 2 ^ i < y := by decide +kernel
theorem maskN_ne {p : Nat → Bool} {k : Nat} : maskN p k ≠ 0 ↔ ∃ i, i < k ∧ p i = true := by
  constructor
  · intro h
    apply Classical.byContradiction
    intro hn
    apply h
    apply eq_bits
    intro i
    rw [maskN_bit, Nat.zero_testBit]
    by_cases hi : i < k
    · cases hp : p i
      · simp
      · exact absurd ⟨i, hi, hp⟩ hn
    · simp [hi]
  · rintro ⟨i, hi, hp⟩ h
    have := maskN_bit p k i
    rw [h, hp] at this
    simp [hi] at this
theorem items_ne {a : Nat} (ha : a < 128) : a ≠ 0 → itemsN a ≠ [] := by
  intro h hn
  apply h
  apply eq_bits_n (n := 7) ha (by decide)
  intro i hi
  rw [Nat.zero_testBit]
  cases hb : a.testBit i
  · rfl
  · have : i ∈ itemsN a := mem_items.2 ⟨hi, hb⟩
    rw [hn] at this
    cases this
theorem outerN_bit (M : Nat → Bool) (n a i : Nat) : (outerN M n a).testBit i = (decide (i < n) && (!a.testBit i && M (nOr a (bit i)))) := maskN_bit _ _ _
theorem SpGood.next {n : Nat} {xs : List Nat} (g : SpGood n xs) {x : Nat} (hx : x ∈ xs) : ∀ (y : Nat), y ∈ xs → (∃ j, y.testBit j = true ∧ x.testBit j = false) → ∃ i, i < n ∧ x.testBit i = false ∧ nOr x (bit i) ∈ xs ∧ y.testBit i = true := by
  intro y
  induction y using Nat.strongRecOn with
  | _ y ih =>
    rintro hy ⟨j, hj1, hj2⟩
    have hy0 : y ≠ 0 := by rintro rfl; simp at hj1
    obtain ⟨i, hi7, hp⟩ := maskN_ne.1 (g.inn y hy hy0)
    simp only [Bool.and_eq_true] at hp
    obtain ⟨hi, hM⟩ := hp
    have hy' : nXor y (bit i) ∈ xs := of_decide_eq_true hM
    have hin : i < n := by
      apply Classical.byContradiction
      intro hn
      rw [hi_bit (g.lt y hy) (by omega)] at hi
      cases hi
    have hlt : nXor y (bit i) < y := xor_less y (g.lt7 y hy) i hi7 hi
    by_cases hs : ∃ j, (nXor y (bit i)).testBit j = true ∧ x.testBit j = false
    · obtain ⟨k, h1, h2, h3, h4⟩ := ih _ hlt hy' hs
      refine ⟨k, h1, h2, h3, ?_⟩
      rw [nXor_bit, bit_bit] at h4
      by_cases e : i = k
      · subst e; exact hi
      · simpa [e] using h4
    · have hxi : x.testBit i = false := by
        cases hb : x.testBit i
        · rfl
        · exfalso
          apply hs
          refine ⟨j, ?_, hj2⟩
          rw [nXor_bit, bit_bit]
          have : ¬ i = j := by rintro rfl; rw [hb] at hj2; cases hj2
          simp [this, hj1]
      refine ⟨i, hin, hxi, ?_, hi⟩
      have e : nOr x y = nOr x (bit i) := by
        apply eq_bits
        intro k
        rw [nOr_bit, nOr_bit, bit_bit]
        by_cases ek : i = k
        · subst ek; simp [hi]
        · cases hk : y.testBit k
          · simp [ek]
          · have hxk : x.testBit k = true := by
              cases hb : x.testBit k
              · exact absurd ⟨k, by rw [nXor_bit, bit_bit]; simp [ek, hk], hb⟩ hs
              · rfl
            simp [hxk]
      rw [← e]
      exact g.uni x hx y hy
theorem SpGood.bits {n : Nat} {xs : List Nat} (g : SpGood n xs) {x : Nat} (hx : x ∈ xs) (h : ∀ i, i < n → x.testBit i = true) : x = bit n - 1 :=
  eq_bits_n (g.lt x hx) (by have := bit_pos n; omega) fun i hi => by rw [h i hi, full_bit]; simp [hi]
theorem SpGood.outer {n : Nat} {xs : List Nat} (g : SpGood n xs) {x : Nat} (hx : x ∈ xs) (hne : x ≠ bit n - 1) : outerN (fam xs) n x ≠ 0 := by
  have : ∃ j, (bit n - 1).testBit j = true ∧ x.testBit j = false := by
    apply Classical.byContradiction
    intro hn
    apply hne
    refine g.bits hx fun i hi => ?_
    cases hb : x.testBit i
    · exact absurd ⟨i, by rw [full_bit]; simp [hi], hb⟩ hn
    · rfl
  obtain ⟨i, h1, h2, h3, _⟩ := g.next hx _ g.full this
  exact maskN_ne.2 ⟨i, h1, by simp [h2, fam, h3]⟩
theorem SpGood.outer7 {n : Nat} {xs : List Nat} (g : SpGood n xs) (x : Nat) : outerN (fam xs) 7 x = outerN (fam xs) n x := by
  apply eq_bits
  intro i
  rw [outerN_bit, outerN_bit]
  by_cases hi : i < n
  · have := g.n7; simp [hi, show i < 7 by omega]
  · have : fam xs (nOr x (bit i)) = false := by
      unfold fam
      rw [decide_eq_false_iff_not]
      intro hm
      have h1 := hi_bit (i := i) (g.lt _ hm) (by omega)
      rw [nOr_bit, bit_bit] at h1
      simp at h1
    simp [this, hi]
theorem SpGood.learn {n : Nat} {xs : List Nat} (g : SpGood n xs) {x i : Nat} (hi : i ∈ itemsN (outerN (fam xs) n x)) : i < n ∧ x.testBit i = false ∧ nOr x (bit i) ∈ xs := by
  have h1 := (mem_items.1 hi).2
  rw [outerN_bit] at h1
  simp only [Bool.and_eq_true, Bool.not_eq_true', decide_eq_true_eq] at h1
  exact ⟨h1.1, h1.2.1, of_decide_eq_true h1.2.2⟩
theorem outerN_lt (M : Nat → Bool) (n a : Nat) : outerN M n a < bit n := maskN_lt _ _
def pickN (ch : List Int) (k : Nat) (l : List Nat) : Nat := if h : k < ch.length then l.getD (ch[k].toNat % l.length) 0 else l.getD 0 0
theorem pickN_mem {ch : List Int} {k : Nat} {l : List Nat} (h : l ≠ []) : pickN ch k l ∈ l := by
  have hl : 0 < l.length := List.length_pos_iff.2 h
  unfold pickN
  split
  · have := Nat.mod_lt (ch[k].toNat) hl
    rw [List.getD_eq_getElem?_getD, List.getElem?_eq_getElem this]
    exact List.getElem_mem this
  · rw [List.getD_eq_getElem?_getD, List.getElem?_eq_getElem hl]
    exact List.getElem_mem hl
def walkS (M : Nat → Bool) (n : Nat) (ch : List Int) : Nat → List Nat × Nat
  | 0 => ([], 0)
  | k + 1 => ((walkS M n ch k).1 ++ [pickN ch k (itemsN (outerN M n (walkS M n ch k).2))], nOr (walkS M n ch k).2 (bit (pickN ch k (itemsN (outerN M n (walkS M n ch k).2)))))
theorem walk_len (M : Nat → Bool) (n : Nat) (ch : List Int) : ∀ k, (walkS M n ch k).1.length = k
  | 0 => rfl
  | k + 1 => by simp [walkS, walk_len M n ch k]
theorem walk_inv {n : Nat} {xs : List Nat} (g : SpGood n xs) (ch : List Int) : ∀ k, k ≤ n → (walkS (fam xs) n ch k).2 ∈ xs ∧ pcN (walkS (fam xs) n ch k).2 = k
  | 0, _ => ⟨g.zero, by show pcN 0 = 0; decide⟩
  | k + 1, hk => by
    obtain ⟨h1, h2⟩ := walk_inv g ch k (by omega)
    have hne : (walkS (fam xs) n ch k).2 ≠ bit n - 1 := by intro e; rw [e, pcN_full g.n7] at h2; omega
    have hm := pickN_mem (ch := ch) (k := k) (items_ne (by have := outerN_lt (fam xs) n (walkS (fam xs) n ch k).2; have := bit7 g.n7; omega) (g.outer h1 hne))
    obtain ⟨l1, l2, l3⟩ := g.learn hm
    refine ⟨l3, ?_⟩
    rw [walkS, pcN_or (g.lt7 _ h1) (by have := g.n7; omega) l2, h2]
theorem walk_ne {n : Nat} {xs : List Nat} (g : SpGood n xs) (ch : List Int) {k : Nat} (hk : k < n) : itemsN (outerN (fam xs) n (walkS (fam xs) n ch k).2) ≠ [] := by
  obtain ⟨h1, h2⟩ := walk_inv g ch k (by omega)
  have hne : (walkS (fam xs) n ch k).2 ≠ bit n - 1 := by intro e; rw [e, pcN_full g.n7] at h2; omega
  exact items_ne (by have := outerN_lt (fam xs) n (walkS (fam xs) n ch k).2; have := bit7 g.n7; omega) (g.outer h1 hne)
theorem walk_end {n : Nat} {xs : List Nat} (g : SpGood n xs) (ch : List Int) {k : Nat} (hk : k ≤ n) : (walkS (fam xs) n ch k).2 = bit n - 1 ↔ k = n := by
  obtain ⟨h1, h2⟩ := walk_inv g ch k hk
  constructor
  · intro e; rw [e, pcN_full g.n7] at h2; omega
  · rintro rfl; exact (pcN_lt g.n7 (g.lt _ h1)).2 h2
def sizesN (n : Nat) (xs : List Nat) : List Nat := (List.range (n + 1)).map fun k => (xs.filter fun x => pcN x == k).length
@[simp] theorem sizesN_length (n : Nat) (xs : List Nat) : (sizesN n xs).length = n + 1 := by simp [sizesN]
theorem sizesN_get (n : Nat) (xs : List Nat) (k : Nat) (h : k < (sizesN n xs).length) : (sizesN n xs)[k] = (xs.filter fun x => pcN x == k).length := by simp [sizesN]
theorem sizesN_snoc (n : Nat) (xs : List Nat) (x : Nat) (hx : pcN x ≤ n) : sizesN n (xs ++ [x]) = (sizesN n xs).set (pcN x) ((sizesN n xs)[pcN x]'(by simp; omega) + 1) := by
  apply List.ext_getElem (by simp)
  intro k h1 h2
  rw [List.getElem_set, sizesN_get, List.filter_append]
  by_cases e : pcN x = k
  · subst e; simp [sizesN_get]
  · rw [if_neg e, sizesN_get]; simp [e]
theorem sizesN_le (n : Nat) (xs : List Nat) (k : Nat) (h : k < (sizesN n xs).length) : (sizesN n xs)[k] ≤ xs.length := by
  rw [sizesN_get]; exact List.length_filter_le _ _
end Go.Proofs.YtnncipcldbopgaaGreat
namespace Go.Proofs.YtnncipcldbopgaaGreat
set_option linter.unusedSimpArgs false
set_option linter.unusedVariables false
set_option maxHeartbeats 4000000
open Go Go.Eng
def wordsF (M : Nat → Bool) (n : Nat) : Nat → List Nat → Nat → List (List Nat)
  | 0, w, _ => [w]
  | k + 1, w, s => (itemsN (outerN M n s)).flatMap fun i => wordsF M n k (w ++ [i]) (nOr s (bit i))
def permsF (n : Nat) : Nat → List Nat → List (List Nat)
  | 0, l => [l]
  | k + 1, l => (List.range n).flatMap fun x => if x ∈ l then [] else permsF n k (l ++ [x])
def renK (names : List Nat) (s : Nat) : Nat → Nat
  | 0 => 0
  | k + 1 => if s.testBit k = true then nOr (renK names s k) (bit (names.getD k 0)) else renK names s k
def renN (names : List Nat) (s : Nat) : Nat := renK names s names.length
def namedN (n : Nat) (names xs : List Nat) : List Nat := (List.range (bit n)).filter fun a => decide (a ∈ xs.map (renN names))
def putL (l : List Nat) (a : Nat) : List Nat := if a ∈ l then l else l.filter (fun x => decide (x < a)) ++ [a] ++ l.filter fun x => decide (a < x)
theorem putL_mem (l : List Nat) (a x : Nat) : x ∈ putL l a ↔ x = a ∨ x ∈ l := by
  unfold putL
  by_cases h : a ∈ l
  · rw [if_pos h]
    constructor
    · exact .inr
    · rintro (rfl | h1)
      · exact h
      · exact h1
  · rw [if_neg h]
    simp only [List.mem_append, List.mem_filter, List.mem_singleton, decide_eq_true_eq]
    constructor
    · rintro ((⟨h1, _⟩ | h1) | ⟨h1, _⟩)
      · exact .inr h1
      · exact .inl h1
      · exact .inr h1
    · rintro (rfl | h1)
      · exact .inl (.inr rfl)
      · have : x ≠ a := fun e => h (e ▸ h1)
        rcases Nat.lt_or_gt_of_ne this with h2 | h2
        · exact .inl (.inl ⟨h1, h2⟩)
        · exact .inr ⟨h1, h2⟩
theorem putL_srt {l : List Nat} (hl : l.Pairwise (· < ·)) (a : Nat) : (putL l a).Pairwise (· < ·) := by
  unfold putL
  by_cases h : a ∈ l
  · rw [if_pos h]; exact hl
  · rw [if_neg h, List.pairwise_append, List.pairwise_append]
    refine ⟨⟨List.Pairwise.filter _ hl, List.pairwise_singleton _ _, fun x hx y hy => ?_⟩, List.Pairwise.filter _ hl, fun x hx y hy => ?_⟩
    · simp at hx hy; omega
    · simp at hx hy; omega
def putAll (names : List Nat) : List Nat → List Nat → List Nat
  | [], l => l
  | x :: xs, l => putAll names xs (putL l (renN names x))
end Go.Proofs.YtnncipcldbopgaaGreat
namespace Go.Proofs.YtnncipcldbopgaaGreat
set_option linter.unusedSimpArgs false
set_option linter.unusedVariables false
set_option maxHeartbeats 4000000
open Go Go.Eng
attribute [local irreducible] WD RunD PreD Runs CallOK
def cmpI (a b : Int) : Int := if a < b then -1 else if b < a then 1 else 0
def cmpL : List Int → List Int → Int
  | [], [] => 0
  | [], _ :: _ => -1
  | _ :: _, [] => 1
  | a :: x, b :: y => if a = b then cmpL x y else cmpI a b
end Go.Proofs.YtnncipcldbopgaaGreat
namespace Go.Proofs.YtnncipcldbopgaaGreat
set_option linter.unusedSimpArgs false
set_option linter.unusedVariables false
set_option maxHeartbeats 4000000
open Go Go.Eng
attribute [local irreducible] WD RunD PreD Runs CallOK
def Space (h : Hp) (v : Value) (N : Int) (X : List Int) : Prop := ∃ b, v = .agg #[.int .i64 N, b] ∧ Ints h b X
theorem Space.keep {h h' : Hp} (hk : Keeps h h') {v : Value} {N : Int} {X : List Int} (hv : Space h v N X) : Space h' v N X := by
  obtain ⟨b, e, h1⟩ := hv
  exact ⟨b, e, h1.keep hk⟩
def SpaceO (S : Nat → Prop) (h : Hp) (v : Value) (N : Int) (X : List Int) : Prop := ∃ b, v = .agg #[.int .i64 N, b] ∧ IntsO S h b X
end Go.Proofs.YtnncipcldbopgaaGreat
namespace Go.Proofs.YtnncipcldbopgaaGreat
set_option linter.unusedSimpArgs false
set_option linter.unusedVariables false
set_option maxHeartbeats 4000000
open Go Go.Eng
attribute [local irreducible] WD RunD PreD Runs CallOK
theorem within_ok (h : Hp) (a b c : Int) : CallOK Tryz.prog 111 #[.int .i64 a, .int .i64 b, .int .i64 c] h (.bool (decide (b ≤ a ∧ a ≤ c))) h := by
  refine callY_P 15 _ [.tmp 6] Tryz.func111 rfl rfl rfl (by first | rfl | simp) ?_
  by_cases hc : b ≤ a
  · try simp (disch := first | omega | (simp; done) | fail) [wrap64c, if_pos, if_neg, opAnd, opOr, opXor, opDiff, opShr, opBit, hc]
    exact done_ret rfl (by simp [hc])
  · try simp (disch := first | omega | (simp; done) | fail) [wrap64c, if_pos, if_neg, opAnd, opOr, opXor, opDiff, opShr, opBit, hc]
    exact done_ret rfl (by simp [hc])
def sizeB (N : Int) : Bool := decide (1 ≤ N ∧ N ≤ 7)
def setB (n : Nat) (a : Int) : Bool := decide (0 ≤ a ∧ a < (bit n : Nat))
theorem sizeB_true {N : Int} (h : sizeB N = true) : ∃ n : Nat, N = n ∧ 1 ≤ n ∧ n ≤ 7 := by
  unfold sizeB at h
  have := of_decide_eq_true h
  exact ⟨N.toNat, by omega, by omega, by omega⟩
theorem sizeB_of {n : Nat} (h1 : 1 ≤ n) (h7 : n ≤ 7) : sizeB n = true := by unfold sizeB; exact decide_eq_true (by omega)
theorem setB_iff {n : Nat} {a : Int} : setB n a = true ↔ 0 ≤ a ∧ a < (bit n : Nat) := by unfold setB; exact decide_eq_true_iff
theorem spItems_ok (h : Hp) (N : Int) : CallOK Tryz.prog 117 #[.int .i64 N] h (.bool (sizeB N)) h := by
  refine callY_P 5 _ [.tmp 2] Tryz.func117 rfl rfl rfl (by first | rfl | simp) ?_
  try simp (disch := first | omega | (simp; done) | fail) [wrap64c, if_pos, if_neg, opAnd, opOr, opXor, opDiff, opShr, opBit]
  refine callG_c (by simp) (by simp) ?ha (l1In_ok h N 1 7) ?_
  (case ha => simp (disch := first | omega | (simp; done) | fail) [wrap64c, if_pos, if_neg, opAnd, opOr, opXor, opDiff, opShr, opBit])
  try simp (disch := first | omega | (simp; done) | fail) [wrap64c, if_pos, if_neg, opAnd, opOr, opXor, opDiff, opShr, opBit]
  exact done_ret rfl (by simp [sizeB])
theorem isSize_ok (h : Hp) (N : Int) : CallOK Tryz.prog 110 #[.int .i64 N] h (.bool (sizeB N)) h := by
  refine callY_P 5 _ [.tmp 2] Tryz.func110 rfl rfl rfl (by first | rfl | simp) ?_
  try simp (disch := first | omega | (simp; done) | fail) [wrap64c, if_pos, if_neg, opAnd, opOr, opXor, opDiff, opShr, opBit]
  refine callG_c (by simp) (by simp) ?ha (within_ok h N 1 7) ?_
  (case ha => simp (disch := first | omega | (simp; done) | fail) [wrap64c, if_pos, if_neg, opAnd, opOr, opXor, opDiff, opShr, opBit])
  try simp (disch := first | omega | (simp; done) | fail) [wrap64c, if_pos, if_neg, opAnd, opOr, opXor, opDiff, opShr, opBit]
  exact done_ret rfl (by simp [sizeB])
theorem isSet_ok (h : Hp) (n : Nat) (a : Int) (hn : n ≤ 20) : CallOK Tryz.prog 99 #[.int .i64 (n : Int), .int .i64 a] h (.bool (setB n a)) h := by
  refine callY_P 10 _ [.tmp 4] Tryz.func99 rfl rfl rfl (by first | rfl | simp) ?_
  have hb := bit20 hn
  try simp (disch := first | omega | (simp; done) | fail) [wrap64c, if_pos, if_neg, opAnd, opOr, opXor, opDiff, opShr, opBit]
  refine callG_c (by simp) (by simp) ?ha (within_ok h a 0 ((bit n : Nat) - 1)) ?_
  (case ha => simp (disch := first | omega | (simp; done) | fail) [wrap64c, if_pos, if_neg, opAnd, opOr, opXor, opDiff, opShr, opBit])
  try simp (disch := first | omega | (simp; done) | fail) [wrap64c, if_pos, if_neg, opAnd, opOr, opXor, opDiff, opShr, opBit]
  have e : (a ≤ (bit n : Nat) - 1) ↔ (a < (bit n : Nat)) := by omega
  exact done_ret rfl (by simp [e, setB])
theorem shrMod (a i : Nat) : Int.tmod ((nShr a i : Nat) : Int) 2 = if a.testBit i = true then 1 else 0 := by
  rw [Int.tmod_eq_emod_of_nonneg (by omega)]
  have := nShr_mod a i
  split
  · rename_i hb; rw [if_pos hb] at this; omega
  · rename_i hb; rw [if_neg hb] at this; omega
theorem spIn_ok (h : Hp) (a i : Nat) (ha : a < 9223372036854775808) (hi : i < 64) : CallOK Tryz.prog 75 #[.int .i64 (a : Int), .int .i64 (i : Int)] h (.bool (a.testBit i)) h := by
  refine callY_P 10 _ [.tmp 4] Tryz.func75 rfl rfl rfl (by first | rfl | simp) ?_
  have h1 := nShr_le a i
  have h2 := shrMod a i
  cases hb : a.testBit i
  · have h3 : Int.tmod ((nShr a i : Nat) : Int) 2 = 0 := by rw [h2, hb]; rfl
    try simp (disch := first | omega | (simp; done) | fail) [wrap64c, if_pos, if_neg, opAnd, opOr, opXor, opDiff, opShr, opBit, h3]
    exact done_ret rfl (by simp)
  · have h3 : Int.tmod ((nShr a i : Nat) : Int) 2 = 1 := by rw [h2, hb]; rfl
    try simp (disch := first | omega | (simp; done) | fail) [wrap64c, if_pos, if_neg, opAnd, opOr, opXor, opDiff, opShr, opBit, h3]
    exact done_ret rfl (by simp)
theorem has_at {xs : List Int} {a : Int} {lo : Nat} (h1 : ∀ i (hi : i < xs.length), i < lo → xs[i] < a) (h2 : ∀ i (hi : i < xs.length), lo ≤ i → a ≤ xs[i]) (hs : xs.Pairwise (· < ·)) : a ∈ xs ↔ ∃ h : lo < xs.length, xs[lo] = a := by
  constructor
  · intro h
    obtain ⟨i, hi, e⟩ := List.getElem_of_mem h
    have h3 : ¬ i < lo := fun hl => by have := h1 i hi hl; omega
    have h4 : lo < xs.length := by omega
    refine ⟨h4, ?_⟩
    by_cases el : lo = i
    · subst el; exact e
    · have := (List.pairwise_iff_getElem.1 hs) lo i h4 hi (by omega)
      have := h2 lo h4 (Nat.le_refl _)
      omega
  · rintro ⟨h, rfl⟩
    exact List.getElem_mem h
theorem spHas_ok (h : Hp) (v : Value) (xs : List Int) (a : Int) (hv : Ints h v xs) (hl : xs.length < 2 ^ 40) (hs : xs.Pairwise (· < ·)) : CallOK Tryz.prog 125 #[v, .int .i64 a] h (.bool (decide (a ∈ xs))) h := by
  refine callY_P 38 _ [.tmp 4] Tryz.func125 rfl rfl rfl (by first | rfl | simp) ?_
  have hL := hv.lenD
  have hP := List.pairwise_iff_getElem.1 hs
  try simp (disch := first | omega | (simp; done) | fail) [wrap64c, if_pos, if_neg, opAnd, opOr, opXor, opDiff, opShr, opBit, hL]
  refine WD_loopC [0, 1] (fun m tm h' => ∃ lo hi, m = hi - lo ∧ h = h' ∧ tm 5 = .int .i64 (lo : Int) ∧ tm 6 = .int .i64 (hi : Int) ∧ (lo ≤ hi ∧ hi ≤ xs.length) ∧ (∀ i (h1 : i < xs.length), i < lo → xs[i] < a) ∧ (∀ i (h1 : i < xs.length), hi ≤ i → a ≤ xs[i])) _ ⟨0, xs.length, rfl, rfl, (by simp (disch := first | omega | (simp; done) | fail) [wrap64c, if_pos, if_neg, opAnd, opOr, opXor, opDiff, opShr, opBit, hL]), (by simp (disch := first | omega | (simp; done) | fail) [wrap64c, if_pos, if_neg, opAnd, opOr, opXor, opDiff, opShr, opBit, hL]), (by first | omega | assumption | (simp (disch := first | omega | (simp; done) | fail) [wrap64c, if_pos, if_neg, opAnd, opOr, opXor, opDiff, opShr, opBit, hL] <;> omega)), (by intro i h1 h0; omega), (by intro i h1 h0; omega)⟩ ?_
  rintro m tm h' hFr ⟨lo, hi, rfl, rfl, e5, e6, hb, hlo, hhi⟩
  simp only [FrameL] at hFr
  obtain ⟨f0_0, f1_0, -⟩ := hFr
  try simp (disch := first | omega | (simp; done) | fail) [wrap64c, if_pos, if_neg, opAnd, opOr, opXor, opDiff, opShr, opBit, hL] at f0_0 f1_0
  have e0 := f0_0
  have e1 := f1_0
  by_cases hlt : lo < hi
  · obtain ⟨o_x, i_x, c_x, cs_x, own_x, ex_x, es_x, q_x, b_x, g_x, l_x, r_x⟩ := hv.open ((by omega))
    have z_x : ∀ h2 : i_x < cs_x.length, cs_x[i_x] = _ := fun h2 => r_x 0 ((by omega)) h2
    obtain ⟨md, hmd, hm1, hm2⟩ : ∃ md : Nat, ((lo : Int) + hi).tdiv 2 = md ∧ lo ≤ md ∧ md < hi := ⟨(lo + hi) / 2, by rw [Int.tdiv_eq_ediv_of_nonneg (by omega)]; omega, by omega, by omega⟩
    by_cases hc : xs[md] < a
    · try simp (disch := first | omega | (simp; done) | fail) [wrap64c, if_pos, if_neg, opAnd, opOr, opXor, opDiff, opShr, opBit, hL, e0, e1, e5, e6, hlt, q_x, g_x, l_x, r_x, z_x, hmd, hc]
      refine loopK_next _ ?hm ?hf ⟨md + 1, hi, rfl, rfl, (by simp (disch := first | omega | (simp; done) | fail) [wrap64c, if_pos, if_neg, opAnd, opOr, opXor, opDiff, opShr, opBit, hL, e0, e1, e5, e6, hlt, q_x, g_x, l_x, r_x, z_x, hmd, hc] <;> omega), (by simp (disch := first | omega | (simp; done) | fail) [wrap64c, if_pos, if_neg, opAnd, opOr, opXor, opDiff, opShr, opBit, hL, e0, e1, e5, e6, hlt, q_x, g_x, l_x, r_x, z_x, hmd, hc] <;> omega), (by first | omega | assumption | (simp (disch := first | omega | (simp; done) | fail) [wrap64c, if_pos, if_neg, opAnd, opOr, opXor, opDiff, opShr, opBit, hL, e0, e1, e5, e6, hlt, q_x, g_x, l_x, r_x, z_x, hmd, hc] <;> omega)), ?c_hlo, (by first | omega | assumption | (simp (disch := first | omega | (simp; done) | fail) [wrap64c, if_pos, if_neg, opAnd, opOr, opXor, opDiff, opShr, opBit, hL, e0, e1, e5, e6, hlt, q_x, g_x, l_x, r_x, z_x, hmd, hc] <;> omega))⟩
      (case hm => first | omega | (simp; omega))
      (case hf => simp [FrameL, hL, e0, e1, e5, e6, hlt, q_x, g_x, l_x, r_x, z_x, hmd, hc, f0_0, f1_0])
      case c_hlo =>
        exact (fun i h1 h0 => by
          by_cases e : i = md
          · subst e; exact hc
          · have := hP i md h1 (by omega) (by omega); omega)
    · try simp (disch := first | omega | (simp; done) | fail) [wrap64c, if_pos, if_neg, opAnd, opOr, opXor, opDiff, opShr, opBit, hL, e0, e1, e5, e6, hlt, q_x, g_x, l_x, r_x, z_x, hmd, hc]
      refine loopK_next _ ?hm ?hf ⟨lo, md, rfl, rfl, (by simp (disch := first | omega | (simp; done) | fail) [wrap64c, if_pos, if_neg, opAnd, opOr, opXor, opDiff, opShr, opBit, hL, e0, e1, e5, e6, hlt, q_x, g_x, l_x, r_x, z_x, hmd, hc] <;> omega), (by simp (disch := first | omega | (simp; done) | fail) [wrap64c, if_pos, if_neg, opAnd, opOr, opXor, opDiff, opShr, opBit, hL, e0, e1, e5, e6, hlt, q_x, g_x, l_x, r_x, z_x, hmd, hc] <;> omega), (by first | omega | assumption | (simp (disch := first | omega | (simp; done) | fail) [wrap64c, if_pos, if_neg, opAnd, opOr, opXor, opDiff, opShr, opBit, hL, e0, e1, e5, e6, hlt, q_x, g_x, l_x, r_x, z_x, hmd, hc] <;> omega)), (by first | omega | assumption | (simp (disch := first | omega | (simp; done) | fail) [wrap64c, if_pos, if_neg, opAnd, opOr, opXor, opDiff, opShr, opBit, hL, e0, e1, e5, e6, hlt, q_x, g_x, l_x, r_x, z_x, hmd, hc] <;> omega)), ?c_hhi⟩
      (case hm => first | omega | (simp; omega))
      (case hf => simp [FrameL, hL, e0, e1, e5, e6, hlt, q_x, g_x, l_x, r_x, z_x, hmd, hc, f0_0, f1_0])
      case c_hhi =>
        exact (fun i h1 h0 => by
          by_cases e : md = i
          · subst e; omega
          · have := hP md i (by omega) h1 (by omega); omega)
  · have e : lo = hi := by omega
    subst e
    have hi2 := has_at hlo hhi hs
    by_cases h2 : lo < xs.length
    · obtain ⟨o_x, i_x, c_x, cs_x, own_x, ex_x, es_x, q_x, b_x, g_x, l_x, r_x⟩ := hv.open ((by omega))
      have z_x : ∀ h2 : i_x < cs_x.length, cs_x[i_x] = _ := fun h2 => r_x 0 ((by omega)) h2
      by_cases h3 : xs[lo] = a
      · try simp (disch := first | omega | (simp; done) | fail) [wrap64c, if_pos, if_neg, opAnd, opOr, opXor, opDiff, opShr, opBit, hL, e0, e1, e5, e6, hlt, h2, q_x, g_x, l_x, r_x, z_x, h3]
        have : a ∈ xs := hi2.2 ⟨h2, h3⟩
        exact done_ret rfl (by simp [this])
      · try simp (disch := first | omega | (simp; done) | fail) [wrap64c, if_pos, if_neg, opAnd, opOr, opXor, opDiff, opShr, opBit, hL, e0, e1, e5, e6, hlt, h2, q_x, g_x, l_x, r_x, z_x, h3]
        have : ¬ a ∈ xs := fun hm => h3 (hi2.1 hm).2
        exact done_ret rfl (by simp [this, h3])
    · try simp (disch := first | omega | (simp; done) | fail) [wrap64c, if_pos, if_neg, opAnd, opOr, opXor, opDiff, opShr, opBit, hL, e0, e1, e5, e6, hlt, h2]
      have : ¬ a ∈ xs := fun hm => by obtain ⟨h4, _⟩ := hi2.1 hm; omega
      exact done_ret rfl (by simp [this])
theorem spHasN_ok (h : Hp) (v : Value) (xs : List Nat) (a : Nat) (hv : Ints h v (toN xs)) (hl : xs.length < 2 ^ 40) (hs : xs.Pairwise (· < ·)) : CallOK Tryz.prog 125 #[v, .int .i64 (a : Int)] h (.bool (fam xs a)) h := by
  have := spHas_ok h v (toN xs) (a : Int) hv (by simpa using hl) (toN_srt.2 hs)
  have e : fam xs a = decide ((a : Int) ∈ toN xs) := by unfold fam; rw [decide_eq_decide]; exact mem_toN.symm
  rw [e]; exact this
theorem ris_at {X : List Int} {lo hi : Int} : Rising X lo hi ↔ ∀ i (h : i < X.length), (lo ≤ X[i] ∧ X[i] ≤ hi) ∧ (0 < i → X[i - 1] < X[i]) := by
  constructor
  · intro h i hi
    refine ⟨h.2 _ (List.getElem_mem hi), fun h0 => (List.pairwise_iff_getElem.1 h.1) (i - 1) i (by omega) hi (by omega)⟩
  · intro h
    have key : ∀ d i (h1 : i < X.length) (h2 : i + d + 1 < X.length), X[i] < X[i + d + 1] := by
      intro d
      induction d with
      | zero => intro i h1 h2; exact (h (i + 1) h2).2 (by omega)
      | succ d ih =>
        intro i h1 h2
        have h3 := ih i h1 (by omega)
        have h4 := (h (i + (d + 1) + 1) h2).2 (by omega)
        simp only [Nat.add_sub_cancel] at h4
        have h5 : X[i + d + 1] = X[i + (d + 1)] := rfl
        omega
    refine ⟨List.pairwise_iff_getElem.2 fun i j h1 h2 hij => ?_, fun x hx => ?_⟩
    · have := key (j - i - 1) i h1 (by omega)
      simpa [show i + (j - i - 1) + 1 = j by omega] using this
    · obtain ⟨i, hi, rfl⟩ := List.getElem_of_mem hx
      exact (h i hi).1
theorem l1Rising_ok (h : Hp) (v : Value) (X : List Int) (lo hi : Int) (hv : Ints h v X) : CallOK Tryz.prog 124 #[v, .int .i64 lo, .int .i64 hi] h (.bool (risB X lo hi)) h := by
  refine callY_P 35 _ [.tmp 6] Tryz.func124 rfl rfl rfl (by first | rfl | simp) ?_
  have hL := hv.lenD
  have hs := hv.len
  try simp (disch := first | omega | (simp; done) | fail) [wrap64c, if_pos, if_neg, opAnd, opOr, opXor, opDiff, opShr, opBit, hL]
  refine WD_loopC [0, 1, 2, 9, 10] (fun m tm h' => ∃ j, m = X.length - j ∧ h = h' ∧ tm 11 = .int .i64 (j : Int) ∧ (j ≤ X.length) ∧ (∀ i (h1 : i < X.length), i < j → (lo ≤ X[i] ∧ X[i] ≤ hi) ∧ (0 < i → X[i - 1] < X[i]))) _ ⟨0, rfl, rfl, (by simp (disch := first | omega | (simp; done) | fail) [wrap64c, if_pos, if_neg, opAnd, opOr, opXor, opDiff, opShr, opBit, hL]), (by first | omega | assumption | (simp (disch := first | omega | (simp; done) | fail) [wrap64c, if_pos, if_neg, opAnd, opOr, opXor, opDiff, opShr, opBit, hL] <;> omega)), (by intro i h1 h0; omega)⟩ ?_
  rintro m tm h' hFr ⟨j, rfl, rfl, e11, hj, hx⟩
  simp only [FrameL] at hFr
  obtain ⟨f0_0, f1_0, f2_0, f9_0, f10_0, -⟩ := hFr
  try simp (disch := first | omega | (simp; done) | fail) [wrap64c, if_pos, if_neg, opAnd, opOr, opXor, opDiff, opShr, opBit, hL] at f0_0 f1_0 f2_0 f9_0 f10_0
  have e0 := f0_0
  have e1 := f1_0
  have e2 := f2_0
  have e9 := f9_0
  have e10 := f10_0
  by_cases hlt : j < X.length
  · obtain ⟨o_x, i_x, c_x, cs_x, own_x, ex_x, es_x, q_x, b_x, g_x, l_x, r_x⟩ := hv.open ((by omega))
    have z_x : ∀ h2 : i_x < cs_x.length, cs_x[i_x] = _ := fun h2 => r_x 0 ((by omega)) h2
    try simp (disch := first | omega | (simp; done) | fail) [wrap64c, if_pos, if_neg, opAnd, opOr, opXor, opDiff, opShr, opBit, hL, e0, e1, e2, e9, e10, e11, hlt, q_x, g_x, l_x, r_x, z_x]
    refine callG_c (by simp) (by simp) ?ha (l1In_ok h X[j] lo hi) ?_
    (case ha => simp (disch := first | omega | (simp; done) | fail) [wrap64c, if_pos, if_neg, opAnd, opOr, opXor, opDiff, opShr, opBit, hL, e0, e1, e2, e9, e10, e11, hlt, q_x, g_x, l_x, r_x, z_x])
    by_cases hc : lo ≤ X[j] ∧ X[j] ≤ hi
    · have hc1 : decide (lo ≤ X[j] ∧ X[j] ≤ hi) = true := by simpa using hc
      have hc2 : (decide (lo ≤ X[j]) && decide (X[j] ≤ hi)) = true := by simpa using hc
      by_cases h0 : 0 < j
      · have h0' : ((j : Int) - 1) = ((j - 1 : Nat) : Int) := by omega
        by_cases hd : X[j - 1] < X[j]
        · have hd' : ¬ X[j - 1] ≥ X[j] := by omega
          have hd2 : ¬ X[j] ≤ X[j - 1] := by omega
          try simp (disch := first | omega | (simp; done) | fail) [wrap64c, if_pos, if_neg, opAnd, opOr, opXor, opDiff, opShr, opBit, hL, e0, e1, e2, e9, e10, e11, hlt, q_x, g_x, l_x, r_x, z_x, hc1, hc2, h0, h0', hd', hd2]
          refine loopK_next _ ?hm ?hf ⟨j + 1, rfl, rfl, (by simp (disch := first | omega | (simp; done) | fail) [wrap64c, if_pos, if_neg, opAnd, opOr, opXor, opDiff, opShr, opBit, hL, e0, e1, e2, e9, e10, e11, hlt, q_x, g_x, l_x, r_x, z_x, hc1, hc2, h0, h0', hd', hd2] <;> omega), (by first | omega | assumption | (simp (disch := first | omega | (simp; done) | fail) [wrap64c, if_pos, if_neg, opAnd, opOr, opXor, opDiff, opShr, opBit, hL, e0, e1, e2, e9, e10, e11, hlt, q_x, g_x, l_x, r_x, z_x, hc1, hc2, h0, h0', hd', hd2] <;> omega)), ?c_hx⟩
          (case hm => first | omega | (simp; omega))
          (case hf => simp [FrameL, hL, e0, e1, e2, e9, e10, e11, hlt, q_x, g_x, l_x, r_x, z_x, hc1, hc2, h0, h0', hd', hd2, f0_0, f1_0, f2_0, f9_0, f10_0])
          case c_hx =>
            exact (fun i h1 hi' => by
              by_cases e : i = j
              · subst e; exact ⟨hc, fun _ => hd⟩
              · exact hx i h1 (by omega))
        · have hd' : X[j - 1] ≥ X[j] := by omega
          have hd2 : X[j] ≤ X[j - 1] := by omega
          try simp (disch := first | omega | (simp; done) | fail) [wrap64c, if_pos, if_neg, opAnd, opOr, opXor, opDiff, opShr, opBit, hL, e0, e1, e2, e9, e10, e11, hlt, q_x, g_x, l_x, r_x, z_x, hc1, hc2, h0, h0', hd', hd2]
          have : risB X lo hi = false := by
            rw [Bool.eq_false_iff]; intro hq
            exact hd ((ris_at.1 (risB_true hq) j hlt).2 h0)
          exact done_ret rfl (by simp [this])
      · try simp (disch := first | omega | (simp; done) | fail) [wrap64c, if_pos, if_neg, opAnd, opOr, opXor, opDiff, opShr, opBit, hL, e0, e1, e2, e9, e10, e11, hlt, q_x, g_x, l_x, r_x, z_x, hc1, hc2, h0]
        refine loopK_next _ ?hm ?hf ⟨j + 1, rfl, rfl, (by simp (disch := first | omega | (simp; done) | fail) [wrap64c, if_pos, if_neg, opAnd, opOr, opXor, opDiff, opShr, opBit, hL, e0, e1, e2, e9, e10, e11, hlt, q_x, g_x, l_x, r_x, z_x, hc1, hc2, h0] <;> omega), (by first | omega | assumption | (simp (disch := first | omega | (simp; done) | fail) [wrap64c, if_pos, if_neg, opAnd, opOr, opXor, opDiff, opShr, opBit, hL, e0, e1, e2, e9, e10, e11, hlt, q_x, g_x, l_x, r_x, z_x, hc1, hc2, h0] <;> omega)), ?c_hx⟩
        (case hm => first | omega | (simp; omega))
        (case hf => simp [FrameL, hL, e0, e1, e2, e9, e10, e11, hlt, q_x, g_x, l_x, r_x, z_x, hc1, hc2, h0, f0_0, f1_0, f2_0, f9_0, f10_0])
        case c_hx =>
          exact (fun i h1 hi' => by
            by_cases e : i = j
            · subst e; exact ⟨hc, fun q => absurd q h0⟩
            · exact hx i h1 (by omega))
    · have hc1 : decide (lo ≤ X[j] ∧ X[j] ≤ hi) = false := by simpa using hc
      have hc2 : (decide (lo ≤ X[j]) && decide (X[j] ≤ hi)) = false := by rw [← hc1]; simp
      try simp (disch := first | omega | (simp; done) | fail) [wrap64c, if_pos, if_neg, opAnd, opOr, opXor, opDiff, opShr, opBit, hL, e0, e1, e2, e9, e10, e11, hlt, q_x, g_x, l_x, r_x, z_x, hc1, hc2]
      have : risB X lo hi = false := by
        rw [Bool.eq_false_iff]; intro hq
        exact hc (ris_at.1 (risB_true hq) j hlt).1
      exact done_ret rfl (by simp [this])
  · try simp (disch := first | omega | (simp; done) | fail) [wrap64c, if_pos, if_neg, opAnd, opOr, opXor, opDiff, opShr, opBit, hL, e0, e1, e2, e9, e10, e11, hlt]
    have : risB X lo hi = true := risB_iff.2 (ris_at.2 fun i h1 => hx i h1 (by omega))
    exact done_ret rfl (by simp [this])
theorem spInner_ok (h : Hp) (v : Value) (xs : List Nat) (a : Nat) (hv : Ints h v (toN xs)) (hl : xs.length < 2 ^ 40) (hs : xs.Pairwise (· < ·)) (ha : a < 128) :
    CallOK Tryz.prog 126 #[v, .int .i64 (a : Int)] h (.int .i64 ((innerN (fam xs) a : Nat) : Int)) h := by
  refine callY_P 27 _ [.tmp 4] Tryz.func126 rfl rfl rfl (by first | rfl | simp) ?_
  try simp (disch := first | omega | (simp; done) | fail) [wrap64c, if_pos, if_neg, opAnd, opOr, opXor, opDiff, opShr, opBit]
  refine WD_loopC [0, 1] (fun m tm h' => ∃ i, m = 7 - i ∧ h = h' ∧ tm 5 = .int .i64 ((maskN (fun i => a.testBit i && fam xs (nXor a (bit i))) i : Nat) : Int) ∧ tm 6 = .int .i64 (i : Int) ∧ (i ≤ 7)) _ ⟨0, rfl, rfl, (by simp [maskN]), (by simp (disch := first | omega | (simp; done) | fail) [wrap64c, if_pos, if_neg, opAnd, opOr, opXor, opDiff, opShr, opBit]), (by first | omega | assumption | (simp (disch := first | omega | (simp; done) | fail) [wrap64c, if_pos, if_neg, opAnd, opOr, opXor, opDiff, opShr, opBit] <;> omega))⟩ ?_
  rintro m tm h' hFr ⟨i, rfl, rfl, e5, e6, hi⟩
  simp only [FrameL] at hFr
  obtain ⟨f0_0, f1_0, -⟩ := hFr
  try simp (disch := first | omega | (simp; done) | fail) [wrap64c, if_pos, if_neg, opAnd, opOr, opXor, opDiff, opShr, opBit] at f0_0 f1_0
  have e0 := f0_0
  have e1 := f1_0
  by_cases hlt : i < 7
  · have hb := bit_lt7 hlt
    have hx := nXor128 (a := a) (b := bit i) ha (by omega)
    have hm := maskN_lt (fun i => a.testBit i && fam xs (nXor a (bit i))) i
    have hm2 := bit_lt7 hlt
    try simp (disch := first | omega | (simp; done) | fail) [wrap64c, if_pos, if_neg, opAnd, opOr, opXor, opDiff, opShr, opBit, e0, e1, e5, e6, hlt]
    refine callG_c (by simp) (by simp) ?ha (spIn_ok h a i (by omega) (by omega)) ?_
    (case ha => simp (disch := first | omega | (simp; done) | fail) [wrap64c, if_pos, if_neg, opAnd, opOr, opXor, opDiff, opShr, opBit, e0, e1, e5, e6, hlt])
    cases hb : a.testBit i
    · try simp (disch := first | omega | (simp; done) | fail) [wrap64c, if_pos, if_neg, opAnd, opOr, opXor, opDiff, opShr, opBit, e0, e1, e5, e6, hlt, hb]
      refine loopK_next _ ?hm ?hf ⟨i + 1, rfl, rfl, (by simp [maskN, hb, e5]), (by simp (disch := first | omega | (simp; done) | fail) [wrap64c, if_pos, if_neg, opAnd, opOr, opXor, opDiff, opShr, opBit, e0, e1, e5, e6, hlt, hb] <;> omega), (by first | omega | assumption | (simp (disch := first | omega | (simp; done) | fail) [wrap64c, if_pos, if_neg, opAnd, opOr, opXor, opDiff, opShr, opBit, e0, e1, e5, e6, hlt, hb] <;> omega))⟩
      (case hm => first | omega | (simp; omega))
      (case hf => simp [FrameL, e0, e1, e5, e6, hlt, hb, f0_0, f1_0])
    · try simp (disch := first | omega | (simp; done) | fail) [wrap64c, if_pos, if_neg, opAnd, opOr, opXor, opDiff, opShr, opBit, e0, e1, e5, e6, hlt, hb]
      refine callG_c (by simp) (by simp) ?ha (spHasN_ok h v xs (nXor a (bit i)) hv hl hs) ?_
      (case ha => simp (disch := first | omega | (simp; done) | fail) [wrap64c, if_pos, if_neg, opAnd, opOr, opXor, opDiff, opShr, opBit, e0, e1, e5, e6, hlt, hb])
      cases hc : fam xs (nXor a (bit i))
      · try simp (disch := first | omega | (simp; done) | fail) [wrap64c, if_pos, if_neg, opAnd, opOr, opXor, opDiff, opShr, opBit, e0, e1, e5, e6, hlt, hb, hc]
        refine loopK_next _ ?hm ?hf ⟨i + 1, rfl, rfl, (by simp [maskN, hb, hc, e5]), (by simp (disch := first | omega | (simp; done) | fail) [wrap64c, if_pos, if_neg, opAnd, opOr, opXor, opDiff, opShr, opBit, e0, e1, e5, e6, hlt, hb, hc] <;> omega), (by first | omega | assumption | (simp (disch := first | omega | (simp; done) | fail) [wrap64c, if_pos, if_neg, opAnd, opOr, opXor, opDiff, opShr, opBit, e0, e1, e5, e6, hlt, hb, hc] <;> omega))⟩
        (case hm => first | omega | (simp; omega))
        (case hf => simp [FrameL, e0, e1, e5, e6, hlt, hb, hc, f0_0, f1_0])
      · try simp (disch := first | omega | (simp; done) | fail) [wrap64c, if_pos, if_neg, opAnd, opOr, opXor, opDiff, opShr, opBit, e0, e1, e5, e6, hlt, hb, hc]
        refine loopK_next _ ?hm ?hf ⟨i + 1, rfl, rfl, (by simp [maskN, hb, hc, e5]), (by simp (disch := first | omega | (simp; done) | fail) [wrap64c, if_pos, if_neg, opAnd, opOr, opXor, opDiff, opShr, opBit, e0, e1, e5, e6, hlt, hb, hc] <;> omega), (by first | omega | assumption | (simp (disch := first | omega | (simp; done) | fail) [wrap64c, if_pos, if_neg, opAnd, opOr, opXor, opDiff, opShr, opBit, e0, e1, e5, e6, hlt, hb, hc] <;> omega))⟩
        (case hm => first | omega | (simp; omega))
        (case hf => simp [FrameL, e0, e1, e5, e6, hlt, hb, hc, f0_0, f1_0])
  · try simp (disch := first | omega | (simp; done) | fail) [wrap64c, if_pos, if_neg, opAnd, opOr, opXor, opDiff, opShr, opBit, e0, e1, e5, e6, hlt]
    exact done_ret rfl (by simp [innerN, show i = 7 by omega])
theorem spOuter_ok (h : Hp) (v : Value) (n : Nat) (xs : List Nat) (a : Nat) (hv : Space h v n (toN xs)) (hn : n ≤ 7) (hl : xs.length < 2 ^ 40) (hs : xs.Pairwise (· < ·)) (ha : a < 128) :
    CallOK Tryz.prog 74 #[v, .int .i64 (a : Int)] h (.int .i64 ((outerN (fam xs) n a : Nat) : Int)) h := by
  refine callY_P 31 _ [.tmp 4] Tryz.func74 rfl rfl rfl (by first | rfl | simp) ?_
  obtain ⟨b, rfl, hX⟩ := hv
  refine WD_first ?_
  try simp (disch := first | omega | (simp; done) | fail) [wrap64c, if_pos, if_neg, opAnd, opOr, opXor, opDiff, opShr, opBit]
  refine stopK_heap fun h0 q_h0 => ?_
  refine stopK_go ?_
  have g_h0 : h0.get h.next = .cells [.int .i64 n, b] true true 1 := by simp [q_h0]
  have k_h0 : Adds h h0 := by rw [q_h0]; exact (by first | exact aK | exact kK)
  have n_h0 : h.next < h0.next := by simp [q_h0]; try omega
  have hX0 := hX.keep k_h0.1
  try simp (disch := first | omega | (simp; done) | fail) [wrap64c, if_pos, if_neg, opAnd, opOr, opXor, opDiff, opShr, opBit, g_h0]
  refine WD_loopC [1, 2] (fun m tm h' => ∃ i, m = n - i ∧ h0 = h' ∧ tm 5 = .int .i64 ((maskN (fun i => !a.testBit i && fam xs (nOr a (bit i))) i : Nat) : Int) ∧ tm 6 = .int .i64 (i : Int) ∧ (i ≤ n)) _ ⟨0, rfl, rfl, (by simp [maskN]), (by simp (disch := first | omega | (simp; done) | fail) [wrap64c, if_pos, if_neg, opAnd, opOr, opXor, opDiff, opShr, opBit, g_h0]), (by first | omega | assumption | (simp (disch := first | omega | (simp; done) | fail) [wrap64c, if_pos, if_neg, opAnd, opOr, opXor, opDiff, opShr, opBit, g_h0] <;> omega))⟩ ?_
  rintro m tm h' hFr ⟨i, rfl, rfl, e5, e6, hi⟩
  simp only [FrameL] at hFr
  obtain ⟨f1_0, f2_0, -⟩ := hFr
  try simp (disch := first | omega | (simp; done) | fail) [wrap64c, if_pos, if_neg, opAnd, opOr, opXor, opDiff, opShr, opBit, g_h0] at f1_0 f2_0
  have e1 := f1_0
  have e2 := f2_0
  by_cases hlt : i < n
  · have hb := bit_lt7 (i := i) (by omega)
    have hx := nOr128 (a := a) (b := bit i) ha (by omega)
    have hm := maskN_lt (fun i => !a.testBit i && fam xs (nOr a (bit i))) i
    try simp (disch := first | omega | (simp; done) | fail) [wrap64c, if_pos, if_neg, opAnd, opOr, opXor, opDiff, opShr, opBit, g_h0, e1, e2, e5, e6, hlt]
    refine WD_drawC 11 rfl (by kernel_rfl) ?_
    try simp (disch := first | omega | (simp; done) | fail) [wrap64c, if_pos, if_neg, opAnd, opOr, opXor, opDiff, opShr, opBit, g_h0, e1, e2, e5, e6, hlt]
    refine callP_c (by simp) (by simp) ?ha (spIn_ok h0 a i (by omega) (by omega)) ?hadd ?_
    (case ha => simp (disch := first | omega | (simp; done) | fail) [wrap64c, if_pos, if_neg, opAnd, opOr, opXor, opDiff, opShr, opBit, g_h0, e1, e2, e5, e6, hlt])
    (case hadd => first | assumption | exact adds_self _ | (simp; done))
    cases hb : a.testBit i
    · try simp (disch := first | omega | (simp; done) | fail) [wrap64c, if_pos, if_neg, opAnd, opOr, opXor, opDiff, opShr, opBit, g_h0, e1, e2, e5, e6, hlt, hb]
      refine callG_c (by simp) (by simp) ?ha (spHasN_ok h0 b xs (nOr a (bit i)) hX0 hl hs) ?_
      (case ha => simp (disch := first | omega | (simp; done) | fail) [wrap64c, if_pos, if_neg, opAnd, opOr, opXor, opDiff, opShr, opBit, g_h0, e1, e2, e5, e6, hlt, hb])
      cases hc : fam xs (nOr a (bit i))
      · try simp (disch := first | omega | (simp; done) | fail) [wrap64c, if_pos, if_neg, opAnd, opOr, opXor, opDiff, opShr, opBit, g_h0, e1, e2, e5, e6, hlt, hb, hc]
        refine loopK_next _ ?hm ?hf ⟨i + 1, rfl, rfl, (by simp [maskN, hb, hc, e5]), (by simp (disch := first | omega | (simp; done) | fail) [wrap64c, if_pos, if_neg, opAnd, opOr, opXor, opDiff, opShr, opBit, g_h0, e1, e2, e5, e6, hlt, hb, hc] <;> omega), (by first | omega | assumption | (simp (disch := first | omega | (simp; done) | fail) [wrap64c, if_pos, if_neg, opAnd, opOr, opXor, opDiff, opShr, opBit, g_h0, e1, e2, e5, e6, hlt, hb, hc] <;> omega))⟩
        (case hm => first | omega | (simp; omega))
        (case hf => simp [FrameL, g_h0, e1, e2, e5, e6, hlt, hb, hc, f1_0, f2_0])
      · try simp (disch := first | omega | (simp; done) | fail) [wrap64c, if_pos, if_neg, opAnd, opOr, opXor, opDiff, opShr, opBit, g_h0, e1, e2, e5, e6, hlt, hb, hc]
        refine loopK_next _ ?hm ?hf ⟨i + 1, rfl, rfl, (by simp [maskN, hb, hc, e5]), (by simp (disch := first | omega | (simp; done) | fail) [wrap64c, if_pos, if_neg, opAnd, opOr, opXor, opDiff, opShr, opBit, g_h0, e1, e2, e5, e6, hlt, hb, hc] <;> omega), (by first | omega | assumption | (simp (disch := first | omega | (simp; done) | fail) [wrap64c, if_pos, if_neg, opAnd, opOr, opXor, opDiff, opShr, opBit, g_h0, e1, e2, e5, e6, hlt, hb, hc] <;> omega))⟩
        (case hm => first | omega | (simp; omega))
        (case hf => simp [FrameL, g_h0, e1, e2, e5, e6, hlt, hb, hc, f1_0, f2_0])
    · try simp (disch := first | omega | (simp; done) | fail) [wrap64c, if_pos, if_neg, opAnd, opOr, opXor, opDiff, opShr, opBit, g_h0, e1, e2, e5, e6, hlt, hb]
      refine loopK_next _ ?hm ?hf ⟨i + 1, rfl, rfl, (by simp [maskN, hb, e5]), (by simp (disch := first | omega | (simp; done) | fail) [wrap64c, if_pos, if_neg, opAnd, opOr, opXor, opDiff, opShr, opBit, g_h0, e1, e2, e5, e6, hlt, hb] <;> omega), (by first | omega | assumption | (simp (disch := first | omega | (simp; done) | fail) [wrap64c, if_pos, if_neg, opAnd, opOr, opXor, opDiff, opShr, opBit, g_h0, e1, e2, e5, e6, hlt, hb] <;> omega))⟩
      (case hm => first | omega | (simp; omega))
      (case hf => simp [FrameL, g_h0, e1, e2, e5, e6, hlt, hb, f1_0, f2_0])
  · try simp (disch := first | omega | (simp; done) | fail) [wrap64c, if_pos, if_neg, opAnd, opOr, opXor, opDiff, opShr, opBit, g_h0, e1, e2, e5, e6, hlt]
    exact done_ret rfl (by simp [outerN, show i = n by omega, k_h0.1])
end Go.Proofs.YtnncipcldbopgaaGreat
namespace Go.Proofs.YtnncipcldbopgaaGreat
set_option linter.unusedSimpArgs false
set_option linter.unusedVariables false
set_option maxHeartbeats 4000000
open Go Go.Eng
attribute [local irreducible] WD RunD PreD Runs CallOK
def famC (M : Nat → Bool) : List Value := (List.range 128).map fun i => .bool (M i)
@[simp] theorem famC_length (M : Nat → Bool) : (famC M).length = 128 := by simp [famC]
theorem famC_at (M : Nat → Bool) (i : Nat) (h : i < (famC M).length) : (famC M)[i] = .bool (M i) := by simp [famC]
theorem famC_getD (M : Nat → Bool) (i : Nat) (h : i < 128) : (famC M)[i]?.getD undef = .bool (M i) := by
  rw [List.getElem?_eq_getElem (by simpa using h), famC_at]; rfl
theorem famC_zero : zlist 128 (Value.bool false) = famC (fam []) := by
  apply List.ext_getElem (by simp)
  intro i h1 h2
  rw [famC_at]
  have e : (zlist 128 (Value.bool false))[i] = .bool false := List.getElem_replicate _
  exact e.trans (by simp [fam])
theorem famC_set (xs : List Nat) (a : Nat) (ha : a < 128) : (famC (fam xs)).set a (.bool true) = famC (fam (xs ++ [a])) := by
  apply List.ext_getElem (by simp)
  intro i h1 h2
  rw [List.getElem_set, famC_at]
  by_cases e : a = i
  · subst e; rw [famC_at]; simp [fam]
  · rw [if_neg e, famC_at]; simp [fam, Ne.symm e]
theorem family_ok (h : Hp) (v : Value) (N : Int) (xs : List Nat) (hv : Space h v N (toN xs)) (hx : ∀ x ∈ xs, x < 128) (hl : xs.length < 2 ^ 40) :
    ∃ v' h', CallOK Tryz.prog 67 #[v] h v' h' ∧ ∃ o, v' = .pointer (some ⟨o, 0, none⟩) ∧ Adds h h' ∧ h.next ≤ o ∧ o < h'.next ∧ h'.get o = .cells (famC (fam xs)) true true 1 := by
  refine callY_L (args := [v]) 21 _ [.tmp 2] Tryz.func67 rfl rfl rfl ?_
  obtain ⟨b, rfl, hX⟩ := hv
  have hL := hX.lenD
  have hgt := toN_get xs
  have hln := toN_length xs
  try simp (disch := first | omega | (simp; done) | fail) [wrap64c, if_pos, if_neg, opAnd, opOr, opXor, opDiff, opShr, opBit, hL, hgt]
  refine WD_loopC [3, 9, 10] (fun m tm h' => ∃ j, m = xs.length - j ∧ tm 11 = .int .i64 (j : Int) ∧ (j ≤ xs.length) ∧ (Adds h h') ∧ (h'.next = h.next + 2) ∧ (h'.get (h.next + 1) = .cells (famC (fam (xs.take j))) true true 1)) _ ⟨0, rfl, (by simp (disch := first | omega | (simp; done) | fail) [wrap64c, if_pos, if_neg, opAnd, opOr, opXor, opDiff, opShr, opBit, hL, hgt]), (by first | omega | assumption | (simp (disch := first | omega | (simp; done) | fail) [wrap64c, if_pos, if_neg, opAnd, opOr, opXor, opDiff, opShr, opBit, hL, hgt] <;> omega)), (by first | exact aK | exact kK), (by simp), (by simp [← famC_zero])⟩ ?_
  rintro m tm h' hFr ⟨j, rfl, e11, hj, ha, hn, hg⟩
  simp only [FrameL] at hFr
  obtain ⟨f3_0, f9_0, f10_0, -⟩ := hFr
  try simp (disch := first | omega | (simp; done) | fail) [wrap64c, if_pos, if_neg, opAnd, opOr, opXor, opDiff, opShr, opBit, hL, hgt] at f3_0 f9_0 f10_0
  have e3 := f3_0
  have e9 := f9_0
  have e10 := f10_0
  by_cases hlt : j < xs.length
  · obtain ⟨o_x, i_x, c_x, cs_x, own_x, ex_x, es_x, q_x, b_x, g_x, l_x, r_x⟩ := (hX.keep ha.1).open ((by simp; omega))
    have z_x : ∀ h2 : i_x < cs_x.length, cs_x[i_x] = _ := fun h2 => r_x 0 ((by simp; omega)) h2
    have hx1 := hx _ (List.getElem_mem hlt)
    try simp (disch := first | omega | (simp; done) | fail) [wrap64c, if_pos, if_neg, opAnd, opOr, opXor, opDiff, opShr, opBit, hL, hgt, e3, e9, e10, e11, hg, hlt, q_x, g_x, l_x, r_x, z_x]
    refine loopK_next _ ?hm ?hf ⟨j + 1, rfl, (by simp (disch := first | omega | (simp; done) | fail) [wrap64c, if_pos, if_neg, opAnd, opOr, opXor, opDiff, opShr, opBit, hL, hgt, e3, e9, e10, e11, hg, hlt, q_x, g_x, l_x, r_x, z_x] <;> omega), (by first | omega | assumption | (simp (disch := first | omega | (simp; done) | fail) [wrap64c, if_pos, if_neg, opAnd, opOr, opXor, opDiff, opShr, opBit, hL, hgt, e3, e9, e10, e11, hg, hlt, q_x, g_x, l_x, r_x, z_x] <;> omega)), (by first | exact aK | exact kK), (by simpa using hn), (by rw [List.take_succ_eq_append_getElem hlt, ← famC_set _ _ hx1]; simp [putCells_one, hx1])⟩
    (case hm => first | omega | (simp; omega))
    (case hf => simp [FrameL, hL, hgt, e3, e9, e10, e11, hg, hlt, q_x, g_x, l_x, r_x, z_x, f3_0, f9_0, f10_0])
  · try simp (disch := first | omega | (simp; done) | fail) [wrap64c, if_pos, if_neg, opAnd, opOr, opXor, opDiff, opShr, opBit, hL, hgt, e3, e9, e10, e11, hg, hlt]
    refine done_ret rfl ⟨_, rfl, ha, by omega, by omega, ?_⟩
    rw [hg, List.take_of_length_le (by omega)]
theorem all_ok (h : Hp) (v : Value) (n : Nat) (X : List Int) (hv : Space h v n X) (hn : n ≤ 20) : CallOK Tryz.prog 58 #[v] h (.int .i64 ((bit n - 1 : Nat) : Int)) h := by
  refine callY_P 7 _ [.tmp 2] Tryz.func58 rfl rfl rfl (by first | rfl | simp) ?_
  obtain ⟨b, rfl, hX⟩ := hv
  have hb := bit20 hn
  try simp (disch := first | omega | (simp; done) | fail) [wrap64c, if_pos, if_neg, opAnd, opOr, opXor, opDiff, opShr, opBit]
  exact done_ret rfl ⟨by simp; omega, by simp⟩
def itemsK (a k : Nat) : List Nat := (List.range k).filter fun i => a.testBit i
theorem itemsK_succ (a k : Nat) : itemsK a (k + 1) = if a.testBit k = true then itemsK a k ++ [k] else itemsK a k := by
  unfold itemsK
  rw [List.range_succ, List.filter_append]
  by_cases h : a.testBit k = true <;> simp [h]
theorem itemsK_len (a k : Nat) : (itemsK a k).length ≤ k := by
  unfold itemsK
  have := List.length_filter_le (fun i => a.testBit i) (List.range k)
  simpa using this
theorem items_eq (a : Nat) : itemsN a = itemsK a 7 := rfl
theorem items_len (a : Nat) : (itemsN a).length ≤ 7 := itemsK_len a 7
theorem items_lt {a i : Nat} (h : i ∈ itemsN a) : i < 7 := (mem_items.1 h).1
theorem items_ok (h : Hp) (a : Nat) (ha : a < 9223372036854775808) :
    ∃ v' h', CallOK Tryz.prog 72 #[.int .i64 (a : Int)] h v' h' ∧ Adds h h' ∧ IntsO (Btw h.next h'.next) h' v' (toN (itemsN a)) ∧ IntsA h.next h' v' (toN (itemsN a)) := by
  refine callY_L (args := [.int .i64 (a : Int)]) 20 _ [.tmp 2] Tryz.func72 rfl rfl rfl ?_
  try simp (disch := first | omega | (simp; done) | fail) [wrap64c, if_pos, if_neg, opAnd, opOr, opXor, opDiff, opShr, opBit]
  refine WD_loopC [0] (fun m tm h' => ∃ i u, m = 7 - i ∧ tm 3 = u ∧ tm 6 = .int .i64 (i : Int) ∧ (i ≤ 7) ∧ (Adds h h') ∧ (IntsA h.next h' u (toN (itemsK a i)))) _ ⟨0, _, rfl, (by simp (disch := first | omega | (simp; done) | fail) [wrap64c, if_pos, if_neg, opAnd, opOr, opXor, opDiff, opShr, opBit]), (by simp (disch := first | omega | (simp; done) | fail) [wrap64c, if_pos, if_neg, opAnd, opOr, opXor, opDiff, opShr, opBit]), (by first | omega | assumption | (simp (disch := first | omega | (simp; done) | fail) [wrap64c, if_pos, if_neg, opAnd, opOr, opXor, opDiff, opShr, opBit] <;> omega)), (by first | exact aK | exact kK), (.lit (ex := true) (Nat.le_refl _) (by simp) (by simp [itemsK, toN]))⟩ ?_
  rintro m tm h' hFr ⟨i, u, rfl, e3, e6, hi, ha, hu⟩
  simp only [FrameL] at hFr
  obtain ⟨f0_0, -⟩ := hFr
  try simp (disch := first | omega | (simp; done) | fail) [wrap64c, if_pos, if_neg, opAnd, opOr, opXor, opDiff, opShr, opBit] at f0_0
  have e0 := f0_0
  by_cases hlt : i < 7
  · have h1 := nShr_le a i
    have h2 := nShr_and01 a i
    have hs := itemsK_succ a i
    cases hb : a.testBit i
    · have h3 : nAnd (nShr a i) 1 = 0 := by rw [h2, hb]; rfl
      rw [hb] at hs
      try simp (disch := first | omega | (simp; done) | fail) [wrap64c, if_pos, if_neg, opAnd, opOr, opXor, opDiff, opShr, opBit, e0, e3, e6, hlt, h3]
      refine loopK_next _ ?hm ?hf ⟨i + 1, u, rfl, (by simp (disch := first | omega | (simp; done) | fail) [wrap64c, if_pos, if_neg, opAnd, opOr, opXor, opDiff, opShr, opBit, e0, e3, e6, hlt, h3] <;> omega), (by simp (disch := first | omega | (simp; done) | fail) [wrap64c, if_pos, if_neg, opAnd, opOr, opXor, opDiff, opShr, opBit, e0, e3, e6, hlt, h3] <;> omega), (by first | omega | assumption | (simp (disch := first | omega | (simp; done) | fail) [wrap64c, if_pos, if_neg, opAnd, opOr, opXor, opDiff, opShr, opBit, e0, e3, e6, hlt, h3] <;> omega)), (by first | omega | assumption | (simp (disch := first | omega | (simp; done) | fail) [wrap64c, if_pos, if_neg, opAnd, opOr, opXor, opDiff, opShr, opBit, e0, e3, e6, hlt, h3] <;> omega)), (by rw [hs]; exact hu)⟩
      (case hm => first | omega | (simp; omega))
      (case hf => simp [FrameL, e0, e3, e6, hlt, h3, f0_0])
    · have h3 : nAnd (nShr a i) 1 = 1 := by rw [h2, hb]; rfl
      rw [hb] at hs
      try simp (disch := first | omega | (simp; done) | fail) [wrap64c, if_pos, if_neg, opAnd, opOr, opXor, opDiff, opShr, opBit, e0, e3, e6, hlt, h3]
      have hle := itemsK_len a i
      obtain ⟨u2, h2, hap, hu2, ha2, hn2, hs2⟩ := appI hu (i : Int) (by simp; omega) ha.1.1 ha (Nat.le_refl _)
      try simp (disch := first | omega | (simp; done) | fail) [wrap64c, if_pos, if_neg, opAnd, opOr, opXor, opDiff, opShr, opBit, e0, e3, e6, hlt, h3, hap]
      refine loopK_next _ ?hm ?hf ⟨i + 1, u2, rfl, (by simp (disch := first | omega | (simp; done) | fail) [wrap64c, if_pos, if_neg, opAnd, opOr, opXor, opDiff, opShr, opBit, e0, e3, e6, hlt, h3] <;> omega), (by simp (disch := first | omega | (simp; done) | fail) [wrap64c, if_pos, if_neg, opAnd, opOr, opXor, opDiff, opShr, opBit, e0, e3, e6, hlt, h3] <;> omega), (by first | omega | assumption | (simp (disch := first | omega | (simp; done) | fail) [wrap64c, if_pos, if_neg, opAnd, opOr, opXor, opDiff, opShr, opBit, e0, e3, e6, hlt, h3] <;> omega)), (by first | omega | assumption | (simp (disch := first | omega | (simp; done) | fail) [wrap64c, if_pos, if_neg, opAnd, opOr, opXor, opDiff, opShr, opBit, e0, e3, e6, hlt, h3] <;> omega)), (by rw [hs, if_pos rfl, toN_snoc]; exact hu2)⟩
      (case hm => first | omega | (simp; omega))
      (case hf => simp [FrameL, e0, e3, e6, hlt, h3, f0_0])
  · try simp (disch := first | omega | (simp; done) | fail) [wrap64c, if_pos, if_neg, opAnd, opOr, opXor, opDiff, opShr, opBit, e0, e3, e6, hlt]
    have e : i = 7 := by omega
    subst e
    have hle := itemsK_len a 7
    exact done_ret rfl ⟨ha, hu.own (by simp; omega), hu⟩
theorem imInner_ok (h : Hp) (o : Nat) (M : Nat → Bool) (own ex : Bool) (es a : Nat) (ho : o < h.next) (hg : h.get o = .cells (famC M) own ex es) (ha : a < 128) :
    CallOK Tryz.prog 113 #[.pointer (some ⟨o, 0, none⟩), .int .i64 (a : Int)] h (.int .i64 ((innerN M a : Nat) : Int)) h := by
  refine callY_P 29 _ [.tmp 4] Tryz.func113 rfl rfl rfl (by first | rfl | simp) ?_
  try simp (disch := first | omega | (simp; done) | fail) [wrap64c, if_pos, if_neg, opAnd, opOr, opXor, opDiff, opShr, opBit]
  obtain ⟨u, h1, hc1, ha1, hi1, _⟩ := items_ok h a (by omega)
  refine callG_c (by simp) (by simp) ?ha (hc1) ?_
  (case ha => simp (disch := first | omega | (simp; done) | fail) [wrap64c, if_pos, if_neg, opAnd, opOr, opXor, opDiff, opShr, opBit])
  have hL := hi1.ints.lenD
  have hgt := toN_get (itemsN a)
  have hln := toN_length (itemsN a)
  have hg1 : h1.get o = .cells (famC M) own ex es := by rw [ha1.1.2 o ho, hg]
  have hf := famC_getD M
  try simp (disch := first | omega | (simp; done) | fail) [wrap64c, if_pos, if_neg, opAnd, opOr, opXor, opDiff, opShr, opBit, hL, hgt, hg1, hf]
  refine WD_loopC [0, 1, 9, 10] (fun m tm h' => ∃ j, m = (itemsN a).length - j ∧ h1 = h' ∧ tm 5 = .int .i64 ((maskL (fun i => M (ndiff a (bit i))) ((itemsN a).take j) 0 : Nat) : Int) ∧ tm 11 = .int .i64 (j : Int) ∧ (j ≤ (itemsN a).length) ∧ (maskL (fun i => M (ndiff a (bit i))) ((itemsN a).take j) 0 < 128)) _ ⟨0, rfl, rfl, (by simp [maskL]), (by simp (disch := first | omega | (simp; done) | fail) [wrap64c, if_pos, if_neg, opAnd, opOr, opXor, opDiff, opShr, opBit, hL, hgt, hg1, hf]), (by first | omega | assumption | (simp (disch := first | omega | (simp; done) | fail) [wrap64c, if_pos, if_neg, opAnd, opOr, opXor, opDiff, opShr, opBit, hL, hgt, hg1, hf] <;> omega)), (by simp [maskL])⟩ ?_
  rintro m tm h' hFr ⟨j, rfl, rfl, e5, e11, hj, hm⟩
  simp only [FrameL] at hFr
  obtain ⟨f0_0, f1_0, f9_0, f10_0, -⟩ := hFr
  try simp (disch := first | omega | (simp; done) | fail) [wrap64c, if_pos, if_neg, opAnd, opOr, opXor, opDiff, opShr, opBit, hL, hgt, hg1, hf] at f0_0 f1_0 f9_0 f10_0
  have e0 := f0_0
  have e1 := f1_0
  have e9 := f9_0
  have e10 := f10_0
  by_cases hlt : j < (itemsN a).length
  · obtain ⟨o_x, i_x, c_x, cs_x, own_x, ex_x, es_x, q_x, b_x, g_x, l_x, r_x⟩ := hi1.ints.open ((by simp; omega))
    have z_x : ∀ h2 : i_x < cs_x.length, cs_x[i_x] = _ := fun h2 => r_x 0 ((by simp; omega)) h2
    have hi7 := items_lt (List.getElem_mem hlt)
    have hl7 := items_len a
    have hb := bit_lt7 hi7
    have hd := ndiff128 (a := a) (b := bit (itemsN a)[j]) ha
    have hq := nOr128 (b := bit (itemsN a)[j]) hm (by omega)
    have hs : maskL (fun i => M (ndiff a (bit i))) ((itemsN a).take (j + 1)) 0 = if M (ndiff a (bit (itemsN a)[j])) = true then nOr (maskL (fun i => M (ndiff a (bit i))) ((itemsN a).take j) 0) (bit (itemsN a)[j]) else maskL (fun i => M (ndiff a (bit i))) ((itemsN a).take j) 0 := by rw [List.take_succ_eq_append_getElem hlt]; exact maskL_snoc _ _ _ _
    try simp (disch := first | omega | (simp; done) | fail) [wrap64c, if_pos, if_neg, opAnd, opOr, opXor, opDiff, opShr, opBit, hL, hgt, hg1, hf, e0, e1, e5, e9, e10, e11, hlt, q_x, g_x, l_x, r_x, z_x]
    refine WD_drawC 6 rfl (by kernel_rfl) ?_
    try simp (disch := first | omega | (simp; done) | fail) [wrap64c, if_pos, if_neg, opAnd, opOr, opXor, opDiff, opShr, opBit, hL, hgt, hg1, hf, e0, e1, e5, e9, e10, e11, hlt, q_x, g_x, l_x, r_x, z_x]
    cases hc : M (ndiff a (bit (itemsN a)[j]))
    · rw [hc] at hs
      try simp (disch := first | omega | (simp; done) | fail) [wrap64c, if_pos, if_neg, opAnd, opOr, opXor, opDiff, opShr, opBit, hL, hgt, hg1, hf, e0, e1, e5, e9, e10, e11, hlt, q_x, g_x, l_x, r_x, z_x, hc]
      refine loopK_next _ ?hm ?hf ⟨j + 1, rfl, rfl, (by simp [hs, e5]), (by simp (disch := first | omega | (simp; done) | fail) [wrap64c, if_pos, if_neg, opAnd, opOr, opXor, opDiff, opShr, opBit, hL, hgt, hg1, hf, e0, e1, e5, e9, e10, e11, hlt, q_x, g_x, l_x, r_x, z_x, hc] <;> omega), (by first | omega | assumption | (simp (disch := first | omega | (simp; done) | fail) [wrap64c, if_pos, if_neg, opAnd, opOr, opXor, opDiff, opShr, opBit, hL, hgt, hg1, hf, e0, e1, e5, e9, e10, e11, hlt, q_x, g_x, l_x, r_x, z_x, hc] <;> omega)), (by simpa [hs] using hm)⟩
      (case hm => first | omega | (simp; omega))
      (case hf => simp [FrameL, hL, hgt, hg1, hf, e0, e1, e5, e9, e10, e11, hlt, q_x, g_x, l_x, r_x, z_x, hc, f0_0, f1_0, f9_0, f10_0])
    · rw [hc] at hs
      try simp (disch := first | omega | (simp; done) | fail) [wrap64c, if_pos, if_neg, opAnd, opOr, opXor, opDiff, opShr, opBit, hL, hgt, hg1, hf, e0, e1, e5, e9, e10, e11, hlt, q_x, g_x, l_x, r_x, z_x, hc]
      refine loopK_next _ ?hm ?hf ⟨j + 1, rfl, rfl, (by simp [hs, e5]), (by simp (disch := first | omega | (simp; done) | fail) [wrap64c, if_pos, if_neg, opAnd, opOr, opXor, opDiff, opShr, opBit, hL, hgt, hg1, hf, e0, e1, e5, e9, e10, e11, hlt, q_x, g_x, l_x, r_x, z_x, hc] <;> omega), (by first | omega | assumption | (simp (disch := first | omega | (simp; done) | fail) [wrap64c, if_pos, if_neg, opAnd, opOr, opXor, opDiff, opShr, opBit, hL, hgt, hg1, hf, e0, e1, e5, e9, e10, e11, hlt, q_x, g_x, l_x, r_x, z_x, hc] <;> omega)), (by simpa [hs] using hq)⟩
      (case hm => first | omega | (simp; omega))
      (case hf => simp [FrameL, hL, hgt, hg1, hf, e0, e1, e5, e9, e10, e11, hlt, q_x, g_x, l_x, r_x, z_x, hc, f0_0, f1_0, f9_0, f10_0])
  · try simp (disch := first | omega | (simp; done) | fail) [wrap64c, if_pos, if_neg, opAnd, opOr, opXor, opDiff, opShr, opBit, hL, hgt, hg1, hf, e0, e1, e5, e9, e10, e11, hlt]
    exact done_ret rfl (by simp [← innerN_items, List.take_of_length_le (show (itemsN a).length ≤ j by omega), ha1.1])
theorem imOuter_ok (h : Hp) (o : Nat) (M : Nat → Bool) (own ex : Bool) (es a : Nat) (ho : o < h.next) (hg : h.get o = .cells (famC M) own ex es) (ha : a < 128) :
    CallOK Tryz.prog 73 #[.pointer (some ⟨o, 0, none⟩), .int .i64 (a : Int)] h (.int .i64 ((outerN M 7 a : Nat) : Int)) h := by
  refine callY_P 31 _ [.tmp 4] Tryz.func73 rfl rfl rfl (by first | rfl | simp) ?_
  have hg1 := hg
  have hf := famC_getD M
  try simp (disch := first | omega | (simp; done) | fail) [wrap64c, if_pos, if_neg, opAnd, opOr, opXor, opDiff, opShr, opBit, hg1, hf]
  refine WD_loopC [0, 1] (fun m tm h' => ∃ i, m = 7 - i ∧ h = h' ∧ tm 5 = .int .i64 ((maskN (fun i => !a.testBit i && M (nOr a (bit i))) i : Nat) : Int) ∧ tm 7 = .int .i64 (i : Int) ∧ (i ≤ 7)) _ ⟨0, rfl, rfl, (by simp [maskN]), (by simp (disch := first | omega | (simp; done) | fail) [wrap64c, if_pos, if_neg, opAnd, opOr, opXor, opDiff, opShr, opBit, hg1, hf]), (by first | omega | assumption | (simp (disch := first | omega | (simp; done) | fail) [wrap64c, if_pos, if_neg, opAnd, opOr, opXor, opDiff, opShr, opBit, hg1, hf] <;> omega))⟩ ?_
  rintro m tm h' hFr ⟨i, rfl, rfl, e5, e7, hi⟩
  simp only [FrameL] at hFr
  obtain ⟨f0_0, f1_0, -⟩ := hFr
  try simp (disch := first | omega | (simp; done) | fail) [wrap64c, if_pos, if_neg, opAnd, opOr, opXor, opDiff, opShr, opBit, hg1, hf] at f0_0 f1_0
  have e0 := f0_0
  have e1 := f1_0
  by_cases hlt : i < 7
  · have hb := bit_lt7 hlt
    have hx := nOr128 (a := a) (b := bit i) ha (by omega)
    have hm := maskN_lt (fun i => !a.testBit i && M (nOr a (bit i))) i
    have h1 := nShr_le a i
    have h2 := nShr_and01 a i
    cases hb : a.testBit i
    · have h3 : nAnd (nShr a i) 1 = 0 := by rw [h2, hb]; rfl
      try simp (disch := first | omega | (simp; done) | fail) [wrap64c, if_pos, if_neg, opAnd, opOr, opXor, opDiff, opShr, opBit, hg1, hf, e0, e1, e5, e7, hlt, hb, h3]
      refine WD_drawC 12 rfl (by kernel_rfl) ?_
      try simp (disch := first | omega | (simp; done) | fail) [wrap64c, if_pos, if_neg, opAnd, opOr, opXor, opDiff, opShr, opBit, hg1, hf, e0, e1, e5, e7, hlt, hb, h3]
      cases hc : M (nOr a (bit i))
      · try simp (disch := first | omega | (simp; done) | fail) [wrap64c, if_pos, if_neg, opAnd, opOr, opXor, opDiff, opShr, opBit, hg1, hf, e0, e1, e5, e7, hlt, hb, h3, hc]
        refine loopK_next _ ?hm ?hf ⟨i + 1, rfl, rfl, (by simp [maskN, hb, hc, e5]), (by simp (disch := first | omega | (simp; done) | fail) [wrap64c, if_pos, if_neg, opAnd, opOr, opXor, opDiff, opShr, opBit, hg1, hf, e0, e1, e5, e7, hlt, hb, h3, hc] <;> omega), (by first | omega | assumption | (simp (disch := first | omega | (simp; done) | fail) [wrap64c, if_pos, if_neg, opAnd, opOr, opXor, opDiff, opShr, opBit, hg1, hf, e0, e1, e5, e7, hlt, hb, h3, hc] <;> omega))⟩
        (case hm => first | omega | (simp; omega))
        (case hf => simp [FrameL, hg1, hf, e0, e1, e5, e7, hlt, hb, h3, hc, f0_0, f1_0])
      · try simp (disch := first | omega | (simp; done) | fail) [wrap64c, if_pos, if_neg, opAnd, opOr, opXor, opDiff, opShr, opBit, hg1, hf, e0, e1, e5, e7, hlt, hb, h3, hc]
        refine loopK_next _ ?hm ?hf ⟨i + 1, rfl, rfl, (by simp [maskN, hb, hc, e5]), (by simp (disch := first | omega | (simp; done) | fail) [wrap64c, if_pos, if_neg, opAnd, opOr, opXor, opDiff, opShr, opBit, hg1, hf, e0, e1, e5, e7, hlt, hb, h3, hc] <;> omega), (by first | omega | assumption | (simp (disch := first | omega | (simp; done) | fail) [wrap64c, if_pos, if_neg, opAnd, opOr, opXor, opDiff, opShr, opBit, hg1, hf, e0, e1, e5, e7, hlt, hb, h3, hc] <;> omega))⟩
        (case hm => first | omega | (simp; omega))
        (case hf => simp [FrameL, hg1, hf, e0, e1, e5, e7, hlt, hb, h3, hc, f0_0, f1_0])
    · have h3 : nAnd (nShr a i) 1 = 1 := by rw [h2, hb]; rfl
      try simp (disch := first | omega | (simp; done) | fail) [wrap64c, if_pos, if_neg, opAnd, opOr, opXor, opDiff, opShr, opBit, hg1, hf, e0, e1, e5, e7, hlt, hb, h3]
      refine WD_drawC 12 rfl (by kernel_rfl) ?_
      try simp (disch := first | omega | (simp; done) | fail) [wrap64c, if_pos, if_neg, opAnd, opOr, opXor, opDiff, opShr, opBit, hg1, hf, e0, e1, e5, e7, hlt, hb, h3]
      refine loopK_next _ ?hm ?hf ⟨i + 1, rfl, rfl, (by simp [maskN, hb, e5]), (by simp (disch := first | omega | (simp; done) | fail) [wrap64c, if_pos, if_neg, opAnd, opOr, opXor, opDiff, opShr, opBit, hg1, hf, e0, e1, e5, e7, hlt, hb, h3] <;> omega), (by first | omega | assumption | (simp (disch := first | omega | (simp; done) | fail) [wrap64c, if_pos, if_neg, opAnd, opOr, opXor, opDiff, opShr, opBit, hg1, hf, e0, e1, e5, e7, hlt, hb, h3] <;> omega))⟩
      (case hm => first | omega | (simp; omega))
      (case hf => simp [FrameL, hg1, hf, e0, e1, e5, e7, hlt, hb, h3, f0_0, f1_0])
  · try simp (disch := first | omega | (simp; done) | fail) [wrap64c, if_pos, if_neg, opAnd, opOr, opXor, opDiff, opShr, opBit, hg1, hf, e0, e1, e5, e7, hlt]
    exact done_ret rfl (by simp [outerN, show i = 7 by omega])
theorem spB_mk {n : Nat} {xs : List Nat} (h1 : 1 ≤ n) (h7 : n ≤ 7) (hs : xs.Pairwise (· < ·)) (hlt : ∀ x ∈ xs, x < bit n) (c4 : fam xs 0 = true) (c5 : fam xs (bit n - 1) = true)
    (hx : ∀ i (h : i < xs.length), (xs[i] ≠ 0 → innerN (fam xs) xs[i] ≠ 0) ∧ ∀ k (h : k < xs.length), fam xs (nOr xs[i] xs[k]) = true) : spB n (toN xs) = true := by
  refine spB_of ⟨h1, h7, hs, hlt, of_decide_eq_true c4, of_decide_eq_true c5, fun x hm => ?_, fun x hm y hn => ?_⟩
  · obtain ⟨i, hi, rfl⟩ := List.getElem_of_mem hm
    exact (hx i hi).1
  · obtain ⟨i, hi, rfl⟩ := List.getElem_of_mem hm
    obtain ⟨k, hk, rfl⟩ := List.getElem_of_mem hn
    exact of_decide_eq_true ((hx i hi).2 k hk)
theorem spB_no {n : Nat} {xs : List Nat} (h : SpGood n xs → False) : spB n (toN xs) = false := spB_false fun n' xs' e1 e2 g => by
  have e3 : n = n' := by omega
  have e4 := toN_inj.1 e2
  subst e3 e4
  exact h g
theorem spB_noX {n : Nat} {X : List Int} (h : Rising X 0 ((bit n : Nat) - 1 : Int) → False) : spB n X = false := spB_false fun n' xs' e1 e2 g => by
  have e3 : n = n' := by omega
  subst e3
  exact h (e2 ▸ g.rising)
theorem spGood_ok (h : Hp) (v : Value) (N : Int) (X : List Int) (hv : Space h v N X) (hl : X.length < 2 ^ 40) : CallOK Tryz.prog 61 #[v] h (.bool (spB N X)) h := by
  refine callY_P 76 _ [.tmp 2] Tryz.func61 rfl rfl rfl (by first | rfl | simp) ?_
  obtain ⟨b, rfl, hX⟩ := hv
  refine WD_first ?_
  try simp (disch := first | omega | (simp; done) | fail) [wrap64c, if_pos, if_neg, opAnd, opOr, opXor, opDiff, opShr, opBit]
  refine stopK_heap fun h0 q_h0 => ?_
  refine stopK_go ?_
  have g_h0 : h0.get h.next = .cells [.int .i64 N, b] true true 1 := by simp [q_h0]
  have k_h0 : Adds h h0 := by rw [q_h0]; exact (by first | exact aK | exact kK)
  have n_h0 : h.next < h0.next := by simp [q_h0]; try omega
  have hX0 := hX.keep k_h0.1
  have hL := hX0.lenD
  have K0 := k_h0.1
  try simp (disch := first | omega | (simp; done) | fail) [wrap64c, if_pos, if_neg, opAnd, opOr, opXor, opDiff, opShr, opBit, g_h0, hL]
  refine WD_drawC 23 rfl (by kernel_rfl) ?_
  try simp (disch := first | omega | (simp; done) | fail) [wrap64c, if_pos, if_neg, opAnd, opOr, opXor, opDiff, opShr, opBit, g_h0, hL]
  refine callP_c (by simp) (by simp) ?ha (spItems_ok h0 N) ?hadd ?_
  (case ha => simp (disch := first | omega | (simp; done) | fail) [wrap64c, if_pos, if_neg, opAnd, opOr, opXor, opDiff, opShr, opBit, g_h0, hL])
  (case hadd => first | assumption | exact adds_self _ | (simp; done))
  cases c1 : sizeB N
  · try simp (disch := first | omega | (simp; done) | fail) [wrap64c, if_pos, if_neg, opAnd, opOr, opXor, opDiff, opShr, opBit, g_h0, hL, c1]
    have : spB N X = false := spB_false (fun n xs e1 e2 g => by subst e1; rw [sizeB_of g.n1 g.n7] at c1; cases c1)
    exact done_ret rfl (by simp [this, K0])
  · obtain ⟨n, hN, n1, n7⟩ := sizeB_true c1
    have hb := bit7 n7
    by_cases c2 : (bit n : Int) < (X.length : Int)
    · try simp (disch := first | omega | (simp; done) | fail) [wrap64c, if_pos, if_neg, opAnd, opOr, opXor, opDiff, opShr, opBit, g_h0, hL, c1, hN, c2]
      have : spB N X = false := hN ▸ spB_noX (fun hr => by obtain ⟨xs, e, _, _, hle⟩ := hr.nats; rw [e, toN_length] at c2; omega)
      exact done_ret rfl (by simp [this, K0])
    · try simp (disch := first | omega | (simp; done) | fail) [wrap64c, if_pos, if_neg, opAnd, opOr, opXor, opDiff, opShr, opBit, g_h0, hL, c1, hN, c2]
      refine callP_c (by simp) (by simp) ?ha (l1Rising_ok h0 b X 0 ((bit n : Nat) - 1) hX0) ?hadd ?_
      (case ha => simp (disch := first | omega | (simp; done) | fail) [wrap64c, if_pos, if_neg, opAnd, opOr, opXor, opDiff, opShr, opBit, g_h0, hL, c1, hN, c2])
      (case hadd => first | assumption | exact adds_self _ | (simp; done))
      cases c3 : risB X 0 ((bit n : Nat) - 1 : Int)
      · try simp (disch := first | omega | (simp; done) | fail) [wrap64c, if_pos, if_neg, opAnd, opOr, opXor, opDiff, opShr, opBit, g_h0, hL, c1, hN, c2, c3]
        have : spB N X = false := hN ▸ spB_noX (fun hr => by rw [risB_iff.2 hr] at c3; cases c3)
        exact done_ret rfl (by simp [this, K0])
      · try simp (disch := first | omega | (simp; done) | fail) [wrap64c, if_pos, if_neg, opAnd, opOr, opXor, opDiff, opShr, opBit, g_h0, hL, c1, hN, c2, c3]
        obtain ⟨xs, hXe, hs, hlt, hle⟩ := (risB_true c3).nats
        have hX1 : Ints h0 b (toN xs) := hXe ▸ hX0
        have hgt := toN_get xs
        have hln := toN_length xs
        have hL1 := hX1.lenD
        have hXl : X.length = xs.length := by rw [hXe, toN_length]
        refine WD_drawC 14 rfl (by kernel_rfl) ?_
        try simp (disch := first | omega | (simp; done) | fail) [wrap64c, if_pos, if_neg, opAnd, opOr, opXor, opDiff, opShr, opBit, g_h0, hL, c1, hN, c2, c3, hgt, hL1, hXl]
        refine callP_c (by simp) (by simp) ?ha (spHasN_ok h0 b xs 0 hX1 (by omega) hs) ?hadd ?_
        (case ha => simp (disch := first | omega | (simp; done) | fail) [wrap64c, if_pos, if_neg, opAnd, opOr, opXor, opDiff, opShr, opBit, g_h0, hL, c1, hN, c2, c3, hgt, hL1, hXl])
        (case hadd => first | assumption | exact adds_self _ | (simp; done))
        cases c4 : fam xs 0
        · try simp (disch := first | omega | (simp; done) | fail) [wrap64c, if_pos, if_neg, opAnd, opOr, opXor, opDiff, opShr, opBit, g_h0, hL, c1, hN, c2, c3, hgt, hL1, hXl, c4]
          have : spB N X = false := hN ▸ hXe ▸ spB_no fun g => by have := decide_eq_true g.zero; unfold fam at c4; rw [this] at c4; cases c4
          exact done_ret rfl (by simp [this, K0])
        · have hf : ((bit n : Nat) : Int) - 1 = ((bit n - 1 : Nat) : Int) := by omega
          try simp (disch := first | omega | (simp; done) | fail) [wrap64c, if_pos, if_neg, opAnd, opOr, opXor, opDiff, opShr, opBit, g_h0, hL, c1, hN, c2, c3, hgt, hL1, hXl, c4, hf]
          refine callP_c (by simp) (by simp) ?ha (spHasN_ok h0 b xs (bit n - 1) hX1 (by omega) hs) ?hadd ?_
          (case ha => simp (disch := first | omega | (simp; done) | fail) [wrap64c, if_pos, if_neg, opAnd, opOr, opXor, opDiff, opShr, opBit, g_h0, hL, c1, hN, c2, c3, hgt, hL1, hXl, c4, hf])
          (case hadd => first | assumption | exact adds_self _ | (simp; done))
          cases c5 : fam xs (bit n - 1)
          · try simp (disch := first | omega | (simp; done) | fail) [wrap64c, if_pos, if_neg, opAnd, opOr, opXor, opDiff, opShr, opBit, g_h0, hL, c1, hN, c2, c3, hgt, hL1, hXl, c4, hf, c5]
            have : spB N X = false := hN ▸ hXe ▸ spB_no fun g => by have := decide_eq_true g.full; unfold fam at c5; rw [this] at c5; cases c5
            exact done_ret rfl (by simp [this, K0])
          · try simp (disch := first | omega | (simp; done) | fail) [wrap64c, if_pos, if_neg, opAnd, opOr, opXor, opDiff, opShr, opBit, g_h0, hL, c1, hN, c2, c3, hgt, hL1, hXl, c4, hf, c5]
            refine WD_loopC [1, 45, 46] (fun m tm h' => ∃ j, m = xs.length - j ∧ h0 = h' ∧ tm 47 = .int .i64 (j : Int) ∧ (j ≤ xs.length) ∧ (∀ i (h1 : i < xs.length), i < j → (xs[i] ≠ 0 → innerN (fam xs) xs[i] ≠ 0) ∧ ∀ k (h : k < xs.length), fam xs (nOr xs[i] xs[k]) = true)) _ ⟨0, rfl, rfl, (by simp (disch := first | omega | (simp; done) | fail) [wrap64c, if_pos, if_neg, opAnd, opOr, opXor, opDiff, opShr, opBit, g_h0, hL, c1, hN, c2, c3, hgt, hL1, hXl, c4, hf, c5]), (by first | omega | assumption | (simp (disch := first | omega | (simp; done) | fail) [wrap64c, if_pos, if_neg, opAnd, opOr, opXor, opDiff, opShr, opBit, g_h0, hL, c1, hN, c2, c3, hgt, hL1, hXl, c4, hf, c5] <;> omega)), (by intro i h1 h0; omega)⟩ ?_
            rintro m tm h' hFr ⟨j, rfl, rfl, e47, hj, hx⟩
            simp only [FrameL] at hFr
            obtain ⟨f1_0, f45_0, f46_0, -⟩ := hFr
            try simp (disch := first | omega | (simp; done) | fail) [wrap64c, if_pos, if_neg, opAnd, opOr, opXor, opDiff, opShr, opBit, g_h0, hL, c1, hN, c2, c3, hgt, hL1, hXl, c4, hf, c5] at f1_0 f45_0 f46_0
            have e1 := f1_0
            have e45 := f45_0
            have e46 := f46_0
            by_cases hlj : j < xs.length
            · obtain ⟨o_x, i_x, c_x, cs_x, own_x, ex_x, es_x, q_x, b_x, g_x, l_x, r_x⟩ := hX1.open ((by simp; omega))
              have z_x : ∀ h2 : i_x < cs_x.length, cs_x[i_x] = _ := fun h2 => r_x 0 ((by simp; omega)) h2
              have hxj := hlt _ (List.getElem_mem hlj)
              by_cases z : xs[j] = 0
              · have hne : xs[j] ≠ 0 → innerN (fam xs) xs[j] ≠ 0 := fun q => absurd z q
                have z1 : ¬ (0 : Nat) < xs[j] := by omega
                try simp (disch := first | omega | (simp; done) | fail) [wrap64c, if_pos, if_neg, opAnd, opOr, opXor, opDiff, opShr, opBit, g_h0, hL, c1, hN, c2, c3, hgt, hL1, hXl, c4, hf, c5, e1, e45, e46, e47, hlj, q_x, g_x, l_x, r_x, z_x, z1]
                refine WD_loopC [1, 4, 45, 46, 47, 61, 62] (fun m tm h' => ∃ k, m = xs.length - k ∧ h0 = h' ∧ tm 63 = .int .i64 (k : Int) ∧ (k ≤ xs.length) ∧ (∀ i (h1 : i < xs.length), i < k → fam xs (nOr xs[j] xs[i]) = true)) _ ⟨0, rfl, rfl, (by simp (disch := first | omega | (simp; done) | fail) [wrap64c, if_pos, if_neg, opAnd, opOr, opXor, opDiff, opShr, opBit, g_h0, hL, c1, hN, c2, c3, hgt, hL1, hXl, c4, hf, c5, e1, e45, e46, e47, hlj, q_x, g_x, l_x, r_x, z_x, z1]), (by first | omega | assumption | (simp (disch := first | omega | (simp; done) | fail) [wrap64c, if_pos, if_neg, opAnd, opOr, opXor, opDiff, opShr, opBit, g_h0, hL, c1, hN, c2, c3, hgt, hL1, hXl, c4, hf, c5, e1, e45, e46, e47, hlj, q_x, g_x, l_x, r_x, z_x, z1] <;> omega)), (by intro i h1 h0; omega)⟩ ?_
                rintro m tm h' hFr ⟨k, rfl, rfl, e63, hk, hy⟩
                simp only [FrameL] at hFr
                obtain ⟨f1_1, f4_1, f45_1, f46_1, f47_1, f61_1, f62_1, -⟩ := hFr
                try simp (disch := first | omega | (simp; done) | fail) [wrap64c, if_pos, if_neg, opAnd, opOr, opXor, opDiff, opShr, opBit, g_h0, hL, c1, hN, c2, c3, hgt, hL1, hXl, c4, hf, c5, e1, e45, e46, e47, hlj, q_x, g_x, l_x, r_x, z_x, z1] at f1_1 f4_1 f45_1 f46_1 f47_1 f61_1 f62_1
                have e1 := f1_1
                have e4 := f4_1
                have e45 := f45_1
                have e46 := f46_1
                have e47 := f47_1
                have e61 := f61_1
                have e62 := f62_1
                by_cases hlk : k < xs.length
                · obtain ⟨o_y, i_y, c_y, cs_y, own_y, ex_y, es_y, q_y, b_y, g_y, l_y, r_y⟩ := hX1.open ((by simp; omega))
                  have z_y : ∀ h2 : i_y < cs_y.length, cs_y[i_y] = _ := fun h2 => r_y 0 ((by simp; omega)) h2
                  have hxk := hlt _ (List.getElem_mem hlk)
                  try simp (disch := first | omega | (simp; done) | fail) [wrap64c, if_pos, if_neg, opAnd, opOr, opXor, opDiff, opShr, opBit, g_h0, hL, c1, hN, c2, c3, hgt, hL1, hXl, c4, hf, c5, e1, e45, e46, e47, hlj, q_x, g_x, l_x, r_x, z_x, z1, e4, e61, e62, e63, hlk, q_y, g_y, l_y, r_y, z_y]
                  refine callG_c (by simp) (by simp) ?ha (spHasN_ok h0 b xs (nOr xs[j] xs[k]) hX1 (by omega) hs) ?_
                  (case ha => simp (disch := first | omega | (simp; done) | fail) [wrap64c, if_pos, if_neg, opAnd, opOr, opXor, opDiff, opShr, opBit, g_h0, hL, c1, hN, c2, c3, hgt, hL1, hXl, c4, hf, c5, e1, e45, e46, e47, hlj, q_x, g_x, l_x, r_x, z_x, z1, e4, e61, e62, e63, hlk, q_y, g_y, l_y, r_y, z_y])
                  cases c7 : fam xs (nOr xs[j] xs[k])
                  · try simp (disch := first | omega | (simp; done) | fail) [wrap64c, if_pos, if_neg, opAnd, opOr, opXor, opDiff, opShr, opBit, g_h0, hL, c1, hN, c2, c3, hgt, hL1, hXl, c4, hf, c5, e1, e45, e46, e47, hlj, q_x, g_x, l_x, r_x, z_x, z1, e4, e61, e62, e63, hlk, q_y, g_y, l_y, r_y, z_y, c7]
                    have : spB N X = false := hN ▸ hXe ▸ spB_no fun g => by
                      have := decide_eq_true (g.uni _ (List.getElem_mem hlj) _ (List.getElem_mem hlk)); unfold fam at c7; rw [this] at c7; cases c7
                    exact done_ret rfl (by simp [this, K0])
                  · try simp (disch := first | omega | (simp; done) | fail) [wrap64c, if_pos, if_neg, opAnd, opOr, opXor, opDiff, opShr, opBit, g_h0, hL, c1, hN, c2, c3, hgt, hL1, hXl, c4, hf, c5, e1, e45, e46, e47, hlj, q_x, g_x, l_x, r_x, z_x, z1, e4, e61, e62, e63, hlk, q_y, g_y, l_y, r_y, z_y, c7]
                    refine loopK_next _ ?hm ?hf ⟨k + 1, rfl, rfl, (by simp (disch := first | omega | (simp; done) | fail) [wrap64c, if_pos, if_neg, opAnd, opOr, opXor, opDiff, opShr, opBit, g_h0, hL, c1, hN, c2, c3, hgt, hL1, hXl, c4, hf, c5, e1, e45, e46, e47, hlj, q_x, g_x, l_x, r_x, z_x, z1, e4, e61, e62, e63, hlk, q_y, g_y, l_y, r_y, z_y, c7] <;> omega), (by first | omega | assumption | (simp (disch := first | omega | (simp; done) | fail) [wrap64c, if_pos, if_neg, opAnd, opOr, opXor, opDiff, opShr, opBit, g_h0, hL, c1, hN, c2, c3, hgt, hL1, hXl, c4, hf, c5, e1, e45, e46, e47, hlj, q_x, g_x, l_x, r_x, z_x, z1, e4, e61, e62, e63, hlk, q_y, g_y, l_y, r_y, z_y, c7] <;> omega)), ?c_hy⟩
                    (case hm => first | omega | (simp; omega))
                    (case hf => simp [FrameL, g_h0, hL, c1, hN, c2, c3, hgt, hL1, hXl, c4, hf, c5, e1, e45, e46, e47, hlj, q_x, g_x, l_x, r_x, z_x, z1, e4, e61, e62, e63, hlk, q_y, g_y, l_y, r_y, z_y, c7, f1_1, f4_1, f45_1, f46_1, f47_1, f61_1, f62_1])
                    case c_hy =>
                      exact (fun i h1 hi => by
                        by_cases e : i = k
                        · subst e; exact c7
                        · exact hy i h1 (by omega))
                · try simp (disch := first | omega | (simp; done) | fail) [wrap64c, if_pos, if_neg, opAnd, opOr, opXor, opDiff, opShr, opBit, g_h0, hL, c1, hN, c2, c3, hgt, hL1, hXl, c4, hf, c5, e1, e45, e46, e47, hlj, q_x, g_x, l_x, r_x, z_x, z1, e4, e61, e62, e63, hlk]
                  refine loopK_next _ ?hm ?hf ⟨j + 1, rfl, rfl, (by simp (disch := first | omega | (simp; done) | fail) [wrap64c, if_pos, if_neg, opAnd, opOr, opXor, opDiff, opShr, opBit, g_h0, hL, c1, hN, c2, c3, hgt, hL1, hXl, c4, hf, c5, e1, e45, e46, e47, hlj, q_x, g_x, l_x, r_x, z_x, z1, e4, e61, e62, e63, hlk] <;> omega), (by first | omega | assumption | (simp (disch := first | omega | (simp; done) | fail) [wrap64c, if_pos, if_neg, opAnd, opOr, opXor, opDiff, opShr, opBit, g_h0, hL, c1, hN, c2, c3, hgt, hL1, hXl, c4, hf, c5, e1, e45, e46, e47, hlj, q_x, g_x, l_x, r_x, z_x, z1, e4, e61, e62, e63, hlk] <;> omega)), ?c_hx⟩
                  (case hm => first | omega | (simp; omega))
                  (case hf => simp [FrameL, g_h0, hL, c1, hN, c2, c3, hgt, hL1, hXl, c4, hf, c5, e1, e45, e46, e47, hlj, q_x, g_x, l_x, r_x, z_x, z1, e4, e61, e62, e63, hlk, f1_0, f45_0, f46_0])
                  case c_hx =>
                    exact (fun i h1 hi => by
                      by_cases e : i = j
                      · subst e; exact ⟨hne, fun k hk' => hy k hk' (by omega)⟩
                      · exact hx i h1 (by omega))
              · have z1 : 0 < xs[j] := by omega
                have hin := maskN_lt (fun i => xs[j].testBit i && fam xs (nXor xs[j] (bit i))) 7
                try simp (disch := first | omega | (simp; done) | fail) [wrap64c, if_pos, if_neg, opAnd, opOr, opXor, opDiff, opShr, opBit, g_h0, hL, c1, hN, c2, c3, hgt, hL1, hXl, c4, hf, c5, e1, e45, e46, e47, hlj, q_x, g_x, l_x, r_x, z_x, z1]
                refine callG_c (by simp) (by simp) ?ha (spInner_ok h0 b xs xs[j] hX1 (by omega) hs (by omega)) ?_
                (case ha => simp (disch := first | omega | (simp; done) | fail) [wrap64c, if_pos, if_neg, opAnd, opOr, opXor, opDiff, opShr, opBit, g_h0, hL, c1, hN, c2, c3, hgt, hL1, hXl, c4, hf, c5, e1, e45, e46, e47, hlj, q_x, g_x, l_x, r_x, z_x, z1])
                by_cases c6 : innerN (fam xs) xs[j] = 0
                · try simp (disch := first | omega | (simp; done) | fail) [wrap64c, if_pos, if_neg, opAnd, opOr, opXor, opDiff, opShr, opBit, g_h0, hL, c1, hN, c2, c3, hgt, hL1, hXl, c4, hf, c5, e1, e45, e46, e47, hlj, q_x, g_x, l_x, r_x, z_x, z1, c6]
                  have : spB N X = false := hN ▸ hXe ▸ spB_no fun g => g.inn _ (List.getElem_mem hlj) z c6
                  exact done_ret rfl (by simp [this, K0])
                · have hne : xs[j] ≠ 0 → innerN (fam xs) xs[j] ≠ 0 := fun _ => c6
                  try simp (disch := first | omega | (simp; done) | fail) [wrap64c, if_pos, if_neg, opAnd, opOr, opXor, opDiff, opShr, opBit, g_h0, hL, c1, hN, c2, c3, hgt, hL1, hXl, c4, hf, c5, e1, e45, e46, e47, hlj, q_x, g_x, l_x, r_x, z_x, z1, c6]
                  refine WD_loopC [1, 4, 45, 46, 47, 61, 62] (fun m tm h' => ∃ k, m = xs.length - k ∧ h0 = h' ∧ tm 63 = .int .i64 (k : Int) ∧ (k ≤ xs.length) ∧ (∀ i (h1 : i < xs.length), i < k → fam xs (nOr xs[j] xs[i]) = true)) _ ⟨0, rfl, rfl, (by simp (disch := first | omega | (simp; done) | fail) [wrap64c, if_pos, if_neg, opAnd, opOr, opXor, opDiff, opShr, opBit, g_h0, hL, c1, hN, c2, c3, hgt, hL1, hXl, c4, hf, c5, e1, e45, e46, e47, hlj, q_x, g_x, l_x, r_x, z_x, z1, c6]), (by first | omega | assumption | (simp (disch := first | omega | (simp; done) | fail) [wrap64c, if_pos, if_neg, opAnd, opOr, opXor, opDiff, opShr, opBit, g_h0, hL, c1, hN, c2, c3, hgt, hL1, hXl, c4, hf, c5, e1, e45, e46, e47, hlj, q_x, g_x, l_x, r_x, z_x, z1, c6] <;> omega)), (by intro i h1 h0; omega)⟩ ?_
                  rintro m tm h' hFr ⟨k, rfl, rfl, e63, hk, hy⟩
                  simp only [FrameL] at hFr
                  obtain ⟨f1_2, f4_2, f45_2, f46_2, f47_2, f61_2, f62_2, -⟩ := hFr
                  try simp (disch := first | omega | (simp; done) | fail) [wrap64c, if_pos, if_neg, opAnd, opOr, opXor, opDiff, opShr, opBit, g_h0, hL, c1, hN, c2, c3, hgt, hL1, hXl, c4, hf, c5, e1, e45, e46, e47, hlj, q_x, g_x, l_x, r_x, z_x, z1, c6] at f1_2 f4_2 f45_2 f46_2 f47_2 f61_2 f62_2
                  have e1 := f1_2
                  have e4 := f4_2
                  have e45 := f45_2
                  have e46 := f46_2
                  have e47 := f47_2
                  have e61 := f61_2
                  have e62 := f62_2
                  by_cases hlk : k < xs.length
                  · obtain ⟨o_y, i_y, c_y, cs_y, own_y, ex_y, es_y, q_y, b_y, g_y, l_y, r_y⟩ := hX1.open ((by simp; omega))
                    have z_y : ∀ h2 : i_y < cs_y.length, cs_y[i_y] = _ := fun h2 => r_y 0 ((by simp; omega)) h2
                    have hxk := hlt _ (List.getElem_mem hlk)
                    try simp (disch := first | omega | (simp; done) | fail) [wrap64c, if_pos, if_neg, opAnd, opOr, opXor, opDiff, opShr, opBit, g_h0, hL, c1, hN, c2, c3, hgt, hL1, hXl, c4, hf, c5, e1, e45, e46, e47, hlj, q_x, g_x, l_x, r_x, z_x, z1, c6, e4, e61, e62, e63, hlk, q_y, g_y, l_y, r_y, z_y]
                    refine callG_c (by simp) (by simp) ?ha (spHasN_ok h0 b xs (nOr xs[j] xs[k]) hX1 (by omega) hs) ?_
                    (case ha => simp (disch := first | omega | (simp; done) | fail) [wrap64c, if_pos, if_neg, opAnd, opOr, opXor, opDiff, opShr, opBit, g_h0, hL, c1, hN, c2, c3, hgt, hL1, hXl, c4, hf, c5, e1, e45, e46, e47, hlj, q_x, g_x, l_x, r_x, z_x, z1, c6, e4, e61, e62, e63, hlk, q_y, g_y, l_y, r_y, z_y])
                    cases c7 : fam xs (nOr xs[j] xs[k])
                    · try simp (disch := first | omega | (simp; done) | fail) [wrap64c, if_pos, if_neg, opAnd, opOr, opXor, opDiff, opShr, opBit, g_h0, hL, c1, hN, c2, c3, hgt, hL1, hXl, c4, hf, c5, e1, e45, e46, e47, hlj, q_x, g_x, l_x, r_x, z_x, z1, c6, e4, e61, e62, e63, hlk, q_y, g_y, l_y, r_y, z_y, c7]
                      have : spB N X = false := hN ▸ hXe ▸ spB_no fun g => by
                        have := decide_eq_true (g.uni _ (List.getElem_mem hlj) _ (List.getElem_mem hlk)); unfold fam at c7; rw [this] at c7; cases c7
                      exact done_ret rfl (by simp [this, K0])
                    · try simp (disch := first | omega | (simp; done) | fail) [wrap64c, if_pos, if_neg, opAnd, opOr, opXor, opDiff, opShr, opBit, g_h0, hL, c1, hN, c2, c3, hgt, hL1, hXl, c4, hf, c5, e1, e45, e46, e47, hlj, q_x, g_x, l_x, r_x, z_x, z1, c6, e4, e61, e62, e63, hlk, q_y, g_y, l_y, r_y, z_y, c7]
                      refine loopK_next _ ?hm ?hf ⟨k + 1, rfl, rfl, (by simp (disch := first | omega | (simp; done) | fail) [wrap64c, if_pos, if_neg, opAnd, opOr, opXor, opDiff, opShr, opBit, g_h0, hL, c1, hN, c2, c3, hgt, hL1, hXl, c4, hf, c5, e1, e45, e46, e47, hlj, q_x, g_x, l_x, r_x, z_x, z1, c6, e4, e61, e62, e63, hlk, q_y, g_y, l_y, r_y, z_y, c7] <;> omega), (by first | omega | assumption | (simp (disch := first | omega | (simp; done) | fail) [wrap64c, if_pos, if_neg, opAnd, opOr, opXor, opDiff, opShr, opBit, g_h0, hL, c1, hN, c2, c3, hgt, hL1, hXl, c4, hf, c5, e1, e45, e46, e47, hlj, q_x, g_x, l_x, r_x, z_x, z1, c6, e4, e61, e62, e63, hlk, q_y, g_y, l_y, r_y, z_y, c7] <;> omega)), ?c_hy⟩
                      (case hm => first | omega | (simp; omega))
                      (case hf => simp [FrameL, g_h0, hL, c1, hN, c2, c3, hgt, hL1, hXl, c4, hf, c5, e1, e45, e46, e47, hlj, q_x, g_x, l_x, r_x, z_x, z1, c6, e4, e61, e62, e63, hlk, q_y, g_y, l_y, r_y, z_y, c7, f1_2, f4_2, f45_2, f46_2, f47_2, f61_2, f62_2])
                      case c_hy =>
                        exact (fun i h1 hi => by
                          by_cases e : i = k
                          · subst e; exact c7
                          · exact hy i h1 (by omega))
                  · try simp (disch := first | omega | (simp; done) | fail) [wrap64c, if_pos, if_neg, opAnd, opOr, opXor, opDiff, opShr, opBit, g_h0, hL, c1, hN, c2, c3, hgt, hL1, hXl, c4, hf, c5, e1, e45, e46, e47, hlj, q_x, g_x, l_x, r_x, z_x, z1, c6, e4, e61, e62, e63, hlk]
                    refine loopK_next _ ?hm ?hf ⟨j + 1, rfl, rfl, (by simp (disch := first | omega | (simp; done) | fail) [wrap64c, if_pos, if_neg, opAnd, opOr, opXor, opDiff, opShr, opBit, g_h0, hL, c1, hN, c2, c3, hgt, hL1, hXl, c4, hf, c5, e1, e45, e46, e47, hlj, q_x, g_x, l_x, r_x, z_x, z1, c6, e4, e61, e62, e63, hlk] <;> omega), (by first | omega | assumption | (simp (disch := first | omega | (simp; done) | fail) [wrap64c, if_pos, if_neg, opAnd, opOr, opXor, opDiff, opShr, opBit, g_h0, hL, c1, hN, c2, c3, hgt, hL1, hXl, c4, hf, c5, e1, e45, e46, e47, hlj, q_x, g_x, l_x, r_x, z_x, z1, c6, e4, e61, e62, e63, hlk] <;> omega)), ?c_hx⟩
                    (case hm => first | omega | (simp; omega))
                    (case hf => simp [FrameL, g_h0, hL, c1, hN, c2, c3, hgt, hL1, hXl, c4, hf, c5, e1, e45, e46, e47, hlj, q_x, g_x, l_x, r_x, z_x, z1, c6, e4, e61, e62, e63, hlk, f1_0, f45_0, f46_0])
                    case c_hx =>
                      exact (fun i h1 hi => by
                        by_cases e : i = j
                        · subst e; exact ⟨hne, fun k hk' => hy k hk' (by omega)⟩
                        · exact hx i h1 (by omega))
            · try simp (disch := first | omega | (simp; done) | fail) [wrap64c, if_pos, if_neg, opAnd, opOr, opXor, opDiff, opShr, opBit, g_h0, hL, c1, hN, c2, c3, hgt, hL1, hXl, c4, hf, c5, e1, e45, e46, e47, hlj]
              have : spB N X = true := hN ▸ hXe ▸ spB_mk n1 n7 hs hlt c4 c5 fun i h1 => hx i h1 (by omega)
              exact done_ret rfl (by simp [this, K0])
end Go.Proofs.YtnncipcldbopgaaGreat
namespace Go.Proofs.YtnncipcldbopgaaGreat
set_option linter.unusedSimpArgs false
set_option linter.unusedVariables false
set_option maxHeartbeats 4000000
open Go Go.Eng
attribute [local irreducible] WD RunD PreD Runs CallOK
theorem Space.mk {h : Hp} {b : Value} {N : Int} {X : List Int} (hX : Ints h b X) : Space h (.agg #[.int .i64 N, b]) N X := ⟨b, rfl, hX⟩
theorem isSpace_ok (h : Hp) (v : Value) (N : Int) (X : List Int) (hv : Space h v N X) (hl : X.length < 2 ^ 40) : CallOK Tryz.prog 51 #[v] h (.bool (spB N X)) h := by
  refine callY_P 99 _ [.tmp 2] Tryz.func51 rfl rfl rfl (by first | rfl | simp) ?_
  obtain ⟨b, rfl, hX⟩ := hv
  refine WD_first ?_
  try simp (disch := first | omega | (simp; done) | fail) [wrap64c, if_pos, if_neg, opAnd, opOr, opXor, opDiff, opShr, opBit]
  refine stopK_heap fun h0 q_h0 => ?_
  refine stopK_go ?_
  have g_h0 : h0.get h.next = .cells [.int .i64 N, b] true true 1 := by simp [q_h0]
  have k_h0 : Adds h h0 := by rw [q_h0]; exact (by first | exact aK | exact kK)
  have n_h0 : h.next < h0.next := by simp [q_h0]; try omega
  have hX0 := hX.keep k_h0.1
  have hL := hX0.lenD
  have K0 := k_h0.1
  try simp (disch := first | omega | (simp; done) | fail) [wrap64c, if_pos, if_neg, opAnd, opOr, opXor, opDiff, opShr, opBit, g_h0, hL]
  refine WD_drawC 11 rfl (by kernel_rfl) ?_
  try simp (disch := first | omega | (simp; done) | fail) [wrap64c, if_pos, if_neg, opAnd, opOr, opXor, opDiff, opShr, opBit, g_h0, hL]
  refine callP_c (by simp) (by simp) ?ha (isSize_ok h0 N) ?hadd ?_
  (case ha => simp (disch := first | omega | (simp; done) | fail) [wrap64c, if_pos, if_neg, opAnd, opOr, opXor, opDiff, opShr, opBit, g_h0, hL])
  (case hadd => first | assumption | exact adds_self _ | (simp; done))
  cases c1 : sizeB N
  · try simp (disch := first | omega | (simp; done) | fail) [wrap64c, if_pos, if_neg, opAnd, opOr, opXor, opDiff, opShr, opBit, g_h0, hL, c1]
    have : spB N X = false := spB_false (fun n xs e1 e2 g => by subst e1; rw [sizeB_of g.n1 g.n7] at c1; cases c1)
    exact done_ret rfl (by simp [this, K0])
  · obtain ⟨n, hN, n1, n7⟩ := sizeB_true c1
    have hb := bit7 n7
    by_cases c2 : (bit n : Int) < (X.length : Int)
    · try simp (disch := first | omega | (simp; done) | fail) [wrap64c, if_pos, if_neg, opAnd, opOr, opXor, opDiff, opShr, opBit, g_h0, hL, c1, hN, c2]
      have : spB N X = false := hN ▸ spB_noX (fun hr => by obtain ⟨xs, e, _, _, hle⟩ := hr.nats; rw [e, toN_length] at c2; omega)
      exact done_ret rfl (by simp [this, K0])
    · try simp (disch := first | omega | (simp; done) | fail) [wrap64c, if_pos, if_neg, opAnd, opOr, opXor, opDiff, opShr, opBit, g_h0, hL, c1, hN, c2]
      refine WD_loopC [1, 24, 25] (fun m tm h' => ∃ j, m = X.length - j ∧ h0 = h' ∧ tm 26 = .int .i64 (j : Int) ∧ (j ≤ X.length) ∧ (∀ i (h1 : i < X.length), i < j → (0 ≤ X[i] ∧ X[i] ≤ ((bit n : Nat) : Int) - 1) ∧ (0 < i → X[i - 1] < X[i]))) _ ⟨0, rfl, rfl, (by simp (disch := first | omega | (simp; done) | fail) [wrap64c, if_pos, if_neg, opAnd, opOr, opXor, opDiff, opShr, opBit, g_h0, hL, c1, hN, c2]), (by first | omega | assumption | (simp (disch := first | omega | (simp; done) | fail) [wrap64c, if_pos, if_neg, opAnd, opOr, opXor, opDiff, opShr, opBit, g_h0, hL, c1, hN, c2] <;> omega)), (by intro i h1 h0; omega)⟩ ?_
      rintro m tm h' hFr ⟨j, rfl, rfl, e26, hj, hx⟩
      simp only [FrameL] at hFr
      obtain ⟨f1_0, f24_0, f25_0, -⟩ := hFr
      try simp (disch := first | omega | (simp; done) | fail) [wrap64c, if_pos, if_neg, opAnd, opOr, opXor, opDiff, opShr, opBit, g_h0, hL, c1, hN, c2] at f1_0 f24_0 f25_0
      have e1 := f1_0
      have e24 := f24_0
      have e25 := f25_0
      by_cases hlt : j < X.length
      · obtain ⟨o_x, i_x, c_x, cs_x, own_x, ex_x, es_x, q_x, b_x, g_x, l_x, r_x⟩ := hX0.open ((by omega))
        have z_x : ∀ h2 : i_x < cs_x.length, cs_x[i_x] = _ := fun h2 => r_x 0 ((by omega)) h2
        try simp (disch := first | omega | (simp; done) | fail) [wrap64c, if_pos, if_neg, opAnd, opOr, opXor, opDiff, opShr, opBit, g_h0, hL, c1, hN, c2, e1, e24, e25, e26, hlt, q_x, g_x, l_x, r_x, z_x]
        refine callG_c (by simp) (by simp) ?ha (isSet_ok h0 n X[j] (by omega)) ?_
        (case ha => simp (disch := first | omega | (simp; done) | fail) [wrap64c, if_pos, if_neg, opAnd, opOr, opXor, opDiff, opShr, opBit, g_h0, hL, c1, hN, c2, e1, e24, e25, e26, hlt, q_x, g_x, l_x, r_x, z_x])
        cases c : setB n X[j]
        · try simp (disch := first | omega | (simp; done) | fail) [wrap64c, if_pos, if_neg, opAnd, opOr, opXor, opDiff, opShr, opBit, g_h0, hL, c1, hN, c2, e1, e24, e25, e26, hlt, q_x, g_x, l_x, r_x, z_x, c]
          have : spB N X = false := hN ▸ spB_noX (fun hr => by
            have h1 := (ris_at.1 hr j hlt).1
            have h2 : setB n X[j] = true := setB_iff.2 (by omega)
            rw [h2] at c; cases c)
          exact done_ret rfl (by simp [this, K0])
        · have hc := setB_iff.1 c
          by_cases hp : 0 < j
          · have hp' : ((j : Int) - 1) = ((j - 1 : Nat) : Int) := by omega
            by_cases hd : X[j - 1] < X[j]
            · have hd2 : ¬ X[j] ≤ X[j - 1] := by omega
              try simp (disch := first | omega | (simp; done) | fail) [wrap64c, if_pos, if_neg, opAnd, opOr, opXor, opDiff, opShr, opBit, g_h0, hL, c1, hN, c2, e1, e24, e25, e26, hlt, q_x, g_x, l_x, r_x, z_x, c, hp, hp', hd2]
              refine loopK_next _ ?hm ?hf ⟨j + 1, rfl, rfl, (by simp (disch := first | omega | (simp; done) | fail) [wrap64c, if_pos, if_neg, opAnd, opOr, opXor, opDiff, opShr, opBit, g_h0, hL, c1, hN, c2, e1, e24, e25, e26, hlt, q_x, g_x, l_x, r_x, z_x, c, hp, hp', hd2] <;> omega), (by first | omega | assumption | (simp (disch := first | omega | (simp; done) | fail) [wrap64c, if_pos, if_neg, opAnd, opOr, opXor, opDiff, opShr, opBit, g_h0, hL, c1, hN, c2, e1, e24, e25, e26, hlt, q_x, g_x, l_x, r_x, z_x, c, hp, hp', hd2] <;> omega)), ?c_hx⟩
              (case hm => first | omega | (simp; omega))
              (case hf => simp [FrameL, g_h0, hL, c1, hN, c2, e1, e24, e25, e26, hlt, q_x, g_x, l_x, r_x, z_x, c, hp, hp', hd2, f1_0, f24_0, f25_0])
              case c_hx =>
                exact (fun i h1 hi' => by
                  by_cases e : i = j
                  · subst e; exact ⟨by omega, fun _ => hd⟩
                  · exact hx i h1 (by omega))
            · have hd2 : X[j] ≤ X[j - 1] := by omega
              try simp (disch := first | omega | (simp; done) | fail) [wrap64c, if_pos, if_neg, opAnd, opOr, opXor, opDiff, opShr, opBit, g_h0, hL, c1, hN, c2, e1, e24, e25, e26, hlt, q_x, g_x, l_x, r_x, z_x, c, hp, hp', hd2]
              have : spB N X = false := hN ▸ spB_noX (fun hr => hd ((ris_at.1 hr j hlt).2 hp))
              exact done_ret rfl (by simp [this, K0])
          · try simp (disch := first | omega | (simp; done) | fail) [wrap64c, if_pos, if_neg, opAnd, opOr, opXor, opDiff, opShr, opBit, g_h0, hL, c1, hN, c2, e1, e24, e25, e26, hlt, q_x, g_x, l_x, r_x, z_x, c, hp]
            refine loopK_next _ ?hm ?hf ⟨j + 1, rfl, rfl, (by simp (disch := first | omega | (simp; done) | fail) [wrap64c, if_pos, if_neg, opAnd, opOr, opXor, opDiff, opShr, opBit, g_h0, hL, c1, hN, c2, e1, e24, e25, e26, hlt, q_x, g_x, l_x, r_x, z_x, c, hp] <;> omega), (by first | omega | assumption | (simp (disch := first | omega | (simp; done) | fail) [wrap64c, if_pos, if_neg, opAnd, opOr, opXor, opDiff, opShr, opBit, g_h0, hL, c1, hN, c2, e1, e24, e25, e26, hlt, q_x, g_x, l_x, r_x, z_x, c, hp] <;> omega)), ?c_hx⟩
            (case hm => first | omega | (simp; omega))
            (case hf => simp [FrameL, g_h0, hL, c1, hN, c2, e1, e24, e25, e26, hlt, q_x, g_x, l_x, r_x, z_x, c, hp, f1_0, f24_0, f25_0])
            case c_hx =>
              exact (fun i h1 hi' => by
                by_cases e : i = j
                · subst e; exact ⟨by omega, fun q => absurd q hp⟩
                · exact hx i h1 (by omega))
      · try simp (disch := first | omega | (simp; done) | fail) [wrap64c, if_pos, if_neg, opAnd, opOr, opXor, opDiff, opShr, opBit, g_h0, hL, c1, hN, c2, e1, e24, e25, e26, hlt]
        obtain ⟨xs, hXe, hs, hlt', hle⟩ := (ris_at.2 fun i h1 => hx i h1 (by omega) : Rising X 0 _).nats
        have hX1 : Ints h0 b (toN xs) := hXe ▸ hX0
        have hgt := toN_get xs
        have hln := toN_length xs
        have hXl : X.length = xs.length := by rw [hXe, toN_length]
        have h128 : ∀ x ∈ xs, x < 128 := fun x hx => by have := hlt' x hx; omega
        obtain ⟨_, h1, hc1, o1, rfl, ha1, ho1, ho2, hg1⟩ := family_ok h0 (.agg #[.int .i64 (n : Int), b]) n xs (.mk hX1) h128 (by omega)
        refine callG_c (by simp) (by simp) ?ha (hc1) ?_
        (case ha => simp (disch := first | omega | (simp; done) | fail) [wrap64c, if_pos, if_neg, opAnd, opOr, opXor, opDiff, opShr, opBit, g_h0, hL, c1, hN, c2, e1, e24, e25, e26, hlt, hgt, hXl, hg1])
        have g1 : h1.get h.next = .cells [.int .i64 N, b] true true 1 := by rw [ha1.1.2 _ (by omega)]; exact g_h0
        have hX2 := hX1.keep ha1.1
        have hL1 := hX2.lenD
        have hf := famC_getD (fam xs)
        have hf2 := famC_at (fam xs)
        have K1 := K0.trans ha1.1
        try simp (disch := first | omega | (simp; done) | fail) [wrap64c, if_pos, if_neg, opAnd, opOr, opXor, opDiff, opShr, opBit, g_h0, hL, c1, hN, c2, e1, e24, e25, e26, hlt, hgt, hXl, hg1, g1, hL1, hf, hf2]
        refine WD_drawC 14 rfl (by kernel_rfl) ?_
        try simp (disch := first | omega | (simp; done) | fail) [wrap64c, if_pos, if_neg, opAnd, opOr, opXor, opDiff, opShr, opBit, g_h0, hL, c1, hN, c2, e1, e24, e25, e26, hlt, hgt, hXl, hg1, g1, hL1, hf, hf2]
        cases c4 : fam xs 0
        · try simp (disch := first | omega | (simp; done) | fail) [wrap64c, if_pos, if_neg, opAnd, opOr, opXor, opDiff, opShr, opBit, g_h0, hL, c1, hN, c2, e1, e24, e25, e26, hlt, hgt, hXl, hg1, g1, hL1, hf, hf2, c4]
          have : spB N X = false := hN ▸ hXe ▸ spB_no fun g => by have := decide_eq_true g.zero; unfold fam at c4; rw [this] at c4; cases c4
          exact done_ret rfl (by simp [this, K1])
        · try simp (disch := first | omega | (simp; done) | fail) [wrap64c, if_pos, if_neg, opAnd, opOr, opXor, opDiff, opShr, opBit, g_h0, hL, c1, hN, c2, e1, e24, e25, e26, hlt, hgt, hXl, hg1, g1, hL1, hf, hf2, c4]
          refine callP_c (by simp) (by simp) ?ha (all_ok h1 (.agg #[.int .i64 (n : Int), b]) n _ (.mk hX2) (by omega)) ?hadd ?_
          (case ha => simp (disch := first | omega | (simp; done) | fail) [wrap64c, if_pos, if_neg, opAnd, opOr, opXor, opDiff, opShr, opBit, g_h0, hL, c1, hN, c2, e1, e24, e25, e26, hlt, hgt, hXl, hg1, g1, hL1, hf, hf2, c4])
          (case hadd => first | assumption | exact adds_self _ | (simp; done))
          have hbl : bit n - 1 < 128 := by omega
          cases c5 : fam xs (bit n - 1)
          · try simp (disch := first | omega | (simp; done) | fail) [wrap64c, if_pos, if_neg, opAnd, opOr, opXor, opDiff, opShr, opBit, g_h0, hL, c1, hN, c2, e1, e24, e25, e26, hlt, hgt, hXl, hg1, g1, hL1, hf, hf2, c4, c5]
            have : spB N X = false := hN ▸ hXe ▸ spB_no fun g => by have := decide_eq_true g.full; unfold fam at c5; rw [this] at c5; cases c5
            exact done_ret rfl (by simp [this, K1])
          · try simp (disch := first | omega | (simp; done) | fail) [wrap64c, if_pos, if_neg, opAnd, opOr, opXor, opDiff, opShr, opBit, g_h0, hL, c1, hN, c2, e1, e24, e25, e26, hlt, hgt, hXl, hg1, g1, hL1, hf, hf2, c4, c5]
            refine WD_loopC [1, 5, 68, 69] (fun m tm h' => ∃ j, m = xs.length - j ∧ h1 = h' ∧ tm 70 = .int .i64 (j : Int) ∧ (j ≤ xs.length) ∧ (∀ i (h1 : i < xs.length), i < j → (xs[i] ≠ 0 → innerN (fam xs) xs[i] ≠ 0) ∧ ∀ k (h : k < xs.length), fam xs (nOr xs[i] xs[k]) = true)) _ ⟨0, rfl, rfl, (by simp (disch := first | omega | (simp; done) | fail) [wrap64c, if_pos, if_neg, opAnd, opOr, opXor, opDiff, opShr, opBit, g_h0, hL, c1, hN, c2, e1, e24, e25, e26, hlt, hgt, hXl, hg1, g1, hL1, hf, hf2, c4, c5]), (by first | omega | assumption | (simp (disch := first | omega | (simp; done) | fail) [wrap64c, if_pos, if_neg, opAnd, opOr, opXor, opDiff, opShr, opBit, g_h0, hL, c1, hN, c2, e1, e24, e25, e26, hlt, hgt, hXl, hg1, g1, hL1, hf, hf2, c4, c5] <;> omega)), (by intro i h1 h0; omega)⟩ ?_
            rintro m tm h' hFr ⟨j, rfl, rfl, e70, hj, hx⟩
            simp only [FrameL] at hFr
            obtain ⟨f1_1, f5_1, f68_1, f69_1, -⟩ := hFr
            try simp (disch := first | omega | (simp; done) | fail) [wrap64c, if_pos, if_neg, opAnd, opOr, opXor, opDiff, opShr, opBit, g_h0, hL, c1, hN, c2, e1, e24, e25, e26, hlt, hgt, hXl, hg1, g1, hL1, hf, hf2, c4, c5] at f1_1 f5_1 f68_1 f69_1
            have e1 := f1_1
            have e5 := f5_1
            have e68 := f68_1
            have e69 := f69_1
            by_cases hlj : j < xs.length
            · obtain ⟨o_x, i_x, c_x, cs_x, own_x, ex_x, es_x, q_x, b_x, g_x, l_x, r_x⟩ := hX2.open ((by simp; omega))
              have z_x : ∀ h2 : i_x < cs_x.length, cs_x[i_x] = _ := fun h2 => r_x 0 ((by simp; omega)) h2
              have hxj := h128 _ (List.getElem_mem hlj)
              by_cases z : xs[j] = 0
              · have hne : xs[j] ≠ 0 → innerN (fam xs) xs[j] ≠ 0 := fun q => absurd z q
                have z1 : ((xs[j] : Int) != 0) = false := by simp [z]
                try simp (disch := first | omega | (simp; done) | fail) [wrap64c, if_pos, if_neg, opAnd, opOr, opXor, opDiff, opShr, opBit, g_h0, hL, c1, hN, c2, e1, e24, e25, e26, hlt, hgt, hXl, hg1, g1, hL1, hf, hf2, c4, c5, e5, e68, e69, e70, hlj, q_x, g_x, l_x, r_x, z_x, z1]
                refine WD_loopC [1, 5, 7, 68, 69, 70, 83, 84] (fun m tm h' => ∃ k, m = xs.length - k ∧ h1 = h' ∧ tm 85 = .int .i64 (k : Int) ∧ (k ≤ xs.length) ∧ (∀ i (h1 : i < xs.length), i < k → fam xs (nOr xs[j] xs[i]) = true)) _ ⟨0, rfl, rfl, (by simp (disch := first | omega | (simp; done) | fail) [wrap64c, if_pos, if_neg, opAnd, opOr, opXor, opDiff, opShr, opBit, g_h0, hL, c1, hN, c2, e1, e24, e25, e26, hlt, hgt, hXl, hg1, g1, hL1, hf, hf2, c4, c5, e5, e68, e69, e70, hlj, q_x, g_x, l_x, r_x, z_x, z1]), (by first | omega | assumption | (simp (disch := first | omega | (simp; done) | fail) [wrap64c, if_pos, if_neg, opAnd, opOr, opXor, opDiff, opShr, opBit, g_h0, hL, c1, hN, c2, e1, e24, e25, e26, hlt, hgt, hXl, hg1, g1, hL1, hf, hf2, c4, c5, e5, e68, e69, e70, hlj, q_x, g_x, l_x, r_x, z_x, z1] <;> omega)), (by intro i h1 h0; omega)⟩ ?_
                rintro m tm h' hFr ⟨k, rfl, rfl, e85, hk, hy⟩
                simp only [FrameL] at hFr
                obtain ⟨f1_2, f5_2, f7_2, f68_2, f69_2, f70_2, f83_2, f84_2, -⟩ := hFr
                try simp (disch := first | omega | (simp; done) | fail) [wrap64c, if_pos, if_neg, opAnd, opOr, opXor, opDiff, opShr, opBit, g_h0, hL, c1, hN, c2, e1, e24, e25, e26, hlt, hgt, hXl, hg1, g1, hL1, hf, hf2, c4, c5, e5, e68, e69, e70, hlj, q_x, g_x, l_x, r_x, z_x, z1] at f1_2 f5_2 f7_2 f68_2 f69_2 f70_2 f83_2 f84_2
                have e1 := f1_2
                have e5 := f5_2
                have e7 := f7_2
                have e68 := f68_2
                have e69 := f69_2
                have e70 := f70_2
                have e83 := f83_2
                have e84 := f84_2
                by_cases hlk : k < xs.length
                · obtain ⟨o_y, i_y, c_y, cs_y, own_y, ex_y, es_y, q_y, b_y, g_y, l_y, r_y⟩ := hX2.open ((by simp; omega))
                  have z_y : ∀ h2 : i_y < cs_y.length, cs_y[i_y] = _ := fun h2 => r_y 0 ((by simp; omega)) h2
                  have hxk := h128 _ (List.getElem_mem hlk)
                  have hor := nOr128 hxj hxk
                  cases c7 : fam xs (nOr xs[j] xs[k])
                  · try simp (disch := first | omega | (simp; done) | fail) [wrap64c, if_pos, if_neg, opAnd, opOr, opXor, opDiff, opShr, opBit, g_h0, hL, c1, hN, c2, e1, e24, e25, e26, hlt, hgt, hXl, hg1, g1, hL1, hf, hf2, c4, c5, e5, e68, e69, e70, hlj, q_x, g_x, l_x, r_x, z_x, z1, e7, e83, e84, e85, hlk, q_y, g_y, l_y, r_y, z_y, c7]
                    have : spB N X = false := hN ▸ hXe ▸ spB_no fun g => by
                      have := decide_eq_true (g.uni _ (List.getElem_mem hlj) _ (List.getElem_mem hlk)); unfold fam at c7; rw [this] at c7; cases c7
                    exact done_ret rfl (by simp [this, K1])
                  · try simp (disch := first | omega | (simp; done) | fail) [wrap64c, if_pos, if_neg, opAnd, opOr, opXor, opDiff, opShr, opBit, g_h0, hL, c1, hN, c2, e1, e24, e25, e26, hlt, hgt, hXl, hg1, g1, hL1, hf, hf2, c4, c5, e5, e68, e69, e70, hlj, q_x, g_x, l_x, r_x, z_x, z1, e7, e83, e84, e85, hlk, q_y, g_y, l_y, r_y, z_y, c7]
                    refine loopK_next _ ?hm ?hf ⟨k + 1, rfl, rfl, (by simp (disch := first | omega | (simp; done) | fail) [wrap64c, if_pos, if_neg, opAnd, opOr, opXor, opDiff, opShr, opBit, g_h0, hL, c1, hN, c2, e1, e24, e25, e26, hlt, hgt, hXl, hg1, g1, hL1, hf, hf2, c4, c5, e5, e68, e69, e70, hlj, q_x, g_x, l_x, r_x, z_x, z1, e7, e83, e84, e85, hlk, q_y, g_y, l_y, r_y, z_y, c7] <;> omega), (by first | omega | assumption | (simp (disch := first | omega | (simp; done) | fail) [wrap64c, if_pos, if_neg, opAnd, opOr, opXor, opDiff, opShr, opBit, g_h0, hL, c1, hN, c2, e1, e24, e25, e26, hlt, hgt, hXl, hg1, g1, hL1, hf, hf2, c4, c5, e5, e68, e69, e70, hlj, q_x, g_x, l_x, r_x, z_x, z1, e7, e83, e84, e85, hlk, q_y, g_y, l_y, r_y, z_y, c7] <;> omega)), ?c_hy⟩
                    (case hm => first | omega | (simp; omega))
                    (case hf => simp [FrameL, g_h0, hL, c1, hN, c2, e1, e24, e25, e26, hlt, hgt, hXl, hg1, g1, hL1, hf, hf2, c4, c5, e5, e68, e69, e70, hlj, q_x, g_x, l_x, r_x, z_x, z1, e7, e83, e84, e85, hlk, q_y, g_y, l_y, r_y, z_y, c7, f1_2, f5_2, f7_2, f68_2, f69_2, f70_2, f83_2, f84_2])
                    case c_hy =>
                      exact (fun i h1 hi => by
                        by_cases e : i = k
                        · subst e; exact c7
                        · exact hy i h1 (by omega))
                · try simp (disch := first | omega | (simp; done) | fail) [wrap64c, if_pos, if_neg, opAnd, opOr, opXor, opDiff, opShr, opBit, g_h0, hL, c1, hN, c2, e1, e24, e25, e26, hlt, hgt, hXl, hg1, g1, hL1, hf, hf2, c4, c5, e5, e68, e69, e70, hlj, q_x, g_x, l_x, r_x, z_x, z1, e7, e83, e84, e85, hlk]
                  refine loopK_next _ ?hm ?hf ⟨j + 1, rfl, rfl, (by simp (disch := first | omega | (simp; done) | fail) [wrap64c, if_pos, if_neg, opAnd, opOr, opXor, opDiff, opShr, opBit, g_h0, hL, c1, hN, c2, e1, e24, e25, e26, hlt, hgt, hXl, hg1, g1, hL1, hf, hf2, c4, c5, e5, e68, e69, e70, hlj, q_x, g_x, l_x, r_x, z_x, z1, e7, e83, e84, e85, hlk] <;> omega), (by first | omega | assumption | (simp (disch := first | omega | (simp; done) | fail) [wrap64c, if_pos, if_neg, opAnd, opOr, opXor, opDiff, opShr, opBit, g_h0, hL, c1, hN, c2, e1, e24, e25, e26, hlt, hgt, hXl, hg1, g1, hL1, hf, hf2, c4, c5, e5, e68, e69, e70, hlj, q_x, g_x, l_x, r_x, z_x, z1, e7, e83, e84, e85, hlk] <;> omega)), ?c_hx⟩
                  (case hm => first | omega | (simp; omega))
                  (case hf => simp [FrameL, g_h0, hL, c1, hN, c2, e1, e24, e25, e26, hlt, hgt, hXl, hg1, g1, hL1, hf, hf2, c4, c5, e5, e68, e69, e70, hlj, q_x, g_x, l_x, r_x, z_x, z1, e7, e83, e84, e85, hlk, f1_1, f5_1, f68_1, f69_1])
                  case c_hx =>
                    exact (fun i h1 hi => by
                      by_cases e : i = j
                      · subst e; exact ⟨hne, fun k hk' => hy k hk' (by omega)⟩
                      · exact hx i h1 (by omega))
              · have z1 : ((xs[j] : Int) != 0) = true := by simp [z]
                have hin := maskN_lt (fun i => xs[j].testBit i && fam xs (nXor xs[j] (bit i))) 7
                try simp (disch := first | omega | (simp; done) | fail) [wrap64c, if_pos, if_neg, opAnd, opOr, opXor, opDiff, opShr, opBit, g_h0, hL, c1, hN, c2, e1, e24, e25, e26, hlt, hgt, hXl, hg1, g1, hL1, hf, hf2, c4, c5, e5, e68, e69, e70, hlj, q_x, g_x, l_x, r_x, z_x, z1]
                refine callG_c (by simp) (by simp) ?ha (imInner_ok h1 o1 (fam xs) _ _ _ xs[j] ho2 hg1 (by omega)) ?_
                (case ha => simp (disch := first | omega | (simp; done) | fail) [wrap64c, if_pos, if_neg, opAnd, opOr, opXor, opDiff, opShr, opBit, g_h0, hL, c1, hN, c2, e1, e24, e25, e26, hlt, hgt, hXl, hg1, g1, hL1, hf, hf2, c4, c5, e5, e68, e69, e70, hlj, q_x, g_x, l_x, r_x, z_x, z1])
                by_cases c6 : innerN (fam xs) xs[j] = 0
                · try simp (disch := first | omega | (simp; done) | fail) [wrap64c, if_pos, if_neg, opAnd, opOr, opXor, opDiff, opShr, opBit, g_h0, hL, c1, hN, c2, e1, e24, e25, e26, hlt, hgt, hXl, hg1, g1, hL1, hf, hf2, c4, c5, e5, e68, e69, e70, hlj, q_x, g_x, l_x, r_x, z_x, z1, c6]
                  have : spB N X = false := hN ▸ hXe ▸ spB_no fun g => g.inn _ (List.getElem_mem hlj) z c6
                  exact done_ret rfl (by simp [this, K1])
                · have hne : xs[j] ≠ 0 → innerN (fam xs) xs[j] ≠ 0 := fun _ => c6
                  try simp (disch := first | omega | (simp; done) | fail) [wrap64c, if_pos, if_neg, opAnd, opOr, opXor, opDiff, opShr, opBit, g_h0, hL, c1, hN, c2, e1, e24, e25, e26, hlt, hgt, hXl, hg1, g1, hL1, hf, hf2, c4, c5, e5, e68, e69, e70, hlj, q_x, g_x, l_x, r_x, z_x, z1, c6]
                  refine WD_loopC [1, 5, 7, 68, 69, 70, 83, 84] (fun m tm h' => ∃ k, m = xs.length - k ∧ h1 = h' ∧ tm 85 = .int .i64 (k : Int) ∧ (k ≤ xs.length) ∧ (∀ i (h1 : i < xs.length), i < k → fam xs (nOr xs[j] xs[i]) = true)) _ ⟨0, rfl, rfl, (by simp (disch := first | omega | (simp; done) | fail) [wrap64c, if_pos, if_neg, opAnd, opOr, opXor, opDiff, opShr, opBit, g_h0, hL, c1, hN, c2, e1, e24, e25, e26, hlt, hgt, hXl, hg1, g1, hL1, hf, hf2, c4, c5, e5, e68, e69, e70, hlj, q_x, g_x, l_x, r_x, z_x, z1, c6]), (by first | omega | assumption | (simp (disch := first | omega | (simp; done) | fail) [wrap64c, if_pos, if_neg, opAnd, opOr, opXor, opDiff, opShr, opBit, g_h0, hL, c1, hN, c2, e1, e24, e25, e26, hlt, hgt, hXl, hg1, g1, hL1, hf, hf2, c4, c5, e5, e68, e69, e70, hlj, q_x, g_x, l_x, r_x, z_x, z1, c6] <;> omega)), (by intro i h1 h0; omega)⟩ ?_
                  rintro m tm h' hFr ⟨k, rfl, rfl, e85, hk, hy⟩
                  simp only [FrameL] at hFr
                  obtain ⟨f1_3, f5_3, f7_3, f68_3, f69_3, f70_3, f83_3, f84_3, -⟩ := hFr
                  try simp (disch := first | omega | (simp; done) | fail) [wrap64c, if_pos, if_neg, opAnd, opOr, opXor, opDiff, opShr, opBit, g_h0, hL, c1, hN, c2, e1, e24, e25, e26, hlt, hgt, hXl, hg1, g1, hL1, hf, hf2, c4, c5, e5, e68, e69, e70, hlj, q_x, g_x, l_x, r_x, z_x, z1, c6] at f1_3 f5_3 f7_3 f68_3 f69_3 f70_3 f83_3 f84_3
                  have e1 := f1_3
                  have e5 := f5_3
                  have e7 := f7_3
                  have e68 := f68_3
                  have e69 := f69_3
                  have e70 := f70_3
                  have e83 := f83_3
                  have e84 := f84_3
                  by_cases hlk : k < xs.length
                  · obtain ⟨o_y, i_y, c_y, cs_y, own_y, ex_y, es_y, q_y, b_y, g_y, l_y, r_y⟩ := hX2.open ((by simp; omega))
                    have z_y : ∀ h2 : i_y < cs_y.length, cs_y[i_y] = _ := fun h2 => r_y 0 ((by simp; omega)) h2
                    have hxk := h128 _ (List.getElem_mem hlk)
                    have hor := nOr128 hxj hxk
                    cases c7 : fam xs (nOr xs[j] xs[k])
                    · try simp (disch := first | omega | (simp; done) | fail) [wrap64c, if_pos, if_neg, opAnd, opOr, opXor, opDiff, opShr, opBit, g_h0, hL, c1, hN, c2, e1, e24, e25, e26, hlt, hgt, hXl, hg1, g1, hL1, hf, hf2, c4, c5, e5, e68, e69, e70, hlj, q_x, g_x, l_x, r_x, z_x, z1, c6, e7, e83, e84, e85, hlk, q_y, g_y, l_y, r_y, z_y, c7]
                      have : spB N X = false := hN ▸ hXe ▸ spB_no fun g => by
                        have := decide_eq_true (g.uni _ (List.getElem_mem hlj) _ (List.getElem_mem hlk)); unfold fam at c7; rw [this] at c7; cases c7
                      exact done_ret rfl (by simp [this, K1])
                    · try simp (disch := first | omega | (simp; done) | fail) [wrap64c, if_pos, if_neg, opAnd, opOr, opXor, opDiff, opShr, opBit, g_h0, hL, c1, hN, c2, e1, e24, e25, e26, hlt, hgt, hXl, hg1, g1, hL1, hf, hf2, c4, c5, e5, e68, e69, e70, hlj, q_x, g_x, l_x, r_x, z_x, z1, c6, e7, e83, e84, e85, hlk, q_y, g_y, l_y, r_y, z_y, c7]
                      refine loopK_next _ ?hm ?hf ⟨k + 1, rfl, rfl, (by simp (disch := first | omega | (simp; done) | fail) [wrap64c, if_pos, if_neg, opAnd, opOr, opXor, opDiff, opShr, opBit, g_h0, hL, c1, hN, c2, e1, e24, e25, e26, hlt, hgt, hXl, hg1, g1, hL1, hf, hf2, c4, c5, e5, e68, e69, e70, hlj, q_x, g_x, l_x, r_x, z_x, z1, c6, e7, e83, e84, e85, hlk, q_y, g_y, l_y, r_y, z_y, c7] <;> omega), (by first | omega | assumption | (simp (disch := first | omega | (simp; done) | fail) [wrap64c, if_pos, if_neg, opAnd, opOr, opXor, opDiff, opShr, opBit, g_h0, hL, c1, hN, c2, e1, e24, e25, e26, hlt, hgt, hXl, hg1, g1, hL1, hf, hf2, c4, c5, e5, e68, e69, e70, hlj, q_x, g_x, l_x, r_x, z_x, z1, c6, e7, e83, e84, e85, hlk, q_y, g_y, l_y, r_y, z_y, c7] <;> omega)), ?c_hy⟩
                      (case hm => first | omega | (simp; omega))
                      (case hf => simp [FrameL, g_h0, hL, c1, hN, c2, e1, e24, e25, e26, hlt, hgt, hXl, hg1, g1, hL1, hf, hf2, c4, c5, e5, e68, e69, e70, hlj, q_x, g_x, l_x, r_x, z_x, z1, c6, e7, e83, e84, e85, hlk, q_y, g_y, l_y, r_y, z_y, c7, f1_3, f5_3, f7_3, f68_3, f69_3, f70_3, f83_3, f84_3])
                      case c_hy =>
                        exact (fun i h1 hi => by
                          by_cases e : i = k
                          · subst e; exact c7
                          · exact hy i h1 (by omega))
                  · try simp (disch := first | omega | (simp; done) | fail) [wrap64c, if_pos, if_neg, opAnd, opOr, opXor, opDiff, opShr, opBit, g_h0, hL, c1, hN, c2, e1, e24, e25, e26, hlt, hgt, hXl, hg1, g1, hL1, hf, hf2, c4, c5, e5, e68, e69, e70, hlj, q_x, g_x, l_x, r_x, z_x, z1, c6, e7, e83, e84, e85, hlk]
                    refine loopK_next _ ?hm ?hf ⟨j + 1, rfl, rfl, (by simp (disch := first | omega | (simp; done) | fail) [wrap64c, if_pos, if_neg, opAnd, opOr, opXor, opDiff, opShr, opBit, g_h0, hL, c1, hN, c2, e1, e24, e25, e26, hlt, hgt, hXl, hg1, g1, hL1, hf, hf2, c4, c5, e5, e68, e69, e70, hlj, q_x, g_x, l_x, r_x, z_x, z1, c6, e7, e83, e84, e85, hlk] <;> omega), (by first | omega | assumption | (simp (disch := first | omega | (simp; done) | fail) [wrap64c, if_pos, if_neg, opAnd, opOr, opXor, opDiff, opShr, opBit, g_h0, hL, c1, hN, c2, e1, e24, e25, e26, hlt, hgt, hXl, hg1, g1, hL1, hf, hf2, c4, c5, e5, e68, e69, e70, hlj, q_x, g_x, l_x, r_x, z_x, z1, c6, e7, e83, e84, e85, hlk] <;> omega)), ?c_hx⟩
                    (case hm => first | omega | (simp; omega))
                    (case hf => simp [FrameL, g_h0, hL, c1, hN, c2, e1, e24, e25, e26, hlt, hgt, hXl, hg1, g1, hL1, hf, hf2, c4, c5, e5, e68, e69, e70, hlj, q_x, g_x, l_x, r_x, z_x, z1, c6, e7, e83, e84, e85, hlk, f1_1, f5_1, f68_1, f69_1])
                    case c_hx =>
                      exact (fun i h1 hi => by
                        by_cases e : i = j
                        · subst e; exact ⟨hne, fun k hk' => hy k hk' (by omega)⟩
                        · exact hx i h1 (by omega))
            · try simp (disch := first | omega | (simp; done) | fail) [wrap64c, if_pos, if_neg, opAnd, opOr, opXor, opDiff, opShr, opBit, g_h0, hL, c1, hN, c2, e1, e24, e25, e26, hlt, hgt, hXl, hg1, g1, hL1, hf, hf2, c4, c5, e5, e68, e69, e70, hlj]
              have : spB N X = true := hN ▸ hXe ▸ spB_mk n1 n7 hs hlt' c4 c5 fun i h1 => hx i h1 (by omega)
              exact done_ret rfl (by simp [this, K1])
noncomputable def setSB (N : Int) (X : List Int) (a : Int) : Bool := spB N X && decide (0 ≤ a ∧ a < ((2 ^ N.toNat : Nat) : Int))
noncomputable def oneB (N : Int) (X : List Int) (a : Int) : Bool := spB N X && decide (a ∈ X)
theorem hasSet_ok (h : Hp) (v : Value) (N : Int) (X : List Int) (a : Int) (hv : Space h v N X) (hl : X.length < 2 ^ 40) : CallOK Tryz.prog 66 #[v, .int .i64 a] h (.bool (spB N X && setB N.toNat a)) h := by
  refine callY_P 13 _ [.tmp 4] Tryz.func66 rfl rfl rfl (by first | rfl | simp) ?_
  obtain ⟨b, rfl, hX⟩ := hv
  refine WD_first ?_
  try simp (disch := first | omega | (simp; done) | fail) [wrap64c, if_pos, if_neg, opAnd, opOr, opXor, opDiff, opShr, opBit]
  refine stopK_heap fun h0 q_h0 => ?_
  refine stopK_go ?_
  have g_h0 : h0.get h.next = .cells [.int .i64 N, b] true true 1 := by simp [q_h0]
  have k_h0 : Adds h h0 := by rw [q_h0]; exact (by first | exact aK | exact kK)
  have n_h0 : h.next < h0.next := by simp [q_h0]; try omega
  have hX0 := hX.keep k_h0.1
  have K0 := k_h0.1
  try simp (disch := first | omega | (simp; done) | fail) [wrap64c, if_pos, if_neg, opAnd, opOr, opXor, opDiff, opShr, opBit, g_h0]
  refine callG_c (by simp) (by simp) ?ha (isSpace_ok h0 (.agg #[.int .i64 N, b]) N X (.mk hX0) hl) ?_
  (case ha => simp (disch := first | omega | (simp; done) | fail) [wrap64c, if_pos, if_neg, opAnd, opOr, opXor, opDiff, opShr, opBit, g_h0])
  cases c1 : spB N X
  · try simp (disch := first | omega | (simp; done) | fail) [wrap64c, if_pos, if_neg, opAnd, opOr, opXor, opDiff, opShr, opBit, g_h0, c1]
    exact done_ret rfl (by simp [c1, K0])
  · obtain ⟨n, xs, hN, hXe, g⟩ := spB_true c1
    have c1' : spB (n : Int) X = true := hN ▸ c1
    have n7 := g.n7
    try simp (disch := first | omega | (simp; done) | fail) [wrap64c, if_pos, if_neg, opAnd, opOr, opXor, opDiff, opShr, opBit, g_h0, c1, hN, c1']
    refine callG_c (by simp) (by simp) ?ha (isSet_ok h0 n a (by omega)) ?_
    (case ha => simp (disch := first | omega | (simp; done) | fail) [wrap64c, if_pos, if_neg, opAnd, opOr, opXor, opDiff, opShr, opBit, g_h0, c1, hN, c1'])
    try simp (disch := first | omega | (simp; done) | fail) [wrap64c, if_pos, if_neg, opAnd, opOr, opXor, opDiff, opShr, opBit, g_h0, c1, hN, c1']
    exact done_ret rfl (by simp [c1', K0, hN])
end Go.Proofs.YtnncipcldbopgaaGreat
namespace Go.Proofs.YtnncipcldbopgaaGreat
set_option linter.unusedSimpArgs false
set_option linter.unusedVariables false
set_option maxHeartbeats 4000000
open Go Go.Eng
attribute [local irreducible] WD RunD PreD Runs CallOK
def renL (names : List Nat) : List Nat → Nat → Nat
  | [], o => o
  | i :: l, o => renL names l (nOr o (bit (names.getD i 0)))
def famK (M : Nat → Bool) (k : Nat) : List Nat := (List.range k).filter M
theorem famK_succ (M : Nat → Bool) (k : Nat) : famK M (k + 1) = if M k = true then famK M k ++ [k] else famK M k := by
  unfold famK
  rw [List.range_succ, List.filter_append]
  by_cases h : M k = true <;> simp [h]
end Go.Proofs.YtnncipcldbopgaaGreat
namespace Go.Proofs.YtnncipcldbopgaaGreat
set_option linter.unusedSimpArgs false
set_option linter.unusedVariables false
set_option maxHeartbeats 4000000
open Go Go.Eng
attribute [local irreducible] WD RunD PreD Runs CallOK
theorem IntsA.putB {n : Nat} {h : Hp} {v : Value} {xs : List Int} (hs : IntsA n h v xs) {o : Nat} (ho : o < n) (x : AObj) : IntsA n (h.put o x) v xs := by
  rcases hs with ⟨a, b⟩ | ⟨p, ex, a, b, c, d⟩
  · exact .inl ⟨a, b⟩
  · exact .inr ⟨p, ex, a, b, c, by simp [Hp.put, show p ≠ o by omega]; exact d⟩
end Go.Proofs.YtnncipcldbopgaaGreat
namespace Go.Proofs.YtnncipcldbopgaaGreat
set_option linter.unusedSimpArgs false
set_option linter.unusedVariables false
set_option maxHeartbeats 4000000
open Go Go.Eng
attribute [local irreducible] WD RunD PreD Runs CallOK
end Go.Proofs.YtnncipcldbopgaaGreat
namespace Go.Proofs.YtnncipcldbopgaaGreat
set_option linter.unusedSimpArgs false
set_option linter.unusedVariables false
set_option maxHeartbeats 4000000
open Go Go.Eng
attribute [local irreducible] WD RunD PreD Runs CallOK
theorem wr_trans2 {S T : Nat → Prop} {a b c : Hp} (k : Wr S a b) (l : Wr T b c) (hst : ∀ o, o < a.next → T o → S o) : Wr S a c where
  upd := ⟨Nat.le_trans k.upd.1 l.upd.1, fun o ho hs => (l.upd.2 o (Nat.lt_of_lt_of_le ho k.upd.1) (fun ht => hs (hst o ho ht))).trans (k.upd.2 o ho hs)⟩
  own o ho hs hl := by
    by_cases ht : T o
    · rcases l.own o (Nat.lt_of_lt_of_le ho k.upd.1) ht hl with h1 | h1
      · exact .inl h1
      · rw [h1] at hl ⊢
        exact k.own o ho hs hl
    · have h1 := l.upd.2 o (Nat.lt_of_lt_of_le ho k.upd.1) ht
      rw [h1] at hl ⊢
      exact k.own o ho hs hl
  new o h1 h2 hl := by
    by_cases hb : o < b.next
    · by_cases ht : T o
      · rcases l.own o hb ht hl with h3 | h3
        · exact h3
        · rw [h3] at hl ⊢
          exact k.new o h1 hb hl
      · have h3 := l.upd.2 o hb ht
        rw [h3] at hl ⊢
        exact k.new o h1 hb hl
    · exact l.new o (by omega) h2 hl
def objOf : Value → Option Nat
  | .slice (some ⟨o, _, _⟩) _ _ => some o
  | _ => none
@[simp] theorem objOf_nil (n c : Nat) : objOf (.slice none n c) = none := rfl
@[simp] theorem objOf_mk (o i n c : Nat) : objOf (.slice (some ⟨o, i, none⟩) n c) = some o := rfl
def WS (B : Nat) (h : Hp) (v : Value) (W : List Nat) : Prop :=
  (v = .slice none 0 0 ∧ W = []) ∨
    ∃ p cs ex, v = .slice (some ⟨p, 0, none⟩) W.length cs.length ∧ B ≤ p ∧ p < h.next ∧ h.get p = .cells cs true ex 1 ∧ (W.length ≤ cs.length ∧ cs.length < 2 ^ 50) ∧ cs.take W.length = (toN W).map (.int .i64)
theorem WS.nil (B : Nat) (h : Hp) : WS B h (.slice none 0 0) [] := .inl ⟨rfl, rfl⟩
theorem WS.nt {B : Nat} {h : Hp} {v : Value} {W : List Nat} (hs : WS B h v W) : notTup v = true := by
  rcases hs with ⟨rfl, rfl⟩ | ⟨p, cs, ex, rfl, _⟩ <;> rfl
theorem WS.cs {B : Nat} {h : Hp} {v : Value} {W : List Nat} (hs : WS B h v W) : v.cells = #[v] := by
  rcases hs with ⟨rfl, rfl⟩ | ⟨p, cs, ex, rfl, _⟩ <;> rfl
theorem WS.ints {B : Nat} {h : Hp} {v : Value} {W : List Nat} (hs : WS B h v W) : Ints h v (toN W) := by
  rcases hs with ⟨rfl, rfl⟩ | ⟨p, cs, ex, rfl, hB, hp, hg, hl, ht⟩
  · exact (IntsO.nil (fun _ => False) h).ints
  · have e : W.length = (toN W).length := by simp [toN]
    rw [e]
    refine Sl.mk hp hg (by omega) (by omega) fun k hk => ?_
    have h1 : (cs.take W.length)[k]? = ((toN W).map (Value.int .i64))[k]? := by rw [ht]
    rw [List.getElem?_take, if_pos (by omega), List.getElem?_map, List.getElem?_eq_getElem hk] at h1
    exact ⟨_, h1, rfl⟩
theorem WS.keep {B : Nat} {h h' : Hp} {v : Value} {W : List Nat} (hs : WS B h v W) (hn : h.next ≤ h'.next) (hk : ∀ o, objOf v = some o → h'.get o = h.get o) : WS B h' v W := by
  rcases hs with ⟨rfl, rfl⟩ | ⟨p, cs, ex, rfl, hB, hp, hg, hl, ht⟩
  · exact .inl ⟨rfl, rfl⟩
  · exact .inr ⟨p, cs, ex, rfl, hB, by omega, by rw [hk p rfl]; exact hg, hl, ht⟩
theorem WS.obj {B : Nat} {h : Hp} {v : Value} {W : List Nat} (hs : WS B h v W) {o : Nat} (ho : objOf v = some o) : B ≤ o ∧ o < h.next := by
  rcases hs with ⟨rfl, rfl⟩ | ⟨p, cs, ex, rfl, hB, hp, hg, hl, ht⟩
  · cases ho
  · cases ho; exact ⟨hB, hp⟩
theorem appW {B : Nat} {h : Hp} {v : Value} {W : List Nat} (hs : WS B h v W) (x : Nat) (hl : W.length < 2 ^ 40) (hn : B ≤ h.next) :
    ∃ v' h', appendD Tryz.prog 24 24 v (.slice (some ⟨h.next, 0, none⟩) 1 1) (h.alloc (.cells [.int .i64 (x : Int)] true true 1)) = some (v', h') ∧ WS B h' v' (W ++ [x]) ∧
      Wr (fun o => objOf v = some o) h h' ∧ h.next < h'.next ∧ (objOf v' = objOf v ∨ ∃ p, objOf v' = some p ∧ h.next ≤ p) := by
  have hsrc : srcV (h.alloc (.cells [.int .i64 (x : Int)] true true 1)) 1 (.slice (some ⟨h.next, 0, none⟩) 1 1) = some (1, [.int .i64 (x : Int)]) := by simp [srcV, srcW]
  have h1 := ty_elT_24
  have h2 := ty_szT_3
  have h3 := ty_zeroT_3
  have h4 := ty_byT_3
  have h5 : srcT Tryz.prog 24 = true := by simp
  have W0 : Wr (fun o => objOf v = some o) h (h.alloc (.cells [.int .i64 (x : Int)] true true 1)) := .of_adds (by first | exact aK | exact kK)
  rcases hs with ⟨rfl, rfl⟩ | ⟨p, cs, ex, rfl, hB, hp, hg, hlc, ht⟩
  · refine ⟨.slice (some ⟨h.next + 1, 0, none⟩) 1 1, (h.alloc (.cells [.int .i64 (x : Int)] true true 1)).alloc (.cells [.int .i64 (x : Int)] true false 1), ?_, .inr ⟨h.next + 1, [.int .i64 (x : Int)], false, by simp, by omega, by simp, by simp, by simp, by simp [toN]⟩, .of_adds (by first | exact aK | exact kK), by simp, .inr ⟨_, rfl, by omega⟩⟩
    simp only [appendD, h1, h2, h3, h4, hsrc, h5]
    simp [Value.cells]
  · have hgp : (h.alloc (.cells [.int .i64 (x : Int)] true true 1)).get p = .cells cs true ex 1 := by simp [Nat.ne_of_lt hp, hg]
    by_cases hc : W.length + 1 ≤ cs.length
    · refine ⟨.slice (some ⟨p, 0, none⟩) (W.length + 1) cs.length, (h.alloc (.cells [.int .i64 (x : Int)] true true 1)).put p (.cells (putCells cs W.length [.int .i64 (x : Int)]) true ex 1), ?_, .inr ⟨p, _, ex, ?_, hB, by simp; omega, by simp; rfl, ?_, ?_⟩, W0.put rfl (fun _ => rfl), by simp, .inl rfl⟩
      · simp only [appendD, h1, h2, h3, h4, hsrc, h5]
        simp only [hgp]; simp [Value.cells, hc]
      · rw [putCells_length (by simpa using hc)]; simp
      · rw [putCells_length (by simpa using hc)]; exact ⟨by simpa using hc, hlc.2⟩
      · simp only [putCells, List.length_append, List.length_singleton, List.take_append, List.take_take, List.length_take]
        rw [toN_snoc, List.map_append, ← ht]
        have e1 : min (W.length + 1) W.length = W.length := by omega
        have e2 : min W.length cs.length = W.length := by omega
        rw [e1, e2]
        simp
    · have e : cs.length = W.length := by omega
      have ht' : cs = (toN W).map (.int .i64) := by rw [← ht, List.take_of_length_le (by omega)]
      have hbb : W.length + 1 ≤ 140737488355328 := by omega
      have hW1 : Wr (fun o => objOf (.slice (some ⟨p, 0, none⟩) W.length cs.length) = some o) h (growHp (h.alloc (.cells [.int .i64 (x : Int)] true true 1)) p ex (.cells (cs ++ [.int .i64 (x : Int)]) true false 1)) := by
        cases ex with
        | true => exact W0.trans (.of_adds (by simp [growHp]))
        | false => exact (W0.put (o := p) rfl (x := .dead) (fun hf => by cases hf)).trans (.of_adds (by simp [growHp]))
      have hgr : (growHp (h.alloc (.cells [.int .i64 (x : Int)] true true 1)) p ex (.cells (cs ++ [.int .i64 (x : Int)]) true false 1)).next = h.next + 2 ∧ (growHp (h.alloc (.cells [.int .i64 (x : Int)] true true 1)) p ex (.cells (cs ++ [.int .i64 (x : Int)]) true false 1)).get (h.next + 1) = .cells (cs ++ [.int .i64 (x : Int)]) true false 1 := by
        cases ex <;> simp [growHp]
      refine ⟨.slice (some ⟨h.next + 1, 0, none⟩) (W.length + 1) (W.length + 1), growHp (h.alloc (.cells [.int .i64 (x : Int)] true true 1)) p ex (.cells (cs ++ [.int .i64 (x : Int)]) true false 1), ?_, .inr ⟨h.next + 1, cs ++ [.int .i64 (x : Int)], false, by simp [e], by omega, by rw [hgr.1]; omega, hgr.2, by simp [e]; omega, ?_⟩, hW1, by rw [hgr.1]; omega, .inr ⟨_, rfl, by omega⟩⟩
      · simp only [appendD, h1, h2, h3, h4, hsrc, h5]
        have hta : cs.take W.length = cs := List.take_of_length_le (by omega)
        have hbb8 : (W.length + 1) * 8 ≤ 140737488355328 := by omega
        rw [e]; simp only [hgp]; simp [Value.cells, hc, e, hta, hbb8]
      · rw [toN_snoc, List.map_append, ht']
        rw [List.take_of_length_le (by simp [toN])]; simp
end Go.Proofs.YtnncipcldbopgaaGreat
namespace Go.Proofs.YtnncipcldbopgaaGreat
set_option linter.unusedSimpArgs false
set_option linter.unusedVariables false
set_option maxHeartbeats 4000000
open Go Go.Eng
attribute [local irreducible] WD RunD PreD Runs CallOK
structure WA where
  os : Nat
  od : Nat
  fo : Nat
  oF : Nat
  ow : Nat
  og : Nat
  on : Nat
  B : Nat
def pt (o : Nat) : Value := .pointer (some ⟨o, 0, none⟩)
def WA.cap (A : WA) : Array Value := #[.pointer (some ⟨A.os, 0, none⟩), .pointer (some ⟨A.od, 0, none⟩), .pointer (some ⟨A.ow, 0, none⟩), .pointer (some ⟨A.og, 0, none⟩), .pointer (some ⟨A.oF, 0, none⟩), .pointer (some ⟨A.on, 0, none⟩)]
structure WSt (base : Nat) (S : Nat → Prop) (A : WA) (n : Nat) (M : Nat → Bool) (b : Value) (X : List Int) (dv : Value) (h : Hp) (W : List Nat) (v : Value) : Prop where
  ord : base ≤ A.os ∧ A.os < A.od ∧ A.od < A.fo ∧ A.fo < A.oF ∧ A.oF < A.ow ∧ A.ow < A.og ∧ A.og < A.on ∧ A.on < A.B ∧ A.B ≤ h.next
  gs : h.get A.os = .cells [.int .i64 (n : Int), b] true true 1
  ib : IntsF (fun x => x < base ∧ ¬ S x) h b X
  gd : h.get A.od = .cells [dv] true true 1
  gF : h.get A.fo = .cells (famC M) true true 1
  gf : h.get A.oF = .cells [.pointer (some ⟨A.fo, 0, none⟩)] true true 1
  gw : h.get A.ow = .cells [v] true true 1
  gg : h.get A.og = .cells [.bool true] true true 1
  gn : h.get A.on = .cells [.func (.func 176) #[] #[.pointer (some ⟨A.os, 0, none⟩), .pointer (some ⟨A.od, 0, none⟩), .pointer (some ⟨A.ow, 0, none⟩), .pointer (some ⟨A.og, 0, none⟩), .pointer (some ⟨A.oF, 0, none⟩), .pointer (some ⟨A.on, 0, none⟩)]] true true 1
  ws : WS A.B h v W
section
variable {σ : Type} (P : σ → (Nat → Prop) → Hp → Prop) (step : σ → List Nat → σ) (Good : List Nat → Prop) (base : Nat) (S : Nat → Prop) (fid : Nat) (dc : Array Value)
structure Doer : Prop where
  stab : ∀ s T h h', P s T h → base ≤ h.next → h.next ≤ h'.next → (∀ o, o < h.next → (o < base ∨ T o) → h'.get o = h.get o) → P s T h'
  run : ∀ s T h w v, P s T h → base ≤ h.next → Ints h v (toN w) → Good w → ∃ h', CallOK Tryz.prog fid (#[v] ++ dc) h (.bool true) h' ∧ Wr (fun o => S o ∨ T o) h h' ∧ ∃ T', P (step s w) T' h' ∧ ∀ o, T' o → (T o ∨ h.next ≤ o) ∧ o < h'.next
  low : ∀ o, S o → o < base
  fn : fnOK Tryz.prog fid = true
end
end Go.Proofs.YtnncipcldbopgaaGreat
namespace Go.Proofs.YtnncipcldbopgaaGreat
set_option linter.unusedSimpArgs false
set_option linter.unusedVariables false
set_option maxHeartbeats 4000000
open Go Go.Eng
attribute [local irreducible] WD RunD PreD Runs CallOK
theorem cloneNil_ok (h : Hp) : CallOK Tryz.prog 175 #[.slice none 0 0] h (.slice none 0 0) h := by
  refine callY_P 8 _ [.tmp 2] Tryz.func175 rfl rfl rfl (by first | rfl | simp) ?_
  try simp (disch := first | omega | (simp; done) | fail) [wrap64c, if_pos, if_neg, opAnd, opOr, opXor, opDiff, opShr, opBit, Tryz.underlying24]
  exact done_ret rfl (by simp)
theorem setOfNil_ok (h : Hp) (v : Value) (N : Int) (xs : List Nat) (hv : Space h v N (toN xs)) (hx : ∀ x ∈ xs, x < 128) (hl : xs.length < 2 ^ 40) :
    CallOK Tryz.prog 177 #[v, .slice none 0 0] h (.tuple #[.int .i64 0, .bool true]) h := by
  refine callY_P 48 _ [.tmp 4, .tmp 5] Tryz.func177 rfl rfl rfl (by first | rfl | simp) ?_
  obtain ⟨b, rfl, hX⟩ := hv
  refine WD_first ?_
  try simp (disch := first | omega | (simp; done) | fail) [wrap64c, if_pos, if_neg, opAnd, opOr, opXor, opDiff, opShr, opBit]
  refine stopK_heap fun h0 q_h0 => ?_
  refine stopK_go ?_
  have g_h0 : h0.get h.next = .cells [.int .i64 N, b] true true 1 := by simp [q_h0]
  have k_h0 : Adds h h0 := by rw [q_h0]; exact (by first | exact aK | exact kK)
  have n_h0 : h.next < h0.next := by simp [q_h0]; try omega
  try simp (disch := first | omega | (simp; done) | fail) [wrap64c, if_pos, if_neg, opAnd, opOr, opXor, opDiff, opShr, opBit, g_h0]
  obtain ⟨_, h1, hc1, o, rfl, ha1, hr⟩ := family_ok h0 (.agg #[.int .i64 N, b]) N xs (.mk (hX.keep k_h0.1)) hx hl
  refine callG_c (by simp) (by simp) ?ha (hc1) ?_
  (case ha => simp (disch := first | omega | (simp; done) | fail) [wrap64c, if_pos, if_neg, opAnd, opOr, opXor, opDiff, opShr, opBit, g_h0])
  try simp (disch := first | omega | (simp; done) | fail) [wrap64c, if_pos, if_neg, opAnd, opOr, opXor, opDiff, opShr, opBit, g_h0]
  refine WD_loopC [2, 6, 12, 13] (fun m tm h' => m = 0 ∧ h1 = h' ∧ tm 7 = .int .i64 0 ∧ tm 14 = .int .i64 0) _ ⟨rfl, rfl, (by simp (disch := first | omega | (simp; done) | fail) [wrap64c, if_pos, if_neg, opAnd, opOr, opXor, opDiff, opShr, opBit, g_h0]), (by simp (disch := first | omega | (simp; done) | fail) [wrap64c, if_pos, if_neg, opAnd, opOr, opXor, opDiff, opShr, opBit, g_h0])⟩ ?_
  rintro m tm h' hFr ⟨rfl, rfl, e7, e14⟩
  simp only [FrameL] at hFr
  obtain ⟨f2_0, f6_0, f12_0, f13_0, -⟩ := hFr
  try simp (disch := first | omega | (simp; done) | fail) [wrap64c, if_pos, if_neg, opAnd, opOr, opXor, opDiff, opShr, opBit, g_h0] at f2_0 f6_0 f12_0 f13_0
  have e2 := f2_0
  have e6 := f6_0
  have e12 := f12_0
  have e13 := f13_0
  try simp (disch := first | omega | (simp; done) | fail) [wrap64c, if_pos, if_neg, opAnd, opOr, opXor, opDiff, opShr, opBit, g_h0, e2, e6, e7, e12, e13, e14]
  exact done_ret rfl (by simp [(k_h0.trans ha1).1])
end Go.Proofs.YtnncipcldbopgaaGreat
namespace Go.Eng
def chunk (m : Nat) (cs : List Value) (k : Nat) : List Value := (cs.drop (k * m)).take m
def ObjIn : Value → Nat → Prop
  | .slice (some ⟨o, _, _⟩) _ _, x => o = x
  | _, _ => False
structure Steady {α : Type} (R : (Nat → Prop) → Hp → List Value → α → Prop) : Prop where
  mono : ∀ F G h h' u x, R F h u x → (∀ o, F o → G o) → Same F h h' → R G h' u x
  low : ∀ F h u x, R F h u x → R (fun o => F o ∧ o < h.next) h u x
section
variable {α : Type} {m : Nat} {R : (Nat → Prop) → Hp → List Value → α → Prop}
def GL (m : Nat) (R : (Nat → Prop) → Hp → List Value → α → Prop) (n : Nat) (h : Hp) (v : Value) (L : List α) : Prop :=
  (L = [] ∧ v = .slice none 0 0) ∨ ∃ o ex cs, v = .slice (some ⟨o, 0, none⟩) L.length L.length ∧ n ≤ o ∧ o < h.next ∧ h.get o = .cells cs true ex m ∧ cs.length = L.length * m ∧ ∀ k (hk : k < L.length), R (fun x => n ≤ x ∧ x ≠ o) h (chunk m cs k) L[k]
end
section
variable {α : Type} {m : Nat} {R : (Nat → Prop) → Hp → List Value → α → Prop}
end
def rowR (F : Nat → Prop) (h : Hp) (u : List Value) (xs : List Int) : Prop := ∃ v, u = [v] ∧ IntsF F h v xs
def RowsG (n : Nat) (h : Hp) (v : Value) (L : List (List Int)) : Prop := GL 1 rowR n h v L
end Go.Eng
namespace Go.Proofs.YtnncipcldbopgaaGreat
set_option linter.unusedSimpArgs false
set_option linter.unusedVariables false
set_option maxHeartbeats 4000000
open Go Go.Eng
attribute [local irreducible] WD RunD PreD Runs CallOK
section
variable {σ : Type} (P : σ → (Nat → Prop) → Hp → Prop) (step : σ → List Nat → σ) (Good : List Nat → Prop) (base : Nat) (S : Nat → Prop) (fid : Nat) (dc : Array Value)
structure DoerN : Prop where
  stab : ∀ s T h h', P s T h → base ≤ h.next → h.next ≤ h'.next → (∀ o, o < h.next → (o < base ∨ T o) → h'.get o = h.get o) → P s T h'
  run : ∀ s T h w v, P s T h → base ≤ h.next → Ints h v (toN w) → Good w → ∃ u h', CallOK Tryz.prog fid (#[v] ++ dc) h u h' ∧ Wr (fun o => S o ∨ T o) h h' ∧ ∃ T', P (step s w) T' h' ∧ ∀ o, T' o → (T o ∨ h.next ≤ o) ∧ o < h'.next
  low : ∀ o, S o → o < base
  fn : fnOK Tryz.prog fid = true
end
end Go.Proofs.YtnncipcldbopgaaGreat
namespace Go.Proofs.YtnncipcldbopgaaGreat
set_option linter.unusedSimpArgs false
set_option linter.unusedVariables false
set_option maxHeartbeats 4000000
open Go Go.Eng
attribute [local irreducible] WD RunD PreD Runs CallOK
theorem sl_take {α : Type} {R : Hp → Value → α → Prop} {h : Hp} {o i n c k : Nat} {xs : List α} (hs : Sl R h (.slice (some ⟨o, i, none⟩) n c) xs) (hk : k ≤ xs.length) : Sl R h (.slice (some ⟨o, i, none⟩) k c) (xs.take k) := by
  obtain ⟨s, c', e, hc, hc', hx⟩ := hs
  cases e
  refine ⟨some ⟨o, i, none⟩, c, by simp [Nat.min_eq_left hk], by simp; omega, hc', fun j x hj => ?_⟩
  rw [List.getElem?_take] at hj
  split at hj
  · exact hx j x hj
  · cases hj
theorem sl_drop {α : Type} {R : Hp → Value → α → Prop} {h : Hp} {o i n c k : Nat} {xs : List α} (hs : Sl R h (.slice (some ⟨o, i, none⟩) n c) xs) (hk : k ≤ xs.length) : Sl R h (.slice (some ⟨o, i + k, none⟩) (n - k) (c - k)) (xs.drop k) := by
  obtain ⟨s, c', e, hc, hc', hx⟩ := hs
  cases e
  refine ⟨some ⟨o, i + k, none⟩, c - k, by simp, by simp; omega, by omega, fun j x hj => ?_⟩
  rw [List.getElem?_drop] at hj
  obtain ⟨o', i', cs, own, ex, es, h1, h2, h3, h4, h5⟩ := hx _ x hj
  cases h1
  exact ⟨o, i + k, cs, own, ex, es, rfl, h2, h3, by omega, by rw [Nat.add_assoc]; exact h5⟩
theorem split_at {l : List Nat} {a k : Nat} (hk : k ≤ l.length) (h1 : ∀ i (h : i < l.length), i < k → l[i] < a) (h2 : ∀ i (h : i < l.length), k ≤ i → a < l[i]) : l.take k = l.filter (fun x => decide (x < a)) ∧ l.drop k = l.filter fun x => decide (a < x) := by
  have e : l = l.take k ++ l.drop k := (List.take_append_drop k l).symm
  have ht : ∀ x ∈ l.take k, x < a := fun x hx => by
    obtain ⟨i, hi, rfl⟩ := List.mem_iff_getElem.1 hx
    simp at hi
    rw [List.getElem_take]
    exact h1 i (by omega) (by omega)
  have hd : ∀ x ∈ l.drop k, a < x := fun x hx => by
    obtain ⟨i, hi, rfl⟩ := List.mem_iff_getElem.1 hx
    simp at hi
    rw [List.getElem_drop]
    exact h2 _ (by omega) (by omega)
  constructor
  · rw (occs := [2]) [e]
    rw [List.filter_append, List.filter_eq_self.2 (fun x hx => by simpa using ht x hx), List.filter_eq_nil_iff.2 (fun x hx => by simp; have := hd x hx; omega), List.append_nil]
  · rw (occs := [2]) [e]
    rw [List.filter_append, List.filter_eq_nil_iff.2 (fun x hx => by simp; have := ht x hx; omega), List.filter_eq_self.2 (fun x hx => by simpa using hd x hx), List.nil_append]
theorem IntsA.lower {m n : Nat} {h : Hp} {v : Value} {xs : List Int} (hs : IntsA n h v xs) (hm : m ≤ n) : IntsA m h v xs := by
  rcases hs with ⟨a, b⟩ | ⟨p, ex, a, b, c, d⟩
  · exact .inl ⟨a, b⟩
  · exact .inr ⟨p, ex, a, by omega, c, d⟩
theorem l1Put_ok (h : Hp) (m : Nat) (v : Value) (l : List Nat) (a : Nat) (hv : IntsA m h v (toN l)) (hs : l.Pairwise (· < ·)) (hl : l.length < 2 ^ 38) (hm : m ≤ h.next) :
    ∃ v' h', CallOK Tryz.prog 178 #[v, .int .i64 (a : Int)] h v' h' ∧ Adds h h' ∧ IntsA m h' v' (toN (putL l a)) := by
  refine callY_L (args := [v, .int .i64 (a : Int)]) 48 _ [.tmp 4] Tryz.func178 rfl rfl rfl ?_
  have hvI := (hv.own (by simp; omega)).ints
  have hL := hvI.lenD
  have hgt := toN_get l
  have hln := toN_length l
  have hsg : ∀ i j (hi : i < l.length) (hj : j < l.length), i < j → l[i] < l[j] := fun i j hi hj hij => List.pairwise_iff_getElem.1 hs i j hi hj hij
  try simp (disch := first | omega | (simp; done) | fail) [wrap64c, if_pos, if_neg, opAnd, opOr, opXor, opDiff, opShr, opBit, hL, hgt]
  refine WD_loopC [0, 1] (fun m tm h' => ∃ j, m = l.length - j ∧ h = h' ∧ tm 5 = .int .i64 (j : Int) ∧ (j ≤ l.length) ∧ (∀ i (h1 : i < l.length), i < j → l[i] < a)) _ ⟨0, rfl, rfl, (by simp (disch := first | omega | (simp; done) | fail) [wrap64c, if_pos, if_neg, opAnd, opOr, opXor, opDiff, opShr, opBit, hL, hgt]), (by first | omega | assumption | (simp (disch := first | omega | (simp; done) | fail) [wrap64c, if_pos, if_neg, opAnd, opOr, opXor, opDiff, opShr, opBit, hL, hgt] <;> omega)), (by intro i h1 h2; omega)⟩ ?_
  rintro m tm h' hFr ⟨j, rfl, rfl, e5, hj, hx⟩
  simp only [FrameL] at hFr
  obtain ⟨f0_0, f1_0, -⟩ := hFr
  try simp (disch := first | omega | (simp; done) | fail) [wrap64c, if_pos, if_neg, opAnd, opOr, opXor, opDiff, opShr, opBit, hL, hgt] at f0_0 f1_0
  have e0 := f0_0
  have e1 := f1_0
  by_cases hlt : j < l.length
  · obtain ⟨o_x, i_x, c_x, cs_x, own_x, ex_x, es_x, q_x, b_x, g_x, l_x, r_x⟩ := hvI.open ((by omega))
    have z_x : ∀ h2 : i_x < cs_x.length, cs_x[i_x] = _ := fun h2 => r_x 0 ((by omega)) h2
    by_cases hc : l[j] < a
    · try simp (disch := first | omega | (simp; done) | fail) [wrap64c, if_pos, if_neg, opAnd, opOr, opXor, opDiff, opShr, opBit, hL, hgt, e0, e1, e5, hlt, q_x, g_x, l_x, r_x, z_x, hc]
      refine loopK_next _ ?hm ?hf ⟨j + 1, rfl, rfl, (by simp (disch := first | omega | (simp; done) | fail) [wrap64c, if_pos, if_neg, opAnd, opOr, opXor, opDiff, opShr, opBit, hL, hgt, e0, e1, e5, hlt, q_x, g_x, l_x, r_x, z_x, hc] <;> omega), (by first | omega | assumption | (simp (disch := first | omega | (simp; done) | fail) [wrap64c, if_pos, if_neg, opAnd, opOr, opXor, opDiff, opShr, opBit, hL, hgt, e0, e1, e5, hlt, q_x, g_x, l_x, r_x, z_x, hc] <;> omega)), ?c_hx⟩
      (case hm => first | omega | (simp; omega))
      (case hf => simp [FrameL, hL, hgt, e0, e1, e5, hlt, q_x, g_x, l_x, r_x, z_x, hc, f0_0, f1_0])
      case c_hx =>
        exact (fun i h1 hi => by
          by_cases e : i = j
          · subst e; exact hc
          · exact hx i h1 (by omega))
    · by_cases he : l[j] = a
      · have hm' : a ∈ l := he ▸ List.getElem_mem hlt
        have hb : ((l[j] : Int) == (a : Int)) = true := by simp [he]
        try simp (disch := first | omega | (simp; done) | fail) [wrap64c, if_pos, if_neg, opAnd, opOr, opXor, opDiff, opShr, opBit, hL, hgt, e0, e1, e5, hlt, q_x, g_x, l_x, r_x, z_x, hc, hb]
        refine done_ret rfl ⟨adds_self _, ?_⟩
        rw [q_x, hln] at hv
        rw [putL, if_pos hm']; exact hv
      · have hb : ((l[j] : Int) == (a : Int)) = false := by simp; omega
        have h2 : ∀ i (h : i < l.length), j ≤ i → a < l[i] := fun i hi hji => by
          by_cases e : i = j
          · subst e; omega
          · have := hsg j i hlt hi (by omega); omega
        have hnm : ¬ a ∈ l := fun hm' => by
          obtain ⟨i, hi, e⟩ := List.mem_iff_getElem.1 hm'
          by_cases hij : i < j
          · have := hx i hi hij; omega
          · have := h2 i hi (by omega); omega
        obtain ⟨t1, t2⟩ := split_at (a := a) (by omega) hx h2
        have hput : toN (putL l a) = ((toN l).take j ++ [(a : Int)]) ++ (toN l).drop j := by
          rw [putL, if_neg hnm, ← t1, ← t2, toN_append, toN_append]; simp [toN]
        have hvI2 := hvI
        rw [q_x] at hvI2
        have ht := sl_take (k := j) hvI2 (by omega)
        have hd := sl_drop (k := j) hvI2 (by omega)
        rw [hln] at hd
        have hcx : l.length ≤ c_x ∧ c_x < 2 ^ 63 := by
          obtain ⟨s, c, e, h1, h2⟩ := Sl.form hvI2
          cases e
          omega
        try simp (disch := first | omega | (simp; done) | fail) [wrap64c, if_pos, if_neg, opAnd, opOr, opXor, opDiff, opShr, opBit, hL, hgt, e0, e1, e5, hlt, q_x, g_x, l_x, r_x, z_x, hc, hb]
        first | refine WY_heap fun h1 q_h1 => ?_ | refine callG_heap fun h1 q_h1 => ?_ | refine callP_heap fun h1 q_h1 => ?_ | refine callS_heap fun h1 q_h1 => ?_ | refine RY_heap fun h1 q_h1 => ?_ | refine PY_heap fun h1 q_h1 => ?_ | refine SY_heap fun h1 q_h1 => ?_ | refine doneY_heap fun h1 q_h1 => ?_ | refine loopK_heap fun h1 q_h1 => ?_ | refine thenY_heap fun h1 q_h1 => ?_ | refine thenM_heap fun h1 q_h1 => ?_
        have k1 : Adds h h1 := by rw [q_h1]; exact (by first | exact aK | exact kK)
        have n1 : h1.next = h.next + 1 := by simp [q_h1]
        have hA : IntsA h.next h1 (.slice (some ⟨h.next, 0, none⟩) 0 0) [] := .lit (ex := true) (Nat.le_refl _) (by omega) (by simp [q_h1, zarr])
        obtain ⟨v2, h2', hap, hA2, k2, n2, s2⟩ := append_ints (P := Tryz.prog) (t := 24) (t' := 24) hA ((show Ints h _ _ from ht).keep k1.1) ty_elT_24 ty_szT_3 ty_zeroT_3 ty_byT_3 (by decide) (by decide) (by simp) (by simp; omega) (by omega) k1 (Nat.le_refl _)
        try simp (disch := first | omega | (simp; done) | fail) [wrap64c, if_pos, if_neg, opAnd, opOr, opXor, opDiff, opShr, opBit, hL, hgt, e0, e1, e5, hlt, q_x, g_x, l_x, r_x, z_x, hc, hb, hap]
        have h3n := k2.1.1
        obtain ⟨v3, h3, hap3, hA3, k3, n3, s3⟩ := appI hA2 (a : Int) (by simp; omega) h3n k2 (Nat.le_refl _)
        try simp (disch := first | omega | (simp; done) | fail) [wrap64c, if_pos, if_neg, opAnd, opOr, opXor, opDiff, opShr, opBit, hL, hgt, e0, e1, e5, hlt, q_x, g_x, l_x, r_x, z_x, hc, hb, hap3]
        obtain ⟨v4, h4, hap4, hA4, k4, n4, s4⟩ := append_ints (P := Tryz.prog) (t := 24) (t' := 24) hA3 ((show Ints h _ _ from hd).keep k3.1) ty_elT_24 ty_szT_3 ty_zeroT_3 ty_byT_3 (by decide) (by decide) (by simp) (by simp; omega) (by have := k3.1.1; omega) k3 (Nat.le_refl _)
        try simp (disch := first | omega | (simp; done) | fail) [wrap64c, if_pos, if_neg, opAnd, opOr, opXor, opDiff, opShr, opBit, hL, hgt, e0, e1, e5, hlt, q_x, g_x, l_x, r_x, z_x, hc, hb, hap4]
        refine done_ret rfl ⟨k4, ?_⟩
        rw [hput]
        simp only [List.nil_append] at hA4
        exact IntsA.lower hA4 hm
  · have hje : j = l.length := by omega
    have hput : toN (putL l a) = ((toN l).take j ++ [(a : Int)]) ++ (toN l).drop j := by
      have hnm : ¬ a ∈ l := fun hm' => by
        obtain ⟨i, hi, e⟩ := List.mem_iff_getElem.1 hm'
        have := hx i hi (by omega); omega
      obtain ⟨t1, t2⟩ := split_at (a := a) (by omega) hx (fun i h1 h2 => by omega)
      rw [putL, if_neg hnm, ← t1, ← t2, toN_append, toN_append]; simp [toN]
    have hlb : ¬ ((j : Int) < (l.length : Int)) := by omega
    rcases hv with ⟨y1, y2⟩ | ⟨o, ex, y1, y2, y3, y4⟩
    · subst y2
      have hl0 : l.length = 0 := by rw [← toN_length, y1]; rfl
      have hj0 : j = 0 := by omega
      subst hj0
      rw [y1] at hput
      try simp (disch := first | omega | (simp; done) | fail) [wrap64c, if_pos, if_neg, opAnd, opOr, opXor, opDiff, opShr, opBit, hL, hgt, e0, e1, e5, hlt, hlb]
      first | refine WY_heap fun h1 q_h1 => ?_ | refine callG_heap fun h1 q_h1 => ?_ | refine callP_heap fun h1 q_h1 => ?_ | refine callS_heap fun h1 q_h1 => ?_ | refine RY_heap fun h1 q_h1 => ?_ | refine PY_heap fun h1 q_h1 => ?_ | refine SY_heap fun h1 q_h1 => ?_ | refine doneY_heap fun h1 q_h1 => ?_ | refine loopK_heap fun h1 q_h1 => ?_ | refine thenY_heap fun h1 q_h1 => ?_ | refine thenM_heap fun h1 q_h1 => ?_
      have k1 : Adds h h1 := by rw [q_h1]; exact (by first | exact aK | exact kK)
      have n1 : h1.next = h.next + 1 := by simp [q_h1]
      have hA : IntsA h.next h1 (.slice (some ⟨h.next, 0, none⟩) 0 0) [] := .lit (ex := true) (Nat.le_refl _) (by omega) (by simp [q_h1, zarr])
      have hno : Ints h1 (.slice none 0 0) [] := (IntsO.nil (fun _ => False) h1).ints
      obtain ⟨v2, h2', hap, hA2, k2, n2, s2⟩ := append_ints (P := Tryz.prog) (t := 24) (t' := 24) hA hno ty_elT_24 ty_szT_3 ty_zeroT_3 ty_byT_3 (by decide) (by decide) (by simp) (by simp) (by omega) k1 (Nat.le_refl _)
      try simp (disch := first | omega | (simp; done) | fail) [wrap64c, if_pos, if_neg, opAnd, opOr, opXor, opDiff, opShr, opBit, hL, hgt, e0, e1, e5, hlt, hlb, hap]
      have h3n := k2.1.1
      obtain ⟨v3, h3, hap3, hA3, k3, n3, s3⟩ := appI hA2 (a : Int) (by simp) h3n k2 (Nat.le_refl _)
      try simp (disch := first | omega | (simp; done) | fail) [wrap64c, if_pos, if_neg, opAnd, opOr, opXor, opDiff, opShr, opBit, hL, hgt, e0, e1, e5, hlt, hlb, hap3]
      have hno3 : Ints h3 (.slice none 0 0) [] := (IntsO.nil (fun _ => False) h3).ints
      obtain ⟨v4, h4, hap4, hA4, k4, n4, s4⟩ := append_ints (P := Tryz.prog) (t := 24) (t' := 24) hA3 hno3 ty_elT_24 ty_szT_3 ty_zeroT_3 ty_byT_3 (by decide) (by decide) (by simp) (by simp) (by have := k3.1.1; omega) k3 (Nat.le_refl _)
      try simp (disch := first | omega | (simp; done) | fail) [wrap64c, if_pos, if_neg, opAnd, opOr, opXor, opDiff, opShr, opBit, hL, hgt, e0, e1, e5, hlt, hlb, hap4]
      refine done_ret rfl ⟨k4, ?_⟩
      rw [hput]
      simp only [List.nil_append, List.take_zero, List.drop_zero] at hA4 ⊢
      exact IntsA.lower hA4 hm
    · subst y1
      rw [hln] at hvI
      have ht := sl_take (k := l.length) hvI (by omega)
      have hd := sl_drop (k := l.length) hvI (by omega)
      rw [Nat.zero_add, Nat.sub_self] at hd
      have hje := hje
      rw [hje] at hput
      have hln2 := hln
      try simp (disch := first | omega | (simp; done) | fail) [wrap64c, if_pos, if_neg, opAnd, opOr, opXor, opDiff, opShr, opBit, hL, hgt, e0, e1, e5, hlt, hlb, hje, hln2]
      first | refine WY_heap fun h1 q_h1 => ?_ | refine callG_heap fun h1 q_h1 => ?_ | refine callP_heap fun h1 q_h1 => ?_ | refine callS_heap fun h1 q_h1 => ?_ | refine RY_heap fun h1 q_h1 => ?_ | refine PY_heap fun h1 q_h1 => ?_ | refine SY_heap fun h1 q_h1 => ?_ | refine doneY_heap fun h1 q_h1 => ?_ | refine loopK_heap fun h1 q_h1 => ?_ | refine thenY_heap fun h1 q_h1 => ?_ | refine thenM_heap fun h1 q_h1 => ?_
      have k1 : Adds h h1 := by rw [q_h1]; exact (by first | exact aK | exact kK)
      have n1 : h1.next = h.next + 1 := by simp [q_h1]
      have hA : IntsA h.next h1 (.slice (some ⟨h.next, 0, none⟩) 0 0) [] := .lit (ex := true) (Nat.le_refl _) (by omega) (by simp [q_h1, zarr])
      obtain ⟨v2, h2', hap, hA2, k2, n2, s2⟩ := append_ints (P := Tryz.prog) (t := 24) (t' := 24) hA ((show Ints h _ _ from ht).keep k1.1) ty_elT_24 ty_szT_3 ty_zeroT_3 ty_byT_3 (by decide) (by decide) (by simp) (by simp; omega) (by omega) k1 (Nat.le_refl _)
      try simp (disch := first | omega | (simp; done) | fail) [wrap64c, if_pos, if_neg, opAnd, opOr, opXor, opDiff, opShr, opBit, hL, hgt, e0, e1, e5, hlt, hlb, hje, hln2, hap]
      have h3n := k2.1.1
      obtain ⟨v3, h3, hap3, hA3, k3, n3, s3⟩ := appI hA2 (a : Int) (by simp; omega) h3n k2 (Nat.le_refl _)
      try simp (disch := first | omega | (simp; done) | fail) [wrap64c, if_pos, if_neg, opAnd, opOr, opXor, opDiff, opShr, opBit, hL, hgt, e0, e1, e5, hlt, hlb, hje, hln2, hap3]
      obtain ⟨v4, h4, hap4, hA4, k4, n4, s4⟩ := append_ints (P := Tryz.prog) (t := 24) (t' := 24) hA3 ((show Ints h _ _ from hd).keep k3.1) ty_elT_24 ty_szT_3 ty_zeroT_3 ty_byT_3 (by decide) (by decide) (by simp) (by simp; omega) (by have := k3.1.1; omega) k3 (Nat.le_refl _)
      try simp (disch := first | omega | (simp; done) | fail) [wrap64c, if_pos, if_neg, opAnd, opOr, opXor, opDiff, opShr, opBit, hL, hgt, e0, e1, e5, hlt, hlb, hje, hln2, hap4]
      refine done_ret rfl ⟨k4, ?_⟩
      rw [hput]
      simp only [List.nil_append] at hA4
      exact IntsA.lower hA4 hm
theorem spPut_of (h : Hp) (v v' : Value) (a : Int) (h' : Hp) (hc : CallOK Tryz.prog 178 #[v, .int .i64 a] h v' h') : CallOK Tryz.prog 134 #[v, .int .i64 a] h v' h' := by
  have key : ∃ v2 h2, CallOK Tryz.prog 134 #[v, .int .i64 a] h v2 h2 ∧ v2 = v' ∧ h2 = h' := by
    refine callY_L (args := [v, .int .i64 a]) 8 _ [.tmp 4] Tryz.func134 rfl rfl rfl ?_
    try simp (disch := first | omega | (simp; done) | fail) [wrap64c, if_pos, if_neg, opAnd, opOr, opXor, opDiff, opShr, opBit]
    refine callG_c (by simp) (by simp) ?ha (hc) ?_
    (case ha => simp (disch := first | omega | (simp; done) | fail) [wrap64c, if_pos, if_neg, opAnd, opOr, opXor, opDiff, opShr, opBit])
    try simp (disch := first | omega | (simp; done) | fail) [wrap64c, if_pos, if_neg, opAnd, opOr, opXor, opDiff, opShr, opBit]
    exact done_ret rfl ⟨rfl, rfl⟩
  obtain ⟨_, _, hc2, rfl, rfl⟩ := key
  exact hc2
end Go.Proofs.YtnncipcldbopgaaGreat
