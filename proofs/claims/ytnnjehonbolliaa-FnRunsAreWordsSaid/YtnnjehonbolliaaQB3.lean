/- Part 3 of the proof of runsAreWords_holds: what it uses of the texts that lie in the notes, merged. -/
import Derived.Test.YtnnjehonbolliaaQB2
namespace Go.Eng
def sfHas : List Nat → Nat → Bool
  | [], _ => false
  | a :: l, d => decide (a = d) || sfHas l d
def softL (sf : List Nat) (o : Oper) : Bool := match o.op, o.dst with
  | .load _ _, some d => sfHas sf d
  | _, _ => false
def lsIdx : List Nat → Nat → Option Nat
  | [], _ => none
  | a :: l, d => if a = d then some 0 else (lsIdx l d).map (· + 1)
def litO (ls : List Nat) (o : Oper) : Option Nat := match o.op, o.dst with
  | .buildSlice _ _ _, some d => lsIdx ls d
  | _, _ => none
def litC (P : Program) (t : TypeId) (n : Nat) (parts : Array (Nat × Operand)) : Option (List Value × Nat) := if parts.all (fun q => okX q.2) && parts.all (fun q => notTup (ev (fun _ => undef) q.2)) then
      match elT P t with
      | some e => match szT P e, zeroT P e with
        | some m, some z => if plainV z && notTup z && decide (z.cells.size = m) && decide (n * m ≤ 2 ^ 24) then
            match Instr.fill (fun i => some (i * m, m)) (zarr z.cells (n * m)) (parts.map fun (i, x) => (i, ev (fun _ => undef) x)).toList with
            | some r => if r.size = n * m then some (r.toList, m) else none
            | none => none
          else none
        | _, _ => none
      | none => none
    else none
def constX : Operand → Bool
  | .const _ => true
  | _ => false
def constL : List (Nat × Operand) → Bool
  | [] => true
  | (_, .const _) :: l => constL l
  | _ => false
theorem constL_all : ∀ {l : List (Nat × Operand)}, constL l = true → ∀ q ∈ l, constX q.2 = true
  | [], _, q, hq => by cases hq
  | (_, .const _) :: l, h, q, hq => by
    rcases List.mem_cons.1 hq with rfl | hq
    · rfl
    · exact constL_all (l := l) h q hq
  | (_, .tmp _) :: l, h, q, hq => by cases h
  | (_, .func _) :: l, h, q, hq => by cases h
  | (_, .global _) :: l, h, q, hq => by cases h
theorem litC_op {P : Program} {t : TypeId} {n : Nat} {parts : Array (Nat × Operand)} (hc : constL parts.toList = true) (tm : Nat → Value) (h : Hp) :
    opD P (.buildSlice t n parts) tm h = (litC P t n parts).map fun r => (.slice (some ⟨h.next, 0, none⟩) n n, h.alloc (.cells r.1 true true r.2)) := by
  have e1 : ∀ q ∈ parts, ev tm q.2 = ev (fun _ => undef) q.2 := fun q hq => by
    have := constL_all hc q (Array.mem_toList_iff.2 hq)
    cases hx : q.2 with
    | const v => rfl
    | _ => rw [hx] at this; cases this
  have e2 : parts.all (fun q => notTup (ev tm q.2)) = parts.all (fun q => notTup (ev (fun _ => undef) q.2)) := by
    rw [Bool.eq_iff_iff, Array.all_eq_true_iff_forall_mem, Array.all_eq_true_iff_forall_mem]
    exact ⟨fun h q hq => by rw [← e1 q hq]; exact h q hq, fun h q hq => by rw [e1 q hq]; exact h q hq⟩
  have e3 : (parts.map fun (i, x) => (i, ev tm x)) = (parts.map fun (i, x) => (i, ev (fun _ => undef) x)) := by
    apply Array.map_congr_left
    rintro ⟨i, x⟩ hq
    have := e1 _ hq
    simp only at this
    simp only [this]
  show (if _ then _ else _) = _
  unfold litC
  rw [e2, e3]
  cases (parts.all (fun q => okX q.2) && parts.all (fun q => notTup (ev (fun _ => undef) q.2))) with
  | false => rfl
  | true =>
    simp only [if_true]
    cases elT P t with
    | none => rfl
    | some e =>
      simp only
      cases szT P e with
      | none => cases zeroT P e <;> rfl
      | some m =>
        cases zeroT P e with
        | none => rfl
        | some z =>
          simp only
          cases (plainV z && notTup z && decide (z.cells.size = m) && decide (n * m ≤ 2 ^ 24)) with
          | false => rfl
          | true =>
            simp only [if_true]
            cases Instr.fill (fun i => some (i * m, m)) (zarr z.cells (n * m)) (parts.map fun (i, x) => (i, ev (fun _ => undef) x)).toList with
            | none => rfl
            | some r =>
              simp only
              by_cases hr : r.size = n * m
              · rw [if_pos hr, if_pos hr]; rfl
              · rw [if_neg hr, if_neg hr]; rfl
def hardO (sf ls : List Nat) (o : Oper) : Bool := !(pureOp o.op || softL sf o || (litO ls o).isSome)
def chainS (sf ls : List Nat) (ops : Array Oper) : Bool :=
  (List.range ops.size).all fun i => match ops[i]? with
    | some o => (!(hardO sf ls o) || (List.range i).all fun j => match ops[j]? with
      | some oj => !(hardO sf ls oj) || tclE ops 8 i j
      | none => false) && (!(litO ls o).isSome || (List.range i).all fun j => match ops[j]? with
      | some oj => decide (litO ls oj ≠ litO ls o)
      | none => false)
    | none => false
theorem chainS_spec {sf ls : List Nat} {ops : Array Oper} (h : chainS sf ls ops = true) {i j : Nat} {o oj : Oper} (hi : ops[i]? = some o) (hj : ops[j]? = some oj) (h1 : hardO sf ls o = true) (h2 : hardO sf ls oj = true) (hlt : j < i) : tclE ops 8 i j = true := by
  unfold chainS at h
  simp only [List.all_eq_true, List.mem_range] at h
  have hs : i < ops.size := (Array.getElem?_eq_some_iff.1 hi).1
  have h3 := h i hs
  simp only [hi, h1, Bool.not_true, Bool.false_or, Bool.and_eq_true, List.all_eq_true, List.mem_range] at h3
  have h4 := h3.1 j hlt
  simpa only [hj, h2, Bool.not_true, Bool.false_or] using h4
theorem chainS_lit {sf ls : List Nat} {ops : Array Oper} (h : chainS sf ls ops = true) {i j k : Nat} {o oj : Oper} (hi : ops[i]? = some o) (hj : ops[j]? = some oj) (h1 : litO ls o = some k) (h2 : litO ls oj = some k) : i = j := by
  have key : ∀ (i j : Nat) (o oj : Oper), ops[i]? = some o → ops[j]? = some oj → litO ls o = some k → litO ls oj = some k → ¬ j < i := by
    intro i j o oj hi hj h1 h2 hlt
    unfold chainS at h
    simp only [List.all_eq_true, List.mem_range] at h
    have hs : i < ops.size := (Array.getElem?_eq_some_iff.1 hi).1
    have h3 := h i hs
    simp only [hi, Bool.and_eq_true] at h3
    have h4 := h3.2
    simp only [h1, Option.isSome_some, Bool.not_true, Bool.false_or, List.all_eq_true, List.mem_range] at h4
    have h5 := h4 j hlt
    simp [hj, h2] at h5
  have h3 := key i j o oj hi hj h1 h2
  have h4 := key j i oj o hj hi h2 h1
  omega
def KeepF (F : Nat → Prop) (h h' : Hp) : Prop := ∀ b, F b → h'.get b = h.get b
def inF (F : Nat → Prop) : Value → Prop
  | .pointer (some ⟨b, _, none⟩) => F b
  | _ => False
section
variable {P : Program} {n : Nat} {ops : Array Oper} {sf ls : List Nat} {F : Nat → Prop} {N0 : Nat}
def LitOK (P : Program) (o : Oper) (k : Nat) (cs : List Value) (es : Nat) : Prop :=
  (∀ tm h, OpOK P o tm h (.slice (some ⟨h.next, 0, none⟩) k k) (h.alloc (.cells cs true true es))) ∧ ∀ c ∈ cs, plainV c = true
theorem VRel.plain {E E' : Emb} {v v' : Value} (hp : plainV v = true) (h : VRel E v v') : VRel E' v v' := by
  have h1 : VRel ⟨fun _ => False, E.blk, E.off, E.slk⟩ v v' := VRel.back (E := ⟨fun _ => False, E.blk, E.off, E.slk⟩) (fun o ho => ho.elim) (VRel.ofV _ hp) h
  exact h1.mono (fun o (ho : False) => ho.elim)
theorem getD_mem {cs : List Value} {i : Nat} (hi : i < cs.length) : cs.getD i undef ∈ cs := by
  rw [List.getD_eq_getElem?_getD, List.getElem?_eq_getElem hi]
  exact List.getElem_mem hi
theorem late_add {E E' E0 : Emb} {base N : Nat} {h0 hc : Hp} {w0 w w' : World} {cs : List Value} {es : Nat} (st0 : Step E0 h0 w0 E hc w) (hr : HRel E base hc w.heap) (st : Step E hc w E' (hc.alloc (.cells cs true true es)) w')
    (hr' : HRel E' base (hc.alloc (.cells cs true true es)) w'.heap) (hN : h0.next ≤ N) (hNc : N < hc.next) (hnd : ¬ E.D N) (hg : hc.get N = .cells cs true true es) (hp : ∀ c ∈ cs, plainV c = true) (hM : E'.D hc.next) :
    Step E0 h0 w0 (E.add N (E'.blk hc.next) (E'.off hc.next) (E'.slk hc.next)) hc w' ∧ HRel (E.add N (E'.blk hc.next) (E'.off hc.next) (E'.slk hc.next)) base hc w'.heap := by
  obtain ⟨st1, hr1⟩ := cut_rel hr st hr' (Keeps.alloc hc _)
  have st2 := st0.trans st1
  have hE : ∀ o, E.D o → o ≠ N := fun o ho e => hnd (e ▸ ho)
  have hE' : ∀ o, E.D o → E'.D o ∧ E'.blk o = E.blk o ∧ E'.off o = E.off o ∧ E'.slk o = E.slk o := st.dmono hr.lt
  have hlt := hr.lt
  have hgM : (hc.alloc (.cells cs true true es)).get hc.next = .cells cs true true es := by simp [Hp.alloc]
  have hgo : ∀ o, E.D o → (hc.alloc (.cells cs true true es)).get o = hc.get o := fun o ho => by simp [Hp.alloc, show o ≠ hc.next from Nat.ne_of_lt (hlt o ho)]
  have hne : ∀ o, E.D o → o ≠ hc.next := fun o ho => Nat.ne_of_lt (hlt o ho)
  have hfresh : w.heap.size ≤ E'.blk hc.next := by
    rcases st.own hc.next hM (by rw [hgM]; rfl) with ⟨o0, h1, h2, h3⟩ | h
    · have := hr'.sep hc.next o0 hM (hE' o0 h1).1 (hne o0 h1).symm (by rw [hgM]; rfl) (by rw [hgo o0 h1]; exact AObj.live_of_owned h2)
      rw [(hE' o0 h1).2.1] at this
      exact absurd h3.symm this
    · exact h
  refine ⟨⟨st2.next, fun o ho => ?_, st2.os, st2.tape, st2.output, st2.size, st2.keep, fun o hd ho => ?_⟩, hr1.le, fun o ho => ?_, fun o ho => ?_, fun o o' ho ho' hno h1 h2 => ?_⟩
  · have hoN : o ≠ N := by omega
    obtain ⟨a, b, c, d⟩ := st2.ext o ho
    simp only [Emb.add, hoN, if_false, false_or]
    exact ⟨a, b, c, d⟩
  · by_cases e : o = N
    · right
      simp only [Emb.add, e, if_true]
      exact Nat.le_trans st0.size hfresh
    · simp only [Emb.add, e, false_or] at hd
      simp only [Emb.add, e, if_false]
      exact st2.own o hd ho
  · rcases ho with rfl | ho
    · exact hNc
    · exact hlt o ho
  · by_cases e : o = N
    · subst e
      rw [hg]
      have hobj := hr'.obj hc.next hM
      rw [hgM] at hobj
      obtain ⟨C, ty, fz, k1, k2, k3, k4, k5, k6⟩ := hobj
      refine ⟨C, ty, fz, by simpa [Emb.add] using k1, by simpa [Emb.add] using k2, fun i hi => ?_, k4, by simpa [Emb.add] using k5, by simpa [Emb.add] using k6⟩
      have := k3 i hi
      simp only [Emb.add, if_true]
      exact VRel.plain (hp _ (getD_mem hi)) this
    · have ho' : E.D o := by rcases ho with h | h; exact absurd h e; exact h
      exact (hr1.obj o ho').mono (fun q hq => ⟨.inr hq, by simp [Emb.add, hE q hq], by simp [Emb.add, hE q hq], by simp [Emb.add, hE q hq]⟩) ho' rfl
  · by_cases e : o = N
    · have ho1 : E.D o' := by rcases ho' with h | h; exact absurd (e.trans h.symm) hno; exact h
      have := hr'.sep hc.next o' hM (hE' o' ho1).1 (hne o' ho1).symm (by rw [hgM]; rfl) (by rw [hgo o' ho1]; exact h2)
      simp only [Emb.add, e, if_true, hE o' ho1, if_false]
      rw [← (hE' o' ho1).2.1]; exact this
    · have ho1 : E.D o := by rcases ho with h | h; exact absurd h e; exact h
      by_cases e' : o' = N
      · have := hr'.sep o hc.next (hE' o ho1).1 hM (hne o ho1) (by rw [hgo o ho1]; exact h1) (by rw [hgM]; rfl)
        simp only [Emb.add, e', if_true, e, if_false]
        rw [← (hE' o ho1).2.1]; exact this
      · have ho2 : E.D o' := by rcases ho' with h | h; exact absurd h e'; exact h
        simp only [Emb.add, e, e', if_false]
        exact hr1.sep o o' ho1 ho2 hno h1 h2
theorem late_val {E E' : Emb} {N M k : Nat} {v' : Value} (h : VRel E' (.slice (some ⟨M, 0, none⟩) k k) v') : VRel (E.add N (E'.blk M) (E'.off M) (E'.slk M)) (.slice (some ⟨N, 0, none⟩) k k) v' ∧ E'.D M := by
  cases h with
  | slice _ _ _ _ a hD hn ha =>
    refine ⟨?_, hD⟩
    have := VRel.slice (E := E.add N (E'.blk M) (E'.off M) (E'.slk M)) N 0 k k a (.inl rfl) hn (by simpa [Emb.add] using ha)
    simpa [Emb.add] using this
structure Tr3 (P : Program) (n : Nat) (ops : Array Oper) (sf ls : List Nat) (F : Nat → Prop) (N0 : Nat) where
  T : Nat → Nat → Value
  H : Nat → Hp
  V : Nat → Value
  dst : ∀ (i : Nat) (o : Oper), ops[i]? = some o → dstOK n o.dst = true ∧ guardOK n ops o = true
  step : ∀ (i : Nat) (o : Oper), ops[i]? = some o → (wantA ops (T i) o = some true ∧ OpOK P o (T i) (H i) (V i) (H (i + 1)) ∧ (hardO sf ls o = false → H (i + 1) = H i ∧ ∀ h, KeepF F (H i) h → OpOK P o (T i) h (V i) h) ∧ KeepF F (H i) (H (i + 1))) ∨ (wantA ops (T i) o = some false ∧ V i = undef ∧ H (i + 1) = H i) ∨
    ∃ j k cs es, litO ls o = some j ∧ j < ls.length ∧ o.guard = none ∧ LitOK P o k cs es ∧ V i = .slice (some ⟨N0 + j, 0, none⟩) k k ∧ (H i).get (N0 + j) = .cells cs true true es ∧ H (i + 1) = H i
  lit : ∀ j, j < ls.length → F (N0 + j)
  lo : N0 + ls.length ≤ (H 0).next
  next : ∀ (i : Nat) (o : Oper), ops[i]? = some o → T (i + 1) = updO (T i) o.dst (V i)
theorem Tr3.fix (t : Tr3 P n ops sf ls F N0) : ∀ i, i ≤ ops.size → ∀ b, F b → (t.H i).get b = (t.H 0).get b
  | 0, _, _, _ => rfl
  | i + 1, hi, b, hb => by
    have ho := Array.getElem?_eq_getElem (show i < ops.size by omega)
    have ih := Tr3.fix t i (by omega) b hb
    rcases t.step i _ ho with ⟨_, _, _, h3⟩ | ⟨_, _, h3⟩ | ⟨_, _, _, _, _, _, _, _, _, _, h3⟩
    · rw [h3 b hb, ih]
    · rw [h3, ih]
    · rw [h3, ih]
theorem Tr3.slot (t : Tr3 P n ops sf ls F N0) (s : Nat) : ∀ i, i ≤ ops.size → (∃ j o, j < i ∧ ops[j]? = some o ∧ o.dst = some s ∧ t.T i s = t.V j ∧ ∀ k o', j < k → k < i → ops[k]? = some o' → o'.dst ≠ some s) ∨
    (t.T i s = t.T 0 s ∧ ∀ k o', k < i → ops[k]? = some o' → o'.dst ≠ some s)
  | 0, _ => .inr ⟨rfl, fun k o' h => absurd h (by omega)⟩
  | i + 1, hi => by
    cases ho : ops[i]? with
    | none => rw [Array.getElem?_eq_getElem (by omega)] at ho; cases ho
    | some o =>
      have hn := t.next i o ho
      by_cases hd : o.dst = some s
      · left
        refine ⟨i, o, by omega, ho, hd, by rw [hn, hd]; simp [updO, upd], fun k o' h1 h2 => absurd h1 (by omega)⟩
      · have hts : t.T (i + 1) s = t.T i s := by
          rw [hn]
          cases hdst : o.dst with
          | none => rfl
          | some d =>
            have : s ≠ d := fun e => hd (by rw [hdst, e])
            simp [updO, upd, this]
        rcases Tr3.slot t s i (by omega) with ⟨j, oj, h1, h2, h3, h4, h5⟩ | ⟨h1, h2⟩
        · left
          refine ⟨j, oj, by omega, h2, h3, by rw [hts, h4], fun k o' hk1 hk2 hk => ?_⟩
          by_cases e : k = i
          · subst e; rw [ho] at hk; cases hk; exact hd
          · exact h5 k o' hk1 (by omega) hk
        · right
          refine ⟨by rw [hts, h1], fun k o' hk1 hk => ?_⟩
          by_cases e : k = i
          · subst e; rw [ho] at hk; cases hk; exact hd
          · exact h2 k o' (by omega) hk
theorem Tr3.still (t : Tr3 P n ops sf ls F N0) {i : Nat} : ∀ (k : Nat), i ≤ k → k ≤ ops.size → (∀ j o, i ≤ j → j < k → ops[j]? = some o → hardO sf ls o = false) → t.H k = t.H i
  | 0, h, _, _ => by rw [show i = 0 by omega]
  | k + 1, h, hk, hp => by
    by_cases e : i = k + 1
    · rw [e]
    · have ih := Tr3.still t k (by omega) (by omega) (fun j o h1 h2 h3 => hp j o h1 (by omega) h3)
      have ho := Array.getElem?_eq_getElem (show k < ops.size by omega)
      rcases t.step k _ ho with ⟨_, _, h3, _⟩ | ⟨_, _, h3⟩ | ⟨_, _, _, _, _, _, _, _, _, _, h3⟩
      · rw [(h3 (hp k _ (by omega) (by omega) ho)).1, ih]
      · rw [h3, ih]
      · rw [h3, ih]
structure Inv3 (t : Tr3 P n ops sf ls F N0) (h0 : Hp) (E0 : Emb) (base : Nat) (w0 : World) (S : Nat → Bool) (c : Nat) (E : Emb) (w : World) (a : Act) : Prop where
  le : c ≤ ops.size
  mem : ∀ (i : Nat) (o : Oper), ops[i]? = some o → hardO sf ls o = true → (S i = true ↔ i < c)
  step : Step E0 h0 w0 E (t.H c) w
  nx : (t.H 0).next ≤ (t.H c).next
  lit : ∀ (i : Nat) (o : Oper) (j : Nat), S i = false → ops[i]? = some o → litO ls o = some j → ¬ E.D (N0 + j)
  heap : HRel E base (t.H c) w.heap
  tmps : a.tmps.size = n
  defers : a.defers = []
  last : ∀ (s j : Nat) (o : Oper), S j = true → ops[j]? = some o → o.dst = some s → (∀ k o', j < k → S k = true → ops[k]? = some o' → o'.dst ≠ some s) → VRel E (t.V j) (a.tmps.getD s undef)
  none : ∀ (s : Nat), (∀ (k : Nat) (o' : Oper), S k = true → ops[k]? = some o' → o'.dst ≠ some s) → VRel E (t.T 0 s) (a.tmps.getD s undef)
theorem Inv3.next {t : Tr3 P n ops sf ls F N0} {h0 : Hp} {E0 E E' : Emb} {base : Nat} {w0 w w' : World} {S : Nat → Bool} {c c' : Nat} {a : Act} {v' : Value} (inv : Inv3 t h0 E0 base w0 S c E w a) {i : Nat} {o : Oper} (ho : ops[i]? = some o) (hS : S i = false)
    (hdst : dstOK n o.dst = true) (hB : ∀ j oj s, i < j → ops[j]? = some oj → o.dst = some s → oj.dst = some s → S j = false)
    (hc : c' ≤ ops.size) (hm : ∀ k ok, ops[k]? = some ok → hardO sf ls ok = true → ((if k = i then true else S k) = true ↔ k < c'))
    (st : Step E0 h0 w0 E' (t.H c') w') (mono : ∀ v v', VRel E v v' → VRel E' v v') (hnx : (t.H c).next ≤ (t.H c').next) (hlit : ∀ (k : Nat) (ok : Oper) (j : Nat), k ≠ i → S k = false → ops[k]? = some ok → litO ls ok = some j → ¬ E'.D (N0 + j)) (hr : HRel E' base (t.H c') w'.heap) (hv : VRel E' (t.V i) v') : Inv3 t h0 E0 base w0 (fun k => if k = i then true else S k) c' E' w' (a.put o.dst v') where
  le := hc
  mem := hm
  step := st
  nx := Nat.le_trans inv.nx hnx
  lit k ok j hk hok hl := by
    by_cases e : k = i
    · simp [e] at hk
    · exact hlit k ok j e (by simpa [e] using hk) hok hl
  heap := hr
  tmps := by cases hd : o.dst <;> simp [Act.put, inv.tmps]
  defers := by cases hd : o.dst <;> simp [Act.put, inv.defers]
  last s j oj hSj hoj hdj hlast := by
    by_cases hji : j = i
    · subst hji
      rw [ho] at hoj; cases hoj
      have hs : s < n := by rw [hdj] at hdst; simpa [dstOK] using hdst
      have : (a.put o.dst v').tmps.getD s undef = v' := by rw [hdj]; simp [Act.put, inv.tmps, hs]
      rw [this]; exact hv
    · have hSj' : S j = true := by simpa [hji] using hSj
      have hne : o.dst ≠ some s := by
        intro e
        rcases Nat.lt_or_gt_of_ne hji with h4 | h4
        · exact hlast i o h4 (by simp) ho e
        · have := hB j oj s h4 hoj e hdj
          rw [this] at hSj'; cases hSj'
      have : (a.put o.dst v').tmps.getD s undef = a.tmps.getD s undef := by
        cases hd : o.dst with
        | none => rfl
        | some d =>
          have hds : d ≠ s := fun e => hne (by rw [hd, e])
          simp only [Act.put]
          rw [Array.getD_eq_getD_getElem?, Array.getD_eq_getD_getElem?, Array.getElem?_setIfInBounds_ne hds]
      rw [this]
      exact mono _ _ (inv.last s j oj hSj' hoj hdj (fun k ok h1 h3 h4 => hlast k ok h1 (by simp only [h3]; split <;> rfl) h4))
  none s hnone := by
    have hne : o.dst ≠ some s := hnone i o (by simp) ho
    have : (a.put o.dst v').tmps.getD s undef = a.tmps.getD s undef := by
      cases hd : o.dst with
      | none => rfl
      | some d =>
        have hds : d ≠ s := fun e => hne (by rw [hd, e])
        simp only [Act.put]
        rw [Array.getD_eq_getD_getElem?, Array.getD_eq_getD_getElem?, Array.getElem?_setIfInBounds_ne hds]
    rw [this]
    exact mono _ _ (inv.none s (fun k ok h3 h4 => hnone k ok (by simp only [h3]; split <;> rfl) h4))
theorem Inv3.operand {t : Tr3 P n ops sf ls F N0} {h0 : Hp} {E0 E : Emb} {base : Nat} {w0 w : World} {S : Nat → Bool} {c : Nat} {a : Act} (inv : Inv3 t h0 E0 base w0 S c E w a) {i s : Nat} (hi : i < ops.size) (hS : S i = false)
    (hw : ∀ j oj, j ≠ i → ops[j]? = some oj → oj.dst = some s → (j < i → S j = true) ∧ (i < j → S j = false)) : VRel E (t.T i s) (a.tmps.getD s undef) := by
  rcases t.slot s i (by omega) with ⟨j, oj, h1, h2, h3, h4, h5⟩ | ⟨h1, h2⟩
  · rw [h4]
    refine inv.last s j oj ((hw j oj (by omega) h2 h3).1 h1) h2 h3 (fun k ok k1 k3 k4 k5 => ?_)
    rcases Nat.lt_trichotomy k i with h | h | h
    · exact h5 k ok k1 h k4 k5
    · subst h; rw [hS] at k3; cases k3
    · have := (hw k ok (by omega) k4 k5).2 h
      rw [this] at k3; cases k3
  · rw [h1]
    refine inv.none s (fun k ok k3 k4 k5 => ?_)
    rcases Nat.lt_trichotomy k i with h | h | h
    · exact h2 k ok h k4 k5
    · subst h; rw [hS] at k3; cases k3
    · have := (hw k ok (by omega) k4 k5).2 h
      rw [this] at k3; cases k3
theorem lsIdx_lt : ∀ {ls : List Nat} {d j : Nat}, lsIdx ls d = some j → j < ls.length
  | [], _, _, h => by cases h
  | a :: l, d, j, h => by
    unfold lsIdx at h
    split at h
    · simp only [Option.some.injEq] at h; subst h; simp
    · cases hl : lsIdx l d with
      | none => rw [hl] at h; cases h
      | some q => rw [hl] at h; simp only [Option.map_some, Option.some.injEq] at h; subst h; have := lsIdx_lt hl; simp; omega
theorem litO_lt {ls : List Nat} {o : Oper} {j : Nat} (h : litO ls o = some j) : j < ls.length := by
  unfold litO at h
  split at h
  · exact lsIdx_lt h
  · cases h
theorem any_soft {Q : Exit → Act → World → Prop} (t : Tr3 P n ops sf ls F N0) {h0 : Hp} (hN0 : h0.next ≤ N0) (hd : drawOK ops ops.size = true) (hch : chainS sf ls ops = true) {E0 : Emb} {base : Nat} {w0 : World}
    (hend : ∀ E w a, Step E0 h0 w0 E (t.H ops.size) w → HRel E base (t.H ops.size) w.heap → TRel E n (t.T ops.size) a → Q .normal a w) :
    ∀ (k : Nat) (l : Array Bool) (c : Nat) (E : Emb) (w : World) (a : Act), l.size = ops.size → cntF (fun k => l.getD k false) ops.size = k → Closed ops l →
      Inv3 t h0 E0 base w0 (fun k => l.getD k false) c E w a → wpAny P .any ops Q k l a w
  | 0, l, c, E, w, a, hs, hc, hcl, inv => by
    have hall := cntF_zero hc
    simp only [wpAny]
    refine ⟨?_, ?_⟩
    · apply List.eq_nil_iff_forall_not_mem.2
      intro i hi
      obtain ⟨h1, h2, _⟩ := ready_spec hs hi
      have := hall i h1
      rw [this] at h2; cases h2
    · have hcc : ∀ j o, c ≤ j → j < ops.size → ops[j]? = some o → hardO sf ls o = false := fun j o h1 h2 ho => by
        cases hp : hardO sf ls o with
        | false => rfl
        | true => have := (inv.mem j o ho hp).1 (hall j h2); omega
      have hH := t.still ops.size inv.le (Nat.le_refl _) hcc
      refine hend E w a (by rw [hH]; exact inv.step) (by rw [hH]; exact inv.heap) ⟨inv.tmps, fun s => ?_, inv.defers⟩
      rcases t.slot s ops.size (Nat.le_refl _) with ⟨j, oj, g1, g2, g3, g4, g5⟩ | ⟨g1, g2⟩
      · rw [g4]
        exact inv.last s j oj (hall j g1) g2 g3 (fun k ok k1 _ k4 => g5 k ok k1 (Array.getElem?_eq_some_iff.1 k4).1 k4)
      · rw [g1]
        exact inv.none s (fun k ok _ k4 => g2 k ok (Array.getElem?_eq_some_iff.1 k4).1 k4)
  | k + 1, l, c, E, w, a, hs, hc, hcl, inv => by
    obtain ⟨h1, h2, h3, _⟩ := drawOK_spec hd
    obtain ⟨i0, i1, i2, i3⟩ := cntF_pos (f := fun k => l.getD k false) (m := ops.size) (by omega)
    simp only [wpAny]
    refine ⟨fun h => ?_, fun i hi => ?_⟩
    · have := ready_mk (l := l) h2 hs i1 i2 i3
      rw [h] at this; cases this
    · obtain ⟨r1, r2, r3⟩ := ready_spec hs hi
      have ho := Array.getElem?_eq_getElem r1
      generalize hov : ops[i] = o at ho
      have hlook : ∀ s, (o.looksAt ops).contains s = true → ∀ j oj, j ≠ i → ops[j]? = some oj → oj.dst = some s → (j < i → l.getD j false = true) ∧ (i < j → l.getD j false = false) := by
        intro s hcs j oj hne hoj hds
        have hj : j < ops.size := (Array.getElem?_eq_some_iff.1 hoj).1
        have h5 := (h3 i j o oj s r1 hj (fun e => hne e.symm) ho hoj hds).1 hcs
        refine ⟨fun hlt => ?_, fun hlt => ?_⟩
        · rw [if_pos hlt] at h5; exact r3 j h5
        · rw [if_neg (by omega)] at h5
          cases hlj : l.getD j false with
          | false => rfl
          | true => have := hcl j i hlj h5; rw [r2] at this; cases this
      have hval : ∀ s, (o.looksAt ops).contains s = true → VRel E (t.T i s) (a.tmps.getD s undef) := fun s hcs => inv.operand r1 r2 (hlook s hcs)
      have hB : ∀ j oj s, i < j → ops[j]? = some oj → o.dst = some s → oj.dst = some s → l.getD j false = false := by
        intro j oj s hlt hoj hds hds'
        have hj : j < ops.size := (Array.getElem?_eq_some_iff.1 hoj).1
        have h5 := (h3 i j o oj s r1 hj (by omega) ho hoj hds').2 hds hlt
        cases hlj : l.getD j false with
        | false => rfl
        | true => have := hcl j i hlj h5; rw [r2] at this; cases this
      obtain ⟨d1, d2⟩ := t.dst i o ho
      have hcnt : cntF (fun k => (l.setIfInBounds i true).getD k false) ops.size = k := by
        have := cntF_set (f := fun k => l.getD k false) (g := fun k => (l.setIfInBounds i true).getD k false) r1 r2 (fun k => getD_set (by omega) k)
        omega
      have hcl' : Closed ops (l.setIfInBounds i true) := by
        intro x y hx hxy
        rw [getD_set (by omega)] at hx ⊢
        by_cases e : x = i
        · subst e; split
          · rfl
          · exact r3 y hxy
        · rw [if_neg e] at hx
          split
          · rfl
          · exact hcl x y hx hxy
      have cont : ∀ c' E' w' v', c' ≤ ops.size → (∀ k ok, ops[k]? = some ok → hardO sf ls ok = true → ((if k = i then true else l.getD k false) = true ↔ k < c')) → Step E (t.H c) w E' (t.H c') w' → HRel E' base (t.H c') w'.heap → VRel E' (t.V i) v' → wpAny P .any ops Q k (l.setIfInBounds i true) (a.put o.dst v') w' := by
        intro c' E' w' v' hc' hm' st hr hv
        have inv' := inv.next (v' := v') ho r2 d1 hB hc' hm' (inv.step.trans st) (fun _ _ h => st.vrel inv.heap h) st.next (fun k ok j _ hk hok hl hD => by
          have hj := litO_lt hl
          have := t.lo
          have := inv.nx
          exact inv.lit k ok j hk hok hl (((st.ext (N0 + j) (by omega)).1).1 hD)) hr hv
        refine any_soft t hN0 hd hch hend k _ c' E' w' _ (by simp [hs]) hcnt hcl' ?_
        have e : (fun k => (l.setIfInBounds i true).getD k false) = fun k => if k = i then true else l.getD k false := funext fun k => getD_set (by omega) k
        rw [e]; exact inv'
      -- the guard
      have hwant : ∀ b, wantA ops (t.T i) o = some b → Region.wanted o (yielded ops a.tmps) = b := by
        intro b hb
        unfold wantA at hb
        unfold Region.wanted
        split at hb
        · rename_i hgd; simp only [Option.some.injEq] at hb; subst hb; rw [hgd]
        · rename_i j want hgd
          rw [hgd]
          split at hb
          · rename_i d hdd
            split at hb
            · rename_i bb hbb
              simp only [Option.some.injEq] at hb
              subst hb
              have hlt := guardOK_spec d2 j want d hgd hdd
              have hcs : (o.looksAt ops).contains d = true := by simp [Oper.looksAt, hgd, hdd]
              have hrr := hval d hcs
              rw [hbb] at hrr
              obtain ⟨z, hz, hz'⟩ := getD_some (c := a.tmps) (i := d) (by rw [inv.tmps]; exact hlt)
              have hz2 : z = .bool bb := by rw [← hz']; exact hrr.inv_bool
              subst hz2
              simp only [yielded, hdd, Option.bind_some, hz]
              cases bb <;> cases want <;> rfl
            · rename_i bb hbb
              simp only [Option.some.injEq] at hb
              subst hb
              have hlt := guardOK_spec d2 j want d hgd hdd
              have hcs : (o.looksAt ops).contains d = true := by simp [Oper.looksAt, hgd, hdd]
              have hrr := hval d hcs
              rw [hbb] at hrr
              obtain ⟨z, hz, hz'⟩ := getD_some (c := a.tmps) (i := d) (by rw [inv.tmps]; exact hlt)
              obtain ⟨c', hc'⟩ := hrr.inv_tuple
              have hz2 : z = .tuple c' := by rw [← hz']; exact hc'
              subst hz2
              simp only [yielded, hdd, Option.bind_some, hz]
              cases want <;> rfl
            · cases hb
          · cases hb
      have hops : ∀ s, Operand.tmp s ∈ o.op.operands → VRel E (t.T i s) (a.tmps.getD s undef) := fun s hsm => hval s (by
        simp only [Oper.looksAt, List.contains_eq_mem, List.mem_append, decide_eq_true_eq]
        left
        exact List.mem_filterMap.2 ⟨.tmp s, by simpa using hsm, rfl⟩)
      -- where the heap stands
      cases hp : hardO sf ls o with
      | false =>
        have hm' : ∀ k ok, ops[k]? = some ok → hardO sf ls ok = true → ((if k = i then true else l.getD k false) = true ↔ k < c) := fun k ok hk hpk => by
          by_cases e : k = i
          · subst e; rw [ho] at hk; cases hk; rw [hp] at hpk; cases hpk
          · rw [if_neg e]; exact inv.mem k ok hk hpk
        unfold wpOp
        simp only [ho]
        rcases t.step i o ho with ⟨g1, _, g2⟩ | ⟨g1, g2, g3⟩ | ⟨j, kk, cs, es, g1, g2, g3, g4, g5, g6, g7⟩
        · rw [hwant true g1, if_pos rfl]
          left
          exact (g2.1 hp).2 (t.H c) (fun b hb => (t.fix c inv.le b hb).trans (t.fix i (by omega) b hb).symm) E base w a _ Q inv.heap hops (fun E' w' v' st hr hv => cont c E' w' v' inv.le hm' st hr hv)
        · rw [hwant false g1, if_neg (by simp)]
          refine cont c E w undef inv.le hm' (Step.refl _ _ _) inv.heap ?_
          rw [g2]; exact VRel.undef _
        · have hw : Region.wanted o (yielded ops a.tmps) = true := by unfold Region.wanted; rw [g3]
          rw [hw, if_pos rfl]
          left
          have hlo := t.lo
          have hnx := inv.nx
          have hFj := t.lit j g2
          have hget : (t.H c).get (N0 + j) = .cells cs true true es := by rw [t.fix c inv.le _ hFj, ← t.fix i (by omega) _ hFj, g6]
          refine g4.1 (t.T i) (t.H c) E base w a _ Q inv.heap hops (fun E' w' v' st hr hv => ?_)
          obtain ⟨hv2, hM⟩ := late_val (E := E) (N := N0 + j) hv
          obtain ⟨st2, hr2⟩ := late_add inv.step inv.heap st hr (by omega) (by omega) (inv.lit i o j r2 ho g1) hget g4.2 hM
          have inv' := inv.next (v' := v') ho r2 d1 hB inv.le hm' st2 (fun _ _ h => h.mono fun q hq => by
            have hqN : q ≠ N0 + j := fun e => inv.lit i o j r2 ho g1 (e ▸ hq)
            exact ⟨.inr hq, by simp [Emb.add, hqN], by simp [Emb.add, hqN], by simp [Emb.add, hqN]⟩) (Nat.le_refl _) (fun k ok j' hki hk hok hl hD => by
            rcases hD with e | hD
            · have : j' = j := by omega
              subst this
              exact hki (chainS_lit hch hok ho hl g1)
            · exact inv.lit k ok j' hk hok hl hD) hr2 (by rw [g5]; exact hv2)
          refine any_soft t hN0 hd hch hend k _ c (E.add (N0 + j) (E'.blk (t.H c).next) (E'.off (t.H c).next) (E'.slk (t.H c).next)) w' _ (by simp [hs]) hcnt hcl' ?_
          have e : (fun k => (l.setIfInBounds i true).getD k false) = fun k => if k = i then true else l.getD k false := funext fun k => getD_set (by omega) k
          rw [e]; exact inv'
      | true =>
        have hci : c ≤ i := by
          apply Nat.le_of_not_lt
          intro hlt
          have := (inv.mem i o ho hp).2 hlt
          rw [r2] at this; cases this
        have hbet : ∀ j oj, c ≤ j → j < i → ops[j]? = some oj → hardO sf ls oj = false := fun j oj q1 q2 hoj => by
          cases hpj : hardO sf ls oj with
          | false => rfl
          | true =>
            have := tcl_done hcl 8 i j (chainS_spec hch ho hoj hp hpj q2) r3
            have := (inv.mem j oj hoj hpj).1 this
            omega
        have hH := t.still i hci (by omega) hbet
        have hm' : ∀ k ok, ops[k]? = some ok → hardO sf ls ok = true → ((if k = i then true else l.getD k false) = true ↔ k < i + 1) := fun k ok hk hpk => by
          by_cases e : k = i
          · subst e; simp
          · rw [if_neg e]
            have hmk := inv.mem k ok hk hpk
            constructor
            · intro hl; have := hmk.1 hl; omega
            · intro hlt
              exact tcl_done hcl 8 i k (chainS_spec hch ho hk hp hpk (by omega)) r3
        unfold wpOp
        simp only [ho]
        rcases t.step i o ho with ⟨g1, g2, _⟩ | ⟨g1, g2, g3⟩ | ⟨j, kk, cs, es, g1, g2, g3, g4, g5, g6, g7⟩
        · rw [hwant true g1, if_pos rfl]
          left
          rw [hH] at g2
          exact g2 E base w a _ Q inv.heap hops (fun E' w' v' st hr hv => cont (i + 1) E' w' v' (by omega) hm' st hr hv)
        · rw [hwant false g1, if_neg (by simp)]
          rw [hH] at g3
          refine cont (i + 1) E w undef (by omega) hm' ?_ ?_ ?_
          · rw [g3]; exact Step.refl _ _ _
          · rw [g3]; exact inv.heap
          · rw [g2]; exact VRel.undef _
        · simp [hardO, g1] at hp
def OpD (P : Program) (o : Oper) (tm : Nat → Value) (h : Hp) (v : Value) (h' : Hp) : Prop := match o.op with
  | .call ⟨.value fx, xs, _⟩ => okX fx = true ∧ xs.all okX = true ∧ match ev tm fx with
      | .func (.func f) fst cap => fnOK P f = true ∧ CallOK P f (fst ++ xs.map (ev tm) ++ cap) h v h'
      | _ => False
  | op => opD P op tm h = some (v, h')
def oblO (sf : List Nat) (F : Nat → Prop) (o : Oper) (tm : Nat → Value) : Prop := match o.op, o.dst with
  | .load _ x, some d => sfHas sf d = true → inF F (ev tm x)
  | _, _ => True
def litF : List Nat → Nat → Nat → Prop
  | [], _, _ => False
  | _ :: l, N, b => b = N ∨ litF l (N + 1) b
theorem litF_mem : ∀ (ls : List Nat) (N j : Nat), j < ls.length → litF ls N (N + j)
  | [], _, _, h => absurd h (by simp)
  | _ :: l, N, 0, _ => .inl rfl
  | _ :: l, N, j + 1, h => .inr (by rw [show N + (j + 1) = N + 1 + j by omega]; exact litF_mem l (N + 1) j (by simpa using h))
def litP (P : Program) (o : Oper) (k : Nat) (cs : List Value) (es : Nat) : Prop := match o.op with
  | .buildSlice t k' parts => k' = k ∧ constL parts.toList = true ∧ litC P t k' parts = some (cs, es) ∧ ∀ c ∈ cs, plainV c = true
  | _ => False
theorem litP.ok {o : Oper} {k : Nat} {cs : List Value} {es : Nat} (h : litP P o k cs es) : LitOK P o k cs es := by
  unfold litP at h
  split at h
  · rename_i t k' parts hop
    obtain ⟨rfl, h2, h3, h4⟩ := h
    refine ⟨fun tm hp => opD_sound ?_, h4⟩
    rw [hop, litC_op h2, h3]
    rfl
  · cases h
def SrC (P : Program) (n : Nat) (ops : Array Oper) (sf ls : List Nat) (F : Nat → Prop) (N0 : Nat) : List Oper → ((Nat → Value) → Hp → Prop) → (Nat → Value) → Hp → Prop
  | [], R, tm, h => R tm h
  | o :: l, R, tm, h => dstOK n o.dst = true ∧ guardOK n ops o = true ∧ match litO ls o with
    | some j => o.guard = none ∧ ∃ k cs es, litP P o k cs es ∧ h.get (N0 + j) = .cells cs true true es ∧ SrC P n ops sf ls F N0 l R (updO tm o.dst (.slice (some ⟨N0 + j, 0, none⟩) k k)) h
    | none => match wantA ops tm o with
      | none => False
      | some false => SrC P n ops sf ls F N0 l R (updO tm o.dst undef) h
      | some true => ∃ v h', OpD P o tm h v h' ∧ KeepF F h h' ∧ oblO sf F o tm ∧ SrC P n ops sf ls F N0 l R (updO tm o.dst v) h'
theorem opD_ok {o : Oper} {tm : Nat → Value} {h h' : Hp} {v : Value} (hln : litO ls o = none) (hd : OpD P o tm h v h') (hb : oblO sf F o tm) : OpOK P o tm h v h' ∧ (hardO sf ls o = false → h' = h ∧ ∀ h2, KeepF F h h2 → OpOK P o tm h2 v h2) := by
  unfold OpD at hd
  split at hd
  · rename_i fx xs ts hop
    obtain ⟨k1, k2, k3⟩ := hd
    split at k3
    rotate_left
    · cases k3
    rename_i f fst cap hfx
    exact ⟨ok_call hop hfx k1 k2 k3.1 k3.2, fun hp => by simp [hardO, hop, pureOp, softL, hln] at hp⟩
  · refine ⟨opD_sound hd, fun hp => ?_⟩
    by_cases hpu : pureOp o.op = true
    · obtain ⟨e, hall⟩ := opD_pure hpu hd
      exact ⟨e, fun h2 _ => opD_sound (hall h2)⟩
    · have hs : softL sf o = true := by simpa [hardO, hpu, hln] using hp
      unfold softL at hs
      split at hs
      · rename_i t x d hop hdst
        simp only [oblO, hop, hdst] at hb
        have hin := hb hs
        rw [hop] at hd
        have key : ∀ h2, opD P (.load t x) tm h2 = if okX x then match ev tm x with
            | .pointer (some ⟨p, i, none⟩) => (loadD P t i (h2.get p)).map fun v => (v, h2)
            | _ => none
          else none := fun _ => rfl
        rw [key] at hd
        split at hd
        · rename_i hok
          split at hd
          · rename_i p i hev
            rw [hev] at hin
            cases hl : loadD P t i (h.get p) with
            | none => rw [hl] at hd; cases hd
            | some u =>
              rw [hl] at hd
              simp only [Option.map_some, Option.some.injEq, Prod.mk.injEq] at hd
              obtain ⟨rfl, rfl⟩ := hd
              refine ⟨rfl, fun h2 hk => opD_sound ?_⟩
              rw [hop, key, if_pos hok, hev]
              show (loadD P t i (h2.get p)).map _ = _
              rw [hk p hin, hl]
              rfl
          · cases hd
        · cases hd
      · cases hs
theorem srC_trace {R : (Nat → Value) → Hp → Prop} : ∀ (l : List Oper) (tm : Nat → Value) (h : Hp), SrC P n ops sf ls F N0 l R tm h →
    ∃ (T : Nat → Nat → Value) (H : Nat → Hp) (V : Nat → Value), T 0 = tm ∧ H 0 = h ∧ R (T l.length) (H l.length) ∧
      ∀ i o, l[i]? = some o → (dstOK n o.dst = true ∧ guardOK n ops o = true) ∧
        ((wantA ops (T i) o = some true ∧ OpOK P o (T i) (H i) (V i) (H (i + 1)) ∧ (hardO sf ls o = false → H (i + 1) = H i ∧ ∀ h, KeepF F (H i) h → OpOK P o (T i) h (V i) h) ∧ KeepF F (H i) (H (i + 1))) ∨ (wantA ops (T i) o = some false ∧ V i = undef ∧ H (i + 1) = H i) ∨
          ∃ j k cs es, litO ls o = some j ∧ j < ls.length ∧ o.guard = none ∧ LitOK P o k cs es ∧ V i = .slice (some ⟨N0 + j, 0, none⟩) k k ∧ (H i).get (N0 + j) = .cells cs true true es ∧ H (i + 1) = H i) ∧
        T (i + 1) = updO (T i) o.dst (V i)
  | [], tm, h, hq => ⟨fun _ => tm, fun _ => h, fun _ => undef, rfl, rfl, hq, fun i o ho => by simp at ho⟩
  | o :: rest, tm, h, hq => by
    obtain ⟨h1, h2, h3⟩ := hq
    have shift : ∀ (v : Value) (h' : Hp), SrC P n ops sf ls F N0 rest R (updO tm o.dst v) h' → ((wantA ops tm o = some true ∧ OpOK P o tm h v h' ∧ (hardO sf ls o = false → h' = h ∧ ∀ h2, KeepF F h h2 → OpOK P o tm h2 v h2) ∧ KeepF F h h') ∨ (wantA ops tm o = some false ∧ v = undef ∧ h' = h) ∨
        ∃ j k cs es, litO ls o = some j ∧ j < ls.length ∧ o.guard = none ∧ LitOK P o k cs es ∧ v = .slice (some ⟨N0 + j, 0, none⟩) k k ∧ h.get (N0 + j) = .cells cs true true es ∧ h' = h) →
        ∃ (T : Nat → Nat → Value) (H : Nat → Hp) (V : Nat → Value), T 0 = tm ∧ H 0 = h ∧ R (T (o :: rest).length) (H (o :: rest).length) ∧
          ∀ i q, (o :: rest)[i]? = some q → (dstOK n q.dst = true ∧ guardOK n ops q = true) ∧
            ((wantA ops (T i) q = some true ∧ OpOK P q (T i) (H i) (V i) (H (i + 1)) ∧ (hardO sf ls q = false → H (i + 1) = H i ∧ ∀ h, KeepF F (H i) h → OpOK P q (T i) h (V i) h) ∧ KeepF F (H i) (H (i + 1))) ∨ (wantA ops (T i) q = some false ∧ V i = undef ∧ H (i + 1) = H i) ∨
              ∃ j k cs es, litO ls q = some j ∧ j < ls.length ∧ q.guard = none ∧ LitOK P q k cs es ∧ V i = .slice (some ⟨N0 + j, 0, none⟩) k k ∧ (H i).get (N0 + j) = .cells cs true true es ∧ H (i + 1) = H i) ∧
            T (i + 1) = updO (T i) q.dst (V i) := by
      intro v h' hp hs
      obtain ⟨T, H, V, e1, e2, hR, hi⟩ := srC_trace rest _ _ hp
      refine ⟨fun k => match k with | 0 => tm | k + 1 => T k, fun k => match k with | 0 => h | k + 1 => H k, fun k => match k with | 0 => v | k + 1 => V k, rfl, rfl, hR, fun i q hq => ?_⟩
      cases i with
      | zero =>
        simp only [List.getElem?_cons_zero, Option.some.injEq] at hq
        subst hq
        simp only [e1, e2]
        exact ⟨⟨h1, h2⟩, hs, trivial⟩
      | succ i =>
        simp only [List.getElem?_cons_succ] at hq
        exact hi i q hq
    cases hl : litO ls o with
    | some j =>
      rw [hl] at h3
      obtain ⟨hg, k, cs, es, k1, k2, k3⟩ := h3
      exact shift _ h k3 (.inr (.inr ⟨j, k, cs, es, hl, litO_lt hl, hg, k1.ok, rfl, k2, rfl⟩))
    | none =>
      rw [hl] at h3
      cases hw : wantA ops tm o with
      | none => rw [hw] at h3; exact h3.elim
      | some b =>
        rw [hw] at h3
        cases b with
        | false => exact shift undef h h3 (.inr (.inl ⟨hw, rfl, rfl⟩))
        | true =>
          obtain ⟨v, h', k1, k2, k3, k4⟩ := h3
          have hk := opD_ok hl k1 k3
          exact shift v h' k4 (.inl ⟨hw, hk.1, hk.2, k2⟩)
theorem runs_soft {id : Nat} {Q : Exit → (Nat → Value) → Hp → Prop} {tm : Nat → Value} {h hL : Hp} (hm : P.follows .mixedOrders = true) (hd : drawOK ops ops.size = true) (hch : chainS sf ls ops = true) (hk : Keeps h hL) (hlo : h.next + ls.length ≤ hL.next) (hF : ∀ j, j < ls.length → F (h.next + j))
    (hq : SrC P n ops sf ls F h.next ops.toList (Q .normal) tm hL) : Runs P n (.region id ops true) Q tm h := by
  obtain ⟨T, H, V, e1, e2, hR, hi⟩ := srC_trace _ _ _ hq
  rw [Array.length_toList] at hR
  let t : Tr3 P n ops sf ls F h.next :=
    { T := T, H := H, V := V
      dst := fun i o ho => (hi i o (by simpa using ho)).1
      step := fun i o ho => (hi i o (by simpa using ho)).2.1
      lit := hF
      lo := by show h.next + ls.length ≤ (H 0).next; rw [e2]; exact hlo
      next := fun i o ho => (hi i o (by simpa using ho)).2.2 }
  refine ⟨.normal, T ops.size, H ops.size, fun E base w a hr ht => wp_region_any hm ?_, hR⟩
  have hfalse : ∀ k, (Array.replicate ops.size false).getD k false = false := fun k => by
    rw [Array.getD_eq_getD_getElem?, Array.getElem?_replicate]; split <;> rfl
  have hinit : Inv3 t h E base w (fun k => (Array.replicate ops.size false).getD k false) 0 E { w with drawn := w.drawn + 1 } a := by
    refine ⟨Nat.zero_le _, fun i o _ _ => ?_, ?_, Nat.le_refl _, fun i o j _ _ hl hD => ?_, ?_, ht.size, ht.defers, fun s j o hS => ?_, fun s _ => ?_⟩
    · rw [hfalse]; simp
    · show Step E h w E (H 0) _
      rw [e2]
      exact ⟨hk.1, fun _ _ => ⟨Iff.rfl, rfl, rfl, rfl⟩, rfl, rfl, ⟨rfl, Nat.le_succ _⟩, Nat.le_refl _, fun _ _ _ => rfl, fun o hd ho => .inl ⟨o, hd, by rw [hk.2 o (hr.lt o hd)] at ho; exact ho, rfl⟩⟩
    · have := hr.lt _ hD
      omega
    · show HRel E base (H 0) w.heap
      rw [e2]
      exact ⟨hr.le, fun o ho => Nat.lt_of_lt_of_le (hr.lt o ho) hk.1, fun o ho => by rw [hk.2 o (hr.lt o ho)]; exact hr.obj o ho, fun o o' ho ho' hne h1 h2 => hr.sep o o' ho ho' hne (by rwa [hk.2 o (hr.lt o ho)] at h1) (by rwa [hk.2 o' (hr.lt o' ho')] at h2)⟩
    · rw [hfalse] at hS; cases hS
    · show VRel E (T 0 s) _
      rw [e1]; exact ht.rel s
  have hcnt : cntF (fun k => (Array.replicate ops.size false).getD k false) ops.size = ops.size := by
    have : ∀ m, cntF (fun k => (Array.replicate ops.size false).getD k false) m = m := by
      intro m
      induction m with
      | zero => rfl
      | succ m ih =>
        show cntF _ m + (if (Array.replicate ops.size false).getD m false = true then 0 else 1) = m + 1
        rw [ih, hfalse]; simp
    exact this ops.size
  refine any_soft (Q := fun ex a' w' => ex = .normal ∧ ∃ E', Step E h w E' (H ops.size) w' ∧ HRel E' base (H ops.size) w'.heap ∧ TRel E' n (T ops.size) a') t (h0 := h) (Nat.le_refl _) hd hch (E0 := E) (base := base) (w0 := w) ?_ ops.size (Array.replicate ops.size false) 0 E { w with drawn := w.drawn + 1 } a (by simp) hcnt (fun i j hi => by rw [hfalse] at hi; cases hi) hinit
  intro E1 w1 a1 st hr1 ht1
  exact ⟨rfl, E1, st, hr1, ht1⟩
end
section
variable {P : Program} {n : Nat} {tm : Nat → Value} {h : Hp} {Q : Exit → (Nat → Value) → Hp → Prop} {R : (Nat → Value) → Hp → Prop} {sf ls : List Nat} {F : Nat → Prop} {N0 : Nat}
variable {ops : Array Oper} {L : List Oper} {op : Op} {ty : TypeId} {pos : String} {aft : Array Edge} {l : List Oper} {d j p : Nat} {w : Bool}
def SY (P : Program) (n : Nat) (ops : Array Oper) (sf ls : List Nat) (F : Nat → Prop) (N0 : Nat) (l : List Oper) (R : (Nat → Value) → Hp → Prop) (_ : Wit (ops, F, l, R)) (tm : Nat → Value) (h : Hp) : Prop := SrC P n ops sf ls F N0 l R tm h
def allocL (h : Hp) : List (List Value × Nat) → Hp
  | [] => h
  | x :: l => allocL (h.alloc (.cells x.1 true true x.2)) l
@[simp] theorem allocL_n (h : Hp) : allocL h [] = h := rfl
@[simp] theorem allocL_c (h : Hp) (x : List Value × Nat) (l : List (List Value × Nat)) : allocL h (x :: l) = allocL (h.alloc (.cells x.1 true true x.2)) l := rfl
theorem allocL_keeps : ∀ (l : List (List Value × Nat)) (h : Hp), Adds h (allocL h l) ∧ (allocL h l).next = h.next + l.length
  | [], h => ⟨Adds.refl h, rfl⟩
  | x :: l, h => by
    obtain ⟨k1, k2⟩ := allocL_keeps l (h.alloc (.cells x.1 true true x.2))
    refine ⟨(Adds.alloc h (fun _ => rfl)).trans k1, ?_⟩
    rw [allocL_c, k2]
    simp [Hp.alloc]; omega
theorem WD_softC (sf ls : List Nat) (xs : List (List Value × Nat)) (F : Nat → Prop) {id : Nat} (hm : P.follows .mixedOrders = true) (hd : drawOK (List.toArray l) (List.toArray l).size = true) (hch : chainS sf ls (List.toArray l) = true) (hx : ls.length = xs.length) {z : Wit _}
    (hr : SY P n (List.toArray l) sf ls (fun b => F b ∨ litF ls h.next b) h.next l (Q .normal) ⟨⟩ tm (allocL h xs)) : WY P n (.region id (List.toArray l) true) Q z tm h :=
  runs_soft (sf := sf) (ls := ls) (F := fun b => F b ∨ litF ls h.next b) hm hd hch (allocL_keeps xs h).1.1 (by rw [(allocL_keeps xs h).2, hx]; exact Nat.le_refl _) (fun j hj => .inr (litF_mem ls h.next j hj)) hr
@[simp] theorem litF_n (N b : Nat) : litF [] N b = False := rfl
@[simp] theorem litF_c (a : Nat) (l : List Nat) (N b : Nat) : litF (a :: l) N b = (b = N ∨ litF l (N + 1) b) := rfl
@[simp] theorem constL_n : constL [] = true := rfl
@[simp] theorem constL_c (i : Nat) (v : Value) (l : List (Nat × Operand)) : constL ((i, .const v) :: l) = constL l := rfl
@[simp] theorem lsIdx_n (d : Nat) : lsIdx [] d = none := rfl
@[simp] theorem lsIdx_c (a : Nat) (l : List Nat) (d : Nat) : lsIdx (a :: l) d = if a = d then some 0 else (lsIdx l d).map (· + 1) := rfl
@[simp] theorem sfHas_n (d : Nat) : sfHas [] d = false := rfl
@[simp] theorem sfHas_c (a : Nat) (l : List Nat) (d : Nat) : sfHas (a :: l) d = (decide (a = d) || sfHas l d) := rfl
@[simp] theorem inF_p (b i : Nat) : inF F (.pointer (some ⟨b, i, none⟩)) = F b := rfl
@[simp] theorem keepF_self : KeepF F h h = True := eq_true fun _ _ => rfl
@[simp] theorem keepF_put (o : Nat) (x : AObj) (ho : ¬ F o) : KeepF F h (h.put o x) = True := eq_true fun b hb => by simp [Hp.put, show b ≠ o from fun e => ho (e ▸ hb)]
@[simp ↓] theorem srC_nil {z : Wit _} : SY P n ops sf ls F N0 [] R z tm h = R tm h := rfl
def srK (P : Program) (n : Nat) (ops : Array Oper) (sf ls : List Nat) (F : Nat → Prop) (N0 : Nat) (l : List Oper) (R : (Nat → Value) → Hp → Prop) (tm : Nat → Value) (d : Nat) (h : Hp) : Value → Hp → Prop := fun v h' => KeepF F h h' ∧ SY P n ops sf ls F N0 l R ⟨⟩ (upd tm d v) h'
def srS (P : Program) (n : Nat) (ops : Array Oper) (sf ls : List Nat) (F : Nat → Prop) (N0 : Nat) (l : List Oper) (R : (Nat → Value) → Hp → Prop) (tm : Nat → Value) (h : Hp) : Value → Hp → Prop := fun _ h' => KeepF F h h' ∧ SY P n ops sf ls F N0 l R ⟨⟩ tm h'
@[simp ↓] theorem srK_app (v : Value) (h' : Hp) : srK P n ops sf ls F N0 l R tm d h v h' = (KeepF F h h' ∧ SY P n ops sf ls F N0 l R ⟨⟩ (upd tm d v) h') := rfl
@[simp ↓] theorem srS_app (v : Value) (h' : Hp) : srS P n ops sf ls F N0 l R tm h v h' = (KeepF F h h' ∧ SY P n ops sf ls F N0 l R ⟨⟩ tm h') := rfl
def callS (P : Program) (n : Nat) (ops : Array Oper) (sf ls : List Nat) (F : Nat → Prop) (N0 : Nat) (fx : Operand) (xs : Array Operand) (l : List Oper) (R : (Nat → Value) → Hp → Prop) (_ : Wit (ops, F, fx, xs, l, R)) (tm : Nat → Value) (d : Nat) (h : Hp) : Prop :=
  okX fx = true ∧ xs.all okX = true ∧ match ev tm fx with
    | .func (.func f) fst cap => fnOK P f = true ∧ ∃ v h', CallOK P f (fst ++ xs.map (ev tm) ++ cap) h v h' ∧ KeepF F h h' ∧ SrC P n ops sf ls F N0 l R (upd tm d v) h'
    | _ => False
theorem callS_c {f : FuncId} {xs : Array Operand} {z : Wit _} {args : Array Value} {v : Value} {h' : Hp} (h2 : xs.all okX = true) (h4 : fnOK P f = true) (ha : xs.map (ev tm) = args) (hc : CallOK P f args h v h') (hk : KeepF F h h')
    (hr : SY P n ops sf ls F N0 l R ⟨⟩ (upd tm d v) h') : callS P n ops sf ls F N0 (.func f) xs l R z tm d h :=
  ⟨rfl, h2, h4, v, h', by rw [ha]; simpa using hc, hk, hr⟩
def litY (r : Option Nat) (A : Prop) (B : Nat → Prop) (_ : Wit (A, B)) : Prop := match r with
  | none => A
  | some j => B j
@[simp] theorem litY_n (A : Prop) (B : Nat → Prop) (z : Wit (A, B)) : litY none A B z = A := rfl
@[simp] theorem litY_s (j : Nat) (A : Prop) (B : Nat → Prop) (z : Wit (A, B)) : litY (some j) A B z = B j := rfl
def plainO : AObj → Bool
  | .cells c _ _ _ => c.all plainV
  | _ => false
@[simp] theorem plainO_c (c : List Value) (a b : Bool) (e : Nat) : plainO (.cells c a b e) = c.all plainV := rfl
def litK (P : Program) (n : Nat) (ops : Array Oper) (sf ls : List Nat) (F : Nat → Prop) (N0 : Nat) (l : List Oper) (R : (Nat → Value) → Hp → Prop) (tm : Nat → Value) (d j k : Nat) (h : Hp) : Value → Hp → Prop := fun _ h' => h.get (N0 + j) = h'.get h.next ∧ plainO (h'.get h.next) = true ∧ SY P n ops sf ls F N0 l R ⟨⟩ (upd tm d (.slice (some ⟨N0 + j, 0, none⟩) k k)) h
@[simp ↓] theorem litK_app {k : Nat} {hv : Hp} (v : Value) (h' : Hp) : litK P n ops sf ls F N0 l R tm d j k hv v h' = (hv.get (N0 + j) = h'.get hv.next ∧ plainO (h'.get hv.next) = true ∧ SY P n ops sf ls F N0 l R ⟨⟩ (upd tm d (.slice (some ⟨N0 + j, 0, none⟩) k k)) hv) := rfl
def stepS (P : Program) (n : Nat) (ops : Array Oper) (sf ls : List Nat) (F : Nat → Prop) (N0 : Nat) (o : Oper) (l : List Oper) (R : (Nat → Value) → Hp → Prop) (tm : Nat → Value) (h : Hp) : Prop := ∃ v h', OpD P o tm h v h' ∧ KeepF F h h' ∧ oblO sf F o tm ∧ SrC P n ops sf ls F N0 l R (updO tm o.dst v) h'
theorem srC_u (hl : litO ls ⟨some d, op, ty, pos, aft, none⟩ = none) {z : Wit _} : SY P n ops sf ls F N0 (⟨some d, op, ty, pos, aft, none⟩ :: l) R z tm h = (d < n ∧ stepS P n ops sf ls F N0 ⟨some d, op, ty, pos, aft, none⟩ l R tm h) := by
  simp only [SY, SrC, hl, dstOK, guardOK, wantA, decide_eq_true_eq, true_and, stepS]
theorem stepS_op {g : Option (Nat × Bool)} (hc : callV op = false) (hl : ∀ t x, op ≠ .load t x) : stepS P n ops sf ls F N0 ⟨some d, op, ty, pos, aft, g⟩ l R tm h = thenY (opD P op tm h) (srK P n ops sf ls F N0 l R tm d h) ⟨⟩ := by
  apply propext
  constructor
  · rintro ⟨v, h', k1, k2, _, k4⟩
    refine ⟨v, h', ?_, k2, k4⟩
    unfold OpD at k1
    simp only at k1
    split at k1
    · simp [callV] at hc
    · exact k1
  · rintro ⟨v, h', k1, k2, k4⟩
    refine ⟨v, h', ?_, k2, ?_, k4⟩
    · unfold OpD
      simp only
      split
      · simp [callV] at hc
      · exact k1
    · unfold oblO
      cases op <;> first | trivial | exact absurd rfl (hl _ _)
theorem stepS_load {g : Option (Nat × Bool)} {t : TypeId} {x : Operand} : stepS P n ops sf ls F N0 ⟨some d, .load t x, ty, pos, aft, g⟩ l R tm h = ((sfHas sf d = true → inF F (ev tm x)) ∧ thenY (opD P (.load t x) tm h) (srK P n ops sf ls F N0 l R tm d h) ⟨⟩) := by
  apply propext
  constructor
  · rintro ⟨v, h', k1, k2, k3, k4⟩
    exact ⟨k3, v, h', k1, k2, k4⟩
  · rintro ⟨k3, v, h', k1, k2, k4⟩
    exact ⟨v, h', k1, k2, k3, k4⟩
theorem stepS_call {g : Option (Nat × Bool)} {fx xs ts} : stepS P n ops sf ls F N0 ⟨some d, .call ⟨.value fx, xs, ts⟩, ty, pos, aft, g⟩ l R tm h = callS P n ops sf ls F N0 fx xs l R ⟨⟩ tm d h := by
  apply propext
  constructor
  · rintro ⟨v, h', ⟨k1, k2, k3⟩, k4, _, k5⟩
    refine ⟨k1, k2, ?_⟩
    split at k3
    · exact ⟨k3.1, v, h', k3.2, k4, k5⟩
    · exact k3.elim
  · rintro ⟨k1, k2, k3⟩
    split at k3
    · rename_i f fst cap hf
      obtain ⟨k6, v, h', k7, k4, k5⟩ := k3
      exact ⟨v, h', ⟨k1, k2, by simp only [hf]; exact ⟨k6, k7⟩⟩, k4, trivial, k5⟩
    · exact k3.elim
theorem su (hc : callV op = false) (hl : ∀ t x, op ≠ .load t x) (hb : ∀ g, litO ls ⟨some d, op, ty, pos, aft, g⟩ = none) {z : Wit _} : SY P n ops sf ls F N0 (⟨some d, op, ty, pos, aft, none⟩ :: l) R z tm h = (d < n ∧ thenY (opD P op tm h) (srK P n ops sf ls F N0 l R tm d h) ⟨⟩) := by rw [srC_u (hb _), stepS_op hc hl]
theorem ss (hc : callV op = false) (hl : ∀ t x, op ≠ .load t x) {z : Wit _} : SY P n ops sf ls F N0 (⟨none, op, ty, pos, aft, none⟩ :: l) R z tm h = thenY (opD P op tm h) (srS P n ops sf ls F N0 l R tm h) ⟨⟩ := by
  have hln : litO ls ⟨none, op, ty, pos, aft, none⟩ = none := by cases op <;> rfl
  simp only [SY, SrC, hln, dstOK, guardOK, wantA, true_and]
  apply propext
  constructor
  · rintro ⟨v, h', k1, k2, _, k4⟩
    refine ⟨v, h', ?_, k2, k4⟩
    unfold OpD at k1
    simp only at k1
    split at k1
    · simp [callV] at hc
    · exact k1
  · rintro ⟨v, h', k1, k2, k4⟩
    refine ⟨v, h', ?_, k2, ?_, k4⟩
    · unfold OpD
      simp only
      split
      · simp [callV] at hc
      · exact k1
    · unfold oblO
      simp
@[simp ↓] theorem su_move {x} {z : Wit _} : SY P n ops sf ls F N0 (⟨some d, .move x, ty, pos, aft, none⟩ :: l) R z tm h = (d < n ∧ thenY (opD P (.move x) tm h) (srK P n ops sf ls F N0 l R tm d h) ⟨⟩) := su rfl (fun _ _ e => by cases e) (fun _ => rfl)
@[simp ↓] theorem su_load {t x} {z : Wit _} : SY P n ops sf ls F N0 (⟨some d, .load t x, ty, pos, aft, none⟩ :: l) R z tm h = (d < n ∧ (sfHas sf d = true → inF F (ev tm x)) ∧ thenY (opD P (.load t x) tm h) (srK P n ops sf ls F N0 l R tm d h) ⟨⟩) := by rw [srC_u rfl, stepS_load]
@[simp ↓] theorem su_fieldAddr {s x f} {z : Wit _} : SY P n ops sf ls F N0 (⟨some d, .fieldAddr s x f, ty, pos, aft, none⟩ :: l) R z tm h = (d < n ∧ thenY (opD P (.fieldAddr s x f) tm h) (srK P n ops sf ls F N0 l R tm d h) ⟨⟩) := su rfl (fun _ _ e => by cases e) (fun _ => rfl)
@[simp ↓] theorem su_indexAddr {t x y} {z : Wit _} : SY P n ops sf ls F N0 (⟨some d, .indexAddr t x y, ty, pos, aft, none⟩ :: l) R z tm h = (d < n ∧ thenY (opD P (.indexAddr t x y) tm h) (srK P n ops sf ls F N0 l R tm d h) ⟨⟩) := su rfl (fun _ _ e => by cases e) (fun _ => rfl)
@[simp ↓] theorem su_binOp {b t x y t2} {z : Wit _} : SY P n ops sf ls F N0 (⟨some d, .binOp b t x y t2, ty, pos, aft, none⟩ :: l) R z tm h = (d < n ∧ thenY (opD P (.binOp b t x y t2) tm h) (srK P n ops sf ls F N0 l R tm d h) ⟨⟩) := su rfl (fun _ _ e => by cases e) (fun _ => rfl)
@[simp ↓] theorem su_buildSliceL {t m ps} {z : Wit _} (hls : (lsIdx ls d).isSome = true) : SY P n ops sf ls F N0 (⟨some d, .buildSlice t m ps, ty, pos, aft, none⟩ :: l) R z tm h = (d < n ∧ constL ps.toList = true ∧ thenY (opD P (.buildSlice t m ps) tm h) (litK P n ops sf ls F N0 l R tm d ((lsIdx ls d).getD 0) m h) ⟨⟩) := by
  obtain ⟨j, hl⟩ := Option.isSome_iff_exists.1 hls
  rw [hl]
  show _ = (d < n ∧ constL ps.toList = true ∧ thenY (opD P (.buildSlice t m ps) tm h) (litK P n ops sf ls F N0 l R tm d j m h) ⟨⟩)
  · skip
    have hl' : litO ls ⟨some d, .buildSlice t m ps, ty, pos, aft, none⟩ = some j := hl
    simp only [SY, SrC, hl', dstOK, guardOK, decide_eq_true_eq, true_and]
    apply propext
    constructor
    · rintro ⟨h1, k, cs, es, ⟨rfl, h2, h3, h4⟩, h5, h6⟩
      refine ⟨h1, h2, _, _, by rw [litC_op h2, h3]; rfl, ?_, ?_, h6⟩
      · rw [h5]; simp [Hp.alloc]
      · simp only [Hp.alloc, if_true, plainO_c, List.all_eq_true]; exact h4
    · rintro ⟨h1, h2, v, h', h3, h4, h5, h6⟩
      rw [litC_op h2] at h3
      cases hx : litC P t m ps with
      | none => rw [hx] at h3; cases h3
      | some r =>
        rw [hx] at h3
        simp only [Option.map_some, Option.some.injEq, Prod.mk.injEq] at h3
        obtain ⟨rfl, rfl⟩ := h3
        refine ⟨h1, m, r.1, r.2, ⟨rfl, h2, hx, ?_⟩, ?_, h6⟩
        · simp only [Hp.alloc, if_true, plainO_c, List.all_eq_true] at h5; exact h5
        · rw [h4]; simp [Hp.alloc]
@[simp ↓] theorem ss_store {t x y} {z : Wit _} : SY P n ops sf ls F N0 (⟨none, .store t x y, ty, pos, aft, none⟩ :: l) R z tm h = thenY (opD P (.store t x y) tm h) (srS P n ops sf ls F N0 l R tm h) ⟨⟩ := ss rfl (fun _ _ e => by cases e)
@[simp ↓] theorem su_call {fx xs ts} {z : Wit _} : SY P n ops sf ls F N0 (⟨some d, .call ⟨.value fx, xs, ts⟩, ty, pos, aft, none⟩ :: l) R z tm h = (d < n ∧ callS P n ops sf ls F N0 fx xs l R ⟨⟩ tm d h) := by rw [srC_u rfl, stepS_call]
variable {fx : Operand} {xs : Array Operand}
theorem SY_heap {z : Wit _} (hr : ∀ h', h' = h → SY P n ops sf ls F N0 l R z tm h') : SY P n ops sf ls F N0 l R z tm h := hr h rfl
theorem callS_heap {z : Wit _} (hr : ∀ h', h' = h → callS P n ops sf ls F N0 fx xs l R z tm d h') : callS P n ops sf ls F N0 fx xs l R z tm d h := hr h rfl
end
end Go.Eng
namespace Go.Proofs.Ytnnjehonbolliaa
set_option linter.unusedSimpArgs false
set_option linter.unusedVariables false
set_option maxHeartbeats 4000000
open Go Go.Eng
attribute [local irreducible] WD RunD PreD Runs CallOK
structure DrW (hB : Hp) (o k : Nat) (h h' : Hp) : Prop where
  add : Adds hB h'
  nx : h.next ≤ h'.next
  sm : ∀ p, p < h.next → p ≠ o → h'.get p = h.get p
  cur : CurS hB.next o k h'
theorem DrW.trans {hB a b c : Hp} {o k k' : Nat} (x : DrW hB o k a b) (y : DrW hB o k' b c) : DrW hB o k' a c :=
  ⟨y.add, Nat.le_trans x.nx y.nx, fun p hp hne => (y.sm p (Nat.lt_of_lt_of_le hp x.nx) hne).trans (x.sm p hp hne), y.cur⟩
theorem DrW.mono {hB a b : Hp} {o k k' : Nat} (x : DrW hB o k a b) (hk : k ≤ k') : DrW hB o k' a b := ⟨x.add, x.nx, x.sm, x.cur.mono hk⟩
theorem DrW.of_adds {hB a b : Hp} {o k : Nat} (hA : Adds hB a) (hc : CurS hB.next o k a) (hk : Adds a b) : DrW hB o k a b := ⟨hA.trans hk, hk.1.1, fun p hp _ => hk.1.2 p hp, hc.keep hk.1⟩
theorem CurW.dr {hB a b : Hp} {o k k' : Nat} (hA : Adds hB a) (hc : CurS hB.next o k a) (x : CurW hB.next o k' a b) : DrW hB o k' a b :=
  ⟨hA.wr x.wr (fun p hp => by have := hc.bo.1; omega), by rw [x.nx]; exact Nat.le_refl _, fun p hp hne => x.get p hp hne, x.cur⟩
theorem DrW.app {hB a b c : Hp} {o k : Nat} (x : DrW hB o k a b) (hA : Adds hB a) (ho : o < a.next) (k3 : Adds hB c) (n3 : b.next ≤ c.next) (s3 : ∀ p, p < b.next → p < a.next → c.get p = b.get p) : DrW hB o k a c := by
  refine ⟨k3, Nat.le_trans x.nx n3, fun p hp hne => by rw [s3 p (Nat.lt_of_lt_of_le hp x.nx) hp]; exact x.sm p hp hne, ?_⟩
  exact x.cur.same ⟨n3, fun p hp hl => s3 p hl (by have := hA.1.1; omega)⟩
theorem lit_ints {F : Nat → Prop} {h : Hp} {p : Nat} {xs : List Int} {own ex : Bool} {es : Nat} (hg : h.get p = .cells (xs.map (.int .i64)) own ex es) (hp : p < h.next) (hF : F p) (hl : xs.length < 2 ^ 63) : IntsF F h (.slice (some ⟨p, 0, none⟩) xs.length xs.length) xs := by
  refine ⟨_, _, rfl, Nat.le_refl _, hl, fun k x hk => ⟨p, 0, _, own, ex, es, rfl, hF, hp, hg, ?_, ?_⟩⟩
  · have := (List.getElem?_eq_some_iff.1 hk).1
    simpa using this
  · obtain ⟨h1, h2⟩ := List.getElem?_eq_some_iff.1 hk
    subst h2
    simp [isInt, List.getD_eq_getElem?_getD, h1]
end Go.Proofs.Ytnnjehonbolliaa
namespace Go.Proofs.Ytnnjehonbolliaa
set_option linter.unusedSimpArgs false
set_option linter.unusedVariables false
open Go Go.Eng
attribute [local irreducible] WD RunD PreD Runs CallOK
def Chips (h : Hp) (v : Value) (L : List (List Int)) (A : List Int) : Prop := ∃ a b, v = .agg #[a, b] ∧ IRows h a L ∧ Ints h b A
theorem Chips.keep {h h' : Hp} (hk : Keeps h h') {v : Value} {L : List (List Int)} {A : List Int} (hv : Chips h v L A) : Chips h' v L A := by
  obtain ⟨a, b, e, h1, h2⟩ := hv
  exact ⟨a, b, e, h1.keep hk, h2.keep hk⟩
def ChipsO (S : Nat → Prop) (h : Hp) (v : Value) (L : List (List Int)) (A : List Int) : Prop :=
  ∃ a b, ∃ S1 S2 : Nat → Prop, v = .agg #[a, b] ∧ IRowsO S1 h a L ∧ IntsO S2 h b A ∧ (∀ x, S1 x → S x) ∧ (∀ x, S2 x → S x) ∧ ∀ x, S1 x → ¬ S2 x
theorem ChipsO.nil (S : Nat → Prop) (h : Hp) : ChipsO S h (.agg #[.slice none 0 0, .slice none 0 0]) [] [] :=
  ⟨_, _, fun _ => False, fun _ => False, rfl, .nil _ _, .nil _ _, fun _ h => h.elim, fun _ h => h.elim, fun _ h => h.elim⟩
def szC (k : Int) (L : List (List Int)) (A : List Int) : Int := if szSS k L < 0 then -1 else szS (szSS k L) A
end Go.Proofs.Ytnnjehonbolliaa
namespace Go.Proofs.Ytnnjehonbolliaa
set_option linter.unusedSimpArgs false
set_option linter.unusedVariables false
set_option maxHeartbeats 4000000
open Go Go.Eng
attribute [local irreducible] WD RunD PreD Runs CallOK
theorem l1MostD_ok (h : Hp) (a b : Int) : CallOK Try.prog 93 #[.int .i64 a, .int .i64 b] h (.int .i64 (if b < a then a else b)) h := by
  refine callY_P 10 _ [.tmp 4] Try.func93 rfl rfl rfl (by first | rfl | simp) ?_
  by_cases c : b < a
  · try simp (disch := first | omega | (simp; done) | fail) [wrap64c, if_pos, if_neg, c]
    exact done_ret rfl (by simp [c])
  · try simp (disch := first | omega | (simp; done) | fail) [wrap64c, if_pos, if_neg, c]
    exact done_ret rfl (by simp [c])
def ChipsF (F : Nat → Prop) (h : Hp) (v : Value) (L : List (List Int)) (A : List Int) : Prop := ∃ a b, v = .agg #[a, b] ∧ IRowsF F h a L ∧ IntsF F h b A
theorem rows_cur {n : Nat} {a b : Hp} {v : Value} {L : List (List Int)} (hs : IRowsA n a v L) (hn : a.next ≤ b.next) (hg : ∀ p, n ≤ p → p < a.next → b.get p = a.get p) : IRowsA n b v L := by
  rcases hs with ⟨x, y⟩ | ⟨o, ex, us, x, y, z, w, u⟩
  · exact .inl ⟨x, y⟩
  · refine .inr ⟨o, ex, us, x, y, Nat.lt_of_lt_of_le z hn, by rw [hg o y z]; exact w, ?_⟩
    obtain ⟨h1, T, h2, h3, h4⟩ := u
    refine ⟨h1, T, fun k x hk => ⟨(h2 k x hk).1, Nat.lt_of_lt_of_le (h2 k x hk).2.1 hn, (h2 k x hk).2.2⟩, h3, fun k hk => (h4 k hk).same ⟨hn, fun x hx hl => hg x (h2 k x hx).1 hl⟩⟩
theorem zeros_o {S : Nat → Prop} {h : Hp} {p n : Nat} {ex : Bool} (hg : h.get p = .cells (List.replicate n (.int .i64 0)) true ex 1) (hS : S p) (hp : p < h.next) (hn : n < 2 ^ 63) : IntsO S h (.slice (some ⟨p, 0, none⟩) n n) (List.replicate n 0) := by
  refine ⟨_, n, by simp, by simp, hn, .inr ⟨p, 0, _, ex, rfl, hS, hp, hg, by simp, fun k hk => ?_⟩⟩
  simp at hk
  simp [hk]
theorem DrW.put {hB a b : Hp} {o k : Nat} (x : DrW hB o k a b) (hA : Adds hB a) (ho : o < a.next) {p : Nat} (hp : a.next ≤ p) (c : List Value) (e : Bool) (n : Nat) : DrW hB o k a (b.put p (.cells c true e n)) := by
  have h1 := hA.1.1
  refine ⟨x.add.put (by omega) (fun _ => rfl), x.nx, fun q hq hne => ?_, x.cur.same ⟨Nat.le_refl _, fun q hq _ => ?_⟩⟩
  · simp only [Hp.put, show q ≠ p by omega, if_false]; exact x.sm q hq hne
  · simp only [Hp.put, show q ≠ p by omega, if_false]
structure CSt (hB h : Hp) (o k oa ol n : Nat) (L : List (List Int)) (A : List Int) (hh : Hp) : Prop where
  d : DrW hB o k h hh
  lo : h.next < oa
  lt : oa + 2 ≤ ol ∧ ol < hh.next
  g : hh.get h.next = .cells [.slice none 0 0, .slice none 0 0] true true 1
  gb : hh.get (oa + 1) = .cells [.slice (some ⟨ol, 0, none⟩) n n, .slice (some ⟨oa, 0, none⟩) n n] true true 1
  hr : IRowsO (fun x => oa + 2 ≤ x) hh (.slice (some ⟨ol, 0, none⟩) n n) L
  ha : IntsO (fun x => x = oa) hh (.slice (some ⟨oa, 0, none⟩) n n) A
  ll : L.length = n
  lr : ∀ x ∈ L, x.length = n
  la : A.length = n
theorem CSt.cur {hB h hh hh' : Hp} {o k k' oa ol n : Nat} {L : List (List Int)} {A : List Int} (c : CSt hB h o k oa ol n L A hh) (ho : o < h.next) (w : CurW hB.next o k' hh hh') : CSt hB h o k' oa ol n L A hh' := by
  have h1 := c.lo
  have h2 := c.lt
  have h3 := w.nx
  exact ⟨c.d.trans (w.dr c.d.add c.d.cur), c.lo, ⟨h2.1, by omega⟩, by rw [w.get _ (by omega) (by omega)]; exact c.g, by rw [w.get _ (by omega) (by omega)]; exact c.gb, c.hr.same (w.same fun p hp => by omega), c.ha.same (w.same fun p hp => by omega), c.ll, c.lr, c.la⟩
theorem CSt.mono {hB h hh : Hp} {o k k' oa ol n : Nat} {L : List (List Int)} {A : List Int} (c : CSt hB h o k oa ol n L A hh) (hk : k ≤ k') : CSt hB h o k' oa ol n L A hh := ⟨c.d.mono hk, c.lo, c.lt, c.g, c.gb, c.hr, c.ha, c.ll, c.lr, c.la⟩
theorem CSt.at {hB h hh : Hp} {o k oa ol n : Nat} {L : List (List Int)} {A : List Int} (c : CSt hB h o k oa ol n L A hh) (hA : Adds hB h) (ho : o < h.next) (hn : 0 < n) : ∃ cs ex, hh.get oa = .cells cs true ex 1 ∧ n ≤ cs.length ∧ (∀ j (hj : j < A.length) (h2 : j < cs.length), cs[j] = .int .i64 A[j]) ∧
    ∀ j, j < n → ∀ x, CSt hB h o k oa ol n L (A.set j x) (hh.put oa (.cells (putCells cs j [.int .i64 x]) true ex 1)) := by
  have hla := c.la
  obtain ⟨o', i', c', cs, ex, q, S, b, g, l, r⟩ := c.ha.open (by omega)
  have e1 : oa = o' := by injection q with q1; injection q1 with q1; injection q1
  have e2 : i' = 0 := by injection q with q1; injection q1 with q1; injection q1 with _ q2; exact q2.symm
  subst e1; subst e2
  refine ⟨cs, ex, g, by omega, fun j hj h2 => by have := r j hj (by omega); simpa using this, fun j hj x => ?_⟩
  have hw := c.ha.write (k := j) q (by omega) g x
  rw [Nat.zero_add] at hw
  have h1 := c.lo
  have h2 := c.lt
  exact ⟨c.d.put hA ho (by omega) _ _ _, c.lo, c.lt, by simp [show h.next ≠ oa by omega, c.g], by simp [c.gb], c.hr.same (h := hh) (h' := hh.put oa _) ⟨Nat.le_refl _, fun p hp _ => by simp [show p ≠ oa by omega]⟩, hw, c.ll, c.lr, by simp [hla]⟩
theorem CSt.row {hB h hh : Hp} {o k oa ol n : Nat} {L : List (List Int)} {A : List Int} (c : CSt hB h o k oa ol n L A hh) (hA : Adds hB h) (ho : o < h.next) {i : Nat} (hi : i < n) (hiL : i < L.length) : ∃ cs ex p q c' cs' ex', hh.get ol = .cells cs true ex 1 ∧ i < cs.length ∧ (∀ h2 : i < cs.length, cs[i] = .slice (some ⟨p, q, none⟩) n c') ∧
    hh.get p = .cells cs' true ex' 1 ∧ q + n ≤ cs'.length ∧ (∀ j (hj : j < L[i].length) (h2 : q + j < cs'.length), cs'[q + j] = .int .i64 L[i][j]) ∧ oa + 2 ≤ p ∧ p < hh.next ∧ p ≠ ol ∧ (∀ i2, i2 < L.length → i2 ≠ i → ∀ p2 q2 c2, (∀ h2 : i2 < cs.length, cs[i2] = .slice (some ⟨p2, q2, none⟩) n c2) → p2 ≠ p) ∧
    ∀ j, j < n → ∀ x, CSt hB h o k oa ol n (L.set i (L[i].set j x)) A (hh.put p (.cells (putCells cs' (q + j) [.int .i64 x]) true ex' 1)) := by
  have hll := c.ll
  have hlr := c.lr _ (List.getElem_mem hiL)
  obtain ⟨o', i', c0, cs, ex, us, T, q0, S, b, g, l, r, t, d, R⟩ := c.hr.open (by omega)
  have e1 : ol = o' := by injection q0 with q1; injection q1 with q1; injection q1
  have e2 : i' = 0 := by injection q0 with q1; injection q1 with q1; injection q1 with _ q2; exact q2.symm
  subst e1; subst e2
  have hs := getForm r i hiL (by omega)
  obtain ⟨p, q, c', cs', ex', q5, S5, b5, g5, l5, r5⟩ := (R i hiL).open (by omega)
  have ht := t i p S5
  have hlo := c.lo
  have hlt := c.lt
  refine ⟨cs, ex, p, q, c', cs', ex', g, by omega, fun h2 => ?_, g5, by omega, r5, ht.1, b5, ht.2, fun i2 hi2 hne p2 q2 c2 h2 e => ?_, fun j hj x => ?_⟩
  · rw [← hlr, ← q5, ← hs]; simp
  · obtain ⟨p', q', c'', _, _, q6, S6, _⟩ := (R i2 hi2).open (by have := c.lr _ (List.getElem_mem hi2); omega)
    have h3 := getForm r i2 hi2 (by omega)
    have h4 := h2 (by omega)
    simp only [Nat.zero_add] at h3
    rw [h3, q6] at h4
    injection h4 with h5
    injection h5 with h5
    injection h5 with h5
    exact hne (d i2 i p (by rw [← e, ← h5]; exact S6) S5)
  · have hw := (R i hiL).write (k := j) q5 (by omega) g5 x
    have hup : Upd (T i) hh (hh.put p (.cells (putCells cs' (q + j) [.int .i64 x]) true ex' 1)) := (Upd.refl _ _).put S5 _
    have hrow := c.hr.row q0 S b g l r t d R hiL hup hw
    have h1 := ht.1
    exact ⟨c.d.put hA ho (by omega) _ _ _, c.lo, c.lt, by simp [show h.next ≠ p by omega, c.g], by simp [show oa + 1 ≠ p by omega, c.gb], hrow, c.ha.same (h := hh) (h' := hh.put p _) ⟨Nat.le_refl _, fun x hx _ => by simp [show x ≠ p by omega]⟩, by simp [hll], fun x hx => by
      rcases List.mem_or_eq_of_mem_set hx with h | h
      · exact c.lr x h
      · rw [h]; simp [hlr], c.la⟩
theorem CSt.small {hB h hh : Hp} {o k oa ol n : Nat} {L : List (List Int)} {A : List Int} (c : CSt hB h o k oa ol n L A hh) (hn : n ≤ 4) : L.length ≤ 5 ∧ (∀ x ∈ L, x.length ≤ 4) ∧ A.length ≤ 4 :=
  ⟨by have := c.ll; omega, fun x hx => by have := c.lr x hx; omega, by have := c.la; omega⟩
theorem fin_ok {hB h hh : Hp} {o K k' : Nat} {a b : Value} {L : List (List Int)} {A : List Int} (hA : Adds hB h) (ho : o < h.next) (d : DrW hB o K h hh) (hr : IRowsF (fun x => h.next < x) hh a L) (ha : IntsF (fun x => h.next < x) hh b A) (hK : K ≤ k') (hl : L.length ≤ 5 ∧ (∀ x ∈ L, x.length ≤ 4) ∧ A.length ≤ 4) (cs : List Value) (e : Bool) (n : Nat) :
    DrW hB o k' h (hh.put h.next (.cells cs true e n)) ∧ ∃ L A, ChipsF (fun x => h.next ≤ x) (hh.put h.next (.cells cs true e n)) (.agg #[a, b]) L A ∧ L.length ≤ 5 ∧ (∀ x ∈ L, x.length ≤ 4) ∧ A.length ≤ 4 := by
  have hs : Same (fun x => h.next < x) hh (hh.put h.next (.cells cs true e n)) := ⟨Nat.le_refl _, fun x hx _ => by simp [show x ≠ h.next by omega]⟩
  exact ⟨(d.put hA ho (Nat.le_refl _) _ _ _).mono hK, L, A, ⟨a, b, rfl, (hr.same hs).sub fun x hx => Nat.le_of_lt hx, (ha.same hs).sub fun x hx => Nat.le_of_lt hx⟩, hl⟩
theorem app_nil {hB h hh : Hp} {o k oa ol n : Nat} {L : List (List Int)} {A : List Int} (c : CSt hB h o k oa ol n L A hh) (hA : Adds hB h) (ho : o < h.next) (hn : 0 < n ∧ n ≤ 4) :
    ∃ v' h', appendD Try.prog 24 24 (.slice (some ⟨ol, 0, none⟩) n n) (.slice (some ⟨hh.next, 0, none⟩) 1 1) (hh.alloc (.cells [.slice none 0 0] true true 1)) = some (v', h') ∧ notTup v' = true ∧ v'.cells = #[v'] ∧ DrW hB o k h h' ∧
      h'.get h.next = .cells [.slice none 0 0, .slice none 0 0] true true 1 ∧ h'.get (oa + 1) = .cells [.slice (some ⟨ol, 0, none⟩) n n, .slice (some ⟨oa, 0, none⟩) n n] true true 1 ∧ IRowsF (fun x => h.next < x ∧ x ≠ oa + 1) h' v' (L ++ [[]]) ∧ IntsF (fun x => h.next < x ∧ x ≠ oa + 1) h' (.slice (some ⟨oa, 0, none⟩) n n) A := by
  have hll := c.ll
  have hlt := c.lt
  have hlo := c.lo
  obtain ⟨o', i', c0, cs, ex, us, T, q0, S, b, g, l, r, t, d, R⟩ := c.hr.open (by omega)
  have e1 : ol = o' := by injection q0 with q1; injection q1 with q1; injection q1
  have e2 : i' = 0 := by injection q0 with q1; injection q1 with q1; injection q1 with _ q2; exact q2.symm
  subst e1; subst e2
  have hg : (hh.alloc (.cells [.slice none 0 0] true true 1)).get ol = .cells cs true ex 1 := by simp [show ol ≠ hh.next by omega, g]
  have hsrc : srcV (hh.alloc (.cells [.slice none 0 0] true true 1)) 1 (.slice (some ⟨hh.next, 0, none⟩) 1 1) = some (1, [.slice none 0 0]) := by
    simp [srcV]
  have hap : appendD Try.prog 24 24 (.slice (some ⟨ol, 0, none⟩) n n) (.slice (some ⟨hh.next, 0, none⟩) 1 1) (hh.alloc (.cells [.slice none 0 0] true true 1)) =
      some (.slice (some ⟨hh.next + 1, 0, none⟩) (n + 1) (n + 1), growHp (hh.alloc (.cells [.slice none 0 0] true true 1)) ol ex (.cells (cs.take n ++ [.slice none 0 0]) true false 1)) := by
    unfold appendD
    simp only [ty_elT_24, ty_szT_25, ty_zeroT_25, ty_byT_25, hsrc, hg]
    simp
    refine ⟨by omega, ?_⟩
    rw [if_neg (by omega), if_pos (by omega)]
  refine ⟨_, _, hap, rfl, rfl, ?_⟩
  generalize hG : growHp (hh.alloc (.cells [.slice none 0 0] true true 1)) ol ex (.cells (cs.take n ++ [.slice none 0 0]) true false 1) = G
  have gn : G.next = hh.next + 2 := by subst hG; unfold growHp; split <;> rfl
  have gget : ∀ p, p < hh.next → p ≠ ol → G.get p = hh.get p := by
    intro p h1 h2
    subst hG
    unfold growHp
    split <;> simp [Hp.alloc, Hp.put, show p ≠ hh.next by omega, show p ≠ hh.next + 1 by omega, h2]
  have gnew : G.get (hh.next + 1) = .cells (cs.take n ++ [.slice none 0 0]) true false 1 := by
    subst hG
    unfold growHp
    split <;> simp [Hp.alloc, Hp.put]
  have hB1 := hA.1.1
  have hAd : Adds hB G := by
    subst hG
    exact (c.d.add.trans (Adds.alloc hh (fun _ => rfl))).grow (by omega) (fun _ => rfl)
  have hlc : (cs.take n).length = n := by simp; omega
  refine ⟨⟨hAd, by have := c.d.nx; omega, fun p hp hne => ?_, c.d.cur.same ⟨by omega, fun x hx hl => gget x hl (by omega)⟩⟩, ?_, ?_, ?_, ?_⟩
  · have := c.d.nx
    rw [gget p (by omega) (by omega)]
    exact c.d.sm p hp hne
  · rw [gget _ (by omega) (by omega)]; exact c.g
  · rw [gget _ (by omega) (by omega)]; exact c.gb
  · refine ⟨_, n + 1, by simp [hll], by simp [hll], by omega, fun j x hx => ⟨hh.next + 1, 0, _, true, false, 1, rfl, ⟨by omega, by omega⟩, by omega, gnew, ?_, ?_⟩⟩
    · have := (List.getElem?_eq_some_iff.1 hx).1
      simp at this
      simp [hlc]; omega
    · obtain ⟨h1, h2⟩ := List.getElem?_eq_some_iff.1 hx
      simp at h1
      by_cases e : j < L.length
      · have h3 : (L ++ [[]])[j] = L[j] := List.getElem_append_left e
        rw [← h2, h3]
        have h4 : (cs.take n ++ [Value.slice none 0 0]).getD (0 + j) undef = us j := by
          rw [← r j e, List.getD_eq_getElem?_getD, List.getElem?_append_left (by omega), List.getElem?_take_of_lt (by omega)]
        rw [h4]
        exact ((R j e).read.same (h' := G) ⟨by omega, fun x hx hl => gget x hl (t j x hx).2⟩).sub fun x hx => ⟨by have := (t j x hx).1; omega, by have := (t j x hx).1; omega⟩
      · have e2 : j = n := by omega
        subst e2
        have h3 : (L ++ [[]])[j] = [] := by simp [← hll]
        rw [← h2, h3]
        have h4 : (cs.take j ++ [Value.slice none 0 0]).getD (0 + j) undef = .slice none 0 0 := by
          rw [List.getD_eq_getElem?_getD, List.getElem?_append_right (by omega), hlc]; simp
        rw [h4]
        exact ⟨none, 0, rfl, Nat.le_refl _, by decide, fun k x hx => by simp at hx⟩
  · exact (c.ha.read.same (h' := G) ⟨by omega, fun x hx hl => gget x hl (by omega)⟩).sub fun x hx => ⟨by omega, by omega⟩
theorem chips_ok (hB h : Hp) (o k : Nat) (hA : Adds hB h) (hc : CurS hB.next o k h) (hk : k + 1000 < 2 ^ 40) : ∃ v h', CallOK Try.prog 42 #[.pointer (some ⟨o, 0, none⟩)] h v h' ∧ DrW hB o (k + 1000) h h' ∧ ∃ L A, ChipsF (fun x => h.next ≤ x) h' v L A ∧ L.length ≤ 5 ∧ (∀ x ∈ L, x.length ≤ 4) ∧ A.length ≤ 4 := by
  refine callY_L (args := [.pointer (some ⟨o, 0, none⟩)]) 119 _ [.cell 2 27] Try.func42 rfl rfl rfl ?_
  try simp (disch := first | omega | (simp; done) | fail) [wrap64c, if_pos, if_neg]
  first | refine WY_heap fun h0 q_h0 => ?_ | refine callG_heap fun h0 q_h0 => ?_ | refine callP_heap fun h0 q_h0 => ?_ | refine callS_heap fun h0 q_h0 => ?_ | refine RY_heap fun h0 q_h0 => ?_ | refine PY_heap fun h0 q_h0 => ?_ | refine SY_heap fun h0 q_h0 => ?_ | refine doneY_heap fun h0 q_h0 => ?_ | refine loopK_heap fun h0 q_h0 => ?_ | refine thenY_heap fun h0 q_h0 => ?_ | refine thenM_heap fun h0 q_h0 => ?_
  have k0 : Adds h h0 := by rw [q_h0]; exact (by first | exact aK | exact kK)
  have n0 : h0.next = h.next + 1 := by simp [q_h0]
  have g0 : h0.get h.next = .cells [.slice none 0 0, .slice none 0 0] true true 1 := by simp [q_h0]
  have d0 := DrW.of_adds hA hc k0
  obtain ⟨v1, h1, c1, r1, q1, l1, w1⟩ := pick_ok hB.next o k h0 4 d0.cur (by omega)
  subst q1
  have d1 := d0.trans (w1.dr d0.add d0.cur)
  have hr1 := l1 (by omega)
  have g1 : h1.get h.next = .cells [.slice none 0 0, .slice none 0 0] true true 1 := by rw [w1.get _ (by omega) (by have := hc.bo; omega)]; exact g0
  obtain ⟨n, hn⟩ : ∃ n : Nat, n = 1 + r1 := ⟨_, rfl⟩
  have hn' : (1 + (r1 : Int)) = (n : Int) := by omega
  have hn4 : 1 ≤ n ∧ n ≤ 4 := by omega
  have hn0 : (n : Int) < 140737488355328 := by omega
  have hp2 : ∀ a b c d : Value, putCells [a, b] 0 [c, d] = [c, d] := fun _ _ _ _ => rfl
  refine callG_c (by simp) (by simp) ?ha (c1) ?_
  (case ha => simp (disch := first | omega | (simp; done) | fail) [wrap64c, if_pos, if_neg, hn', hn0, hp2])
  try simp (disch := first | omega | (simp; done) | fail) [wrap64c, if_pos, if_neg, hn', hn0, hp2]
  first | refine WY_heap fun h2 q_h2 => ?_ | refine callG_heap fun h2 q_h2 => ?_ | refine callP_heap fun h2 q_h2 => ?_ | refine callS_heap fun h2 q_h2 => ?_ | refine RY_heap fun h2 q_h2 => ?_ | refine PY_heap fun h2 q_h2 => ?_ | refine SY_heap fun h2 q_h2 => ?_ | refine doneY_heap fun h2 q_h2 => ?_ | refine loopK_heap fun h2 q_h2 => ?_ | refine thenY_heap fun h2 q_h2 => ?_ | refine thenM_heap fun h2 q_h2 => ?_
  have k2 : Adds h1 h2 := by rw [q_h2]; exact (by first | exact aK | exact kK)
  have d2 := d1.trans (DrW.of_adds d1.add d1.cur k2)
  have n2 : h2.next = h1.next + 2 := by simp [q_h2]
  have ga : h2.get h1.next = .cells (List.replicate n (.int .i64 0)) true true 1 := by simp [q_h2]
  have gb : h2.get (h1.next + 1) = .cells [.slice none 0 0, .slice (some ⟨h1.next, 0, none⟩) n n] true true 1 := by simp [q_h2]
  have nx1 : h.next < h1.next := by have := w1.nx; omega
  have hp1 : ∀ a b c : Value, putCells [a, b] 0 [c] = [c, b] := fun _ _ _ => rfl
  refine WD_loopC [0, 2, 3, 4] (fun m tm h' => ∃ v L j, m = n - j ∧ tm 5 = .int .i64 (j : Int) ∧ (IRowsA h2.next h' v L) ∧ (DrW hB o (k + 2) h h') ∧ (h'.get h1.next = .cells (List.replicate n (.int .i64 0)) true true 1) ∧ (h'.get (h1.next + 1) = .cells [v, .slice (some ⟨h1.next, 0, none⟩) n n] true true 1) ∧ (h'.get h.next = .cells [.slice none 0 0, .slice none 0 0] true true 1) ∧ (h2.next ≤ h'.next) ∧ (j ≤ n) ∧ (L.length = j) ∧ (∀ x ∈ L, x.length = n)) _ ⟨Value.slice none 0 0, [], 0, rfl, (by simp (disch := first | omega | (simp; done) | fail) [wrap64c, if_pos, if_neg, hn', hn0, hp2, hp1]), (.nil _ _), d2, ga, gb, (by rw [k2.1.2 _ nx1]; exact g1), (by first | omega | assumption | (simp (disch := first | omega | (simp; done) | fail) [wrap64c, if_pos, if_neg, hn', hn0, hp2, hp1] <;> omega)), (by first | omega | assumption | (simp (disch := first | omega | (simp; done) | fail) [wrap64c, if_pos, if_neg, hn', hn0, hp2, hp1] <;> omega)), rfl, (by simp)⟩ ?_
  rintro m tm h' hFr ⟨v, L, j, rfl, e5, hi, hd, ha, hb, hg, hx, hj, hl, hr⟩
  simp only [FrameL] at hFr
  obtain ⟨f0_0, f2_0, f3_0, f4_0, -⟩ := hFr
  try simp (disch := first | omega | (simp; done) | fail) [wrap64c, if_pos, if_neg, hn', hn0, hp2, hp1] at f0_0 f2_0 f3_0 f4_0
  have e0 := f0_0
  have e2 := f2_0
  have e3 := f3_0
  have e4 := f4_0
  have ntv := hi.nt
  have hb' := hb
  by_cases hjn : j < n
  · have hjn' : (j : Int) < (n : Int) := by omega
    try simp (disch := first | omega | (simp; done) | fail) [wrap64c, if_pos, if_neg, hn', hn0, hp2, hp1, e0, e2, e3, e4, e5, ntv, hb', hjn']
    refine WD_drawC 5 rfl (by kernel_rfl) ?_
    have ho1 : IntsO (Btw h'.next (h'.alloc (.cells (List.replicate n (.int .i64 0)) true true 1)).next) (h'.alloc (.cells (List.replicate n (.int .i64 0)) true true 1)) (.slice (some ⟨h'.next, 0, none⟩) n n) (List.replicate n 0) := zeros_o (ex := true) (by simp) (by simp [Btw]) (by simp) (by omega)
    obtain ⟨v3, h3, hap, hi3, k3, n3, s3⟩ := appR (h0 := hB) hi (Keeps.alloc h' _) ho1 (by omega) hx (hd.add.trans (Adds.alloc h' (fun _ => rfl))) (by have := d2.add.1.1; omega)
    rw [show (h'.alloc (.cells (List.replicate n (.int .i64 0)) true true 1)).next = h'.next + 1 from rfl] at hap
    have n3' : h'.next + 1 < h3.next := n3
    have s3' : ∀ p, p < h'.next → p < h2.next → h3.get p = h'.get p := fun p h1 h2 => by rw [s3 p (show p < h'.next + 1 by omega) h2]; simp [Hp.alloc, show p ≠ h'.next by omega]
    have hb3 := (s3' (h1.next + 1) (by omega) (by omega)).trans hb
    have ntv3 := hi3.nt
    have csv3 := (hi3.own (by simp; omega)).cs
    try simp (disch := first | omega | (simp; done) | fail) [wrap64c, if_pos, if_neg, hn', hn0, hp2, hp1, e0, e2, e3, e4, e5, ntv, hb', hjn', hb3, ntv3, csv3, hap]
    first | refine WY_heap fun h4 q_h4 => ?_ | refine callG_heap fun h4 q_h4 => ?_ | refine callP_heap fun h4 q_h4 => ?_ | refine callS_heap fun h4 q_h4 => ?_ | refine RY_heap fun h4 q_h4 => ?_ | refine PY_heap fun h4 q_h4 => ?_ | refine SY_heap fun h4 q_h4 => ?_ | refine doneY_heap fun h4 q_h4 => ?_ | refine loopK_heap fun h4 q_h4 => ?_ | refine thenY_heap fun h4 q_h4 => ?_ | refine thenM_heap fun h4 q_h4 => ?_
    have g4 : ∀ p, p ≠ h1.next + 1 → h4.get p = h3.get p := fun p hp => by simp [q_h4, hp]
    have n4 : h4.next = h3.next := by simp [q_h4]
    refine loopK_next _ ?hm ?hf ⟨v3, L ++ [List.replicate n 0], j + 1, rfl, (by simp (disch := first | omega | (simp; done) | fail) [wrap64c, if_pos, if_neg, hn', hn0, hp2, hp1, e0, e2, e3, e4, e5, ntv, hb', hjn', hb3, ntv3, csv3] <;> omega), (rows_cur hi3 (by omega) (fun p h1 h2 => g4 p (by omega))), (by rw [q_h4]; exact ((hd.app hA hc.bo.2 k3 (by omega) (fun p h1 h2 => s3' p h1 (by omega))).put hA hc.bo.2 (by omega) _ _ _)), (by rw [g4 _ (by omega), s3' _ (by omega) (by omega)]; exact ha), (by simp [q_h4]), (by rw [g4 _ (by omega), s3' _ (by omega) (by omega)]; exact hg), (by omega), (by first | omega | assumption | (simp (disch := first | omega | (simp; done) | fail) [wrap64c, if_pos, if_neg, hn', hn0, hp2, hp1, e0, e2, e3, e4, e5, ntv, hb', hjn', hb3, ntv3, csv3] <;> omega)), (by simp [hl]), ?c_hr⟩
    (case hm => first | omega | (simp; omega))
    (case hf => simp [FrameL, hn', hn0, hp2, hp1, e0, e2, e3, e4, e5, ntv, hb', hjn', hb3, ntv3, csv3, f0_0, f2_0, f3_0, f4_0])
    case c_hr =>
      exact (fun x hx => by
        rcases List.mem_append.1 hx with h | h
        · exact hr x h
        · simp at h; simp [h])
  · have hjn' : ¬ (j : Int) < (n : Int) := by omega
    have hjn2 : j = n := by omega
    have hown := hi.own (by omega)
    obtain ⟨ol, hv, hol⟩ : ∃ ol, v = .slice (some ⟨ol, 0, none⟩) n n ∧ h2.next ≤ ol ∧ ol < h'.next := by
      rcases hi with ⟨x, y⟩ | ⟨ol, ex, us, x, y, z, w, u⟩
      · subst x; simp at hl; omega
      · exact ⟨ol, by rw [x, hl, hjn2], y, z⟩
    have hst : CSt hB h o (k + 2) h1.next ol n L (List.replicate n 0) h' := ⟨hd, nx1, ⟨by omega, by omega⟩, hg, by rw [← hv]; exact hb, by rw [← hv]; exact hown.sub (fun x hx => by have := hx.1; omega), zeros_o (ex := true) ha rfl (by omega) (by omega), by omega, hr, by simp⟩
    try simp (disch := first | omega | (simp; done) | fail) [wrap64c, if_pos, if_neg, hn', hn0, hp2, hp1, e0, e2, e3, e4, e5, ntv, hb', hjn']
    refine WD_loopC [0, 2, 3, 4] (fun m tm h' => ∃ i ln K L1, m = n - i ∧ tm 6 = .int .i64 ((ln : Nat) : Int) ∧ tm 7 = .int .i64 (i : Int) ∧ (CSt hB h o K h1.next ol n L1 (List.replicate n 0) h') ∧ (i ≤ n) ∧ (K ≤ k + 2 + 16 * i) ∧ (ln ≤ 8 * i)) _ ⟨0, 0, k + 2, L, rfl, (by simp (disch := first | omega | (simp; done) | fail) [wrap64c, if_pos, if_neg, hn', hn0, hp2, hp1, e0, e2, e3, e4, e5, ntv, hb', hjn']), (by simp (disch := first | omega | (simp; done) | fail) [wrap64c, if_pos, if_neg, hn', hn0, hp2, hp1, e0, e2, e3, e4, e5, ntv, hb', hjn']), hst, (by first | omega | assumption | (simp (disch := first | omega | (simp; done) | fail) [wrap64c, if_pos, if_neg, hn', hn0, hp2, hp1, e0, e2, e3, e4, e5, ntv, hb', hjn'] <;> omega)), (by first | omega | assumption | (simp (disch := first | omega | (simp; done) | fail) [wrap64c, if_pos, if_neg, hn', hn0, hp2, hp1, e0, e2, e3, e4, e5, ntv, hb', hjn'] <;> omega)), (by first | omega | assumption | (simp (disch := first | omega | (simp; done) | fail) [wrap64c, if_pos, if_neg, hn', hn0, hp2, hp1, e0, e2, e3, e4, e5, ntv, hb', hjn'] <;> omega))⟩ ?_
    rintro m tm h' hFr ⟨i, ln, K, L1, rfl, e6, e7, hs, hi, hK, hln⟩
    simp only [FrameL] at hFr
    obtain ⟨f0_1, f2_1, f3_1, f4_1, -⟩ := hFr
    try simp (disch := first | omega | (simp; done) | fail) [wrap64c, if_pos, if_neg, hn', hn0, hp2, hp1, e0, e2, e3, e4, e5, ntv, hb', hjn'] at f0_1 f2_1 f3_1 f4_1
    have e0 := f0_1
    have e2 := f2_1
    have e3 := f3_1
    have e4 := f4_1
    by_cases hin : i < n
    · have hin' : (i : Int) < (n : Int) := by omega
      try simp (disch := first | omega | (simp; done) | fail) [wrap64c, if_pos, if_neg, hn', hn0, hp2, hp1, e0, e2, e3, e4, e5, ntv, hb', hjn', e6, e7, hin']
      refine WD_loopC [0, 2, 3, 4, 7] (fun m tm h' => ∃ j ln1 K1 L2, m = i - j ∧ tm 6 = .int .i64 ((ln1 : Nat) : Int) ∧ tm 8 = .int .i64 (j : Int) ∧ (CSt hB h o K1 h1.next ol n L2 (List.replicate n 0) h') ∧ (j ≤ i) ∧ (K1 ≤ K + 4 * j) ∧ (ln1 ≤ ln + 2 * j)) _ ⟨0, ln, K, L1, rfl, (by simp (disch := first | omega | (simp; done) | fail) [wrap64c, if_pos, if_neg, hn', hn0, hp2, hp1, e0, e2, e3, e4, e5, ntv, hb', hjn', e6, e7, hin']), (by simp (disch := first | omega | (simp; done) | fail) [wrap64c, if_pos, if_neg, hn', hn0, hp2, hp1, e0, e2, e3, e4, e5, ntv, hb', hjn', e6, e7, hin']), hs, (by first | omega | assumption | (simp (disch := first | omega | (simp; done) | fail) [wrap64c, if_pos, if_neg, hn', hn0, hp2, hp1, e0, e2, e3, e4, e5, ntv, hb', hjn', e6, e7, hin'] <;> omega)), (by first | omega | assumption | (simp (disch := first | omega | (simp; done) | fail) [wrap64c, if_pos, if_neg, hn', hn0, hp2, hp1, e0, e2, e3, e4, e5, ntv, hb', hjn', e6, e7, hin'] <;> omega)), (by first | omega | assumption | (simp (disch := first | omega | (simp; done) | fail) [wrap64c, if_pos, if_neg, hn', hn0, hp2, hp1, e0, e2, e3, e4, e5, ntv, hb', hjn', e6, e7, hin'] <;> omega))⟩ ?_
      rintro m tm h' hFr ⟨j, ln1, K1, L2, rfl, e6, e8, hs1, hj, hK1, hln1⟩
      simp only [FrameL] at hFr
      obtain ⟨f0_2, f2_2, f3_2, f4_2, f7_2, -⟩ := hFr
      try simp (disch := first | omega | (simp; done) | fail) [wrap64c, if_pos, if_neg, hn', hn0, hp2, hp1, e0, e2, e3, e4, e5, ntv, hb', hjn', e6, e7, hin'] at f0_2 f2_2 f3_2 f4_2 f7_2
      have e0 := f0_2
      have e2 := f2_2
      have e3 := f3_2
      have e4 := f4_2
      have e7 := f7_2
      by_cases hji : j < i
      · have hji' : (j : Int) < (i : Int) := by omega
        try simp (disch := first | omega | (simp; done) | fail) [wrap64c, if_pos, if_neg, hn', hn0, hp2, hp1, e0, e2, e3, e4, e5, ntv, hb', hjn', e6, e7, hin', e8, hji']
        obtain ⟨v4, h4, c4, b4, q4, w4⟩ := one_ok hB.next o K1 h' 2 hs1.d.cur (by omega)
        subst q4
        have s4 := hs1.cur hc.bo.2 w4
        refine callG_c (by simp) (by simp) ?ha (c4) ?_
        (case ha => simp (disch := first | omega | (simp; done) | fail) [wrap64c, if_pos, if_neg, hn', hn0, hp2, hp1, e0, e2, e3, e4, e5, ntv, hb', hjn', e6, e7, hin', e8, hji'])
        cases b4
        · try simp (disch := first | omega | (simp; done) | fail) [wrap64c, if_pos, if_neg, hn', hn0, hp2, hp1, e0, e2, e3, e4, e5, ntv, hb', hjn', e6, e7, hin', e8, hji']
          refine loopK_next _ ?hm ?hf ⟨j + 1, ln1, K1 + 2, L2, rfl, (by simp (disch := first | omega | (simp; done) | fail) [wrap64c, if_pos, if_neg, hn', hn0, hp2, hp1, e0, e2, e3, e4, e5, ntv, hb', hjn', e6, e7, hin', e8, hji'] <;> omega), (by simp (disch := first | omega | (simp; done) | fail) [wrap64c, if_pos, if_neg, hn', hn0, hp2, hp1, e0, e2, e3, e4, e5, ntv, hb', hjn', e6, e7, hin', e8, hji'] <;> omega), s4, (by first | omega | assumption | (simp (disch := first | omega | (simp; done) | fail) [wrap64c, if_pos, if_neg, hn', hn0, hp2, hp1, e0, e2, e3, e4, e5, ntv, hb', hjn', e6, e7, hin', e8, hji'] <;> omega)), (by omega), (by omega)⟩
          (case hm => first | omega | (simp; omega))
          (case hf => simp [FrameL, hn', hn0, hp2, hp1, e0, e2, e3, e4, e5, ntv, hb', hjn', e6, e7, hin', e8, hji', f0_2, f2_2, f3_2, f4_2, f7_2])
        · obtain ⟨v5, h5, c5, r5, q5, l5, w5⟩ := pick_ok hB.next o (K1 + 2) h4 6 s4.d.cur (by omega)
          subst q5
          have s5 := s4.cur hc.bo.2 w5
          have hr5 := l5 (by omega)
          obtain ⟨d, hd5, hd1⟩ : ∃ d : Nat, Int.tdiv (r5 : Int) 5 = (d : Int) ∧ d ≤ 1 := ⟨r5 / 5, by rw [Int.tdiv_eq_ediv_of_nonneg (by omega)]; simp, by omega⟩
          have hll := s5.ll
          obtain ⟨cs5, ex5, p5, z5, y5, cr5, er5, g5, li5, u5, gp5, lz5, rr5, lo5, lp5, ne5, df5, wr5⟩ := s5.row hA hc.bo.2 hin (by omega)
          have gb5 := s5.gb
          have s6 := wr5 j (by omega) (1 + (d : Int))
          obtain ⟨cs6, ex6, p6, z6, y6, cr6, er6, g6, li6, u6, gp6, lz6, rr6, lo6, lp6, ne6, _, wr6⟩ := s6.row hA hc.bo.2 (show j < n by omega) (by have := s6.ll; omega)
          have ecs : cs6 = cs5 := by simp [ne5.symm, g5] at g6; exact g6.1.symm
          subst ecs
          have hpp : p6 ≠ p5 := df5 j (by omega) (by omega) p6 z6 y6 u6
          have gp6' : h5.get p6 = .cells cr6 true er6 1 := by simpa [hpp] using gp6
          try simp (disch := first | omega | (simp; done) | fail) [wrap64c, if_pos, if_neg, hn', hn0, hp2, hp1, e0, e2, e3, e4, e5, ntv, hb', hjn', e6, e7, hin', e8, hji', hd5, gb5, g5, li5, u5, gp5, lz5, hpp, li6, u6, lz6, gp6']
          refine callG_c (by simp) (by simp) ?ha (c5) ?_
          (case ha => simp (disch := first | omega | (simp; done) | fail) [wrap64c, if_pos, if_neg, hn', hn0, hp2, hp1, e0, e2, e3, e4, e5, ntv, hb', hjn', e6, e7, hin', e8, hji', hd5, gb5, g5, li5, u5, gp5, lz5, hpp, li6, u6, lz6, gp6'])
          try simp (disch := first | omega | (simp; done) | fail) [wrap64c, if_pos, if_neg, hn', hn0, hp2, hp1, e0, e2, e3, e4, e5, ntv, hb', hjn', e6, e7, hin', e8, hji', hd5, gb5, g5, li5, u5, gp5, lz5, hpp, li6, u6, lz6, gp6']
          refine loopK_next _ ?hm ?hf ⟨j + 1, ln1 + (1 + d), K1 + 4, (L2.set i (L2[i].set j (1 + (d : Int)))).set j (((L2.set i (L2[i].set j (1 + (d : Int))))[j]'(by have := s6.ll; omega)).set i (1 + (d : Int))), rfl, (by simp (disch := first | omega | (simp; done) | fail) [wrap64c, if_pos, if_neg, hn', hn0, hp2, hp1, e0, e2, e3, e4, e5, ntv, hb', hjn', e6, e7, hin', e8, hji', hd5, gb5, g5, li5, u5, gp5, lz5, hpp, li6, u6, lz6, gp6'] <;> omega), (by simp (disch := first | omega | (simp; done) | fail) [wrap64c, if_pos, if_neg, hn', hn0, hp2, hp1, e0, e2, e3, e4, e5, ntv, hb', hjn', e6, e7, hin', e8, hji', hd5, gb5, g5, li5, u5, gp5, lz5, hpp, li6, u6, lz6, gp6'] <;> omega), ((wr6 i hin (1 + (d : Int))).mono (by omega)), (by first | omega | assumption | (simp (disch := first | omega | (simp; done) | fail) [wrap64c, if_pos, if_neg, hn', hn0, hp2, hp1, e0, e2, e3, e4, e5, ntv, hb', hjn', e6, e7, hin', e8, hji', hd5, gb5, g5, li5, u5, gp5, lz5, hpp, li6, u6, lz6, gp6'] <;> omega)), (by omega), (by omega)⟩
          (case hm => first | omega | (simp; omega))
          (case hf => simp [FrameL, hn', hn0, hp2, hp1, e0, e2, e3, e4, e5, ntv, hb', hjn', e6, e7, hin', e8, hji', hd5, gb5, g5, li5, u5, gp5, lz5, hpp, li6, u6, lz6, gp6', f0_2, f2_2, f3_2, f4_2, f7_2])
      · have hji' : ¬ (j : Int) < (i : Int) := by omega
        try simp (disch := first | omega | (simp; done) | fail) [wrap64c, if_pos, if_neg, hn', hn0, hp2, hp1, e0, e2, e3, e4, e5, ntv, hb', hjn', e6, e7, hin', e8, hji']
        refine loopK_next _ ?hm ?hf ⟨i + 1, ln1, K1, L2, rfl, (by simp (disch := first | omega | (simp; done) | fail) [wrap64c, if_pos, if_neg, hn', hn0, hp2, hp1, e0, e2, e3, e4, e5, ntv, hb', hjn', e6, e7, hin', e8, hji'] <;> omega), (by simp (disch := first | omega | (simp; done) | fail) [wrap64c, if_pos, if_neg, hn', hn0, hp2, hp1, e0, e2, e3, e4, e5, ntv, hb', hjn', e6, e7, hin', e8, hji'] <;> omega), hs1, (by first | omega | assumption | (simp (disch := first | omega | (simp; done) | fail) [wrap64c, if_pos, if_neg, hn', hn0, hp2, hp1, e0, e2, e3, e4, e5, ntv, hb', hjn', e6, e7, hin', e8, hji'] <;> omega)), (by omega), (by omega)⟩
        (case hm => first | omega | (simp; omega))
        (case hf => simp [FrameL, hn', hn0, hp2, hp1, e0, e2, e3, e4, e5, ntv, hb', hjn', e6, e7, hin', e8, hji', f0_1, f2_1, f3_1, f4_1])
    · have hin' : ¬ (i : Int) < (n : Int) := by omega
      obtain ⟨v7, h7, c7, r7, q7, l7, w7⟩ := pick_ok hB.next o K h' ((ln : Int) + 1) hs.d.cur (by omega)
      subst q7
      have s7 := hs.cur hc.bo.2 w7
      have hr7 := l7 (by omega)
      have hmo : (if (ln : Int) + 1 < 1 then (1 : Int) else (ln : Int) + 1) = (ln : Int) + 1 := if_neg (by omega)
      have hcm := l1MostD_ok h' 1 ((ln : Int) + 1)
      rw [hmo] at hcm
      try simp (disch := first | omega | (simp; done) | fail) [wrap64c, if_pos, if_neg, hn', hn0, hp2, hp1, e0, e2, e3, e4, e5, ntv, hb', hjn', e6, e7, hin']
      refine callG_c (by simp) (by simp) ?ha (hcm) ?_
      (case ha => simp (disch := first | omega | (simp; done) | fail) [wrap64c, if_pos, if_neg, hn', hn0, hp2, hp1, e0, e2, e3, e4, e5, ntv, hb', hjn', e6, e7, hin'])
      try simp (disch := first | omega | (simp; done) | fail) [wrap64c, if_pos, if_neg, hn', hn0, hp2, hp1, e0, e2, e3, e4, e5, ntv, hb', hjn', e6, e7, hin']
      refine callG_c (by simp) (by simp) ?ha (c7) ?_
      (case ha => simp (disch := first | omega | (simp; done) | fail) [wrap64c, if_pos, if_neg, hn', hn0, hp2, hp1, e0, e2, e3, e4, e5, ntv, hb', hjn', e6, e7, hin'])
      try simp (disch := first | omega | (simp; done) | fail) [wrap64c, if_pos, if_neg, hn', hn0, hp2, hp1, e0, e2, e3, e4, e5, ntv, hb', hjn', e6, e7, hin']
      refine WD_loopC [0, 2, 3, 4] (fun m tm h' => ∃ q K2 A2, m = r7 - q ∧ tm 10 = .int .i64 ((r7 : Int) - (q : Int)) ∧ (CSt hB h o K2 h1.next ol n L1 A2 h') ∧ (q ≤ r7) ∧ (K2 ≤ K + 2 + 2 * q)) _ ⟨0, K + 2, List.replicate n 0, rfl, (by simp), s7, (by first | omega | assumption | (simp (disch := first | omega | (simp; done) | fail) [wrap64c, if_pos, if_neg, hn', hn0, hp2, hp1, e0, e2, e3, e4, e5, ntv, hb', hjn', e6, e7, hin'] <;> omega)), (by first | omega | assumption | (simp (disch := first | omega | (simp; done) | fail) [wrap64c, if_pos, if_neg, hn', hn0, hp2, hp1, e0, e2, e3, e4, e5, ntv, hb', hjn', e6, e7, hin'] <;> omega))⟩ ?_
      rintro m tm h' hFr ⟨q, K2, A2, rfl, e10, hs2, hq, hK2⟩
      simp only [FrameL] at hFr
      obtain ⟨f0_3, f2_3, f3_3, f4_3, -⟩ := hFr
      try simp (disch := first | omega | (simp; done) | fail) [wrap64c, if_pos, if_neg, hn', hn0, hp2, hp1, e0, e2, e3, e4, e5, ntv, hb', hjn', e6, e7, hin'] at f0_3 f2_3 f3_3 f4_3
      have e0 := f0_3
      have e2 := f2_3
      have e3 := f3_3
      have e4 := f4_3
      by_cases hqr : q < r7
      · have hqr' : 0 < (r7 : Int) - (q : Int) := by omega
        obtain ⟨v8, h8, c8, r8, q8, l8, w8⟩ := pick_ok hB.next o K2 h' n hs2.d.cur (by omega)
        subst q8
        have s8 := hs2.cur hc.bo.2 w8
        have hr8 := l8 (by omega)
        have hr8' : r8 < n := by omega
        have gb8 := hs2.gb
        obtain ⟨cs8, ex8, g8, ln8, rr8, wr8⟩ := s8.at hA hc.bo.2 (by omega)
        have hla := s8.la
        have rr8' := rr8 r8 (by omega)
        have kf8 : KeepF (fun b => b = h1.next + 1 ∨ litF [] h'.next b) h' h8 := fun b hb => by
          rcases hb with rfl | hb
          · have := hs2.lt; have := hs2.lo; have := hc.bo
            exact w8.get _ (by omega) (by omega)
          · exact hb.elim
        try simp (disch := first | omega | (simp; done) | fail) [wrap64c, if_pos, if_neg, hn', hn0, hp2, hp1, e0, e2, e3, e4, e5, ntv, hb', hjn', e6, e7, hin', e10, hqr', hr8', gb8, rr8', g8, ln8]
        refine WD_softC [74] [] [] (fun b => b = h1.next + 1) rfl (by kernel_rfl) (by kernel_rfl) rfl ?_
        try simp (disch := first | omega | (simp; done) | fail) [wrap64c, if_pos, if_neg, hn', hn0, hp2, hp1, e0, e2, e3, e4, e5, ntv, hb', hjn', e6, e7, hin', e10, hqr', hr8', gb8, rr8', g8, ln8]
        refine callS_c (by simp) (by simp) ?ha (c8) ?hkf ?_
        (case ha => simp (disch := first | omega | (simp; done) | fail) [wrap64c, if_pos, if_neg, hn', hn0, hp2, hp1, e0, e2, e3, e4, e5, ntv, hb', hjn', e6, e7, hin', e10, hqr', hr8', gb8, rr8', g8, ln8])
        (case hkf => assumption)
        try simp (disch := first | omega | (simp; done) | fail) [wrap64c, if_pos, if_neg, hn', hn0, hp2, hp1, e0, e2, e3, e4, e5, ntv, hb', hjn', e6, e7, hin', e10, hqr', hr8', gb8, rr8', g8, ln8]
        refine loopK_next _ ?hm ?hf ⟨q + 1, K2 + 2, A2.set r8 (IntKind.wrap .i64 (A2[r8] + 1)), rfl, (by simp; omega), (wr8 r8 hr8' _), (by first | omega | assumption | (simp (disch := first | omega | (simp; done) | fail) [wrap64c, if_pos, if_neg, hn', hn0, hp2, hp1, e0, e2, e3, e4, e5, ntv, hb', hjn', e6, e7, hin', e10, hqr', hr8', gb8, rr8', g8, ln8] <;> omega)), (by omega)⟩
        (case hm => first | omega | (simp; omega))
        (case hf => simp [FrameL, hn', hn0, hp2, hp1, e0, e2, e3, e4, e5, ntv, hb', hjn', e6, e7, hin', e10, hqr', hr8', gb8, rr8', g8, ln8, f0_3, f2_3, f3_3, f4_3])
      · have hqr' : ¬ 0 < (r7 : Int) - (q : Int) := by omega
        obtain ⟨v9, h9, c9, r9, q9, l9, w9⟩ := pick_ok hB.next o K2 h' 14 hs2.d.cur (by omega)
        subst q9
        have s9 := hs2.cur hc.bo.2 w9
        have gb9 := s9.gb
        have g9 := s9.g
        have hlo9 := s9.lo
        have hlt9 := s9.lt
        have nx9 := w9.nx
        have hbo := hc.bo
        have hne9 : h.next ≠ h1.next + 1 := by omega
        try simp (disch := first | omega | (simp; done) | fail) [wrap64c, if_pos, if_neg, hn', hn0, hp2, hp1, e0, e2, e3, e4, e5, ntv, hb', hjn', e6, e7, hin', e10, hqr', gb9, g9, hne9]
        refine callG_c (by simp) (by simp) ?ha (c9) ?_
        (case ha => simp (disch := first | omega | (simp; done) | fail) [wrap64c, if_pos, if_neg, hn', hn0, hp2, hp1, e0, e2, e3, e4, e5, ntv, hb', hjn', e6, e7, hin', e10, hqr', gb9, g9, hne9])
        by_cases z0 : r9 = 0
        · subst z0
          try simp (disch := first | omega | (simp; done) | fail) [wrap64c, if_pos, if_neg, hn', hn0, hp2, hp1, e0, e2, e3, e4, e5, ntv, hb', hjn', e6, e7, hin', e10, hqr', gb9, g9, hne9]
          obtain ⟨hL, hLe⟩ : ∃ hL, hL = h9.alloc (.cells [.int .i64 (-1), .int .i64 30, .int .i64 31, .int .i64 4611686018427387904] true true 1) := ⟨_, rfl⟩
          have kL : Adds h9 hL := by rw [hLe]; exact (by first | exact aK | exact kK)
          have dL := DrW.of_adds s9.d.add s9.d.cur kL
          have sL : CSt hB h o (K2 + 2) h1.next ol n L1 A2 hL := ⟨s9.d.trans dL, s9.lo, ⟨hlt9.1, by have := kL.1.1; omega⟩, by rw [kL.1.2 _ (by omega)]; exact s9.g, by rw [kL.1.2 _ (by omega)]; exact s9.gb, s9.hr.keep kL.1, s9.ha.keep kL.1, s9.ll, s9.lr, s9.la⟩
          have gL : hL.get h9.next = .cells [.int .i64 (-1), .int .i64 30, .int .i64 31, .int .i64 4611686018427387904] true true 1 := by simp [hLe]
          have nL : hL.next = h9.next + 1 := by simp [hLe]
          obtain ⟨v10, h10, c10, r10, q10, l10, w10⟩ := pick_ok hB.next o (K2 + 2) hL n sL.d.cur (by omega)
          subst q10
          have s10 := sL.cur hc.bo.2 w10
          have hr10 := l10 (by omega)
          have n10 := w10.nx
          have g10 : h10.get h9.next = .cells [.int .i64 (-1), .int .i64 30, .int .i64 31, .int .i64 4611686018427387904] true true 1 := by rw [w10.get _ (by omega) (by omega)]; exact gL
          have i10 : IntsF (fun x => x ≠ o) h10 (.slice (some ⟨h9.next, 0, none⟩) 4 4) [-1, 30, 31, 4611686018427387904] := lit_ints (xs := [-1, 30, 31, 4611686018427387904]) (by simpa using g10) (by omega) (by omega) (by simp)
          obtain ⟨v11, h11, c11, r11, p11, q11, w11⟩ := among_ok hB.next o (K2 + 2 + 2) h10 _ _ s10.d.cur (by omega) i10 (by simp)
          subst q11
          have s11 := s10.cur hc.bo.2 w11
          generalize hx11 : [-1, 30, 31, 4611686018427387904][r11] = x11 at c11
          obtain ⟨cs12, ex12, g12, ln12, rr12, wr12⟩ := s11.at hA hc.bo.2 (by omega)
          have hr10' : r10 < n := by omega
          have s13 := wr12 r10 hr10' x11
          have gL' := gL
          have g12' := g12
          have kf1 : KeepF (fun b => b = h1.next + 1 ∨ litF [92] h9.next b) hL h10 := fun b hb => by
            rcases hb with rfl | rfl | hb
            · exact w10.get _ (by omega) (by omega)
            · exact w10.get _ (by omega) (by omega)
            · exact hb.elim
          have kf2 : KeepF (fun b => b = h1.next + 1 ∨ litF [92] h9.next b) h10 h11 := fun b hb => by
            rcases hb with rfl | rfl | hb
            · exact w11.get _ (by omega) (by omega)
            · exact w11.get _ (by omega) (by omega)
            · exact hb.elim
          refine WD_softC [87] [92] [([.int .i64 (-1), .int .i64 30, .int .i64 31, .int .i64 4611686018427387904], 1)] (fun b => b = h1.next + 1) rfl (by kernel_rfl) (by kernel_rfl) rfl ?_
          simp only [allocL_c, allocL_n]
          rw [← hLe]
          have gbL := sL.gb
          try simp (disch := first | omega | (simp; done) | fail) [wrap64c, if_pos, if_neg, hn', hn0, hp2, hp1, e0, e2, e3, e4, e5, ntv, hb', hjn', e6, e7, hin', e10, hqr', gb9, g9, hne9, hr10', gL', nL, g10, g12', ln12, gbL]
          refine callS_c (by simp) (by simp) ?ha (c10) ?hkf ?_
          (case ha => simp (disch := first | omega | (simp; done) | fail) [wrap64c, if_pos, if_neg, hn', hn0, hp2, hp1, e0, e2, e3, e4, e5, ntv, hb', hjn', e6, e7, hin', e10, hqr', gb9, g9, hne9, hr10', gL', nL, g10, g12', ln12, gbL])
          (case hkf => assumption)
          try simp (disch := first | omega | (simp; done) | fail) [wrap64c, if_pos, if_neg, hn', hn0, hp2, hp1, e0, e2, e3, e4, e5, ntv, hb', hjn', e6, e7, hin', e10, hqr', gb9, g9, hne9, hr10', gL', nL, g10, g12', ln12, gbL]
          refine callS_c (by simp) (by simp) ?ha (c11) ?hkf ?_
          (case ha => simp (disch := first | omega | (simp; done) | fail) [wrap64c, if_pos, if_neg, hn', hn0, hp2, hp1, e0, e2, e3, e4, e5, ntv, hb', hjn', e6, e7, hin', e10, hqr', gb9, g9, hne9, hr10', gL', nL, g10, g12', ln12, gbL])
          (case hkf => assumption)
          have gb11 := s11.gb
          have gc11 := s11.g
          try simp (disch := first | omega | (simp; done) | fail) [wrap64c, if_pos, if_neg, hn', hn0, hp2, hp1, e0, e2, e3, e4, e5, ntv, hb', hjn', e6, e7, hin', e10, hqr', gb9, g9, hne9, hr10', gL', nL, g10, g12', ln12, gbL, gb11, gc11]
          have hf := fin_ok hA hc.bo.2 s13.d ((s13.hr.read).sub fun x hx => by have := s13.lo; omega) ((s13.ha.read).sub fun x hx => by have := s13.lo; omega) (show K2 + 2 + 2 + 2 ≤ k + 1000 by omega) (s13.small hn4.2) [.slice (some ⟨ol, 0, none⟩) n n, .slice (some ⟨h1.next, 0, none⟩) n n] true 1
          exact done_ret (vs := [_]) (by simp [resL, e2]) hf
        have z0' : ¬ (r9 : Int) = 0 := by omega
        by_cases z1 : r9 = 1
        · subst z1
          obtain ⟨v10, h10, c10, r10, q10, l10, w10⟩ := pick_ok hB.next o (K2 + 2) h9 n s9.d.cur (by omega)
          subst q10
          have s10 := s9.cur hc.bo.2 w10
          have hr10 := l10 (by omega)
          have n10 := w10.nx
          obtain ⟨v11, h11, c11, r11, q11, l11, w11⟩ := pick_ok hB.next o (K2 + 2 + 2) h10 n s10.d.cur (by omega)
          subst q11
          have s11 := s10.cur hc.bo.2 w11
          have hr11 := l11 (by omega)
          have hr10' : r10 < n := by omega
          have hr11' : r11 < n := by omega
          have hll := s11.ll
          obtain ⟨cs5, ex5, p5, z5, y5, cr5, er5, g5, li5, u5, gp5, lz5, rr5, lo5, lp5, ne5, df5, wr5⟩ := s11.row hA hc.bo.2 (show r10 < n by omega) (by omega)
          have g5a : h10.get ol = .cells cs5 true ex5 1 := by rw [← w11.get ol (by omega) (by omega)]; exact g5
          have hlr := s11.lr _ (List.getElem_mem (show r10 < L1.length by omega))
          have rr5' := rr5 r11 (by omega)
          have s12 := wr5 r11 (by omega) (IntKind.wrap .i64 (L1[r10][r11] + 1))
          have gb12 := s12.gb
          have gc12 := s12.g
          have kf1 : KeepF (fun b => (b = h1.next + 1 ∨ b = ol) ∨ litF [] h9.next b) h9 h10 := fun b hb => by
            rcases hb with (rfl | rfl) | hb
            · exact w10.get _ (by omega) (by omega)
            · exact w10.get _ (by omega) (by omega)
            · exact hb.elim
          have kf2 : KeepF (fun b => (b = h1.next + 1 ∨ b = ol) ∨ litF [] h9.next b) h10 h11 := fun b hb => by
            rcases hb with (rfl | rfl) | hb
            · exact w11.get _ (by omega) (by omega)
            · exact w11.get _ (by omega) (by omega)
            · exact hb.elim
          try simp (disch := first | omega | (simp; done) | fail) [wrap64c, if_pos, if_neg, hn', hn0, hp2, hp1, e0, e2, e3, e4, e5, ntv, hb', hjn', e6, e7, hin', e10, hqr', gb9, g9, hne9, z0', hr10', hr11', rr5', li5, u5, gp5, lz5, g5a, gb12, gc12]
          refine WD_softC [98,103] [] [] (fun b => b = h1.next + 1 ∨ b = ol) rfl (by kernel_rfl) (by kernel_rfl) rfl ?_
          try simp (disch := first | omega | (simp; done) | fail) [wrap64c, if_pos, if_neg, hn', hn0, hp2, hp1, e0, e2, e3, e4, e5, ntv, hb', hjn', e6, e7, hin', e10, hqr', gb9, g9, hne9, z0', hr10', hr11', rr5', li5, u5, gp5, lz5, g5a, gb12, gc12]
          refine callS_c (by simp) (by simp) ?ha (c10) ?hkf ?_
          (case ha => simp (disch := first | omega | (simp; done) | fail) [wrap64c, if_pos, if_neg, hn', hn0, hp2, hp1, e0, e2, e3, e4, e5, ntv, hb', hjn', e6, e7, hin', e10, hqr', gb9, g9, hne9, z0', hr10', hr11', rr5', li5, u5, gp5, lz5, g5a, gb12, gc12])
          (case hkf => assumption)
          try simp (disch := first | omega | (simp; done) | fail) [wrap64c, if_pos, if_neg, hn', hn0, hp2, hp1, e0, e2, e3, e4, e5, ntv, hb', hjn', e6, e7, hin', e10, hqr', gb9, g9, hne9, z0', hr10', hr11', rr5', li5, u5, gp5, lz5, g5a, gb12, gc12]
          refine callS_c (by simp) (by simp) ?ha (c11) ?hkf ?_
          (case ha => simp (disch := first | omega | (simp; done) | fail) [wrap64c, if_pos, if_neg, hn', hn0, hp2, hp1, e0, e2, e3, e4, e5, ntv, hb', hjn', e6, e7, hin', e10, hqr', gb9, g9, hne9, z0', hr10', hr11', rr5', li5, u5, gp5, lz5, g5a, gb12, gc12])
          (case hkf => assumption)
          have hpo : ¬ p5 = h1.next + 1 := by omega
          have gb11 := s11.gb
          have gc11 := s11.g
          try simp (disch := first | omega | (simp; done) | fail) [wrap64c, if_pos, if_neg, hn', hn0, hp2, hp1, e0, e2, e3, e4, e5, ntv, hb', hjn', e6, e7, hin', e10, hqr', gb9, g9, hne9, z0', hr10', hr11', rr5', li5, u5, gp5, lz5, g5a, gb12, gc12, hpo, ne5, gb11, gc11]
          have hf := fin_ok hA hc.bo.2 s12.d ((s12.hr.read).sub fun x hx => by have := s12.lo; omega) ((s12.ha.read).sub fun x hx => by have := s12.lo; omega) (show K2 + 2 + 2 + 2 ≤ k + 1000 by omega) (s12.small hn4.2) [.slice (some ⟨ol, 0, none⟩) n n, .slice (some ⟨h1.next, 0, none⟩) n n] true 1
          exact done_ret (vs := [_]) (by simp [resL, e2]) hf
        have z1' : ¬ (r9 : Int) = 1 := by omega
        by_cases z2 : r9 = 2
        · subst z2
          obtain ⟨v10, h10, hap, ntv10, csv10, d10, g10, gb10, hr10, ha10⟩ := app_nil s9 hA hc.bo.2 (by omega)
          have g10' := g10
          try simp (disch := first | omega | (simp; done) | fail) [wrap64c, if_pos, if_neg, hn', hn0, hp2, hp1, e0, e2, e3, e4, e5, ntv, hb', hjn', e6, e7, hin', e10, hqr', gb9, g9, hne9, z0', z1', g10', gb10, ntv10, csv10, hap]
          have hs10 : Same (fun x => h.next < x ∧ x ≠ h1.next + 1) h10 (h10.put (h1.next + 1) (.cells [v10, .slice (some ⟨h1.next, 0, none⟩) n n] true true 1)) := ⟨Nat.le_refl _, fun x hx _ => by simp [hx.2]⟩
          have hf := fin_ok hA hc.bo.2 (d10.put hA hc.bo.2 (show h.next ≤ h1.next + 1 by omega) [v10, .slice (some ⟨h1.next, 0, none⟩) n n] true 1) ((hr10.same hs10).sub fun x hx => hx.1) ((ha10.same hs10).sub fun x hx => hx.1) (show K2 + 2 ≤ k + 1000 by omega) (by
            obtain ⟨x1, x2, x3⟩ := s9.small hn4.2
            have := s9.ll
            exact ⟨by simp; omega, fun x hx => by rcases List.mem_append.1 hx with h | h; exact x2 x h; simp at h; simp [h], x3⟩) [v10, .slice (some ⟨h1.next, 0, none⟩) n n] true 1
          exact done_ret (vs := [_]) (by simp [resL, e2]) hf
        have z2' : ¬ (r9 : Int) = 2 := by omega
        try simp (disch := first | omega | (simp; done) | fail) [wrap64c, if_pos, if_neg, hn', hn0, hp2, hp1, e0, e2, e3, e4, e5, ntv, hb', hjn', e6, e7, hin', e10, hqr', gb9, g9, hne9, z0', z1', z2']
        have hf := fin_ok hA hc.bo.2 s9.d ((s9.hr.read).sub fun x hx => by omega) ((s9.ha.read).sub fun x hx => by omega) (show K2 + 2 ≤ k + 1000 by omega) (s9.small hn4.2) [.slice (some ⟨ol, 0, none⟩) n n, .slice (some ⟨h1.next, 0, none⟩) n n] true 1
        exact done_ret (vs := [_]) (by simp [resL, e2]) hf
end Go.Proofs.Ytnnjehonbolliaa
namespace Go.Proofs.Ytnnjehonbolliaa
set_option linter.unusedSimpArgs false
set_option linter.unusedVariables false
set_option maxHeartbeats 4000000
open Go Go.Eng
attribute [local irreducible] WD RunD PreD Runs CallOK
theorem cur_mk {h hh : Hp} {v : Value} {bs : List Int} (hb : BytesF h.next h v bs) (hk : Keeps h hh) {o : Nat} (ho : h.next ≤ o ∧ o < hh.next) (hg : hh.get o = .cells [v, .int .i64 0, .int .u64 0] true true 1) : CurS h.next o 0 hh :=
  ⟨ho, v, bs, 0, 0, by simpa using hg, hb.same (h := h) (h' := hh) (.of_keeps hk), Nat.le_refl _⟩
end Go.Proofs.Ytnnjehonbolliaa
namespace Go.Proofs.Ytnnjehonbolliaa
set_option linter.unusedSimpArgs false
set_option linter.unusedVariables false
open Go Go.Eng
attribute [local irreducible] WD RunD PreD Runs CallOK
def el (L : List (List Int)) (i j : Nat) : Int := (L.getD i []).getD j 0
theorem el_eq {L : List (List Int)} {i j : Nat} (hi : i < L.length) (hj : j < L[i].length) : el L i j = L[i][j] := by
  simp [el, hi, hj]
def Good (L : List (List Int)) (A : List Int) : Prop :=
  (1 ≤ A.length ∧ A.length ≤ 5) ∧ L.length = A.length ∧ (∀ x ∈ A, 0 ≤ x ∧ x ≤ 30) ∧ (∀ r ∈ L, r.length = A.length ∧ ∀ x ∈ r, 0 ≤ x ∧ x ≤ 3) ∧
  (∀ i, i < A.length → ∀ j, j < A.length → el L i j = el L j i) ∧ (∀ i, i < A.length → el L i i = 0) ∧ A.sum ≤ 30
noncomputable def goodB (L : List (List Int)) (A : List Int) : Bool := @decide (Good L A) (Classical.propDecidable _)
theorem goodB_true {L : List (List Int)} {A : List Int} (h : Good L A) : goodB L A = true := by simp [goodB, h]
theorem goodB_false {L : List (List Int)} {A : List Int} (h : ¬ Good L A) : goodB L A = false := by simp [goodB, h]
theorem sum_take {A : List Int} {b : Int} (hb : 0 ≤ b) (hA : ∀ x ∈ A, 0 ≤ x ∧ x ≤ b) : ∀ k, k ≤ A.length → 0 ≤ (A.take k).sum ∧ (A.take k).sum ≤ b * (k : Int)
  | 0, _ => by simp
  | k + 1, hk => by
    have := sum_take hb hA k (by omega)
    have h2 := hA _ (List.getElem_mem (show k < A.length by omega))
    rw [List.take_succ_eq_append_getElem (by omega), List.sum_append]
    have e : b * ((k + 1 : Nat) : Int) = b * (k : Int) + b := by rw [Int.natCast_succ, Int.mul_add, Int.mul_one]
    rw [e, show [A[k]].sum = A[k] by simp]
    omega
theorem sum_step {A : List Int} {k : Nat} (hk : k < A.length) : (A.take (k + 1)).sum = (A.take k).sum + A[k] := by
  rw [List.take_succ_eq_append_getElem hk, List.sum_append]; simp
theorem l1All_ok (h : Hp) (v : Value) (xs : List Int) (a b : Int) (hv : Ints h v xs) : CallOK Try.prog 73 #[v, .int .i64 a, .int .i64 b] h (.bool (decide (∀ x ∈ xs, a ≤ x ∧ x ≤ b))) h := by
  refine callY_P 21 _ [.tmp 6] Try.func73 rfl rfl rfl (by first | rfl | simp) ?_
  have hs := hv.len
  have hL := hv.lenD
  try simp (disch := first | omega | (simp; done) | fail) [wrap64c, if_pos, if_neg, hL]
  refine WD_loopC [1, 2, 9, 10] (fun m tm h' => ∃ j, m = xs.length - j ∧ h = h' ∧ tm 11 = .int .i64 (j : Int) ∧ (j ≤ xs.length) ∧ (∀ i (hi : i < xs.length), i < j → a ≤ xs[i] ∧ xs[i] ≤ b)) _ ⟨0, rfl, rfl, (by simp (disch := first | omega | (simp; done) | fail) [wrap64c, if_pos, if_neg, hL]), (by first | omega | assumption | (simp (disch := first | omega | (simp; done) | fail) [wrap64c, if_pos, if_neg, hL] <;> omega)), (by intro i hi h0; omega)⟩ ?_
  rintro m tm h' hFr ⟨j, rfl, rfl, e11, hj, hx⟩
  simp only [FrameL] at hFr
  obtain ⟨f1_0, f2_0, f9_0, f10_0, -⟩ := hFr
  try simp (disch := first | omega | (simp; done) | fail) [wrap64c, if_pos, if_neg, hL] at f1_0 f2_0 f9_0 f10_0
  have e1 := f1_0
  have e2 := f2_0
  have e9 := f9_0
  have e10 := f10_0
  by_cases hlt : j < xs.length
  · obtain ⟨o_x, i_x, c_x, cs_x, own_x, ex_x, es_x, q_x, b_x, g_x, l_x, r_x⟩ := hv.open ((by omega))
    have z_x : ∀ h2 : i_x < cs_x.length, cs_x[i_x] = _ := fun h2 => r_x 0 ((by omega)) h2
    try simp (disch := first | omega | (simp; done) | fail) [wrap64c, if_pos, if_neg, hL, e1, e2, e9, e10, e11, hlt, q_x, g_x, l_x, r_x, z_x]
    have hc := l1In_ok h xs[j] a b
    by_cases hq : a ≤ xs[j] ∧ xs[j] ≤ b
    · rw [decide_eq_true hq] at hc
      refine callG_c (by simp) (by simp) ?ha (hc) ?_
      (case ha => simp (disch := first | omega | (simp; done) | fail) [wrap64c, if_pos, if_neg, hL, e1, e2, e9, e10, e11, hlt, q_x, g_x, l_x, r_x, z_x])
      try simp (disch := first | omega | (simp; done) | fail) [wrap64c, if_pos, if_neg, hL, e1, e2, e9, e10, e11, hlt, q_x, g_x, l_x, r_x, z_x]
      refine loopK_next _ ?hm ?hf ⟨j + 1, rfl, rfl, (by simp (disch := first | omega | (simp; done) | fail) [wrap64c, if_pos, if_neg, hL, e1, e2, e9, e10, e11, hlt, q_x, g_x, l_x, r_x, z_x] <;> omega), (by first | omega | assumption | (simp (disch := first | omega | (simp; done) | fail) [wrap64c, if_pos, if_neg, hL, e1, e2, e9, e10, e11, hlt, q_x, g_x, l_x, r_x, z_x] <;> omega)), ?c_hx⟩
      (case hm => first | omega | (simp; omega))
      (case hf => simp [FrameL, hL, e1, e2, e9, e10, e11, hlt, q_x, g_x, l_x, r_x, z_x, f1_0, f2_0, f9_0, f10_0])
      case c_hx =>
        exact (fun i hi hij => by
          rcases Nat.lt_succ_iff_lt_or_eq.1 hij with h1 | h1
          · exact hx i hi h1
          · subst h1; exact hq)
    · rw [decide_eq_false hq] at hc
      refine callG_c (by simp) (by simp) ?ha (hc) ?_
      (case ha => simp (disch := first | omega | (simp; done) | fail) [wrap64c, if_pos, if_neg, hL, e1, e2, e9, e10, e11, hlt, q_x, g_x, l_x, r_x, z_x])
      try simp (disch := first | omega | (simp; done) | fail) [wrap64c, if_pos, if_neg, hL, e1, e2, e9, e10, e11, hlt, q_x, g_x, l_x, r_x, z_x]
      have : ¬ ∀ x ∈ xs, a ≤ x ∧ x ≤ b := fun q => hq (q _ (List.getElem_mem hlt))
      exact done_ret rfl (by rw [decide_eq_false this]; simp)
  · try simp (disch := first | omega | (simp; done) | fail) [wrap64c, if_pos, if_neg, hL, e1, e2, e9, e10, e11, hlt]
    have : ∀ x ∈ xs, a ≤ x ∧ x ≤ b := fun x hx' => by
      obtain ⟨i, hi, rfl⟩ := List.getElem_of_mem hx'
      exact hx i hi (by omega)
    exact done_ret rfl (by rw [decide_eq_true this]; simp)
set_option maxHeartbeats 4000000 in
theorem waGood_ok (h : Hp) (v : Value) (L : List (List Int)) (A : List Int) (hv : Chips h v L A) : CallOK Try.prog 46 #[v] h (.bool (goodB L A)) h := by
  refine callY_P 91 _ [.tmp 2] Try.func46 rfl rfl rfl (by first | rfl | simp) ?_
  obtain ⟨a, b, rfl, hL, hA⟩ := hv
  refine WD_first ?_
  try simp (disch := first | omega | (simp; done) | fail) [wrap64c, if_pos, if_neg]
  refine stopK_heap fun h0 q_h0 => ?_
  refine stopK_go ?_
  have g_h0 : h0.get h.next = .cells [a, b] true true 1 := by simp [q_h0]
  have k_h0 : Adds h h0 := by rw [q_h0]; exact (by first | exact aK | exact kK)
  have n_h0 : h.next < h0.next := by simp [q_h0]; try omega
  have k0 := k_h0.1
  replace hL := hL.keep k0
  replace hA := hA.keep k0
  have lL := hL.lenD
  have lA := hA.lenD
  try simp (disch := first | omega | (simp; done) | fail) [wrap64c, if_pos, if_neg, g_h0, lL, lA]
  by_cases c1 : 1 ≤ (A.length : Int) ∧ (A.length : Int) ≤ 5
  · have hc := l1In_ok h0 A.length 1 5
    rw [decide_eq_true c1] at hc
    refine callG_c (by simp) (by simp) ?ha (hc) ?_
    (case ha => simp (disch := first | omega | (simp; done) | fail) [wrap64c, if_pos, if_neg, g_h0, lL, lA])
    by_cases c2 : L.length = A.length
    · have c2b : ((L.length : Int) != (A.length : Int)) = false := by simp [c2]
      try simp (disch := first | omega | (simp; done) | fail) [wrap64c, if_pos, if_neg, g_h0, lL, lA, c2b]
      by_cases c3 : ∀ x ∈ A, 0 ≤ x ∧ x ≤ 30
      · have hc := l1All_ok h0 _ A 0 30 hA
        rw [decide_eq_true c3] at hc
        refine callG_c (by simp) (by simp) ?ha (hc) ?_
        (case ha => simp (disch := first | omega | (simp; done) | fail) [wrap64c, if_pos, if_neg, g_h0, lL, lA, c2b])
        obtain ⟨o_x, i_x, c_x, cs_x, own_x, ex_x, es_x, us_x, q_x, b_x, g_x, l_x, r_x, R_x⟩ := hL.open ((by omega))
        have z_x : ∀ h2 : i_x < cs_x.length, cs_x[i_x] = _ := fun h2 => r_x 0 ((by omega)) h2
        obtain ⟨o_y, i_y, c_y, cs_y, own_y, ex_y, es_y, q_y, b_y, g_y, l_y, r_y⟩ := hA.open ((by omega))
        have z_y : ∀ h2 : i_y < cs_y.length, cs_y[i_y] = _ := fun h2 => r_y 0 ((by omega)) h2
        try simp (disch := first | omega | (simp; done) | fail) [wrap64c, if_pos, if_neg, g_h0, lL, lA, c2b, q_x, g_x, l_x, r_x, z_x, q_y, g_y, l_y, r_y, z_y]
        refine WD_loopC [1, 3, 31, 32] (fun m tm h' => ∃ j, m = A.length - j ∧ h0 = h' ∧ tm 4 = .int .i64 (A.take j).sum ∧ tm 33 = .int .i64 (j : Int) ∧ (j ≤ A.length) ∧ (∀ i (hi : i < L.length), i < j → L[i].length = A.length ∧ (∀ x ∈ L[i], 0 ≤ x ∧ x ≤ 3) ∧ el L i i = 0)) _ ⟨0, rfl, rfl, (by simp (disch := first | omega | (simp; done) | fail) [wrap64c, if_pos, if_neg, g_h0, lL, lA, c2b, q_x, g_x, l_x, r_x, z_x, q_y, g_y, l_y, r_y, z_y]), (by simp (disch := first | omega | (simp; done) | fail) [wrap64c, if_pos, if_neg, g_h0, lL, lA, c2b, q_x, g_x, l_x, r_x, z_x, q_y, g_y, l_y, r_y, z_y]), (by first | omega | assumption | (simp (disch := first | omega | (simp; done) | fail) [wrap64c, if_pos, if_neg, g_h0, lL, lA, c2b, q_x, g_x, l_x, r_x, z_x, q_y, g_y, l_y, r_y, z_y] <;> omega)), (by intro i hi h0; omega)⟩ ?_
        rintro m tm h' hFr ⟨j, rfl, rfl, e4, e33, hj, hx⟩
        simp only [FrameL] at hFr
        obtain ⟨f1_0, f3_0, f31_0, f32_0, -⟩ := hFr
        try simp (disch := first | omega | (simp; done) | fail) [wrap64c, if_pos, if_neg, g_h0, lL, lA, c2b, q_x, g_x, l_x, r_x, z_x, q_y, g_y, l_y, r_y, z_y] at f1_0 f3_0 f31_0 f32_0
        have e1 := f1_0
        have e3 := f3_0
        have e31 := f31_0
        have e32 := f32_0
        by_cases hlt : j < A.length
        · have hlt2 : j < L.length := by omega
          have b1 := sum_take (by omega) c3 j (by omega)
          have b2 := c3 _ (List.getElem_mem hlt)
          have hu := R_x j hlt2
          have lu := hu.lenD
          by_cases d1 : L[j].length = A.length
          · have d1b : ((L[j].length : Int) != (A.length : Int)) = false := by simp [d1]
            try simp (disch := first | omega | (simp; done) | fail) [wrap64c, if_pos, if_neg, g_h0, lL, lA, c2b, q_x, g_x, l_x, r_x, z_x, q_y, g_y, l_y, r_y, z_y, e1, e3, e4, e31, e32, e33, hlt, hlt2, lu, d1b]
            have hc := l1All_ok h0 _ L[j] 0 3 hu
            have ed := el_eq hlt2 (show j < L[j].length by omega)
            by_cases d2 : ∀ x ∈ L[j], 0 ≤ x ∧ x ≤ 3
            · rw [decide_eq_true d2] at hc
              refine callG_c (by simp) (by simp) ?ha (hc) ?_
              (case ha => simp (disch := first | omega | (simp; done) | fail) [wrap64c, if_pos, if_neg, g_h0, lL, lA, c2b, q_x, g_x, l_x, r_x, z_x, q_y, g_y, l_y, r_y, z_y, e1, e3, e4, e31, e32, e33, hlt, hlt2, lu, d1b])
              obtain ⟨o_u, i_u, c_u, cs_u, own_u, ex_u, es_u, q_u, b_u, g_u, l_u, r_u⟩ := hu.open ((by omega))
              have z_u : ∀ h2 : i_u < cs_u.length, cs_u[i_u] = _ := fun h2 => r_u 0 ((by omega)) h2
              by_cases d3 : L[j][j] = 0
              · try simp (disch := first | omega | (simp; done) | fail) [wrap64c, if_pos, if_neg, g_h0, lL, lA, c2b, q_x, g_x, l_x, r_x, z_x, q_y, g_y, l_y, r_y, z_y, e1, e3, e4, e31, e32, e33, hlt, hlt2, lu, d1b, q_u, g_u, l_u, r_u, z_u, d3]
                refine loopK_next _ ?hm ?hf ⟨j + 1, rfl, rfl, (by simp [sum_step hlt]), (by simp (disch := first | omega | (simp; done) | fail) [wrap64c, if_pos, if_neg, g_h0, lL, lA, c2b, q_x, g_x, l_x, r_x, z_x, q_y, g_y, l_y, r_y, z_y, e1, e3, e4, e31, e32, e33, hlt, hlt2, lu, d1b, q_u, g_u, l_u, r_u, z_u, d3] <;> omega), (by first | omega | assumption | (simp (disch := first | omega | (simp; done) | fail) [wrap64c, if_pos, if_neg, g_h0, lL, lA, c2b, q_x, g_x, l_x, r_x, z_x, q_y, g_y, l_y, r_y, z_y, e1, e3, e4, e31, e32, e33, hlt, hlt2, lu, d1b, q_u, g_u, l_u, r_u, z_u, d3] <;> omega)), ?c_hx⟩
                (case hm => first | omega | (simp; omega))
                (case hf => simp [FrameL, g_h0, lL, lA, c2b, q_x, g_x, l_x, r_x, z_x, q_y, g_y, l_y, r_y, z_y, e1, e3, e4, e31, e32, e33, hlt, hlt2, lu, d1b, q_u, g_u, l_u, r_u, z_u, d3, f1_0, f3_0, f31_0, f32_0])
                case c_hx =>
                  exact (fun i hi hij => by
                    rcases Nat.lt_succ_iff_lt_or_eq.1 hij with q | q
                    · exact hx i hi q
                    · subst q; exact ⟨d1, d2, by rw [ed, d3]⟩)
              · try simp (disch := first | omega | (simp; done) | fail) [wrap64c, if_pos, if_neg, g_h0, lL, lA, c2b, q_x, g_x, l_x, r_x, z_x, q_y, g_y, l_y, r_y, z_y, e1, e3, e4, e31, e32, e33, hlt, hlt2, lu, d1b, q_u, g_u, l_u, r_u, z_u, d3]
                exact done_ret rfl (by rw [goodB_false fun q => d3 (by rw [← ed]; exact q.2.2.2.2.2.1 j hlt)]; simp [k0])
            · rw [decide_eq_false d2] at hc
              refine callG_c (by simp) (by simp) ?ha (hc) ?_
              (case ha => simp (disch := first | omega | (simp; done) | fail) [wrap64c, if_pos, if_neg, g_h0, lL, lA, c2b, q_x, g_x, l_x, r_x, z_x, q_y, g_y, l_y, r_y, z_y, e1, e3, e4, e31, e32, e33, hlt, hlt2, lu, d1b])
              try simp (disch := first | omega | (simp; done) | fail) [wrap64c, if_pos, if_neg, g_h0, lL, lA, c2b, q_x, g_x, l_x, r_x, z_x, q_y, g_y, l_y, r_y, z_y, e1, e3, e4, e31, e32, e33, hlt, hlt2, lu, d1b]
              exact done_ret rfl (by rw [goodB_false fun q => d2 (q.2.2.2.1 _ (List.getElem_mem hlt2)).2]; simp [k0])
          · have d1b : ((L[j].length : Int) != (A.length : Int)) = true := by simp [d1]
            try simp (disch := first | omega | (simp; done) | fail) [wrap64c, if_pos, if_neg, g_h0, lL, lA, c2b, q_x, g_x, l_x, r_x, z_x, q_y, g_y, l_y, r_y, z_y, e1, e3, e4, e31, e32, e33, hlt, hlt2, lu, d1b]
            exact done_ret rfl (by rw [goodB_false fun q => d1 (q.2.2.2.1 _ (List.getElem_mem hlt2)).1]; simp [k0])
        · have hlt2 : ¬ j < L.length := by omega
          try simp (disch := first | omega | (simp; done) | fail) [wrap64c, if_pos, if_neg, g_h0, lL, lA, c2b, q_x, g_x, l_x, r_x, z_x, q_y, g_y, l_y, r_y, z_y, e1, e3, e4, e31, e32, e33, hlt, hlt2]
          have hj' : j = A.length := by omega
          subst hj'
          rw [List.take_length] at e4
          have hrow : ∀ i (hi : i < L.length), L[i].length = A.length := fun i hi => (hx i hi (by omega)).1
          refine WD_loopC [1, 4, 63, 64] (fun m tm h' => ∃ j, m = L.length - j ∧ h0 = h' ∧ tm 65 = .int .i64 (j : Int) ∧ (j ≤ L.length) ∧ (∀ i, i < j → ∀ k, k < A.length → el L i k = el L k i)) _ ⟨0, rfl, rfl, (by simp (disch := first | omega | (simp; done) | fail) [wrap64c, if_pos, if_neg, g_h0, lL, lA, c2b, q_x, g_x, l_x, r_x, z_x, q_y, g_y, l_y, r_y, z_y, e1, e3, e4, e31, e32, e33, hlt, hlt2]), (by first | omega | assumption | (simp (disch := first | omega | (simp; done) | fail) [wrap64c, if_pos, if_neg, g_h0, lL, lA, c2b, q_x, g_x, l_x, r_x, z_x, q_y, g_y, l_y, r_y, z_y, e1, e3, e4, e31, e32, e33, hlt, hlt2] <;> omega)), (by intro i h0; omega)⟩ ?_
          rintro m tm h' hFr ⟨j, rfl, rfl, e65, hj, hy⟩
          simp only [FrameL] at hFr
          obtain ⟨f1_1, f4_1, f63_1, f64_1, -⟩ := hFr
          try simp (disch := first | omega | (simp; done) | fail) [wrap64c, if_pos, if_neg, g_h0, lL, lA, c2b, q_x, g_x, l_x, r_x, z_x, q_y, g_y, l_y, r_y, z_y, e1, e3, e4, e31, e32, e33, hlt, hlt2] at f1_1 f4_1 f63_1 f64_1
          have e1 := f1_1
          have e4 := f4_1
          have e63 := f63_1
          have e64 := f64_1
          by_cases hlt : j < L.length
          · have hrj := hrow j hlt
            have hu := R_x j hlt
            have lu := hu.lenD
            obtain ⟨o_u, i_u, c_u, cs_u, own_u, ex_u, es_u, q_u, b_u, g_u, l_u, r_u⟩ := hu.open ((by omega))
            have z_u : ∀ h2 : i_u < cs_u.length, cs_u[i_u] = _ := fun h2 => r_u 0 ((by omega)) h2
            try simp (disch := first | omega | (simp; done) | fail) [wrap64c, if_pos, if_neg, g_h0, lL, lA, c2b, q_x, g_x, l_x, r_x, z_x, q_y, g_y, l_y, r_y, z_y, e1, e3, e4, e31, e32, e33, hlt, hlt2, e63, e64, e65, lu, q_u, g_u, l_u, r_u, z_u]
            refine WD_loopC [1, 4, 7, 63, 64, 65, 70, 71] (fun m tm h' => ∃ k, m = L[j].length - k ∧ h0 = h' ∧ tm 72 = .int .i64 (k : Int) ∧ (k ≤ L[j].length) ∧ (∀ i, i < k → el L j i = el L i j)) _ ⟨0, rfl, rfl, (by simp (disch := first | omega | (simp; done) | fail) [wrap64c, if_pos, if_neg, g_h0, lL, lA, c2b, q_x, g_x, l_x, r_x, z_x, q_y, g_y, l_y, r_y, z_y, e1, e3, e4, e31, e32, e33, hlt, hlt2, e63, e64, e65, lu, q_u, g_u, l_u, r_u, z_u]), (by first | omega | assumption | (simp (disch := first | omega | (simp; done) | fail) [wrap64c, if_pos, if_neg, g_h0, lL, lA, c2b, q_x, g_x, l_x, r_x, z_x, q_y, g_y, l_y, r_y, z_y, e1, e3, e4, e31, e32, e33, hlt, hlt2, e63, e64, e65, lu, q_u, g_u, l_u, r_u, z_u] <;> omega)), (by intro i h0; omega)⟩ ?_
            rintro m tm h' hFr ⟨k, rfl, rfl, e72, hk, hz⟩
            simp only [FrameL] at hFr
            obtain ⟨f1_2, f4_2, f7_2, f63_2, f64_2, f65_2, f70_2, f71_2, -⟩ := hFr
            try simp (disch := first | omega | (simp; done) | fail) [wrap64c, if_pos, if_neg, g_h0, lL, lA, c2b, q_x, g_x, l_x, r_x, z_x, q_y, g_y, l_y, r_y, z_y, e1, e3, e4, e31, e32, e33, hlt, hlt2, e63, e64, e65, lu, q_u, g_u, l_u, r_u, z_u] at f1_2 f4_2 f7_2 f63_2 f64_2 f65_2 f70_2 f71_2
            have e1 := f1_2
            have e4 := f4_2
            have e7 := f7_2
            have e63 := f63_2
            have e64 := f64_2
            have e65 := f65_2
            have e70 := f70_2
            have e71 := f71_2
            by_cases hlt3 : k < L[j].length
            · have hkL : k < L.length := by omega
              have hrk := hrow k hkL
              have hjk : j < L[k].length := by omega
              obtain ⟨o_w, i_w, c_w, cs_w, own_w, ex_w, es_w, q_w, b_w, g_w, l_w, r_w⟩ := (R_x k hkL).open ((by omega))
              have z_w : ∀ h2 : i_w < cs_w.length, cs_w[i_w] = _ := fun h2 => r_w 0 ((by omega)) h2
              have ed1 := el_eq hlt hlt3
              have ed2 := el_eq hkL hjk
              by_cases hq : L[k][j] = L[j][k]
              · have hqb : (L[k][j] != L[j][k]) = false := by simp [hq]
                try simp (disch := first | omega | (simp; done) | fail) [wrap64c, if_pos, if_neg, g_h0, lL, lA, c2b, q_x, g_x, l_x, r_x, z_x, q_y, g_y, l_y, r_y, z_y, e1, e3, e4, e31, e32, e33, hlt, hlt2, e63, e64, e65, lu, q_u, g_u, l_u, r_u, z_u, e7, e70, e71, e72, hlt3, hkL, hjk, q_w, g_w, l_w, r_w, z_w, hqb]
                refine loopK_next _ ?hm ?hf ⟨k + 1, rfl, rfl, (by simp (disch := first | omega | (simp; done) | fail) [wrap64c, if_pos, if_neg, g_h0, lL, lA, c2b, q_x, g_x, l_x, r_x, z_x, q_y, g_y, l_y, r_y, z_y, e1, e3, e4, e31, e32, e33, hlt, hlt2, e63, e64, e65, lu, q_u, g_u, l_u, r_u, z_u, e7, e70, e71, e72, hlt3, hkL, hjk, q_w, g_w, l_w, r_w, z_w, hqb] <;> omega), (by first | omega | assumption | (simp (disch := first | omega | (simp; done) | fail) [wrap64c, if_pos, if_neg, g_h0, lL, lA, c2b, q_x, g_x, l_x, r_x, z_x, q_y, g_y, l_y, r_y, z_y, e1, e3, e4, e31, e32, e33, hlt, hlt2, e63, e64, e65, lu, q_u, g_u, l_u, r_u, z_u, e7, e70, e71, e72, hlt3, hkL, hjk, q_w, g_w, l_w, r_w, z_w, hqb] <;> omega)), ?c_hz⟩
                (case hm => first | omega | (simp; omega))
                (case hf => simp [FrameL, g_h0, lL, lA, c2b, q_x, g_x, l_x, r_x, z_x, q_y, g_y, l_y, r_y, z_y, e1, e3, e4, e31, e32, e33, hlt, hlt2, e63, e64, e65, lu, q_u, g_u, l_u, r_u, z_u, e7, e70, e71, e72, hlt3, hkL, hjk, q_w, g_w, l_w, r_w, z_w, hqb, f1_2, f4_2, f7_2, f63_2, f64_2, f65_2, f70_2, f71_2])
                case c_hz =>
                  exact (fun i hi => by
                    rcases Nat.lt_succ_iff_lt_or_eq.1 hi with q | q
                    · exact hz i q
                    · subst q; rw [ed1, ed2, hq])
              · have hqb : (L[k][j] != L[j][k]) = true := by simp [hq]
                try simp (disch := first | omega | (simp; done) | fail) [wrap64c, if_pos, if_neg, g_h0, lL, lA, c2b, q_x, g_x, l_x, r_x, z_x, q_y, g_y, l_y, r_y, z_y, e1, e3, e4, e31, e32, e33, hlt, hlt2, e63, e64, e65, lu, q_u, g_u, l_u, r_u, z_u, e7, e70, e71, e72, hlt3, hkL, hjk, q_w, g_w, l_w, r_w, z_w, hqb]
                exact done_ret rfl (by rw [goodB_false fun q => hq (by rw [← ed1, ← ed2]; exact q.2.2.2.2.1 k (by omega) j (by omega))]; simp [k0])
            · try simp (disch := first | omega | (simp; done) | fail) [wrap64c, if_pos, if_neg, g_h0, lL, lA, c2b, q_x, g_x, l_x, r_x, z_x, q_y, g_y, l_y, r_y, z_y, e1, e3, e4, e31, e32, e33, hlt, hlt2, e63, e64, e65, lu, q_u, g_u, l_u, r_u, z_u, e7, e70, e71, e72, hlt3]
              refine loopK_next _ ?hm ?hf ⟨j + 1, rfl, rfl, (by simp (disch := first | omega | (simp; done) | fail) [wrap64c, if_pos, if_neg, g_h0, lL, lA, c2b, q_x, g_x, l_x, r_x, z_x, q_y, g_y, l_y, r_y, z_y, e1, e3, e4, e31, e32, e33, hlt, hlt2, e63, e64, e65, lu, q_u, g_u, l_u, r_u, z_u, e7, e70, e71, e72, hlt3] <;> omega), (by first | omega | assumption | (simp (disch := first | omega | (simp; done) | fail) [wrap64c, if_pos, if_neg, g_h0, lL, lA, c2b, q_x, g_x, l_x, r_x, z_x, q_y, g_y, l_y, r_y, z_y, e1, e3, e4, e31, e32, e33, hlt, hlt2, e63, e64, e65, lu, q_u, g_u, l_u, r_u, z_u, e7, e70, e71, e72, hlt3] <;> omega)), ?c_hy⟩
              (case hm => first | omega | (simp; omega))
              (case hf => simp [FrameL, g_h0, lL, lA, c2b, q_x, g_x, l_x, r_x, z_x, q_y, g_y, l_y, r_y, z_y, e1, e3, e4, e31, e32, e33, hlt, hlt2, e63, e64, e65, lu, q_u, g_u, l_u, r_u, z_u, e7, e70, e71, e72, hlt3, f1_1, f4_1, f63_1, f64_1])
              case c_hy =>
                exact (fun i hi k' hk' => by
                  rcases Nat.lt_succ_iff_lt_or_eq.1 hi with q | q
                  · exact hy i q k' hk'
                  · subst q; exact hz k' (by omega))
          · try simp (disch := first | omega | (simp; done) | fail) [wrap64c, if_pos, if_neg, g_h0, lL, lA, c2b, q_x, g_x, l_x, r_x, z_x, q_y, g_y, l_y, r_y, z_y, e1, e3, e4, e31, e32, e33, hlt, hlt2, e63, e64, e65]
            have hgood : goodB L A = decide (A.sum ≤ 30) := by
              by_cases hs : A.sum ≤ 30
              · rw [goodB_true ⟨by omega, c2, c3, fun r hr => ?_, fun i hi k hk => hy i (by omega) k hk, fun i hi => (hx i (by omega) hi).2.2, hs⟩, decide_eq_true hs]
                obtain ⟨i, hi, rfl⟩ := List.getElem_of_mem hr
                exact ⟨(hx i hi (by omega)).1, (hx i hi (by omega)).2.1⟩
              · rw [goodB_false fun q => hs q.2.2.2.2.2.2, decide_eq_false hs]
            exact done_ret rfl (by rw [hgood]; simp [k0])
      · have hc := l1All_ok h0 _ A 0 30 hA
        rw [decide_eq_false c3] at hc
        refine callG_c (by simp) (by simp) ?ha (hc) ?_
        (case ha => simp (disch := first | omega | (simp; done) | fail) [wrap64c, if_pos, if_neg, g_h0, lL, lA, c2b])
        try simp (disch := first | omega | (simp; done) | fail) [wrap64c, if_pos, if_neg, g_h0, lL, lA, c2b]
        exact done_ret rfl (by rw [goodB_false fun q => c3 q.2.2.1]; simp [k0])
    · have c2b : ((L.length : Int) != (A.length : Int)) = true := by simp [c2]
      try simp (disch := first | omega | (simp; done) | fail) [wrap64c, if_pos, if_neg, g_h0, lL, lA, c2b]
      exact done_ret rfl (by rw [goodB_false fun q => c2 q.2.1]; simp [k0])
  · have hc := l1In_ok h0 A.length 1 5
    rw [decide_eq_false c1] at hc
    refine callG_c (by simp) (by simp) ?ha (hc) ?_
    (case ha => simp (disch := first | omega | (simp; done) | fail) [wrap64c, if_pos, if_neg, g_h0, lL, lA])
    try simp (disch := first | omega | (simp; done) | fail) [wrap64c, if_pos, if_neg, g_h0, lL, lA]
    exact done_ret rfl (by rw [goodB_false fun q => c1 (by have := q.1; omega)]; simp [k0])
theorem within_ok (h : Hp) (a b c : Int) : CallOK Try.prog 51 #[.int .i64 a, .int .i64 b, .int .i64 c] h (.bool (decide (b ≤ a ∧ a ≤ c))) h := by
  refine callY_P 15 _ [.tmp 6] Try.func51 rfl rfl rfl (by first | rfl | simp) ?_
  by_cases hc : b ≤ a
  · try simp (disch := first | omega | (simp; done) | fail) [wrap64c, if_pos, if_neg, hc]
    exact done_ret rfl (by simp [hc])
  · try simp (disch := first | omega | (simp; done) | fail) [wrap64c, if_pos, if_neg, hc]
    exact done_ret rfl (by simp [hc])
set_option maxHeartbeats 4000000 in
theorem imAreChips_ok (h : Hp) (v : Value) (L : List (List Int)) (A : List Int) (hv : Chips h v L A) : CallOK Try.prog 18 #[v] h (.bool (goodB L A)) h := by
  refine callY_P 96 _ [.tmp 2] Try.func18 rfl rfl rfl (by first | rfl | simp) ?_
  obtain ⟨a, b, rfl, hL, hA⟩ := hv
  refine WD_first ?_
  try simp (disch := first | omega | (simp; done) | fail) [wrap64c, if_pos, if_neg]
  refine stopK_heap fun h0 q_h0 => ?_
  refine stopK_go ?_
  have g_h0 : h0.get h.next = .cells [a, b] true true 1 := by simp [q_h0]
  have k_h0 : Adds h h0 := by rw [q_h0]; exact (by first | exact aK | exact kK)
  have n_h0 : h.next < h0.next := by simp [q_h0]; try omega
  have k0 := k_h0.1
  replace hL := hL.keep k0
  replace hA := hA.keep k0
  have lL := hL.lenD
  have lA := hA.lenD
  try simp (disch := first | omega | (simp; done) | fail) [wrap64c, if_pos, if_neg, g_h0, lL, lA]
  by_cases c1 : 1 ≤ (A.length : Int) ∧ (A.length : Int) ≤ 5
  · have hc := within_ok h0 A.length 1 5
    rw [decide_eq_true c1] at hc
    refine callG_c (by simp) (by simp) ?ha (hc) ?_
    (case ha => simp (disch := first | omega | (simp; done) | fail) [wrap64c, if_pos, if_neg, g_h0, lL, lA])
    by_cases c2 : L.length = A.length
    · have c2b : ((L.length : Int) != (A.length : Int)) = false := by simp [c2]
      obtain ⟨o_x, i_x, c_x, cs_x, own_x, ex_x, es_x, us_x, q_x, b_x, g_x, l_x, r_x, R_x⟩ := hL.open ((by omega))
      have z_x : ∀ h2 : i_x < cs_x.length, cs_x[i_x] = _ := fun h2 => r_x 0 ((by omega)) h2
      obtain ⟨o_y, i_y, c_y, cs_y, own_y, ex_y, es_y, q_y, b_y, g_y, l_y, r_y⟩ := hA.open ((by omega))
      have z_y : ∀ h2 : i_y < cs_y.length, cs_y[i_y] = _ := fun h2 => r_y 0 ((by omega)) h2
      try simp (disch := first | omega | (simp; done) | fail) [wrap64c, if_pos, if_neg, g_h0, lL, lA, c2b, q_x, g_x, l_x, r_x, z_x, q_y, g_y, l_y, r_y, z_y]
      refine WD_loopC [1, 3, 25, 26] (fun m tm h' => ∃ j, m = A.length - j ∧ h0 = h' ∧ tm 4 = .int .i64 (A.take j).sum ∧ tm 27 = .int .i64 (j : Int) ∧ (j ≤ A.length) ∧ (∀ i (hi : i < L.length), i < j → L[i].length = A.length) ∧ (∀ i (hi : i < A.length), i < j → 0 ≤ A[i] ∧ A[i] ≤ 30) ∧ (0 ≤ (A.take j).sum ∧ (A.take j).sum ≤ 30 * (j : Int))) _ ⟨0, rfl, rfl, (by simp (disch := first | omega | (simp; done) | fail) [wrap64c, if_pos, if_neg, g_h0, lL, lA, c2b, q_x, g_x, l_x, r_x, z_x, q_y, g_y, l_y, r_y, z_y]), (by simp (disch := first | omega | (simp; done) | fail) [wrap64c, if_pos, if_neg, g_h0, lL, lA, c2b, q_x, g_x, l_x, r_x, z_x, q_y, g_y, l_y, r_y, z_y]), (by first | omega | assumption | (simp (disch := first | omega | (simp; done) | fail) [wrap64c, if_pos, if_neg, g_h0, lL, lA, c2b, q_x, g_x, l_x, r_x, z_x, q_y, g_y, l_y, r_y, z_y] <;> omega)), (by intro i hi h0; omega), (by intro i hi h0; omega), (by simp)⟩ ?_
      rintro m tm h' hFr ⟨j, rfl, rfl, e4, e27, hj, hx, hx2, hs⟩
      simp only [FrameL] at hFr
      obtain ⟨f1_0, f3_0, f25_0, f26_0, -⟩ := hFr
      try simp (disch := first | omega | (simp; done) | fail) [wrap64c, if_pos, if_neg, g_h0, lL, lA, c2b, q_x, g_x, l_x, r_x, z_x, q_y, g_y, l_y, r_y, z_y] at f1_0 f3_0 f25_0 f26_0
      have e1 := f1_0
      have e3 := f3_0
      have e25 := f25_0
      have e26 := f26_0
      by_cases hlt : j < A.length
      · have hlt2 : j < L.length := by omega
        have hu := R_x j hlt2
        have lu := hu.lenD
        by_cases d1 : L[j].length = A.length
        · have d1b : ((L[j].length : Int) != (A.length : Int)) = false := by simp [d1]
          try simp (disch := first | omega | (simp; done) | fail) [wrap64c, if_pos, if_neg, g_h0, lL, lA, c2b, q_x, g_x, l_x, r_x, z_x, q_y, g_y, l_y, r_y, z_y, e1, e3, e4, e25, e26, e27, hlt, hlt2, lu, d1b]
          have hc := within_ok h0 A[j] 0 30
          by_cases b2 : 0 ≤ A[j] ∧ A[j] ≤ 30
          · rw [decide_eq_true b2] at hc
            refine callG_c (by simp) (by simp) ?ha (hc) ?_
            (case ha => simp (disch := first | omega | (simp; done) | fail) [wrap64c, if_pos, if_neg, g_h0, lL, lA, c2b, q_x, g_x, l_x, r_x, z_x, q_y, g_y, l_y, r_y, z_y, e1, e3, e4, e25, e26, e27, hlt, hlt2, lu, d1b])
            try simp (disch := first | omega | (simp; done) | fail) [wrap64c, if_pos, if_neg, g_h0, lL, lA, c2b, q_x, g_x, l_x, r_x, z_x, q_y, g_y, l_y, r_y, z_y, e1, e3, e4, e25, e26, e27, hlt, hlt2, lu, d1b]
            refine loopK_next _ ?hm ?hf ⟨j + 1, rfl, rfl, (by simp [sum_step hlt]), (by simp (disch := first | omega | (simp; done) | fail) [wrap64c, if_pos, if_neg, g_h0, lL, lA, c2b, q_x, g_x, l_x, r_x, z_x, q_y, g_y, l_y, r_y, z_y, e1, e3, e4, e25, e26, e27, hlt, hlt2, lu, d1b] <;> omega), (by first | omega | assumption | (simp (disch := first | omega | (simp; done) | fail) [wrap64c, if_pos, if_neg, g_h0, lL, lA, c2b, q_x, g_x, l_x, r_x, z_x, q_y, g_y, l_y, r_y, z_y, e1, e3, e4, e25, e26, e27, hlt, hlt2, lu, d1b] <;> omega)), ?c_hx, ?c_hx2, (by rw [sum_step hlt]; omega)⟩
            (case hm => first | omega | (simp; omega))
            (case hf => simp [FrameL, g_h0, lL, lA, c2b, q_x, g_x, l_x, r_x, z_x, q_y, g_y, l_y, r_y, z_y, e1, e3, e4, e25, e26, e27, hlt, hlt2, lu, d1b, f1_0, f3_0, f25_0, f26_0])
            case c_hx =>
              exact (fun i hi hij => by
                rcases Nat.lt_succ_iff_lt_or_eq.1 hij with q | q
                · exact hx i hi q
                · subst q; exact d1)
            case c_hx2 =>
              exact (fun i hi hij => by
                rcases Nat.lt_succ_iff_lt_or_eq.1 hij with q | q
                · exact hx2 i hi q
                · subst q; exact b2)
          · rw [decide_eq_false b2] at hc
            refine callG_c (by simp) (by simp) ?ha (hc) ?_
            (case ha => simp (disch := first | omega | (simp; done) | fail) [wrap64c, if_pos, if_neg, g_h0, lL, lA, c2b, q_x, g_x, l_x, r_x, z_x, q_y, g_y, l_y, r_y, z_y, e1, e3, e4, e25, e26, e27, hlt, hlt2, lu, d1b])
            try simp (disch := first | omega | (simp; done) | fail) [wrap64c, if_pos, if_neg, g_h0, lL, lA, c2b, q_x, g_x, l_x, r_x, z_x, q_y, g_y, l_y, r_y, z_y, e1, e3, e4, e25, e26, e27, hlt, hlt2, lu, d1b]
            exact done_ret rfl (by rw [goodB_false fun q => b2 (q.2.2.1 _ (List.getElem_mem hlt))]; simp [k0])
        · have d1b : ((L[j].length : Int) != (A.length : Int)) = true := by simp [d1]
          try simp (disch := first | omega | (simp; done) | fail) [wrap64c, if_pos, if_neg, g_h0, lL, lA, c2b, q_x, g_x, l_x, r_x, z_x, q_y, g_y, l_y, r_y, z_y, e1, e3, e4, e25, e26, e27, hlt, hlt2, lu, d1b]
          exact done_ret rfl (by rw [goodB_false fun q => d1 (q.2.2.2.1 _ (List.getElem_mem hlt2)).1]; simp [k0])
      · have hlt2 : ¬ j < L.length := by omega
        try simp (disch := first | omega | (simp; done) | fail) [wrap64c, if_pos, if_neg, g_h0, lL, lA, c2b, q_x, g_x, l_x, r_x, z_x, q_y, g_y, l_y, r_y, z_y, e1, e3, e4, e25, e26, e27, hlt, hlt2]
        have hj' : j = A.length := by omega
        subst hj'
        rw [List.take_length] at e4 hs
        have c3 : ∀ x ∈ A, 0 ≤ x ∧ x ≤ 30 := fun x hx' => by
          obtain ⟨i, hi, rfl⟩ := List.getElem_of_mem hx'
          exact hx2 i hi hi
        have hrow : ∀ i (hi : i < L.length), L[i].length = A.length := fun i hi => hx i hi (by omega)
        refine WD_loopC [1, 4, 54, 55] (fun m tm h' => ∃ j, m = L.length - j ∧ h0 = h' ∧ tm 56 = .int .i64 (j : Int) ∧ (j ≤ L.length) ∧ (∀ i (hi : i < L.length), i < j → ∀ k, (hk : k < L[i].length) → (0 ≤ L[i][k] ∧ L[i][k] ≤ 3) ∧ el L i k = el L k i ∧ (i = k → el L i k = 0))) _ ⟨0, rfl, rfl, (by simp (disch := first | omega | (simp; done) | fail) [wrap64c, if_pos, if_neg, g_h0, lL, lA, c2b, q_x, g_x, l_x, r_x, z_x, q_y, g_y, l_y, r_y, z_y, e1, e3, e4, e25, e26, e27, hlt, hlt2]), (by first | omega | assumption | (simp (disch := first | omega | (simp; done) | fail) [wrap64c, if_pos, if_neg, g_h0, lL, lA, c2b, q_x, g_x, l_x, r_x, z_x, q_y, g_y, l_y, r_y, z_y, e1, e3, e4, e25, e26, e27, hlt, hlt2] <;> omega)), (by intro i hi h0; omega)⟩ ?_
        rintro m tm h' hFr ⟨j, rfl, rfl, e56, hj, hy⟩
        simp only [FrameL] at hFr
        obtain ⟨f1_1, f4_1, f54_1, f55_1, -⟩ := hFr
        try simp (disch := first | omega | (simp; done) | fail) [wrap64c, if_pos, if_neg, g_h0, lL, lA, c2b, q_x, g_x, l_x, r_x, z_x, q_y, g_y, l_y, r_y, z_y, e1, e3, e4, e25, e26, e27, hlt, hlt2] at f1_1 f4_1 f54_1 f55_1
        have e1 := f1_1
        have e4 := f4_1
        have e54 := f54_1
        have e55 := f55_1
        by_cases hlt : j < L.length
        · have hrj := hrow j hlt
          have hu := R_x j hlt
          have lu := hu.lenD
          obtain ⟨o_u, i_u, c_u, cs_u, own_u, ex_u, es_u, q_u, b_u, g_u, l_u, r_u⟩ := hu.open ((by omega))
          have z_u : ∀ h2 : i_u < cs_u.length, cs_u[i_u] = _ := fun h2 => r_u 0 ((by omega)) h2
          try simp (disch := first | omega | (simp; done) | fail) [wrap64c, if_pos, if_neg, g_h0, lL, lA, c2b, q_x, g_x, l_x, r_x, z_x, q_y, g_y, l_y, r_y, z_y, e1, e3, e4, e25, e26, e27, hlt, hlt2, e54, e55, e56, lu, q_u, g_u, l_u, r_u, z_u]
          refine WD_loopC [1, 4, 7, 54, 55, 56, 61, 62] (fun m tm h' => ∃ k, m = L[j].length - k ∧ h0 = h' ∧ tm 63 = .int .i64 (k : Int) ∧ (k ≤ L[j].length) ∧ (∀ i (hi : i < L[j].length), i < k → (0 ≤ L[j][i] ∧ L[j][i] ≤ 3) ∧ el L j i = el L i j ∧ (j = i → el L j i = 0))) _ ⟨0, rfl, rfl, (by simp (disch := first | omega | (simp; done) | fail) [wrap64c, if_pos, if_neg, g_h0, lL, lA, c2b, q_x, g_x, l_x, r_x, z_x, q_y, g_y, l_y, r_y, z_y, e1, e3, e4, e25, e26, e27, hlt, hlt2, e54, e55, e56, lu, q_u, g_u, l_u, r_u, z_u]), (by first | omega | assumption | (simp (disch := first | omega | (simp; done) | fail) [wrap64c, if_pos, if_neg, g_h0, lL, lA, c2b, q_x, g_x, l_x, r_x, z_x, q_y, g_y, l_y, r_y, z_y, e1, e3, e4, e25, e26, e27, hlt, hlt2, e54, e55, e56, lu, q_u, g_u, l_u, r_u, z_u] <;> omega)), (by intro i hi h0; omega)⟩ ?_
          rintro m tm h' hFr ⟨k, rfl, rfl, e63, hk, hz⟩
          simp only [FrameL] at hFr
          obtain ⟨f1_2, f4_2, f7_2, f54_2, f55_2, f56_2, f61_2, f62_2, -⟩ := hFr
          try simp (disch := first | omega | (simp; done) | fail) [wrap64c, if_pos, if_neg, g_h0, lL, lA, c2b, q_x, g_x, l_x, r_x, z_x, q_y, g_y, l_y, r_y, z_y, e1, e3, e4, e25, e26, e27, hlt, hlt2, e54, e55, e56, lu, q_u, g_u, l_u, r_u, z_u] at f1_2 f4_2 f7_2 f54_2 f55_2 f56_2 f61_2 f62_2
          have e1 := f1_2
          have e4 := f4_2
          have e7 := f7_2
          have e54 := f54_2
          have e55 := f55_2
          have e56 := f56_2
          have e61 := f61_2
          have e62 := f62_2
          by_cases hlt3 : k < L[j].length
          · have hkL : k < L.length := by omega
            have hrk := hrow k hkL
            have hjk : j < L[k].length := by omega
            obtain ⟨o_w, i_w, c_w, cs_w, own_w, ex_w, es_w, q_w, b_w, g_w, l_w, r_w⟩ := (R_x k hkL).open ((by omega))
            have z_w : ∀ h2 : i_w < cs_w.length, cs_w[i_w] = _ := fun h2 => r_w 0 ((by omega)) h2
            have ed1 := el_eq hlt hlt3
            have ed2 := el_eq hkL hjk
            try simp (disch := first | omega | (simp; done) | fail) [wrap64c, if_pos, if_neg, g_h0, lL, lA, c2b, q_x, g_x, l_x, r_x, z_x, q_y, g_y, l_y, r_y, z_y, e1, e3, e4, e25, e26, e27, hlt, hlt2, e54, e55, e56, lu, q_u, g_u, l_u, r_u, z_u, e7, e61, e62, e63, hlt3, hkL, hjk, q_w, g_w, l_w, r_w, z_w]
            have hc := within_ok h0 L[j][k] 0 3
            by_cases b2 : 0 ≤ L[j][k] ∧ L[j][k] ≤ 3
            · rw [decide_eq_true b2] at hc
              refine callG_c (by simp) (by simp) ?ha (hc) ?_
              (case ha => simp (disch := first | omega | (simp; done) | fail) [wrap64c, if_pos, if_neg, g_h0, lL, lA, c2b, q_x, g_x, l_x, r_x, z_x, q_y, g_y, l_y, r_y, z_y, e1, e3, e4, e25, e26, e27, hlt, hlt2, e54, e55, e56, lu, q_u, g_u, l_u, r_u, z_u, e7, e61, e62, e63, hlt3, hkL, hjk, q_w, g_w, l_w, r_w, z_w])
              by_cases hq : L[j][k] = L[k][j]
              · have hqb : (L[j][k] != L[k][j]) = false := by simp [hq]
                by_cases hjk2 : j = k
                · have hjb : ((j : Int) == (k : Int)) = true := by simp [hjk2]
                  by_cases hz0 : L[j][k] = 0
                  · have hzb : (L[j][k] != 0) = false := by simp [hz0]
                    try simp (disch := first | omega | (simp; done) | fail) [wrap64c, if_pos, if_neg, g_h0, lL, lA, c2b, q_x, g_x, l_x, r_x, z_x, q_y, g_y, l_y, r_y, z_y, e1, e3, e4, e25, e26, e27, hlt, hlt2, e54, e55, e56, lu, q_u, g_u, l_u, r_u, z_u, e7, e61, e62, e63, hlt3, hkL, hjk, q_w, g_w, l_w, r_w, z_w, hqb, hjb, hzb]
                    refine loopK_next _ ?hm ?hf ⟨k + 1, rfl, rfl, (by simp (disch := first | omega | (simp; done) | fail) [wrap64c, if_pos, if_neg, g_h0, lL, lA, c2b, q_x, g_x, l_x, r_x, z_x, q_y, g_y, l_y, r_y, z_y, e1, e3, e4, e25, e26, e27, hlt, hlt2, e54, e55, e56, lu, q_u, g_u, l_u, r_u, z_u, e7, e61, e62, e63, hlt3, hkL, hjk, q_w, g_w, l_w, r_w, z_w, hqb, hjb, hzb] <;> omega), (by first | omega | assumption | (simp (disch := first | omega | (simp; done) | fail) [wrap64c, if_pos, if_neg, g_h0, lL, lA, c2b, q_x, g_x, l_x, r_x, z_x, q_y, g_y, l_y, r_y, z_y, e1, e3, e4, e25, e26, e27, hlt, hlt2, e54, e55, e56, lu, q_u, g_u, l_u, r_u, z_u, e7, e61, e62, e63, hlt3, hkL, hjk, q_w, g_w, l_w, r_w, z_w, hqb, hjb, hzb] <;> omega)), ?c_hz⟩
                    (case hm => first | omega | (simp; omega))
                    (case hf => simp [FrameL, g_h0, lL, lA, c2b, q_x, g_x, l_x, r_x, z_x, q_y, g_y, l_y, r_y, z_y, e1, e3, e4, e25, e26, e27, hlt, hlt2, e54, e55, e56, lu, q_u, g_u, l_u, r_u, z_u, e7, e61, e62, e63, hlt3, hkL, hjk, q_w, g_w, l_w, r_w, z_w, hqb, hjb, hzb, f1_2, f4_2, f7_2, f54_2, f55_2, f56_2, f61_2, f62_2])
                    case c_hz =>
                      exact (fun i hi hik => by
                        rcases Nat.lt_succ_iff_lt_or_eq.1 hik with q | q
                        · exact hz i hi q
                        · subst q; exact ⟨b2, by rw [ed1, ed2, hq], fun _ => by rw [ed1, hz0]⟩)
                  · have hzb : (L[j][k] != 0) = true := by simp [hz0]
                    try simp (disch := first | omega | (simp; done) | fail) [wrap64c, if_pos, if_neg, g_h0, lL, lA, c2b, q_x, g_x, l_x, r_x, z_x, q_y, g_y, l_y, r_y, z_y, e1, e3, e4, e25, e26, e27, hlt, hlt2, e54, e55, e56, lu, q_u, g_u, l_u, r_u, z_u, e7, e61, e62, e63, hlt3, hkL, hjk, q_w, g_w, l_w, r_w, z_w, hqb, hjb, hzb]
                    exact done_ret rfl (by rw [goodB_false fun q => hz0 (by rw [← ed1, ← hjk2]; exact q.2.2.2.2.2.1 j (by omega))]; simp [k0])
                · have hjb : ((j : Int) == (k : Int)) = false := by simp [hjk2]
                  try simp (disch := first | omega | (simp; done) | fail) [wrap64c, if_pos, if_neg, g_h0, lL, lA, c2b, q_x, g_x, l_x, r_x, z_x, q_y, g_y, l_y, r_y, z_y, e1, e3, e4, e25, e26, e27, hlt, hlt2, e54, e55, e56, lu, q_u, g_u, l_u, r_u, z_u, e7, e61, e62, e63, hlt3, hkL, hjk, q_w, g_w, l_w, r_w, z_w, hqb, hjb]
                  refine loopK_next _ ?hm ?hf ⟨k + 1, rfl, rfl, (by simp (disch := first | omega | (simp; done) | fail) [wrap64c, if_pos, if_neg, g_h0, lL, lA, c2b, q_x, g_x, l_x, r_x, z_x, q_y, g_y, l_y, r_y, z_y, e1, e3, e4, e25, e26, e27, hlt, hlt2, e54, e55, e56, lu, q_u, g_u, l_u, r_u, z_u, e7, e61, e62, e63, hlt3, hkL, hjk, q_w, g_w, l_w, r_w, z_w, hqb, hjb] <;> omega), (by first | omega | assumption | (simp (disch := first | omega | (simp; done) | fail) [wrap64c, if_pos, if_neg, g_h0, lL, lA, c2b, q_x, g_x, l_x, r_x, z_x, q_y, g_y, l_y, r_y, z_y, e1, e3, e4, e25, e26, e27, hlt, hlt2, e54, e55, e56, lu, q_u, g_u, l_u, r_u, z_u, e7, e61, e62, e63, hlt3, hkL, hjk, q_w, g_w, l_w, r_w, z_w, hqb, hjb] <;> omega)), ?c_hz⟩
                  (case hm => first | omega | (simp; omega))
                  (case hf => simp [FrameL, g_h0, lL, lA, c2b, q_x, g_x, l_x, r_x, z_x, q_y, g_y, l_y, r_y, z_y, e1, e3, e4, e25, e26, e27, hlt, hlt2, e54, e55, e56, lu, q_u, g_u, l_u, r_u, z_u, e7, e61, e62, e63, hlt3, hkL, hjk, q_w, g_w, l_w, r_w, z_w, hqb, hjb, f1_2, f4_2, f7_2, f54_2, f55_2, f56_2, f61_2, f62_2])
                  case c_hz =>
                    exact (fun i hi hik => by
                      rcases Nat.lt_succ_iff_lt_or_eq.1 hik with q | q
                      · exact hz i hi q
                      · subst q; exact ⟨b2, by rw [ed1, ed2, hq], fun q => absurd q hjk2⟩)
              · have hqb : (L[j][k] != L[k][j]) = true := by simp [hq]
                try simp (disch := first | omega | (simp; done) | fail) [wrap64c, if_pos, if_neg, g_h0, lL, lA, c2b, q_x, g_x, l_x, r_x, z_x, q_y, g_y, l_y, r_y, z_y, e1, e3, e4, e25, e26, e27, hlt, hlt2, e54, e55, e56, lu, q_u, g_u, l_u, r_u, z_u, e7, e61, e62, e63, hlt3, hkL, hjk, q_w, g_w, l_w, r_w, z_w, hqb]
                exact done_ret rfl (by rw [goodB_false fun q => hq (by rw [← ed1, ← ed2]; exact q.2.2.2.2.1 j (by omega) k (by omega))]; simp [k0])
            · rw [decide_eq_false b2] at hc
              refine callG_c (by simp) (by simp) ?ha (hc) ?_
              (case ha => simp (disch := first | omega | (simp; done) | fail) [wrap64c, if_pos, if_neg, g_h0, lL, lA, c2b, q_x, g_x, l_x, r_x, z_x, q_y, g_y, l_y, r_y, z_y, e1, e3, e4, e25, e26, e27, hlt, hlt2, e54, e55, e56, lu, q_u, g_u, l_u, r_u, z_u, e7, e61, e62, e63, hlt3, hkL, hjk, q_w, g_w, l_w, r_w, z_w])
              try simp (disch := first | omega | (simp; done) | fail) [wrap64c, if_pos, if_neg, g_h0, lL, lA, c2b, q_x, g_x, l_x, r_x, z_x, q_y, g_y, l_y, r_y, z_y, e1, e3, e4, e25, e26, e27, hlt, hlt2, e54, e55, e56, lu, q_u, g_u, l_u, r_u, z_u, e7, e61, e62, e63, hlt3, hkL, hjk, q_w, g_w, l_w, r_w, z_w]
              exact done_ret rfl (by rw [goodB_false fun q => b2 ((q.2.2.2.1 _ (List.getElem_mem hlt)).2 _ (List.getElem_mem hlt3))]; simp [k0])
          · try simp (disch := first | omega | (simp; done) | fail) [wrap64c, if_pos, if_neg, g_h0, lL, lA, c2b, q_x, g_x, l_x, r_x, z_x, q_y, g_y, l_y, r_y, z_y, e1, e3, e4, e25, e26, e27, hlt, hlt2, e54, e55, e56, lu, q_u, g_u, l_u, r_u, z_u, e7, e61, e62, e63, hlt3]
            refine loopK_next _ ?hm ?hf ⟨j + 1, rfl, rfl, (by simp (disch := first | omega | (simp; done) | fail) [wrap64c, if_pos, if_neg, g_h0, lL, lA, c2b, q_x, g_x, l_x, r_x, z_x, q_y, g_y, l_y, r_y, z_y, e1, e3, e4, e25, e26, e27, hlt, hlt2, e54, e55, e56, lu, q_u, g_u, l_u, r_u, z_u, e7, e61, e62, e63, hlt3] <;> omega), (by first | omega | assumption | (simp (disch := first | omega | (simp; done) | fail) [wrap64c, if_pos, if_neg, g_h0, lL, lA, c2b, q_x, g_x, l_x, r_x, z_x, q_y, g_y, l_y, r_y, z_y, e1, e3, e4, e25, e26, e27, hlt, hlt2, e54, e55, e56, lu, q_u, g_u, l_u, r_u, z_u, e7, e61, e62, e63, hlt3] <;> omega)), ?c_hy⟩
            (case hm => first | omega | (simp; omega))
            (case hf => simp [FrameL, g_h0, lL, lA, c2b, q_x, g_x, l_x, r_x, z_x, q_y, g_y, l_y, r_y, z_y, e1, e3, e4, e25, e26, e27, hlt, hlt2, e54, e55, e56, lu, q_u, g_u, l_u, r_u, z_u, e7, e61, e62, e63, hlt3, f1_1, f4_1, f54_1, f55_1])
            case c_hy =>
              exact (fun i hi hij k' hk' => by
                rcases Nat.lt_succ_iff_lt_or_eq.1 hij with q | q
                · exact hy i hi q k' hk'
                · subst q; exact hz k' hk' (by omega))
        · try simp (disch := first | omega | (simp; done) | fail) [wrap64c, if_pos, if_neg, g_h0, lL, lA, c2b, q_x, g_x, l_x, r_x, z_x, q_y, g_y, l_y, r_y, z_y, e1, e3, e4, e25, e26, e27, hlt, hlt2, e54, e55, e56]
          have hgood : goodB L A = decide (A.sum ≤ 30) := by
            by_cases hs : A.sum ≤ 30
            · rw [goodB_true ⟨by omega, c2, c3, fun r hr => ?_, fun i hi k hk => ?_, fun i hi => ?_, hs⟩, decide_eq_true hs]
              · obtain ⟨i, hi, rfl⟩ := List.getElem_of_mem hr
                refine ⟨hrow i hi, fun x hx' => ?_⟩
                obtain ⟨k, hk, rfl⟩ := List.getElem_of_mem hx'
                exact (hy i hi (by omega) k hk).1
              · have hiL : i < L.length := by omega
                exact (hy i hiL (by omega) k (by rw [hrow i hiL]; exact hk)).2.1
              · have hiL : i < L.length := by omega
                exact (hy i hiL (by omega) i (by rw [hrow i hiL]; exact hi)).2.2 rfl
            · rw [goodB_false fun q => hs q.2.2.2.2.2.2, decide_eq_false hs]
          exact done_ret rfl (by rw [hgood]; simp [k0])
    · have c2b : ((L.length : Int) != (A.length : Int)) = true := by simp [c2]
      try simp (disch := first | omega | (simp; done) | fail) [wrap64c, if_pos, if_neg, g_h0, lL, lA, c2b]
      exact done_ret rfl (by rw [goodB_false fun q => c2 q.2.1]; simp [k0])
  · have hc := within_ok h0 A.length 1 5
    rw [decide_eq_false c1] at hc
    refine callG_c (by simp) (by simp) ?ha (hc) ?_
    (case ha => simp (disch := first | omega | (simp; done) | fail) [wrap64c, if_pos, if_neg, g_h0, lL, lA])
    try simp (disch := first | omega | (simp; done) | fail) [wrap64c, if_pos, if_neg, g_h0, lL, lA]
    exact done_ret rfl (by rw [goodB_false fun q => c1 (by have := q.1; omega)]; simp [k0])
end Go.Proofs.Ytnnjehonbolliaa
namespace Go.Proofs.Ytnnjehonbolliaa
set_option linter.unusedSimpArgs false
set_option linter.unusedVariables false
set_option maxHeartbeats 4000000
open Go Go.Eng
attribute [local irreducible] WD RunD PreD Runs CallOK
def deg (L : List (List Int)) (i : Nat) : Int := (L.getD i []).sum
structure Shape (L : List (List Int)) (n : Nat) : Prop where
  len : L.length = n
  le : n ≤ 5
  row : ∀ r ∈ L, r.length = n ∧ ∀ x ∈ r, 0 ≤ x ∧ x ≤ 3
theorem Good.shape {L : List (List Int)} {A : List Int} (h : Good L A) : Shape L A.length := ⟨h.2.1, h.1.2, h.2.2.2.1⟩
theorem Shape.at {L : List (List Int)} {n : Nat} (h : Shape L n) {i : Nat} (hi : i < L.length) : L[i].length = n ∧ ∀ x ∈ L[i], 0 ≤ x ∧ x ≤ 3 := h.row _ (List.getElem_mem hi)
theorem deg_eq {L : List (List Int)} {i : Nat} (hi : i < L.length) : deg L i = L[i].sum := by simp [deg, hi]
theorem Shape.deg {L : List (List Int)} {n : Nat} (h : Shape L n) {i : Nat} (hi : i < n) : 0 ≤ deg L i ∧ deg L i ≤ 15 := by
  have hi' : i < L.length := by have := h.len; omega
  rw [deg_eq hi']
  have h1 := h.at hi'
  have := sum_take (A := L[i]) (b := 3) (by omega) h1.2 L[i].length (Nat.le_refl _)
  rw [List.take_length] at this
  have := h.le
  omega
theorem waDegree_ok (h : Hp) (v : Value) (L : List (List Int)) (A : List Int) (n i : Nat) (hv : Chips h v L A) (hs : Shape L n) (hi : i < n) : CallOK Try.prog 97 #[v, .int .i64 i] h (.int .i64 (deg L i)) h := by
  refine callY_P 23 _ [.tmp 4] Try.func97 rfl rfl rfl (by first | rfl | simp) ?_
  obtain ⟨a, b, rfl, hL, hA⟩ := hv
  refine WD_first ?_
  try simp (disch := first | omega | (simp; done) | fail) [wrap64c, if_pos, if_neg]
  refine stopK_heap fun h0 q_h0 => ?_
  refine stopK_go ?_
  have g_h0 : h0.get h.next = .cells [a, b] true true 1 := by simp [q_h0]
  have k_h0 : Adds h h0 := by rw [q_h0]; exact (by first | exact aK | exact kK)
  have n_h0 : h.next < h0.next := by simp [q_h0]; try omega
  have k0 := k_h0.1
  have hi' : i < L.length := by have := hs.len; omega
  have h1 := hs.at hi'
  have h5 := hs.le
  obtain ⟨o_x, i_x, c_x, cs_x, own_x, ex_x, es_x, us_x, q_x, b_x, g_x, l_x, r_x, R_x⟩ := (hL.keep k0).open ((by omega))
  have z_x : ∀ h2 : i_x < cs_x.length, cs_x[i_x] = _ := fun h2 => r_x 0 ((by omega)) h2
  have hu := R_x i hi'
  have lu := hu.lenD
  try simp (disch := first | omega | (simp; done) | fail) [wrap64c, if_pos, if_neg, g_h0, q_x, g_x, l_x, r_x, z_x, lu]
  refine WD_loopC [12, 13] (fun m tm h' => ∃ j, m = L[i].length - j ∧ h0 = h' ∧ tm 5 = .int .i64 (L[i].take j).sum ∧ tm 14 = .int .i64 (j : Int) ∧ (j ≤ L[i].length)) _ ⟨0, rfl, rfl, (by simp (disch := first | omega | (simp; done) | fail) [wrap64c, if_pos, if_neg, g_h0, q_x, g_x, l_x, r_x, z_x, lu]), (by simp (disch := first | omega | (simp; done) | fail) [wrap64c, if_pos, if_neg, g_h0, q_x, g_x, l_x, r_x, z_x, lu]), (by first | omega | assumption | (simp (disch := first | omega | (simp; done) | fail) [wrap64c, if_pos, if_neg, g_h0, q_x, g_x, l_x, r_x, z_x, lu] <;> omega))⟩ ?_
  rintro m tm h' hFr ⟨j, rfl, rfl, e5, e14, hj⟩
  simp only [FrameL] at hFr
  obtain ⟨f12_0, f13_0, -⟩ := hFr
  try simp (disch := first | omega | (simp; done) | fail) [wrap64c, if_pos, if_neg, g_h0, q_x, g_x, l_x, r_x, z_x, lu] at f12_0 f13_0
  have e12 := f12_0
  have e13 := f13_0
  by_cases hlt : j < L[i].length
  · obtain ⟨o_u, i_u, c_u, cs_u, own_u, ex_u, es_u, q_u, b_u, g_u, l_u, r_u⟩ := hu.open ((by omega))
    have z_u : ∀ h2 : i_u < cs_u.length, cs_u[i_u] = _ := fun h2 => r_u 0 ((by omega)) h2
    have b1 := sum_take (by omega) h1.2 j (by omega)
    have b2 := h1.2 _ (List.getElem_mem hlt)
    try simp (disch := first | omega | (simp; done) | fail) [wrap64c, if_pos, if_neg, g_h0, q_x, g_x, l_x, r_x, z_x, lu, e5, e12, e13, e14, hlt, q_u, g_u, l_u, r_u, z_u]
    refine loopK_next _ ?hm ?hf ⟨j + 1, rfl, rfl, (by simp [sum_step hlt]), (by simp (disch := first | omega | (simp; done) | fail) [wrap64c, if_pos, if_neg, g_h0, q_x, g_x, l_x, r_x, z_x, lu, e5, e12, e13, e14, hlt, q_u, g_u, l_u, r_u, z_u] <;> omega), (by first | omega | assumption | (simp (disch := first | omega | (simp; done) | fail) [wrap64c, if_pos, if_neg, g_h0, q_x, g_x, l_x, r_x, z_x, lu, e5, e12, e13, e14, hlt, q_u, g_u, l_u, r_u, z_u] <;> omega))⟩
    (case hm => first | omega | (simp; omega))
    (case hf => simp [FrameL, g_h0, q_x, g_x, l_x, r_x, z_x, lu, e5, e12, e13, e14, hlt, q_u, g_u, l_u, r_u, z_u, f12_0, f13_0])
  · try simp (disch := first | omega | (simp; done) | fail) [wrap64c, if_pos, if_neg, g_h0, q_x, g_x, l_x, r_x, z_x, lu, e5, e12, e13, e14, hlt]
    have hj' : j = L[i].length := by omega
    subst hj'
    exact done_ret rfl (by simp [k0, deg_eq hi', e5])
theorem imDegree_ok (h : Hp) (v : Value) (L : List (List Int)) (A : List Int) (n i : Nat) (hv : Chips h v L A) (hs : Shape L n) (hi : i < n) : CallOK Try.prog 63 #[v, .int .i64 i] h (.int .i64 (deg L i)) h := by
  refine callY_P 23 _ [.tmp 4] Try.func63 rfl rfl rfl (by first | rfl | simp) ?_
  obtain ⟨a, b, rfl, hL, hA⟩ := hv
  refine WD_first ?_
  try simp (disch := first | omega | (simp; done) | fail) [wrap64c, if_pos, if_neg]
  refine stopK_heap fun h0 q_h0 => ?_
  refine stopK_go ?_
  have g_h0 : h0.get h.next = .cells [a, b] true true 1 := by simp [q_h0]
  have k_h0 : Adds h h0 := by rw [q_h0]; exact (by first | exact aK | exact kK)
  have n_h0 : h.next < h0.next := by simp [q_h0]; try omega
  have k0 := k_h0.1
  have hi' : i < L.length := by have := hs.len; omega
  have h1 := hs.at hi'
  have h5 := hs.le
  obtain ⟨o_x, i_x, c_x, cs_x, own_x, ex_x, es_x, us_x, q_x, b_x, g_x, l_x, r_x, R_x⟩ := (hL.keep k0).open ((by omega))
  have z_x : ∀ h2 : i_x < cs_x.length, cs_x[i_x] = _ := fun h2 => r_x 0 ((by omega)) h2
  have hu := R_x i hi'
  have lu := hu.lenD
  try simp (disch := first | omega | (simp; done) | fail) [wrap64c, if_pos, if_neg, g_h0, q_x, g_x, l_x, r_x, z_x, lu]
  refine WD_loopC [12, 13] (fun m tm h' => ∃ j, m = L[i].length - j ∧ h0 = h' ∧ tm 5 = .int .i64 (L[i].take j).sum ∧ tm 14 = .int .i64 (j : Int) ∧ (j ≤ L[i].length)) _ ⟨0, rfl, rfl, (by simp (disch := first | omega | (simp; done) | fail) [wrap64c, if_pos, if_neg, g_h0, q_x, g_x, l_x, r_x, z_x, lu]), (by simp (disch := first | omega | (simp; done) | fail) [wrap64c, if_pos, if_neg, g_h0, q_x, g_x, l_x, r_x, z_x, lu]), (by first | omega | assumption | (simp (disch := first | omega | (simp; done) | fail) [wrap64c, if_pos, if_neg, g_h0, q_x, g_x, l_x, r_x, z_x, lu] <;> omega))⟩ ?_
  rintro m tm h' hFr ⟨j, rfl, rfl, e5, e14, hj⟩
  simp only [FrameL] at hFr
  obtain ⟨f12_0, f13_0, -⟩ := hFr
  try simp (disch := first | omega | (simp; done) | fail) [wrap64c, if_pos, if_neg, g_h0, q_x, g_x, l_x, r_x, z_x, lu] at f12_0 f13_0
  have e12 := f12_0
  have e13 := f13_0
  by_cases hlt : j < L[i].length
  · obtain ⟨o_u, i_u, c_u, cs_u, own_u, ex_u, es_u, q_u, b_u, g_u, l_u, r_u⟩ := hu.open ((by omega))
    have z_u : ∀ h2 : i_u < cs_u.length, cs_u[i_u] = _ := fun h2 => r_u 0 ((by omega)) h2
    have b1 := sum_take (by omega) h1.2 j (by omega)
    have b2 := h1.2 _ (List.getElem_mem hlt)
    try simp (disch := first | omega | (simp; done) | fail) [wrap64c, if_pos, if_neg, g_h0, q_x, g_x, l_x, r_x, z_x, lu, e5, e12, e13, e14, hlt, q_u, g_u, l_u, r_u, z_u]
    refine loopK_next _ ?hm ?hf ⟨j + 1, rfl, rfl, (by simp [sum_step hlt]), (by simp (disch := first | omega | (simp; done) | fail) [wrap64c, if_pos, if_neg, g_h0, q_x, g_x, l_x, r_x, z_x, lu, e5, e12, e13, e14, hlt, q_u, g_u, l_u, r_u, z_u] <;> omega), (by first | omega | assumption | (simp (disch := first | omega | (simp; done) | fail) [wrap64c, if_pos, if_neg, g_h0, q_x, g_x, l_x, r_x, z_x, lu, e5, e12, e13, e14, hlt, q_u, g_u, l_u, r_u, z_u] <;> omega))⟩
    (case hm => first | omega | (simp; omega))
    (case hf => simp [FrameL, g_h0, q_x, g_x, l_x, r_x, z_x, lu, e5, e12, e13, e14, hlt, q_u, g_u, l_u, r_u, z_u, f12_0, f13_0])
  · try simp (disch := first | omega | (simp; done) | fail) [wrap64c, if_pos, if_neg, g_h0, q_x, g_x, l_x, r_x, z_x, lu, e5, e12, e13, e14, hlt]
    have hj' : j = L[i].length := by omega
    subst hj'
    exact done_ret rfl (by simp [k0, deg_eq hi', e5])
def canB (L : List (List Int)) (A : List Int) (i : Nat) : Bool := decide (1 ≤ deg L i ∧ deg L i ≤ A.getD i 0)
theorem waCan_ok (h : Hp) (v w : Value) (L : List (List Int)) (A0 A : List Int) (i : Nat) (hv : Chips h v L A0) (hw : Ints h w A) (hs : Shape L A.length) (hi : i < A.length) : CallOK Try.prog 61 #[v, w, .int .i64 i] h (.bool (canB L A i)) h := by
  refine callY_P 21 _ [.tmp 6] Try.func61 rfl rfl rfl (by first | rfl | simp) ?_
  have hv0 := hv
  obtain ⟨a, b, rfl, hL, hA⟩ := hv
  refine WD_first ?_
  try simp (disch := first | omega | (simp; done) | fail) [wrap64c, if_pos, if_neg]
  refine stopK_heap fun h0 q_h0 => ?_
  refine stopK_go ?_
  have g_h0 : h0.get h.next = .cells [a, b] true true 1 := by simp [q_h0]
  have k_h0 : Adds h h0 := by rw [q_h0]; exact (by first | exact aK | exact kK)
  have n_h0 : h.next < h0.next := by simp [q_h0]; try omega
  have k0 := k_h0.1
  have hv1 := hv0.keep k0
  obtain ⟨o_w, i_w, c_w, cs_w, own_w, ex_w, es_w, q_w, b_w, g_w, l_w, r_w⟩ := (hw.keep k0).open ((by omega))
  have z_w : ∀ h2 : i_w < cs_w.length, cs_w[i_w] = _ := fun h2 => r_w 0 ((by omega)) h2
  have hd := hs.deg hi
  try simp (disch := first | omega | (simp; done) | fail) [wrap64c, if_pos, if_neg, g_h0, q_w, g_w, l_w, r_w, z_w]
  refine WD_drawC 12 rfl (by kernel_rfl) ?_
  try simp (disch := first | omega | (simp; done) | fail) [wrap64c, if_pos, if_neg, g_h0, q_w, g_w, l_w, r_w, z_w]
  refine callP_c (by simp) (by simp) ?ha (waDegree_ok h0 _ L A0 _ i hv1 hs hi) ?hadd ?_
  (case ha => simp (disch := first | omega | (simp; done) | fail) [wrap64c, if_pos, if_neg, g_h0, q_w, g_w, l_w, r_w, z_w])
  (case hadd => first | assumption | exact adds_self _ | (simp; done))
  by_cases c1 : 0 < deg L i
  · try simp (disch := first | omega | (simp; done) | fail) [wrap64c, if_pos, if_neg, g_h0, q_w, g_w, l_w, r_w, z_w, c1]
    refine callP_c (by simp) (by simp) ?ha (waDegree_ok h0 _ L A0 _ i hv1 hs hi) ?hadd ?_
    (case ha => simp (disch := first | omega | (simp; done) | fail) [wrap64c, if_pos, if_neg, g_h0, q_w, g_w, l_w, r_w, z_w, c1])
    (case hadd => first | assumption | exact adds_self _ | (simp; done))
    try simp (disch := first | omega | (simp; done) | fail) [wrap64c, if_pos, if_neg, g_h0, q_w, g_w, l_w, r_w, z_w, c1]
    exact done_ret rfl (by simp [k0, canB, hi]; omega)
  · try simp (disch := first | omega | (simp; done) | fail) [wrap64c, if_pos, if_neg, g_h0, q_w, g_w, l_w, r_w, z_w, c1]
    exact done_ret rfl (by simp [k0, canB, hi]; omega)
theorem imCan_ok (h : Hp) (v : Value) (L : List (List Int)) (A : List Int) (i : Nat) (hv : Chips h v L A) (hs : Shape L A.length) (hi : i < A.length) : CallOK Try.prog 53 #[v, .int .i64 i] h (.bool (canB L A i)) h := by
  refine callY_P 20 _ [.tmp 4] Try.func53 rfl rfl rfl (by first | rfl | simp) ?_
  have hv0 := hv
  obtain ⟨a, b, rfl, hL, hA⟩ := hv
  refine WD_first ?_
  try simp (disch := first | omega | (simp; done) | fail) [wrap64c, if_pos, if_neg]
  refine stopK_heap fun h0 q_h0 => ?_
  refine stopK_go ?_
  have g_h0 : h0.get h.next = .cells [a, b] true true 1 := by simp [q_h0]
  have k_h0 : Adds h h0 := by rw [q_h0]; exact (by first | exact aK | exact kK)
  have n_h0 : h.next < h0.next := by simp [q_h0]; try omega
  have k0 := k_h0.1
  have hv1 := hv0.keep k0
  obtain ⟨o_w, i_w, c_w, cs_w, own_w, ex_w, es_w, q_w, b_w, g_w, l_w, r_w⟩ := (hA.keep k0).open ((by omega))
  have z_w : ∀ h2 : i_w < cs_w.length, cs_w[i_w] = _ := fun h2 => r_w 0 ((by omega)) h2
  have hd := hs.deg hi
  try simp (disch := first | omega | (simp; done) | fail) [wrap64c, if_pos, if_neg, g_h0, q_w, g_w, l_w, r_w, z_w]
  refine WD_drawC 13 rfl (by kernel_rfl) ?_
  try simp (disch := first | omega | (simp; done) | fail) [wrap64c, if_pos, if_neg, g_h0, q_w, g_w, l_w, r_w, z_w]
  refine callP_c (by simp) (by simp) ?ha (imDegree_ok h0 _ L A _ i hv1 hs hi) ?hadd ?_
  (case ha => simp (disch := first | omega | (simp; done) | fail) [wrap64c, if_pos, if_neg, g_h0, q_w, g_w, l_w, r_w, z_w])
  (case hadd => first | assumption | exact adds_self _ | (simp; done))
  by_cases c1 : 1 ≤ deg L i
  · try simp (disch := first | omega | (simp; done) | fail) [wrap64c, if_pos, if_neg, g_h0, q_w, g_w, l_w, r_w, z_w, c1]
    refine callP_c (by simp) (by simp) ?ha (imDegree_ok h0 _ L A _ i hv1 hs hi) ?hadd ?_
    (case ha => simp (disch := first | omega | (simp; done) | fail) [wrap64c, if_pos, if_neg, g_h0, q_w, g_w, l_w, r_w, z_w, c1])
    (case hadd => first | assumption | exact adds_self _ | (simp; done))
    try simp (disch := first | omega | (simp; done) | fail) [wrap64c, if_pos, if_neg, g_h0, q_w, g_w, l_w, r_w, z_w, c1]
    exact done_ret rfl (by simp [k0, canB, hi]; omega)
  · try simp (disch := first | omega | (simp; done) | fail) [wrap64c, if_pos, if_neg, g_h0, q_w, g_w, l_w, r_w, z_w, c1]
    exact done_ret rfl (by simp [k0, canB, hi]; omega)
def movesL (L : List (List Int)) (A : List Int) : List Int := ((List.range A.length).filter (canB L A)).map fun (i : Nat) => (i : Int)
def movesT (L : List (List Int)) (A : List Int) (j : Nat) : List Int := ((List.range j).filter (canB L A)).map fun (i : Nat) => (i : Int)
theorem movesT_succ (L : List (List Int)) (A : List Int) (j : Nat) : movesT L A (j + 1) = if canB L A j then movesT L A j ++ [(j : Int)] else movesT L A j := by
  unfold movesT
  rw [List.range_succ, List.filter_append]
  by_cases h : canB L A j <;> simp [h]
theorem movesT_length (L : List (List Int)) (A : List Int) : ∀ j, (movesT L A j).length ≤ j
  | 0 => by simp [movesT]
  | j + 1 => by
    have := movesT_length L A j
    rw [movesT_succ]; split <;> simp <;> omega
theorem waMoves_ok (h : Hp) (v w : Value) (L : List (List Int)) (A0 A : List Int) (hv : Chips h v L A0) (hw : Ints h w A) (hs : Shape L A.length) :
    ∃ v' h', CallOK Try.prog 95 #[v, w] h v' h' ∧ Adds h h' ∧ IntsO (Btw h.next h'.next) h' v' (movesL L A) := by
  refine callY_L (args := [v, w]) 22 _ [.tmp 4] Try.func95 rfl rfl rfl ?_
  have hv0 := hv
  obtain ⟨a, b, rfl, hL, hA⟩ := hv
  have h5 := hs.le
  refine WD_first ?_
  try simp (disch := first | omega | (simp; done) | fail) [wrap64c, if_pos, if_neg]
  refine stopK_heap fun h0 q_h0 => ?_
  refine stopK_go ?_
  have g_h0 : h0.get h.next = .cells [a, b] true true 1 := by simp [q_h0]
  have k_h0 : Adds h h0 := by rw [q_h0]; exact (by first | exact aK | exact kK)
  have n_h0 : h.next < h0.next := by simp [q_h0]; try omega
  have lw := hw.lenD
  try simp (disch := first | omega | (simp; done) | fail) [wrap64c, if_pos, if_neg, g_h0, lw]
  refine WD_loopC [1, 2, 8] (fun m tm h' => ∃ j u, m = A.length - j ∧ tm 5 = u ∧ tm 9 = .int .i64 (j : Int) ∧ (j ≤ A.length) ∧ (Adds h h') ∧ (h0.next ≤ h'.next) ∧ (h'.get h.next = .cells [a, b] true true 1) ∧ (IntsA h0.next h' u (movesT L A j))) _ ⟨0, _, rfl, (by simp (disch := first | omega | (simp; done) | fail) [wrap64c, if_pos, if_neg, g_h0, lw]), (by simp (disch := first | omega | (simp; done) | fail) [wrap64c, if_pos, if_neg, g_h0, lw]), (by first | omega | assumption | (simp (disch := first | omega | (simp; done) | fail) [wrap64c, if_pos, if_neg, g_h0, lw] <;> omega)), k_h0, (by first | omega | assumption | (simp (disch := first | omega | (simp; done) | fail) [wrap64c, if_pos, if_neg, g_h0, lw] <;> omega)), g_h0, (.nil _ _)⟩ ?_
  rintro m tm h' hFr ⟨j, u, rfl, e5, e9, hj, ha, hb, hg, hu⟩
  simp only [FrameL] at hFr
  obtain ⟨f1_0, f2_0, f8_0, -⟩ := hFr
  try simp (disch := first | omega | (simp; done) | fail) [wrap64c, if_pos, if_neg, g_h0, lw] at f1_0 f2_0 f8_0
  have e1 := f1_0
  have e2 := f2_0
  have e8 := f8_0
  by_cases hlt : j < A.length
  · try simp (disch := first | omega | (simp; done) | fail) [wrap64c, if_pos, if_neg, g_h0, lw, e1, e2, e5, e8, e9, hg, hlt]
    refine callG_c (by simp) (by simp) ?ha (waCan_ok h' _ w L A0 A j (hv0.keep ha.1) (hw.keep ha.1) hs hlt) ?_
    (case ha => simp (disch := first | omega | (simp; done) | fail) [wrap64c, if_pos, if_neg, g_h0, lw, e1, e2, e5, e8, e9, hg, hlt])
    have hm := movesT_length L A j
    by_cases c : canB L A j = true
    · try simp (disch := first | omega | (simp; done) | fail) [wrap64c, if_pos, if_neg, g_h0, lw, e1, e2, e5, e8, e9, hg, hlt, c]
      obtain ⟨u2, h2, hap, hu2, ha2, hn2, hs2⟩ := appI hu j (by omega) hb ha (by omega)
      try simp (disch := first | omega | (simp; done) | fail) [wrap64c, if_pos, if_neg, g_h0, lw, e1, e2, e5, e8, e9, hg, hlt, c, hap]
      have g2 : h2.get h.next = .cells [a, b] true true 1 := by rw [hs2 _ (by omega) n_h0]; exact hg
      refine loopK_next _ ?hm ?hf ⟨j + 1, u2, rfl, (by simp (disch := first | omega | (simp; done) | fail) [wrap64c, if_pos, if_neg, g_h0, lw, e1, e2, e5, e8, e9, hg, hlt, c, g2] <;> omega), (by simp (disch := first | omega | (simp; done) | fail) [wrap64c, if_pos, if_neg, g_h0, lw, e1, e2, e5, e8, e9, hg, hlt, c, g2] <;> omega), (by first | omega | assumption | (simp (disch := first | omega | (simp; done) | fail) [wrap64c, if_pos, if_neg, g_h0, lw, e1, e2, e5, e8, e9, hg, hlt, c, g2] <;> omega)), (by first | omega | assumption | (simp (disch := first | omega | (simp; done) | fail) [wrap64c, if_pos, if_neg, g_h0, lw, e1, e2, e5, e8, e9, hg, hlt, c, g2] <;> omega)), (by first | omega | assumption | (simp (disch := first | omega | (simp; done) | fail) [wrap64c, if_pos, if_neg, g_h0, lw, e1, e2, e5, e8, e9, hg, hlt, c, g2] <;> omega)), (by first | omega | assumption | (simp (disch := first | omega | (simp; done) | fail) [wrap64c, if_pos, if_neg, g_h0, lw, e1, e2, e5, e8, e9, hg, hlt, c, g2] <;> omega)), (by rw [movesT_succ, if_pos c]; exact hu2)⟩
      (case hm => first | omega | (simp; omega))
      (case hf => simp [FrameL, g_h0, lw, e1, e2, e5, e8, e9, hg, hlt, c, g2, f1_0, f2_0, f8_0])
    · try simp (disch := first | omega | (simp; done) | fail) [wrap64c, if_pos, if_neg, g_h0, lw, e1, e2, e5, e8, e9, hg, hlt, c]
      refine loopK_next _ ?hm ?hf ⟨j + 1, u, rfl, (by simp (disch := first | omega | (simp; done) | fail) [wrap64c, if_pos, if_neg, g_h0, lw, e1, e2, e5, e8, e9, hg, hlt, c] <;> omega), (by simp (disch := first | omega | (simp; done) | fail) [wrap64c, if_pos, if_neg, g_h0, lw, e1, e2, e5, e8, e9, hg, hlt, c] <;> omega), (by first | omega | assumption | (simp (disch := first | omega | (simp; done) | fail) [wrap64c, if_pos, if_neg, g_h0, lw, e1, e2, e5, e8, e9, hg, hlt, c] <;> omega)), (by first | omega | assumption | (simp (disch := first | omega | (simp; done) | fail) [wrap64c, if_pos, if_neg, g_h0, lw, e1, e2, e5, e8, e9, hg, hlt, c] <;> omega)), (by first | omega | assumption | (simp (disch := first | omega | (simp; done) | fail) [wrap64c, if_pos, if_neg, g_h0, lw, e1, e2, e5, e8, e9, hg, hlt, c] <;> omega)), (by first | omega | assumption | (simp (disch := first | omega | (simp; done) | fail) [wrap64c, if_pos, if_neg, g_h0, lw, e1, e2, e5, e8, e9, hg, hlt, c] <;> omega)), (by rw [movesT_succ, if_neg c]; exact hu)⟩
      (case hm => first | omega | (simp; omega))
      (case hf => simp [FrameL, g_h0, lw, e1, e2, e5, e8, e9, hg, hlt, c, f1_0, f2_0, f8_0])
  · try simp (disch := first | omega | (simp; done) | fail) [wrap64c, if_pos, if_neg, g_h0, lw, e1, e2, e5, e8, e9, hg, hlt]
    have hj' : j = A.length := by omega
    subst hj'
    have hm := movesT_length L A A.length
    exact done_ret rfl ⟨ha, (hu.own (by omega)).sub fun o ho => ⟨by have := ho.1; omega, ho.2⟩⟩
theorem imMoves_ok (h : Hp) (v : Value) (L : List (List Int)) (A : List Int) (hv : Chips h v L A) (hs : Shape L A.length) :
    ∃ v' h', CallOK Try.prog 55 #[v] h v' h' ∧ Adds h h' ∧ IntsO (Btw h.next h'.next) h' v' (movesL L A) := by
  refine callY_L (args := [v]) 21 _ [.tmp 2] Try.func55 rfl rfl rfl ?_
  have hv0 := hv
  obtain ⟨a, b, rfl, hL, hA⟩ := hv
  have h5 := hs.le
  refine WD_first ?_
  try simp (disch := first | omega | (simp; done) | fail) [wrap64c, if_pos, if_neg]
  refine stopK_heap fun h0 q_h0 => ?_
  refine stopK_go ?_
  have g_h0 : h0.get h.next = .cells [a, b] true true 1 := by simp [q_h0]
  have k_h0 : Adds h h0 := by rw [q_h0]; exact (by first | exact aK | exact kK)
  have n_h0 : h.next < h0.next := by simp [q_h0]; try omega
  have lA := hA.lenD
  try simp (disch := first | omega | (simp; done) | fail) [wrap64c, if_pos, if_neg, g_h0, lA]
  first | refine WY_heap fun h1 q_h1 => ?_ | refine callG_heap fun h1 q_h1 => ?_ | refine callP_heap fun h1 q_h1 => ?_ | refine callS_heap fun h1 q_h1 => ?_ | refine RY_heap fun h1 q_h1 => ?_ | refine PY_heap fun h1 q_h1 => ?_ | refine SY_heap fun h1 q_h1 => ?_ | refine doneY_heap fun h1 q_h1 => ?_ | refine loopK_heap fun h1 q_h1 => ?_ | refine thenY_heap fun h1 q_h1 => ?_ | refine thenM_heap fun h1 q_h1 => ?_
  have k1 : Adds h h1 := by rw [q_h1]; have := k_h0; exact (by first | exact aK | exact kK)
  have g1 : h1.get h.next = .cells [a, b] true true 1 := by simp [q_h1, g_h0, Nat.ne_of_lt n_h0]
  refine WD_loopC [1, 8] (fun m tm h' => ∃ j u, m = A.length - j ∧ tm 3 = u ∧ tm 9 = .int .i64 (j : Int) ∧ (j ≤ A.length) ∧ (Adds h h') ∧ (h0.next ≤ h'.next) ∧ (h'.get h.next = .cells [a, b] true true 1) ∧ (IntsA h0.next h' u (movesT L A j))) _ ⟨0, _, rfl, (by simp (disch := first | omega | (simp; done) | fail) [wrap64c, if_pos, if_neg, g_h0, lA, g1]), (by simp (disch := first | omega | (simp; done) | fail) [wrap64c, if_pos, if_neg, g_h0, lA, g1]), (by first | omega | assumption | (simp (disch := first | omega | (simp; done) | fail) [wrap64c, if_pos, if_neg, g_h0, lA, g1] <;> omega)), k1, (by simp [q_h1]), g1, (.lit (ex := true) (Nat.le_refl _) (by simp [q_h1]) (by simp [q_h1]))⟩ ?_
  rintro m tm h' hFr ⟨j, u, rfl, e3, e9, hj, ha, hb, hg, hu⟩
  simp only [FrameL] at hFr
  obtain ⟨f1_0, f8_0, -⟩ := hFr
  try simp (disch := first | omega | (simp; done) | fail) [wrap64c, if_pos, if_neg, g_h0, lA, g1] at f1_0 f8_0
  have e1 := f1_0
  have e8 := f8_0
  by_cases hlt : j < A.length
  · try simp (disch := first | omega | (simp; done) | fail) [wrap64c, if_pos, if_neg, g_h0, lA, g1, e1, e3, e8, e9, hg, hlt]
    refine callG_c (by simp) (by simp) ?ha (imCan_ok h' _ L A j (hv0.keep ha.1) hs hlt) ?_
    (case ha => simp (disch := first | omega | (simp; done) | fail) [wrap64c, if_pos, if_neg, g_h0, lA, g1, e1, e3, e8, e9, hg, hlt])
    have hm := movesT_length L A j
    by_cases c : canB L A j = true
    · try simp (disch := first | omega | (simp; done) | fail) [wrap64c, if_pos, if_neg, g_h0, lA, g1, e1, e3, e8, e9, hg, hlt, c]
      obtain ⟨u2, h2, hap, hu2, ha2, hn2, hs2⟩ := appI hu j (by omega) hb ha (by omega)
      try simp (disch := first | omega | (simp; done) | fail) [wrap64c, if_pos, if_neg, g_h0, lA, g1, e1, e3, e8, e9, hg, hlt, c, hap]
      have g2 : h2.get h.next = .cells [a, b] true true 1 := by rw [hs2 _ (by omega) n_h0]; exact hg
      refine loopK_next _ ?hm ?hf ⟨j + 1, u2, rfl, (by simp (disch := first | omega | (simp; done) | fail) [wrap64c, if_pos, if_neg, g_h0, lA, g1, e1, e3, e8, e9, hg, hlt, c, g2] <;> omega), (by simp (disch := first | omega | (simp; done) | fail) [wrap64c, if_pos, if_neg, g_h0, lA, g1, e1, e3, e8, e9, hg, hlt, c, g2] <;> omega), (by first | omega | assumption | (simp (disch := first | omega | (simp; done) | fail) [wrap64c, if_pos, if_neg, g_h0, lA, g1, e1, e3, e8, e9, hg, hlt, c, g2] <;> omega)), (by first | omega | assumption | (simp (disch := first | omega | (simp; done) | fail) [wrap64c, if_pos, if_neg, g_h0, lA, g1, e1, e3, e8, e9, hg, hlt, c, g2] <;> omega)), (by first | omega | assumption | (simp (disch := first | omega | (simp; done) | fail) [wrap64c, if_pos, if_neg, g_h0, lA, g1, e1, e3, e8, e9, hg, hlt, c, g2] <;> omega)), (by first | omega | assumption | (simp (disch := first | omega | (simp; done) | fail) [wrap64c, if_pos, if_neg, g_h0, lA, g1, e1, e3, e8, e9, hg, hlt, c, g2] <;> omega)), (by rw [movesT_succ, if_pos c]; exact hu2)⟩
      (case hm => first | omega | (simp; omega))
      (case hf => simp [FrameL, g_h0, lA, g1, e1, e3, e8, e9, hg, hlt, c, g2, f1_0, f8_0])
    · try simp (disch := first | omega | (simp; done) | fail) [wrap64c, if_pos, if_neg, g_h0, lA, g1, e1, e3, e8, e9, hg, hlt, c]
      refine loopK_next _ ?hm ?hf ⟨j + 1, u, rfl, (by simp (disch := first | omega | (simp; done) | fail) [wrap64c, if_pos, if_neg, g_h0, lA, g1, e1, e3, e8, e9, hg, hlt, c] <;> omega), (by simp (disch := first | omega | (simp; done) | fail) [wrap64c, if_pos, if_neg, g_h0, lA, g1, e1, e3, e8, e9, hg, hlt, c] <;> omega), (by first | omega | assumption | (simp (disch := first | omega | (simp; done) | fail) [wrap64c, if_pos, if_neg, g_h0, lA, g1, e1, e3, e8, e9, hg, hlt, c] <;> omega)), (by first | omega | assumption | (simp (disch := first | omega | (simp; done) | fail) [wrap64c, if_pos, if_neg, g_h0, lA, g1, e1, e3, e8, e9, hg, hlt, c] <;> omega)), (by first | omega | assumption | (simp (disch := first | omega | (simp; done) | fail) [wrap64c, if_pos, if_neg, g_h0, lA, g1, e1, e3, e8, e9, hg, hlt, c] <;> omega)), (by first | omega | assumption | (simp (disch := first | omega | (simp; done) | fail) [wrap64c, if_pos, if_neg, g_h0, lA, g1, e1, e3, e8, e9, hg, hlt, c] <;> omega)), (by rw [movesT_succ, if_neg c]; exact hu)⟩
      (case hm => first | omega | (simp; omega))
      (case hf => simp [FrameL, g_h0, lA, g1, e1, e3, e8, e9, hg, hlt, c, f1_0, f8_0])
  · try simp (disch := first | omega | (simp; done) | fail) [wrap64c, if_pos, if_neg, g_h0, lA, g1, e1, e3, e8, e9, hg, hlt]
    have hj' : j = A.length := by omega
    subst hj'
    have hm := movesT_length L A A.length
    exact done_ret rfl ⟨ha, (hu.own (by omega)).sub fun o ho => ⟨by have := ho.1; omega, ho.2⟩⟩
end Go.Proofs.Ytnnjehonbolliaa
namespace Go.Proofs.Ytnnjehonbolliaa
set_option linter.unusedSimpArgs false
set_option linter.unusedVariables false
set_option maxHeartbeats 4000000
open Go Go.Eng
attribute [local irreducible] WD RunD PreD Runs CallOK
def moveA (L : List (List Int)) (A : List Int) (i : Nat) : List Int := (List.range A.length).map fun (j : Nat) => A.getD j 0 + (L.getD i []).getD j 0 - if j = i then deg L i else 0
@[simp] theorem moveA_length (L : List (List Int)) (A : List Int) (i : Nat) : (moveA L A i).length = A.length := by simp [moveA]
theorem moveA_get (L : List (List Int)) (A : List Int) (i j : Nat) (h : j < A.length) (h2 : j < (moveA L A i).length) (hi : i < L.length) (h3 : j < L[i].length) : (moveA L A i)[j] = A[j] + L[i][j] - if j = i then deg L i else 0 := by
  simp [moveA, h, hi, h3]
def Small (A : List Int) : Prop := ∀ x ∈ A, -1000 ≤ x ∧ x ≤ 1000
theorem Small.at {A : List Int} (h : Small A) {i : Nat} (hi : i < A.length) : -1000 ≤ A[i] ∧ A[i] ≤ 1000 := h _ (List.getElem_mem hi)
theorem waMove_ok (h : Hp) (v w : Value) (L : List (List Int)) (A0 A : List Int) (i : Nat) (hv : Chips h v L A0) (hw : Ints h w A) (hs : Shape L A.length) (hA : Small A) (hi : i < A.length) :
    ∃ v' h', CallOK Try.prog 62 #[v, w, .int .i64 i] h v' h' ∧ Adds h h' ∧ IntsO (Btw h.next h'.next) h' v' (moveA L A i) := by
  refine callY_L (args := [v, w, .int .i64 i]) 39 _ [.tmp 6] Try.func62 rfl rfl rfl ?_
  obtain ⟨a, b, rfl, hL, hA0⟩ := hv
  have h5 := hs.le
  have hi' : i < L.length := by have := hs.len; omega
  have h1 := hs.at hi'
  refine WD_first ?_
  try simp (disch := first | omega | (simp; done) | fail) [wrap64c, if_pos, if_neg]
  refine stopK_heap fun h0 q_h0 => ?_
  refine stopK_go ?_
  have g_h0 : h0.get h.next = .cells [a, b] true true 1 := by simp [q_h0]
  have k_h0 : Adds h h0 := by rw [q_h0]; exact (by first | exact aK | exact kK)
  have n_h0 : h.next < h0.next := by simp [q_h0]; try omega
  try simp (disch := first | omega | (simp; done) | fail) [wrap64c, if_pos, if_neg, g_h0]
  obtain ⟨u, h2, hc, ha2, hu, _⟩ := l1Own_ok h0 w A (hw.keep k_h0.1) (by omega)
  refine callG_c (by simp) (by simp) ?ha (hc) ?_
  (case ha => simp (disch := first | omega | (simp; done) | fail) [wrap64c, if_pos, if_neg, g_h0])
  have g2 : h2.get h.next = .cells [a, b] true true 1 := by rw [ha2.1.2 _ n_h0]; exact g_h0
  have n2 : h.next < h2.next := Nat.lt_of_lt_of_le n_h0 ha2.1.1
  have k2 := k_h0.trans ha2
  obtain ⟨o_x, i_x, c_x, cs_x, own_x, ex_x, es_x, us_x, q_x, b_x, g_x, l_x, r_x, R_x⟩ := hL.open ((by omega))
  have z_x : ∀ h2 : i_x < cs_x.length, cs_x[i_x] = _ := fun h2 => r_x 0 ((by omega)) h2
  have g_x := (k2.1.2 _ b_x).trans g_x
  have hr := R_x i hi'
  have lr := hr.lenD
  try simp (disch := first | omega | (simp; done) | fail) [wrap64c, if_pos, if_neg, g_h0, g2, q_x, g_x, l_x, r_x, z_x, lr]
  refine WD_loopC [2, 7, 16, 17] (fun m tm h' => ∃ j B, m = L[i].length - j ∧ tm 18 = .int .i64 (j : Int) ∧ (j ≤ L[i].length) ∧ (Adds h h') ∧ (∀ o, o < h2.next → ¬ Btw h0.next h2.next o → h'.get o = h2.get o) ∧ (h'.next = h2.next) ∧ (IntsO (Btw h0.next h2.next) h' u B) ∧ (B.length = A.length) ∧ (∀ k (hk : k < B.length) (hk' : k < A.length), B[k] = A[k] + (if k < j then (L[i].getD k 0) else 0) - (if k = i then (L[i].take j).sum else 0))) _ ⟨0, A, rfl, (by simp (disch := first | omega | (simp; done) | fail) [wrap64c, if_pos, if_neg, g_h0, g2, q_x, g_x, l_x, r_x, z_x, lr]), (by first | omega | assumption | (simp (disch := first | omega | (simp; done) | fail) [wrap64c, if_pos, if_neg, g_h0, g2, q_x, g_x, l_x, r_x, z_x, lr] <;> omega)), k2, (fun _ _ _ => rfl), (by first | omega | assumption | (simp (disch := first | omega | (simp; done) | fail) [wrap64c, if_pos, if_neg, g_h0, g2, q_x, g_x, l_x, r_x, z_x, lr] <;> omega)), hu, (by first | omega | assumption | (simp (disch := first | omega | (simp; done) | fail) [wrap64c, if_pos, if_neg, g_h0, g2, q_x, g_x, l_x, r_x, z_x, lr] <;> omega)), (by intro k hk hk'; simp)⟩ ?_
  rintro m tm h' hFr ⟨j, B, rfl, e18, hj, ha, hk, hn, hu, hB, hx⟩
  simp only [FrameL] at hFr
  obtain ⟨f2_0, f7_0, f16_0, f17_0, -⟩ := hFr
  try simp (disch := first | omega | (simp; done) | fail) [wrap64c, if_pos, if_neg, g_h0, g2, q_x, g_x, l_x, r_x, z_x, lr] at f2_0 f7_0 f16_0 f17_0
  have e2 := f2_0
  have e7 := f7_0
  have e16 := f16_0
  have e17 := f17_0
  have g2 : h'.get h.next = .cells [a, b] true true 1 := by rw [hk _ n2 (by unfold Btw; omega)]; exact g2
  by_cases hlt : j < L[i].length
  · have hjA : j < A.length := by omega
    have b1 := h1.2 _ (List.getElem_mem hlt)
    have b2 := sum_take (by omega) h1.2 j (by omega)
    have hBi := hx i (by omega) hi
    have hBj := hx j (by omega) hjA
    have sA1 := hA.at hi
    have sA2 := hA.at hjA
    have eL : L[i].getD j 0 = L[i][j] := by simp [hlt]
    have bi1 : B[i] ≤ 1100 ∧ -1100 ≤ B[i] := by
      rw [hBi]
      by_cases hij : i < j
      · have := h1.2 _ (List.getElem_mem (show i < L[i].length by omega))
        have e2 : L[i].getD i 0 = L[i][i] := by simp [show i < L[i].length by omega]
        simp only [hij, if_true, e2]; omega
      · simp only [hij, if_false, if_true]; omega
    have kh : Keeps h h' := ha.1
    obtain ⟨o_x', i_x', c_x', cs_x', own_x', ex_x', es_x', q_x', b_x', g_x', l_x', r_x'⟩ := (hr.keep kh).open ((by omega))
    have z_x' : ∀ h2 : i_x' < cs_x'.length, cs_x'[i_x'] = _ := fun h2 => r_x' 0 ((by omega)) h2
    have o1 : o_x' < h.next := by
      obtain ⟨o2, i2, c2, cs2, own2, ex2, es2, q2, b2, _⟩ := hr.open (by omega)
      rw [q_x'] at q2; cases q2; exact b2
    obtain ⟨o_y, i_y, c_y, cs_y, ex_y, q_y, S_y, b_y, g_y, l_y, r_y⟩ := hu.open ((by omega))
    have z_y : ∀ h2 : i_y < cs_y.length, cs_y[i_y] = _ := fun h2 => r_y 0 ((by omega)) h2
    try simp (disch := first | omega | (simp; done) | fail) [wrap64c, if_pos, if_neg, g_h0, g2, q_x, g_x, l_x, r_x, z_x, lr, e2, e7, e16, e17, e18, hlt, q_x', g_x', l_x', r_x', z_x', q_y, g_y, l_y, r_y, z_y, -wd_region, wd_region 0, wd_region 1, wd_region 2, wd_region 3, wd_region 4, wd_region 5, wd_region 7, wd_region 8]
    first | refine WY_heap fun h3 q_h3 => ?_ | refine callG_heap fun h3 q_h3 => ?_ | refine callP_heap fun h3 q_h3 => ?_ | refine callS_heap fun h3 q_h3 => ?_ | refine RY_heap fun h3 q_h3 => ?_ | refine PY_heap fun h3 q_h3 => ?_ | refine SY_heap fun h3 q_h3 => ?_ | refine doneY_heap fun h3 q_h3 => ?_ | refine loopK_heap fun h3 q_h3 => ?_ | refine thenY_heap fun h3 q_h3 => ?_ | refine thenM_heap fun h3 q_h3 => ?_
    obtain ⟨B1, eB1⟩ : ∃ B1, B1 = B.set i (B[i] - L[i][j]) := ⟨_, rfl⟩
    have lB1 : B1.length = A.length := by rw [eB1]; simpa using hB
    have hu3 : IntsO (Btw h0.next h2.next) h3 u B1 := by rw [q_h3, eB1]; exact hu.write q_y (by omega) g_y _
    have bj1 : B1[j] ≤ 1200 ∧ -1200 ≤ B1[j] := by
      subst eB1
      rw [List.getElem_set]
      by_cases hij : i = j
      · rw [if_pos hij]; omega
      · rw [if_neg hij, hBj]; simp [Ne.symm hij]; omega
    have g3 : h3.get h.next = .cells [a, b] true true 1 := by rw [q_h3]; simp [g2, show ¬ h.next = o_y by have := S_y.1; omega]
    have n3 : h3.next = h2.next := by rw [q_h3]; simp [hn]
    have k3 : ∀ o, o < h2.next → ¬ Btw h0.next h2.next o → h3.get o = h2.get o := fun o ho hb => by rw [q_h3, get_put, if_neg (fun e => hb (by rw [e]; exact S_y))]; exact hk o ho hb
    have ha3 : Adds h h3 := by rw [q_h3]; have := S_y.1; exact (by first | exact aK | exact kK)
    obtain ⟨o_y, i_y, c_y, cs_y, ex_y, q_y, S_y, b_y, g_y, l_y, r_y⟩ := hu3.open ((by omega))
    have z_y : ∀ h2 : i_y < cs_y.length, cs_y[i_y] = _ := fun h2 => r_y 0 ((by omega)) h2
    try simp (disch := first | omega | (simp; done) | fail) [wrap64c, if_pos, if_neg, g_h0, g2, q_x, g_x, l_x, r_x, z_x, lr, e2, e7, e16, e17, e18, hlt, q_x', g_x', l_x', r_x', z_x', q_y, g_y, l_y, r_y, z_y, g3]
    refine loopK_next _ ?hm ?hf ⟨j + 1, B1.set j (B1[j] + L[i][j]), rfl, (by simp (disch := first | omega | (simp; done) | fail) [wrap64c, if_pos, if_neg, g_h0, g2, q_x, g_x, l_x, r_x, z_x, lr, e2, e7, e16, e17, e18, hlt, q_x', g_x', l_x', r_x', z_x', q_y, g_y, l_y, r_y, z_y, g3] <;> omega), (by first | omega | assumption | (simp (disch := first | omega | (simp; done) | fail) [wrap64c, if_pos, if_neg, g_h0, g2, q_x, g_x, l_x, r_x, z_x, lr, e2, e7, e16, e17, e18, hlt, q_x', g_x', l_x', r_x', z_x', q_y, g_y, l_y, r_y, z_y, g3] <;> omega)), (by have := S_y.1; exact (by first | exact aK | exact kK)), (fun o ho hb => by rw [get_put, if_neg (fun e => hb (by rw [e]; exact S_y))]; exact k3 o ho hb), (by simp [n3]), (hu3.write q_y (by omega) g_y _), (by simp [lB1]), ?c_hx⟩
    (case hm => first | omega | (simp; omega))
    (case hf => simp [FrameL, g_h0, g2, q_x, g_x, l_x, r_x, z_x, lr, e2, e7, e16, e17, e18, hlt, q_x', g_x', l_x', r_x', z_x', q_y, g_y, l_y, r_y, z_y, g3, f2_0, f7_0, f16_0, f17_0])
    case c_hx =>
      exact (fun k hk1 hk2 => by
        subst eB1
        simp only [List.getElem_set]
        have e1 := hx k (by simpa using hk1) hk2
        have e3 := sum_step hlt
        by_cases hjk : j = k
        · subst hjk
          by_cases hij : i = j
          · subst hij; simp [hBi, e3, hlt]; try omega
          · simp [hBj, hij, Ne.symm hij, hlt]; try omega
        · by_cases hik : i = k
          · subst hik
            have : i < j + 1 ↔ i < j := by omega
            simp [hjk, hBi, e3, this]; try omega
          · have : k < j + 1 ↔ k < j := by omega
            simp [hjk, hik, e1, this, Ne.symm hik])
  · try simp (disch := first | omega | (simp; done) | fail) [wrap64c, if_pos, if_neg, g_h0, g2, q_x, g_x, l_x, r_x, z_x, lr, e2, e7, e16, e17, e18, hlt]
    have hj' : j = L[i].length := by omega
    subst hj'
    have e : B = moveA L A i := List.ext_getElem (by simp [hB]) fun k h1' h2' => by
      have hk' : k < A.length := by omega
      rw [hx k h1' hk', moveA_get L A i k hk' h2' hi' (by omega)]
      simp [show k < L[i].length by omega, List.take_length, deg_eq hi']
    exact done_ret rfl ⟨ha, (e ▸ hu).sub fun o ho => by unfold Btw at ho ⊢; omega⟩
end Go.Proofs.Ytnnjehonbolliaa
namespace Go.Proofs.Ytnnjehonbolliaa
set_option linter.unusedSimpArgs false
set_option linter.unusedVariables false
set_option maxHeartbeats 4000000
open Go Go.Eng
attribute [local irreducible] WD RunD PreD Runs CallOK
theorem imMove_ok (S F : Nat → Prop) (h : Hp) (a b : Value) (L : List (List Int)) (A : List Int) (i : Nat) (hL : IRowsF F h a L) (hA : IntsO S h b A) (hd : ∀ x, F x → ¬ S x) (hs : Shape L A.length) (hSm : Small A) (hi : i < A.length) :
    ∃ v' h', CallOK Try.prog 54 #[.agg #[a, b], .int .i64 i] h v' h' ∧ v' = undef ∧ Wr S h h' ∧ IntsO S h' b (moveA L A i) := by
  refine callY_L (args := [.agg #[a, b], .int .i64 i]) 36 _ [] Try.func54 rfl rfl rfl ?_
  have h5 := hs.le
  have hi' : i < L.length := by have := hs.len; omega
  have h1 := hs.at hi'
  have hdg := hs.deg hi
  have sAi := hSm.at hi
  have hA1 := hA.cut
  refine WD_first ?_
  try simp (disch := first | omega | (simp; done) | fail) [wrap64c, if_pos, if_neg]
  refine stopK_heap fun h0 q_h0 => ?_
  refine stopK_go ?_
  have g_h0 : h0.get h.next = .cells [a, b] true true 1 := by simp [q_h0]
  have k_h0 : Adds h h0 := by rw [q_h0]; exact (by first | exact aK | exact kK)
  have n_h0 : h.next < h0.next := by simp [q_h0]; try omega
  have hL0 := hL.keep k_h0.1
  have hA0 := hA1.keep k_h0.1
  obtain ⟨o_w, i_w, c_w, cs_w, ex_w, q_w, S_w, b_w, g_w, l_w, r_w⟩ := hA0.open ((by omega))
  have z_w : ∀ h2 : i_w < cs_w.length, cs_w[i_w] = _ := fun h2 => r_w 0 ((by omega)) h2
  try simp (disch := first | omega | (simp; done) | fail) [wrap64c, if_pos, if_neg, g_h0, q_w, g_w, l_w, r_w, z_w]
  refine WD_drawC 8 rfl (by kernel_rfl) ?_
  try simp (disch := first | omega | (simp; done) | fail) [wrap64c, if_pos, if_neg, g_h0, q_w, g_w, l_w, r_w, z_w]
  refine callP_c (by simp) (by simp) ?ha (imDegree_ok h0 _ L A _ i ⟨a, b, rfl, hL0.rows, hA0.ints⟩ hs hi) ?hadd ?_
  (case ha => simp (disch := first | omega | (simp; done) | fail) [wrap64c, if_pos, if_neg, g_h0, q_w, g_w, l_w, r_w, z_w])
  (case hadd => first | assumption | exact adds_self _ | (simp; done))
  try simp (disch := first | omega | (simp; done) | fail) [wrap64c, if_pos, if_neg, g_h0, q_w, g_w, l_w, r_w, z_w, -wd_region, wd_region 0, wd_region 1, wd_region 3, wd_region 4, wd_region 5, wd_region 6]
  first | refine WY_heap fun h2 q_h2 => ?_ | refine callG_heap fun h2 q_h2 => ?_ | refine callP_heap fun h2 q_h2 => ?_ | refine callS_heap fun h2 q_h2 => ?_ | refine RY_heap fun h2 q_h2 => ?_ | refine PY_heap fun h2 q_h2 => ?_ | refine SY_heap fun h2 q_h2 => ?_ | refine doneY_heap fun h2 q_h2 => ?_ | refine loopK_heap fun h2 q_h2 => ?_ | refine thenY_heap fun h2 q_h2 => ?_ | refine thenM_heap fun h2 q_h2 => ?_
  obtain ⟨B0, eB0⟩ : ∃ B0, B0 = A.set i (A[i] - deg L i) := ⟨_, rfl⟩
  have lB0 : B0.length = A.length := by rw [eB0]; simp
  have hu2 : IntsO (fun x => S x ∧ x < h.next) h2 b B0 := by rw [q_h2, eB0]; exact hA0.write q_w (by omega) g_w _
  have W2 : Wr (fun x => S x ∧ x < h.next) h0 h2 := by rw [q_h2]; exact (Wr.refl _ _).put S_w fun _ => rfl
  have U2 := W2.upd
  have n2 : h2.next = h0.next := by rw [q_h2]; rfl
  have g2 : h2.get h.next = .cells [a, b] true true 1 := by rw [U2.2 _ n_h0 (by omega)]; exact g_h0
  obtain ⟨o_x, i_x, c_x, cs_x, own_x, ex_x, es_x, us_x, q_x, b_x, g_x, l_x, r_x, R_x⟩ := (hL0.same (U2.same fun x hx hx' => hd x hx hx'.1)).open ((by omega))
  have z_x : ∀ h2 : i_x < cs_x.length, cs_x[i_x] = _ := fun h2 => r_x 0 ((by omega)) h2
  have hr := R_x i hi'
  have lr := hr.lenD
  try simp (disch := first | omega | (simp; done) | fail) [wrap64c, if_pos, if_neg, g_h0, q_w, g_w, l_w, r_w, z_w, g2, q_x, g_x, l_x, r_x, z_x, lr]
  refine WD_loopC [2, 20, 21] (fun m tm h' => ∃ j B, m = L[i].length - j ∧ tm 22 = .int .i64 (j : Int) ∧ (j ≤ L[i].length) ∧ (Wr (fun x => S x ∧ x < h.next) h0 h') ∧ (IntsF F h' (us_x i) L[i]) ∧ (h'.next = h0.next) ∧ (IntsO (fun x => S x ∧ x < h.next) h' b B) ∧ (B.length = A.length) ∧ (∀ k (hk : k < B.length) (hk' : k < A.length), B[k] = A[k] + (if k < j then (L[i].getD k 0) else 0) - (if k = i then deg L i else 0))) _ ⟨0, B0, rfl, (by simp (disch := first | omega | (simp; done) | fail) [wrap64c, if_pos, if_neg, g_h0, q_w, g_w, l_w, r_w, z_w, g2, q_x, g_x, l_x, r_x, z_x, lr]), (by first | omega | assumption | (simp (disch := first | omega | (simp; done) | fail) [wrap64c, if_pos, if_neg, g_h0, q_w, g_w, l_w, r_w, z_w, g2, q_x, g_x, l_x, r_x, z_x, lr] <;> omega)), W2, hr, n2, hu2, lB0, (by intro k hk hk'; subst eB0; rw [List.getElem_set]; exact if e : i = k then (by subst e; simp) else (by simp [e, Ne.symm e]))⟩ ?_
  rintro m tm h' hFr ⟨j, B, rfl, e22, hj, hW, hr', hn, hy, hB, hx⟩
  simp only [FrameL] at hFr
  obtain ⟨f2_0, f20_0, f21_0, -⟩ := hFr
  try simp (disch := first | omega | (simp; done) | fail) [wrap64c, if_pos, if_neg, g_h0, q_w, g_w, l_w, r_w, z_w, g2, q_x, g_x, l_x, r_x, z_x, lr] at f2_0 f20_0 f21_0
  have e2 := f2_0
  have e20 := f20_0
  have e21 := f21_0
  have hu := hW.upd
  have g3 : h'.get h.next = .cells [a, b] true true 1 := by rw [hu.2 _ n_h0 (by omega)]; exact g_h0
  by_cases hlt : j < L[i].length
  · have hjA : j < A.length := by omega
    have b1 := h1.2 _ (List.getElem_mem hlt)
    have hBj := hx j (by omega) hjA
    have sA2 := hSm.at hjA
    have bj : B[j] ≤ 1100 ∧ -1100 ≤ B[j] := by
      rw [hBj]; simp; split <;> omega
    obtain ⟨o_u, i_u, c_u, cs_u, own_u, ex_u, es_u, q_u, b_u, g_u, l_u, r_u⟩ := hr'.open ((by omega))
    have z_u : ∀ h2 : i_u < cs_u.length, cs_u[i_u] = _ := fun h2 => r_u 0 ((by omega)) h2
    obtain ⟨o_w, i_w, c_w, cs_w, ex_w, q_w, S_w, b_w, g_w, l_w, r_w⟩ := hy.open ((by omega))
    have z_w : ∀ h2 : i_w < cs_w.length, cs_w[i_w] = _ := fun h2 => r_w 0 ((by omega)) h2
    try simp (disch := first | omega | (simp; done) | fail) [wrap64c, if_pos, if_neg, g_h0, q_w, g_w, l_w, r_w, z_w, g2, q_x, g_x, l_x, r_x, z_x, lr, e2, e20, e21, e22, g3, hlt, q_u, g_u, l_u, r_u, z_u]
    refine loopK_next _ ?hm ?hf ⟨j + 1, B.set j (B[j] + L[i][j]), rfl, (by simp (disch := first | omega | (simp; done) | fail) [wrap64c, if_pos, if_neg, g_h0, q_w, g_w, l_w, r_w, z_w, g2, q_x, g_x, l_x, r_x, z_x, lr, e2, e20, e21, e22, g3, hlt, q_u, g_u, l_u, r_u, z_u] <;> omega), (by first | omega | assumption | (simp (disch := first | omega | (simp; done) | fail) [wrap64c, if_pos, if_neg, g_h0, q_w, g_w, l_w, r_w, z_w, g2, q_x, g_x, l_x, r_x, z_x, lr, e2, e20, e21, e22, g3, hlt, q_u, g_u, l_u, r_u, z_u] <;> omega)), (hW.put S_w fun _ => rfl), (hr'.same (Same.put (Same.refl _ _) (fun e => hd _ e S_w.1) _)), (by simp [hn]), (hy.write q_w (by omega) g_w _), (by simp [hB]), ?c_hx⟩
    (case hm => first | omega | (simp; omega))
    (case hf => simp [FrameL, g_h0, q_w, g_w, l_w, r_w, z_w, g2, q_x, g_x, l_x, r_x, z_x, lr, e2, e20, e21, e22, g3, hlt, q_u, g_u, l_u, r_u, z_u, f2_0, f20_0, f21_0])
    case c_hx =>
      exact (fun k hk1 hk2 => by
        rw [List.getElem_set]
        by_cases hjk : j = k
        · subst hjk; simp [hBj, hlt]; omega
        · have e1 := hx k (by simpa using hk1) hk2
          have : k < j + 1 ↔ k < j := by omega
          simp [hjk, e1, this])
  · try simp (disch := first | omega | (simp; done) | fail) [wrap64c, if_pos, if_neg, g_h0, q_w, g_w, l_w, r_w, z_w, g2, q_x, g_x, l_x, r_x, z_x, lr, e2, e20, e21, e22, g3, hlt]
    have hj' : j = L[i].length := by omega
    subst hj'
    have e : B = moveA L A i := List.ext_getElem (by simp [hB]) fun k h1' h2' => by
      have hk' : k < A.length := by omega
      rw [hx k h1' hk', moveA_get L A i k hk' h2' hi' (by omega)]
      simp [show k < L[i].length by omega]
    have hy' : IntsO (fun x => S x ∧ x < h.next) h' b (moveA L A i) := e ▸ hy
    exact done_end rfl ⟨rfl, (Wr.of_adds k_h0).trans (hW.mono fun x _ hx => hx.1), hy'.sub fun x hx => hx.1⟩
theorem clone_ok (h : Hp) (v : Value) (xs : List Int) (hv : Ints h v xs) (hl : xs.length < 2 ^ 39) : ∃ v' h', CallOK Try.prog 69 #[v] h v' h' ∧ Adds h h' ∧ IntsO (Btw h.next h'.next) h' v' xs := by
  refine callY_L (args := [v]) 8 _ [.tmp 2] Try.func69 rfl rfl rfl ?_
  have hv0 := hv
  obtain ⟨s, c, e, hc, hc', hx⟩ := hv
  have e' := e
  cases s with
  | none =>
    have hxs : xs = [] := by
      cases xs with
      | nil => rfl
      | cons x xs => obtain ⟨o, i, cs, own, ex, es, h1, _⟩ := hx 0 x rfl; cases h1
    subst hxs
    try simp (disch := first | omega | (simp; done) | fail) [wrap64c, if_pos, if_neg, e', Try.underlying25]
    exact done_ret rfl ⟨Adds.refl _, .nil _ _⟩
  | some ad =>
    try simp (disch := first | omega | (simp; done) | fail) [wrap64c, if_pos, if_neg, e', Try.underlying25]
    first | refine WY_heap fun h1 q_h1 => ?_ | refine callG_heap fun h1 q_h1 => ?_ | refine callP_heap fun h1 q_h1 => ?_ | refine callS_heap fun h1 q_h1 => ?_ | refine RY_heap fun h1 q_h1 => ?_ | refine PY_heap fun h1 q_h1 => ?_ | refine SY_heap fun h1 q_h1 => ?_ | refine doneY_heap fun h1 q_h1 => ?_ | refine loopK_heap fun h1 q_h1 => ?_ | refine thenY_heap fun h1 q_h1 => ?_ | refine thenM_heap fun h1 q_h1 => ?_
    have k1 : Adds h h1 := by rw [q_h1]; exact (by first | exact aK | exact kK)
    have hA : IntsA h.next h1 (.slice (some ⟨h.next, 0, none⟩) 0 0) [] := .lit (ex := true) (Nat.le_refl _) (by simp [q_h1]) (by simp [q_h1])
    obtain ⟨v2, h2, hap, hA2, k2, n2, s2⟩ := append_ints (P := Try.prog) (t := 25) (t' := 25) hA (hv0.keep k1.1) ty_elT_25 ty_szT_3 ty_zeroT_3 ty_byT_3 (by decide) (by decide) (by simp) (by simp; omega) (by simp [q_h1]) k1 (Nat.le_refl _)
    rw [e] at hap
    simp only [List.nil_append] at hA2
    try simp (disch := first | omega | (simp; done) | fail) [wrap64c, if_pos, if_neg, e', hap]
    exact done_ret rfl ⟨k2, hA2.own (by omega)⟩
theorem imCopied_ok (h : Hp) (v : Value) (L : List (List Int)) (A : List Int) (hv : Chips h v L A) (hl : L.length < 2 ^ 39) (hr : ∀ x ∈ L, x.length < 2 ^ 39) (hla : A.length < 2 ^ 39) :
    ∃ v' h', CallOK Try.prog 52 #[v] h v' h' ∧ Adds h h' ∧ ChipsO (Btw h.next h'.next) h' v' L A := by
  refine callY_L (args := [v]) 26 _ [.cell 2 27] Try.func52 rfl rfl rfl ?_
  obtain ⟨a, b, rfl, hL, hA⟩ := hv
  refine WD_first ?_
  try simp (disch := first | omega | (simp; done) | fail) [wrap64c, if_pos, if_neg]
  refine stopK_heap fun h0 q_h0 => ?_
  refine stopK_go ?_
  have k0 : Adds h h0 := by rw [q_h0]; exact (by first | exact aK | exact kK)
  have n0 : h0.next = h.next + 2 := by simp [q_h0]
  have g0 : h0.get h.next = .cells [a, b] true true 1 := by simp [q_h0]
  have z0 : h0.get (h.next + 1) = .cells [.slice none 0 0, .slice none 0 0] true true 1 := by simp [q_h0]
  try simp (disch := first | omega | (simp; done) | fail) [wrap64c, if_pos, if_neg, g0, z0]
  obtain ⟨u1, h1, hc1, ha1, hu1⟩ := clone_ok h0 b A (hA.keep k0.1) hla
  refine callG_c (by simp) (by simp) ?ha (hc1) ?_
  (case ha => simp (disch := first | omega | (simp; done) | fail) [wrap64c, if_pos, if_neg, g0, z0])
  have nt1 := hu1.nt
  have cs1 := hu1.cs
  have lL := hL.lenD
  have n1 := ha1.1.1
  have K1 := k0.trans ha1
  have g1 : h1.get h.next = .cells [a, b] true true 1 := by rw [ha1.1.2 _ (by omega)]; exact g0
  try simp (disch := first | omega | (simp; done) | fail) [wrap64c, if_pos, if_neg, g0, z0, nt1, cs1, lL, g1, putCells]
  first | refine WY_heap fun h2 q_h2 => ?_ | refine callG_heap fun h2 q_h2 => ?_ | refine callP_heap fun h2 q_h2 => ?_ | refine callS_heap fun h2 q_h2 => ?_ | refine RY_heap fun h2 q_h2 => ?_ | refine PY_heap fun h2 q_h2 => ?_ | refine SY_heap fun h2 q_h2 => ?_ | refine doneY_heap fun h2 q_h2 => ?_ | refine loopK_heap fun h2 q_h2 => ?_ | refine thenY_heap fun h2 q_h2 => ?_ | refine thenM_heap fun h2 q_h2 => ?_
  have K12 : Adds h1 h2 := by rw [q_h2]; exact (by first | exact aK | exact kK)
  have K2 := K1.trans K12
  have n2 : h2.next = h1.next + 1 := by simp [q_h2]
  have g2 : h2.get h1.next = .cells [.slice none 0 0, u1] true true 1 := by simp [q_h2]
  have z2 : h2.get (h.next + 1) = .cells [.slice none 0 0, .slice none 0 0] true true 1 := by rw [(ha1.trans K12).1.2 _ (by omega)]; exact z0
  refine WD_loopC [2, 3, 11, 12] (fun m tm h' => ∃ j u, m = L.length - j ∧ tm 13 = .int .i64 (j : Int) ∧ (j ≤ L.length) ∧ (Adds h h') ∧ (h2.next ≤ h'.next) ∧ (h'.get h1.next = .cells [u, u1] true true 1) ∧ (h'.get (h.next + 1) = .cells [.slice none 0 0, .slice none 0 0] true true 1) ∧ (IRowsA h2.next h' u (L.take j)) ∧ (IntsO (Btw h0.next h1.next) h' u1 A)) _ ⟨0, .slice none 0 0, rfl, (by simp (disch := first | omega | (simp; done) | fail) [wrap64c, if_pos, if_neg, g0, z0, nt1, cs1, lL, g1, g2, z2]), (by first | omega | assumption | (simp (disch := first | omega | (simp; done) | fail) [wrap64c, if_pos, if_neg, g0, z0, nt1, cs1, lL, g1, g2, z2] <;> omega)), K2, (by first | omega | assumption | (simp (disch := first | omega | (simp; done) | fail) [wrap64c, if_pos, if_neg, g0, z0, nt1, cs1, lL, g1, g2, z2] <;> omega)), g2, z2, (by simpa using IRowsA.nil _ _), (hu1.keep K12.1)⟩ ?_
  rintro m tm h' hFr ⟨j, u, rfl, e13, hj, ha, hn, hg, hz, hu, hb⟩
  simp only [FrameL] at hFr
  obtain ⟨f2_0, f3_0, f11_0, f12_0, -⟩ := hFr
  try simp (disch := first | omega | (simp; done) | fail) [wrap64c, if_pos, if_neg, g0, z0, nt1, cs1, lL, g1, g2, z2] at f2_0 f3_0 f11_0 f12_0
  have e2 := f2_0
  have e3 := f3_0
  have e11 := f11_0
  have e12 := f12_0
  have ntu := hu.nt
  by_cases hlt : j < L.length
  · obtain ⟨o_x, i_x, c_x, cs_x, own_x, ex_x, es_x, us_x, q_x, b_x, g_x, l_x, r_x, R_x⟩ := (hL.keep ha.1).open ((by omega))
    have z_x : ∀ h2 : i_x < cs_x.length, cs_x[i_x] = _ := fun h2 => r_x 0 ((by omega)) h2
    try simp (disch := first | omega | (simp; done) | fail) [wrap64c, if_pos, if_neg, g0, z0, nt1, cs1, lL, g1, g2, z2, e2, e3, e11, e12, e13, hg, ntu, hlt, q_x, g_x, l_x, r_x, z_x]
    refine WD_drawC 5 rfl (by kernel_rfl) ?_
    try simp (disch := first | omega | (simp; done) | fail) [wrap64c, if_pos, if_neg, g0, z0, nt1, cs1, lL, g1, g2, z2, e2, e3, e11, e12, e13, hg, ntu, hlt, q_x, g_x, l_x, r_x, z_x]
    obtain ⟨u3, h3, hc3, ha3, hu3⟩ := clone_ok h' (us_x j) L[j] (R_x j hlt) (hr _ (List.getElem_mem hlt))
    refine callP_c (by simp) (by simp) ?ha (hc3) ?hadd ?_
    (case ha => simp (disch := first | omega | (simp; done) | fail) [wrap64c, if_pos, if_neg, g0, z0, nt1, cs1, lL, g1, g2, z2, e2, e3, e11, e12, e13, hg, ntu, hlt, q_x, g_x, l_x, r_x, z_x])
    (case hadd => first | assumption | exact adds_self _ | (simp; done))
    have nt3 := hu3.nt
    have cs3 := hu3.cs
    try simp (disch := first | omega | (simp; done) | fail) [wrap64c, if_pos, if_neg, g0, z0, nt1, cs1, lL, g1, g2, z2, e2, e3, e11, e12, e13, hg, ntu, hlt, q_x, g_x, l_x, r_x, z_x, nt3, cs3]
    have K3 := ha.trans ha3
    have n3 := ha3.1.1
    obtain ⟨u4, h4, hap, hu4, ha4, hn4, hs4⟩ := appR hu ha3.1 hu3 (by simp; omega) hn K3 (by omega)
    have nt4 := hu4.nt
    have cs4 : u4.cells = #[u4] := by rcases hu4 with ⟨_, rfl⟩ | ⟨o, ex, us, rfl, _⟩ <;> rfl
    have g4 : h4.get h1.next = .cells [u, u1] true true 1 := by rw [hs4 _ (by omega) (by omega), ha3.1.2 _ (by omega)]; exact hg
    have z4 : h4.get (h.next + 1) = .cells [.slice none 0 0, .slice none 0 0] true true 1 := by rw [hs4 _ (by omega) (by omega), ha3.1.2 _ (by omega)]; exact hz
    try simp (disch := first | omega | (simp; done) | fail) [wrap64c, if_pos, if_neg, g0, z0, nt1, cs1, lL, g1, g2, z2, e2, e3, e11, e12, e13, hg, ntu, hlt, q_x, g_x, l_x, r_x, z_x, nt3, cs3, nt4, cs4, g4, hap, putCells]
    refine loopK_next _ ?hm ?hf ⟨j + 1, u4, rfl, (by simp (disch := first | omega | (simp; done) | fail) [wrap64c, if_pos, if_neg, g0, z0, nt1, cs1, lL, g1, g2, z2, e2, e3, e11, e12, e13, hg, ntu, hlt, q_x, g_x, l_x, r_x, z_x, nt3, cs3, nt4, cs4, g4] <;> omega), (by first | omega | assumption | (simp (disch := first | omega | (simp; done) | fail) [wrap64c, if_pos, if_neg, g0, z0, nt1, cs1, lL, g1, g2, z2, e2, e3, e11, e12, e13, hg, ntu, hlt, q_x, g_x, l_x, r_x, z_x, nt3, cs3, nt4, cs4, g4] <;> omega)), (by have := K2.1.1; exact (by first | exact aK | exact kK)), (by simp; omega), (by simp), (by simp [z4, show ¬ h.next + 1 = h1.next by omega]), ?c_hu, ?c_hb⟩
    (case hm => first | omega | (simp; omega))
    (case hf => simp [FrameL, g0, z0, nt1, cs1, lL, g1, g2, z2, e2, e3, e11, e12, e13, hg, ntu, hlt, q_x, g_x, l_x, r_x, z_x, nt3, cs3, nt4, cs4, g4, f2_0, f3_0, f11_0, f12_0])
    case c_hu =>
      exact (by
        rw [List.take_succ_eq_append_getElem hlt]
        rcases hu4 with ⟨e, _⟩ | ⟨o, ex, us, e1, e2, e3, e4, e5⟩
        · exact absurd (congrArg List.length e) (by rw [List.length_append]; exact Nat.succ_ne_zero _)
        · exact .inr ⟨o, ex, us, e1, e2, e3, by simp [show ¬ o = h1.next by omega, e4], e5.same (Same.put (Same.refl _ _) (by omega) _)⟩)
    case c_hb =>
      exact (by
        refine IntsO.same (Same.put ⟨by omega, fun o ho ho' => ?_⟩ (by unfold Btw; omega) _) hb
        unfold Btw at ho
        rw [hs4 o (by omega) (by omega), ha3.1.2 o ho'])
  · try simp (disch := first | omega | (simp; done) | fail) [wrap64c, if_pos, if_neg, g0, z0, nt1, cs1, lL, g1, g2, z2, e2, e3, e11, e12, e13, hg, ntu, hlt, putCells, hz]
    have hj' : j = L.length := by omega
    subst hj'
    rw [List.take_length] at hu
    have hk := K2.1.1
    have hu' := hu.own (by omega)
    refine done_ret (by simp [putCells, hz, hg, e2]; rfl) ⟨(by first | exact aK | exact kK), u, u1, Btw h2.next h'.next, Btw h0.next h1.next, by simp, hu'.same (Same.put (Same.refl _ _) (by unfold Btw; omega) _), hb.same (Same.put (Same.refl _ _) (by unfold Btw; omega) _), ?_, ?_, ?_⟩ <;> intro x <;> simp [Btw] <;> omega
end Go.Proofs.Ytnnjehonbolliaa
namespace Go.Proofs.Ytnnjehonbolliaa
set_option linter.unusedSimpArgs false
set_option linter.unusedVariables false
set_option maxHeartbeats 4000000
open Go Go.Eng
attribute [local irreducible] WD RunD PreD Runs CallOK
def FnCL (f : FuncId) (R : List (List Int) → List Int → List Int) (B : List (List Int) → List Int → Bool) : Prop :=
  ∀ (h : Hp) (v : Value) (L : List (List Int)) (A : List Int), Chips h v L A →
    ∃ u h', CallOK Try.prog f #[v] h (.tuple #[u, .bool (B L A)]) h' ∧ Adds h h' ∧ IntsO (Btw h.next h'.next) h' u (R L A)
noncomputable def degR (L : List (List Int)) (A : List Int) : List Int := if goodB L A then (List.range A.length).map (deg L) else []
noncomputable def canR (L : List (List Int)) (A : List Int) : List Int := if goodB L A then movesL L A else []
theorem good_of {L : List (List Int)} {A : List Int} (h : goodB L A = true) : Good L A := by
  unfold goodB at h; exact @of_decide_eq_true _ (Classical.propDecidable _) h
end Go.Proofs.Ytnnjehonbolliaa
namespace Go.Proofs.Ytnnjehonbolliaa
set_option linter.unusedSimpArgs false
set_option linter.unusedVariables false
set_option maxHeartbeats 4000000
open Go Go.Eng
attribute [local irreducible] WD RunD PreD Runs CallOK
structure Ok (L : List (List Int)) (A : List Int) : Prop where
  sh : Shape L A.length
  nn : ∀ x ∈ A, 0 ≤ x
  sm : A.sum ≤ 30
theorem Good.ok {L : List (List Int)} {A : List Int} (h : Good L A) : Ok L A := ⟨h.shape, fun x hx => (h.2.2.1 x hx).1, h.2.2.2.2.2.2⟩
theorem sum_nn : ∀ {A : List Int}, (∀ x ∈ A, 0 ≤ x) → 0 ≤ A.sum
  | [], _ => by simp
  | x :: A, h => by
    have := sum_nn (A := A) fun y hy => h y (List.mem_cons_of_mem _ hy)
    have := h x (List.mem_cons_self)
    simp; omega
theorem le_sum : ∀ {A : List Int}, (∀ x ∈ A, 0 ≤ x) → ∀ {x : Int}, x ∈ A → x ≤ A.sum
  | [], _, x, hx => by cases hx
  | y :: A, h, x, hx => by
    have h1 := sum_nn (A := A) fun y hy => h y (List.mem_cons_of_mem _ hy)
    have h2 := h y (List.mem_cons_self)
    rcases List.mem_cons.1 hx with rfl | hx
    · simp; omega
    · have := le_sum (A := A) (fun y hy => h y (List.mem_cons_of_mem _ hy)) hx
      simp; omega
theorem Ok.small {L : List (List Int)} {A : List Int} (h : Ok L A) : Small A := fun x hx => by
  have := le_sum h.nn hx; have := h.nn x hx; have := h.sm; omega
theorem Ok.le {L : List (List Int)} {A : List Int} (h : Ok L A) : A.length ≤ 5 := h.sh.le
theorem sum_moveA {L : List (List Int)} {A : List Int} (hs : Shape L A.length) {i : Nat} (hi : i < A.length) : (moveA L A i).sum = A.sum := by
  have hi' : i < L.length := by have := hs.len; omega
  have h1 := hs.at hi'
  have key : ∀ k, k ≤ A.length → ((List.range k).map fun (j : Nat) => A.getD j 0 + (L.getD i []).getD j 0 - if j = i then deg L i else 0).sum = (A.take k).sum + (L[i].take k).sum - if i < k then deg L i else 0 := by
    intro k
    induction k with
    | zero => intro _; simp
    | succ k ih =>
      intro hk
      rw [List.range_succ, List.map_append, List.sum_append, ih (by omega), sum_step (A := A) (by omega), sum_step (A := L[i]) (by omega)]
      have e1 : A.getD k 0 = A[k] := by simp [show k < A.length by omega]
      have e2 : (L.getD i []).getD k 0 = L[i][k] := by simp [hi', show k < L[i].length by omega]
      simp only [List.map_cons, List.map_nil, List.sum_cons, List.sum_nil, e1, e2]
      by_cases h1 : k = i
      · subst h1; simp; omega
      · by_cases h2 : i < k
        · simp [h1, h2, show i < k + 1 by omega]; omega
        · simp [h1, h2, show ¬ i < k + 1 by omega]; omega
  have := key A.length (Nat.le_refl _)
  unfold moveA
  rw [this, List.take_length, List.take_of_length_le (by omega), deg_eq hi', if_pos hi]
  omega
theorem Ok.move {L : List (List Int)} {A : List Int} (h : Ok L A) {i : Nat} (hi : i < A.length) (hc : canB L A i = true) : Ok L (moveA L A i) := by
  refine ⟨by simpa using h.sh, fun x hx => ?_, by rw [sum_moveA h.sh hi]; exact h.sm⟩
  obtain ⟨k, hk, rfl⟩ := List.getElem_of_mem hx
  have hk' : k < A.length := by simpa using hk
  have hi' : i < L.length := by have := h.sh.len; omega
  have h1 := h.sh.at hi'
  rw [moveA_get L A i k hk' hk hi' (by omega)]
  have h2 := h.nn _ (List.getElem_mem hk')
  have h3 := h1.2 _ (List.getElem_mem (show k < L[i].length by omega))
  by_cases e : k = i
  · subst e
    simp [canB, hk'] at hc
    rw [if_pos rfl]; omega
  · rw [if_neg e]; omega
def stepA (L : List (List Int)) (A : List Int) (m : Int) : Option (List Int) := if 0 ≤ m ∧ m < A.length ∧ canB L A m.toNat = true then some (moveA L A m.toNat) else none
def runA (L : List (List Int)) : List Int → List Int → Option (List Int)
  | A, [] => some A
  | A, m :: l => match stepA L A m with
    | some B => runA L B l
    | none => none
theorem runA_append (L : List (List Int)) : ∀ (xs ys A : List Int), runA L A (xs ++ ys) = match runA L A xs with
    | some B => runA L B ys
    | none => none
  | [], ys, A => rfl
  | m :: xs, ys, A => by
    simp only [List.cons_append, runA]
    cases stepA L A m with
    | none => rfl
    | some B => exact runA_append L xs ys B
theorem runA_step {L : List (List Int)} {A B ms : List Int} {j : Nat} (hj : j < ms.length) (h : runA L A (ms.take j) = some B) : runA L A (ms.take (j + 1)) = stepA L B ms[j] := by
  rw [List.take_succ_eq_append_getElem hj, runA_append, h]
  simp only [runA]
  cases stepA L B ms[j] <;> rfl
theorem runA_stop {L : List (List Int)} {A ms : List Int} {j : Nat} (h : runA L A (ms.take j) = none) : runA L A ms = none := by
  have := runA_append L (ms.take j) (ms.drop j) A
  rw [List.take_append_drop, h] at this
  exact this
theorem stepA_some {L : List (List Int)} {A : List Int} {i : Nat} (hi : i < A.length) (hc : canB L A i = true) : stepA L A (i : Int) = some (moveA L A i) := by
  unfold stepA; rw [if_pos ⟨by omega, by omega, by simpa using hc⟩]; rfl
theorem stepA_cannot {L : List (List Int)} {A : List Int} {i : Nat} (hc : canB L A i = false) : stepA L A (i : Int) = none := by
  unfold stepA; rw [if_neg (fun q => by simp [hc] at q)]
theorem stepA_out {L : List (List Int)} {A : List Int} {m : Int} (h : ¬ (0 ≤ m ∧ m ≤ (A.length : Int) - 1)) : stepA L A m = none := by
  unfold stepA; rw [if_neg (fun q => h ⟨q.1, by omega⟩)]
noncomputable def runR (L : List (List Int)) (A ms : List Int) : Option (List Int) := if goodB L A = true ∧ ms.length ≤ 120 then runA L A ms else none
def chL (L : List (List Int)) : Option (List Int) → List (List Int)
  | some _ => L
  | none => []
def chA : Option (List Int) → List Int
  | some B => B
  | none => []
def FnCIC (f : FuncId) (R : List (List Int) → List Int → List Int → Option (List Int)) : Prop :=
  ∀ (h : Hp) (v w : Value) (L : List (List Int)) (A ms : List Int), Chips h v L A → Ints h w ms →
    ∃ v' h', CallOK Try.prog f #[v, w] h v' h' ∧ Adds h h' ∧ ∃ u, v' = .tuple #[u, .bool (R L A ms).isSome] ∧ ChipsO (Btw h.next h'.next) h' u (chL L (R L A ms)) (chA (R L A ms))
theorem runR_bad {L : List (List Int)} {A ms : List Int} (h : ¬ (goodB L A = true ∧ ms.length ≤ 120)) : runR L A ms = none := if_neg h
theorem runR_good {L : List (List Int)} {A ms : List Int} (h : goodB L A = true ∧ ms.length ≤ 120) : runR L A ms = runA L A ms := if_pos h
theorem row_le {L : List (List Int)} {n : Nat} (h : Shape L n) : L.length < 2 ^ 39 ∧ ∀ x ∈ L, x.length < 2 ^ 39 := by
  have := h.len; have := h.le
  exact ⟨by omega, fun x hx => by have := (h.row x hx).1; omega⟩
theorem imRunChips_ok : FnCIC 19 runR := by
  intro h v w L A ms hv hw
  refine callY_L (args := [v, w]) 45 _ [.cell 4 27, .tmp 5] Try.func19 rfl rfl rfl ?_
  have hv0 := hv
  obtain ⟨a, b, rfl, hL, hA⟩ := hv
  have hwl := hw.len
  have lw := hw.lenD
  refine WD_first ?_
  try simp (disch := first | omega | (simp; done) | fail) [wrap64c, if_pos, if_neg, lw]
  refine stopK_heap fun h0 q_h0 => ?_
  refine stopK_go ?_
  have k0 : Adds h h0 := by rw [q_h0]; exact (by first | exact aK | exact kK)
  have n0 : h0.next = h.next + 2 := by simp [q_h0]
  have g0 : h0.get h.next = .cells [a, b] true true 1 := by simp [q_h0]
  have z0 : h0.get (h.next + 1) = .cells [.slice none 0 0, .slice none 0 0] true true 1 := by simp [q_h0]
  try simp (disch := first | omega | (simp; done) | fail) [wrap64c, if_pos, if_neg, lw, g0, z0]
  refine callG_c (by simp) (by simp) ?ha (imAreChips_ok h0 _ L A (hv0.keep k0.1)) ?_
  (case ha => simp (disch := first | omega | (simp; done) | fail) [wrap64c, if_pos, if_neg, lw, g0, z0])
  by_cases c1 : goodB L A = true
  · by_cases c2 : ms.length ≤ 120
    · have hg := good_of c1
      have ho := hg.ok
      have h5 := ho.le
      obtain ⟨r1, r2⟩ := row_le ho.sh
      try simp (disch := first | omega | (simp; done) | fail) [wrap64c, if_pos, if_neg, lw, g0, z0, c1, c2]
      obtain ⟨v1, h1, hc1, ha1, hi1⟩ := imCopied_ok h0 _ L A (hv0.keep k0.1) r1 r2 (by omega)
      obtain ⟨p, q, S1, S2, rfl, hp, hq, s1, s2, s3⟩ := hi1
      refine callG_c (by simp) (by simp) ?ha (hc1) ?_
      (case ha => simp (disch := first | omega | (simp; done) | fail) [wrap64c, if_pos, if_neg, lw, g0, z0, c1, c2])
      have z1 : h1.get (h.next + 1) = .cells [.slice none 0 0, .slice none 0 0] true true 1 := by rw [ha1.1.2 _ (by omega)]; exact z0
      have K1 := k0.trans ha1
      have n1 := ha1.1.1
      have ntp := hp.nt
      have csp := hp.cs
      have ntq := hq.nt
      have csq := hq.cs
      try simp (disch := first | omega | (simp; done) | fail) [wrap64c, if_pos, if_neg, lw, g0, z0, c1, c2, z1, ntp, csp, ntq, csq, putCells]
      first | refine WY_heap fun h2 q_h2 => ?_ | refine callG_heap fun h2 q_h2 => ?_ | refine callP_heap fun h2 q_h2 => ?_ | refine callS_heap fun h2 q_h2 => ?_ | refine RY_heap fun h2 q_h2 => ?_ | refine PY_heap fun h2 q_h2 => ?_ | refine SY_heap fun h2 q_h2 => ?_ | refine doneY_heap fun h2 q_h2 => ?_ | refine loopK_heap fun h2 q_h2 => ?_ | refine thenY_heap fun h2 q_h2 => ?_ | refine thenM_heap fun h2 q_h2 => ?_
      have K12 : Adds h1 h2 := by rw [q_h2]; exact (by first | exact aK | exact kK)
      have n2 : h2.next = h1.next + 1 := by simp [q_h2]
      have g2 : h2.get h1.next = .cells [p, q] true true 1 := by simp [q_h2]
      have z2 : h2.get (h.next + 1) = .cells [.slice none 0 0, .slice none 0 0] true true 1 := by rw [K12.1.2 _ (by omega)]; exact z1
      have hp2 := hp.keep K12.1
      have hq2 := hq.keep K12.1
      refine WD_loopC [4, 6, 20, 21] (fun m tm h' => ∃ j B, m = ms.length - j ∧ tm 22 = .int .i64 (j : Int) ∧ (j ≤ ms.length) ∧ (Upd S2 h2 h') ∧ (Adds h h') ∧ (runA L A (ms.take j) = some B) ∧ (B.length = A.length) ∧ (Ok L B) ∧ (IntsO S2 h' q B)) _ ⟨0, A, rfl, (by simp (disch := first | omega | (simp; done) | fail) [wrap64c, if_pos, if_neg, lw, g0, z0, c1, c2, z1, ntp, csp, ntq, csq, g2, z2]), (by first | omega | assumption | (simp (disch := first | omega | (simp; done) | fail) [wrap64c, if_pos, if_neg, lw, g0, z0, c1, c2, z1, ntp, csp, ntq, csq, g2, z2] <;> omega)), (Upd.refl _ _), (K1.trans K12), (by simp [runA]), rfl, ho, hq2⟩ ?_
      rintro m tm h' hFr ⟨j, B, rfl, e22, hj, hU, hk, hB, hlB, hoB, hu⟩
      simp only [FrameL] at hFr
      obtain ⟨f4_0, f6_0, f20_0, f21_0, -⟩ := hFr
      try simp (disch := first | omega | (simp; done) | fail) [wrap64c, if_pos, if_neg, lw, g0, z0, c1, c2, z1, ntp, csp, ntq, csq, g2, z2] at f4_0 f6_0 f20_0 f21_0
      have e4 := f4_0
      have e6 := f6_0
      have e20 := f20_0
      have e21 := f21_0
      have lu := hu.lenD
      have hn := hU.1
      have g3 : h'.get h1.next = .cells [p, q] true true 1 := by rw [hU.2 _ (by omega) (fun e => by have := s2 _ e; unfold Btw at this; omega)]; exact g2
      have z3 : h'.get (h.next + 1) = .cells [.slice none 0 0, .slice none 0 0] true true 1 := by rw [hU.2 _ (by omega) (fun e => by have := s2 _ e; unfold Btw at this; omega)]; exact z2
      have hp3 := hp2.same (hU.same s3)
      by_cases hlt : j < ms.length
      · obtain ⟨o_x, i_x, c_x, cs_x, own_x, ex_x, es_x, q_x, b_x, g_x, l_x, r_x⟩ := (hw.keep hk.1).open ((by omega))
        have z_x : ∀ h2 : i_x < cs_x.length, cs_x[i_x] = _ := fun h2 => r_x 0 ((by omega)) h2
        try simp (disch := first | omega | (simp; done) | fail) [wrap64c, if_pos, if_neg, lw, g0, z0, c1, c2, z1, ntp, csp, ntq, csq, g2, z2, e4, e6, e20, e21, e22, lu, g3, z3, hlt, q_x, g_x, l_x, r_x, z_x]
        have hc := within_ok h' ms[j] 0 ((B.length : Int) - 1)
        by_cases c3 : 0 ≤ ms[j] ∧ ms[j] ≤ (B.length : Int) - 1
        · rw [decide_eq_true c3] at hc
          refine callG_c (by simp) (by simp) ?ha (hc) ?_
          (case ha => simp (disch := first | omega | (simp; done) | fail) [wrap64c, if_pos, if_neg, lw, g0, z0, c1, c2, z1, ntp, csp, ntq, csq, g2, z2, e4, e6, e20, e21, e22, lu, g3, z3, hlt, q_x, g_x, l_x, r_x, z_x])
          obtain ⟨i, hi⟩ : ∃ i : Nat, ms[j] = (i : Int) := ⟨ms[j].toNat, by omega⟩
          have hiB : i < B.length := by omega
          try simp (disch := first | omega | (simp; done) | fail) [wrap64c, if_pos, if_neg, lw, g0, z0, c1, c2, z1, ntp, csp, ntq, csq, g2, z2, e4, e6, e20, e21, e22, lu, g3, z3, hlt, q_x, g_x, l_x, r_x, z_x, hi]
          refine callG_c (by simp) (by simp) ?ha (imCan_ok h' _ L B i ⟨p, q, rfl, hp3.rows, hu.ints⟩ hoB.sh hiB) ?_
          (case ha => simp (disch := first | omega | (simp; done) | fail) [wrap64c, if_pos, if_neg, lw, g0, z0, c1, c2, z1, ntp, csp, ntq, csq, g2, z2, e4, e6, e20, e21, e22, lu, g3, z3, hlt, q_x, g_x, l_x, r_x, z_x, hi])
          by_cases c4 : canB L B i = true
          · try simp (disch := first | omega | (simp; done) | fail) [wrap64c, if_pos, if_neg, lw, g0, z0, c1, c2, z1, ntp, csp, ntq, csq, g2, z2, e4, e6, e20, e21, e22, lu, g3, z3, hlt, q_x, g_x, l_x, r_x, z_x, hi, c4]
            obtain ⟨v4, h4, hc4, rfl, hW4, hu4⟩ := imMove_ok S2 S1 h' p q L B i hp3.read hu s3 hoB.sh hoB.small hiB
            refine callG_c (by simp) (by simp) ?ha (hc4) ?_
            (case ha => simp (disch := first | omega | (simp; done) | fail) [wrap64c, if_pos, if_neg, lw, g0, z0, c1, c2, z1, ntp, csp, ntq, csq, g2, z2, e4, e6, e20, e21, e22, lu, g3, z3, hlt, q_x, g_x, l_x, r_x, z_x, hi, c4])
            try simp (disch := first | omega | (simp; done) | fail) [wrap64c, if_pos, if_neg, lw, g0, z0, c1, c2, z1, ntp, csp, ntq, csq, g2, z2, e4, e6, e20, e21, e22, lu, g3, z3, hlt, q_x, g_x, l_x, r_x, z_x, hi, c4]
            refine loopK_next _ ?hm ?hf ⟨j + 1, moveA L B i, rfl, (by simp (disch := first | omega | (simp; done) | fail) [wrap64c, if_pos, if_neg, lw, g0, z0, c1, c2, z1, ntp, csp, ntq, csq, g2, z2, e4, e6, e20, e21, e22, lu, g3, z3, hlt, q_x, g_x, l_x, r_x, z_x, hi, c4] <;> omega), (by first | omega | assumption | (simp (disch := first | omega | (simp; done) | fail) [wrap64c, if_pos, if_neg, lw, g0, z0, c1, c2, z1, ntp, csp, ntq, csq, g2, z2, e4, e6, e20, e21, e22, lu, g3, z3, hlt, q_x, g_x, l_x, r_x, z_x, hi, c4] <;> omega)), (hU.trans hW4.upd), (hk.wr hW4 fun o e => by have := s2 _ e; unfold Btw at this; omega), (by rw [runA_step hlt hB, hi]; exact stepA_some hiB c4), (by simp [hlB]), (hoB.move hiB c4), hu4⟩
            (case hm => first | omega | (simp; omega))
            (case hf => simp [FrameL, lw, g0, z0, c1, c2, z1, ntp, csp, ntq, csq, g2, z2, e4, e6, e20, e21, e22, lu, g3, z3, hlt, q_x, g_x, l_x, r_x, z_x, hi, c4, f4_0, f6_0, f20_0, f21_0])
          · have c4' : canB L B i = false := by simpa using c4
            try simp (disch := first | omega | (simp; done) | fail) [wrap64c, if_pos, if_neg, lw, g0, z0, c1, c2, z1, ntp, csp, ntq, csq, g2, z2, e4, e6, e20, e21, e22, lu, g3, z3, hlt, q_x, g_x, l_x, r_x, z_x, hi, c4, c4', putCells]
            have e : runA L A ms = none := runA_stop (j := j + 1) (by rw [runA_step hlt hB, hi]; exact stepA_cannot c4')
            refine done_ret (by simp [putCells, z3, e4]; rfl) ⟨(by first | exact aK | exact kK), _, by rw [runR_good ⟨c1, c2⟩, e]; rfl, ?_⟩
            rw [runR_good ⟨c1, c2⟩, e]
            exact .nil _ _
        · rw [decide_eq_false c3] at hc
          refine callG_c (by simp) (by simp) ?ha (hc) ?_
          (case ha => simp (disch := first | omega | (simp; done) | fail) [wrap64c, if_pos, if_neg, lw, g0, z0, c1, c2, z1, ntp, csp, ntq, csq, g2, z2, e4, e6, e20, e21, e22, lu, g3, z3, hlt, q_x, g_x, l_x, r_x, z_x])
          try simp (disch := first | omega | (simp; done) | fail) [wrap64c, if_pos, if_neg, lw, g0, z0, c1, c2, z1, ntp, csp, ntq, csq, g2, z2, e4, e6, e20, e21, e22, lu, g3, z3, hlt, q_x, g_x, l_x, r_x, z_x, putCells]
          have e : runA L A ms = none := runA_stop (j := j + 1) (by rw [runA_step hlt hB]; exact stepA_out c3)
          refine done_ret (by simp [putCells, z3, e4]; rfl) ⟨(by first | exact aK | exact kK), _, by rw [runR_good ⟨c1, c2⟩, e]; rfl, ?_⟩
          rw [runR_good ⟨c1, c2⟩, e]
          exact .nil _ _
      · try simp (disch := first | omega | (simp; done) | fail) [wrap64c, if_pos, if_neg, lw, g0, z0, c1, c2, z1, ntp, csp, ntq, csq, g2, z2, e4, e6, e20, e21, e22, lu, g3, z3, hlt, putCells]
        have hj' : j = ms.length := by omega
        subst hj'
        rw [List.take_length] at hB
        refine done_ret (by simp [putCells, z3, g3, e4]; rfl) ⟨(by first | exact aK | exact kK), _, by rw [runR_good ⟨c1, c2⟩, hB]; rfl, ?_⟩
        rw [runR_good ⟨c1, c2⟩, hB]
        refine ⟨p, q, S1, S2, by simp, hp3.same (Same.put (Same.refl _ _) (fun e => by have := s1 _ e; unfold Btw at this; omega) _), hu.same (Same.put (Same.refl _ _) (fun e => by have := s2 _ e; unfold Btw at this; omega) _), fun x hx => ?_, fun x hx => ?_, s3⟩
        · have := s1 x hx; unfold Btw at *; simp; omega
        · have := s2 x hx; unfold Btw at *; simp; omega
    · try simp (disch := first | omega | (simp; done) | fail) [wrap64c, if_pos, if_neg, lw, g0, z0, c1, c2, putCells]
      refine done_ret (by simp [putCells, z0]; rfl) ⟨(by first | exact aK | exact kK), _, by rw [runR_bad (fun q => c2 q.2)]; rfl, ?_⟩
      rw [runR_bad (fun q => c2 q.2)]
      exact .nil _ _
  · have c1' : goodB L A = false := by simpa using c1
    try simp (disch := first | omega | (simp; done) | fail) [wrap64c, if_pos, if_neg, lw, g0, z0, c1, c1', putCells]
    refine done_ret (by simp [putCells, z0]; rfl) ⟨(by first | exact aK | exact kK), _, by rw [runR_bad (fun q => c1 q.1)]; rfl, ?_⟩
    rw [runR_bad (fun q => c1 q.1)]
    exact .nil _ _
end Go.Proofs.Ytnnjehonbolliaa
namespace Go.Proofs.Ytnnjehonbolliaa
set_option linter.unusedSimpArgs false
set_option linter.unusedVariables false
set_option maxHeartbeats 4000000
open Go Go.Eng
attribute [local irreducible] WD RunD PreD Runs CallOK
noncomputable def isR (L : List (List Int)) (A ms : List Int) : Bool := (runR L A ms).isSome
noncomputable def isG (L : List (List Int)) (A ms : List Int) : Bool := goodB L A && decide (ms.length ≤ 120)
theorem imIsRun_ok (h : Hp) (v w : Value) (L : List (List Int)) (A ms : List Int) (hv : Chips h v L A) (hw : Ints h w ms) : CallOK Try.prog 24 #[v, w] h (.tuple #[.bool (isR L A ms), .bool (isG L A ms)]) h := by
  refine callY_P 23 _ [.tmp 4, .tmp 5] Try.func24 rfl rfl rfl (by first | rfl | simp) ?_
  have hv0 := hv
  obtain ⟨a, b, rfl, hL, hA⟩ := hv
  have hwl := hw.len
  have lw := hw.lenD
  refine WD_first ?_
  try simp (disch := first | omega | (simp; done) | fail) [wrap64c, if_pos, if_neg, lw]
  refine stopK_heap fun h0 q_h0 => ?_
  refine stopK_go ?_
  have g_h0 : h0.get h.next = .cells [a, b] true true 1 := by simp [q_h0]
  have k_h0 : Adds h h0 := by rw [q_h0]; exact (by first | exact aK | exact kK)
  have n_h0 : h.next < h0.next := by simp [q_h0]; try omega
  try simp (disch := first | omega | (simp; done) | fail) [wrap64c, if_pos, if_neg, lw, g_h0]
  refine callG_c (by simp) (by simp) ?ha (imAreChips_ok h0 _ L A (hv0.keep k_h0.1)) ?_
  (case ha => simp (disch := first | omega | (simp; done) | fail) [wrap64c, if_pos, if_neg, lw, g_h0])
  by_cases c1 : goodB L A = true
  · by_cases c2 : ms.length ≤ 120
    · try simp (disch := first | omega | (simp; done) | fail) [wrap64c, if_pos, if_neg, lw, g_h0, c1, c2]
      obtain ⟨v1, h1, hc1, ha1, u1, rfl, hu1⟩ := imRunChips_ok h0 _ w L A ms (hv0.keep k_h0.1) (hw.keep k_h0.1)
      obtain ⟨p, q, S1, S2, rfl, hp, hq, s1, s2, s3⟩ := hu1
      refine callG_c (by simp) (by simp) ?ha (hc1) ?_
      (case ha => simp (disch := first | omega | (simp; done) | fail) [wrap64c, if_pos, if_neg, lw, g_h0, c1, c2])
      have ntp := hp.nt
      have csp := hp.cs
      have ntq := hq.nt
      have csq := hq.cs
      have n1 := ha1.1.1
      try simp (disch := first | omega | (simp; done) | fail) [wrap64c, if_pos, if_neg, lw, g_h0, c1, c2, ntp, csp, ntq, csq, putCells]
      have K1 := k_h0.trans ha1
      exact done_ret rfl ⟨by simp [isR, isG, c1, c2], (by first | exact aK | exact kK)⟩
    · try simp (disch := first | omega | (simp; done) | fail) [wrap64c, if_pos, if_neg, lw, g_h0, c1, c2]
      exact done_ret rfl (by simp [isR, isG, runR, c1, c2, k_h0.1])
  · have c1' : goodB L A = false := by simpa using c1
    try simp (disch := first | omega | (simp; done) | fail) [wrap64c, if_pos, if_neg, lw, g_h0, c1, c1']
    exact done_ret rfl (by simp [isR, isG, runR, c1', k_h0.1])
def FnCNC (f : FuncId) (R : List (List Int) → List Int → Int → Option (List Int)) : Prop :=
  ∀ (h : Hp) (v : Value) (L : List (List Int)) (A : List Int) (i : Int), Chips h v L A →
    ∃ v' h', CallOK Try.prog f #[v, .int .i64 i] h v' h' ∧ Adds h h' ∧ ∃ u, v' = .tuple #[u, .bool (R L A i).isSome] ∧ ChipsO (Btw h.next h'.next) h' u (chL L (R L A i)) (chA (R L A i))
noncomputable def moveR (L : List (List Int)) (A : List Int) (i : Int) : Option (List Int) := runR L A [i]
end Go.Proofs.Ytnnjehonbolliaa
