/- One operation of the model against the abstract heap: what 'OpOK' says, and its laws for the operations that enter no function. -/
import Derived.Test.YtpehnhjgdgnnkaaEngA
import Derived.Laws.Entries
namespace Go.Eng

def ev (tm : Nat → Value) : Operand → Value
  | .tmp t => tm t
  | .const v => v
  | .func f => .func (.func f) #[] #[]
  | .global _ => undef

/-- A value without an address: the same in both. -/
def plainS : Value → Bool
  | .bool _ | .int _ _ | .string _ | .pointer none | .slice none 0 0 | .map none | .nilFunc | .nilIface => true
  | _ => false
def plainV : Value → Bool
  | .agg cs => cs.all plainS
  | .tuple cs => cs.all plainS
  | v => plainS v

theorem VRel.ofS (E : Emb) {v : Value} (h : plainS v = true) : VRel E v v := by
  unfold plainS at h
  split at h <;> first | cases h | skip
  · exact .bool _
  · exact .int _ _
  · exact .string _
  · exact .ptrNil
  · exact .sliceNil
  · exact .mapNil
  · exact .nilFunc
  · exact .nilIface

theorem plainS_one {v : Value} (h : plainS v = true) : v.oneCell' = true := by
  unfold plainS at h
  split at h <;> first | rfl | cases h

theorem all_getD {cs : Array Value} {p : Value → Bool} (h : cs.all p = true) {i : Nat} (hi : i < cs.size) : p (cs.getD i undef) = true := by
  rw [Array.all_eq_true] at h
  rw [Array.getD_eq_getD_getElem?, Array.getElem?_eq_getElem hi]
  exact h i hi

theorem VRel.ofV (E : Emb) {v : Value} (h : plainV v = true) : VRel E v v := by
  unfold plainV at h
  split at h
  · exact .agg _ _ rfl (fun i hi => plainS_one (all_getD h hi)) (fun i hi => .ofS E (all_getD h hi))
  · exact .tuple _ _ rfl (fun i hi => .ofS E (all_getD h hi))
  · exact .ofS E h

def okX : Operand → Bool
  | .tmp _ | .func _ => true
  | .const v => plainV v
  | .global _ => false

theorem ev_rel {E : Emb} {tm : Nat → Value} {a : Act} {x : Operand} (hx : okX x = true) (h : ∀ t, x = .tmp t → VRel E (tm t) (a.tmps.getD t undef)) : VRel E (ev tm x) (a.eval x) := by
  cases x with
  | tmp t => exact h t rfl
  | const v => exact .ofV E hx
  | func f => exact .func _ _ _ _ _ rfl rfl (fun i hi => absurd hi (by simp)) (fun i hi => absurd hi (by simp))
  | global g => cases hx

/-- One operation: from the abstract state (tm, h) it yields v and the heap h', whatever the model's memory and whatever it draws. -/
def OpOK (P : Program) (o : Oper) (tm : Nat → Value) (h : Hp) (v : Value) (h' : Hp) : Prop :=
  ∀ (E : Emb) (base : Nat) (w : World) (a : Act) (next : Act → World → Prop) (Q : Exit → Act → World → Prop), HRel E base h w.heap →
    (∀ t, Operand.tmp t ∈ o.op.operands → VRel E (tm t) (a.tmps.getD t undef)) →
    (∀ E' w' v', Step E h w E' h' w' → HRel E' base h' w'.heap → VRel E' v v' → next (a.put o.dst v') w') → o.wp P a w next Q

/-- The operation is a computation that yields a value in memory as it is. -/
theorem OpOK.pure {P : Program} {o : Oper} {tm : Nat → Value} {h : Hp} {v : Value}
    (H : ∀ (E : Emb) (base : Nat) (w : World) (a : Act), HRel E base h w.heap → (∀ t, Operand.tmp t ∈ o.op.operands → VRel E (tm t) (a.tmps.getD t undef)) →
      ∃ v', VRel E v v' ∧ (execOp a.eval o).run P w = .ok (.value v') w) : OpOK P o tm h v h := by
  intro E base w a next Q hr ht hn
  obtain ⟨v', hv, hrun⟩ := H E base w a hr ht
  unfold Oper.wp
  rw [hrun]
  exact hn E w v' (Step.refl E h w) hr hv

theorem mem_ops {o : Oper} {x : Operand} {tm : Nat → Value} {E : Emb} {a : Act} (hx : okX x = true) (hm : x ∈ o.op.operands)
    (ht : ∀ t, Operand.tmp t ∈ o.op.operands → VRel E (tm t) (a.tmps.getD t undef)) : VRel E (ev tm x) (a.eval x) :=
  ev_rel hx fun t e => ht t (e ▸ hm)

/-! inversions -/
theorem VRel.inv_int {E : Emb} {k : IntKind} {n : Int} {v' : Value} (h : VRel E (.int k n) v') : v' = .int k n := by cases h; rfl
theorem VRel.inv_bool {E : Emb} {b : Bool} {v' : Value} (h : VRel E (.bool b) v') : v' = .bool b := by cases h; rfl
theorem VRel.inv_string {E : Emb} {s : ByteArray} {v' : Value} (h : VRel E (.string s) v') : v' = .string s := by cases h; rfl
theorem VRel.inv_ptr {E : Emb} {o i : Nat} {v' : Value} (h : VRel E (.pointer (some ⟨o, i, none⟩)) v') : E.D o ∧ v' = .pointer (some ⟨E.blk o, E.off o + i, none⟩) := by
  cases h; exact ⟨by assumption, rfl⟩
theorem VRel.inv_slice {E : Emb} {o i n c : Nat} {v' : Value} (h : VRel E (.slice (some ⟨o, i, none⟩) n c) v') :
    n ≤ c ∧ ∃ s a, v' = .slice (some a) n (c + s) ∧ ((E.D o ∧ s = E.slk o ∧ (c + s = 0 ∨ a = ⟨E.blk o, E.off o + i, none⟩)) ∨ False) := by
  cases h with
  | slice _ _ _ _ a hD hn ha => exact ⟨hn, _, a, rfl, .inl ⟨hD, rfl, ha⟩⟩
theorem VRel.inv_sliceNil {E : Emb} {v' : Value} (h : VRel E (.slice none 0 0) v') : v' = .slice none 0 0 := by cases h; rfl

section
variable {P : Program} {o : Oper} {tm : Nat → Value} {h : Hp}

theorem ok_move {x : Operand} (ho : o.op = .move x ∨ o.op = .assign x) (hx : okX x = true) : OpOK P o tm h (ev tm x) h := by
  refine OpOK.pure fun E base w a hr ht => ⟨a.eval x, mem_ops hx ?_ ht, ?_⟩
  · rcases ho with ho | ho <;> rw [ho] <;> simp [Op.operands]
  · rcases ho with ho | ho <;> simp [execOp, ho]

theorem ok_pick {c x y : Operand} {t : Bool} (ho : o.op = .pick c x y) (hc : ev tm c = .bool t) (hc' : okX c = true) (hx : okX x = true) (hy : okX y = true) :
    OpOK P o tm h (if t then ev tm x else ev tm y) h := by
  refine OpOK.pure fun E base w a hr ht => ⟨if t then a.eval x else a.eval y, ?_, ?_⟩
  · cases t
    · exact mem_ops hy (by rw [ho]; simp [Op.operands]) ht
    · exact mem_ops hx (by rw [ho]; simp [Op.operands]) ht
  · have hcv := mem_ops (x := c) hc' (by rw [ho]; simp [Op.operands]) ht
    rw [hc] at hcv
    simp [execOp, ho, hcv.inv_bool, asBool]

end

/-! Types. -/
def aggT (P : Program) (t : TypeId) : Option Bool := (P.underlying t).map fun d => match d with | .struct _ | .array _ _ => true | _ => false
def szT (P : Program) (t : TypeId) : Option Nat := (P.info? t).map (·.size)
def zeroT (P : Program) (t : TypeId) : Option Value := (P.info? t).bind (·.zero)
def byT (P : Program) (t : TypeId) : Option Nat := (P.info? t).map (·.bytes)

section
variable {P : Program} {w : World} {t : TypeId}
theorem run_szT {n : Nat} (h : szT P t = some n) : (sizeOf t).run P w = .ok n w := by
  unfold szT at h
  cases hi : P.info? t with
  | none => simp [hi] at h
  | some i => simp [hi] at h; simp [sizeOf, typeInfo, hi, h]
theorem run_zeroT {z : Value} (h : zeroT P t = some z) : (zeroValue t).run P w = .ok z w := by
  unfold zeroT at h
  cases hi : P.info? t with
  | none => simp [hi] at h
  | some i => simp [hi] at h; simp [zeroValue, typeInfo, hi, h]
theorem run_aggT {b : Bool} (h : aggT P t = some b) : (isAgg t).run P w = .ok b w := by
  unfold aggT at h
  cases hi : P.underlying t with
  | none => simp [hi] at h
  | some d => simp [hi] at h; simp [isAgg, underlying, hi]; split at h <;> simp_all
end

/-! Cells. -/
theorem cell_at {E : Emb} {base : Nat} {h : Hp} {H : Array Obj} {w : World} (hH : w.heap = H) (hr : HRel E base h H) {p : Nat} {c : List Value} {own ex : Bool} {es : Nat} (hd : E.D p)
    (hg : h.get p = .cells c own ex es) {i : Nat} (hi : i < c.length) : ∃ v', w.cell? ⟨E.blk p, E.off p + i, none⟩ = some v' ∧ VRel E (c.getD i undef) v' ∧ (c.getD i undef).oneCell' = true := by
  have h0 := hr.obj p hd
  rw [hg] at h0
  obtain ⟨C, ty, fz, h1, h2, h3, h4, _⟩ := h0
  refine ⟨C.getD (E.off p + i) undef, ?_, h3 i hi, h4 i hi⟩
  simp only [World.cell?, hH, h1, Option.isSome_none]
  rw [Array.getD_eq_getD_getElem?, Array.getElem?_eq_getElem (by omega)]
  rfl

theorem add_plain' (b i j : Nat) : (⟨b, i, none⟩ : Addr).add j = ⟨b, i + j, none⟩ := by
  unfold Addr.add; split
  · subst_vars; rfl
  · rfl

theorem ext_getD {c c' : Array Value} (hs : c.size = c'.size) (h : ∀ i, i < c.size → c.getD i undef = c'.getD i undef) : c = c' := by
  apply Array.ext hs
  intro i h1 h2
  have := h i h1
  rwa [Array.getD_eq_getD_getElem?, Array.getD_eq_getD_getElem?, Array.getElem?_eq_getElem h1, Array.getElem?_eq_getElem h2] at this

/-- Loading a variable of whatever type. -/
theorem run_loadVar_eng {P : Program} {E : Emb} {base : Nat} {h : Hp} {w : World} (hr : HRel E base h w.heap) {p : Nat} {c : List Value} {own ex : Bool} {es : Nat} (hd : E.D p)
    (hg : h.get p = .cells c own ex es) (t : TypeId) (i : Nat) :
    (aggT P t = some false → i < c.length → ∃ v', VRel E (c.getD i undef) v' ∧ (loadVar t ⟨E.blk p, E.off p + i, none⟩).run P w = .ok v' w) ∧
    (∀ n, aggT P t = some true → szT P t = some n → i + n ≤ c.length →
      ∃ v', VRel E (.agg ((c.drop i).take n).toArray) v' ∧ (loadVar t ⟨E.blk p, E.off p + i, none⟩).run P w = .ok v' w) := by
  constructor
  · intro ha hi
    obtain ⟨v', h1, h2, h3⟩ := cell_at rfl hr hd hg hi
    refine ⟨v', h2, ?_⟩
    simp [loadVar, run_aggT ha, h1]
  · intro n ha hs hi
    have hc : ∀ j, j < n → w.cell? ((⟨E.blk p, E.off p + i, none⟩ : Addr).add j) = some (((w.cell? ⟨E.blk p, E.off p + i + j, none⟩)).getD undef) := by
      intro j hj
      rw [add_plain']
      obtain ⟨v', h1, _⟩ := cell_at (i := i + j) rfl hr hd hg (by omega)
      rw [Nat.add_assoc, h1]; rfl
    have hl := run_loadCells (P := P) w ⟨E.blk p, E.off p + i, none⟩ n _ hc
    refine ⟨.agg ((List.range n).map fun j => ((w.cell? ⟨E.blk p, E.off p + i + j, none⟩)).getD undef).toArray, ?_, ?_⟩
    · have hlen : ((c.drop i).take n).length = n := by simp; omega
      have hget : ∀ j, j < n → (((c.drop i).take n).toArray).getD j undef = c.getD (i + j) undef := by
        intro j hj
        simp [List.getD, hj]
      refine .agg _ _ (by simp; omega) ?_ ?_
      · intro j hj
        simp at hj
        have hj' : j < n := by omega
        rw [hget j hj']
        obtain ⟨v', h1, h2, h3⟩ := cell_at (i := i + j) rfl hr hd hg (by omega)
        exact h3
      · intro j hj
        simp at hj
        have hj' : j < n := by omega
        rw [hget j hj']
        obtain ⟨v', h1, h2, h3⟩ := cell_at (i := i + j) rfl hr hd hg (by omega)
        have hq : w.cell? ⟨E.blk p, E.off p + i + j, none⟩ = some v' := by rw [Nat.add_assoc]; exact h1
        have : (((List.range n).map fun j => ((w.cell? ⟨E.blk p, E.off p + i + j, none⟩)).getD undef).toArray).getD j undef = v' := by
          simp [hj', hq]
        rw [this]; exact h2
    · simp [loadVar, run_aggT ha, run_szT hs, hl]

section
variable {P : Program} {o : Oper} {tm : Nat → Value} {h : Hp}

theorem ok_load1 {t : TypeId} {x : Operand} {p i : Nat} {c : List Value} {own ex : Bool} {es : Nat} (ho : o.op = .load t x) (hx : ev tm x = .pointer (some ⟨p, i, none⟩)) (hx' : okX x = true)
    (hg : h.get p = .cells c own ex es) (ha : aggT P t = some false) (hi : i < c.length) : OpOK P o tm h (c.getD i undef) h := by
  refine OpOK.pure fun E base w a hr ht => ?_
  have hv := mem_ops (x := x) hx' (by rw [ho]; simp [Op.operands]) ht
  rw [hx] at hv
  obtain ⟨hd, e⟩ := hv.inv_ptr
  obtain ⟨v', h1, h2⟩ := (run_loadVar_eng (P := P) hr hd hg t i).1 ha hi
  exact ⟨v', h1, by simp [execOp, ho, e, Instr.loadAt, Instr.sureAddr, h2]⟩

theorem ok_loadN {t : TypeId} {x : Operand} {p i n : Nat} {c : List Value} {own ex : Bool} {es : Nat} (ho : o.op = .load t x) (hx : ev tm x = .pointer (some ⟨p, i, none⟩)) (hx' : okX x = true)
    (hg : h.get p = .cells c own ex es) (ha : aggT P t = some true) (hs : szT P t = some n) (hi : i + n ≤ c.length) : OpOK P o tm h (.agg ((c.drop i).take n).toArray) h := by
  refine OpOK.pure fun E base w a hr ht => ?_
  have hv := mem_ops (x := x) hx' (by rw [ho]; simp [Op.operands]) ht
  rw [hx] at hv
  obtain ⟨hd, e⟩ := hv.inv_ptr
  obtain ⟨v', h1, h2⟩ := (run_loadVar_eng (P := P) hr hd hg t i).2 n ha hs hi
  exact ⟨v', h1, by simp [execOp, ho, e, Instr.loadAt, Instr.sureAddr, h2]⟩
end

end Go.Eng
