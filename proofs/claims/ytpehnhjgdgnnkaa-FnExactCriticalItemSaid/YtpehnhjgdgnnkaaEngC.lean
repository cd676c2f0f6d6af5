/- Operations that make memory or write it; fields, indexes, slices, arithmetic. -/
import Derived.Test.YtpehnhjgdgnnkaaEngB
namespace Go.Eng

theorem VRel.undef' (E : Emb) : VRel E (.tuple #[]) (.tuple #[]) := VRel.undef E

/-- A new row of cells. -/
theorem new_row {P : Program} {o : Oper} {h : Hp} {E : Emb} {base : Nat} {w : World} {a : Act} {next : Act → World → Prop} {Q : Exit → Act → World → Prop}
    {v : Value} {c : List Value} {ex : Bool} {es s : Nat} {C : Array Value} {ty : TypeId} {u : Nat → Value} (hr : HRel E base h w.heap)
    (hsz : c.length + s * es ≤ C.size) (hc : ∀ i, i < c.length → VRel E (c.getD i undef) (C.getD i undef)) (h1 : ∀ i, i < c.length → (c.getD i undef).oneCell' = true)
    (hex : ex = true → s = 0)
    (hrun : (execOp a.eval o).run P w = .ok (.value (u w.heap.size)) (w.alloc (.cells C ty)))
    (hv : ∀ E' : Emb, E'.D h.next → E'.blk h.next = w.heap.size → E'.off h.next = 0 → E'.slk h.next = s → (∀ x y, VRel E x y → VRel E' x y) → VRel E' v (u w.heap.size))
    (hn : ∀ E' w' v', Step E h w E' (h.alloc (.cells c true ex es)) w' → HRel E' base (h.alloc (.cells c true ex es)) w'.heap → VRel E' v v' → next (a.put o.dst v') w') : o.wp P a w next Q := by
  have hD : ∀ i, E.D i → (E.add h.next w.heap.size 0 s).D i ∧ (E.add h.next w.heap.size 0 s).blk i = E.blk i ∧ (E.add h.next w.heap.size 0 s).off i = E.off i ∧ (E.add h.next w.heap.size 0 s).slk i = E.slk i := fun i hd => by
    obtain ⟨a, b, c, d⟩ := E.add_ext h.next w.heap.size 0 s i (hr.lt i hd); exact ⟨a.2 hd, b, c, d⟩
  have hx : ORel (E.add h.next w.heap.size 0 s) base (w.alloc (.cells C ty)).heap h.next (.cells c true ex es) := by
    refine ⟨C, ty, (0, 0), ?_, ?_, ?_, h1, ?_, ?_⟩
    · show (w.heap.push (.cells C ty))[(E.add h.next w.heap.size 0 s).blk h.next]? = _
      simp [Emb.add]
    · simp [Emb.add]; exact hsz
    · intro i hi
      have := (hc i hi).mono hD
      simpa [Emb.add] using this
    · intro _; simp [Emb.add]; exact hr.le
    · intro e; simpa [Emb.add] using hex e
  obtain ⟨st, hr'⟩ := step_alloc (w' := w.alloc (.cells C ty)) hr (.cells c true ex es) (.cells C ty) s rfl rfl rfl rfl hx
  unfold Oper.wp
  rw [hrun]
  exact hn _ _ _ st hr' (hv _ (by simp [Emb.add]) (by simp [Emb.add]) (by simp [Emb.add]) (by simp [Emb.add]) (fun x y hxy => hxy.mono hD))

section
variable {P : Program} {o : Oper} {tm : Nat → Value} {h : Hp}

theorem toList_getD (c : Array Value) (i : Nat) : c.toList.getD i undef = c.getD i undef := by simp

theorem ok_alloc {e : TypeId} {z : Value} (ho : o.op = .alloc e) (hz : zeroT P e = some z) (hp : plainV z = true) (h1 : z.oneCell' = true ∨ ∃ cs, z = .agg cs) :
    OpOK P o tm h (.pointer (some ⟨h.next, 0, none⟩)) (h.alloc (.cells z.cells.toList true true 1)) := by
  intro E base w a next Q hr ht hn
  have hzr := VRel.ofV E hp
  refine new_row (u := fun b => .pointer (some ⟨b, 0, none⟩)) (s := 0) (C := z.cells) (ty := e) hr (by simp) ?_ ?_ (fun _ => rfl) ?_ ?_ hn
  · intro i hi; rw [toList_getD]; exact hzr.cells.2 i (by simpa using hi)
  · intro i hi
    rw [toList_getD]
    rcases h1 with h1 | ⟨cs, rfl⟩
    · have hc : z.cells = #[z] := by cases z <;> first | rfl | cases h1
      rw [hc] at hi ⊢
      have : i = 0 := by simp at hi; exact hi
      subst this; exact h1
    · cases hzr with | agg _ _ _ h1 _ => exact h1 i (by simpa [Value.cells] using hi)
  · simp [execOp, ho, Instr.alloc, run_zeroT hz, newVar, newRow]
  · intro E' hd hb hf hs _
    have := VRel.ptr (E := E') h.next 0 hd
    rwa [hb, hf] at this

theorem VRel.cells_one {E : Emb} {v v' : Value} (h : VRel E v v') (h1 : v.oneCell' = true ∨ ∃ cs, v = .agg cs) : ∀ i, i < v.cells.size → (v.cells.getD i Go.undef).oneCell' = true := by
  intro i hi
  rcases h1 with h1 | ⟨cs, rfl⟩
  · have hc : v.cells = #[v] := by cases v <;> first | rfl | cases h1
    rw [hc] at hi ⊢
    have : i = 0 := by simp at hi; exact hi
    subst this; exact h1
  · cases h with | agg _ _ _ h1 _ => exact h1 i hi

def notTup : Value → Bool
  | .tuple _ => false
  | _ => true
theorem notTup_iff {v : Value} (h : notTup v = true) : v.oneCell' = true ∨ ∃ cs, v = .agg cs := by
  cases v <;> first | exact .inl rfl | exact .inr ⟨_, rfl⟩ | cases h

theorem ok_box {e : TypeId} {x : Operand} (ho : o.op = .box e x) (hx : okX x = true) (h1 : notTup (ev tm x) = true) :
    OpOK P o tm h (.pointer (some ⟨h.next, 0, none⟩)) (h.alloc (.cells (ev tm x).cells.toList true true 1)) := by
  intro E base w a next Q hr ht hn
  have hv := mem_ops (x := x) hx (by rw [ho]; simp [Op.operands]) ht
  refine new_row (u := fun b => .pointer (some ⟨b, 0, none⟩)) (s := 0) (C := (a.eval x).cells) (ty := e) hr (by simp [hv.cells.1]) ?_ ?_ (fun _ => rfl) ?_ ?_ hn
  · intro i hi; rw [toList_getD]; exact hv.cells.2 i (by simpa using hi)
  · intro i hi; rw [toList_getD]; exact hv.cells_one (notTup_iff h1) i (by simpa using hi)
  · simp [execOp, ho, Instr.box, newVar, newRow]
  · intro E' hd hb hf hs _
    have := VRel.ptr (E := E') h.next 0 hd
    rwa [hb, hf] at this
end

/-! Stores. -/
theorem run_storeCells_eng {P : Program} (b : Nat) (ty : TypeId) : ∀ (vs : List Value) (i o : Nat) (w : World) (C : Array Value), w.heap[b]? = some (.cells C ty (0, 0)) → o + i + vs.length ≤ C.size →
    (∀ v ∈ vs, v.oneCell' = true) →
    ∃ w' C', (storeCells ⟨b, o, none⟩ vs i).run P w = .ok () w' ∧ w'.heap[b]? = some (.cells C' ty (0, 0)) ∧ C'.size = C.size ∧
      (∀ j, C'.getD j undef = if o + i ≤ j ∧ j < o + i + vs.length then vs.getD (j - (o + i)) undef else C.getD j undef) ∧
      w'.heap.size = w.heap.size ∧ (∀ b', b' ≠ b → w'.heap[b']? = w.heap[b']?) ∧ w'.os = w.os ∧ w'.tape = w.tape ∧ w'.output = w.output
  | [], i, o, w, C, hb, _, _ => ⟨w, C, rfl, hb, rfl, fun j => by rw [if_neg (by simp only [List.length_nil]; omega)], rfl, fun _ _ => rfl, rfl, rfl, rfl⟩
  | v :: r, i, o, w, C, hb, hs, h1 => by
    simp only [List.length_cons] at hs
    have hcell : w.cell? ⟨b, o + i, none⟩ = some (C.getD (o + i) undef) := by
      simp only [World.cell?, hb, Option.isSome_none]
      rw [Array.getD_eq_getD_getElem?, Array.getElem?_eq_getElem (by omega)]
      rfl
    have hfz : w.frozen? ⟨b, o + i, none⟩ = false := by simp [World.frozen?, hb]
    have hst : (store ((⟨b, o, none⟩ : Addr).add i) v).run P w = .ok () (w.setCell ⟨b, o + i, none⟩ v) := by
      rw [add_plain', run_store P w _ v _ (h1 v (by simp)), hcell]; simp [hfz]
    have hblt : b < w.heap.size := (Array.getElem?_eq_some_iff.1 hb).1
    have hb2 : (w.setCell ⟨b, o + i, none⟩ v).heap[b]? = some (.cells (C.setIfInBounds (o + i) v) ty (0, 0)) := by
      simp only [World.setCell, Array.getElem?_modify, if_true, hb, Option.map_some]
      simp
    obtain ⟨w', C', hrun, g1, g2, g3, g4, g5, g6, g7, g8⟩ := run_storeCells_eng (P := P) b ty r (i + 1) o (w.setCell ⟨b, o + i, none⟩ v) (C.setIfInBounds (o + i) v) hb2 (by simp; omega) (fun x hx => h1 x (by simp [hx]))
    refine ⟨w', C', ?_, g1, by simpa using g2, ?_, by rw [g4]; simp, ?_, g6, g7, g8⟩
    · simp only [storeCells, Sem.run_bind, hst, Result.andThen_ok, hrun]
    · intro j
      rw [g3 j]
      simp only [List.length_cons]
      by_cases hj : j = o + i
      · subst hj
        rw [if_neg (by omega), if_pos (by omega)]
        simp [Array.getD_eq_getD_getElem?, show o + i < C.size by omega]
      · have hne : (C.setIfInBounds (o + i) v).getD j undef = C.getD j undef := by
          simp [Array.getD_eq_getD_getElem?, Array.getElem?_setIfInBounds_ne (show o + i ≠ j by omega)]
        by_cases hin : o + (i + 1) ≤ j ∧ j < o + (i + 1) + r.length
        · rw [if_pos hin, if_pos (by omega)]
          have : j - (o + i) = (j - (o + (i + 1))) + 1 := by omega
          rw [this, List.getD_cons_succ]
        · rw [if_neg hin, if_neg (by omega), hne]
    · intro b' hb'
      rw [g5 b' hb']
      simp only [World.setCell, Array.getElem?_modify]
      rw [if_neg (by intro e; exact hb' e.symm)]

/-- The cells of an object with some of them written anew. -/
def putCells (c : List Value) (i : Nat) (vs : List Value) : List Value := c.take i ++ (vs ++ c.drop (i + vs.length))

theorem putCells_length {c : List Value} {i : Nat} {vs : List Value} (h : i + vs.length ≤ c.length) : (putCells c i vs).length = c.length := by
  simp [putCells]; omega

theorem putCells_getD {c : List Value} {i : Nat} {vs : List Value} (h : i + vs.length ≤ c.length) (j : Nat) :
    (putCells c i vs).getD j undef = if i ≤ j ∧ j < i + vs.length then vs.getD (j - i) undef else c.getD j undef := by
  unfold putCells
  simp only [List.getD_eq_getElem?_getD]
  by_cases h1 : j < i
  · rw [if_neg (by omega), List.getElem?_append_left (by simp; omega)]
    simp [h1]
  · rw [List.getElem?_append_right (by simp; omega)]
    have hl : (c.take i).length = i := by simp; omega
    rw [hl]
    by_cases h2 : j < i + vs.length
    · rw [if_pos (by omega), List.getElem?_append_left (by omega)]
    · rw [if_neg (by omega), List.getElem?_append_right (by omega), List.getElem?_drop]
      congr 2; omega

theorem putCells_one {c : List Value} {i : Nat} {v : Value} (h : i < c.length) : putCells c i [v] = c.set i v := by
  unfold putCells
  rw [List.set_eq_take_append_cons_drop, if_pos h]
  rfl

/-- Storing cells into an owned object. -/
theorem store_step {P : Program} {E : Emb} {base : Nat} {h : Hp} {w : World} (hr : HRel E base h w.heap) {p i : Nat} {c : List Value} {ex : Bool} {es : Nat} (hd : E.D p)
    (hg : h.get p = .cells c true ex es) {vs vs' : List Value} (hl : vs.length = vs'.length) (hi : i + vs.length ≤ c.length)
    (hv : ∀ j, j < vs.length → VRel E (vs.getD j undef) (vs'.getD j undef)) (h1 : ∀ j, j < vs.length → (vs.getD j undef).oneCell' = true) :
    ∃ w', (storeCells ⟨E.blk p, E.off p + i, none⟩ vs').run P w = .ok () w' ∧
      Step E h w E (h.put p (.cells (putCells c i vs) true ex es)) w' ∧ HRel E base (h.put p (.cells (putCells c i vs) true ex es)) w'.heap := by
  have h0 := hr.obj p hd
  rw [hg] at h0
  obtain ⟨C, ty, fz, g1, g2, g3, g4, g5, g6⟩ := h0
  obtain ⟨rfl, g7⟩ := g5 rfl
  have hone : ∀ v ∈ vs', v.oneCell' = true := by
    intro v hvm
    obtain ⟨j, hj, e⟩ := List.getElem_of_mem hvm
    have := hv j (by omega)
    have h2 := this.oneCell
    rw [h1 j (by omega)] at h2
    rw [List.getD_eq_getElem?_getD, List.getElem?_eq_getElem hj] at h2
    rw [← e]; exact h2
  obtain ⟨w', C', k1, k2, k3, k4, k5, k6, k7, k8, k9⟩ := run_storeCells_eng (P := P) (E.blk p) ty vs' 0 (E.off p + i) w C g1 (by omega) hone
  have hx : ORel E base w'.heap p (.cells (putCells c i vs) true ex es) := by
    refine ⟨C', ty, (0, 0), k2, ?_, ?_, ?_, fun _ => ⟨rfl, g7⟩, g6⟩
    · rw [putCells_length hi, k3]; exact g2
    · intro j hj
      rw [putCells_length hi] at hj
      rw [putCells_getD hi, k4]
      by_cases hin : i ≤ j ∧ j < i + vs.length
      · rw [if_pos hin, if_pos (by omega)]
        have := hv (j - i) (by omega)
        rwa [show E.off p + j - (E.off p + i + 0) = j - i by omega]
      · rw [if_neg hin, if_neg (by omega)]
        exact g3 j hj
    · intro j hj
      rw [putCells_length hi] at hj
      rw [putCells_getD hi]
      by_cases hin : i ≤ j ∧ j < i + vs.length
      · rw [if_pos hin]; exact h1 _ (by omega)
      · rw [if_neg hin]; exact g4 j hj
  obtain ⟨st, hr'⟩ := step_put hr p (.cells (putCells c i vs) true ex es) hd (by rw [hg]; rfl) k5 k6 k7 k8 k9 hx
  exact ⟨w', k1, st, hr'⟩

section
variable {P : Program} {o : Oper} {tm : Nat → Value} {h : Hp}

theorem ok_store {t : TypeId} {x y : Operand} {p i n : Nat} {c : List Value} {ex : Bool} {es : Nat} (ho : o.op = .store t x y) (hx : ev tm x = .pointer (some ⟨p, i, none⟩)) (hx' : okX x = true)
    (hy' : okX y = true) (hy : notTup (ev tm y) = true) (hg : h.get p = .cells c true ex es) (hs : szT P t = some n) (hn' : (ev tm y).cells.size = n) (hi : i + n ≤ c.length) :
    OpOK P o tm h undef (h.put p (.cells (putCells c i (ev tm y).cells.toList) true ex es)) := by
  intro E base w a next Q hr ht hn
  have hv := mem_ops (x := x) hx' (by rw [ho]; simp [Op.operands]) ht
  have hu := mem_ops (x := y) hy' (by rw [ho]; simp [Op.operands]) ht
  rw [hx] at hv
  obtain ⟨hd, e⟩ := hv.inv_ptr
  obtain ⟨w', k1, st, hr'⟩ := store_step (P := P) hr hd hg (i := i) (vs := (ev tm y).cells.toList) (vs' := (a.eval y).cells.toList) (by simp [hu.cells.1]) (by simp; omega)
    (fun j hj => by rw [toList_getD, toList_getD]; exact hu.cells.2 j (by simpa using hj)) (fun j hj => by rw [toList_getD]; exact hu.cells_one (notTup_iff hy) j (by simpa using hj))
  unfold Oper.wp
  have hrun : (execOp a.eval o).run P w = .ok .skip w' := by
    simp [execOp, ho, e, Instr.storeAt, Instr.sureAddr, storeVar, run_szT hs, ← hu.cells.1, hn', k1]
  rw [hrun]
  exact hn E w' undef st hr' (VRel.undef E)
end

end Go.Eng
