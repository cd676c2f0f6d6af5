/- Struct, array and slice literals. -/
import Derived.Test.YtpehnhjgdgnnkaaEngH
namespace Go.Eng

/-- Arrays of cells that are related. -/
structure ARel (E : Emb) (c c' : Array Value) : Prop where
  size : c.size = c'.size
  rel : ∀ i, i < c.size → VRel E (c.getD i undef) (c'.getD i undef)
  one : ∀ i, i < c.size → (c.getD i undef).oneCell' = true

theorem ARel.set {E : Emb} {c c' : Array Value} (h : ARel E c c') (i : Nat) {v v' : Value} (hv : VRel E v v') (h1 : v.oneCell' = true) : ARel E (c.setIfInBounds i v) (c'.setIfInBounds i v') := by
  have key : ∀ (d : Array Value) (u : Value) (j : Nat), j < d.size → (d.setIfInBounds i u).getD j undef = if i = j then u else d.getD j undef := by
    intro d u j hj
    by_cases e : i = j
    · subst e; simp [Array.getD_eq_getD_getElem?, hj]
    · simp [Array.getD_eq_getD_getElem?, Array.getElem?_setIfInBounds_ne e, e]
  refine ⟨by simp [h.size], fun j hj => ?_, fun j hj => ?_⟩
  · simp at hj
    rw [key c v j hj, key c' v' j (by rw [← h.size]; exact hj)]
    by_cases e : i = j
    · rw [if_pos e, if_pos e]; exact hv
    · rw [if_neg e, if_neg e]; exact h.rel j hj
  · simp at hj
    rw [key c v j hj]
    by_cases e : i = j
    · rw [if_pos e]; exact h1
    · rw [if_neg e]; exact h.one j hj

theorem ARel.fold {E : Emb} (off : Nat) : ∀ (l l' : List Value) (k : Nat) {c c' : Array Value}, ARel E c c' → l.length = l'.length → (∀ i, i < l.length → VRel E (l.getD i undef) (l'.getD i undef)) →
    (∀ i, i < l.length → (l.getD i undef).oneCell' = true) →
    ARel E ((l.zipIdx k).foldl (fun cs (c, j) => cs.setIfInBounds (off + j) c) c) ((l'.zipIdx k).foldl (fun cs (c, j) => cs.setIfInBounds (off + j) c) c')
  | [], [], _, _, _, h, _, _, _ => h
  | [], _ :: _, _, _, _, _, hl, _, _ => by simp at hl
  | _ :: _, [], _, _, _, _, hl, _, _ => by simp at hl
  | v :: l, v' :: l', k, c, c', h, hl, hr, h1 => by
    simp only [List.zipIdx_cons, List.foldl_cons]
    refine ARel.fold off l l' (k + 1) (h.set (off + k) ?_ ?_) (by simpa using hl) (fun i hi => ?_) (fun i hi => ?_)
    · have := hr 0 (by simp); simpa using this
    · have := h1 0 (by simp); simpa using this
    · have := hr (i + 1) (by simpa using hi); simpa using this
    · have := h1 (i + 1) (by simpa using hi); simpa using this

theorem foldl_arr (off : Nat) (d c : Array Value) : d.zipIdx.foldl (fun cs (c, j) => cs.setIfInBounds (off + j) c) c = (d.toList.zipIdx).foldl (fun cs (c, j) => cs.setIfInBounds (off + j) c) c := by
  rw [← Array.foldl_toList, Array.toList_zipIdx]

theorem fill_rel {E : Emb} (place : Nat → Option (Nat × Nat)) : ∀ (ps ps' : List (Nat × Value)) {c c' r : Array Value}, ARel E c c' → ps.length = ps'.length →
    (∀ i, i < ps.length → (ps.getD i (0, undef)).1 = (ps'.getD i (0, undef)).1 ∧ VRel E (ps.getD i (0, undef)).2 (ps'.getD i (0, undef)).2 ∧ notTup (ps.getD i (0, undef)).2 = true) →
    Instr.fill place c ps = some r → ∃ r', Instr.fill place c' ps' = some r' ∧ ARel E r r'
  | [], [], c, c', r, h, _, _, hf => by simp only [Instr.fill, Option.some.injEq] at hf; subst hf; exact ⟨c', rfl, h⟩
  | [], _ :: _, _, _, _, _, hl, _, _ => by simp at hl
  | _ :: _, [], _, _, _, _, hl, _, _ => by simp at hl
  | (i, v) :: ps, (i', v') :: ps', c, c', r, h, hl, hp, hf => by
    obtain ⟨e, hv, hn⟩ := hp 0 (by simp)
    simp at e hv hn
    subst e
    simp only [Instr.fill] at hf ⊢
    cases hpl : place i with
    | none => simp [hpl] at hf
    | some q =>
      obtain ⟨off, size⟩ := q
      simp only [hpl] at hf ⊢
      have hc := hv.cells
      split at hf
      · cases hf
      · rename_i hcond
        rw [← hc.1, ← h.size, if_neg hcond]
        rw [foldl_arr] at hf ⊢
        have hq := ARel.fold off v.cells.toList v'.cells.toList 0 h (by simp [hc.1]) (fun j hj => by rw [toList_getD, toList_getD]; exact hc.2 j (by simpa using hj))
          (fun j hj => by rw [toList_getD]; exact hv.cells_one (notTup_iff hn) j (by simpa using hj))
        exact fill_rel place ps ps' hq (by simpa using hl) (fun j hj => by have := hp (j + 1) (by simpa using hj); simpa using this) hf

/-- Where the fields of a struct lie. -/
def placesT (P : Program) (t : TypeId) : Option (Array (Nat × Nat)) := match P.underlying t with
  | some (.struct fs) => fs.mapM fun f => (szT P f.type).map fun n => (f.offset, n)
  | _ => none

theorem run_mapM_places {P : Program} {w : World} : ∀ (l : List Field) (r : List (Nat × Nat)), (l.mapM fun f => (szT P f.type).map fun n => (f.offset, n)) = some r →
    (l.mapM fun f => do pure (f.offset, ← sizeOf f.type) : Sem (List (Nat × Nat))).run P w = .ok r w
  | [], r, h => by simp at h; subst h; simp
  | f :: l, r, h => by
    simp only [List.mapM_cons] at h ⊢
    cases hs : szT P f.type with
    | none => simp [hs] at h
    | some n =>
      cases hl : (l.mapM fun f => (szT P f.type).map fun n => (f.offset, n)) with
      | none => simp [hs, hl] at h
      | some q =>
        simp [hs, hl] at h
        subst h
        have ih := run_mapM_places (w := w) l q hl
        simp only [Sem.run_bind, run_szT hs, Result.andThen_ok, Sem.run_pure, ih]

theorem run_places {P : Program} {w : World} {fs : Array Field} {r : Array (Nat × Nat)} (h : (fs.mapM fun f => (szT P f.type).map fun n => (f.offset, n)) = some r) :
    (fs.mapM fun f => do pure (f.offset, ← sizeOf f.type) : Sem (Array (Nat × Nat))).run P w = .ok r w := by
  rw [Array.mapM_eq_mapM_toList] at h ⊢
  cases hl : (fs.toList.mapM fun f => (szT P f.type).map fun n => (f.offset, n)) with
  | none => simp [hl] at h
  | some q =>
    simp [hl] at h
    subst h
    have := run_mapM_places (w := w) fs.toList q hl
    rw [Sem.run_map, this]
    rfl

section
variable {P : Program} {o : Oper} {tm : Nat → Value} {h : Hp}

theorem parts_rel {E : Emb} {a : Act} {parts : Array (Nat × Operand)} (hp : parts.all (fun q => okX q.2) = true) (hnt : parts.all (fun q => notTup (ev tm q.2)) = true) (hm : ∀ q ∈ parts, q.2 ∈ o.op.operands)
    (ht : ∀ t, Operand.tmp t ∈ o.op.operands → VRel E (tm t) (a.tmps.getD t undef)) :
    (parts.map fun (i, x) => (i, ev tm x)).toList.length = (parts.map fun (i, x) => (i, a.eval x)).toList.length ∧
    ∀ i, i < (parts.map fun (i, x) => (i, ev tm x)).toList.length → ((parts.map fun (i, x) => (i, ev tm x)).toList.getD i (0, undef)).1 = ((parts.map fun (i, x) => (i, a.eval x)).toList.getD i (0, undef)).1 ∧
      VRel E ((parts.map fun (i, x) => (i, ev tm x)).toList.getD i (0, undef)).2 ((parts.map fun (i, x) => (i, a.eval x)).toList.getD i (0, undef)).2 ∧ notTup ((parts.map fun (i, x) => (i, ev tm x)).toList.getD i (0, undef)).2 = true := by
  refine ⟨by simp, fun i hi => ?_⟩
  simp at hi
  have e1 : (parts.map fun (i, x) => (i, ev tm x)).toList.getD i (0, undef) = (parts[i].1, ev tm parts[i].2) := by
    simp [List.getD_eq_getElem?_getD, hi]
  have e2 : (parts.map fun (i, x) => (i, a.eval x)).toList.getD i (0, undef) = (parts[i].1, a.eval parts[i].2) := by
    simp [List.getD_eq_getElem?_getD, hi]
  rw [e1, e2]
  rw [Array.all_eq_true] at hp hnt
  exact ⟨rfl, mem_ops (hp i hi) (hm _ (Array.getElem_mem hi)) ht, hnt i hi⟩

theorem ARel.ofPlain (E : Emb) {z : Value} (hp : plainV z = true) (hn : notTup z = true) : ARel E z.cells z.cells :=
  ⟨rfl, (VRel.ofV E hp).cells.2, (VRel.ofV E hp).cells_one (notTup_iff hn)⟩

theorem ok_build {t : TypeId} {parts : Array (Nat × Operand)} {z : Value} {pl : Array (Nat × Nat)} {r : Array Value} (ho : o.op = .build t parts) (hp : parts.all (fun q => okX q.2) = true)
    (hnt : parts.all (fun q => notTup (ev tm q.2)) = true) (hz : zeroT P t = some z) (hzp : plainV z = true) (hzn : notTup z = true) (hpl : placesT P t = some pl)
    (hr' : Instr.fill (pl[·]?) z.cells (parts.map fun (i, x) => (i, ev tm x)).toList = some r) : OpOK P o tm h (.agg r) h := by
  refine OpOK.pure fun E base w a hr ht => ?_
  obtain ⟨k1, k2⟩ := parts_rel (tm := tm) (a := a) (E := E) hp hnt (fun q hq => by
    rw [ho]
    simp only [Op.operands]
    rw [List.mem_toArray]
    exact List.mem_map.2 ⟨q, by simpa using hq, rfl⟩) ht
  obtain ⟨r', hf, har⟩ := fill_rel (E := E) (pl[·]?) _ _ (ARel.ofPlain E hzp hzn) k1 k2 hr'
  refine ⟨.agg r', .agg _ _ har.size har.one har.rel, ?_⟩
  unfold placesT at hpl
  split at hpl
  · rename_i fs hu
    simp only [execOp, ho, Instr.build, Sem.run_bind, run_zeroT hz, Result.andThen_ok, run_underlying hu, run_places hpl, hf, Sem.run_pure]
  · cases hpl

/-- An array literal. -/
theorem ok_buildA {t e : TypeId} {n m : Nat} {parts : Array (Nat × Operand)} {z : Value} {r : Array Value} (ho : o.op = .build t parts) (hp : parts.all (fun q => okX q.2) = true)
    (hnt : parts.all (fun q => notTup (ev tm q.2)) = true) (hz : zeroT P t = some z) (hzp : plainV z = true) (hzn : notTup z = true) (har : arT P t = some (n, e)) (hm : szT P e = some m)
    (hr' : Instr.fill (fun i => some (i * m, m)) z.cells (parts.map fun (i, x) => (i, ev tm x)).toList = some r) : OpOK P o tm h (.agg r) h := by
  refine OpOK.pure fun E base w a hr ht => ?_
  obtain ⟨k1, k2⟩ := parts_rel (tm := tm) (a := a) (E := E) hp hnt (fun q hq => by
    rw [ho]
    simp only [Op.operands]
    rw [List.mem_toArray]
    exact List.mem_map.2 ⟨q, by simpa using hq, rfl⟩) ht
  obtain ⟨r', hf, hrr⟩ := fill_rel (E := E) _ _ _ (ARel.ofPlain E hzp hzn) k1 k2 hr'
  refine ⟨.agg r', .agg _ _ hrr.size hrr.one hrr.rel, ?_⟩
  simp only [execOp, ho, Instr.build, Sem.run_bind, run_zeroT hz, Result.andThen_ok, run_underlying (arT_spec har), run_szT hm, hf, Sem.run_pure]

/-- The cells of a slice literal ahead of its parts. -/
def zarr (z : Array Value) (n : Nat) : Array Value := (Array.range n).map (z[· % z.size]!)

theorem ok_buildSlice {t e : TypeId} {n m : Nat} {parts : Array (Nat × Operand)} {z : Value} {r : Array Value} (ho : o.op = .buildSlice t n parts) (hp : parts.all (fun q => okX q.2) = true)
    (hnt : parts.all (fun q => notTup (ev tm q.2)) = true) (hz : zeroT P e = some z) (hzp : plainV z = true) (hzn : notTup z = true) (hel : elT P t = some e) (hm : szT P e = some m) (hzm : z.cells.size = m)
    (hle : n * m ≤ 2 ^ 24) (hr' : Instr.fill (fun i => some (i * m, m)) (zarr z.cells (n * m)) (parts.map fun (i, x) => (i, ev tm x)).toList = some r) (hrs : r.size = n * m) :
    OpOK P o tm h (.slice (some ⟨h.next, 0, none⟩) n n) (h.alloc (.cells r.toList true true m)) := by
  intro E base w a next Q hr ht hn
  obtain ⟨k1, k2⟩ := parts_rel (tm := tm) (a := a) (E := E) hp hnt (fun q hq => by
    rw [ho]
    simp only [Op.operands]
    rw [List.mem_toArray]
    exact List.mem_map.2 ⟨q, by simpa using hq, rfl⟩) ht
  have hzr := ARel.ofPlain E hzp hzn
  have hza : ARel E (zarr z.cells (n * m)) (zarr z.cells (n * m)) := by
    have key : ∀ i, i < n * m → (zarr z.cells (n * m)).getD i undef = z.cells.getD (i % z.cells.size) undef ∧ i % z.cells.size < z.cells.size := by
      intro i hi
      have hpos : 0 < z.cells.size := by rw [hzm]; exact Nat.pos_of_ne_zero (fun e => by rw [e] at hi; simp at hi)
      have hlt := Nat.mod_lt i hpos
      refine ⟨?_, hlt⟩
      unfold zarr
      rw [Array.getD_eq_getD_getElem?, Array.getElem?_map, Array.getElem?_range, if_pos hi]
      simp [hlt]
    refine ⟨rfl, fun i hi => ?_, fun i hi => ?_⟩
    · have hi' : i < n * m := by simpa [zarr] using hi
      rw [(key i hi').1]; exact hzr.rel _ (key i hi').2
    · have hi' : i < n * m := by simpa [zarr] using hi
      rw [(key i hi').1]; exact hzr.one _ (key i hi').2
  obtain ⟨r', hf, hrr⟩ := fill_rel (E := E) _ _ _ hza k1 k2 hr'
  have hrun : (execOp a.eval o).run P w = .ok (.value (.slice (some ⟨w.heap.size, 0, none⟩) n n)) (w.alloc (.cells r' e)) := by
    have hle' : ¬ (2 ^ 24 < n * m) := by omega
    unfold zarr at hf
    by_cases h0 : n * m = 0
    · have hr0 : (Array.range 0).map (fun x => (#[] : Array Value)[x % (#[] : Array Value).size]!) = (Array.range 0).map (z.cells[· % z.cells.size]!) := by
        rw [show Array.range 0 = #[] from Array.ext (by simp) (fun i h _ => absurd h (by simp))]; simp
      rw [h0, ← hr0] at hf
      simp only [execOp, ho, Instr.buildSlice, Sem.run_bind, run_underlying (elT_spec hel), Result.andThen_ok, run_szT hm, h0, if_true, Sem.run_pure, hf, newRow, run_newObj, Nat.not_lt_zero, gt_iff_lt, if_false]
      rfl
    · simp only [execOp, ho, Instr.buildSlice, Sem.run_bind, run_underlying (elT_spec hel), Result.andThen_ok, run_szT hm, h0, if_false, run_zeroT hz, Sem.run_pure, hf, newRow, run_newObj, gt_iff_lt, hle']
      rfl
  refine new_row (u := fun b => .slice (some ⟨b, 0, none⟩) n n) (s := 0) (C := r') (ty := e) hr (by simp [hrr.size]) ?_ ?_ (fun _ => rfl) hrun ?_ hn
  · intro i hi; rw [toList_getD]; exact hrr.rel i (by simpa using hi)
  · intro i hi; rw [toList_getD]; exact hrr.one i (by simpa using hi)
  · intro E' a1 a2 a3 a4 _
    have := vrel_new (E' := E') a1 a2 a3 (Nat.le_refl n) a4
    simpa using this
end
end Go.Eng
