/- Maps: made, looked up, written; checks for nil. -/
import Derived.Test.YtpehnhjgdgnnkaaEngK
namespace Go.Eng

section
variable {P : Program} {o : Oper} {tm : Nat → Value} {h : Hp}

theorem ok_nilCheck {x : Operand} {v : Value} (ho : o.op = .nilCheck x) (hx' : okX x = true) (hv : nilD (ev tm x) = some v) : OpOK P o tm h v h := by
  refine OpOK.pure fun E base w a hr ht => ?_
  have hr1 := mem_ops (x := x) hx' (by rw [ho]; simp [Op.operands]) ht
  unfold nilD at hv
  split at hv
  · rename_i ad hx
    injection hv with hv; subst hv
    rw [hx] at hr1
    refine ⟨a.eval x, hr1, ?_⟩
    generalize hae : a.eval x = u at hr1
    cases hr1 with
    | ptr oo i hD => simp [execOp, ho, hae]
  · rename_i f fa fb hx
    injection hv with hv; subst hv
    rw [hx] at hr1
    refine ⟨a.eval x, hr1, ?_⟩
    generalize hae : a.eval x = u at hr1
    cases hr1 with
    | func _ _ f' _ c' h1 h2 h3 h4 => simp [execOp, ho, hae]
  · cases hv

theorem ok_makeMap {t : TypeId} (ho : o.op = .makeMap t none) : OpOK P o tm h (.map (some h.next)) (h.alloc (.map [])) := by
  intro E base w a next Q hr ht hn
  have hD : ∀ i, E.D i → (E.add h.next w.heap.size 0 0).D i ∧ (E.add h.next w.heap.size 0 0).blk i = E.blk i ∧ (E.add h.next w.heap.size 0 0).off i = E.off i ∧ (E.add h.next w.heap.size 0 0).slk i = E.slk i := fun i hd => by
    obtain ⟨a, b, c, d⟩ := E.add_ext h.next w.heap.size 0 0 i (hr.lt i hd); exact ⟨a.2 hd, b, c, d⟩
  have hx : ORel (E.add h.next w.heap.size 0 0) base (w.alloc (.map #[] 0)).heap h.next (.map []) := by
    refine ⟨#[], 0, ?_, ?_, rfl, fun i hi => absurd hi (by simp)⟩
    · show (w.heap.push (.map #[] 0))[(E.add h.next w.heap.size 0 0).blk h.next]? = _
      simp [Emb.add]
    · simp [Emb.add]; exact hr.le
  obtain ⟨st, hr'⟩ := step_alloc (w' := w.alloc (.map #[] 0)) hr (.map []) (.map #[] 0) 0 rfl rfl rfl rfl hx
  unfold Oper.wp
  have hrun : (execOp a.eval o).run P w = .ok (.value (.map (some w.heap.size))) (w.alloc (.map #[] 0)) := by
    simp [execOp, ho, Instr.makeMap]
  rw [hrun]
  have hv : VRel (E.add h.next w.heap.size 0 0) (.map (some h.next)) (.map (some w.heap.size)) := by
    have := VRel.map (E := E.add h.next w.heap.size 0 0) h.next (by simp [Emb.add])
    simpa [Emb.add] using this
  exact hn _ _ _ st hr' hv

/-! Keys. -/
theorem isKey_form {n : Nat} {k : Value} (hk : isKey n k = true) : (n = 1 ∧ ∃ a, k = .int .i64 a) ∨ (n = 2 ∧ ∃ a b, k = .agg #[.int .i64 a, .int .i64 b]) := by
  unfold isKey at hk
  split at hk
  · exact .inl ⟨rfl, _, rfl⟩
  · exact .inr ⟨rfl, _, _, rfl⟩
  · cases hk
theorem key_same {E : Emb} {n : Nat} {k k' : Value} (hk : isKey n k = true) (hv : VRel E k k') : k' = k := by
  rcases isKey_form hk with ⟨rfl, a, rfl⟩ | ⟨rfl, a, b, rfl⟩
  · exact hv.inv_int
  · cases hv with
    | agg _ c' hs h1 h2 =>
      have e0 := (h2 0 (by simp)).inv_int
      have e1 := (h2 1 (by simp)).inv_int
      have hs' : c'.size = 2 := by simpa using hs.symm
      congr 1
      apply Array.ext (by simp [hs'])
      intro i h3 h4
      have : i = 0 ∨ i = 1 := by simp at h4; omega
      rcases this with rfl | rfl
      · simpa [Array.getD_eq_getD_getElem?, h3] using e0
      · simpa [Array.getD_eq_getD_getElem?, h3] using e1
theorem keyB_iff {n : Nat} {a b : Value} (ha : isKey n a = true) (hb : isKey n b = true) : keyB a b = true ↔ a = b := by
  rcases isKey_form ha with ⟨rfl, x, rfl⟩ | ⟨rfl, x, y, rfl⟩ <;> rcases isKey_form hb with ⟨e, x', rfl⟩ | ⟨e, x', y', rfl⟩ <;> first | omega | skip
  · simp [keyB]
  · simp [keyB]

/-- The first entry of a key. -/
def firstM (k : Value) : List MapEntry → Nat → Option (Nat × Value)
  | [], _ => none
  | e :: es, i => if keyB e.key k = true then some (i, e.val) else firstM k es (i + 1)

theorem isKey_same {E : Emb} {n : Nat} {k k' : Value} (hk : isKey n k = true) (hv : VRel E k k') : isKey n k' = true := by rw [key_same hk hv]; exact hk

theorem firstM_rel {E : Emb} {q : Value} {n : Nat} (hq : isKey n q = true) : ∀ (es : List (Value × Value)) (el : List MapEntry) (i : Nat), el.length = es.length → keysOK n es = true →
    (∀ j, j < es.length → VRel E (es.getD j (undef, undef)).1 (el.getD j default).key ∧ VRel E (es.getD j (undef, undef)).2 (el.getD j default).val) →
    (mapGet es q = none ∧ firstM q el i = none ∧ ∀ u, mapPut es q u = es ++ [(q, u)]) ∨
    ∃ j v v', j < es.length ∧ mapGet es q = some v ∧ firstM q el i = some (i + j, v') ∧ VRel E v v' ∧ (el.getD j default).key = q ∧ ∀ u, mapPut es q u = es.set j (q, u)
  | [], [], i, _, _, _ => .inl ⟨rfl, rfl, fun u => rfl⟩
  | e :: es, [], i, hl, _, _ => absurd hl (by simp)
  | [], m :: el, i, hl, _, _ => absurd hl (by simp)
  | e :: es, m :: el, i, hl, hk, hr => by
    simp only [keysOK, List.all_cons, Bool.and_eq_true] at hk
    have h0 := hr 0 (by simp)
    simp only [List.getD_cons_zero] at h0
    have ek := key_same hk.1 h0.1
    by_cases hb : keyB e.1 q = true
    · right
      have e1 := (keyB_iff hk.1 hq).1 hb
      refine ⟨0, e.2, m.val, by simp, by simp [mapGet, hb], by simp [firstM, ek, hb], h0.2, by simp [ek, e1], fun u => by simp [mapPut, hb]⟩
    · rcases firstM_rel hq es el (i + 1) (by simpa using hl) hk.2 (fun j hj => by have := hr (j + 1) (by simpa using hj); simpa using this) with ⟨h1, h2, h3⟩ | ⟨j, v, v', h1, h2, h3, h4, h5, h6⟩
      · left
        exact ⟨by simp [mapGet, hb, h1], by simp [firstM, ek, hb, h2], fun u => by simp [mapPut, hb, h3 u]⟩
      · right
        refine ⟨j + 1, v, v', by simpa using h1, by simp [mapGet, hb, h2], ?_, h4, by simpa using h5, fun u => by simp [mapPut, hb, h6 u]⟩
        simp only [firstM, ek, hb, h3]
        simp; omega

theorem keyK_spec {t : TypeId} {n : Nat} (h : keyK P t = some n) : (n = 1 ∧ P.underlying t = some (.int .i64)) ∨ (n = 2 ∧ ∃ e, P.underlying t = some (.array 2 e) ∧ P.underlying e = some (.int .i64) ∧ szT P e = some 1) := by
  unfold keyK at h
  split at h
  · rename_i hu; injection h with h; exact .inl ⟨h.symm, hu⟩
  · rename_i e hu
    split at h
    · rename_i h1 h2; injection h with h; exact .inr ⟨h.symm, e, hu, h1, h2⟩
    · cases h
  · cases h

theorem aggT_int {t : TypeId} {k : IntKind} (h : P.underlying t = some (.int k)) : aggT P t = some false := by simp [aggT, h]

theorem run_checkKey {t : TypeId} {n : Nat} {k : Value} {b : Bool} {w : World} {d : Nat} (h : keyK P t = some n) (hk : isKey n k = true) : (Instr.checkKey b (d + 2) t k).run P w = .ok () w := by
  rcases keyK_spec h with ⟨rfl, hu⟩ | ⟨rfl, e, hu, he, hs⟩ <;> rcases isKey_form hk with ⟨e1, x, rfl⟩ | ⟨e1, x, y, rfl⟩ <;> first | omega | skip
  · simp [Instr.checkKey, run_underlying hu]
  · simp [Instr.checkKey, run_underlying hu, Std.Legacy.Range.forIn_eq_forIn_range', List.range', Std.Legacy.Range.size, run_szT hs, part, run_aggT (aggT_int he), run_underlying he]

theorem run_keyEq {t : TypeId} {n : Nat} {a b : Value} {w : World} (h : keyK P t = some n) (ha : isKey n a = true) (hb : isKey n b = true) : (Op.equal t a b).run P w = .ok (keyB a b) w := by
  unfold Op.equal
  obtain ⟨d, hd⟩ : ∃ d, Op.maxDepth = d + 2 := ⟨9998, rfl⟩
  rw [hd]
  clear hd
  rcases keyK_spec h with ⟨rfl, hu⟩ | ⟨rfl, e, hu, he, hs⟩ <;> rcases isKey_form ha with ⟨e1, x, rfl⟩ | ⟨e1, x, y, rfl⟩ <;> rcases isKey_form hb with ⟨e2, x', rfl⟩ | ⟨e2, x', y', rfl⟩ <;> first | omega | skip
  · simp [Op.equalIn, run_underlying hu, keyB]
  · simp [Op.equalIn, Std.Legacy.Range.forIn_eq_forIn_range', List.range', Std.Legacy.Range.size, run_underlying hu, keyB, run_szT hs, part, run_aggT (aggT_int he), run_underlying he]
    by_cases h1 : x = x' <;> by_cases h2 : y = y' <;> simp [h1, h2]

theorem run_findAsking {t : TypeId} {n : Nat} {q : Value} (h : keyK P t = some n) (hq : isKey n q = true) {w : World} : ∀ (el : List MapEntry) (i : Nat), (∀ m ∈ el, isKey n m.key = true) → (Instr.findAsking t q el i).run P w = .ok (firstM q el i) w
  | [], i, _ => rfl
  | m :: el, i, hk => by
    have hm := hk m (by simp)
    simp only [Instr.findAsking, Sem.run_bind, run_keyEq h hq hm, Result.andThen_ok]
    have e : keyB q m.key = keyB m.key q := by
      rw [Bool.eq_iff_iff, keyB_iff hq hm, keyB_iff hm hq]; exact eq_comm
    by_cases hb : keyB m.key q = true
    · simp [e, hb, firstM]
    · simp [e, hb, firstM, run_findAsking h hq el (i + 1) fun m hm => hk m (by simp [hm])]

theorem findNow_int {q : Int} : ∀ (el : List MapEntry) (i : Nat), (∀ m ∈ el, isKey 1 m.key = true) → Instr.findNow (.int .i64) (.int .i64 q) el i = some (firstM (.int .i64 q) el i)
  | [], i, _ => rfl
  | m :: el, i, hk => by
    rcases isKey_form (hk m (by simp)) with ⟨_, a, ha⟩ | ⟨e, _⟩
    · simp only [Instr.findNow, ha, Instr.sameNow, if_true, firstM]
      by_cases hb : q = a
      · simp [keyB, hb]
      · have hb' : ¬ a = q := fun e => hb e.symm
        have hq' : (q == a) = false := by simp [hb]
        rw [hq']
        simp [keyB, hb', findNow_int el (i + 1) fun m hm => hk m (by simp [hm])]
    · omega

theorem run_findKey {t : TypeId} {n : Nat} {q : Value} (h : keyK P t = some n) (hq : isKey n q = true) {w : World} (el : List MapEntry) (hk : ∀ m ∈ el, isKey n m.key = true) : (Instr.findKey t q el).run P w = .ok (firstM q el 0) w := by
  unfold Instr.findKey
  rcases keyK_spec h with ⟨rfl, hu⟩ | ⟨rfl, e, hu, he, hs⟩
  · rcases isKey_form hq with ⟨_, x, rfl⟩ | ⟨e2, _⟩
    · simp [run_underlying hu, findNow_int el 0 hk]
    · omega
  · simp only [Sem.run_bind, run_underlying hu, Result.andThen_ok]
    cases el with
    | nil => rfl
    | cons m el =>
      have : Instr.findNow (.array 2 e) q (m :: el) 0 = none := by
        rcases isKey_form hq with ⟨e1, _⟩ | ⟨_, x, y, rfl⟩
        · omega
        · simp [Instr.findNow, Instr.sameNow]
      rw [this]
      exact run_findAsking h hq (m :: el) 0 hk

theorem VRel.inv_map {E : Emb} {p : Nat} {v' : Value} (h : VRel E (.map (some p)) v') : E.D p ∧ v' = .map (some (E.blk p)) := by
  cases h; exact ⟨by assumption, rfl⟩

theorem getD_toList {α : Type} [Inhabited α] (el : Array α) (j : Nat) : el.toList.getD j default = el.getD j default := by
  simp [List.getD_eq_getElem?_getD, Array.getD_eq_getD_getElem?]

theorem mapT_spec {t : TypeId} {n : Nat} {z : Value} (h : mapT P t = some (n, z)) : ∃ k e, P.underlying t = some (.map k e) ∧ keyK P k = some n ∧ zeroT P e = some z := by
  unfold mapT at h
  split at h
  · rename_i k e hu
    split at h
    · rename_i n' z' h1 h2
      simp only [Option.some.injEq, Prod.mk.injEq] at h
      obtain ⟨rfl, rfl⟩ := h
      exact ⟨k, e, hu, h1, h2⟩
    · cases h
  · cases h

/-- The entries of a map behind its abstract ones. -/
theorem map_at {E : Emb} {base : Nat} {h : Hp} {w : World} (hr : HRel E base h w.heap) {p : Nat} {es : List (Value × Value)} (hd : E.D p) (hg : h.get p = .map es) {n : Nat} (hk : keysOK n es = true) :
    ∃ (el : Array MapEntry) (c : Nat), w.heap[E.blk p]? = some (.map el c) ∧ base ≤ E.blk p ∧ el.toList.length = es.length ∧
      (∀ j, j < es.length → VRel E (es.getD j (undef, undef)).1 (el.toList.getD j default).key ∧ VRel E (es.getD j (undef, undef)).2 (el.toList.getD j default).val) ∧ ∀ m ∈ el.toList, isKey n m.key = true := by
  have h0 := hr.obj p hd
  rw [hg] at h0
  obtain ⟨el, c, h1, h2, h3, h4⟩ := h0
  refine ⟨el, c, h1, h2, by simpa using h3, fun j hj => by rw [getD_toList]; exact h4 j hj, fun m hm => ?_⟩
  obtain ⟨j, hj, e⟩ := List.getElem_of_mem hm
  have hj' : j < es.length := by have : j < el.size := by simpa using hj
                                 omega
  have h5 := (h4 j hj').1
  have h6 : isKey n (es.getD j (undef, undef)).1 = true := by
    rw [List.getD_eq_getElem?_getD, List.getElem?_eq_getElem hj']
    exact (List.all_eq_true.1 hk) _ (List.getElem_mem hj')
  have h7 := isKey_same h6 h5
  have h8 : el.getD j default = m := by
    rw [← getD_toList, List.getD_eq_getElem?_getD, List.getElem?_eq_getElem hj, e]; rfl
  rw [h8] at h7
  exact h7

theorem run_getMap {w : World} {b : Nat} {el : Array MapEntry} {c : Nat} (h : w.heap[b]? = some (.map el c)) : (getObj b).run P w = .ok (.map el c) w := by
  simp [getObj, Sem.run, h]

theorem ok_lookup {t : TypeId} {x y : Operand} {ok : Bool} {v : Value} (ho : o.op = .lookup t x y ok) (hx' : okX x = true) (hy' : okX y = true) (hv : lookupD P t (ev tm x) (ev tm y) ok h = some v) : OpOK P o tm h v h := by
  refine OpOK.pure fun E base w a hr ht => ?_
  have hr1 := mem_ops (x := x) hx' (by rw [ho]; simp [Op.operands]) ht
  have hr2 := mem_ops (x := y) hy' (by rw [ho]; simp [Op.operands]) ht
  unfold lookupD at hv
  split at hv
  rotate_left
  · cases hv
  rename_i p n z hx hm
  split at hv
  rotate_left
  · cases hv
  rename_i es hg
  split at hv
  rotate_left
  · cases hv
  rename_i hc
  simp only [Bool.and_eq_true] at hc
  obtain ⟨⟨hq, hk⟩, hz⟩ := hc
  injection hv with hv
  subst hv
  rw [hx] at hr1
  obtain ⟨hd, e1⟩ := hr1.inv_map
  have e2 := key_same hq hr2
  obtain ⟨kt, et, hu, hkt, hzt⟩ := mapT_spec hm
  obtain ⟨el, c, g1, g2, g3, g4, g5⟩ := map_at hr hd hg hk
  have hck : (Instr.checkKey el.isEmpty 10000 kt (ev tm y)).run P w = .ok () w := run_checkKey (d := 9998) hkt hq
  have hfk := run_findKey (P := P) (w := w) hkt hq el.toList g5
  rcases firstM_rel (E := E) hq es el.toList 0 g3 hk g4 with ⟨h1, h2, h3⟩ | ⟨j, v1, v1', h1, h2, h3, h4, h5, h6⟩
  · rw [h2] at hfk
    rw [h1]
    have hzr := VRel.ofV E hz
    refine ⟨if ok then .tuple #[z, .bool false] else z, ?_, ?_⟩
    · cases ok
      · simpa using hzr
      · refine .tuple _ _ (by simp) fun i hi => ?_
        have : i = 0 ∨ i = 1 := by simp at hi; omega
        rcases this with rfl | rfl
        · simpa using hzr
        · exact .bool _
    · simp [execOp, ho, e1, e2, Instr.lookup, run_underlying hu, run_getMap g1, hck, hfk, run_zeroT hzt]
  · rw [h3] at hfk
    rw [h2]
    refine ⟨if ok then .tuple #[v1', .bool true] else v1', ?_, ?_⟩
    · cases ok
      · simpa using h4
      · refine .tuple _ _ (by simp) fun i hi => ?_
        have : i = 0 ∨ i = 1 := by simp at hi; omega
        rcases this with rfl | rfl
        · simpa using h4
        · exact .bool _
    · simp [execOp, ho, e1, e2, Instr.lookup, run_underlying hu, run_getMap g1, hck, hfk]

theorem sameBits_key {n : Nat} {q : Value} {d : Nat} (hq : isKey n q = true) : Instr.sameBits (d + 1) q q = true := by
  rcases isKey_form hq with ⟨_, x, rfl⟩ | ⟨_, x, y, rfl⟩
  · simp [Instr.sameBits]
  · simp [Instr.sameBits]

theorem run_setMap {w : World} {b : Nat} {el : Array MapEntry} {c : Nat} {ob : Obj} (h : w.heap[b]? = some (.map el c)) : (setObj b ob).run P w = .ok () { w with heap := w.heap.setIfInBounds b ob } := by
  simp [setObj, Sem.run, h]

theorem ok_mapUpdate {t : TypeId} {m x y : Operand} {h' : Hp} (ho : o.op = .mapUpdate t m x y) (hm' : okX m = true) (hx' : okX x = true) (hy' : okX y = true) (hv : updateD P t (ev tm m) (ev tm x) (ev tm y) h = some h') : OpOK P o tm h undef h' := by
  intro E base w a next Q hr ht hn
  have hr1 := mem_ops (x := m) hm' (by rw [ho]; simp [Op.operands]) ht
  have hr2 := mem_ops (x := x) hx' (by rw [ho]; simp [Op.operands]) ht
  have hr3 := mem_ops (x := y) hy' (by rw [ho]; simp [Op.operands]) ht
  unfold updateD at hv
  split at hv
  rotate_left
  · cases hv
  rename_i p n z hx hm
  split at hv
  rotate_left
  · cases hv
  rename_i es hg
  split at hv
  rotate_left
  · cases hv
  rename_i hc
  simp only [Bool.and_eq_true] at hc
  obtain ⟨hq, hk⟩ := hc
  injection hv with hv
  subst hv
  rw [hx] at hr1
  obtain ⟨hd, e1⟩ := hr1.inv_map
  have e2 := key_same hq hr2
  obtain ⟨kt, et, hu, hkt, hzt⟩ := mapT_spec hm
  obtain ⟨el, c, g1, g2, g3, g4, g5⟩ := map_at hr hd hg hk
  have hck : (Instr.checkKey false 10000 kt (ev tm x)).run P w = .ok () w := run_checkKey (d := 9998) hkt hq
  have hfk := run_findKey (P := P) (w := w) hkt hq el.toList g5
  have hlt : E.blk p < w.heap.size := (Array.getElem?_eq_some_iff.1 g1).1
  have hown : (h.get p).owned = true := by rw [hg]; rfl
  have key : ∀ (el' : Array MapEntry) (c' : Nat), (execOp a.eval o).run P w = .ok .skip { w with heap := w.heap.setIfInBounds (E.blk p) (.map el' c') } →
      el'.size = (mapPut es (ev tm x) (ev tm y)).length →
      (∀ i, i < (mapPut es (ev tm x) (ev tm y)).length → VRel E ((mapPut es (ev tm x) (ev tm y)).getD i (undef, undef)).1 (el'.getD i default).key ∧ VRel E ((mapPut es (ev tm x) (ev tm y)).getD i (undef, undef)).2 (el'.getD i default).val) →
      o.wp P a w next Q := by
    intro el' c' hrun hsz hrel
    have hx2 : ORel E base (w.heap.setIfInBounds (E.blk p) (.map el' c')) p (.map (mapPut es (ev tm x) (ev tm y))) :=
      ⟨el', c', by simp [hlt], g2, hsz, hrel⟩
    obtain ⟨st, hr'⟩ := step_put (w' := { w with heap := w.heap.setIfInBounds (E.blk p) (.map el' c') }) hr p (.map (mapPut es (ev tm x) (ev tm y))) hd hown (by simp) (fun b hb => by simp [Ne.symm hb]) rfl rfl rfl hx2
    unfold Oper.wp
    rw [hrun]
    exact hn E _ undef st hr' (VRel.undef E)
  rcases firstM_rel (E := E) hq es el.toList 0 g3 hk g4 with ⟨h1, h2, h3⟩ | ⟨j, v1, v1', h1, h2, h3, h4, h5, h6⟩
  · rw [h2] at hfk
    refine key (el.push ⟨ev tm x, a.eval y, c⟩) (c + 1) ?_ ?_ ?_
    · simp [execOp, ho, e1, e2, Instr.mapUpdate, run_underlying hu, run_getMap g1, hck, hfk, run_setMap g1]
    · rw [h3]; simp at g3 ⊢; exact g3
    · intro i hi
      rw [h3] at hi ⊢
      have g3' : el.size = es.length := by simpa using g3
      simp only [List.length_append, List.length_singleton] at hi
      by_cases hlt2 : i < es.length
      · have := g4 i hlt2
        rw [getD_toList] at this
        have e5 : (el.push ⟨ev tm x, a.eval y, c⟩).getD i default = el.getD i default := by
          rw [Array.getD_eq_getD_getElem?, Array.getD_eq_getD_getElem?, Array.getElem?_push, if_neg (by omega)]
        have e6 : (es ++ [(ev tm x, ev tm y)]).getD i (undef, undef) = es.getD i (undef, undef) := by
          rw [List.getD_eq_getElem?_getD, List.getD_eq_getElem?_getD, List.getElem?_append_left hlt2]
        rw [e5, e6]; exact this
      · have ei : i = es.length := by omega
        subst ei
        have e5 : (el.push ⟨ev tm x, a.eval y, c⟩).getD es.length default = ⟨ev tm x, a.eval y, c⟩ := by
          rw [Array.getD_eq_getD_getElem?, Array.getElem?_push, if_pos g3'.symm]; rfl
        have e6 : (es ++ [(ev tm x, ev tm y)]).getD es.length (undef, undef) = (ev tm x, ev tm y) := by
          rw [List.getD_eq_getElem?_getD, List.getElem?_append_right (Nat.le_refl _)]; simp
        rw [e5, e6]
        exact ⟨by have h9 := hr2; rw [e2] at h9; exact h9, hr3⟩
  · rw [h3] at hfk
    have g3' : el.size = es.length := by simpa using g3
    have hje : j < el.size := by omega
    have h5' : ((el[j]?).map (·.key)).getD (ev tm x) = ev tm x := by
      rw [getD_toList, Array.getD_eq_getD_getElem?, Array.getElem?_eq_getElem hje] at h5
      rw [Array.getElem?_eq_getElem hje]; simpa using h5
    have hkeep : (Instr.keyThatStays (ev tm x) (ev tm x)).run P w = .ok (ev tm x) w := by
      unfold Instr.keyThatStays
      rw [sameBits_key (d := 9999) hq]; rfl
    refine key (el.modify j fun e => { e with key := ev tm x, val := a.eval y }) c ?_ ?_ ?_
    · simp only [Nat.zero_add] at hfk
      simp [execOp, ho, e1, e2, Instr.mapUpdate, run_underlying hu, run_getMap g1, hck, hfk]
      rw [h5', hkeep]
      simp [run_setMap g1]
    · rw [h6]; simpa using g3'
    · intro i hi
      rw [h6] at hi ⊢
      have hi' : i < es.length := by simpa using hi
      have hie : i < el.size := by omega
      by_cases eij : j = i
      · subst eij
        have e5 : (el.modify j fun e => { e with key := ev tm x, val := a.eval y }).getD j default = { el[j] with key := ev tm x, val := a.eval y } := by
          rw [Array.getD_eq_getD_getElem?, Array.getElem?_modify, if_pos rfl, Array.getElem?_eq_getElem hje]; rfl
        have e6 : (es.set j (ev tm x, ev tm y)).getD j (undef, undef) = (ev tm x, ev tm y) := by
          rw [List.getD_eq_getElem?_getD, List.getElem?_set]; simp [h1]
        rw [e5, e6]
        exact ⟨by have h9 := hr2; rw [e2] at h9; exact h9, hr3⟩
      · have := g4 i hi'
        rw [getD_toList] at this
        have e5 : (el.modify j fun e => { e with key := ev tm x, val := a.eval y }).getD i default = el.getD i default := by
          rw [Array.getD_eq_getD_getElem?, Array.getD_eq_getD_getElem?, Array.getElem?_modify, if_neg eij]
        have e6 : (es.set j (ev tm x, ev tm y)).getD i (undef, undef) = es.getD i (undef, undef) := by
          rw [List.getD_eq_getElem?_getD, List.getD_eq_getElem?_getD, List.getElem?_set, if_neg eij]
        rw [e5, e6]; exact this
end
end Go.Eng
