/- append as an operation on the abstract heap; struct and slice literals. -/
import Derived.Test.YtpehnhjgdgnnkaaEngG
namespace Go.Eng

theorem vrel_new {E' : Emb} {o b n c : Nat} (hd : E'.D o) (hb : E'.blk o = b) (hf : E'.off o = 0) (hn : n ≤ c) {s : Nat} (hs : E'.slk o = s) :
    VRel E' (.slice (some ⟨o, 0, none⟩) n c) (.slice (some ⟨b, 0, none⟩) n (c + s)) := by
  have := VRel.slice (E := E') o 0 n c ⟨b, 0, none⟩ hd hn (.inr (by rw [hb, hf]))
  rwa [hs] at this

theorem getD_append_left {c d : List Value} {i : Nat} (h : i < c.length) : (c ++ d).getD i undef = c.getD i undef := by
  simp only [List.getD_eq_getElem?_getD, List.getElem?_append_left h]
theorem getD_append_right {c d : List Value} {i : Nat} (h : c.length ≤ i) : (c ++ d).getD i undef = d.getD (i - c.length) undef := by
  simp only [List.getD_eq_getElem?_getD, List.getElem?_append_right h]

theorem rel_append {E : Emb} {a b a' b' : List Value} (hl : a'.length = a.length) (_hl' : b'.length = b.length) (h1 : ∀ i, i < a.length → VRel E (a.getD i undef) (a'.getD i undef))
    (h2 : ∀ i, i < b.length → VRel E (b.getD i undef) (b'.getD i undef)) : ∀ i, i < (a ++ b).length → VRel E ((a ++ b).getD i undef) ((a' ++ b').getD i undef) := by
  intro i hi
  simp at hi
  by_cases h : i < a.length
  · rw [getD_append_left h, getD_append_left (by omega)]; exact h1 i h
  · rw [getD_append_right (by omega), getD_append_right (by omega), hl]; exact h2 _ (by omega)

theorem one_append {a b : List Value} (h1 : ∀ i, i < a.length → (a.getD i undef).oneCell' = true) (h2 : ∀ i, i < b.length → (b.getD i undef).oneCell' = true) :
    ∀ i, i < (a ++ b).length → ((a ++ b).getD i undef).oneCell' = true := by
  intro i hi
  simp at hi
  by_cases h : i < a.length
  · rw [getD_append_left h]; exact h1 i h
  · rw [getD_append_right (by omega)]; exact h2 _ (by omega)

/-- The heap behind an append that had no known room: what was appended to is forgotten unless it had surely none. -/
def growHp (h : Hp) (p : Nat) (ex : Bool) (x : AObj) : Hp := if ex then h.alloc x else (h.put p .dead).alloc x

theorem HRel.of_heap {E : Emb} {base : Nat} {h : Hp} {H H' : Array Obj} (hr : HRel E base h H) (e : H' = H) : HRel E base h H' := e ▸ hr

/-- A new object in a world that has drawn. -/
theorem new_obj {E : Emb} {base : Nat} {h : Hp} {w w1 : World} (hr : HRel E base h w.heap) (h1 : w1.heap = w.heap) (h2 : w1.os = w.os) (h3 : w1.tape = w.tape) (h4 : w1.output = w.output)
    {c : List Value} {ex : Bool} {es s : Nat} {C : Array Value} {ty : TypeId}
    (hsz : c.length + s * es ≤ C.size) (hc : ∀ i, i < c.length → VRel E (c.getD i undef) (C.getD i undef)) (h1' : ∀ i, i < c.length → (c.getD i undef).oneCell' = true) (hex : ex = true → s = 0) :
    Step E h w (E.add h.next w.heap.size 0 s) (h.alloc (.cells c true ex es)) (w1.alloc (.cells C ty)) ∧ HRel (E.add h.next w.heap.size 0 s) base (h.alloc (.cells c true ex es)) (w1.alloc (.cells C ty)).heap := by
  have hD : ∀ i, E.D i → (E.add h.next w.heap.size 0 s).D i ∧ (E.add h.next w.heap.size 0 s).blk i = E.blk i ∧ (E.add h.next w.heap.size 0 s).off i = E.off i ∧ (E.add h.next w.heap.size 0 s).slk i = E.slk i := fun i hd => by
    obtain ⟨a, b, c, d⟩ := E.add_ext h.next w.heap.size 0 s i (hr.lt i hd); exact ⟨a.2 hd, b, c, d⟩
  have hh : (w1.alloc (.cells C ty)).heap = w.heap.push (.cells C ty) := by show w1.heap.push _ = _; rw [h1]
  refine step_alloc hr (.cells c true ex es) (.cells C ty) s hh h2 h3 h4 ⟨C, ty, (0, 0), ?_, ?_, ?_, h1', ?_, ?_⟩
  · rw [hh]; simp [Emb.add]
  · simp [Emb.add]; exact hsz
  · intro i hi
    have := (hc i hi).mono hD
    simpa [Emb.add] using this
  · intro _; simp [Emb.add]; exact hr.le
  · intro e; simpa [Emb.add] using hex e

section
variable {P : Program} {o : Oper} {tm : Nat → Value} {h : Hp}

theorem exec_append {a : Act} {t t' : TypeId} {x y : Operand} {w w' : World} {r : Value} (ho : o.op = .call ⟨.builtin .append, #[x, y], #[t, t']⟩)
    (hr : (Builtin.append_ #[t, t'] o.type #[a.eval x, a.eval y]).run P w = .ok r w') : (execOp a.eval o).run P w = .ok (.value r) w' := by
  simp [execOp, ho, resolve, invoke, builtin, hr]

/-- Nothing is appended. -/
theorem ok_append0 {t t' e : TypeId} {x y : Operand} {m n c : Nat} {s : Option Addr} {src : List Value} (ho : o.op = .call ⟨.builtin .append, #[x, y], #[t, t']⟩) (hx : ev tm x = .slice s n c) (hx' : okX x = true) (hy' : okX y = true)
    (ht' : elT P t = some e) (hs : srcT P t' = true) (hm : szT P e = some m) (hsrc : srcV h m (ev tm y) = some (0, src)) : OpOK P o tm h (.slice s n c) h := by
  refine OpOK.pure fun E base w a hr ht => ?_
  have hv := mem_ops (x := x) hx' (by rw [ho]; simp [Op.operands, Call.operands]) ht
  have hu := mem_ops (x := y) hy' (by rw [ho]; simp [Op.operands, Call.operands]) ht
  obtain ⟨k1, k2, cs', k3, k4, _⟩ := run_firstCells_eng (P := P) hr hu hsrc
  have hcs : cs' = [] := by have : src.length = 0 := by rw [k2]; simp
                            exact List.length_eq_zero_iff.1 (by omega)
  subst hcs
  refine ⟨a.eval x, hx ▸ hv, exec_append ho ?_⟩
  rw [hx] at hv
  generalize a.eval x = v' at hv
  cases hv with
  | sliceNil => exact run_append_in (new := #[]) ht' hs hm k1 (k4 w rfl) (by omega) (fun b hb => by cases hb) (fun _ => rfl)
  | slice0 ad => exact run_append_in (new := #[]) ht' hs hm k1 (k4 w rfl) (by omega) (fun b hb => rfl) (fun hb => by cases hb)
  | slice p i _ _ ad hd hn _ => exact run_append_in (new := #[]) ht' hs hm k1 (k4 w rfl) (by omega) (fun b hb => rfl) (fun hb => by cases hb)

/-- To nil. -/
theorem ok_appendNil {t t' e : TypeId} {x y : Operand} {m b n2 : Nat} {z : Value} {src : List Value} (ho : o.op = .call ⟨.builtin .append, #[x, y], #[t, t']⟩) (hx : ev tm x = .slice none 0 0) (hx' : okX x = true) (hy' : okX y = true)
    (ht' : elT P t = some e) (hs : srcT P t' = true) (hm : szT P e = some m) (hz : zeroT P e = some z) (hzm : z.cells.size = m) (hb : byT P e = some b) (hb0 : b ≠ 0) (hsrc : srcV h m (ev tm y) = some (n2, src)) (hn2 : 0 < n2)
    (hroom : n2 * b ≤ 2 ^ 47) : OpOK P o tm h (.slice (some ⟨h.next, 0, none⟩) n2 n2) (h.alloc (.cells src true false m)) := by
  intro E base w a next Q hr ht hn
  have hv := mem_ops (x := x) hx' (by rw [ho]; simp [Op.operands, Call.operands]) ht
  have hu := mem_ops (x := y) hy' (by rw [ho]; simp [Op.operands, Call.operands]) ht
  obtain ⟨k1, k2, cs', k3, k4, k5, k6⟩ := run_firstCells_eng (P := P) hr hu hsrc
  rw [hx] at hv
  obtain ⟨nc, hnc, hrun⟩ := run_append_new (t := t) (ty := o.type) (a := none) (n := 0) (cap := 0) (old := #[]) ht' hs hm hz hb hb0 k1 k4 (fun w1 _ => rfl) (by omega) (by simpa using hroom)
  obtain ⟨st, hr'⟩ := new_obj (w1 := w.drew) (C := #[] ++ cs'.toArray ++ Builtin.zeroCells z.cells (nc - (0 + n2))) (ty := e) (s := nc - n2) (es := m) (ex := false) (c := src) hr rfl rfl rfl rfl
    (by simp [Builtin.zeroCells, hzm, k3]) (fun i hi => by
      have : (#[] ++ cs'.toArray ++ Builtin.zeroCells z.cells (nc - (0 + n2))).getD i undef = cs'.getD i undef := by
        simp [Array.getD_eq_getD_getElem?, Array.getElem?_append, List.getD_eq_getElem?_getD, show i < cs'.length by omega]
      rw [this]; exact k5 i hi) k6 (fun e => by cases e)
  unfold Oper.wp
  rw [exec_append ho (by rw [hv.inv_sliceNil]; exact hrun)]
  refine hn _ _ _ st hr' ?_
  have := vrel_new (E' := E.add h.next w.heap.size 0 (nc - n2)) (o := h.next) (b := w.heap.size) (n := n2) (c := n2) (.inl rfl) (by simp [Emb.add]) (by simp [Emb.add]) (Nat.le_refl _) (s := nc - n2) (by simp [Emb.add])
  rw [show n2 + (nc - n2) = nc by omega] at this
  simpa using this

/-- To a slice whose known room is used up. -/
theorem ok_appendGrow {t t' e : TypeId} {x y : Operand} {m b n c n2 p i : Nat} {z : Value} {src cp : List Value} {own ex : Bool} (ho : o.op = .call ⟨.builtin .append, #[x, y], #[t, t']⟩) (hx : ev tm x = .slice (some ⟨p, i, none⟩) n c)
    (hx' : okX x = true) (hy' : okX y = true)
    (ht' : elT P t = some e) (hs : srcT P t' = true) (hm : szT P e = some m) (hz : zeroT P e = some z) (hzm : z.cells.size = m) (hb : byT P e = some b) (hb0 : b ≠ 0) (hsrc : srcV h m (ev tm y) = some (n2, src)) (hgt : c < n + n2)
    (hg : h.get p = .cells cp own ex m) (hown : ex = true ∨ own = true) (hcap : i + c * m ≤ cp.length)
    (hroom : (n + n2) * b ≤ 2 ^ 47) : OpOK P o tm h (.slice (some ⟨h.next, 0, none⟩) (n + n2) (n + n2)) (growHp h p ex (.cells ((cp.drop i).take (n * m) ++ src) true false m)) := by
  intro E base w a next Q hr ht hn
  have hv := mem_ops (x := x) hx' (by rw [ho]; simp [Op.operands, Call.operands]) ht
  have hu := mem_ops (x := y) hy' (by rw [ho]; simp [Op.operands, Call.operands]) ht
  obtain ⟨k1, k2, cs', k3, k4, k5, k6⟩ := run_firstCells_eng (P := P) hr hu hsrc
  rw [hx] at hv
  have hnc0 : n ≤ c := (hv.inv_slice).1
  have hnm : n * m ≤ c * m := Nat.mul_le_mul_right _ hnc0
  have hold : srcV h m (.slice (some ⟨p, i, none⟩) n c) = some (n, (cp.drop i).take (n * m)) := by
    simp only [srcV, srcW, hg]; rw [if_pos (by omega)]
  obtain ⟨j1, j2, old', j3, j4, j5, j6⟩ := run_firstCells_eng (P := P) hr hv hold
  obtain ⟨_, sl, ad, e1, hq⟩ := hv.inv_slice
  have hrel := rel_append (E := E) j3 k3 j5 k5
  have hone := one_append j6 k6
  by_cases hin : n + n2 ≤ c + sl
  · -- in place
    obtain ⟨hd, rfl, had⟩ := hq.resolve_right (fun h => h)
    have h0 := hr.obj p hd
    rw [hg] at h0
    obtain ⟨C, ty, fz, g1, g2, g3, g4, g5, g6⟩ := h0
    have hex : ex = false := by cases ex with | false => rfl | true => have := g6 rfl; omega
    have hown' : own = true := by rcases hown with h | h <;> simp_all
    subst hex hown'
    obtain ⟨rfl, g7⟩ := g5 rfl
    have had : ad = ⟨E.blk p, E.off p + i, none⟩ := had.resolve_left (by omega)
    subst had
    have hmul : (n + n2) * m ≤ (c + E.slk p) * m := Nat.mul_le_mul_right _ hin
    rw [Nat.add_mul, Nat.add_mul] at hmul
    obtain ⟨w', C', q1, q2, q3, q4, q5, q6, q7, q8, q9⟩ := run_storeCells_eng (P := P) (E.blk p) ty cs' 0 (E.off p + (i + n * m)) w C g1 (by omega) (by
      intro v hvm
      obtain ⟨j, hj, ej⟩ := List.getElem_of_mem hvm
      have h2 := (k5 j (by omega)).oneCell
      rw [k6 j (by omega), List.getD_eq_getElem?_getD, List.getElem?_eq_getElem hj] at h2
      rw [← ej]; exact h2)
    have hadd : (⟨E.blk p, E.off p + i, none⟩ : Addr).add (n * m) = ⟨E.blk p, E.off p + (i + n * m), none⟩ := by rw [add_plain', Nat.add_assoc]
    have hrun := run_append_in (t := t) (ty := o.type) (a := some ⟨E.blk p, E.off p + i, none⟩) (n := n) (cap := c + E.slk p) (w' := w') ht' hs hm k1 (k4 w rfl) hin
      (fun b' hb' => by cases hb'; rw [hadd]; exact q1) (fun hb' => by cases hb')
    have hlen : ((cp.drop i).take (n * m) ++ src).length = n * m + n2 * m := by simp [k2]; omega
    have hcell : ∀ j, j < ((cp.drop i).take (n * m) ++ src).length → C'.getD (E.off p + i + j) undef = (old' ++ cs').getD j undef := by
      intro j hj
      rw [hlen] at hj
      rw [q4]
      by_cases hjn : j < n * m
      · rw [if_neg (by omega), getD_append_left (by omega)]
        -- the old cells
        have hr1 := j4 w rfl
        have hlo : (loadCells ⟨E.blk p, E.off p + i, none⟩ (n * m)).run P w = .ok old'.toArray w := by
          simpa [e1, Builtin.firstCells] using hr1
        have hl2 := run_loadCells (P := P) w ⟨E.blk p, E.off p + i, none⟩ (n * m) (fun q => C.getD (E.off p + i + q) undef) (fun q hq => by
          rw [add_plain']
          simp only [World.cell?, g1, Option.isSome_none]
          obtain ⟨zz, hz1, hz2⟩ := getD_some (c := C) (i := E.off p + i + q) (by omega)
          rw [hz1, hz2]; rfl)
        rw [hlo] at hl2
        injection hl2 with hl2
        have : old' = (List.range (n * m)).map fun q => C.getD (E.off p + i + q) undef := by simpa using congrArg Array.toList hl2
        rw [this]
        simp [List.getD, hjn]
      · rw [if_pos (by omega), getD_append_right (by omega), j3, j2]
        congr 1; omega
    obtain ⟨st, hr'⟩ := step_take (w' := w') hr p (E.off p + i) (c + E.slk p - (n + n2)) (.cells ((cp.drop i).take (n * m) ++ src) true false m) hd (by rw [hg]; rfl) q5 q6 q7 q8 q9 (by
      refine ⟨C', ty, (0, 0), by simp [Emb.add]; exact q2, ?_, ?_, hone, fun _ => ⟨rfl, by simp [Emb.add]; exact g7⟩, fun e => by cases e⟩
      · have : (c + E.slk p - (n + n2)) * m = (c + E.slk p) * m - (n + n2) * m := Nat.sub_mul _ _ _
        rw [hlen, q3]
        simp only [Emb.add, if_true]
        rw [this, Nat.add_mul, Nat.add_mul]
        omega
      · intro j hj
        simp only [Emb.add, if_true]
        rw [hcell j hj]
        exact (hrel j hj).mono (fun oo hoo => by
          obtain ⟨a', b', c', d'⟩ := E.add_ext h.next (E.blk p) (E.off p + i) (c + E.slk p - (n + n2)) oo (hr.lt oo hoo); exact ⟨a'.2 hoo, b', c', d'⟩)) rfl
    unfold Oper.wp
    rw [exec_append ho (by rw [e1]; exact hrun)]
    refine hn _ _ _ (by simpa [growHp] using st) (by simpa [growHp] using hr') ?_
    have := VRel.slice (E := E.add h.next (E.blk p) (E.off p + i) (c + E.slk p - (n + n2))) h.next 0 (n + n2) (n + n2) ⟨E.blk p, E.off p + i, none⟩ (.inl rfl) (Nat.le_refl _) (.inr (by simp [Emb.add]))
    rw [show n + n2 + (E.add h.next (E.blk p) (E.off p + i) (c + E.slk p - (n + n2))).slk h.next = c + E.slk p by simp [Emb.add]; omega] at this
    exact this
  · -- a new row
    obtain ⟨nc, hnc, hrun⟩ := run_append_new (t := t) (ty := o.type) (a := some ad) (n := n) (cap := c + sl) (old := old'.toArray) ht' hs hm hz hb hb0 k1 k4 (fun w1 hw1 => by rw [← e1]; exact j4 w1 hw1) (by omega) hroom
    have hlen : ((cp.drop i).take (n * m) ++ src).length = n * m + n2 * m := by simp [k2]; omega
    have hC : ∀ i', i' < ((cp.drop i).take (n * m) ++ src).length → VRel E (((cp.drop i).take (n * m) ++ src).getD i' undef) ((old'.toArray ++ cs'.toArray ++ Builtin.zeroCells z.cells (nc - (n + n2))).getD i' undef) := by
      intro i' hi'
      have hlt : i' < (old' ++ cs').length := by simp [j3, k3]; simpa using hi'
      have : (old'.toArray ++ cs'.toArray ++ Builtin.zeroCells z.cells (nc - (n + n2))).getD i' undef = (old' ++ cs').getD i' undef := by
        rw [Array.getD_eq_getD_getElem?, Array.getElem?_append_left (by simpa using hlt)]
        simp [List.getD_eq_getElem?_getD]
      rw [this]; exact hrel i' hi'
    have hszz : ((cp.drop i).take (n * m) ++ src).length + (nc - (n + n2)) * m ≤ (old'.toArray ++ cs'.toArray ++ Builtin.zeroCells z.cells (nc - (n + n2))).size := by
      rw [hlen]; simp [Builtin.zeroCells, hzm, j3, k3, k2]; omega
    have hvv : ∀ E' : Emb, E'.D h.next → E'.blk h.next = w.heap.size → E'.off h.next = 0 → E'.slk h.next = nc - (n + n2) → VRel E' (.slice (some ⟨h.next, 0, none⟩) (n + n2) (n + n2)) (.slice (some ⟨w.heap.size, 0, none⟩) (n + n2) nc) := by
      intro E' a1 a2 a3 a4
      have := vrel_new (E' := E') a1 a2 a3 (Nat.le_refl (n + n2)) a4
      rwa [show n + n2 + (nc - (n + n2)) = nc by omega] at this
    unfold Oper.wp
    rw [exec_append ho (by rw [e1]; exact hrun)]
    cases ex with
    | true =>
      obtain ⟨st, hr'⟩ := new_obj (w1 := w.drew) (ty := e) (ex := false) hr rfl rfl rfl rfl hszz hC hone (fun e => by cases e)
      exact hn _ _ _ (by simpa [growHp] using st) (by simpa [growHp] using hr') (hvv _ (Or.inl rfl) (by simp [Emb.add]) (by simp [Emb.add]) (by simp [Emb.add]))
    | false =>
      have hk := kill_rel hr p
      obtain ⟨st, hr'⟩ := new_obj (h := h.put p .dead) (w1 := w.drew) (ty := e) (ex := false) hk rfl rfl rfl rfl hszz hC hone (fun e => by cases e)
      exact hn _ _ _ (by simpa [growHp] using (kill_step (E := E) w p).trans st) (by simpa [growHp] using hr') (hvv _ (Or.inl rfl) (by simp [Emb.add, Hp.put]) (by simp [Emb.add, Hp.put]) (by simp [Emb.add, Hp.put]))

/-- Within the known room. -/
theorem ok_appendIn {t t' e : TypeId} {x y : Operand} {m n c n2 p i : Nat} {src cp : List Value} {ex : Bool} {es : Nat} (ho : o.op = .call ⟨.builtin .append, #[x, y], #[t, t']⟩) (hx : ev tm x = .slice (some ⟨p, i, none⟩) n c)
    (hx' : okX x = true) (hy' : okX y = true)
    (ht' : elT P t = some e) (hs : srcT P t' = true) (hm : szT P e = some m) (hsrc : srcV h m (ev tm y) = some (n2, src)) (hle : n + n2 ≤ c)
    (hg : h.get p = .cells cp true ex es) (hcap : i + c * m ≤ cp.length) (hpos : 0 < n2) :
    OpOK P o tm h (.slice (some ⟨p, i, none⟩) (n + n2) c) (h.put p (.cells (putCells cp (i + n * m) src) true ex es)) := by
  intro E base w a next Q hr ht hn
  have hv := mem_ops (x := x) hx' (by rw [ho]; simp [Op.operands, Call.operands]) ht
  have hu := mem_ops (x := y) hy' (by rw [ho]; simp [Op.operands, Call.operands]) ht
  obtain ⟨k1, k2, cs', k3, k4, k5, k6⟩ := run_firstCells_eng (P := P) hr hu hsrc
  rw [hx] at hv
  obtain ⟨hnc, sl, ad, e1, hq⟩ := hv.inv_slice
  obtain ⟨hd, rfl, had⟩ := hq.resolve_right (fun h => h)
  have had : ad = ⟨E.blk p, E.off p + i, none⟩ := had.resolve_left (by omega)
  subst had
  have hmul : (n + n2) * m ≤ c * m := Nat.mul_le_mul_right _ hle
  rw [Nat.add_mul] at hmul
  obtain ⟨w', q1, st, hr'⟩ := store_step (P := P) hr hd hg (i := i + n * m) (vs := src) (vs' := cs') k3.symm (by omega) k5 k6
  have hadd : (⟨E.blk p, E.off p + i, none⟩ : Addr).add (n * m) = ⟨E.blk p, E.off p + (i + n * m), none⟩ := by rw [add_plain', Nat.add_assoc]
  have hrun := run_append_in (t := t) (ty := o.type) (a := some ⟨E.blk p, E.off p + i, none⟩) (n := n) (cap := c + E.slk p) (w' := w') ht' hs hm k1 (k4 w rfl) (by omega)
    (fun b' hb' => by cases hb'; rw [hadd]; exact q1) (fun hb' => by cases hb')
  unfold Oper.wp
  rw [exec_append ho (by rw [e1]; exact hrun)]
  exact hn _ _ _ st hr' (.slice p i _ _ _ hd hle (.inr rfl))

end
end Go.Eng
