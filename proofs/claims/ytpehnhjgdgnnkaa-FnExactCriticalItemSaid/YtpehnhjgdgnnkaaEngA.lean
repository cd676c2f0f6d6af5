/- The relation between an abstract heap and the model's memory, and its first laws. Plain lemmas; no program in sight. -/
import Derived.Orders
import Derived.Laws.Cells
import Derived.Laws.Tables
import Derived.Laws.World
namespace Go.Eng

/-- An object of the abstract heap: a row of cells (own: made by the call; exact: no spare room; es: cells of an element), a map, or nothing. -/
inductive AObj where
  | dead
  | cells (c : List Value) (own exact : Bool) (es : Nat)
  | map (es : List (Value × Value))

structure Hp where
  get : Nat → AObj
  next : Nat

def Hp.alloc (h : Hp) (x : AObj) : Hp := ⟨fun o => if o = h.next then x else h.get o, h.next + 1⟩
def Hp.put (h : Hp) (i : Nat) (x : AObj) : Hp := ⟨fun o => if o = i then x else h.get o, h.next⟩

def AObj.owned : AObj → Bool
  | .dead => false
  | .cells _ own _ _ => own
  | .map _ => true
def AObj.live : AObj → Bool
  | .dead => false
  | _ => true
theorem AObj.live_of_owned {x : AObj} (h : x.owned = true) : x.live = true := by cases x <;> simp_all [AObj.owned, AObj.live]

/-- How the objects lie in the model's memory: which of them are there, block, first cell, spare elements. -/
structure Emb where
  D : Nat → Prop
  blk : Nat → Nat
  off : Nat → Nat
  slk : Nat → Nat

def Emb.add (E : Emb) (o b f s : Nat) : Emb :=
  ⟨fun i => i = o ∨ E.D i, fun i => if i = o then b else E.blk i, fun i => if i = o then f else E.off i, fun i => if i = o then s else E.slk i⟩

inductive VRel (E : Emb) : Value → Value → Prop
  | bool (b : Bool) : VRel E (.bool b) (.bool b)
  | int (k : IntKind) (n : Int) : VRel E (.int k n) (.int k n)
  | string (s : ByteArray) : VRel E (.string s) (.string s)
  | ptrNil : VRel E (.pointer none) (.pointer none)
  | ptr (o i : Nat) (hD : E.D o) : VRel E (.pointer (some ⟨o, i, none⟩)) (.pointer (some ⟨E.blk o, E.off o + i, none⟩))
  | sliceNil : VRel E (.slice none 0 0) (.slice none 0 0)
  | slice (o i n c : Nat) (a : Addr) (hD : E.D o) (hn : n ≤ c) (ha : c + E.slk o = 0 ∨ a = ⟨E.blk o, E.off o + i, none⟩) :
      VRel E (.slice (some ⟨o, i, none⟩) n c) (.slice (some a) n (c + E.slk o))
  /-- no cell at all: wherever it points -/
  | slice0 (a : Addr) : VRel E (.slice (some ⟨0, 0, some 0⟩) 0 0) (.slice (some a) 0 0)
  | mapNil : VRel E (.map none) (.map none)
  | map (o : Nat) (hD : E.D o) : VRel E (.map (some o)) (.map (some (E.blk o)))
  | func (fn : Fn) (f f' c c' : Array Value) (hf : f.size = f'.size) (hc : c.size = c'.size)
      (h1 : ∀ i, i < f.size → VRel E (f.getD i undef) (f'.getD i undef)) (h2 : ∀ i, i < c.size → VRel E (c.getD i undef) (c'.getD i undef)) :
      VRel E (.func fn f c) (.func fn f' c')
  | nilFunc : VRel E .nilFunc .nilFunc
  | nilIface : VRel E .nilIface .nilIface
  | iface (t : TypeId) (v v' : Value) (h : VRel E v v') : VRel E (.iface t v) (.iface t v')
  | agg (c c' : Array Value) (hs : c.size = c'.size) (h1 : ∀ i, i < c.size → (c.getD i undef).oneCell' = true)
      (h : ∀ i, i < c.size → VRel E (c.getD i undef) (c'.getD i undef)) : VRel E (.agg c) (.agg c')
  | tuple (c c' : Array Value) (hs : c.size = c'.size) (h : ∀ i, i < c.size → VRel E (c.getD i undef) (c'.getD i undef)) : VRel E (.tuple c) (.tuple c')

theorem VRel.undef (E : Emb) : VRel E Go.undef Go.undef := .tuple #[] #[] rfl (fun i h => absurd h (by simp))

theorem VRel.mono {E E' : Emb} (hD : ∀ o, E.D o → E'.D o ∧ E'.blk o = E.blk o ∧ E'.off o = E.off o ∧ E'.slk o = E.slk o) {v v' : Value} (h : VRel E v v') :
    VRel E' v v' := by
  induction h with
  | bool b => exact .bool b
  | int k n => exact .int k n
  | string s => exact .string s
  | ptrNil => exact .ptrNil
  | ptr o i h => obtain ⟨a, b, c, _⟩ := hD o h; rw [← b, ← c]; exact .ptr o i a
  | sliceNil => exact .sliceNil
  | slice o i n c a h hn ha =>
    obtain ⟨d, b, f, s⟩ := hD o h
    rw [← s]; exact .slice o i n c a d hn (by rw [s, b, f]; exact ha)
  | slice0 a => exact .slice0 a
  | mapNil => exact .mapNil
  | map o h => obtain ⟨a, b, _, _⟩ := hD o h; rw [← b]; exact .map o a
  | func fn f f' c c' hf hc _ _ h1 h2 => exact .func fn f f' c c' hf hc h1 h2
  | nilFunc => exact .nilFunc
  | nilIface => exact .nilIface
  | iface t v v' _ h => exact .iface t v v' h
  | agg c c' hs h1 _ h => exact .agg c c' hs h1 h
  | tuple c c' hs _ h => exact .tuple c c' hs h

theorem VRel.oneCell {E : Emb} {v v' : Value} (h : VRel E v v') : v'.oneCell' = v.oneCell' := by cases h <;> rfl

/-- The cells of a value are related, one by one. -/
theorem VRel.cells {E : Emb} {v v' : Value} (h : VRel E v v') :
    v.cells.size = v'.cells.size ∧ ∀ i, i < v.cells.size → VRel E (v.cells.getD i Go.undef) (v'.cells.getD i Go.undef) := by
  cases h with
  | agg c c' hs h1 h => exact ⟨hs, h⟩
  | _ => exact ⟨rfl, fun i hi => by
      have : i = 0 := by simp [Value.cells] at hi; omega
      subst this
      simp only [Value.cells]
      first
        | exact .bool _ | exact .int _ _ | exact .string _ | exact .ptrNil | exact .ptr _ _ (by assumption) | exact .sliceNil
        | exact .slice _ _ _ _ _ (by assumption) (by assumption) (by assumption) | exact .slice0 _ | exact .mapNil | exact .map _ (by assumption)
        | exact .func _ _ _ _ _ (by assumption) (by assumption) (by assumption) (by assumption)
        | exact .nilFunc | exact .nilIface | exact .iface _ _ _ (by assumption) | exact .tuple _ _ (by assumption) (by assumption)⟩

def ORel (E : Emb) (base : Nat) (H : Array Obj) (o : Nat) : AObj → Prop
  | .dead => True
  | .cells c own exact es => ∃ C ty fz, H[E.blk o]? = some (.cells C ty fz) ∧ E.off o + c.length + E.slk o * es ≤ C.size ∧
      (∀ i, i < c.length → VRel E (c.getD i undef) (C.getD (E.off o + i) undef)) ∧ (∀ i, i < c.length → (c.getD i undef).oneCell' = true) ∧
      (own = true → fz = (0, 0) ∧ base ≤ E.blk o) ∧ (exact = true → E.slk o = 0)
  | .map es => ∃ (ents : Array MapEntry) (clock : Nat), H[E.blk o]? = some (.map ents clock) ∧ base ≤ E.blk o ∧ ents.size = es.length ∧
      ∀ i, i < es.length → VRel E (es.getD i (undef, undef)).1 (ents.getD i default).key ∧ VRel E (es.getD i (undef, undef)).2 (ents.getD i default).val

structure HRel (E : Emb) (base : Nat) (h : Hp) (H : Array Obj) : Prop where
  le : base ≤ H.size
  lt : ∀ o, E.D o → o < h.next
  obj : ∀ o, E.D o → ORel E base H o (h.get o)
  sep : ∀ o o', E.D o → E.D o' → o ≠ o' → (h.get o).owned = true → (h.get o').live = true → E.blk o ≠ E.blk o'

/-- What one step, or many, may do: the relation is carried on; blocks that no owned object has stay as they were. -/
structure Step (E : Emb) (h : Hp) (w : World) (E' : Emb) (h' : Hp) (w' : World) : Prop where
  next : h.next ≤ h'.next
  ext : ∀ o, o < h.next → (E'.D o ↔ E.D o) ∧ E'.blk o = E.blk o ∧ E'.off o = E.off o ∧ E'.slk o = E.slk o
  os : w'.os = w.os
  tape : w'.tape = w.tape
  output : w'.output = w.output
  size : w.heap.size ≤ w'.heap.size
  keep : ∀ b, b < w.heap.size → (∀ o, E.D o → (h.get o).owned = true → E.blk o ≠ b) → w'.heap[b]? = w.heap[b]?
  own : ∀ o, E'.D o → (h'.get o).owned = true → (∃ o0, E.D o0 ∧ (h.get o0).owned = true ∧ E.blk o0 = E'.blk o) ∨ w.heap.size ≤ E'.blk o

theorem Step.refl (E : Emb) (h : Hp) (w : World) : Step E h w E h w :=
  ⟨Nat.le_refl _, fun _ _ => ⟨Iff.rfl, rfl, rfl, rfl⟩, rfl, rfl, rfl, Nat.le_refl _, fun _ _ _ => rfl, fun o hd ho => .inl ⟨o, hd, ho, rfl⟩⟩

theorem Step.trans {E E1 E2 : Emb} {h h1 h2 : Hp} {w w1 w2 : World} (s : Step E h w E1 h1 w1) (t : Step E1 h1 w1 E2 h2 w2) : Step E h w E2 h2 w2 where
  next := Nat.le_trans s.next t.next
  ext o ho := by
    obtain ⟨a, b, c, d⟩ := s.ext o ho
    obtain ⟨a', b', c', d'⟩ := t.ext o (Nat.lt_of_lt_of_le ho s.next)
    exact ⟨a'.trans a, b'.trans b, c'.trans c, d'.trans d⟩
  os := t.os.trans s.os
  tape := t.tape.trans s.tape
  output := t.output.trans s.output
  size := Nat.le_trans s.size t.size
  keep b hb hn := by
    rw [t.keep b (Nat.lt_of_lt_of_le hb s.size) ?_, s.keep b hb hn]
    intro o1 hd ho e
    rcases s.own o1 hd ho with ⟨o0, h0, h00, e0⟩ | hs
    · exact hn o0 h0 h00 (e0.trans e)
    · omega
  own o hd ho := by
    rcases t.own o hd ho with ⟨o1, h1, h11, e1⟩ | hs
    · rcases s.own o1 h1 h11 with ⟨o0, h0, h00, e0⟩ | hs
      · exact .inl ⟨o0, h0, h00, e0.trans e1⟩
      · exact .inr (e1 ▸ hs)
    · exact .inr (Nat.le_trans s.size hs)

theorem Step.dmono {E E' : Emb} {h h' : Hp} {w w' : World} (s : Step E h w E' h' w') (hlt : ∀ o, E.D o → o < h.next) :
    ∀ o, E.D o → E'.D o ∧ E'.blk o = E.blk o ∧ E'.off o = E.off o ∧ E'.slk o = E.slk o := fun o hd => by
  obtain ⟨a, b, c, d⟩ := s.ext o (hlt o hd)
  exact ⟨a.2 hd, b, c, d⟩

theorem Step.vrel {E E' : Emb} {h h' : Hp} {w w' : World} {base : Nat} (s : Step E h w E' h' w') (hr : HRel E base h w.heap) {v v' : Value} (hv : VRel E v v') : VRel E' v v' :=
  hv.mono (s.dmono hr.lt)

/-- Nothing abstract turns, the world draws. -/
theorem Step.same {E : Emb} {h : Hp} {w w' : World} (hh : w'.heap = w.heap) (ho : w'.os = w.os) (ht : w'.tape = w.tape) (hu : w'.output = w.output) : Step E h w E h w' where
  next := Nat.le_refl _
  ext _ _ := ⟨Iff.rfl, rfl, rfl, rfl⟩
  os := ho
  tape := ht
  output := hu
  size := by rw [hh]; exact Nat.le_refl _
  keep _ _ _ := by rw [hh]
  own o hd ho := .inl ⟨o, hd, ho, rfl⟩

theorem Emb.add_ext (E : Emb) (o b f s : Nat) : ∀ i, i < o → ((E.add o b f s).D i ↔ E.D i) ∧ (E.add o b f s).blk i = E.blk i ∧ (E.add o b f s).off i = E.off i ∧ (E.add o b f s).slk i = E.slk i := by
  intro i hi
  have hne : i ≠ o := by omega
  simp [Emb.add, hne]

theorem ORel.mono {E E' : Emb} {base : Nat} {H H' : Array Obj} {o : Nat} {x : AObj} (hD : ∀ o, E.D o → E'.D o ∧ E'.blk o = E.blk o ∧ E'.off o = E.off o ∧ E'.slk o = E.slk o)
    (hd : E.D o) (hh : H'[E.blk o]? = H[E.blk o]?) (h : ORel E base H o x) : ORel E' base H' o x := by
  obtain ⟨_, b, f, s⟩ := hD o hd
  cases x with
  | dead => trivial
  | cells c own exact es =>
    obtain ⟨C, ty, fz, h1, h2, h3, h4, h5, h6⟩ := h
    refine ⟨C, ty, fz, ?_, ?_, ?_, h4, ?_, ?_⟩
    · rw [b, hh, h1]
    · rw [f, s]; exact h2
    · intro i hi; rw [f]; exact (h3 i hi).mono hD
    · rw [b]; exact h5
    · rw [s]; exact h6
  | map es =>
    obtain ⟨ents, clock, h1, h2, h3, h4⟩ := h
    refine ⟨ents, clock, ?_, ?_, h3, fun i hi => ⟨(h4 i hi).1.mono hD, (h4 i hi).2.mono hD⟩⟩
    · rw [b, hh, h1]
    · rw [b]; exact h2

theorem ORel.block {E : Emb} {base : Nat} {H : Array Obj} {o : Nat} {x : AObj} (h : ORel E base H o x) (hl : x.live = true) : E.blk o < H.size := by
  cases x with
  | dead => cases hl
  | cells c own exact es => obtain ⟨C, ty, fz, h1, _⟩ := h; exact (Array.getElem?_eq_some_iff.1 h1).1
  | map es => obtain ⟨ents, clock, h1, _⟩ := h; exact (Array.getElem?_eq_some_iff.1 h1).1

theorem ORel.base_le {E : Emb} {base : Nat} {H : Array Obj} {o : Nat} {x : AObj} (h : ORel E base H o x) (hl : x.owned = true) : base ≤ E.blk o := by
  cases x with
  | dead => cases hl
  | cells c own exact es => obtain ⟨C, ty, fz, _, _, _, _, h5, _⟩ := h; exact (h5 hl).2
  | map es => obtain ⟨ents, clock, _, h2, _⟩ := h; exact h2

/-- A new object. -/
theorem step_alloc {E : Emb} {base : Nat} {h : Hp} {w w' : World} (hr : HRel E base h w.heap) (x : AObj) (ob : Obj) (s : Nat)
    (hh : w'.heap = w.heap.push ob) (ho : w'.os = w.os) (ht : w'.tape = w.tape) (hu : w'.output = w.output)
    (hx : ORel (E.add h.next w.heap.size 0 s) base w'.heap h.next x) :
    Step E h w (E.add h.next w.heap.size 0 s) (h.alloc x) w' ∧ HRel (E.add h.next w.heap.size 0 s) base (h.alloc x) w'.heap := by
  have hext := E.add_ext h.next w.heap.size 0 s
  have hD : ∀ o, E.D o → (E.add h.next w.heap.size 0 s).D o ∧ (E.add h.next w.heap.size 0 s).blk o = E.blk o ∧ (E.add h.next w.heap.size 0 s).off o = E.off o ∧ (E.add h.next w.heap.size 0 s).slk o = E.slk o := fun o hd => by
    obtain ⟨a, b, c, d⟩ := hext o (hr.lt o hd); exact ⟨a.2 hd, b, c, d⟩
  have hpush : ∀ b, b < w.heap.size → w'.heap[b]? = w.heap[b]? := fun b hb => by rw [hh, Array.getElem?_push, if_neg (by omega)]
  have hget : ∀ o, o < h.next → (h.alloc x).get o = h.get o := fun o ho => by simp [Hp.alloc, show o ≠ h.next by omega]
  have hnew : (E.add h.next w.heap.size 0 s).blk h.next = w.heap.size := by simp [Emb.add]
  refine ⟨⟨Nat.le_succ _, hext, ho, ht, hu, by rw [hh]; simp, fun b hb _ => hpush b hb, ?_⟩, ⟨?_, ?_, ?_, ?_⟩⟩
  · intro o hd hown
    rcases hd with rfl | hd
    · right; rw [hnew]; exact Nat.le_refl _
    · left
      refine ⟨o, hd, ?_, (hext o (hr.lt o hd)).2.1.symm⟩
      rw [hget o (hr.lt o hd)] at hown; exact hown
  · rw [hh]; simp; have := hr.le; omega
  · intro o hd
    rcases hd with rfl | hd
    · exact Nat.lt_succ_self _
    · exact Nat.lt_succ_of_lt (hr.lt o hd)
  · intro o hd
    rcases hd with rfl | hd
    · simpa [Hp.alloc] using hx
    · rw [hget o (hr.lt o hd)]
      cases hx0 : h.get o with
      | dead => trivial
      | _ =>
        have h0 := hr.obj o hd
        have hb := h0.block (by rw [hx0]; rfl)
        rw [hx0] at h0
        exact h0.mono hD hd (hpush _ hb)
  · intro o o' hd hd' hne hown hlive
    rcases hd with rfl | hd <;> rcases hd' with rfl | hd'
    · exact absurd rfl hne
    · rw [hget o' (hr.lt o' hd')] at hlive
      rw [hnew, (hext o' (hr.lt o' hd')).2.1]
      have := (hr.obj o' hd').block hlive
      omega
    · rw [hget o (hr.lt o hd)] at hown
      rw [hnew, (hext o (hr.lt o hd)).2.1]
      have := (hr.obj o hd).block (AObj.live_of_owned hown)
      omega
    · rw [hget o (hr.lt o hd)] at hown
      rw [hget o' (hr.lt o' hd')] at hlive
      rw [(hext o (hr.lt o hd)).2.1, (hext o' (hr.lt o' hd')).2.1]
      exact hr.sep o o' hd hd' hne hown hlive

/-- An owned object is written. -/
theorem step_put {E : Emb} {base : Nat} {h : Hp} {w w' : World} (hr : HRel E base h w.heap) (o : Nat) (x : AObj) (hd : E.D o) (hown : (h.get o).owned = true)
    (hsz : w'.heap.size = w.heap.size) (hh : ∀ b, b ≠ E.blk o → w'.heap[b]? = w.heap[b]?) (ho : w'.os = w.os) (ht : w'.tape = w.tape) (hu : w'.output = w.output)
    (hx : ORel E base w'.heap o x) :
    Step E h w E (h.put o x) w' ∧ HRel E base (h.put o x) w'.heap := by
  refine ⟨⟨Nat.le_refl _, fun _ _ => ⟨Iff.rfl, rfl, rfl, rfl⟩, ho, ht, hu, by omega, fun b _ hn => hh b (fun e => hn o hd hown e.symm), ?_⟩, ⟨?_, hr.lt, ?_, ?_⟩⟩
  · intro i hi hio
    left
    by_cases e : i = o
    · subst e; exact ⟨i, hi, hown, rfl⟩
    · refine ⟨i, hi, ?_, rfl⟩
      simpa [Hp.put, e] using hio
  · rw [hsz]; exact hr.le
  · intro i hi
    by_cases e : i = o
    · subst e; simpa [Hp.put] using hx
    · simp only [Hp.put, e, if_false]
      cases hx0 : h.get i with
      | dead => trivial
      | _ =>
        have h0 := hr.obj i hi
        rw [hx0] at h0
        refine h0.mono (fun o ho => ⟨ho, rfl, rfl, rfl⟩) hi (hh _ ?_)
        exact fun e' => hr.sep o i hd hi (fun q => e q.symm) hown (by rw [hx0]; rfl) e'.symm
  · intro i j hi hj hne h1 h2
    refine hr.sep i j hi hj hne ?_ ?_
    · by_cases e : i = o
      · subst e; exact hown
      · simpa [Hp.put, e] using h1
    · by_cases e : j = o
      · subst e; exact AObj.live_of_owned hown
      · simpa [Hp.put, e] using h2

end Go.Eng
