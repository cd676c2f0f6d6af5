/- The relation between an abstract heap and the model's memory, and its first laws. Plain lemmas; no program in sight. One operation of the model against the abstract heap: what 'OpOK' says, and its laws for the operations that enter no function. Operations that make memory or write it; fields, indexes, slices, arithmetic. Addresses of fields and elements, slices, aggregates, arithmetic, comparisons, tuples. Slices: make, literals, reslicing, len, append; aggregates built; unary operations, conversions, comparisons with nil. Reslicing, len, literals, append, copy, min and max. -/
import Derived.Orders
import Derived.Laws.Cells
import Derived.Laws.Tables
import Derived.Laws.World
import Derived.Laws.Entries
section
namespace Go.Eng

/-- An object of the abstract heap: a row of cells (own: made by the call; exact: no spare room; es: cells of an element), a map, or nothing. -/
inductive AObj where
  | dead
  | cells (c : List Value) (own exact : Bool) (es : Nat)
  | map (es : List (Value × Value))

structure Hp where
  get : Nat → AObj
  next : Nat

def Hp.alloc (h : Hp) (x : AObj) : Hp := ⟨fun o => if o = h.next then x else h.get o, h.next + 1⟩
def Hp.put (h : Hp) (i : Nat) (x : AObj) : Hp := ⟨fun o => if o = i then x else h.get o, h.next⟩

def AObj.owned : AObj → Bool
  | .dead => false
  | .cells _ own _ _ => own
  | .map _ => true
def AObj.live : AObj → Bool
  | .dead => false
  | _ => true
theorem AObj.live_of_owned {x : AObj} (h : x.owned = true) : x.live = true := by cases x <;> simp_all [AObj.owned, AObj.live]

/-- How the objects lie in the model's memory: which of them are there, block, first cell, spare elements. -/
structure Emb where
  D : Nat → Prop
  blk : Nat → Nat
  off : Nat → Nat
  slk : Nat → Nat

def Emb.add (E : Emb) (o b f s : Nat) : Emb :=
  ⟨fun i => i = o ∨ E.D i, fun i => if i = o then b else E.blk i, fun i => if i = o then f else E.off i, fun i => if i = o then s else E.slk i⟩

inductive VRel (E : Emb) : Value → Value → Prop
  | bool (b : Bool) : VRel E (.bool b) (.bool b)
  | int (k : IntKind) (n : Int) : VRel E (.int k n) (.int k n)
  | string (s : ByteArray) : VRel E (.string s) (.string s)
  | ptrNil : VRel E (.pointer none) (.pointer none)
  | ptr (o i : Nat) (hD : E.D o) : VRel E (.pointer (some ⟨o, i, none⟩)) (.pointer (some ⟨E.blk o, E.off o + i, none⟩))
  | sliceNil : VRel E (.slice none 0 0) (.slice none 0 0)
  | slice (o i n c : Nat) (a : Addr) (hD : E.D o) (hn : n ≤ c) (ha : c + E.slk o = 0 ∨ a = ⟨E.blk o, E.off o + i, none⟩) :
      VRel E (.slice (some ⟨o, i, none⟩) n c) (.slice (some a) n (c + E.slk o))
  /-- no cell at all: wherever it points -/
  | slice0 (a : Addr) : VRel E (.slice (some ⟨0, 0, some 0⟩) 0 0) (.slice (some a) 0 0)
  | mapNil : VRel E (.map none) (.map none)
  | map (o : Nat) (hD : E.D o) : VRel E (.map (some o)) (.map (some (E.blk o)))
  | func (fn : Fn) (f f' c c' : Array Value) (hf : f.size = f'.size) (hc : c.size = c'.size)
      (h1 : ∀ i, i < f.size → VRel E (f.getD i undef) (f'.getD i undef)) (h2 : ∀ i, i < c.size → VRel E (c.getD i undef) (c'.getD i undef)) :
      VRel E (.func fn f c) (.func fn f' c')
  | nilFunc : VRel E .nilFunc .nilFunc
  | nilIface : VRel E .nilIface .nilIface
  | iface (t : TypeId) (v v' : Value) (h : VRel E v v') : VRel E (.iface t v) (.iface t v')
  | agg (c c' : Array Value) (hs : c.size = c'.size) (h1 : ∀ i, i < c.size → (c.getD i undef).oneCell' = true)
      (h : ∀ i, i < c.size → VRel E (c.getD i undef) (c'.getD i undef)) : VRel E (.agg c) (.agg c')
  | tuple (c c' : Array Value) (hs : c.size = c'.size) (h : ∀ i, i < c.size → VRel E (c.getD i undef) (c'.getD i undef)) : VRel E (.tuple c) (.tuple c')

theorem VRel.undef (E : Emb) : VRel E Go.undef Go.undef := .tuple #[] #[] rfl (fun i h => absurd h (by simp))

theorem VRel.mono {E E' : Emb} (hD : ∀ o, E.D o → E'.D o ∧ E'.blk o = E.blk o ∧ E'.off o = E.off o ∧ E'.slk o = E.slk o) {v v' : Value} (h : VRel E v v') :
    VRel E' v v' := by
  induction h with
  | bool b => exact .bool b
  | int k n => exact .int k n
  | string s => exact .string s
  | ptrNil => exact .ptrNil
  | ptr o i h => obtain ⟨a, b, c, _⟩ := hD o h; rw [← b, ← c]; exact .ptr o i a
  | sliceNil => exact .sliceNil
  | slice o i n c a h hn ha =>
    obtain ⟨d, b, f, s⟩ := hD o h
    rw [← s]; exact .slice o i n c a d hn (by rw [s, b, f]; exact ha)
  | slice0 a => exact .slice0 a
  | mapNil => exact .mapNil
  | map o h => obtain ⟨a, b, _, _⟩ := hD o h; rw [← b]; exact .map o a
  | func fn f f' c c' hf hc _ _ h1 h2 => exact .func fn f f' c c' hf hc h1 h2
  | nilFunc => exact .nilFunc
  | nilIface => exact .nilIface
  | iface t v v' _ h => exact .iface t v v' h
  | agg c c' hs h1 _ h => exact .agg c c' hs h1 h
  | tuple c c' hs _ h => exact .tuple c c' hs h

theorem VRel.oneCell {E : Emb} {v v' : Value} (h : VRel E v v') : v'.oneCell' = v.oneCell' := by cases h <;> rfl

/-- The cells of a value are related, one by one. -/
theorem VRel.cells {E : Emb} {v v' : Value} (h : VRel E v v') :
    v.cells.size = v'.cells.size ∧ ∀ i, i < v.cells.size → VRel E (v.cells.getD i Go.undef) (v'.cells.getD i Go.undef) := by
  cases h with
  | agg c c' hs h1 h => exact ⟨hs, h⟩
  | _ => exact ⟨rfl, fun i hi => by
      have : i = 0 := by simp [Value.cells] at hi; omega
      subst this
      simp only [Value.cells]
      first
        | exact .bool _ | exact .int _ _ | exact .string _ | exact .ptrNil | exact .ptr _ _ (by assumption) | exact .sliceNil
        | exact .slice _ _ _ _ _ (by assumption) (by assumption) (by assumption) | exact .slice0 _ | exact .mapNil | exact .map _ (by assumption)
        | exact .func _ _ _ _ _ (by assumption) (by assumption) (by assumption) (by assumption)
        | exact .nilFunc | exact .nilIface | exact .iface _ _ _ (by assumption) | exact .tuple _ _ (by assumption) (by assumption)⟩

def ORel (E : Emb) (base : Nat) (H : Array Obj) (o : Nat) : AObj → Prop
  | .dead => True
  | .cells c own exact es => ∃ C ty fz, H[E.blk o]? = some (.cells C ty fz) ∧ E.off o + c.length + E.slk o * es ≤ C.size ∧
      (∀ i, i < c.length → VRel E (c.getD i undef) (C.getD (E.off o + i) undef)) ∧ (∀ i, i < c.length → (c.getD i undef).oneCell' = true) ∧
      (own = true → fz = (0, 0) ∧ base ≤ E.blk o) ∧ (exact = true → E.slk o = 0)
  | .map es => ∃ (ents : Array MapEntry) (clock : Nat), H[E.blk o]? = some (.map ents clock) ∧ base ≤ E.blk o ∧ ents.size = es.length ∧
      ∀ i, i < es.length → VRel E (es.getD i (undef, undef)).1 (ents.getD i default).key ∧ VRel E (es.getD i (undef, undef)).2 (ents.getD i default).val

structure HRel (E : Emb) (base : Nat) (h : Hp) (H : Array Obj) : Prop where
  le : base ≤ H.size
  lt : ∀ o, E.D o → o < h.next
  obj : ∀ o, E.D o → ORel E base H o (h.get o)
  sep : ∀ o o', E.D o → E.D o' → o ≠ o' → (h.get o).owned = true → (h.get o').live = true → E.blk o ≠ E.blk o'

/-- Nothing was printed, and no draw was taken back. -/
structure Qui (w w' : World) : Prop where
  out : w'.output = w.output
  drawn : w.drawn ≤ w'.drawn
theorem Qui.refl (w : World) : Qui w w := ⟨rfl, Nat.le_refl _⟩
theorem Qui.trans {a b c : World} (h : Qui a b) (k : Qui b c) : Qui a c := ⟨k.out.trans h.out, Nat.le_trans h.drawn k.drawn⟩

/-- What one step, or many, may do: the relation is carried on; blocks that no owned object has stay as they were. -/
structure Step (E : Emb) (h : Hp) (w : World) (E' : Emb) (h' : Hp) (w' : World) : Prop where
  next : h.next ≤ h'.next
  ext : ∀ o, o < h.next → (E'.D o ↔ E.D o) ∧ E'.blk o = E.blk o ∧ E'.off o = E.off o ∧ E'.slk o = E.slk o
  os : w'.os = w.os
  tape : w'.tape = w.tape
  output : Qui w w'
  size : w.heap.size ≤ w'.heap.size
  keep : ∀ b, b < w.heap.size → (∀ o, E.D o → (h.get o).owned = true → E.blk o ≠ b) → w'.heap[b]? = w.heap[b]?
  own : ∀ o, E'.D o → (h'.get o).owned = true → (∃ o0, E.D o0 ∧ (h.get o0).owned = true ∧ E.blk o0 = E'.blk o) ∨ w.heap.size ≤ E'.blk o

theorem Step.refl (E : Emb) (h : Hp) (w : World) : Step E h w E h w :=
  ⟨Nat.le_refl _, fun _ _ => ⟨Iff.rfl, rfl, rfl, rfl⟩, rfl, rfl, Qui.refl _, Nat.le_refl _, fun _ _ _ => rfl, fun o hd ho => .inl ⟨o, hd, ho, rfl⟩⟩

theorem Step.trans {E E1 E2 : Emb} {h h1 h2 : Hp} {w w1 w2 : World} (s : Step E h w E1 h1 w1) (t : Step E1 h1 w1 E2 h2 w2) : Step E h w E2 h2 w2 where
  next := Nat.le_trans s.next t.next
  ext o ho := by
    obtain ⟨a, b, c, d⟩ := s.ext o ho
    obtain ⟨a', b', c', d'⟩ := t.ext o (Nat.lt_of_lt_of_le ho s.next)
    exact ⟨a'.trans a, b'.trans b, c'.trans c, d'.trans d⟩
  os := t.os.trans s.os
  tape := t.tape.trans s.tape
  output := s.output.trans t.output
  size := Nat.le_trans s.size t.size
  keep b hb hn := by
    rw [t.keep b (Nat.lt_of_lt_of_le hb s.size) ?_, s.keep b hb hn]
    intro o1 hd ho e
    rcases s.own o1 hd ho with ⟨o0, h0, h00, e0⟩ | hs
    · exact hn o0 h0 h00 (e0.trans e)
    · omega
  own o hd ho := by
    rcases t.own o hd ho with ⟨o1, h1, h11, e1⟩ | hs
    · rcases s.own o1 h1 h11 with ⟨o0, h0, h00, e0⟩ | hs
      · exact .inl ⟨o0, h0, h00, e0.trans e1⟩
      · exact .inr (e1 ▸ hs)
    · exact .inr (Nat.le_trans s.size hs)

theorem Step.dmono {E E' : Emb} {h h' : Hp} {w w' : World} (s : Step E h w E' h' w') (hlt : ∀ o, E.D o → o < h.next) :
    ∀ o, E.D o → E'.D o ∧ E'.blk o = E.blk o ∧ E'.off o = E.off o ∧ E'.slk o = E.slk o := fun o hd => by
  obtain ⟨a, b, c, d⟩ := s.ext o (hlt o hd)
  exact ⟨a.2 hd, b, c, d⟩

theorem Step.vrel {E E' : Emb} {h h' : Hp} {w w' : World} {base : Nat} (s : Step E h w E' h' w') (hr : HRel E base h w.heap) {v v' : Value} (hv : VRel E v v') : VRel E' v v' :=
  hv.mono (s.dmono hr.lt)

/-- Nothing abstract turns, the world draws. -/
theorem Step.same {E : Emb} {h : Hp} {w w' : World} (hh : w'.heap = w.heap) (ho : w'.os = w.os) (ht : w'.tape = w.tape) (hu : Qui w w') : Step E h w E h w' where
  next := Nat.le_refl _
  ext _ _ := ⟨Iff.rfl, rfl, rfl, rfl⟩
  os := ho
  tape := ht
  output := hu
  size := by rw [hh]; exact Nat.le_refl _
  keep _ _ _ := by rw [hh]
  own o hd ho := .inl ⟨o, hd, ho, rfl⟩

theorem Emb.add_ext (E : Emb) (o b f s : Nat) : ∀ i, i < o → ((E.add o b f s).D i ↔ E.D i) ∧ (E.add o b f s).blk i = E.blk i ∧ (E.add o b f s).off i = E.off i ∧ (E.add o b f s).slk i = E.slk i := by
  intro i hi
  have hne : i ≠ o := by omega
  simp [Emb.add, hne]

theorem ORel.mono {E E' : Emb} {base : Nat} {H H' : Array Obj} {o : Nat} {x : AObj} (hD : ∀ o, E.D o → E'.D o ∧ E'.blk o = E.blk o ∧ E'.off o = E.off o ∧ E'.slk o = E.slk o)
    (hd : E.D o) (hh : H'[E.blk o]? = H[E.blk o]?) (h : ORel E base H o x) : ORel E' base H' o x := by
  obtain ⟨_, b, f, s⟩ := hD o hd
  cases x with
  | dead => trivial
  | cells c own exact es =>
    obtain ⟨C, ty, fz, h1, h2, h3, h4, h5, h6⟩ := h
    refine ⟨C, ty, fz, ?_, ?_, ?_, h4, ?_, ?_⟩
    · rw [b, hh, h1]
    · rw [f, s]; exact h2
    · intro i hi; rw [f]; exact (h3 i hi).mono hD
    · rw [b]; exact h5
    · rw [s]; exact h6
  | map es =>
    obtain ⟨ents, clock, h1, h2, h3, h4⟩ := h
    refine ⟨ents, clock, ?_, ?_, h3, fun i hi => ⟨(h4 i hi).1.mono hD, (h4 i hi).2.mono hD⟩⟩
    · rw [b, hh, h1]
    · rw [b]; exact h2

theorem ORel.block {E : Emb} {base : Nat} {H : Array Obj} {o : Nat} {x : AObj} (h : ORel E base H o x) (hl : x.live = true) : E.blk o < H.size := by
  cases x with
  | dead => cases hl
  | cells c own exact es => obtain ⟨C, ty, fz, h1, _⟩ := h; exact (Array.getElem?_eq_some_iff.1 h1).1
  | map es => obtain ⟨ents, clock, h1, _⟩ := h; exact (Array.getElem?_eq_some_iff.1 h1).1

theorem ORel.base_le {E : Emb} {base : Nat} {H : Array Obj} {o : Nat} {x : AObj} (h : ORel E base H o x) (hl : x.owned = true) : base ≤ E.blk o := by
  cases x with
  | dead => cases hl
  | cells c own exact es => obtain ⟨C, ty, fz, _, _, _, _, h5, _⟩ := h; exact (h5 hl).2
  | map es => obtain ⟨ents, clock, _, h2, _⟩ := h; exact h2

/-- A new object. -/
theorem step_alloc {E : Emb} {base : Nat} {h : Hp} {w w' : World} (hr : HRel E base h w.heap) (x : AObj) (ob : Obj) (s : Nat)
    (hh : w'.heap = w.heap.push ob) (ho : w'.os = w.os) (ht : w'.tape = w.tape) (hu : Qui w w')
    (hx : ORel (E.add h.next w.heap.size 0 s) base w'.heap h.next x) :
    Step E h w (E.add h.next w.heap.size 0 s) (h.alloc x) w' ∧ HRel (E.add h.next w.heap.size 0 s) base (h.alloc x) w'.heap := by
  have hext := E.add_ext h.next w.heap.size 0 s
  have hD : ∀ o, E.D o → (E.add h.next w.heap.size 0 s).D o ∧ (E.add h.next w.heap.size 0 s).blk o = E.blk o ∧ (E.add h.next w.heap.size 0 s).off o = E.off o ∧ (E.add h.next w.heap.size 0 s).slk o = E.slk o := fun o hd => by
    obtain ⟨a, b, c, d⟩ := hext o (hr.lt o hd); exact ⟨a.2 hd, b, c, d⟩
  have hpush : ∀ b, b < w.heap.size → w'.heap[b]? = w.heap[b]? := fun b hb => by rw [hh, Array.getElem?_push, if_neg (by omega)]
  have hget : ∀ o, o < h.next → (h.alloc x).get o = h.get o := fun o ho => by simp [Hp.alloc, show o ≠ h.next by omega]
  have hnew : (E.add h.next w.heap.size 0 s).blk h.next = w.heap.size := by simp [Emb.add]
  refine ⟨⟨Nat.le_succ _, hext, ho, ht, hu, by rw [hh]; simp, fun b hb _ => hpush b hb, ?_⟩, ⟨?_, ?_, ?_, ?_⟩⟩
  · intro o hd hown
    rcases hd with rfl | hd
    · right; rw [hnew]; exact Nat.le_refl _
    · left
      refine ⟨o, hd, ?_, (hext o (hr.lt o hd)).2.1.symm⟩
      rw [hget o (hr.lt o hd)] at hown; exact hown
  · rw [hh]; simp; have := hr.le; omega
  · intro o hd
    rcases hd with rfl | hd
    · exact Nat.lt_succ_self _
    · exact Nat.lt_succ_of_lt (hr.lt o hd)
  · intro o hd
    rcases hd with rfl | hd
    · simpa [Hp.alloc] using hx
    · rw [hget o (hr.lt o hd)]
      cases hx0 : h.get o with
      | dead => trivial
      | _ =>
        have h0 := hr.obj o hd
        have hb := h0.block (by rw [hx0]; rfl)
        rw [hx0] at h0
        exact h0.mono hD hd (hpush _ hb)
  · intro o o' hd hd' hne hown hlive
    rcases hd with rfl | hd <;> rcases hd' with rfl | hd'
    · exact absurd rfl hne
    · rw [hget o' (hr.lt o' hd')] at hlive
      rw [hnew, (hext o' (hr.lt o' hd')).2.1]
      have := (hr.obj o' hd').block hlive
      omega
    · rw [hget o (hr.lt o hd)] at hown
      rw [hnew, (hext o (hr.lt o hd)).2.1]
      have := (hr.obj o hd).block (AObj.live_of_owned hown)
      omega
    · rw [hget o (hr.lt o hd)] at hown
      rw [hget o' (hr.lt o' hd')] at hlive
      rw [(hext o (hr.lt o hd)).2.1, (hext o' (hr.lt o' hd')).2.1]
      exact hr.sep o o' hd hd' hne hown hlive

/-- An owned object is written. -/
theorem step_put {E : Emb} {base : Nat} {h : Hp} {w w' : World} (hr : HRel E base h w.heap) (o : Nat) (x : AObj) (hd : E.D o) (hown : (h.get o).owned = true)
    (hsz : w'.heap.size = w.heap.size) (hh : ∀ b, b ≠ E.blk o → w'.heap[b]? = w.heap[b]?) (ho : w'.os = w.os) (ht : w'.tape = w.tape) (hu : Qui w w')
    (hx : ORel E base w'.heap o x) :
    Step E h w E (h.put o x) w' ∧ HRel E base (h.put o x) w'.heap := by
  refine ⟨⟨Nat.le_refl _, fun _ _ => ⟨Iff.rfl, rfl, rfl, rfl⟩, ho, ht, hu, by omega, fun b _ hn => hh b (fun e => hn o hd hown e.symm), ?_⟩, ⟨?_, hr.lt, ?_, ?_⟩⟩
  · intro i hi hio
    left
    by_cases e : i = o
    · subst e; exact ⟨i, hi, hown, rfl⟩
    · refine ⟨i, hi, ?_, rfl⟩
      simpa [Hp.put, e] using hio
  · rw [hsz]; exact hr.le
  · intro i hi
    by_cases e : i = o
    · subst e; simpa [Hp.put] using hx
    · simp only [Hp.put, e, if_false]
      cases hx0 : h.get i with
      | dead => trivial
      | _ =>
        have h0 := hr.obj i hi
        rw [hx0] at h0
        refine h0.mono (fun o ho => ⟨ho, rfl, rfl, rfl⟩) hi (hh _ ?_)
        exact fun e' => hr.sep o i hd hi (fun q => e q.symm) hown (by rw [hx0]; rfl) e'.symm
  · intro i j hi hj hne h1 h2
    refine hr.sep i j hi hj hne ?_ ?_
    · by_cases e : i = o
      · subst e; exact hown
      · simpa [Hp.put, e] using h1
    · by_cases e : j = o
      · subst e; exact AObj.live_of_owned hown
      · simpa [Hp.put, e] using h2

end Go.Eng
end

section
namespace Go.Eng

def ev (tm : Nat → Value) : Operand → Value
  | .tmp t => tm t
  | .const v => v
  | .func f => .func (.func f) #[] #[]
  | .global _ => undef

/-- A value without an address: the same in both. -/
def plainS : Value → Bool
  | .bool _ | .int _ _ | .string _ | .pointer none | .slice none 0 0 | .map none | .nilFunc | .nilIface => true
  | _ => false
def plainV : Value → Bool
  | .agg cs => cs.all plainS
  | .tuple cs => cs.all plainS
  | v => plainS v

theorem VRel.ofS (E : Emb) {v : Value} (h : plainS v = true) : VRel E v v := by
  unfold plainS at h
  split at h <;> first | cases h | skip
  · exact .bool _
  · exact .int _ _
  · exact .string _
  · exact .ptrNil
  · exact .sliceNil
  · exact .mapNil
  · exact .nilFunc
  · exact .nilIface

theorem plainS_one {v : Value} (h : plainS v = true) : v.oneCell' = true := by
  unfold plainS at h
  split at h <;> first | rfl | cases h

theorem all_getD {cs : Array Value} {p : Value → Bool} (h : cs.all p = true) {i : Nat} (hi : i < cs.size) : p (cs.getD i undef) = true := by
  rw [Array.all_eq_true] at h
  rw [Array.getD_eq_getD_getElem?, Array.getElem?_eq_getElem hi]
  exact h i hi

theorem VRel.ofV (E : Emb) {v : Value} (h : plainV v = true) : VRel E v v := by
  unfold plainV at h
  split at h
  · exact .agg _ _ rfl (fun i hi => plainS_one (all_getD h hi)) (fun i hi => .ofS E (all_getD h hi))
  · exact .tuple _ _ rfl (fun i hi => .ofS E (all_getD h hi))
  · exact .ofS E h

def okX : Operand → Bool
  | .tmp _ | .func _ => true
  | .const v => plainV v
  | .global _ => false

theorem ev_rel {E : Emb} {tm : Nat → Value} {a : Act} {x : Operand} (hx : okX x = true) (h : ∀ t, x = .tmp t → VRel E (tm t) (a.tmps.getD t undef)) : VRel E (ev tm x) (a.eval x) := by
  cases x with
  | tmp t => exact h t rfl
  | const v => exact .ofV E hx
  | func f => exact .func _ _ _ _ _ rfl rfl (fun i hi => absurd hi (by simp)) (fun i hi => absurd hi (by simp))
  | global g => cases hx

/-- One operation: from the abstract state (tm, h) it yields v and the heap h', whatever the model's memory and whatever it draws. -/
def OpOK (P : Program) (o : Oper) (tm : Nat → Value) (h : Hp) (v : Value) (h' : Hp) : Prop :=
  ∀ (E : Emb) (base : Nat) (w : World) (a : Act) (next : Act → World → Prop) (Q : Exit → Act → World → Prop), HRel E base h w.heap →
    (∀ t, Operand.tmp t ∈ o.op.operands → VRel E (tm t) (a.tmps.getD t undef)) →
    (∀ E' w' v', Step E h w E' h' w' → HRel E' base h' w'.heap → VRel E' v v' → next (a.put o.dst v') w') → o.wp P a w next Q

/-- The operation is a computation that yields a value in memory as it is. -/
theorem OpOK.pure {P : Program} {o : Oper} {tm : Nat → Value} {h : Hp} {v : Value}
    (H : ∀ (E : Emb) (base : Nat) (w : World) (a : Act), HRel E base h w.heap → (∀ t, Operand.tmp t ∈ o.op.operands → VRel E (tm t) (a.tmps.getD t undef)) →
      ∃ v', VRel E v v' ∧ (execOp a.eval o).run P w = .ok (.value v') w) : OpOK P o tm h v h := by
  intro E base w a next Q hr ht hn
  obtain ⟨v', hv, hrun⟩ := H E base w a hr ht
  unfold Oper.wp
  rw [hrun]
  exact hn E w v' (Step.refl E h w) hr hv

theorem mem_ops {o : Oper} {x : Operand} {tm : Nat → Value} {E : Emb} {a : Act} (hx : okX x = true) (hm : x ∈ o.op.operands)
    (ht : ∀ t, Operand.tmp t ∈ o.op.operands → VRel E (tm t) (a.tmps.getD t undef)) : VRel E (ev tm x) (a.eval x) :=
  ev_rel hx fun t e => ht t (e ▸ hm)

/-! inversions -/
theorem VRel.inv_int {E : Emb} {k : IntKind} {n : Int} {v' : Value} (h : VRel E (.int k n) v') : v' = .int k n := by cases h; rfl
theorem VRel.inv_bool {E : Emb} {b : Bool} {v' : Value} (h : VRel E (.bool b) v') : v' = .bool b := by cases h; rfl
theorem VRel.inv_string {E : Emb} {s : ByteArray} {v' : Value} (h : VRel E (.string s) v') : v' = .string s := by cases h; rfl
theorem VRel.inv_ptr {E : Emb} {o i : Nat} {v' : Value} (h : VRel E (.pointer (some ⟨o, i, none⟩)) v') : E.D o ∧ v' = .pointer (some ⟨E.blk o, E.off o + i, none⟩) := by
  cases h; exact ⟨by assumption, rfl⟩
theorem VRel.inv_slice {E : Emb} {o i n c : Nat} {v' : Value} (h : VRel E (.slice (some ⟨o, i, none⟩) n c) v') :
    n ≤ c ∧ ∃ s a, v' = .slice (some a) n (c + s) ∧ ((E.D o ∧ s = E.slk o ∧ (c + s = 0 ∨ a = ⟨E.blk o, E.off o + i, none⟩)) ∨ False) := by
  cases h with
  | slice _ _ _ _ a hD hn ha => exact ⟨hn, _, a, rfl, .inl ⟨hD, rfl, ha⟩⟩
theorem VRel.inv_sliceNil {E : Emb} {v' : Value} (h : VRel E (.slice none 0 0) v') : v' = .slice none 0 0 := by cases h; rfl

section
variable {P : Program} {o : Oper} {tm : Nat → Value} {h : Hp}

theorem ok_move {x : Operand} (ho : o.op = .move x ∨ o.op = .assign x) (hx : okX x = true) : OpOK P o tm h (ev tm x) h := by
  refine OpOK.pure fun E base w a hr ht => ⟨a.eval x, mem_ops hx ?_ ht, ?_⟩
  · rcases ho with ho | ho <;> rw [ho] <;> simp [Op.operands]
  · rcases ho with ho | ho <;> simp [execOp, ho]

theorem ok_pick {c x y : Operand} {t : Bool} (ho : o.op = .pick c x y) (hc : ev tm c = .bool t) (hc' : okX c = true) (hx : okX x = true) (hy : okX y = true) :
    OpOK P o tm h (if t then ev tm x else ev tm y) h := by
  refine OpOK.pure fun E base w a hr ht => ⟨if t then a.eval x else a.eval y, ?_, ?_⟩
  · cases t
    · exact mem_ops hy (by rw [ho]; simp [Op.operands]) ht
    · exact mem_ops hx (by rw [ho]; simp [Op.operands]) ht
  · have hcv := mem_ops (x := c) hc' (by rw [ho]; simp [Op.operands]) ht
    rw [hc] at hcv
    simp [execOp, ho, hcv.inv_bool, asBool]

end

/-! Types. -/
def aggT (P : Program) (t : TypeId) : Option Bool := (P.underlying t).map fun d => match d with | .struct _ | .array _ _ => true | _ => false
def szT (P : Program) (t : TypeId) : Option Nat := (P.info? t).map (·.size)
def zeroT (P : Program) (t : TypeId) : Option Value := (P.info? t).bind (·.zero)
def byT (P : Program) (t : TypeId) : Option Nat := (P.info? t).map (·.bytes)

section
variable {P : Program} {w : World} {t : TypeId}
theorem run_szT {n : Nat} (h : szT P t = some n) : (sizeOf t).run P w = .ok n w := by
  unfold szT at h
  cases hi : P.info? t with
  | none => simp [hi] at h
  | some i => simp [hi] at h; simp [sizeOf, typeInfo, hi, h]
theorem run_zeroT {z : Value} (h : zeroT P t = some z) : (zeroValue t).run P w = .ok z w := by
  unfold zeroT at h
  cases hi : P.info? t with
  | none => simp [hi] at h
  | some i => simp [hi] at h; simp [zeroValue, typeInfo, hi, h]
theorem run_aggT {b : Bool} (h : aggT P t = some b) : (isAgg t).run P w = .ok b w := by
  unfold aggT at h
  cases hi : P.underlying t with
  | none => simp [hi] at h
  | some d => simp [hi] at h; simp [isAgg, underlying, hi]; split at h <;> simp_all
end

/-! Cells. -/
theorem cell_at {E : Emb} {base : Nat} {h : Hp} {H : Array Obj} {w : World} (hH : w.heap = H) (hr : HRel E base h H) {p : Nat} {c : List Value} {own ex : Bool} {es : Nat} (hd : E.D p)
    (hg : h.get p = .cells c own ex es) {i : Nat} (hi : i < c.length) : ∃ v', w.cell? ⟨E.blk p, E.off p + i, none⟩ = some v' ∧ VRel E (c.getD i undef) v' ∧ (c.getD i undef).oneCell' = true := by
  have h0 := hr.obj p hd
  rw [hg] at h0
  obtain ⟨C, ty, fz, h1, h2, h3, h4, _⟩ := h0
  refine ⟨C.getD (E.off p + i) undef, ?_, h3 i hi, h4 i hi⟩
  simp only [World.cell?, hH, h1, Option.isSome_none]
  rw [Array.getD_eq_getD_getElem?, Array.getElem?_eq_getElem (by omega)]
  rfl

theorem add_plain' (b i j : Nat) : (⟨b, i, none⟩ : Addr).add j = ⟨b, i + j, none⟩ := by
  unfold Addr.add; split
  · subst_vars; rfl
  · rfl

theorem ext_getD {c c' : Array Value} (hs : c.size = c'.size) (h : ∀ i, i < c.size → c.getD i undef = c'.getD i undef) : c = c' := by
  apply Array.ext hs
  intro i h1 h2
  have := h i h1
  rwa [Array.getD_eq_getD_getElem?, Array.getD_eq_getD_getElem?, Array.getElem?_eq_getElem h1, Array.getElem?_eq_getElem h2] at this

/-- Loading a variable of whatever type. -/
theorem run_loadVar_eng {P : Program} {E : Emb} {base : Nat} {h : Hp} {w : World} (hr : HRel E base h w.heap) {p : Nat} {c : List Value} {own ex : Bool} {es : Nat} (hd : E.D p)
    (hg : h.get p = .cells c own ex es) (t : TypeId) (i : Nat) :
    (aggT P t = some false → i < c.length → ∃ v', VRel E (c.getD i undef) v' ∧ (loadVar t ⟨E.blk p, E.off p + i, none⟩).run P w = .ok v' w) ∧
    (∀ n, aggT P t = some true → szT P t = some n → i + n ≤ c.length →
      ∃ v', VRel E (.agg ((c.drop i).take n).toArray) v' ∧ (loadVar t ⟨E.blk p, E.off p + i, none⟩).run P w = .ok v' w) := by
  constructor
  · intro ha hi
    obtain ⟨v', h1, h2, h3⟩ := cell_at rfl hr hd hg hi
    refine ⟨v', h2, ?_⟩
    simp [loadVar, run_aggT ha, h1]
  · intro n ha hs hi
    have hc : ∀ j, j < n → w.cell? ((⟨E.blk p, E.off p + i, none⟩ : Addr).add j) = some (((w.cell? ⟨E.blk p, E.off p + i + j, none⟩)).getD undef) := by
      intro j hj
      rw [add_plain']
      obtain ⟨v', h1, _⟩ := cell_at (i := i + j) rfl hr hd hg (by omega)
      rw [Nat.add_assoc, h1]; rfl
    have hl := run_loadCells (P := P) w ⟨E.blk p, E.off p + i, none⟩ n _ hc
    refine ⟨.agg ((List.range n).map fun j => ((w.cell? ⟨E.blk p, E.off p + i + j, none⟩)).getD undef).toArray, ?_, ?_⟩
    · have hlen : ((c.drop i).take n).length = n := by simp; omega
      have hget : ∀ j, j < n → (((c.drop i).take n).toArray).getD j undef = c.getD (i + j) undef := by
        intro j hj
        simp [List.getD, hj]
      refine .agg _ _ (by simp; omega) ?_ ?_
      · intro j hj
        simp at hj
        have hj' : j < n := by omega
        rw [hget j hj']
        obtain ⟨v', h1, h2, h3⟩ := cell_at (i := i + j) rfl hr hd hg (by omega)
        exact h3
      · intro j hj
        simp at hj
        have hj' : j < n := by omega
        rw [hget j hj']
        obtain ⟨v', h1, h2, h3⟩ := cell_at (i := i + j) rfl hr hd hg (by omega)
        have hq : w.cell? ⟨E.blk p, E.off p + i + j, none⟩ = some v' := by rw [Nat.add_assoc]; exact h1
        have : (((List.range n).map fun j => ((w.cell? ⟨E.blk p, E.off p + i + j, none⟩)).getD undef).toArray).getD j undef = v' := by
          simp [hj', hq]
        rw [this]; exact h2
    · simp [loadVar, run_aggT ha, run_szT hs, hl]

section
variable {P : Program} {o : Oper} {tm : Nat → Value} {h : Hp}

theorem ok_load1 {t : TypeId} {x : Operand} {p i : Nat} {c : List Value} {own ex : Bool} {es : Nat} (ho : o.op = .load t x) (hx : ev tm x = .pointer (some ⟨p, i, none⟩)) (hx' : okX x = true)
    (hg : h.get p = .cells c own ex es) (ha : aggT P t = some false) (hi : i < c.length) : OpOK P o tm h (c.getD i undef) h := by
  refine OpOK.pure fun E base w a hr ht => ?_
  have hv := mem_ops (x := x) hx' (by rw [ho]; simp [Op.operands]) ht
  rw [hx] at hv
  obtain ⟨hd, e⟩ := hv.inv_ptr
  obtain ⟨v', h1, h2⟩ := (run_loadVar_eng (P := P) hr hd hg t i).1 ha hi
  exact ⟨v', h1, by simp [execOp, ho, e, Instr.loadAt, Instr.sureAddr, h2]⟩

theorem ok_loadN {t : TypeId} {x : Operand} {p i n : Nat} {c : List Value} {own ex : Bool} {es : Nat} (ho : o.op = .load t x) (hx : ev tm x = .pointer (some ⟨p, i, none⟩)) (hx' : okX x = true)
    (hg : h.get p = .cells c own ex es) (ha : aggT P t = some true) (hs : szT P t = some n) (hi : i + n ≤ c.length) : OpOK P o tm h (.agg ((c.drop i).take n).toArray) h := by
  refine OpOK.pure fun E base w a hr ht => ?_
  have hv := mem_ops (x := x) hx' (by rw [ho]; simp [Op.operands]) ht
  rw [hx] at hv
  obtain ⟨hd, e⟩ := hv.inv_ptr
  obtain ⟨v', h1, h2⟩ := (run_loadVar_eng (P := P) hr hd hg t i).2 n ha hs hi
  exact ⟨v', h1, by simp [execOp, ho, e, Instr.loadAt, Instr.sureAddr, h2]⟩
end

end Go.Eng
end

section
namespace Go.Eng

theorem VRel.undef' (E : Emb) : VRel E (.tuple #[]) (.tuple #[]) := VRel.undef E

/-- A new row of cells. -/
theorem new_row {P : Program} {o : Oper} {h : Hp} {E : Emb} {base : Nat} {w : World} {a : Act} {next : Act → World → Prop} {Q : Exit → Act → World → Prop}
    {v : Value} {c : List Value} {ex : Bool} {es s : Nat} {C : Array Value} {ty : TypeId} {u : Nat → Value} (hr : HRel E base h w.heap)
    (hsz : c.length + s * es ≤ C.size) (hc : ∀ i, i < c.length → VRel E (c.getD i undef) (C.getD i undef)) (h1 : ∀ i, i < c.length → (c.getD i undef).oneCell' = true)
    (hex : ex = true → s = 0)
    (hrun : (execOp a.eval o).run P w = .ok (.value (u w.heap.size)) (w.alloc (.cells C ty)))
    (hv : ∀ E' : Emb, E'.D h.next → E'.blk h.next = w.heap.size → E'.off h.next = 0 → E'.slk h.next = s → (∀ x y, VRel E x y → VRel E' x y) → VRel E' v (u w.heap.size))
    (hn : ∀ E' w' v', Step E h w E' (h.alloc (.cells c true ex es)) w' → HRel E' base (h.alloc (.cells c true ex es)) w'.heap → VRel E' v v' → next (a.put o.dst v') w') : o.wp P a w next Q := by
  have hD : ∀ i, E.D i → (E.add h.next w.heap.size 0 s).D i ∧ (E.add h.next w.heap.size 0 s).blk i = E.blk i ∧ (E.add h.next w.heap.size 0 s).off i = E.off i ∧ (E.add h.next w.heap.size 0 s).slk i = E.slk i := fun i hd => by
    obtain ⟨a, b, c, d⟩ := E.add_ext h.next w.heap.size 0 s i (hr.lt i hd); exact ⟨a.2 hd, b, c, d⟩
  have hx : ORel (E.add h.next w.heap.size 0 s) base (w.alloc (.cells C ty)).heap h.next (.cells c true ex es) := by
    refine ⟨C, ty, (0, 0), ?_, ?_, ?_, h1, ?_, ?_⟩
    · show (w.heap.push (.cells C ty))[(E.add h.next w.heap.size 0 s).blk h.next]? = _
      simp [Emb.add]
    · simp [Emb.add]; exact hsz
    · intro i hi
      have := (hc i hi).mono hD
      simpa [Emb.add] using this
    · intro _; simp [Emb.add]; exact hr.le
    · intro e; simpa [Emb.add] using hex e
  obtain ⟨st, hr'⟩ := step_alloc (w' := w.alloc (.cells C ty)) hr (.cells c true ex es) (.cells C ty) s rfl rfl rfl ⟨rfl, Nat.le_refl _⟩ hx
  unfold Oper.wp
  rw [hrun]
  exact hn _ _ _ st hr' (hv _ (by simp [Emb.add]) (by simp [Emb.add]) (by simp [Emb.add]) (by simp [Emb.add]) (fun x y hxy => hxy.mono hD))

section
variable {P : Program} {o : Oper} {tm : Nat → Value} {h : Hp}

theorem toList_getD (c : Array Value) (i : Nat) : c.toList.getD i undef = c.getD i undef := by simp

theorem ok_alloc {e : TypeId} {z : Value} (ho : o.op = .alloc e) (hz : zeroT P e = some z) (hp : plainV z = true) (h1 : z.oneCell' = true ∨ ∃ cs, z = .agg cs) :
    OpOK P o tm h (.pointer (some ⟨h.next, 0, none⟩)) (h.alloc (.cells z.cells.toList true true 1)) := by
  intro E base w a next Q hr ht hn
  have hzr := VRel.ofV E hp
  refine new_row (u := fun b => .pointer (some ⟨b, 0, none⟩)) (s := 0) (C := z.cells) (ty := e) hr (by simp) ?_ ?_ (fun _ => rfl) ?_ ?_ hn
  · intro i hi; rw [toList_getD]; exact hzr.cells.2 i (by simpa using hi)
  · intro i hi
    rw [toList_getD]
    rcases h1 with h1 | ⟨cs, rfl⟩
    · have hc : z.cells = #[z] := by cases z <;> first | rfl | cases h1
      rw [hc] at hi ⊢
      have : i = 0 := by simp at hi; exact hi
      subst this; exact h1
    · cases hzr with | agg _ _ _ h1 _ => exact h1 i (by simpa [Value.cells] using hi)
  · simp [execOp, ho, Instr.alloc, run_zeroT hz, newVar, newRow]
  · intro E' hd hb hf hs _
    have := VRel.ptr (E := E') h.next 0 hd
    rwa [hb, hf] at this

theorem VRel.cells_one {E : Emb} {v v' : Value} (h : VRel E v v') (h1 : v.oneCell' = true ∨ ∃ cs, v = .agg cs) : ∀ i, i < v.cells.size → (v.cells.getD i Go.undef).oneCell' = true := by
  intro i hi
  rcases h1 with h1 | ⟨cs, rfl⟩
  · have hc : v.cells = #[v] := by cases v <;> first | rfl | cases h1
    rw [hc] at hi ⊢
    have : i = 0 := by simp at hi; exact hi
    subst this; exact h1
  · cases h with | agg _ _ _ h1 _ => exact h1 i hi

def notTup : Value → Bool
  | .tuple _ => false
  | _ => true
theorem notTup_iff {v : Value} (h : notTup v = true) : v.oneCell' = true ∨ ∃ cs, v = .agg cs := by
  cases v <;> first | exact .inl rfl | exact .inr ⟨_, rfl⟩ | cases h

theorem ok_box {e : TypeId} {x : Operand} (ho : o.op = .box e x) (hx : okX x = true) (h1 : notTup (ev tm x) = true) :
    OpOK P o tm h (.pointer (some ⟨h.next, 0, none⟩)) (h.alloc (.cells (ev tm x).cells.toList true true 1)) := by
  intro E base w a next Q hr ht hn
  have hv := mem_ops (x := x) hx (by rw [ho]; simp [Op.operands]) ht
  refine new_row (u := fun b => .pointer (some ⟨b, 0, none⟩)) (s := 0) (C := (a.eval x).cells) (ty := e) hr (by simp [hv.cells.1]) ?_ ?_ (fun _ => rfl) ?_ ?_ hn
  · intro i hi; rw [toList_getD]; exact hv.cells.2 i (by simpa using hi)
  · intro i hi; rw [toList_getD]; exact hv.cells_one (notTup_iff h1) i (by simpa using hi)
  · simp [execOp, ho, Instr.box, newVar, newRow]
  · intro E' hd hb hf hs _
    have := VRel.ptr (E := E') h.next 0 hd
    rwa [hb, hf] at this
end

/-! Stores. -/
theorem run_storeCells_eng {P : Program} (b : Nat) (ty : TypeId) : ∀ (vs : List Value) (i o : Nat) (w : World) (C : Array Value), w.heap[b]? = some (.cells C ty (0, 0)) → o + i + vs.length ≤ C.size →
    (∀ v ∈ vs, v.oneCell' = true) →
    ∃ w' C', (storeCells ⟨b, o, none⟩ vs i).run P w = .ok () w' ∧ w'.heap[b]? = some (.cells C' ty (0, 0)) ∧ C'.size = C.size ∧
      (∀ j, C'.getD j undef = if o + i ≤ j ∧ j < o + i + vs.length then vs.getD (j - (o + i)) undef else C.getD j undef) ∧
      w'.heap.size = w.heap.size ∧ (∀ b', b' ≠ b → w'.heap[b']? = w.heap[b']?) ∧ w'.os = w.os ∧ w'.tape = w.tape ∧ Qui w w'
  | [], i, o, w, C, hb, _, _ => ⟨w, C, rfl, hb, rfl, fun j => by rw [if_neg (by simp only [List.length_nil]; omega)], rfl, fun _ _ => rfl, rfl, rfl, Qui.refl _⟩
  | v :: r, i, o, w, C, hb, hs, h1 => by
    simp only [List.length_cons] at hs
    have hcell : w.cell? ⟨b, o + i, none⟩ = some (C.getD (o + i) undef) := by
      simp only [World.cell?, hb, Option.isSome_none]
      rw [Array.getD_eq_getD_getElem?, Array.getElem?_eq_getElem (by omega)]
      rfl
    have hfz : w.frozen? ⟨b, o + i, none⟩ = false := by simp [World.frozen?, hb]
    have hst : (store ((⟨b, o, none⟩ : Addr).add i) v).run P w = .ok () (w.setCell ⟨b, o + i, none⟩ v) := by
      rw [add_plain', run_store P w _ v _ (h1 v (by simp)), hcell]; simp [hfz]
    have hblt : b < w.heap.size := (Array.getElem?_eq_some_iff.1 hb).1
    have hb2 : (w.setCell ⟨b, o + i, none⟩ v).heap[b]? = some (.cells (C.setIfInBounds (o + i) v) ty (0, 0)) := by
      simp only [World.setCell, Array.getElem?_modify, if_true, hb, Option.map_some]
      simp
    obtain ⟨w', C', hrun, g1, g2, g3, g4, g5, g6, g7, g8⟩ := run_storeCells_eng (P := P) b ty r (i + 1) o (w.setCell ⟨b, o + i, none⟩ v) (C.setIfInBounds (o + i) v) hb2 (by simp; omega) (fun x hx => h1 x (by simp [hx]))
    refine ⟨w', C', ?_, g1, by simpa using g2, ?_, by rw [g4]; simp, ?_, g6, g7, ⟨g8.out, g8.drawn⟩⟩
    · simp only [storeCells, Sem.run_bind, hst, Result.andThen_ok, hrun]
    · intro j
      rw [g3 j]
      simp only [List.length_cons]
      by_cases hj : j = o + i
      · subst hj
        rw [if_neg (by omega), if_pos (by omega)]
        simp [Array.getD_eq_getD_getElem?, show o + i < C.size by omega]
      · have hne : (C.setIfInBounds (o + i) v).getD j undef = C.getD j undef := by
          simp [Array.getD_eq_getD_getElem?, Array.getElem?_setIfInBounds_ne (show o + i ≠ j by omega)]
        by_cases hin : o + (i + 1) ≤ j ∧ j < o + (i + 1) + r.length
        · rw [if_pos hin, if_pos (by omega)]
          have : j - (o + i) = (j - (o + (i + 1))) + 1 := by omega
          rw [this, List.getD_cons_succ]
        · rw [if_neg hin, if_neg (by omega), hne]
    · intro b' hb'
      rw [g5 b' hb']
      simp only [World.setCell, Array.getElem?_modify]
      rw [if_neg (by intro e; exact hb' e.symm)]

/-- The cells of an object with some of them written anew. -/
def putCells (c : List Value) (i : Nat) (vs : List Value) : List Value := c.take i ++ (vs ++ c.drop (i + vs.length))

theorem putCells_length {c : List Value} {i : Nat} {vs : List Value} (h : i + vs.length ≤ c.length) : (putCells c i vs).length = c.length := by
  simp [putCells]; omega

theorem putCells_getD {c : List Value} {i : Nat} {vs : List Value} (h : i + vs.length ≤ c.length) (j : Nat) :
    (putCells c i vs).getD j undef = if i ≤ j ∧ j < i + vs.length then vs.getD (j - i) undef else c.getD j undef := by
  unfold putCells
  simp only [List.getD_eq_getElem?_getD]
  by_cases h1 : j < i
  · rw [if_neg (by omega), List.getElem?_append_left (by simp; omega)]
    simp [h1]
  · rw [List.getElem?_append_right (by simp; omega)]
    have hl : (c.take i).length = i := by simp; omega
    rw [hl]
    by_cases h2 : j < i + vs.length
    · rw [if_pos (by omega), List.getElem?_append_left (by omega)]
    · rw [if_neg (by omega), List.getElem?_append_right (by omega), List.getElem?_drop]
      congr 2; omega

theorem putCells_one {c : List Value} {i : Nat} {v : Value} (h : i < c.length) : putCells c i [v] = c.set i v := by
  unfold putCells
  rw [List.set_eq_take_append_cons_drop, if_pos h]
  rfl

/-- Storing cells into an owned object. -/
theorem store_step {P : Program} {E : Emb} {base : Nat} {h : Hp} {w : World} (hr : HRel E base h w.heap) {p i : Nat} {c : List Value} {ex : Bool} {es : Nat} (hd : E.D p)
    (hg : h.get p = .cells c true ex es) {vs vs' : List Value} (hl : vs.length = vs'.length) (hi : i + vs.length ≤ c.length)
    (hv : ∀ j, j < vs.length → VRel E (vs.getD j undef) (vs'.getD j undef)) (h1 : ∀ j, j < vs.length → (vs.getD j undef).oneCell' = true) :
    ∃ w', (storeCells ⟨E.blk p, E.off p + i, none⟩ vs').run P w = .ok () w' ∧
      Step E h w E (h.put p (.cells (putCells c i vs) true ex es)) w' ∧ HRel E base (h.put p (.cells (putCells c i vs) true ex es)) w'.heap := by
  have h0 := hr.obj p hd
  rw [hg] at h0
  obtain ⟨C, ty, fz, g1, g2, g3, g4, g5, g6⟩ := h0
  obtain ⟨rfl, g7⟩ := g5 rfl
  have hone : ∀ v ∈ vs', v.oneCell' = true := by
    intro v hvm
    obtain ⟨j, hj, e⟩ := List.getElem_of_mem hvm
    have := hv j (by omega)
    have h2 := this.oneCell
    rw [h1 j (by omega)] at h2
    rw [List.getD_eq_getElem?_getD, List.getElem?_eq_getElem hj] at h2
    rw [← e]; exact h2
  obtain ⟨w', C', k1, k2, k3, k4, k5, k6, k7, k8, k9⟩ := run_storeCells_eng (P := P) (E.blk p) ty vs' 0 (E.off p + i) w C g1 (by omega) hone
  have hx : ORel E base w'.heap p (.cells (putCells c i vs) true ex es) := by
    refine ⟨C', ty, (0, 0), k2, ?_, ?_, ?_, fun _ => ⟨rfl, g7⟩, g6⟩
    · rw [putCells_length hi, k3]; exact g2
    · intro j hj
      rw [putCells_length hi] at hj
      rw [putCells_getD hi, k4]
      by_cases hin : i ≤ j ∧ j < i + vs.length
      · rw [if_pos hin, if_pos (by omega)]
        have := hv (j - i) (by omega)
        rwa [show E.off p + j - (E.off p + i + 0) = j - i by omega]
      · rw [if_neg hin, if_neg (by omega)]
        exact g3 j hj
    · intro j hj
      rw [putCells_length hi] at hj
      rw [putCells_getD hi]
      by_cases hin : i ≤ j ∧ j < i + vs.length
      · rw [if_pos hin]; exact h1 _ (by omega)
      · rw [if_neg hin]; exact g4 j hj
  obtain ⟨st, hr'⟩ := step_put hr p (.cells (putCells c i vs) true ex es) hd (by rw [hg]; rfl) k5 k6 k7 k8 k9 hx
  exact ⟨w', k1, st, hr'⟩

section
variable {P : Program} {o : Oper} {tm : Nat → Value} {h : Hp}

theorem ok_store {t : TypeId} {x y : Operand} {p i n : Nat} {c : List Value} {ex : Bool} {es : Nat} (ho : o.op = .store t x y) (hx : ev tm x = .pointer (some ⟨p, i, none⟩)) (hx' : okX x = true)
    (hy' : okX y = true) (hy : notTup (ev tm y) = true) (hg : h.get p = .cells c true ex es) (hs : szT P t = some n) (hn' : (ev tm y).cells.size = n) (hi : i + n ≤ c.length) :
    OpOK P o tm h undef (h.put p (.cells (putCells c i (ev tm y).cells.toList) true ex es)) := by
  intro E base w a next Q hr ht hn
  have hv := mem_ops (x := x) hx' (by rw [ho]; simp [Op.operands]) ht
  have hu := mem_ops (x := y) hy' (by rw [ho]; simp [Op.operands]) ht
  rw [hx] at hv
  obtain ⟨hd, e⟩ := hv.inv_ptr
  obtain ⟨w', k1, st, hr'⟩ := store_step (P := P) hr hd hg (i := i) (vs := (ev tm y).cells.toList) (vs' := (a.eval y).cells.toList) (by simp [hu.cells.1]) (by simp; omega)
    (fun j hj => by rw [toList_getD, toList_getD]; exact hu.cells.2 j (by simpa using hj)) (fun j hj => by rw [toList_getD]; exact hu.cells_one (notTup_iff hy) j (by simpa using hj))
  unfold Oper.wp
  have hrun : (execOp a.eval o).run P w = .ok .skip w' := by
    simp [execOp, ho, e, Instr.storeAt, Instr.sureAddr, storeVar, run_szT hs, ← hu.cells.1, hn', k1]
  rw [hrun]
  exact hn E w' undef st hr' (VRel.undef E)
end

end Go.Eng
end

section
namespace Go.Eng

/-- A struct's field: where it begins, how many cells it has, whether it is a struct or an array. -/
def fldT (P : Program) (s : TypeId) (f : Nat) : Option (Nat × Nat × Bool) :=
  match P.underlying s with
  | some (.struct fs) => match fs[f]? with
    | some fd => match szT P fd.type, aggT P fd.type with
      | some n, some b => some (fd.offset, n, b)
      | _, _ => none
    | none => none
  | _ => none

def elT (P : Program) (t : TypeId) : Option TypeId := match P.underlying t with | some (.slice e) => some e | _ => none
/-- An array's length and element. -/
def arT (P : Program) (t : TypeId) : Option (Nat × TypeId) := match P.underlying t with | some (.array n e) => some (n, e) | _ => none
def inT (P : Program) (t : TypeId) : Option IntKind := match P.underlying t with | some (.int k) => some k | _ => none

theorem elT_spec {P : Program} {t e : TypeId} (h : elT P t = some e) : P.underlying t = some (.slice e) := by
  unfold elT at h; split at h <;> simp_all
theorem arT_spec {P : Program} {t e : TypeId} {n : Nat} (h : arT P t = some (n, e)) : P.underlying t = some (.array n e) := by
  unfold arT at h; split at h <;> simp_all
theorem inT_spec {P : Program} {t : TypeId} {k : IntKind} (h : inT P t = some k) : P.underlying t = some (.int k) := by
  unfold inT at h; split at h <;> simp_all

theorem fldT_spec {P : Program} {s : TypeId} {f off n : Nat} {b : Bool} (h : fldT P s f = some (off, n, b)) :
    ∃ fs fd, P.underlying s = some (.struct fs) ∧ fs[f]? = some fd ∧ fd.offset = off ∧ szT P fd.type = some n ∧ aggT P fd.type = some b := by
  unfold fldT at h
  split at h
  · rename_i fs hs
    split at h
    · rename_i fd hf
      split at h
      · rename_i n' b' hn hb
        simp only [Option.some.injEq, Prod.mk.injEq] at h
        obtain ⟨rfl, rfl, rfl⟩ := h
        exact ⟨fs, fd, hs, hf, rfl, hn, hb⟩
      · cases h
    · cases h
  · cases h

section
variable {P : Program} {o : Oper} {tm : Nat → Value} {h : Hp}

theorem ok_fieldAddr {s : TypeId} {x : Operand} {p i f off n : Nat} {b : Bool} (ho : o.op = .fieldAddr s x f) (hx : ev tm x = .pointer (some ⟨p, i, none⟩)) (hx' : okX x = true)
    (hf : fldT P s f = some (off, n, b)) (hn : n ≠ 0) : OpOK P o tm h (.pointer (some ⟨p, i + off, none⟩)) h := by
  refine OpOK.pure fun E base w a hr ht => ?_
  have hv := mem_ops (x := x) hx' (by rw [ho]; simp [Op.operands]) ht
  rw [hx] at hv
  obtain ⟨hd, e⟩ := hv.inv_ptr
  obtain ⟨fs, fd, h1, h2, h3, h4, h5⟩ := fldT_spec hf
  refine ⟨.pointer (some ⟨E.blk p, E.off p + (i + off), none⟩), .ptr p (i + off) hd, ?_⟩
  simp [execOp, ho, e, Instr.fieldAt, run_underlying h1, h2, Instr.sureAddr, fieldPlace, run_szT h4, hn, h3, add_plain', Nat.add_assoc]

theorem getD_extract {c : Array Value} {a b i : Nat} (hi : i < b - a) (hb : b ≤ c.size) : (c.extract a b).getD i undef = c.getD (a + i) undef := by
  rw [Array.getD_eq_getD_getElem?, Array.getD_eq_getD_getElem?, Array.getElem?_extract]
  rw [if_pos (by omega)]

theorem getD_some {c : Array Value} {i : Nat} (hi : i < c.size) : ∃ z, c[i]? = some z ∧ c.getD i undef = z :=
  ⟨c[i], by rw [Array.getElem?_eq_getElem hi], by rw [Array.getD_eq_getD_getElem?, Array.getElem?_eq_getElem hi]; rfl⟩

/-- What a struct's field is. -/
def partV (b : Bool) (cs : Array Value) (off n : Nat) : Value := if b then .agg (cs.extract off (off + n)) else cs.getD off undef

theorem run_part_eng {E : Emb} {w : World} {cs cs' : Array Value} {t : TypeId} {off n : Nat} {b : Bool} (hv : VRel E (.agg cs) (.agg cs')) (hs : szT P t = some n) (hb : aggT P t = some b)
    (hi : off + n ≤ cs.size) (hn : n ≠ 0) : ∃ v', VRel E (partV b cs off n) v' ∧ (part t cs' off).run P w = .ok v' w := by
  have hsz : cs.size = cs'.size ∧ (∀ i, i < cs.size → (cs.getD i undef).oneCell' = true) ∧ ∀ i, i < cs.size → VRel E (cs.getD i undef) (cs'.getD i undef) := by
    cases hv; exact ⟨by assumption, by assumption, by assumption⟩
  obtain ⟨g1, g2, g3⟩ := hsz
  cases b with
  | true =>
    refine ⟨.agg (cs'.extract off (off + n)), ?_, by simp [part, run_aggT hb, run_szT hs]⟩
    refine .agg _ _ (by simp; omega) ?_ ?_
    · intro i hi'
      simp at hi'
      rw [getD_extract (by omega) (by omega)]
      exact g2 _ (by omega)
    · intro i hi'
      simp at hi'
      rw [getD_extract (by omega) (by omega), getD_extract (by omega) (by omega)]
      exact g3 _ (by omega)
  | false =>
    obtain ⟨z, hz, hz'⟩ := getD_some (c := cs') (i := off) (by omega)
    refine ⟨z, hz' ▸ g3 off (by omega), ?_⟩
    simp [part, run_aggT hb, hz]

theorem VRel.inv_agg {E : Emb} {cs : Array Value} {v' : Value} (h : VRel E (.agg cs) v') : ∃ cs', v' = .agg cs' := by cases h; exact ⟨_, rfl⟩

theorem ok_field {s : TypeId} {x : Operand} {f off n : Nat} {b : Bool} {cs : Array Value} (ho : o.op = .field s x f) (hx : ev tm x = .agg cs) (hx' : okX x = true)
    (hf : fldT P s f = some (off, n, b)) (hn : n ≠ 0) (hi : off + n ≤ cs.size) : OpOK P o tm h (partV b cs off n) h := by
  refine OpOK.pure fun E base w a hr ht => ?_
  have hv := mem_ops (x := x) hx' (by rw [ho]; simp [Op.operands]) ht
  rw [hx] at hv
  obtain ⟨cs', e⟩ := hv.inv_agg
  rw [e] at hv
  obtain ⟨fs, fd, h1, h2, h3, h4, h5⟩ := fldT_spec hf
  obtain ⟨v', k1, k2⟩ := run_part_eng (P := P) (w := w) (t := fd.type) hv h4 h5 hi hn
  exact ⟨v', k1, by simp [execOp, ho, e, Instr.field, run_underlying h1, h2, asAgg, h3, k2]⟩

theorem ok_indexAddr {t e : TypeId} {x y : Operand} {p i n c m : Nat} {k : IntKind} {j : Int} (ho : o.op = .indexAddr t x y) (hx : ev tm x = .slice (some ⟨p, i, none⟩) n c) (hx' : okX x = true)
    (hy : ev tm y = .int k j) (hy' : okX y = true) (ht' : elT P t = some e) (hs : szT P e = some m) (h0 : 0 ≤ j) (h1 : j < n) :
    OpOK P o tm h (.pointer (some ⟨p, i + j.toNat * m, none⟩)) h := by
  refine OpOK.pure fun E base w a hr ht => ?_
  have hv := mem_ops (x := x) hx' (by rw [ho]; simp [Op.operands]) ht
  have hu := mem_ops (x := y) hy' (by rw [ho]; simp [Op.operands]) ht
  rw [hx] at hv
  rw [hy] at hu
  obtain ⟨hnc, s, ad, ev, hq⟩ := hv.inv_slice
  obtain ⟨hd, hs', had⟩ := hq.resolve_right (fun h => h)
  have had : ad = ⟨E.blk p, E.off p + i, none⟩ := had.resolve_left (by omega)
  subst had
  refine ⟨.pointer (some ⟨E.blk p, E.off p + (i + j.toNat * m), none⟩), .ptr p _ hd, ?_⟩
  have hb : 0 ≤ j ∧ j < n := ⟨h0, h1⟩
  simp [execOp, ho, ev, hu.inv_int, Instr.indexAt, asIntOf, run_underlying (elT_spec ht'), run_szT hs, hb, add_plain', Nat.add_assoc]

theorem ok_indexAddrA {t e : TypeId} {x y : Operand} {p i n m : Nat} {k : IntKind} {j : Int} (ho : o.op = .indexAddr t x y) (hx : ev tm x = .pointer (some ⟨p, i, none⟩)) (hx' : okX x = true)
    (hy : ev tm y = .int k j) (hy' : okX y = true) (ht' : arT P t = some (n, e)) (hs : szT P e = some m) (h0 : 0 ≤ j) (h1 : j < n) :
    OpOK P o tm h (.pointer (some ⟨p, i + j.toNat * m, none⟩)) h := by
  refine OpOK.pure fun E base w a hr ht => ?_
  have hv := mem_ops (x := x) hx' (by rw [ho]; simp [Op.operands]) ht
  have hu := mem_ops (x := y) hy' (by rw [ho]; simp [Op.operands]) ht
  rw [hx] at hv
  rw [hy] at hu
  obtain ⟨hd, ev⟩ := hv.inv_ptr
  refine ⟨.pointer (some ⟨E.blk p, E.off p + (i + j.toNat * m), none⟩), .ptr p _ hd, ?_⟩
  have hb : 0 ≤ j ∧ j < n := ⟨h0, h1⟩
  simp [execOp, ho, ev, hu.inv_int, Instr.indexAt, asIntOf, run_underlying (arT_spec ht'), run_szT hs, hb, add_plain', Nat.add_assoc, Instr.sureAddr]

/-- An array's element, the array a value. -/
theorem ok_indexA {t e : TypeId} {x y : Operand} {n m : Nat} {b : Bool} {k : IntKind} {j : Int} {cs : Array Value} (ho : o.op = .index t x y) (hx : ev tm x = .agg cs) (hx' : okX x = true)
    (hy : ev tm y = .int k j) (hy' : okX y = true) (ht' : arT P t = some (n, e)) (hs : szT P e = some m) (hb : aggT P e = some b) (h0 : 0 ≤ j) (h1 : j < n) (hm : m ≠ 0) (hi : j.toNat * m + m ≤ cs.size) :
    OpOK P o tm h (partV b cs (j.toNat * m) m) h := by
  refine OpOK.pure fun E base w a hr ht => ?_
  have hv := mem_ops (x := x) hx' (by rw [ho]; simp [Op.operands]) ht
  have hu := mem_ops (x := y) hy' (by rw [ho]; simp [Op.operands]) ht
  rw [hx] at hv
  rw [hy] at hu
  obtain ⟨cs', e⟩ := hv.inv_agg
  rw [e] at hv
  obtain ⟨v', k1, k2⟩ := run_part_eng (P := P) (w := w) hv hs hb hi hm
  have hbd : 0 ≤ j ∧ j < n := ⟨h0, h1⟩
  exact ⟨v', k1, by simp [execOp, ho, e, hu.inv_int, Instr.index, asIntOf, run_underlying (arT_spec ht'), run_szT hs, hbd, k2]⟩

theorem ok_indexS {t : TypeId} {x y : Operand} {k : IntKind} {j : Int} {s : ByteArray} (ho : o.op = .index t x y) (hx : ev tm x = .string s) (hx' : okX x = true)
    (hy : ev tm y = .int k j) (hy' : okX y = true) (ht' : P.underlying t = some .string) (h0 : 0 ≤ j) (h1 : j.toNat < s.size) :
    OpOK P o tm h (.int .u8 (s[j.toNat].toNat : Int)) h := by
  refine OpOK.pure fun E base w a hr ht => ?_
  have hv := mem_ops (x := x) hx' (by rw [ho]; simp [Op.operands]) ht
  have hu := mem_ops (x := y) hy' (by rw [ho]; simp [Op.operands]) ht
  rw [hx] at hv
  rw [hy] at hu
  refine ⟨_, .int _ _, ?_⟩
  simp [execOp, ho, hv.inv_string, hu.inv_int, Instr.index, asIntOf, run_underlying ht', h0, h1]

theorem ok_extract {x : Operand} {i : Nat} {vs : Array Value} (ho : o.op = .extract x i) (hx : ev tm x = .tuple vs) (hx' : okX x = true) (hi : i < vs.size) : OpOK P o tm h (vs.getD i undef) h := by
  refine OpOK.pure fun E base w a hr ht => ?_
  have hv := mem_ops (x := x) hx' (by rw [ho]; simp [Op.operands]) ht
  rw [hx] at hv
  generalize hav : a.eval x = v' at hv
  cases hv with
  | tuple _ cs' hs hh =>
    obtain ⟨z, hz, hz'⟩ := getD_some (c := cs') (i := i) (by omega)
    refine ⟨z, hz' ▸ hh i hi, ?_⟩
    simp [execOp, ho, hav, Instr.extract, hz]

theorem ok_makeFunc {fn : Fn} {f c : Array Operand} (ho : o.op = .makeFunc fn f c) (hf : f.all okX = true) (hc : c.all okX = true) :
    OpOK P o tm h (.func fn (f.map (ev tm)) (c.map (ev tm))) h := by
  refine OpOK.pure fun E base w a hr ht => ⟨.func fn (f.map a.eval) (c.map a.eval), ?_, by simp [execOp, ho, Instr.makeFunc]⟩
  have key : ∀ (l : Array Operand), l.all okX = true → (∀ x ∈ l, x ∈ o.op.operands) → ∀ i, i < (l.map (ev tm)).size → VRel E ((l.map (ev tm)).getD i undef) ((l.map a.eval).getD i undef) := by
    intro l hl hm i hi
    simp at hi
    have e1 : (l.map (ev tm)).getD i undef = ev tm l[i] := by simp [Array.getD_eq_getD_getElem?, hi]
    have e2 : (l.map a.eval).getD i undef = a.eval l[i] := by simp [Array.getD_eq_getD_getElem?, hi]
    rw [e1, e2]
    rw [Array.all_eq_true] at hl
    exact mem_ops (hl i hi) (hm _ (Array.getElem_mem hi)) ht
  exact .func _ _ _ _ _ (by simp) (by simp) (key f hf (fun x hx => by rw [ho]; simp [Op.operands, hx])) (key c hc (fun x hx => by rw [ho]; simp [Op.operands, hx]))

end

/-! Arithmetic on integers. -/
def intBin (op : BinOp) (k : IntKind) (x y : Int) : Option Value :=
  match op with
  | .add => some (.int k (k.wrap (x + y)))
  | .sub => some (.int k (k.wrap (x - y)))
  | .mul => some (.int k (k.wrap (x * y)))
  | .quo => if y = 0 then none else some (.int k (k.wrap (x.tdiv y)))
  | .rem => if y = 0 then none else some (.int k (x.tmod y))
  | .and => some (.int k (k.wrap (BitVec.ofInt k.bits x &&& BitVec.ofInt k.bits y).toNat))
  | .or => some (.int k (k.wrap (BitVec.ofInt k.bits x ||| BitVec.ofInt k.bits y).toNat))
  | .xor => some (.int k (k.wrap (BitVec.ofInt k.bits x ^^^ BitVec.ofInt k.bits y).toNat))
  | .andNot => some (.int k (k.wrap (BitVec.ofInt k.bits x &&& ~~~(BitVec.ofInt k.bits y)).toNat))
  | .eql => some (.bool (x == y))
  | .neq => some (.bool (x != y))
  | .lss => some (.bool (x < y))
  | .leq => some (.bool (x ≤ y))
  | .gtr => some (.bool (x > y))
  | .geq => some (.bool (x ≥ y))
  | _ => none

def shiftV (op : BinOp) (k : IntKind) (x y : Int) : Option Value :=
  if y < 0 then none else
  match op with
  | .shl => some (.int k (k.wrap (x * 2 ^ min y.toNat k.bits)))
  | .shr => some (.int k (x.fdiv (2 ^ min y.toNat k.bits)))
  | _ => none

def strBin (op : BinOp) (x y : ByteArray) : Option Value :=
  match op with
  | .add => if ((x.size + y.size : Nat) : Int) > IntKind.i64.max then none else some (.string (x ++ y))
  | .eql => some (.bool (x.toList == y.toList))
  | .neq => some (.bool !(x.toList == y.toList))
  | .lss => some (.bool (Op.bytesLess x.toList y.toList))
  | .leq => some (.bool (Op.bytesLess x.toList y.toList || x.toList == y.toList))
  | .gtr => some (.bool !(Op.bytesLess x.toList y.toList || x.toList == y.toList))
  | .geq => some (.bool !(Op.bytesLess x.toList y.toList))
  | _ => none

def isShift : BinOp → Bool
  | .shl | .shr => true
  | _ => false

def binV (op : BinOp) (x y : Value) : Option Value :=
  match x, y with
  | .int k a, .int k' b => if isShift op = true then shiftV op k a b else if k ≠ k' then none else intBin op k a b
  | .string a, .string b => strBin op a b
  | _, _ => none

theorem plain_bin {op : BinOp} {k : IntKind} {x y : Int} {r : Value} (h : intBin op k x y = some r) : plainS r = true := by
  cases op <;> simp [intBin] at h <;> first | (obtain ⟨_, rfl⟩ := h; rfl) | (subst h; rfl)
theorem plain_shift {op : BinOp} {k : IntKind} {x y : Int} {r : Value} (h : shiftV op k x y = some r) : plainS r = true := by
  unfold shiftV at h
  split at h
  · cases h
  · cases op <;> simp at h <;> (subst h; rfl)
theorem plain_str {op : BinOp} {x y : ByteArray} {r : Value} (h : strBin op x y = some r) : plainS r = true := by
  cases op <;> simp [strBin] at h <;> first | (obtain ⟨_, rfl⟩ := h; rfl) | (subst h; rfl)

theorem run_binV {P : Program} {w : World} {op : BinOp} {t : TypeId} {u v : Value} {x y : Operand} {r : Value} (h : binV op u v = some r) :
    plainS r = true ∧ ((do eqGuard op t x y u v; binOp op t u v : Sem Value)).run P w = .ok r w := by
  unfold binV at h
  split at h
  · rename_i k a k' b
    have hg : (eqGuard op t x y (.int k a) (.int k' b)).run P w = .ok () w := by
      unfold eqGuard; split <;> rfl
    by_cases hsh : isShift op = true
    · rw [if_pos hsh] at h
      refine ⟨plain_shift h, ?_⟩
      unfold shiftV at h
      split at h
      · cases h
      · rename_i hb
        cases op <;> simp [isShift] at hsh <;> simp at h <;> subst h <;> simp [hg, binOp, Op.shift, hb]
    · rw [if_neg hsh] at h
      by_cases hk : k = k'
      · subst hk
        simp only [ne_eq, not_true_eq_false, if_false] at h
        refine ⟨plain_bin h, ?_⟩
        cases op <;> simp [isShift] at hsh <;> simp [intBin] at h <;>
          first
            | (obtain ⟨h0, rfl⟩ := h; simp [hg, binOp, Op.intDiv, h0])
            | (subst h; simp [hg, binOp, Op.intArith, Op.intBits, Op.intCmp])
      · rw [if_pos hk] at h; cases h
  · rename_i a b
    have hg : (eqGuard op t x y (.string a) (.string b)).run P w = .ok () w := by
      unfold eqGuard; split <;> rfl
    refine ⟨plain_str h, ?_⟩
    cases op <;> simp [strBin] at h <;>
      first
        | (obtain ⟨h0, rfl⟩ := h; simp [hg, binOp, Op.stringOp]; omega)
        | (subst h; simp [hg, binOp, Op.stringOp])
  · cases h

section
variable {P : Program} {o : Oper} {tm : Nat → Value} {h : Hp}

theorem ok_binOp {op : BinOp} {t t' : TypeId} {x y : Operand} {r : Value} (ho : o.op = .binOp op t x y t') (hx' : okX x = true) (hy' : okX y = true) (hb : binV op (ev tm x) (ev tm y) = some r) :
    OpOK P o tm h r h := by
  refine OpOK.pure fun E base w a hr ht => ?_
  have hv := mem_ops (x := x) hx' (by rw [ho]; simp [Op.operands]) ht
  have hu := mem_ops (x := y) hy' (by rw [ho]; simp [Op.operands]) ht
  have e : a.eval x = ev tm x ∧ a.eval y = ev tm y := by
    unfold binV at hb
    split at hb
    · rename_i h1 h2
      rw [h1] at hv ⊢; rw [h2] at hu ⊢
      exact ⟨hv.inv_int, hu.inv_int⟩
    · rename_i h1 h2
      rw [h1] at hv ⊢; rw [h2] at hu ⊢
      exact ⟨hv.inv_string, hu.inv_string⟩
    · cases hb
  obtain ⟨h1, h2⟩ := run_binV (P := P) (w := w) (t := t) (x := x) (y := y) hb
  refine ⟨r, .ofS E h1, ?_⟩
  have h2' := h2
  rw [Sem.run_bind] at h2'
  simp only [execOp, ho, e.1, e.2]
  rw [Sem.run_bind, h2]
  rfl
end

end Go.Eng
end

section
namespace Go.Eng

section
variable {P : Program} {o : Oper} {tm : Nat → Value} {h : Hp}

def unV (op : UnOp) (x : Value) : Option Value :=
  match op, x with
  | .neg, .int k n => some (.int k (k.wrap (0 - n)))
  | .xor, .int k n => intBin .xor k (if k.signed then -1 else k.max) n
  | .not, .bool b => some (.bool !b)
  | _, _ => none

theorem ok_unOp {op : UnOp} {t : TypeId} {x : Operand} {r : Value} (ho : o.op = .unOp op t x) (hx' : okX x = true) (hb : unV op (ev tm x) = some r) : OpOK P o tm h r h := by
  refine OpOK.pure fun E base w a hr ht => ?_
  have hv := mem_ops (x := x) hx' (by rw [ho]; simp [Op.operands]) ht
  unfold unV at hb
  split at hb
  · rename_i h1; rw [h1] at hv; injection hb with hb; subst hb
    exact ⟨_, .int _ _, by simp [execOp, ho, hv.inv_int, Op.unary, Op.intArith]⟩
  · rename_i k n h1; rw [h1] at hv
    simp only [intBin, Option.some.injEq] at hb; subst hb
    exact ⟨_, .int _ _, by simp [execOp, ho, hv.inv_int, Op.unary, Op.intBits]⟩
  · rename_i h1; rw [h1] at hv; injection hb with hb; subst hb
    exact ⟨_, .bool _, by simp [execOp, ho, hv.inv_bool, Op.unary]⟩
  · cases hb

theorem ok_convInt {s d : TypeId} {x : Operand} {k k' : IntKind} {n : Int} (ho : o.op = .convert s d x) (hx : ev tm x = .int k n) (hx' : okX x = true)
    (hs : (P.underlying s).isSome = true) (hd : inT P d = some k') : OpOK P o tm h (.int k' (k'.wrap n)) h := by
  refine OpOK.pure fun E base w a hr ht => ?_
  have hv := mem_ops (x := x) hx' (by rw [ho]; simp [Op.operands]) ht
  rw [hx] at hv
  obtain ⟨ds, hds⟩ := Option.isSome_iff_exists.mp hs
  exact ⟨_, .int _ _, by simp [execOp, ho, hv.inv_int, convert, run_underlying hds, run_underlying (inT_spec hd), Conv.intToInt]⟩

/-! Comparisons that look at no memory. -/
def eqV (P : Program) (t : TypeId) (x y : Value) : Option Bool :=
  match P.underlying t, x, y with
  | some .bool, .bool a, .bool b => some (a == b)
  | some (.slice _), .slice none _ _, .slice b _ _ => some b.isNone
  | some (.slice _), .slice (some _) _ _, .slice none _ _ => some false
  | some (.interface _), .nilIface, .iface _ _ => some false
  | some (.interface _), .iface _ _, .nilIface => some false
  | some (.interface _), .nilIface, .nilIface => some true
  | some (.map _ _), .map none, .map b => some b.isNone
  | some (.map _ _), .map (some _), .map none => some false
  | some (.pointer _), .pointer none, .pointer b => some b.isNone
  | some (.pointer _), .pointer (some _), .pointer none => some false
  | some (.func _ _ _), .nilFunc, .nilFunc => some true
  | some (.func _ _ _), .nilFunc, .func _ _ _ => some false
  | some (.func _ _ _), .func _ _ _, .nilFunc => some false
  | _, _, _ => none

def isC : Operand → Bool
  | .const _ => true
  | _ => false

/-- No nil of an interface. -/
def nIf : Value → Bool
  | .nilIface => false
  | _ => true
theorem VRel.nIf {E : Emb} {u u' : Value} (h : VRel E u u') : nIf u' = nIf u := by cases h <;> rfl

theorem run_eqV {E : Emb} {w : World} {t : TypeId} {u v u' v' : Value} {b : Bool} (hu : VRel E u u') (hv : VRel E v v') (h : eqV P t u v = some b) :
    (Op.equal t u' v').run P w = .ok b w := by
  unfold eqV at h
  unfold Op.equal
  obtain ⟨d, hd⟩ : ∃ d, Op.maxDepth = d + 1 := ⟨9999, rfl⟩
  rw [hd]
  clear hd
  split at h <;> first
    | (rename_i hk; injection h with h; subst h; cases hu <;> cases hv <;> simp [Op.equalIn, run_underlying hk])
    | cases h

theorem binOp_eq_other {t : TypeId} {u v : Value} (h : ∀ k n, u ≠ .int k n) (h2 : ∀ s, u ≠ .string s) (h3 : ∀ k b, u ≠ .float k b) (h4 : ∀ k b c, u ≠ .complex k b c) :
    binOp .eql t u v = (do pure (.bool (← Op.equal t u v)) : Sem Value) := by
  unfold binOp
  split <;> simp_all

theorem binOp_neq_other {t : TypeId} {u v : Value} (h : ∀ k n, u ≠ .int k n) (h2 : ∀ s, u ≠ .string s) (h3 : ∀ k b, u ≠ .float k b) (h4 : ∀ k b c, u ≠ .complex k b c) :
    binOp .neq t u v = (do pure (.bool (!(← Op.equal t u v))) : Sem Value) := by
  unfold binOp
  split <;> simp_all

theorem eqV_left {t : TypeId} {u v : Value} {b : Bool} (h : eqV P t u v = some b) : (∀ k n, u ≠ .int k n) ∧ (∀ s, u ≠ .string s) ∧ (∀ k b, u ≠ .float k b) ∧ (∀ k b c, u ≠ .complex k b c) ∧ (∀ c, u ≠ .agg c) := by
  refine ⟨?_, ?_, ?_, ?_, ?_⟩ <;> intros <;> intro e <;> subst e <;> simp [eqV] at h

theorem VRel.shape {E : Emb} {u u' : Value} (h : VRel E u u') (g : (∀ k n, u ≠ .int k n) ∧ (∀ s, u ≠ .string s) ∧ (∀ k b, u ≠ .float k b) ∧ (∀ k b c, u ≠ .complex k b c) ∧ (∀ c, u ≠ .agg c)) :
    (∀ k n, u' ≠ .int k n) ∧ (∀ s, u' ≠ .string s) ∧ (∀ k b, u' ≠ .float k b) ∧ (∀ k b c, u' ≠ .complex k b c) ∧ (∀ c, u' ≠ .agg c) := by
  cases h <;> simp_all

theorem run_guard {w : World} {op : BinOp} {t : TypeId} {x y : Operand} {u v : Value} (h : ∀ c, u ≠ .agg c) (hc : isC x = true ∨ isC y = true ∨ nIf u = true) :
    (eqGuard op t x y u v).run P w = .ok () w := by
  unfold eqGuard
  cases hop : op <;> simp <;> split <;> simp_all <;> (rcases hc with hc | hc | hc <;> (cases x <;> cases y <;> simp_all [isC, nIf]))

theorem ok_eq {t t' : TypeId} {x y : Operand} {b : Bool} (ho : o.op = .binOp .eql t x y t') (hx' : okX x = true) (hy' : okX y = true) (hb : eqV P t (ev tm x) (ev tm y) = some b)
    (hc : isC x = true ∨ isC y = true ∨ nIf (ev tm x) = true) : OpOK P o tm h (.bool b) h := by
  refine OpOK.pure fun E base w a hr ht => ⟨_, .bool b, ?_⟩
  have hv := mem_ops (x := x) hx' (by rw [ho]; simp [Op.operands]) ht
  have hu := mem_ops (x := y) hy' (by rw [ho]; simp [Op.operands]) ht
  obtain ⟨h1, h2, h3, h4, h5⟩ := hv.shape (eqV_left hb)
  simp [execOp, ho, run_guard h5 (by rw [hv.nIf]; exact hc), binOp_eq_other h1 h2 h3 h4, run_eqV hv hu hb]

theorem ok_neq {t t' : TypeId} {x y : Operand} {b : Bool} (ho : o.op = .binOp .neq t x y t') (hx' : okX x = true) (hy' : okX y = true) (hb : eqV P t (ev tm x) (ev tm y) = some b)
    (hc : isC x = true ∨ isC y = true ∨ nIf (ev tm x) = true) : OpOK P o tm h (.bool !b) h := by
  refine OpOK.pure fun E base w a hr ht => ⟨_, .bool !b, ?_⟩
  have hv := mem_ops (x := x) hx' (by rw [ho]; simp [Op.operands]) ht
  have hu := mem_ops (x := y) hy' (by rw [ho]; simp [Op.operands]) ht
  obtain ⟨h1, h2, h3, h4, h5⟩ := hv.shape (eqV_left hb)
  simp [execOp, ho, run_guard h5 (by rw [hv.nIf]; exact hc), binOp_neq_other h1 h2 h3 h4, run_eqV hv hu hb]

/-! make([]T, n) -/
def zcells (z : Value) (n : Nat) : List Value := (List.range (n * z.cells.size)).map fun i => z.cells.getD (i % z.cells.size) undef

theorem zcells_one {z : Value} (h : z.cells = #[z]) (n : Nat) : zcells z n = List.replicate n z := by
  unfold zcells
  rw [h]
  apply List.ext_getElem
  · simp
  · intro i h1 h2
    simp [Nat.mod_one]

theorem ok_makeSlice {t e : TypeId} {x y : Operand} {z : Value} {n c m b : Nat} {k k' : IntKind} (ho : o.op = .makeSlice t x y) (hx : ev tm x = .int k n) (hx' : okX x = true)
    (hy : ev tm y = .int k' c) (hy' : okX y = true) (ht' : elT P t = some e) (hz : zeroT P e = some z) (hm : szT P e = some m) (hzm : z.cells.size = m) (hbt : byT P e = some b)
    (hp : plainV z = true) (hz1 : notTup z = true) (hnc : n ≤ c) (hc : c < 2 ^ 47) (hcb : b * c ≤ 2 ^ 48) :
    OpOK P o tm h (.slice (some ⟨h.next, 0, none⟩) n c) (h.alloc (.cells (zcells z c) true true m)) := by
  intro E base w a next Q hr ht hn
  have hv := mem_ops (x := x) hx' (by rw [ho]; simp [Op.operands]) ht
  have hu := mem_ops (x := y) hy' (by rw [ho]; simp [Op.operands]) ht
  rw [hx] at hv
  rw [hy] at hu
  have hzr := VRel.ofV E hp
  have hsz : ∀ i, i < (zcells z c).length → i % z.cells.size < z.cells.size := by
    intro i hi
    simp [zcells] at hi
    exact Nat.mod_lt _ (Nat.pos_of_ne_zero (fun e => by rw [e] at hi; simp at hi))
  have hgd : ∀ i, i < (zcells z c).length → (zcells z c).getD i undef = z.cells.getD (i % z.cells.size) undef := by
    intro i hi
    have hi' := hi
    simp [zcells] at hi'
    simp [zcells, List.getD, hi']
  have hwl : ∀ q : Nat, q < 2 ^ 47 → IntKind.i64.wrap (q : Int) = q := by
    intro q hq
    simp only [IntKind.wrap, IntKind.bits, IntKind.signed]
    simp
    omega
  refine new_row (u := fun b => .slice (some ⟨b, 0, none⟩) n c) (s := 0) (C := (Array.range (c * m)).map (z.cells[· % z.cells.size]!)) (ty := e) hr ?_ ?_ ?_ (fun _ => rfl) ?_ ?_ hn
  · simp [zcells, hzm]
  · intro i hi
    rw [hgd i hi]
    have h2 := hsz i hi
    have hi' := hi
    simp [zcells, hzm] at hi'
    have : ((Array.range (c * m)).map (z.cells[· % z.cells.size]!)).getD i undef = z.cells.getD (i % z.cells.size) undef := by
      rw [Array.getD_eq_getD_getElem?, Array.getElem?_map, Array.getElem?_range, if_pos hi']
      simp [h2]
    rw [this]
    exact hzr.cells.2 _ h2
  · intro i hi
    rw [hgd i hi]
    exact hzr.cells_one (notTup_iff hz1) _ (hsz i hi)
  · have hl := hwl n (by omega)
    have hcc := hwl c hc
    have h1 : ¬ ((281474976710656 : Int) < (b : Int) * (c : Int)) := by
      have h2 : (((b * c : Nat)) : Int) ≤ ((281474976710656 : Nat) : Int) := Int.ofNat_le.2 hcb
      rw [Int.natCast_mul] at h2
      omega
    cases hi : P.info? e with
    | none => simp [szT, hi] at hm
    | some inf =>
      have hib : inf.bytes = b := by simpa [byT, hi] using hbt
      have his : inf.size = m := by simpa [szT, hi] using hm
      have hiz : inf.zero = some z := by simpa [zeroT, hi] using hz
      simp [execOp, ho, hv.inv_int, hu.inv_int, Instr.makeSlice, run_underlying (elT_spec ht'), asInt, asIntOf, typeInfo, hi, hib, his, hl, hcc, sizeOf, zeroValue, hiz, newRow, show ¬ (c < n) by omega, h1, show ¬ ((c : Int) < 0) by omega, show ¬ ((n : Int) < 0) by omega]
      intro h0
      rw [h0, show Array.range 0 = #[] from Array.ext (by simp) (fun i h _ => absurd h (by simp))]; simp
  · intro E' hd hb hf hs _
    have := VRel.slice (E := E') h.next 0 n c ⟨w.heap.size, 0, none⟩ hd hnc (.inr (by rw [hb, hf]))
    rwa [hs] at this
end
end Go.Eng
end

section
namespace Go.Eng

section
variable {P : Program} {o : Oper} {tm : Nat → Value} {h : Hp}

/-- A bound of a slice expression. -/
def bnd (tm : Nat → Value) (d : Nat) : Option Operand → Option Nat
  | none => some d
  | some x => match ev tm x with
    | .int _ i => if 0 ≤ i then some i.toNat else none
    | _ => none
def okO : Option Operand → Bool
  | none => true
  | some x => okX x

theorem bnd_rel {E : Emb} {a : Act} {d l : Nat} {x : Option Operand} (hx : okO x = true) (hm : ∀ y, x = some y → y ∈ o.op.operands)
    (ht : ∀ t, Operand.tmp t ∈ o.op.operands → VRel E (tm t) (a.tmps.getD t undef)) (hb : bnd tm d x = some l) :
    (x = none ∧ l = d) ∨ ∃ y k i, x = some y ∧ a.eval y = .int k i ∧ 0 ≤ i ∧ i.toNat = l := by
  cases x with
  | none => left; simp [bnd] at hb; exact ⟨rfl, hb.symm⟩
  | some y =>
    right
    have hv := mem_ops (x := y) hx (hm y rfl) ht
    simp only [bnd] at hb
    split at hb
    · rename_i k i he
      rw [he] at hv
      split at hb
      · rename_i h0
        simp only [Option.some.injEq] at hb
        exact ⟨y, k, i, rfl, hv.inv_int, h0, hb⟩
      · cases hb
    · cases hb

theorem run_sliceBound {w : World} {k : IntKind} {i : Int} {y n : Nat} {code : BoundsCode} (h0 : 0 ≤ i) (h1 : i ≤ y) (e : i.toNat = n) : (Instr.sliceBound (.int k i) y code).run P w = .ok n w := by
  have : 0 ≤ i ∧ i ≤ (y : Int) := ⟨h0, h1⟩
  simp [Instr.sliceBound, asIntOf, this, e]

theorem run_sliceBounds {w : World} {ρ : Operand → Value} {b : Bool} {len cap l r : Nat} {lo hi : Option Operand}
    (hL : (lo = none ∧ l = 0) ∨ ∃ y k i, lo = some y ∧ ρ y = .int k i ∧ 0 ≤ i ∧ i.toNat = l) (hR : (hi = none ∧ r = len) ∨ ∃ y k i, hi = some y ∧ ρ y = .int k i ∧ 0 ≤ i ∧ i.toNat = r)
    (h1 : l ≤ r) (h2 : r ≤ cap) : (Instr.sliceBounds b len cap (lo.map ρ) (hi.map ρ) none).run P w = .ok (l, r, cap) w := by
  rcases hR with ⟨rfl, rfl⟩ | ⟨y, k, j, rfl, e1, e2, e3⟩ <;> rcases hL with ⟨rfl, rfl⟩ | ⟨y', k', j', rfl, e1', e2', e3'⟩
  · simp [Instr.sliceBounds]
  · simp only [Instr.sliceBounds, Option.map_some, Option.map_none, e1', Sem.run_bind, Sem.run_pure, Result.andThen_ok, run_sliceBound e2' (show j' ≤ (r : Int) by omega) e3']
  · simp only [Instr.sliceBounds, Option.map_some, Option.map_none, e1, Sem.run_bind, Sem.run_pure, Result.andThen_ok, run_sliceBound e2 (show j ≤ (cap : Int) by omega) e3]
  · simp only [Instr.sliceBounds, Option.map_some, e1, e1', Sem.run_bind, Sem.run_pure, Result.andThen_ok, run_sliceBound e2 (show j ≤ (cap : Int) by omega) e3, run_sliceBound e2' (show j' ≤ (r : Int) by omega) e3']

theorem ok_slice {t e : TypeId} {x : Operand} {lo hi : Option Operand} {p i n c l r m : Nat} (ho : o.op = .slice t x lo hi none) (hx : ev tm x = .slice (some ⟨p, i, none⟩) n c) (hx' : okX x = true)
    (hlo : okO lo = true) (hhi : okO hi = true) (hl : bnd tm 0 lo = some l) (hr' : bnd tm n hi = some r) (ht' : elT P t = some e) (hm : szT P e = some m) (h1 : l ≤ r) (h2 : r ≤ c) :
    OpOK P o tm h (.slice (some ⟨p, i + l * m, none⟩) (r - l) (c - l)) h := by
  refine OpOK.pure fun E base w a hr ht => ?_
  have hv := mem_ops (x := x) hx' (by rw [ho]; simp [Op.operands]) ht
  rw [hx] at hv
  obtain ⟨hnc, sl, ad, ev, hq⟩ := hv.inv_slice
  have hL := bnd_rel hlo (fun y e => by rw [ho]; simp [Op.operands, e]) ht hl
  have hR := bnd_rel hhi (fun y e => by rw [ho]; simp [Op.operands, e]) ht hr'
  have hbs : (Instr.sliceBounds true n (c + sl) (lo.map a.eval) (hi.map a.eval) none).run P w = .ok (l, r, c + sl) w := run_sliceBounds hL hR h1 (by omega)
  refine ⟨.slice (some (if c + sl = l then ad else ad.add (l * m))) (r - l) (c - l + sl), ?_, ?_⟩
  · rcases hq with ⟨hd, rfl, had⟩ | h0
    · refine .slice p _ _ _ _ hd (by omega) ?_
      by_cases hq : c + E.slk p = l
      · left; omega
      · right
        rw [if_neg hq]
        rcases had with h0 | had
        · omega
        · rw [had, add_plain', Nat.add_assoc]
    · exact h0.elim
  · simp only [execOp, ho, ev, Option.map_none]
    simp only [Instr.sliceAt, run_underlying (elT_spec ht'), Sem.run_bind, Result.andThen_ok, Instr.slice, hbs, run_szT hm, Sem.run_pure]
    congr 3
    · split <;> simp_all
    · omega

theorem ok_sliceNil {t e : TypeId} {x : Operand} {lo hi : Option Operand} {l r m : Nat} (ho : o.op = .slice t x lo hi none) (hx : ev tm x = .slice none 0 0) (hx' : okX x = true)
    (hlo : okO lo = true) (hhi : okO hi = true) (hl : bnd tm 0 lo = some l) (hr' : bnd tm 0 hi = some r) (ht' : elT P t = some e) (hm : szT P e = some m) (h1 : l = 0) (h2 : r = 0) :
    OpOK P o tm h (.slice none 0 0) h := by
  refine OpOK.pure fun E base w a hr ht => ⟨_, .sliceNil, ?_⟩
  have hv := mem_ops (x := x) hx' (by rw [ho]; simp [Op.operands]) ht
  rw [hx] at hv
  have hL := bnd_rel hlo (fun y e => by rw [ho]; simp [Op.operands, e]) ht hl
  have hR := bnd_rel hhi (fun y e => by rw [ho]; simp [Op.operands, e]) ht hr'
  subst h1 h2
  have hbs : (Instr.sliceBounds true 0 0 (lo.map a.eval) (hi.map a.eval) none).run P w = .ok (0, 0, 0) w := run_sliceBounds hL hR (by omega) (by omega)
  simp only [execOp, ho, hv.inv_sliceNil, Option.map_none]
  simp [Instr.sliceAt, run_underlying (elT_spec ht'), Instr.slice, hbs, run_szT hm]

theorem ok_sliceS {t : TypeId} {x : Operand} {lo hi : Option Operand} {s : ByteArray} {l r : Nat} (ho : o.op = .slice t x lo hi none) (hx : ev tm x = .string s) (hx' : okX x = true)
    (hlo : okO lo = true) (hhi : okO hi = true) (hl : bnd tm 0 lo = some l) (hr' : bnd tm s.size hi = some r) (ht' : P.underlying t = some .string) (h1 : l ≤ r) (h2 : r ≤ s.size) :
    OpOK P o tm h (.string (s.extract l r)) h := by
  refine OpOK.pure fun E base w a hr ht => ⟨_, .string _, ?_⟩
  have hv := mem_ops (x := x) hx' (by rw [ho]; simp [Op.operands]) ht
  rw [hx] at hv
  have hL := bnd_rel hlo (fun y e => by rw [ho]; simp [Op.operands, e]) ht hl
  have hR := bnd_rel hhi (fun y e => by rw [ho]; simp [Op.operands, e]) ht hr'
  have hbs : (Instr.sliceBounds false s.size s.size (lo.map a.eval) (hi.map a.eval) none).run P w = .ok (l, r, s.size) w := run_sliceBounds hL hR h1 h2
  simp only [execOp, ho, hv.inv_string, Option.map_none]
  simp [Instr.sliceAt, run_underlying ht', Instr.slice, hbs]

/-! len -/
theorem ok_len {ty : TypeId} {t e : TypeId} {x : Operand} {s : Option Addr} {n c : Nat} (ho : o.op = .call ⟨.builtin .len, #[x], #[t]⟩) (hx : ev tm x = .slice s n c) (hx' : okX x = true)
    (ht' : elT P t = some e) (_hty : o.type = ty) : OpOK P o tm h (.int .i64 n) h := by
  refine OpOK.pure fun E base w a hr ht => ⟨_, .int _ _, ?_⟩
  have hv := mem_ops (x := x) hx' (by rw [ho]; simp [Op.operands, Call.operands]) ht
  rw [hx] at hv
  obtain ⟨s', c', e'⟩ : ∃ s' c', a.eval x = .slice s' n c' := by
    generalize a.eval x = v' at hv
    cases hv <;> exact ⟨_, _, rfl⟩
  simp [execOp, ho, resolve, invoke, builtin, e', Builtin.len_, run_underlying (elT_spec ht'), goInt]

theorem ok_lenS {t : TypeId} {x : Operand} {s : ByteArray} (ho : o.op = .call ⟨.builtin .len, #[x], #[t]⟩) (hx : ev tm x = .string s) (hx' : okX x = true)
    (ht' : P.underlying t = some .string) : OpOK P o tm h (.int .i64 s.size) h := by
  refine OpOK.pure fun E base w a hr ht => ⟨_, .int _ _, ?_⟩
  have hv := mem_ops (x := x) hx' (by rw [ho]; simp [Op.operands, Call.operands]) ht
  rw [hx] at hv
  simp [execOp, ho, resolve, invoke, builtin, hv.inv_string, Builtin.len_, run_underlying ht', goInt]

/-! min, max of whole numbers -/
theorem ok_max2 {t t' : TypeId} {x y : Operand} {k k' : IntKind} {i j : Int} (ho : o.op = .call ⟨.builtin .max, #[x, y], #[t, t']⟩) (hx : ev tm x = .int k i) (hx' : okX x = true)
    (hy : ev tm y = .int k' j) (hy' : okX y = true) : OpOK P o tm h (.int k (if j > i then j else i)) h := by
  refine OpOK.pure fun E base w a hr ht => ⟨_, .int _ _, ?_⟩
  have hv := mem_ops (x := x) hx' (by rw [ho]; simp [Op.operands, Call.operands]) ht
  have hu := mem_ops (x := y) hy' (by rw [ho]; simp [Op.operands, Call.operands]) ht
  rw [hx] at hv
  rw [hy] at hu
  simp [execOp, ho, resolve, invoke, builtin, hv.inv_int, hu.inv_int, Builtin.max_, Builtin.max2]

theorem ok_min2 {t t' : TypeId} {x y : Operand} {k k' : IntKind} {i j : Int} (ho : o.op = .call ⟨.builtin .min, #[x, y], #[t, t']⟩) (hx : ev tm x = .int k i) (hx' : okX x = true)
    (hy : ev tm y = .int k' j) (hy' : okX y = true) : OpOK P o tm h (.int k (if j < i then j else i)) h := by
  refine OpOK.pure fun E base w a hr ht => ⟨_, .int _ _, ?_⟩
  have hv := mem_ops (x := x) hx' (by rw [ho]; simp [Op.operands, Call.operands]) ht
  have hu := mem_ops (x := y) hy' (by rw [ho]; simp [Op.operands, Call.operands]) ht
  rw [hx] at hv
  rw [hy] at hu
  simp [execOp, ho, resolve, invoke, builtin, hv.inv_int, hu.inv_int, Builtin.min_, Builtin.min2]
end
end Go.Eng
end
