/- Part 1 of the proof of freeSetsAlternate_holds: what it uses of the texts that lie in the notes, merged. -/
import Derived.Orders
import Derived.Laws.Cells
import Derived.Laws.Tables
import Derived.Laws.World
import Derived.Laws.Entries
import Derived.Laws.Append
section
namespace Go.Eng
inductive AObj where
  | dead
  | cells (c : List Value) (own exact : Bool) (es : Nat)
  | map (es : List (Value × Value))
structure Hp where
  get : Nat → AObj
  next : Nat
def Hp.alloc (h : Hp) (x : AObj) : Hp := ⟨fun o => if o = h.next then x else h.get o, h.next + 1⟩
def Hp.put (h : Hp) (i : Nat) (x : AObj) : Hp := ⟨fun o => if o = i then x else h.get o, h.next⟩
def AObj.owned : AObj → Bool
  | .dead => false
  | .cells _ own _ _ => own
  | .map _ => true
def AObj.live : AObj → Bool
  | .dead => false
  | _ => true
theorem AObj.live_of_owned {x : AObj} (h : x.owned = true) : x.live = true := by cases x <;> simp_all [AObj.owned, AObj.live]
structure Emb where
  D : Nat → Prop
  blk : Nat → Nat
  off : Nat → Nat
  slk : Nat → Nat
def Emb.add (E : Emb) (o b f s : Nat) : Emb :=
  ⟨fun i => i = o ∨ E.D i, fun i => if i = o then b else E.blk i, fun i => if i = o then f else E.off i, fun i => if i = o then s else E.slk i⟩
inductive VRel (E : Emb) : Value → Value → Prop
  | bool (b : Bool) : VRel E (.bool b) (.bool b)
  | int (k : IntKind) (n : Int) : VRel E (.int k n) (.int k n)
  | string (s : ByteArray) : VRel E (.string s) (.string s)
  | ptrNil : VRel E (.pointer none) (.pointer none)
  | ptr (o i : Nat) (hD : E.D o) : VRel E (.pointer (some ⟨o, i, none⟩)) (.pointer (some ⟨E.blk o, E.off o + i, none⟩))
  | sliceNil : VRel E (.slice none 0 0) (.slice none 0 0)
  | slice (o i n c : Nat) (a : Addr) (hD : E.D o) (hn : n ≤ c) (ha : c + E.slk o = 0 ∨ a = ⟨E.blk o, E.off o + i, none⟩) :
      VRel E (.slice (some ⟨o, i, none⟩) n c) (.slice (some a) n (c + E.slk o))
  /-- no cell at all: wherever it points -/
  | slice0 (a : Addr) : VRel E (.slice (some ⟨0, 0, some 0⟩) 0 0) (.slice (some a) 0 0)
  | mapNil : VRel E (.map none) (.map none)
  | map (o : Nat) (hD : E.D o) : VRel E (.map (some o)) (.map (some (E.blk o)))
  | func (fn : Fn) (f f' c c' : Array Value) (hf : f.size = f'.size) (hc : c.size = c'.size)
      (h1 : ∀ i, i < f.size → VRel E (f.getD i undef) (f'.getD i undef)) (h2 : ∀ i, i < c.size → VRel E (c.getD i undef) (c'.getD i undef)) :
      VRel E (.func fn f c) (.func fn f' c')
  | nilFunc : VRel E .nilFunc .nilFunc
  | nilIface : VRel E .nilIface .nilIface
  | iface (t : TypeId) (v v' : Value) (h : VRel E v v') : VRel E (.iface t v) (.iface t v')
  | agg (c c' : Array Value) (hs : c.size = c'.size) (h1 : ∀ i, i < c.size → (c.getD i undef).oneCell' = true)
      (h : ∀ i, i < c.size → VRel E (c.getD i undef) (c'.getD i undef)) : VRel E (.agg c) (.agg c')
  | tuple (c c' : Array Value) (hs : c.size = c'.size) (h : ∀ i, i < c.size → VRel E (c.getD i undef) (c'.getD i undef)) : VRel E (.tuple c) (.tuple c')
theorem VRel.undef (E : Emb) : VRel E Go.undef Go.undef := .tuple #[] #[] rfl (fun i h => absurd h (by simp))
theorem VRel.mono {E E' : Emb} (hD : ∀ o, E.D o → E'.D o ∧ E'.blk o = E.blk o ∧ E'.off o = E.off o ∧ E'.slk o = E.slk o) {v v' : Value} (h : VRel E v v') :
    VRel E' v v' := by
  induction h with
  | bool b => exact .bool b
  | int k n => exact .int k n
  | string s => exact .string s
  | ptrNil => exact .ptrNil
  | ptr o i h => obtain ⟨a, b, c, _⟩ := hD o h; rw [← b, ← c]; exact .ptr o i a
  | sliceNil => exact .sliceNil
  | slice o i n c a h hn ha =>
    obtain ⟨d, b, f, s⟩ := hD o h
    rw [← s]; exact .slice o i n c a d hn (by rw [s, b, f]; exact ha)
  | slice0 a => exact .slice0 a
  | mapNil => exact .mapNil
  | map o h => obtain ⟨a, b, _, _⟩ := hD o h; rw [← b]; exact .map o a
  | func fn f f' c c' hf hc _ _ h1 h2 => exact .func fn f f' c c' hf hc h1 h2
  | nilFunc => exact .nilFunc
  | nilIface => exact .nilIface
  | iface t v v' _ h => exact .iface t v v' h
  | agg c c' hs h1 _ h => exact .agg c c' hs h1 h
  | tuple c c' hs _ h => exact .tuple c c' hs h
theorem VRel.oneCell {E : Emb} {v v' : Value} (h : VRel E v v') : v'.oneCell' = v.oneCell' := by cases h <;> rfl
theorem VRel.cells {E : Emb} {v v' : Value} (h : VRel E v v') :
    v.cells.size = v'.cells.size ∧ ∀ i, i < v.cells.size → VRel E (v.cells.getD i Go.undef) (v'.cells.getD i Go.undef) := by
  cases h with
  | agg c c' hs h1 h => exact ⟨hs, h⟩
  | _ => exact ⟨rfl, fun i hi => by
      have : i = 0 := by simp [Value.cells] at hi; omega
      subst this
      simp only [Value.cells]
      first
        | exact .bool _ | exact .int _ _ | exact .string _ | exact .ptrNil | exact .ptr _ _ (by assumption) | exact .sliceNil
        | exact .slice _ _ _ _ _ (by assumption) (by assumption) (by assumption) | exact .slice0 _ | exact .mapNil | exact .map _ (by assumption)
        | exact .func _ _ _ _ _ (by assumption) (by assumption) (by assumption) (by assumption)
        | exact .nilFunc | exact .nilIface | exact .iface _ _ _ (by assumption) | exact .tuple _ _ (by assumption) (by assumption)⟩
def ORel (E : Emb) (base : Nat) (H : Array Obj) (o : Nat) : AObj → Prop
  | .dead => True
  | .cells c own exact es => ∃ C ty fz, H[E.blk o]? = some (.cells C ty fz) ∧ E.off o + c.length + E.slk o * es ≤ C.size ∧
      (∀ i, i < c.length → VRel E (c.getD i undef) (C.getD (E.off o + i) undef)) ∧ (∀ i, i < c.length → (c.getD i undef).oneCell' = true) ∧
      (own = true → fz = (0, 0) ∧ base ≤ E.blk o) ∧ (exact = true → E.slk o = 0)
  | .map es => ∃ (ents : Array MapEntry) (clock : Nat), H[E.blk o]? = some (.map ents clock) ∧ base ≤ E.blk o ∧ ents.size = es.length ∧
      ∀ i, i < es.length → VRel E (es.getD i (undef, undef)).1 (ents.getD i default).key ∧ VRel E (es.getD i (undef, undef)).2 (ents.getD i default).val
structure HRel (E : Emb) (base : Nat) (h : Hp) (H : Array Obj) : Prop where
  le : base ≤ H.size
  lt : ∀ o, E.D o → o < h.next
  obj : ∀ o, E.D o → ORel E base H o (h.get o)
  sep : ∀ o o', E.D o → E.D o' → o ≠ o' → (h.get o).owned = true → (h.get o').live = true → E.blk o ≠ E.blk o'
structure Qui (w w' : World) : Prop where
  out : w'.output = w.output
  drawn : w.drawn ≤ w'.drawn
theorem Qui.refl (w : World) : Qui w w := ⟨rfl, Nat.le_refl _⟩
theorem Qui.trans {a b c : World} (h : Qui a b) (k : Qui b c) : Qui a c := ⟨k.out.trans h.out, Nat.le_trans h.drawn k.drawn⟩
structure Step (E : Emb) (h : Hp) (w : World) (E' : Emb) (h' : Hp) (w' : World) : Prop where
  next : h.next ≤ h'.next
  ext : ∀ o, o < h.next → (E'.D o ↔ E.D o) ∧ E'.blk o = E.blk o ∧ E'.off o = E.off o ∧ E'.slk o = E.slk o
  os : w'.os = w.os
  tape : w'.tape = w.tape
  output : Qui w w'
  size : w.heap.size ≤ w'.heap.size
  keep : ∀ b, b < w.heap.size → (∀ o, E.D o → (h.get o).owned = true → E.blk o ≠ b) → w'.heap[b]? = w.heap[b]?
  own : ∀ o, E'.D o → (h'.get o).owned = true → (∃ o0, E.D o0 ∧ (h.get o0).owned = true ∧ E.blk o0 = E'.blk o) ∨ w.heap.size ≤ E'.blk o
theorem Step.refl (E : Emb) (h : Hp) (w : World) : Step E h w E h w :=
  ⟨Nat.le_refl _, fun _ _ => ⟨Iff.rfl, rfl, rfl, rfl⟩, rfl, rfl, Qui.refl _, Nat.le_refl _, fun _ _ _ => rfl, fun o hd ho => .inl ⟨o, hd, ho, rfl⟩⟩
theorem Step.trans {E E1 E2 : Emb} {h h1 h2 : Hp} {w w1 w2 : World} (s : Step E h w E1 h1 w1) (t : Step E1 h1 w1 E2 h2 w2) : Step E h w E2 h2 w2 where
  next := Nat.le_trans s.next t.next
  ext o ho := by
    obtain ⟨a, b, c, d⟩ := s.ext o ho
    obtain ⟨a', b', c', d'⟩ := t.ext o (Nat.lt_of_lt_of_le ho s.next)
    exact ⟨a'.trans a, b'.trans b, c'.trans c, d'.trans d⟩
  os := t.os.trans s.os
  tape := t.tape.trans s.tape
  output := s.output.trans t.output
  size := Nat.le_trans s.size t.size
  keep b hb hn := by
    rw [t.keep b (Nat.lt_of_lt_of_le hb s.size) ?_, s.keep b hb hn]
    intro o1 hd ho e
    rcases s.own o1 hd ho with ⟨o0, h0, h00, e0⟩ | hs
    · exact hn o0 h0 h00 (e0.trans e)
    · omega
  own o hd ho := by
    rcases t.own o hd ho with ⟨o1, h1, h11, e1⟩ | hs
    · rcases s.own o1 h1 h11 with ⟨o0, h0, h00, e0⟩ | hs
      · exact .inl ⟨o0, h0, h00, e0.trans e1⟩
      · exact .inr (e1 ▸ hs)
    · exact .inr (Nat.le_trans s.size hs)
theorem Step.dmono {E E' : Emb} {h h' : Hp} {w w' : World} (s : Step E h w E' h' w') (hlt : ∀ o, E.D o → o < h.next) :
    ∀ o, E.D o → E'.D o ∧ E'.blk o = E.blk o ∧ E'.off o = E.off o ∧ E'.slk o = E.slk o := fun o hd => by
  obtain ⟨a, b, c, d⟩ := s.ext o (hlt o hd)
  exact ⟨a.2 hd, b, c, d⟩
theorem Step.vrel {E E' : Emb} {h h' : Hp} {w w' : World} {base : Nat} (s : Step E h w E' h' w') (hr : HRel E base h w.heap) {v v' : Value} (hv : VRel E v v') : VRel E' v v' :=
  hv.mono (s.dmono hr.lt)
theorem Step.same {E : Emb} {h : Hp} {w w' : World} (hh : w'.heap = w.heap) (ho : w'.os = w.os) (ht : w'.tape = w.tape) (hu : Qui w w') : Step E h w E h w' where
  next := Nat.le_refl _
  ext _ _ := ⟨Iff.rfl, rfl, rfl, rfl⟩
  os := ho
  tape := ht
  output := hu
  size := by rw [hh]; exact Nat.le_refl _
  keep _ _ _ := by rw [hh]
  own o hd ho := .inl ⟨o, hd, ho, rfl⟩
theorem Emb.add_ext (E : Emb) (o b f s : Nat) : ∀ i, i < o → ((E.add o b f s).D i ↔ E.D i) ∧ (E.add o b f s).blk i = E.blk i ∧ (E.add o b f s).off i = E.off i ∧ (E.add o b f s).slk i = E.slk i := by
  intro i hi
  have hne : i ≠ o := by omega
  simp [Emb.add, hne]
theorem ORel.mono {E E' : Emb} {base : Nat} {H H' : Array Obj} {o : Nat} {x : AObj} (hD : ∀ o, E.D o → E'.D o ∧ E'.blk o = E.blk o ∧ E'.off o = E.off o ∧ E'.slk o = E.slk o)
    (hd : E.D o) (hh : H'[E.blk o]? = H[E.blk o]?) (h : ORel E base H o x) : ORel E' base H' o x := by
  obtain ⟨_, b, f, s⟩ := hD o hd
  cases x with
  | dead => trivial
  | cells c own exact es =>
    obtain ⟨C, ty, fz, h1, h2, h3, h4, h5, h6⟩ := h
    refine ⟨C, ty, fz, ?_, ?_, ?_, h4, ?_, ?_⟩
    · rw [b, hh, h1]
    · rw [f, s]; exact h2
    · intro i hi; rw [f]; exact (h3 i hi).mono hD
    · rw [b]; exact h5
    · rw [s]; exact h6
  | map es =>
    obtain ⟨ents, clock, h1, h2, h3, h4⟩ := h
    refine ⟨ents, clock, ?_, ?_, h3, fun i hi => ⟨(h4 i hi).1.mono hD, (h4 i hi).2.mono hD⟩⟩
    · rw [b, hh, h1]
    · rw [b]; exact h2
theorem ORel.block {E : Emb} {base : Nat} {H : Array Obj} {o : Nat} {x : AObj} (h : ORel E base H o x) (hl : x.live = true) : E.blk o < H.size := by
  cases x with
  | dead => cases hl
  | cells c own exact es => obtain ⟨C, ty, fz, h1, _⟩ := h; exact (Array.getElem?_eq_some_iff.1 h1).1
  | map es => obtain ⟨ents, clock, h1, _⟩ := h; exact (Array.getElem?_eq_some_iff.1 h1).1
theorem step_alloc {E : Emb} {base : Nat} {h : Hp} {w w' : World} (hr : HRel E base h w.heap) (x : AObj) (ob : Obj) (s : Nat)
    (hh : w'.heap = w.heap.push ob) (ho : w'.os = w.os) (ht : w'.tape = w.tape) (hu : Qui w w')
    (hx : ORel (E.add h.next w.heap.size 0 s) base w'.heap h.next x) :
    Step E h w (E.add h.next w.heap.size 0 s) (h.alloc x) w' ∧ HRel (E.add h.next w.heap.size 0 s) base (h.alloc x) w'.heap := by
  have hext := E.add_ext h.next w.heap.size 0 s
  have hD : ∀ o, E.D o → (E.add h.next w.heap.size 0 s).D o ∧ (E.add h.next w.heap.size 0 s).blk o = E.blk o ∧ (E.add h.next w.heap.size 0 s).off o = E.off o ∧ (E.add h.next w.heap.size 0 s).slk o = E.slk o := fun o hd => by
    obtain ⟨a, b, c, d⟩ := hext o (hr.lt o hd); exact ⟨a.2 hd, b, c, d⟩
  have hpush : ∀ b, b < w.heap.size → w'.heap[b]? = w.heap[b]? := fun b hb => by rw [hh, Array.getElem?_push, if_neg (by omega)]
  have hget : ∀ o, o < h.next → (h.alloc x).get o = h.get o := fun o ho => by simp [Hp.alloc, show o ≠ h.next by omega]
  have hnew : (E.add h.next w.heap.size 0 s).blk h.next = w.heap.size := by simp [Emb.add]
  refine ⟨⟨Nat.le_succ _, hext, ho, ht, hu, by rw [hh]; simp, fun b hb _ => hpush b hb, ?_⟩, ⟨?_, ?_, ?_, ?_⟩⟩
  · intro o hd hown
    rcases hd with rfl | hd
    · right; rw [hnew]; exact Nat.le_refl _
    · left
      refine ⟨o, hd, ?_, (hext o (hr.lt o hd)).2.1.symm⟩
      rw [hget o (hr.lt o hd)] at hown; exact hown
  · rw [hh]; simp; have := hr.le; omega
  · intro o hd
    rcases hd with rfl | hd
    · exact Nat.lt_succ_self _
    · exact Nat.lt_succ_of_lt (hr.lt o hd)
  · intro o hd
    rcases hd with rfl | hd
    · simpa [Hp.alloc] using hx
    · rw [hget o (hr.lt o hd)]
      cases hx0 : h.get o with
      | dead => trivial
      | _ =>
        have h0 := hr.obj o hd
        have hb := h0.block (by rw [hx0]; rfl)
        rw [hx0] at h0
        exact h0.mono hD hd (hpush _ hb)
  · intro o o' hd hd' hne hown hlive
    rcases hd with rfl | hd <;> rcases hd' with rfl | hd'
    · exact absurd rfl hne
    · rw [hget o' (hr.lt o' hd')] at hlive
      rw [hnew, (hext o' (hr.lt o' hd')).2.1]
      have := (hr.obj o' hd').block hlive
      omega
    · rw [hget o (hr.lt o hd)] at hown
      rw [hnew, (hext o (hr.lt o hd)).2.1]
      have := (hr.obj o hd).block (AObj.live_of_owned hown)
      omega
    · rw [hget o (hr.lt o hd)] at hown
      rw [hget o' (hr.lt o' hd')] at hlive
      rw [(hext o (hr.lt o hd)).2.1, (hext o' (hr.lt o' hd')).2.1]
      exact hr.sep o o' hd hd' hne hown hlive
theorem step_put {E : Emb} {base : Nat} {h : Hp} {w w' : World} (hr : HRel E base h w.heap) (o : Nat) (x : AObj) (hd : E.D o) (hown : (h.get o).owned = true)
    (hsz : w'.heap.size = w.heap.size) (hh : ∀ b, b ≠ E.blk o → w'.heap[b]? = w.heap[b]?) (ho : w'.os = w.os) (ht : w'.tape = w.tape) (hu : Qui w w')
    (hx : ORel E base w'.heap o x) :
    Step E h w E (h.put o x) w' ∧ HRel E base (h.put o x) w'.heap := by
  refine ⟨⟨Nat.le_refl _, fun _ _ => ⟨Iff.rfl, rfl, rfl, rfl⟩, ho, ht, hu, by omega, fun b _ hn => hh b (fun e => hn o hd hown e.symm), ?_⟩, ⟨?_, hr.lt, ?_, ?_⟩⟩
  · intro i hi hio
    left
    by_cases e : i = o
    · subst e; exact ⟨i, hi, hown, rfl⟩
    · refine ⟨i, hi, ?_, rfl⟩
      simpa [Hp.put, e] using hio
  · rw [hsz]; exact hr.le
  · intro i hi
    by_cases e : i = o
    · subst e; simpa [Hp.put] using hx
    · simp only [Hp.put, e, if_false]
      cases hx0 : h.get i with
      | dead => trivial
      | _ =>
        have h0 := hr.obj i hi
        rw [hx0] at h0
        refine h0.mono (fun o ho => ⟨ho, rfl, rfl, rfl⟩) hi (hh _ ?_)
        exact fun e' => hr.sep o i hd hi (fun q => e q.symm) hown (by rw [hx0]; rfl) e'.symm
  · intro i j hi hj hne h1 h2
    refine hr.sep i j hi hj hne ?_ ?_
    · by_cases e : i = o
      · subst e; exact hown
      · simpa [Hp.put, e] using h1
    · by_cases e : j = o
      · subst e; exact AObj.live_of_owned hown
      · simpa [Hp.put, e] using h2
end Go.Eng
end
section
namespace Go.Eng
def ev (tm : Nat → Value) : Operand → Value
  | .tmp t => tm t
  | .const v => v
  | .func f => .func (.func f) #[] #[]
  | .global _ => undef
def plainS : Value → Bool
  | .bool _ | .int _ _ | .string _ | .pointer none | .slice none 0 0 | .map none | .nilFunc | .nilIface => true
  | _ => false
def plainV : Value → Bool
  | .agg cs => cs.all plainS
  | .tuple cs => cs.all plainS
  | v => plainS v
theorem VRel.ofS (E : Emb) {v : Value} (h : plainS v = true) : VRel E v v := by
  unfold plainS at h
  split at h <;> first | cases h | skip
  · exact .bool _
  · exact .int _ _
  · exact .string _
  · exact .ptrNil
  · exact .sliceNil
  · exact .mapNil
  · exact .nilFunc
  · exact .nilIface
theorem plainS_one {v : Value} (h : plainS v = true) : v.oneCell' = true := by
  unfold plainS at h
  split at h <;> first | rfl | cases h
theorem all_getD {cs : Array Value} {p : Value → Bool} (h : cs.all p = true) {i : Nat} (hi : i < cs.size) : p (cs.getD i undef) = true := by
  rw [Array.all_eq_true] at h
  rw [Array.getD_eq_getD_getElem?, Array.getElem?_eq_getElem hi]
  exact h i hi
theorem VRel.ofV (E : Emb) {v : Value} (h : plainV v = true) : VRel E v v := by
  unfold plainV at h
  split at h
  · exact .agg _ _ rfl (fun i hi => plainS_one (all_getD h hi)) (fun i hi => .ofS E (all_getD h hi))
  · exact .tuple _ _ rfl (fun i hi => .ofS E (all_getD h hi))
  · exact .ofS E h
def okX : Operand → Bool
  | .tmp _ | .func _ => true
  | .const v => plainV v
  | .global _ => false
theorem ev_rel {E : Emb} {tm : Nat → Value} {a : Act} {x : Operand} (hx : okX x = true) (h : ∀ t, x = .tmp t → VRel E (tm t) (a.tmps.getD t undef)) : VRel E (ev tm x) (a.eval x) := by
  cases x with
  | tmp t => exact h t rfl
  | const v => exact .ofV E hx
  | func f => exact .func _ _ _ _ _ rfl rfl (fun i hi => absurd hi (by simp)) (fun i hi => absurd hi (by simp))
  | global g => cases hx
def OpOK (P : Program) (o : Oper) (tm : Nat → Value) (h : Hp) (v : Value) (h' : Hp) : Prop :=
  ∀ (E : Emb) (base : Nat) (w : World) (a : Act) (next : Act → World → Prop) (Q : Exit → Act → World → Prop), HRel E base h w.heap →
    (∀ t, Operand.tmp t ∈ o.op.operands → VRel E (tm t) (a.tmps.getD t undef)) →
    (∀ E' w' v', Step E h w E' h' w' → HRel E' base h' w'.heap → VRel E' v v' → next (a.put o.dst v') w') → o.wp P a w next Q
theorem OpOK.pure {P : Program} {o : Oper} {tm : Nat → Value} {h : Hp} {v : Value}
    (H : ∀ (E : Emb) (base : Nat) (w : World) (a : Act), HRel E base h w.heap → (∀ t, Operand.tmp t ∈ o.op.operands → VRel E (tm t) (a.tmps.getD t undef)) →
      ∃ v', VRel E v v' ∧ (execOp a.eval o).run P w = .ok (.value v') w) : OpOK P o tm h v h := by
  intro E base w a next Q hr ht hn
  obtain ⟨v', hv, hrun⟩ := H E base w a hr ht
  unfold Oper.wp
  rw [hrun]
  exact hn E w v' (Step.refl E h w) hr hv
theorem mem_ops {o : Oper} {x : Operand} {tm : Nat → Value} {E : Emb} {a : Act} (hx : okX x = true) (hm : x ∈ o.op.operands)
    (ht : ∀ t, Operand.tmp t ∈ o.op.operands → VRel E (tm t) (a.tmps.getD t undef)) : VRel E (ev tm x) (a.eval x) :=
  ev_rel hx fun t e => ht t (e ▸ hm)
theorem VRel.inv_int {E : Emb} {k : IntKind} {n : Int} {v' : Value} (h : VRel E (.int k n) v') : v' = .int k n := by cases h; rfl
theorem VRel.inv_bool {E : Emb} {b : Bool} {v' : Value} (h : VRel E (.bool b) v') : v' = .bool b := by cases h; rfl
theorem VRel.inv_string {E : Emb} {s : ByteArray} {v' : Value} (h : VRel E (.string s) v') : v' = .string s := by cases h; rfl
theorem VRel.inv_ptr {E : Emb} {o i : Nat} {v' : Value} (h : VRel E (.pointer (some ⟨o, i, none⟩)) v') : E.D o ∧ v' = .pointer (some ⟨E.blk o, E.off o + i, none⟩) := by
  cases h; exact ⟨by assumption, rfl⟩
theorem VRel.inv_slice {E : Emb} {o i n c : Nat} {v' : Value} (h : VRel E (.slice (some ⟨o, i, none⟩) n c) v') :
    n ≤ c ∧ ∃ s a, v' = .slice (some a) n (c + s) ∧ ((E.D o ∧ s = E.slk o ∧ (c + s = 0 ∨ a = ⟨E.blk o, E.off o + i, none⟩)) ∨ False) := by
  cases h with
  | slice _ _ _ _ a hD hn ha => exact ⟨hn, _, a, rfl, .inl ⟨hD, rfl, ha⟩⟩
theorem VRel.inv_sliceNil {E : Emb} {v' : Value} (h : VRel E (.slice none 0 0) v') : v' = .slice none 0 0 := by cases h; rfl
section
variable {P : Program} {o : Oper} {tm : Nat → Value} {h : Hp}
theorem ok_move {x : Operand} (ho : o.op = .move x ∨ o.op = .assign x) (hx : okX x = true) : OpOK P o tm h (ev tm x) h := by
  refine OpOK.pure fun E base w a hr ht => ⟨a.eval x, mem_ops hx ?_ ht, ?_⟩
  · rcases ho with ho | ho <;> rw [ho] <;> simp [Op.operands]
  · rcases ho with ho | ho <;> simp [execOp, ho]
theorem ok_pick {c x y : Operand} {t : Bool} (ho : o.op = .pick c x y) (hc : ev tm c = .bool t) (hc' : okX c = true) (hx : okX x = true) (hy : okX y = true) :
    OpOK P o tm h (if t then ev tm x else ev tm y) h := by
  refine OpOK.pure fun E base w a hr ht => ⟨if t then a.eval x else a.eval y, ?_, ?_⟩
  · cases t
    · exact mem_ops hy (by rw [ho]; simp [Op.operands]) ht
    · exact mem_ops hx (by rw [ho]; simp [Op.operands]) ht
  · have hcv := mem_ops (x := c) hc' (by rw [ho]; simp [Op.operands]) ht
    rw [hc] at hcv
    simp [execOp, ho, hcv.inv_bool, asBool]
end
def aggT (P : Program) (t : TypeId) : Option Bool := (P.underlying t).map fun d => match d with | .struct _ | .array _ _ => true | _ => false
def szT (P : Program) (t : TypeId) : Option Nat := (P.info? t).map (·.size)
def zeroT (P : Program) (t : TypeId) : Option Value := (P.info? t).bind (·.zero)
def byT (P : Program) (t : TypeId) : Option Nat := (P.info? t).map (·.bytes)
section
variable {P : Program} {w : World} {t : TypeId}
theorem run_szT {n : Nat} (h : szT P t = some n) : (sizeOf t).run P w = .ok n w := by
  unfold szT at h
  cases hi : P.info? t with
  | none => simp [hi] at h
  | some i => simp [hi] at h; simp [sizeOf, typeInfo, hi, h]
theorem run_zeroT {z : Value} (h : zeroT P t = some z) : (zeroValue t).run P w = .ok z w := by
  unfold zeroT at h
  cases hi : P.info? t with
  | none => simp [hi] at h
  | some i => simp [hi] at h; simp [zeroValue, typeInfo, hi, h]
theorem run_aggT {b : Bool} (h : aggT P t = some b) : (isAgg t).run P w = .ok b w := by
  unfold aggT at h
  cases hi : P.underlying t with
  | none => simp [hi] at h
  | some d => simp [hi] at h; simp [isAgg, underlying, hi]; split at h <;> simp_all
end
theorem cell_at {E : Emb} {base : Nat} {h : Hp} {H : Array Obj} {w : World} (hH : w.heap = H) (hr : HRel E base h H) {p : Nat} {c : List Value} {own ex : Bool} {es : Nat} (hd : E.D p)
    (hg : h.get p = .cells c own ex es) {i : Nat} (hi : i < c.length) : ∃ v', w.cell? ⟨E.blk p, E.off p + i, none⟩ = some v' ∧ VRel E (c.getD i undef) v' ∧ (c.getD i undef).oneCell' = true := by
  have h0 := hr.obj p hd
  rw [hg] at h0
  obtain ⟨C, ty, fz, h1, h2, h3, h4, _⟩ := h0
  refine ⟨C.getD (E.off p + i) undef, ?_, h3 i hi, h4 i hi⟩
  simp only [World.cell?, hH, h1, Option.isSome_none]
  rw [Array.getD_eq_getD_getElem?, Array.getElem?_eq_getElem (by omega)]
  rfl
theorem add_plain' (b i j : Nat) : (⟨b, i, none⟩ : Addr).add j = ⟨b, i + j, none⟩ := by
  unfold Addr.add; split
  · subst_vars; rfl
  · rfl
theorem ext_getD {c c' : Array Value} (hs : c.size = c'.size) (h : ∀ i, i < c.size → c.getD i undef = c'.getD i undef) : c = c' := by
  apply Array.ext hs
  intro i h1 h2
  have := h i h1
  rwa [Array.getD_eq_getD_getElem?, Array.getD_eq_getD_getElem?, Array.getElem?_eq_getElem h1, Array.getElem?_eq_getElem h2] at this
theorem run_loadVar_eng {P : Program} {E : Emb} {base : Nat} {h : Hp} {w : World} (hr : HRel E base h w.heap) {p : Nat} {c : List Value} {own ex : Bool} {es : Nat} (hd : E.D p)
    (hg : h.get p = .cells c own ex es) (t : TypeId) (i : Nat) :
    (aggT P t = some false → i < c.length → ∃ v', VRel E (c.getD i undef) v' ∧ (loadVar t ⟨E.blk p, E.off p + i, none⟩).run P w = .ok v' w) ∧
    (∀ n, aggT P t = some true → szT P t = some n → i + n ≤ c.length →
      ∃ v', VRel E (.agg ((c.drop i).take n).toArray) v' ∧ (loadVar t ⟨E.blk p, E.off p + i, none⟩).run P w = .ok v' w) := by
  constructor
  · intro ha hi
    obtain ⟨v', h1, h2, h3⟩ := cell_at rfl hr hd hg hi
    refine ⟨v', h2, ?_⟩
    simp [loadVar, run_aggT ha, h1]
  · intro n ha hs hi
    have hc : ∀ j, j < n → w.cell? ((⟨E.blk p, E.off p + i, none⟩ : Addr).add j) = some (((w.cell? ⟨E.blk p, E.off p + i + j, none⟩)).getD undef) := by
      intro j hj
      rw [add_plain']
      obtain ⟨v', h1, _⟩ := cell_at (i := i + j) rfl hr hd hg (by omega)
      rw [Nat.add_assoc, h1]; rfl
    have hl := run_loadCells (P := P) w ⟨E.blk p, E.off p + i, none⟩ n _ hc
    refine ⟨.agg ((List.range n).map fun j => ((w.cell? ⟨E.blk p, E.off p + i + j, none⟩)).getD undef).toArray, ?_, ?_⟩
    · have hlen : ((c.drop i).take n).length = n := by simp; omega
      have hget : ∀ j, j < n → (((c.drop i).take n).toArray).getD j undef = c.getD (i + j) undef := by
        intro j hj
        simp [List.getD, hj]
      refine .agg _ _ (by simp; omega) ?_ ?_
      · intro j hj
        simp at hj
        have hj' : j < n := by omega
        rw [hget j hj']
        obtain ⟨v', h1, h2, h3⟩ := cell_at (i := i + j) rfl hr hd hg (by omega)
        exact h3
      · intro j hj
        simp at hj
        have hj' : j < n := by omega
        rw [hget j hj']
        obtain ⟨v', h1, h2, h3⟩ := cell_at (i := i + j) rfl hr hd hg (by omega)
        have hq : w.cell? ⟨E.blk p, E.off p + i + j, none⟩ = some v' := by rw [Nat.add_assoc]; exact h1
        have : (((List.range n).map fun j => ((w.cell? ⟨E.blk p, E.off p + i + j, none⟩)).getD undef).toArray).getD j undef = v' := by
          simp [hj', hq]
        rw [this]; exact h2
    · simp [loadVar, run_aggT ha, run_szT hs, hl]
section
variable {P : Program} {o : Oper} {tm : Nat → Value} {h : Hp}
theorem ok_load1 {t : TypeId} {x : Operand} {p i : Nat} {c : List Value} {own ex : Bool} {es : Nat} (ho : o.op = .load t x) (hx : ev tm x = .pointer (some ⟨p, i, none⟩)) (hx' : okX x = true)
    (hg : h.get p = .cells c own ex es) (ha : aggT P t = some false) (hi : i < c.length) : OpOK P o tm h (c.getD i undef) h := by
  refine OpOK.pure fun E base w a hr ht => ?_
  have hv := mem_ops (x := x) hx' (by rw [ho]; simp [Op.operands]) ht
  rw [hx] at hv
  obtain ⟨hd, e⟩ := hv.inv_ptr
  obtain ⟨v', h1, h2⟩ := (run_loadVar_eng (P := P) hr hd hg t i).1 ha hi
  exact ⟨v', h1, by simp [execOp, ho, e, Instr.loadAt, Instr.sureAddr, h2]⟩
theorem ok_loadN {t : TypeId} {x : Operand} {p i n : Nat} {c : List Value} {own ex : Bool} {es : Nat} (ho : o.op = .load t x) (hx : ev tm x = .pointer (some ⟨p, i, none⟩)) (hx' : okX x = true)
    (hg : h.get p = .cells c own ex es) (ha : aggT P t = some true) (hs : szT P t = some n) (hi : i + n ≤ c.length) : OpOK P o tm h (.agg ((c.drop i).take n).toArray) h := by
  refine OpOK.pure fun E base w a hr ht => ?_
  have hv := mem_ops (x := x) hx' (by rw [ho]; simp [Op.operands]) ht
  rw [hx] at hv
  obtain ⟨hd, e⟩ := hv.inv_ptr
  obtain ⟨v', h1, h2⟩ := (run_loadVar_eng (P := P) hr hd hg t i).2 n ha hs hi
  exact ⟨v', h1, by simp [execOp, ho, e, Instr.loadAt, Instr.sureAddr, h2]⟩
end
end Go.Eng
end
section
namespace Go.Eng
theorem new_row {P : Program} {o : Oper} {h : Hp} {E : Emb} {base : Nat} {w : World} {a : Act} {next : Act → World → Prop} {Q : Exit → Act → World → Prop}
    {v : Value} {c : List Value} {ex : Bool} {es s : Nat} {C : Array Value} {ty : TypeId} {u : Nat → Value} (hr : HRel E base h w.heap)
    (hsz : c.length + s * es ≤ C.size) (hc : ∀ i, i < c.length → VRel E (c.getD i undef) (C.getD i undef)) (h1 : ∀ i, i < c.length → (c.getD i undef).oneCell' = true)
    (hex : ex = true → s = 0)
    (hrun : (execOp a.eval o).run P w = .ok (.value (u w.heap.size)) (w.alloc (.cells C ty)))
    (hv : ∀ E' : Emb, E'.D h.next → E'.blk h.next = w.heap.size → E'.off h.next = 0 → E'.slk h.next = s → (∀ x y, VRel E x y → VRel E' x y) → VRel E' v (u w.heap.size))
    (hn : ∀ E' w' v', Step E h w E' (h.alloc (.cells c true ex es)) w' → HRel E' base (h.alloc (.cells c true ex es)) w'.heap → VRel E' v v' → next (a.put o.dst v') w') : o.wp P a w next Q := by
  have hD : ∀ i, E.D i → (E.add h.next w.heap.size 0 s).D i ∧ (E.add h.next w.heap.size 0 s).blk i = E.blk i ∧ (E.add h.next w.heap.size 0 s).off i = E.off i ∧ (E.add h.next w.heap.size 0 s).slk i = E.slk i := fun i hd => by
    obtain ⟨a, b, c, d⟩ := E.add_ext h.next w.heap.size 0 s i (hr.lt i hd); exact ⟨a.2 hd, b, c, d⟩
  have hx : ORel (E.add h.next w.heap.size 0 s) base (w.alloc (.cells C ty)).heap h.next (.cells c true ex es) := by
    refine ⟨C, ty, (0, 0), ?_, ?_, ?_, h1, ?_, ?_⟩
    · show (w.heap.push (.cells C ty))[(E.add h.next w.heap.size 0 s).blk h.next]? = _
      simp [Emb.add]
    · simp [Emb.add]; exact hsz
    · intro i hi
      have := (hc i hi).mono hD
      simpa [Emb.add] using this
    · intro _; simp [Emb.add]; exact hr.le
    · intro e; simpa [Emb.add] using hex e
  obtain ⟨st, hr'⟩ := step_alloc (w' := w.alloc (.cells C ty)) hr (.cells c true ex es) (.cells C ty) s rfl rfl rfl ⟨rfl, Nat.le_refl _⟩ hx
  unfold Oper.wp
  rw [hrun]
  exact hn _ _ _ st hr' (hv _ (by simp [Emb.add]) (by simp [Emb.add]) (by simp [Emb.add]) (by simp [Emb.add]) (fun x y hxy => hxy.mono hD))
section
variable {P : Program} {o : Oper} {tm : Nat → Value} {h : Hp}
theorem toList_getD (c : Array Value) (i : Nat) : c.toList.getD i undef = c.getD i undef := by simp
theorem ok_alloc {e : TypeId} {z : Value} (ho : o.op = .alloc e) (hz : zeroT P e = some z) (hp : plainV z = true) (h1 : z.oneCell' = true ∨ ∃ cs, z = .agg cs) :
    OpOK P o tm h (.pointer (some ⟨h.next, 0, none⟩)) (h.alloc (.cells z.cells.toList true true 1)) := by
  intro E base w a next Q hr ht hn
  have hzr := VRel.ofV E hp
  refine new_row (u := fun b => .pointer (some ⟨b, 0, none⟩)) (s := 0) (C := z.cells) (ty := e) hr (by simp) ?_ ?_ (fun _ => rfl) ?_ ?_ hn
  · intro i hi; rw [toList_getD]; exact hzr.cells.2 i (by simpa using hi)
  · intro i hi
    rw [toList_getD]
    rcases h1 with h1 | ⟨cs, rfl⟩
    · have hc : z.cells = #[z] := by cases z <;> first | rfl | cases h1
      rw [hc] at hi ⊢
      have : i = 0 := by simp at hi; exact hi
      subst this; exact h1
    · cases hzr with | agg _ _ _ h1 _ => exact h1 i (by simpa [Value.cells] using hi)
  · simp [execOp, ho, Instr.alloc, run_zeroT hz, newVar, newRow]
  · intro E' hd hb hf hs _
    have := VRel.ptr (E := E') h.next 0 hd
    rwa [hb, hf] at this
theorem VRel.cells_one {E : Emb} {v v' : Value} (h : VRel E v v') (h1 : v.oneCell' = true ∨ ∃ cs, v = .agg cs) : ∀ i, i < v.cells.size → (v.cells.getD i Go.undef).oneCell' = true := by
  intro i hi
  rcases h1 with h1 | ⟨cs, rfl⟩
  · have hc : v.cells = #[v] := by cases v <;> first | rfl | cases h1
    rw [hc] at hi ⊢
    have : i = 0 := by simp at hi; exact hi
    subst this; exact h1
  · cases h with | agg _ _ _ h1 _ => exact h1 i hi
def notTup : Value → Bool
  | .tuple _ => false
  | _ => true
theorem notTup_iff {v : Value} (h : notTup v = true) : v.oneCell' = true ∨ ∃ cs, v = .agg cs := by
  cases v <;> first | exact .inl rfl | exact .inr ⟨_, rfl⟩ | cases h
theorem ok_box {e : TypeId} {x : Operand} (ho : o.op = .box e x) (hx : okX x = true) (h1 : notTup (ev tm x) = true) :
    OpOK P o tm h (.pointer (some ⟨h.next, 0, none⟩)) (h.alloc (.cells (ev tm x).cells.toList true true 1)) := by
  intro E base w a next Q hr ht hn
  have hv := mem_ops (x := x) hx (by rw [ho]; simp [Op.operands]) ht
  refine new_row (u := fun b => .pointer (some ⟨b, 0, none⟩)) (s := 0) (C := (a.eval x).cells) (ty := e) hr (by simp [hv.cells.1]) ?_ ?_ (fun _ => rfl) ?_ ?_ hn
  · intro i hi; rw [toList_getD]; exact hv.cells.2 i (by simpa using hi)
  · intro i hi; rw [toList_getD]; exact hv.cells_one (notTup_iff h1) i (by simpa using hi)
  · simp [execOp, ho, Instr.box, newVar, newRow]
  · intro E' hd hb hf hs _
    have := VRel.ptr (E := E') h.next 0 hd
    rwa [hb, hf] at this
end
theorem run_storeCells_eng {P : Program} (b : Nat) (ty : TypeId) : ∀ (vs : List Value) (i o : Nat) (w : World) (C : Array Value), w.heap[b]? = some (.cells C ty (0, 0)) → o + i + vs.length ≤ C.size →
    (∀ v ∈ vs, v.oneCell' = true) →
    ∃ w' C', (storeCells ⟨b, o, none⟩ vs i).run P w = .ok () w' ∧ w'.heap[b]? = some (.cells C' ty (0, 0)) ∧ C'.size = C.size ∧
      (∀ j, C'.getD j undef = if o + i ≤ j ∧ j < o + i + vs.length then vs.getD (j - (o + i)) undef else C.getD j undef) ∧
      w'.heap.size = w.heap.size ∧ (∀ b', b' ≠ b → w'.heap[b']? = w.heap[b']?) ∧ w'.os = w.os ∧ w'.tape = w.tape ∧ Qui w w'
  | [], i, o, w, C, hb, _, _ => ⟨w, C, rfl, hb, rfl, fun j => by rw [if_neg (by simp only [List.length_nil]; omega)], rfl, fun _ _ => rfl, rfl, rfl, Qui.refl _⟩
  | v :: r, i, o, w, C, hb, hs, h1 => by
    simp only [List.length_cons] at hs
    have hcell : w.cell? ⟨b, o + i, none⟩ = some (C.getD (o + i) undef) := by
      simp only [World.cell?, hb, Option.isSome_none]
      rw [Array.getD_eq_getD_getElem?, Array.getElem?_eq_getElem (by omega)]
      rfl
    have hfz : w.frozen? ⟨b, o + i, none⟩ = false := by simp [World.frozen?, hb]
    have hst : (store ((⟨b, o, none⟩ : Addr).add i) v).run P w = .ok () (w.setCell ⟨b, o + i, none⟩ v) := by
      rw [add_plain', run_store P w _ v _ (h1 v (by simp)), hcell]; simp [hfz]
    have hblt : b < w.heap.size := (Array.getElem?_eq_some_iff.1 hb).1
    have hb2 : (w.setCell ⟨b, o + i, none⟩ v).heap[b]? = some (.cells (C.setIfInBounds (o + i) v) ty (0, 0)) := by
      simp only [World.setCell, Array.getElem?_modify, if_true, hb, Option.map_some]
      simp
    obtain ⟨w', C', hrun, g1, g2, g3, g4, g5, g6, g7, g8⟩ := run_storeCells_eng (P := P) b ty r (i + 1) o (w.setCell ⟨b, o + i, none⟩ v) (C.setIfInBounds (o + i) v) hb2 (by simp; omega) (fun x hx => h1 x (by simp [hx]))
    refine ⟨w', C', ?_, g1, by simpa using g2, ?_, by rw [g4]; simp, ?_, g6, g7, ⟨g8.out, g8.drawn⟩⟩
    · simp only [storeCells, Sem.run_bind, hst, Result.andThen_ok, hrun]
    · intro j
      rw [g3 j]
      simp only [List.length_cons]
      by_cases hj : j = o + i
      · subst hj
        rw [if_neg (by omega), if_pos (by omega)]
        simp [Array.getD_eq_getD_getElem?, show o + i < C.size by omega]
      · have hne : (C.setIfInBounds (o + i) v).getD j undef = C.getD j undef := by
          simp [Array.getD_eq_getD_getElem?, Array.getElem?_setIfInBounds_ne (show o + i ≠ j by omega)]
        by_cases hin : o + (i + 1) ≤ j ∧ j < o + (i + 1) + r.length
        · rw [if_pos hin, if_pos (by omega)]
          have : j - (o + i) = (j - (o + (i + 1))) + 1 := by omega
          rw [this, List.getD_cons_succ]
        · rw [if_neg hin, if_neg (by omega), hne]
    · intro b' hb'
      rw [g5 b' hb']
      simp only [World.setCell, Array.getElem?_modify]
      rw [if_neg (by intro e; exact hb' e.symm)]
def putCells (c : List Value) (i : Nat) (vs : List Value) : List Value := c.take i ++ (vs ++ c.drop (i + vs.length))
theorem putCells_length {c : List Value} {i : Nat} {vs : List Value} (h : i + vs.length ≤ c.length) : (putCells c i vs).length = c.length := by
  simp [putCells]; omega
theorem putCells_getD {c : List Value} {i : Nat} {vs : List Value} (h : i + vs.length ≤ c.length) (j : Nat) :
    (putCells c i vs).getD j undef = if i ≤ j ∧ j < i + vs.length then vs.getD (j - i) undef else c.getD j undef := by
  unfold putCells
  simp only [List.getD_eq_getElem?_getD]
  by_cases h1 : j < i
  · rw [if_neg (by omega), List.getElem?_append_left (by simp; omega)]
    simp [h1]
  · rw [List.getElem?_append_right (by simp; omega)]
    have hl : (c.take i).length = i := by simp; omega
    rw [hl]
    by_cases h2 : j < i + vs.length
    · rw [if_pos (by omega), List.getElem?_append_left (by omega)]
    · rw [if_neg (by omega), List.getElem?_append_right (by omega), List.getElem?_drop]
      congr 2; omega
theorem putCells_one {c : List Value} {i : Nat} {v : Value} (h : i < c.length) : putCells c i [v] = c.set i v := by
  unfold putCells
  rw [List.set_eq_take_append_cons_drop, if_pos h]
  rfl
theorem store_step {P : Program} {E : Emb} {base : Nat} {h : Hp} {w : World} (hr : HRel E base h w.heap) {p i : Nat} {c : List Value} {ex : Bool} {es : Nat} (hd : E.D p)
    (hg : h.get p = .cells c true ex es) {vs vs' : List Value} (hl : vs.length = vs'.length) (hi : i + vs.length ≤ c.length)
    (hv : ∀ j, j < vs.length → VRel E (vs.getD j undef) (vs'.getD j undef)) (h1 : ∀ j, j < vs.length → (vs.getD j undef).oneCell' = true) :
    ∃ w', (storeCells ⟨E.blk p, E.off p + i, none⟩ vs').run P w = .ok () w' ∧
      Step E h w E (h.put p (.cells (putCells c i vs) true ex es)) w' ∧ HRel E base (h.put p (.cells (putCells c i vs) true ex es)) w'.heap := by
  have h0 := hr.obj p hd
  rw [hg] at h0
  obtain ⟨C, ty, fz, g1, g2, g3, g4, g5, g6⟩ := h0
  obtain ⟨rfl, g7⟩ := g5 rfl
  have hone : ∀ v ∈ vs', v.oneCell' = true := by
    intro v hvm
    obtain ⟨j, hj, e⟩ := List.getElem_of_mem hvm
    have := hv j (by omega)
    have h2 := this.oneCell
    rw [h1 j (by omega)] at h2
    rw [List.getD_eq_getElem?_getD, List.getElem?_eq_getElem hj] at h2
    rw [← e]; exact h2
  obtain ⟨w', C', k1, k2, k3, k4, k5, k6, k7, k8, k9⟩ := run_storeCells_eng (P := P) (E.blk p) ty vs' 0 (E.off p + i) w C g1 (by omega) hone
  have hx : ORel E base w'.heap p (.cells (putCells c i vs) true ex es) := by
    refine ⟨C', ty, (0, 0), k2, ?_, ?_, ?_, fun _ => ⟨rfl, g7⟩, g6⟩
    · rw [putCells_length hi, k3]; exact g2
    · intro j hj
      rw [putCells_length hi] at hj
      rw [putCells_getD hi, k4]
      by_cases hin : i ≤ j ∧ j < i + vs.length
      · rw [if_pos hin, if_pos (by omega)]
        have := hv (j - i) (by omega)
        rwa [show E.off p + j - (E.off p + i + 0) = j - i by omega]
      · rw [if_neg hin, if_neg (by omega)]
        exact g3 j hj
    · intro j hj
      rw [putCells_length hi] at hj
      rw [putCells_getD hi]
      by_cases hin : i ≤ j ∧ j < i + vs.length
      · rw [if_pos hin]; exact h1 _ (by omega)
      · rw [if_neg hin]; exact g4 j hj
  obtain ⟨st, hr'⟩ := step_put hr p (.cells (putCells c i vs) true ex es) hd (by rw [hg]; rfl) k5 k6 k7 k8 k9 hx
  exact ⟨w', k1, st, hr'⟩
section
variable {P : Program} {o : Oper} {tm : Nat → Value} {h : Hp}
theorem ok_store {t : TypeId} {x y : Operand} {p i n : Nat} {c : List Value} {ex : Bool} {es : Nat} (ho : o.op = .store t x y) (hx : ev tm x = .pointer (some ⟨p, i, none⟩)) (hx' : okX x = true)
    (hy' : okX y = true) (hy : notTup (ev tm y) = true) (hg : h.get p = .cells c true ex es) (hs : szT P t = some n) (hn' : (ev tm y).cells.size = n) (hi : i + n ≤ c.length) :
    OpOK P o tm h undef (h.put p (.cells (putCells c i (ev tm y).cells.toList) true ex es)) := by
  intro E base w a next Q hr ht hn
  have hv := mem_ops (x := x) hx' (by rw [ho]; simp [Op.operands]) ht
  have hu := mem_ops (x := y) hy' (by rw [ho]; simp [Op.operands]) ht
  rw [hx] at hv
  obtain ⟨hd, e⟩ := hv.inv_ptr
  obtain ⟨w', k1, st, hr'⟩ := store_step (P := P) hr hd hg (i := i) (vs := (ev tm y).cells.toList) (vs' := (a.eval y).cells.toList) (by simp [hu.cells.1]) (by simp; omega)
    (fun j hj => by rw [toList_getD, toList_getD]; exact hu.cells.2 j (by simpa using hj)) (fun j hj => by rw [toList_getD]; exact hu.cells_one (notTup_iff hy) j (by simpa using hj))
  unfold Oper.wp
  have hrun : (execOp a.eval o).run P w = .ok .skip w' := by
    simp [execOp, ho, e, Instr.storeAt, Instr.sureAddr, storeVar, run_szT hs, ← hu.cells.1, hn', k1]
  rw [hrun]
  exact hn E w' undef st hr' (VRel.undef E)
end
end Go.Eng
end
section
namespace Go.Eng
def fldT (P : Program) (s : TypeId) (f : Nat) : Option (Nat × Nat × Bool) :=
  match P.underlying s with
  | some (.struct fs) => match fs[f]? with
    | some fd => match szT P fd.type, aggT P fd.type with
      | some n, some b => some (fd.offset, n, b)
      | _, _ => none
    | none => none
  | _ => none
def elT (P : Program) (t : TypeId) : Option TypeId := match P.underlying t with | some (.slice e) => some e | _ => none
def arT (P : Program) (t : TypeId) : Option (Nat × TypeId) := match P.underlying t with | some (.array n e) => some (n, e) | _ => none
def inT (P : Program) (t : TypeId) : Option IntKind := match P.underlying t with | some (.int k) => some k | _ => none
theorem elT_spec {P : Program} {t e : TypeId} (h : elT P t = some e) : P.underlying t = some (.slice e) := by
  unfold elT at h; split at h <;> simp_all
theorem arT_spec {P : Program} {t e : TypeId} {n : Nat} (h : arT P t = some (n, e)) : P.underlying t = some (.array n e) := by
  unfold arT at h; split at h <;> simp_all
theorem inT_spec {P : Program} {t : TypeId} {k : IntKind} (h : inT P t = some k) : P.underlying t = some (.int k) := by
  unfold inT at h; split at h <;> simp_all
theorem fldT_spec {P : Program} {s : TypeId} {f off n : Nat} {b : Bool} (h : fldT P s f = some (off, n, b)) :
    ∃ fs fd, P.underlying s = some (.struct fs) ∧ fs[f]? = some fd ∧ fd.offset = off ∧ szT P fd.type = some n ∧ aggT P fd.type = some b := by
  unfold fldT at h
  split at h
  · rename_i fs hs
    split at h
    · rename_i fd hf
      split at h
      · rename_i n' b' hn hb
        simp only [Option.some.injEq, Prod.mk.injEq] at h
        obtain ⟨rfl, rfl, rfl⟩ := h
        exact ⟨fs, fd, hs, hf, rfl, hn, hb⟩
      · cases h
    · cases h
  · cases h
section
variable {P : Program} {o : Oper} {tm : Nat → Value} {h : Hp}
theorem ok_fieldAddr {s : TypeId} {x : Operand} {p i f off n : Nat} {b : Bool} (ho : o.op = .fieldAddr s x f) (hx : ev tm x = .pointer (some ⟨p, i, none⟩)) (hx' : okX x = true)
    (hf : fldT P s f = some (off, n, b)) (hn : n ≠ 0) : OpOK P o tm h (.pointer (some ⟨p, i + off, none⟩)) h := by
  refine OpOK.pure fun E base w a hr ht => ?_
  have hv := mem_ops (x := x) hx' (by rw [ho]; simp [Op.operands]) ht
  rw [hx] at hv
  obtain ⟨hd, e⟩ := hv.inv_ptr
  obtain ⟨fs, fd, h1, h2, h3, h4, h5⟩ := fldT_spec hf
  refine ⟨.pointer (some ⟨E.blk p, E.off p + (i + off), none⟩), .ptr p (i + off) hd, ?_⟩
  simp [execOp, ho, e, Instr.fieldAt, run_underlying h1, h2, Instr.sureAddr, fieldPlace, run_szT h4, hn, h3, add_plain', Nat.add_assoc]
theorem getD_extract {c : Array Value} {a b i : Nat} (hi : i < b - a) (hb : b ≤ c.size) : (c.extract a b).getD i undef = c.getD (a + i) undef := by
  rw [Array.getD_eq_getD_getElem?, Array.getD_eq_getD_getElem?, Array.getElem?_extract]
  rw [if_pos (by omega)]
theorem getD_some {c : Array Value} {i : Nat} (hi : i < c.size) : ∃ z, c[i]? = some z ∧ c.getD i undef = z :=
  ⟨c[i], by rw [Array.getElem?_eq_getElem hi], by rw [Array.getD_eq_getD_getElem?, Array.getElem?_eq_getElem hi]; rfl⟩
def partV (b : Bool) (cs : Array Value) (off n : Nat) : Value := if b then .agg (cs.extract off (off + n)) else cs.getD off undef
theorem run_part_eng {E : Emb} {w : World} {cs cs' : Array Value} {t : TypeId} {off n : Nat} {b : Bool} (hv : VRel E (.agg cs) (.agg cs')) (hs : szT P t = some n) (hb : aggT P t = some b)
    (hi : off + n ≤ cs.size) (hn : n ≠ 0) : ∃ v', VRel E (partV b cs off n) v' ∧ (part t cs' off).run P w = .ok v' w := by
  have hsz : cs.size = cs'.size ∧ (∀ i, i < cs.size → (cs.getD i undef).oneCell' = true) ∧ ∀ i, i < cs.size → VRel E (cs.getD i undef) (cs'.getD i undef) := by
    cases hv; exact ⟨by assumption, by assumption, by assumption⟩
  obtain ⟨g1, g2, g3⟩ := hsz
  cases b with
  | true =>
    refine ⟨.agg (cs'.extract off (off + n)), ?_, by simp [part, run_aggT hb, run_szT hs]⟩
    refine .agg _ _ (by simp; omega) ?_ ?_
    · intro i hi'
      simp at hi'
      rw [getD_extract (by omega) (by omega)]
      exact g2 _ (by omega)
    · intro i hi'
      simp at hi'
      rw [getD_extract (by omega) (by omega), getD_extract (by omega) (by omega)]
      exact g3 _ (by omega)
  | false =>
    obtain ⟨z, hz, hz'⟩ := getD_some (c := cs') (i := off) (by omega)
    refine ⟨z, hz' ▸ g3 off (by omega), ?_⟩
    simp [part, run_aggT hb, hz]
theorem VRel.inv_agg {E : Emb} {cs : Array Value} {v' : Value} (h : VRel E (.agg cs) v') : ∃ cs', v' = .agg cs' := by cases h; exact ⟨_, rfl⟩
theorem ok_field {s : TypeId} {x : Operand} {f off n : Nat} {b : Bool} {cs : Array Value} (ho : o.op = .field s x f) (hx : ev tm x = .agg cs) (hx' : okX x = true)
    (hf : fldT P s f = some (off, n, b)) (hn : n ≠ 0) (hi : off + n ≤ cs.size) : OpOK P o tm h (partV b cs off n) h := by
  refine OpOK.pure fun E base w a hr ht => ?_
  have hv := mem_ops (x := x) hx' (by rw [ho]; simp [Op.operands]) ht
  rw [hx] at hv
  obtain ⟨cs', e⟩ := hv.inv_agg
  rw [e] at hv
  obtain ⟨fs, fd, h1, h2, h3, h4, h5⟩ := fldT_spec hf
  obtain ⟨v', k1, k2⟩ := run_part_eng (P := P) (w := w) (t := fd.type) hv h4 h5 hi hn
  exact ⟨v', k1, by simp [execOp, ho, e, Instr.field, run_underlying h1, h2, asAgg, h3, k2]⟩
theorem ok_indexAddr {t e : TypeId} {x y : Operand} {p i n c m : Nat} {k : IntKind} {j : Int} (ho : o.op = .indexAddr t x y) (hx : ev tm x = .slice (some ⟨p, i, none⟩) n c) (hx' : okX x = true)
    (hy : ev tm y = .int k j) (hy' : okX y = true) (ht' : elT P t = some e) (hs : szT P e = some m) (h0 : 0 ≤ j) (h1 : j < n) :
    OpOK P o tm h (.pointer (some ⟨p, i + j.toNat * m, none⟩)) h := by
  refine OpOK.pure fun E base w a hr ht => ?_
  have hv := mem_ops (x := x) hx' (by rw [ho]; simp [Op.operands]) ht
  have hu := mem_ops (x := y) hy' (by rw [ho]; simp [Op.operands]) ht
  rw [hx] at hv
  rw [hy] at hu
  obtain ⟨hnc, s, ad, ev, hq⟩ := hv.inv_slice
  obtain ⟨hd, hs', had⟩ := hq.resolve_right (fun h => h)
  have had : ad = ⟨E.blk p, E.off p + i, none⟩ := had.resolve_left (by omega)
  subst had
  refine ⟨.pointer (some ⟨E.blk p, E.off p + (i + j.toNat * m), none⟩), .ptr p _ hd, ?_⟩
  have hb : 0 ≤ j ∧ j < n := ⟨h0, h1⟩
  simp [execOp, ho, ev, hu.inv_int, Instr.indexAt, asIntOf, run_underlying (elT_spec ht'), run_szT hs, hb, add_plain', Nat.add_assoc]
theorem ok_indexAddrA {t e : TypeId} {x y : Operand} {p i n m : Nat} {k : IntKind} {j : Int} (ho : o.op = .indexAddr t x y) (hx : ev tm x = .pointer (some ⟨p, i, none⟩)) (hx' : okX x = true)
    (hy : ev tm y = .int k j) (hy' : okX y = true) (ht' : arT P t = some (n, e)) (hs : szT P e = some m) (h0 : 0 ≤ j) (h1 : j < n) :
    OpOK P o tm h (.pointer (some ⟨p, i + j.toNat * m, none⟩)) h := by
  refine OpOK.pure fun E base w a hr ht => ?_
  have hv := mem_ops (x := x) hx' (by rw [ho]; simp [Op.operands]) ht
  have hu := mem_ops (x := y) hy' (by rw [ho]; simp [Op.operands]) ht
  rw [hx] at hv
  rw [hy] at hu
  obtain ⟨hd, ev⟩ := hv.inv_ptr
  refine ⟨.pointer (some ⟨E.blk p, E.off p + (i + j.toNat * m), none⟩), .ptr p _ hd, ?_⟩
  have hb : 0 ≤ j ∧ j < n := ⟨h0, h1⟩
  simp [execOp, ho, ev, hu.inv_int, Instr.indexAt, asIntOf, run_underlying (arT_spec ht'), run_szT hs, hb, add_plain', Nat.add_assoc, Instr.sureAddr]
theorem ok_indexA {t e : TypeId} {x y : Operand} {n m : Nat} {b : Bool} {k : IntKind} {j : Int} {cs : Array Value} (ho : o.op = .index t x y) (hx : ev tm x = .agg cs) (hx' : okX x = true)
    (hy : ev tm y = .int k j) (hy' : okX y = true) (ht' : arT P t = some (n, e)) (hs : szT P e = some m) (hb : aggT P e = some b) (h0 : 0 ≤ j) (h1 : j < n) (hm : m ≠ 0) (hi : j.toNat * m + m ≤ cs.size) :
    OpOK P o tm h (partV b cs (j.toNat * m) m) h := by
  refine OpOK.pure fun E base w a hr ht => ?_
  have hv := mem_ops (x := x) hx' (by rw [ho]; simp [Op.operands]) ht
  have hu := mem_ops (x := y) hy' (by rw [ho]; simp [Op.operands]) ht
  rw [hx] at hv
  rw [hy] at hu
  obtain ⟨cs', e⟩ := hv.inv_agg
  rw [e] at hv
  obtain ⟨v', k1, k2⟩ := run_part_eng (P := P) (w := w) hv hs hb hi hm
  have hbd : 0 ≤ j ∧ j < n := ⟨h0, h1⟩
  exact ⟨v', k1, by simp [execOp, ho, e, hu.inv_int, Instr.index, asIntOf, run_underlying (arT_spec ht'), run_szT hs, hbd, k2]⟩
theorem ok_indexS {t : TypeId} {x y : Operand} {k : IntKind} {j : Int} {s : ByteArray} (ho : o.op = .index t x y) (hx : ev tm x = .string s) (hx' : okX x = true)
    (hy : ev tm y = .int k j) (hy' : okX y = true) (ht' : P.underlying t = some .string) (h0 : 0 ≤ j) (h1 : j.toNat < s.size) :
    OpOK P o tm h (.int .u8 (s[j.toNat].toNat : Int)) h := by
  refine OpOK.pure fun E base w a hr ht => ?_
  have hv := mem_ops (x := x) hx' (by rw [ho]; simp [Op.operands]) ht
  have hu := mem_ops (x := y) hy' (by rw [ho]; simp [Op.operands]) ht
  rw [hx] at hv
  rw [hy] at hu
  refine ⟨_, .int _ _, ?_⟩
  simp [execOp, ho, hv.inv_string, hu.inv_int, Instr.index, asIntOf, run_underlying ht', h0, h1]
theorem ok_extract {x : Operand} {i : Nat} {vs : Array Value} (ho : o.op = .extract x i) (hx : ev tm x = .tuple vs) (hx' : okX x = true) (hi : i < vs.size) : OpOK P o tm h (vs.getD i undef) h := by
  refine OpOK.pure fun E base w a hr ht => ?_
  have hv := mem_ops (x := x) hx' (by rw [ho]; simp [Op.operands]) ht
  rw [hx] at hv
  generalize hav : a.eval x = v' at hv
  cases hv with
  | tuple _ cs' hs hh =>
    obtain ⟨z, hz, hz'⟩ := getD_some (c := cs') (i := i) (by omega)
    refine ⟨z, hz' ▸ hh i hi, ?_⟩
    simp [execOp, ho, hav, Instr.extract, hz]
theorem ok_makeFunc {fn : Fn} {f c : Array Operand} (ho : o.op = .makeFunc fn f c) (hf : f.all okX = true) (hc : c.all okX = true) :
    OpOK P o tm h (.func fn (f.map (ev tm)) (c.map (ev tm))) h := by
  refine OpOK.pure fun E base w a hr ht => ⟨.func fn (f.map a.eval) (c.map a.eval), ?_, by simp [execOp, ho, Instr.makeFunc]⟩
  have key : ∀ (l : Array Operand), l.all okX = true → (∀ x ∈ l, x ∈ o.op.operands) → ∀ i, i < (l.map (ev tm)).size → VRel E ((l.map (ev tm)).getD i undef) ((l.map a.eval).getD i undef) := by
    intro l hl hm i hi
    simp at hi
    have e1 : (l.map (ev tm)).getD i undef = ev tm l[i] := by simp [Array.getD_eq_getD_getElem?, hi]
    have e2 : (l.map a.eval).getD i undef = a.eval l[i] := by simp [Array.getD_eq_getD_getElem?, hi]
    rw [e1, e2]
    rw [Array.all_eq_true] at hl
    exact mem_ops (hl i hi) (hm _ (Array.getElem_mem hi)) ht
  exact .func _ _ _ _ _ (by simp) (by simp) (key f hf (fun x hx => by rw [ho]; simp [Op.operands, hx])) (key c hc (fun x hx => by rw [ho]; simp [Op.operands, hx]))
end
def intBin (op : BinOp) (k : IntKind) (x y : Int) : Option Value :=
  match op with
  | .add => some (.int k (k.wrap (x + y)))
  | .sub => some (.int k (k.wrap (x - y)))
  | .mul => some (.int k (k.wrap (x * y)))
  | .quo => if y = 0 then none else some (.int k (k.wrap (x.tdiv y)))
  | .rem => if y = 0 then none else some (.int k (x.tmod y))
  | .and => some (.int k (k.wrap (BitVec.ofInt k.bits x &&& BitVec.ofInt k.bits y).toNat))
  | .or => some (.int k (k.wrap (BitVec.ofInt k.bits x ||| BitVec.ofInt k.bits y).toNat))
  | .xor => some (.int k (k.wrap (BitVec.ofInt k.bits x ^^^ BitVec.ofInt k.bits y).toNat))
  | .andNot => some (.int k (k.wrap (BitVec.ofInt k.bits x &&& ~~~(BitVec.ofInt k.bits y)).toNat))
  | .eql => some (.bool (x == y))
  | .neq => some (.bool (x != y))
  | .lss => some (.bool (x < y))
  | .leq => some (.bool (x ≤ y))
  | .gtr => some (.bool (x > y))
  | .geq => some (.bool (x ≥ y))
  | _ => none
def shiftV (op : BinOp) (k : IntKind) (x y : Int) : Option Value :=
  if y < 0 then none else
  match op with
  | .shl => some (.int k (k.wrap (x * 2 ^ min y.toNat k.bits)))
  | .shr => some (.int k (x.fdiv (2 ^ min y.toNat k.bits)))
  | _ => none
def strBin (op : BinOp) (x y : ByteArray) : Option Value :=
  match op with
  | .add => if ((x.size + y.size : Nat) : Int) > IntKind.i64.max then none else some (.string (x ++ y))
  | .eql => some (.bool (x.toList == y.toList))
  | .neq => some (.bool !(x.toList == y.toList))
  | .lss => some (.bool (Op.bytesLess x.toList y.toList))
  | .leq => some (.bool (Op.bytesLess x.toList y.toList || x.toList == y.toList))
  | .gtr => some (.bool !(Op.bytesLess x.toList y.toList || x.toList == y.toList))
  | .geq => some (.bool !(Op.bytesLess x.toList y.toList))
  | _ => none
def isShift : BinOp → Bool
  | .shl | .shr => true
  | _ => false
def binV (op : BinOp) (x y : Value) : Option Value :=
  match x, y with
  | .int k a, .int k' b => if isShift op = true then shiftV op k a b else if k ≠ k' then none else intBin op k a b
  | .string a, .string b => strBin op a b
  | _, _ => none
theorem plain_bin {op : BinOp} {k : IntKind} {x y : Int} {r : Value} (h : intBin op k x y = some r) : plainS r = true := by
  cases op <;> simp [intBin] at h <;> first | (obtain ⟨_, rfl⟩ := h; rfl) | (subst h; rfl)
theorem plain_shift {op : BinOp} {k : IntKind} {x y : Int} {r : Value} (h : shiftV op k x y = some r) : plainS r = true := by
  unfold shiftV at h
  split at h
  · cases h
  · cases op <;> simp at h <;> (subst h; rfl)
theorem plain_str {op : BinOp} {x y : ByteArray} {r : Value} (h : strBin op x y = some r) : plainS r = true := by
  cases op <;> simp [strBin] at h <;> first | (obtain ⟨_, rfl⟩ := h; rfl) | (subst h; rfl)
theorem run_binV {P : Program} {w : World} {op : BinOp} {t : TypeId} {u v : Value} {x y : Operand} {r : Value} (h : binV op u v = some r) :
    plainS r = true ∧ ((do eqGuard op t x y u v; binOp op t u v : Sem Value)).run P w = .ok r w := by
  unfold binV at h
  split at h
  · rename_i k a k' b
    have hg : (eqGuard op t x y (.int k a) (.int k' b)).run P w = .ok () w := by
      unfold eqGuard; split <;> rfl
    by_cases hsh : isShift op = true
    · rw [if_pos hsh] at h
      refine ⟨plain_shift h, ?_⟩
      unfold shiftV at h
      split at h
      · cases h
      · rename_i hb
        cases op <;> simp [isShift] at hsh <;> simp at h <;> subst h <;> simp [hg, binOp, Op.shift, hb]
    · rw [if_neg hsh] at h
      by_cases hk : k = k'
      · subst hk
        simp only [ne_eq, not_true_eq_false, if_false] at h
        refine ⟨plain_bin h, ?_⟩
        cases op <;> simp [isShift] at hsh <;> simp [intBin] at h <;>
          first
            | (obtain ⟨h0, rfl⟩ := h; simp [hg, binOp, Op.intDiv, h0])
            | (subst h; simp [hg, binOp, Op.intArith, Op.intBits, Op.intCmp])
      · rw [if_pos hk] at h; cases h
  · rename_i a b
    have hg : (eqGuard op t x y (.string a) (.string b)).run P w = .ok () w := by
      unfold eqGuard; split <;> rfl
    refine ⟨plain_str h, ?_⟩
    cases op <;> simp [strBin] at h <;>
      first
        | (obtain ⟨h0, rfl⟩ := h; simp [hg, binOp, Op.stringOp]; omega)
        | (subst h; simp [hg, binOp, Op.stringOp])
  · cases h
section
variable {P : Program} {o : Oper} {tm : Nat → Value} {h : Hp}
theorem ok_binOp {op : BinOp} {t t' : TypeId} {x y : Operand} {r : Value} (ho : o.op = .binOp op t x y t') (hx' : okX x = true) (hy' : okX y = true) (hb : binV op (ev tm x) (ev tm y) = some r) :
    OpOK P o tm h r h := by
  refine OpOK.pure fun E base w a hr ht => ?_
  have hv := mem_ops (x := x) hx' (by rw [ho]; simp [Op.operands]) ht
  have hu := mem_ops (x := y) hy' (by rw [ho]; simp [Op.operands]) ht
  have e : a.eval x = ev tm x ∧ a.eval y = ev tm y := by
    unfold binV at hb
    split at hb
    · rename_i h1 h2
      rw [h1] at hv ⊢; rw [h2] at hu ⊢
      exact ⟨hv.inv_int, hu.inv_int⟩
    · rename_i h1 h2
      rw [h1] at hv ⊢; rw [h2] at hu ⊢
      exact ⟨hv.inv_string, hu.inv_string⟩
    · cases hb
  obtain ⟨h1, h2⟩ := run_binV (P := P) (w := w) (t := t) (x := x) (y := y) hb
  refine ⟨r, .ofS E h1, ?_⟩
  have h2' := h2
  rw [Sem.run_bind] at h2'
  simp only [execOp, ho, e.1, e.2]
  rw [Sem.run_bind, h2]
  rfl
end
end Go.Eng
end
section
namespace Go.Eng
section
variable {P : Program} {o : Oper} {tm : Nat → Value} {h : Hp}
def unV (op : UnOp) (x : Value) : Option Value :=
  match op, x with
  | .neg, .int k n => some (.int k (k.wrap (0 - n)))
  | .xor, .int k n => intBin .xor k (if k.signed then -1 else k.max) n
  | .not, .bool b => some (.bool !b)
  | _, _ => none
theorem ok_unOp {op : UnOp} {t : TypeId} {x : Operand} {r : Value} (ho : o.op = .unOp op t x) (hx' : okX x = true) (hb : unV op (ev tm x) = some r) : OpOK P o tm h r h := by
  refine OpOK.pure fun E base w a hr ht => ?_
  have hv := mem_ops (x := x) hx' (by rw [ho]; simp [Op.operands]) ht
  unfold unV at hb
  split at hb
  · rename_i h1; rw [h1] at hv; injection hb with hb; subst hb
    exact ⟨_, .int _ _, by simp [execOp, ho, hv.inv_int, Op.unary, Op.intArith]⟩
  · rename_i k n h1; rw [h1] at hv
    simp only [intBin, Option.some.injEq] at hb; subst hb
    exact ⟨_, .int _ _, by simp [execOp, ho, hv.inv_int, Op.unary, Op.intBits]⟩
  · rename_i h1; rw [h1] at hv; injection hb with hb; subst hb
    exact ⟨_, .bool _, by simp [execOp, ho, hv.inv_bool, Op.unary]⟩
  · cases hb
theorem ok_convInt {s d : TypeId} {x : Operand} {k k' : IntKind} {n : Int} (ho : o.op = .convert s d x) (hx : ev tm x = .int k n) (hx' : okX x = true)
    (hs : (P.underlying s).isSome = true) (hd : inT P d = some k') : OpOK P o tm h (.int k' (k'.wrap n)) h := by
  refine OpOK.pure fun E base w a hr ht => ?_
  have hv := mem_ops (x := x) hx' (by rw [ho]; simp [Op.operands]) ht
  rw [hx] at hv
  obtain ⟨ds, hds⟩ := Option.isSome_iff_exists.mp hs
  exact ⟨_, .int _ _, by simp [execOp, ho, hv.inv_int, convert, run_underlying hds, run_underlying (inT_spec hd), Conv.intToInt]⟩
def eqV (P : Program) (t : TypeId) (x y : Value) : Option Bool :=
  match P.underlying t, x, y with
  | some .bool, .bool a, .bool b => some (a == b)
  | some (.slice _), .slice none _ _, .slice b _ _ => some b.isNone
  | some (.slice _), .slice (some _) _ _, .slice none _ _ => some false
  | some (.interface _), .nilIface, .iface _ _ => some false
  | some (.interface _), .iface _ _, .nilIface => some false
  | some (.interface _), .nilIface, .nilIface => some true
  | some (.map _ _), .map none, .map b => some b.isNone
  | some (.map _ _), .map (some _), .map none => some false
  | some (.pointer _), .pointer none, .pointer b => some b.isNone
  | some (.pointer _), .pointer (some _), .pointer none => some false
  | some (.func _ _ _), .nilFunc, .nilFunc => some true
  | some (.func _ _ _), .nilFunc, .func _ _ _ => some false
  | some (.func _ _ _), .func _ _ _, .nilFunc => some false
  | _, _, _ => none
def isC : Operand → Bool
  | .const _ => true
  | _ => false
def nIf : Value → Bool
  | .nilIface => false
  | _ => true
theorem VRel.nIf {E : Emb} {u u' : Value} (h : VRel E u u') : nIf u' = nIf u := by cases h <;> rfl
theorem run_eqV {E : Emb} {w : World} {t : TypeId} {u v u' v' : Value} {b : Bool} (hu : VRel E u u') (hv : VRel E v v') (h : eqV P t u v = some b) :
    (Op.equal t u' v').run P w = .ok b w := by
  unfold eqV at h
  unfold Op.equal
  obtain ⟨d, hd⟩ : ∃ d, Op.maxDepth = d + 1 := ⟨9999, rfl⟩
  rw [hd]
  clear hd
  split at h <;> first
    | (rename_i hk; injection h with h; subst h; cases hu <;> cases hv <;> simp [Op.equalIn, run_underlying hk])
    | cases h
theorem binOp_eq_other {t : TypeId} {u v : Value} (h : ∀ k n, u ≠ .int k n) (h2 : ∀ s, u ≠ .string s) (h3 : ∀ k b, u ≠ .float k b) (h4 : ∀ k b c, u ≠ .complex k b c) :
    binOp .eql t u v = (do pure (.bool (← Op.equal t u v)) : Sem Value) := by
  unfold binOp
  split <;> simp_all
theorem binOp_neq_other {t : TypeId} {u v : Value} (h : ∀ k n, u ≠ .int k n) (h2 : ∀ s, u ≠ .string s) (h3 : ∀ k b, u ≠ .float k b) (h4 : ∀ k b c, u ≠ .complex k b c) :
    binOp .neq t u v = (do pure (.bool (!(← Op.equal t u v))) : Sem Value) := by
  unfold binOp
  split <;> simp_all
theorem eqV_left {t : TypeId} {u v : Value} {b : Bool} (h : eqV P t u v = some b) : (∀ k n, u ≠ .int k n) ∧ (∀ s, u ≠ .string s) ∧ (∀ k b, u ≠ .float k b) ∧ (∀ k b c, u ≠ .complex k b c) ∧ (∀ c, u ≠ .agg c) := by
  refine ⟨?_, ?_, ?_, ?_, ?_⟩ <;> intros <;> intro e <;> subst e <;> simp [eqV] at h
theorem VRel.shape {E : Emb} {u u' : Value} (h : VRel E u u') (g : (∀ k n, u ≠ .int k n) ∧ (∀ s, u ≠ .string s) ∧ (∀ k b, u ≠ .float k b) ∧ (∀ k b c, u ≠ .complex k b c) ∧ (∀ c, u ≠ .agg c)) :
    (∀ k n, u' ≠ .int k n) ∧ (∀ s, u' ≠ .string s) ∧ (∀ k b, u' ≠ .float k b) ∧ (∀ k b c, u' ≠ .complex k b c) ∧ (∀ c, u' ≠ .agg c) := by
  cases h <;> simp_all
theorem run_guard {w : World} {op : BinOp} {t : TypeId} {x y : Operand} {u v : Value} (h : ∀ c, u ≠ .agg c) (hc : isC x = true ∨ isC y = true ∨ nIf u = true) :
    (eqGuard op t x y u v).run P w = .ok () w := by
  unfold eqGuard
  cases hop : op <;> simp <;> split <;> simp_all <;> (rcases hc with hc | hc | hc <;> (cases x <;> cases y <;> simp_all [isC, nIf]))
theorem ok_eq {t t' : TypeId} {x y : Operand} {b : Bool} (ho : o.op = .binOp .eql t x y t') (hx' : okX x = true) (hy' : okX y = true) (hb : eqV P t (ev tm x) (ev tm y) = some b)
    (hc : isC x = true ∨ isC y = true ∨ nIf (ev tm x) = true) : OpOK P o tm h (.bool b) h := by
  refine OpOK.pure fun E base w a hr ht => ⟨_, .bool b, ?_⟩
  have hv := mem_ops (x := x) hx' (by rw [ho]; simp [Op.operands]) ht
  have hu := mem_ops (x := y) hy' (by rw [ho]; simp [Op.operands]) ht
  obtain ⟨h1, h2, h3, h4, h5⟩ := hv.shape (eqV_left hb)
  simp [execOp, ho, run_guard h5 (by rw [hv.nIf]; exact hc), binOp_eq_other h1 h2 h3 h4, run_eqV hv hu hb]
theorem ok_neq {t t' : TypeId} {x y : Operand} {b : Bool} (ho : o.op = .binOp .neq t x y t') (hx' : okX x = true) (hy' : okX y = true) (hb : eqV P t (ev tm x) (ev tm y) = some b)
    (hc : isC x = true ∨ isC y = true ∨ nIf (ev tm x) = true) : OpOK P o tm h (.bool !b) h := by
  refine OpOK.pure fun E base w a hr ht => ⟨_, .bool !b, ?_⟩
  have hv := mem_ops (x := x) hx' (by rw [ho]; simp [Op.operands]) ht
  have hu := mem_ops (x := y) hy' (by rw [ho]; simp [Op.operands]) ht
  obtain ⟨h1, h2, h3, h4, h5⟩ := hv.shape (eqV_left hb)
  simp [execOp, ho, run_guard h5 (by rw [hv.nIf]; exact hc), binOp_neq_other h1 h2 h3 h4, run_eqV hv hu hb]
def zcells (z : Value) (n : Nat) : List Value := (List.range (n * z.cells.size)).map fun i => z.cells.getD (i % z.cells.size) undef
theorem zcells_one {z : Value} (h : z.cells = #[z]) (n : Nat) : zcells z n = List.replicate n z := by
  unfold zcells
  rw [h]
  apply List.ext_getElem
  · simp
  · intro i h1 h2
    simp [Nat.mod_one]
theorem ok_makeSlice {t e : TypeId} {x y : Operand} {z : Value} {n c m b : Nat} {k k' : IntKind} (ho : o.op = .makeSlice t x y) (hx : ev tm x = .int k n) (hx' : okX x = true)
    (hy : ev tm y = .int k' c) (hy' : okX y = true) (ht' : elT P t = some e) (hz : zeroT P e = some z) (hm : szT P e = some m) (hzm : z.cells.size = m) (hbt : byT P e = some b)
    (hp : plainV z = true) (hz1 : notTup z = true) (hnc : n ≤ c) (hc : c < 2 ^ 47) (hcb : b * c ≤ 2 ^ 48) :
    OpOK P o tm h (.slice (some ⟨h.next, 0, none⟩) n c) (h.alloc (.cells (zcells z c) true true m)) := by
  intro E base w a next Q hr ht hn
  have hv := mem_ops (x := x) hx' (by rw [ho]; simp [Op.operands]) ht
  have hu := mem_ops (x := y) hy' (by rw [ho]; simp [Op.operands]) ht
  rw [hx] at hv
  rw [hy] at hu
  have hzr := VRel.ofV E hp
  have hsz : ∀ i, i < (zcells z c).length → i % z.cells.size < z.cells.size := by
    intro i hi
    simp [zcells] at hi
    exact Nat.mod_lt _ (Nat.pos_of_ne_zero (fun e => by rw [e] at hi; simp at hi))
  have hgd : ∀ i, i < (zcells z c).length → (zcells z c).getD i undef = z.cells.getD (i % z.cells.size) undef := by
    intro i hi
    have hi' := hi
    simp [zcells] at hi'
    simp [zcells, List.getD, hi']
  have hwl : ∀ q : Nat, q < 2 ^ 47 → IntKind.i64.wrap (q : Int) = q := by
    intro q hq
    simp only [IntKind.wrap, IntKind.bits, IntKind.signed]
    simp
    omega
  refine new_row (u := fun b => .slice (some ⟨b, 0, none⟩) n c) (s := 0) (C := (Array.range (c * m)).map (z.cells[· % z.cells.size]!)) (ty := e) hr ?_ ?_ ?_ (fun _ => rfl) ?_ ?_ hn
  · simp [zcells, hzm]
  · intro i hi
    rw [hgd i hi]
    have h2 := hsz i hi
    have hi' := hi
    simp [zcells, hzm] at hi'
    have : ((Array.range (c * m)).map (z.cells[· % z.cells.size]!)).getD i undef = z.cells.getD (i % z.cells.size) undef := by
      rw [Array.getD_eq_getD_getElem?, Array.getElem?_map, Array.getElem?_range, if_pos hi']
      simp [h2]
    rw [this]
    exact hzr.cells.2 _ h2
  · intro i hi
    rw [hgd i hi]
    exact hzr.cells_one (notTup_iff hz1) _ (hsz i hi)
  · have hl := hwl n (by omega)
    have hcc := hwl c hc
    have h1 : ¬ ((281474976710656 : Int) < (b : Int) * (c : Int)) := by
      have h2 : (((b * c : Nat)) : Int) ≤ ((281474976710656 : Nat) : Int) := Int.ofNat_le.2 hcb
      rw [Int.natCast_mul] at h2
      omega
    cases hi : P.info? e with
    | none => simp [szT, hi] at hm
    | some inf =>
      have hib : inf.bytes = b := by simpa [byT, hi] using hbt
      have his : inf.size = m := by simpa [szT, hi] using hm
      have hiz : inf.zero = some z := by simpa [zeroT, hi] using hz
      simp [execOp, ho, hv.inv_int, hu.inv_int, Instr.makeSlice, run_underlying (elT_spec ht'), asInt, asIntOf, typeInfo, hi, hib, his, hl, hcc, sizeOf, zeroValue, hiz, newRow, show ¬ (c < n) by omega, h1, show ¬ ((c : Int) < 0) by omega, show ¬ ((n : Int) < 0) by omega]
      intro h0
      rw [h0, show Array.range 0 = #[] from Array.ext (by simp) (fun i h _ => absurd h (by simp))]; simp
  · intro E' hd hb hf hs _
    have := VRel.slice (E := E') h.next 0 n c ⟨w.heap.size, 0, none⟩ hd hnc (.inr (by rw [hb, hf]))
    rwa [hs] at this
end
end Go.Eng
end
section
namespace Go.Eng
section
variable {P : Program} {o : Oper} {tm : Nat → Value} {h : Hp}
def bnd (tm : Nat → Value) (d : Nat) : Option Operand → Option Nat
  | none => some d
  | some x => match ev tm x with
    | .int _ i => if 0 ≤ i then some i.toNat else none
    | _ => none
def okO : Option Operand → Bool
  | none => true
  | some x => okX x
theorem bnd_rel {E : Emb} {a : Act} {d l : Nat} {x : Option Operand} (hx : okO x = true) (hm : ∀ y, x = some y → y ∈ o.op.operands)
    (ht : ∀ t, Operand.tmp t ∈ o.op.operands → VRel E (tm t) (a.tmps.getD t undef)) (hb : bnd tm d x = some l) :
    (x = none ∧ l = d) ∨ ∃ y k i, x = some y ∧ a.eval y = .int k i ∧ 0 ≤ i ∧ i.toNat = l := by
  cases x with
  | none => left; simp [bnd] at hb; exact ⟨rfl, hb.symm⟩
  | some y =>
    right
    have hv := mem_ops (x := y) hx (hm y rfl) ht
    simp only [bnd] at hb
    split at hb
    · rename_i k i he
      rw [he] at hv
      split at hb
      · rename_i h0
        simp only [Option.some.injEq] at hb
        exact ⟨y, k, i, rfl, hv.inv_int, h0, hb⟩
      · cases hb
    · cases hb
theorem run_sliceBound {w : World} {k : IntKind} {i : Int} {y n : Nat} {code : BoundsCode} (h0 : 0 ≤ i) (h1 : i ≤ y) (e : i.toNat = n) : (Instr.sliceBound (.int k i) y code).run P w = .ok n w := by
  have : 0 ≤ i ∧ i ≤ (y : Int) := ⟨h0, h1⟩
  simp [Instr.sliceBound, asIntOf, this, e]
theorem run_sliceBounds {w : World} {ρ : Operand → Value} {b : Bool} {len cap l r : Nat} {lo hi : Option Operand}
    (hL : (lo = none ∧ l = 0) ∨ ∃ y k i, lo = some y ∧ ρ y = .int k i ∧ 0 ≤ i ∧ i.toNat = l) (hR : (hi = none ∧ r = len) ∨ ∃ y k i, hi = some y ∧ ρ y = .int k i ∧ 0 ≤ i ∧ i.toNat = r)
    (h1 : l ≤ r) (h2 : r ≤ cap) : (Instr.sliceBounds b len cap (lo.map ρ) (hi.map ρ) none).run P w = .ok (l, r, cap) w := by
  rcases hR with ⟨rfl, rfl⟩ | ⟨y, k, j, rfl, e1, e2, e3⟩ <;> rcases hL with ⟨rfl, rfl⟩ | ⟨y', k', j', rfl, e1', e2', e3'⟩
  · simp [Instr.sliceBounds]
  · simp only [Instr.sliceBounds, Option.map_some, Option.map_none, e1', Sem.run_bind, Sem.run_pure, Result.andThen_ok, run_sliceBound e2' (show j' ≤ (r : Int) by omega) e3']
  · simp only [Instr.sliceBounds, Option.map_some, Option.map_none, e1, Sem.run_bind, Sem.run_pure, Result.andThen_ok, run_sliceBound e2 (show j ≤ (cap : Int) by omega) e3]
  · simp only [Instr.sliceBounds, Option.map_some, e1, e1', Sem.run_bind, Sem.run_pure, Result.andThen_ok, run_sliceBound e2 (show j ≤ (cap : Int) by omega) e3, run_sliceBound e2' (show j' ≤ (r : Int) by omega) e3']
theorem ok_slice {t e : TypeId} {x : Operand} {lo hi : Option Operand} {p i n c l r m : Nat} (ho : o.op = .slice t x lo hi none) (hx : ev tm x = .slice (some ⟨p, i, none⟩) n c) (hx' : okX x = true)
    (hlo : okO lo = true) (hhi : okO hi = true) (hl : bnd tm 0 lo = some l) (hr' : bnd tm n hi = some r) (ht' : elT P t = some e) (hm : szT P e = some m) (h1 : l ≤ r) (h2 : r ≤ c) :
    OpOK P o tm h (.slice (some ⟨p, i + l * m, none⟩) (r - l) (c - l)) h := by
  refine OpOK.pure fun E base w a hr ht => ?_
  have hv := mem_ops (x := x) hx' (by rw [ho]; simp [Op.operands]) ht
  rw [hx] at hv
  obtain ⟨hnc, sl, ad, ev, hq⟩ := hv.inv_slice
  have hL := bnd_rel hlo (fun y e => by rw [ho]; simp [Op.operands, e]) ht hl
  have hR := bnd_rel hhi (fun y e => by rw [ho]; simp [Op.operands, e]) ht hr'
  have hbs : (Instr.sliceBounds true n (c + sl) (lo.map a.eval) (hi.map a.eval) none).run P w = .ok (l, r, c + sl) w := run_sliceBounds hL hR h1 (by omega)
  refine ⟨.slice (some (if c + sl = l then ad else ad.add (l * m))) (r - l) (c - l + sl), ?_, ?_⟩
  · rcases hq with ⟨hd, rfl, had⟩ | h0
    · refine .slice p _ _ _ _ hd (by omega) ?_
      by_cases hq : c + E.slk p = l
      · left; omega
      · right
        rw [if_neg hq]
        rcases had with h0 | had
        · omega
        · rw [had, add_plain', Nat.add_assoc]
    · exact h0.elim
  · simp only [execOp, ho, ev, Option.map_none]
    simp only [Instr.sliceAt, run_underlying (elT_spec ht'), Sem.run_bind, Result.andThen_ok, Instr.slice, hbs, run_szT hm, Sem.run_pure]
    congr 3
    · split <;> simp_all
    · omega
theorem ok_sliceNil {t e : TypeId} {x : Operand} {lo hi : Option Operand} {l r m : Nat} (ho : o.op = .slice t x lo hi none) (hx : ev tm x = .slice none 0 0) (hx' : okX x = true)
    (hlo : okO lo = true) (hhi : okO hi = true) (hl : bnd tm 0 lo = some l) (hr' : bnd tm 0 hi = some r) (ht' : elT P t = some e) (hm : szT P e = some m) (h1 : l = 0) (h2 : r = 0) :
    OpOK P o tm h (.slice none 0 0) h := by
  refine OpOK.pure fun E base w a hr ht => ⟨_, .sliceNil, ?_⟩
  have hv := mem_ops (x := x) hx' (by rw [ho]; simp [Op.operands]) ht
  rw [hx] at hv
  have hL := bnd_rel hlo (fun y e => by rw [ho]; simp [Op.operands, e]) ht hl
  have hR := bnd_rel hhi (fun y e => by rw [ho]; simp [Op.operands, e]) ht hr'
  subst h1 h2
  have hbs : (Instr.sliceBounds true 0 0 (lo.map a.eval) (hi.map a.eval) none).run P w = .ok (0, 0, 0) w := run_sliceBounds hL hR (by omega) (by omega)
  simp only [execOp, ho, hv.inv_sliceNil, Option.map_none]
  simp [Instr.sliceAt, run_underlying (elT_spec ht'), Instr.slice, hbs, run_szT hm]
theorem ok_sliceS {t : TypeId} {x : Operand} {lo hi : Option Operand} {s : ByteArray} {l r : Nat} (ho : o.op = .slice t x lo hi none) (hx : ev tm x = .string s) (hx' : okX x = true)
    (hlo : okO lo = true) (hhi : okO hi = true) (hl : bnd tm 0 lo = some l) (hr' : bnd tm s.size hi = some r) (ht' : P.underlying t = some .string) (h1 : l ≤ r) (h2 : r ≤ s.size) :
    OpOK P o tm h (.string (s.extract l r)) h := by
  refine OpOK.pure fun E base w a hr ht => ⟨_, .string _, ?_⟩
  have hv := mem_ops (x := x) hx' (by rw [ho]; simp [Op.operands]) ht
  rw [hx] at hv
  have hL := bnd_rel hlo (fun y e => by rw [ho]; simp [Op.operands, e]) ht hl
  have hR := bnd_rel hhi (fun y e => by rw [ho]; simp [Op.operands, e]) ht hr'
  have hbs : (Instr.sliceBounds false s.size s.size (lo.map a.eval) (hi.map a.eval) none).run P w = .ok (l, r, s.size) w := run_sliceBounds hL hR h1 h2
  simp only [execOp, ho, hv.inv_string, Option.map_none]
  simp [Instr.sliceAt, run_underlying ht', Instr.slice, hbs]
theorem ok_len {ty : TypeId} {t e : TypeId} {x : Operand} {s : Option Addr} {n c : Nat} (ho : o.op = .call ⟨.builtin .len, #[x], #[t]⟩) (hx : ev tm x = .slice s n c) (hx' : okX x = true)
    (ht' : elT P t = some e) (_hty : o.type = ty) : OpOK P o tm h (.int .i64 n) h := by
  refine OpOK.pure fun E base w a hr ht => ⟨_, .int _ _, ?_⟩
  have hv := mem_ops (x := x) hx' (by rw [ho]; simp [Op.operands, Call.operands]) ht
  rw [hx] at hv
  obtain ⟨s', c', e'⟩ : ∃ s' c', a.eval x = .slice s' n c' := by
    generalize a.eval x = v' at hv
    cases hv <;> exact ⟨_, _, rfl⟩
  simp [execOp, ho, resolve, invoke, builtin, e', Builtin.len_, run_underlying (elT_spec ht'), goInt]
theorem ok_lenS {t : TypeId} {x : Operand} {s : ByteArray} (ho : o.op = .call ⟨.builtin .len, #[x], #[t]⟩) (hx : ev tm x = .string s) (hx' : okX x = true)
    (ht' : P.underlying t = some .string) : OpOK P o tm h (.int .i64 s.size) h := by
  refine OpOK.pure fun E base w a hr ht => ⟨_, .int _ _, ?_⟩
  have hv := mem_ops (x := x) hx' (by rw [ho]; simp [Op.operands, Call.operands]) ht
  rw [hx] at hv
  simp [execOp, ho, resolve, invoke, builtin, hv.inv_string, Builtin.len_, run_underlying ht', goInt]
theorem ok_max2 {t t' : TypeId} {x y : Operand} {k k' : IntKind} {i j : Int} (ho : o.op = .call ⟨.builtin .max, #[x, y], #[t, t']⟩) (hx : ev tm x = .int k i) (hx' : okX x = true)
    (hy : ev tm y = .int k' j) (hy' : okX y = true) : OpOK P o tm h (.int k (if j > i then j else i)) h := by
  refine OpOK.pure fun E base w a hr ht => ⟨_, .int _ _, ?_⟩
  have hv := mem_ops (x := x) hx' (by rw [ho]; simp [Op.operands, Call.operands]) ht
  have hu := mem_ops (x := y) hy' (by rw [ho]; simp [Op.operands, Call.operands]) ht
  rw [hx] at hv
  rw [hy] at hu
  simp [execOp, ho, resolve, invoke, builtin, hv.inv_int, hu.inv_int, Builtin.max_, Builtin.max2]
theorem ok_min2 {t t' : TypeId} {x y : Operand} {k k' : IntKind} {i j : Int} (ho : o.op = .call ⟨.builtin .min, #[x, y], #[t, t']⟩) (hx : ev tm x = .int k i) (hx' : okX x = true)
    (hy : ev tm y = .int k' j) (hy' : okX y = true) : OpOK P o tm h (.int k (if j < i then j else i)) h := by
  refine OpOK.pure fun E base w a hr ht => ⟨_, .int _ _, ?_⟩
  have hv := mem_ops (x := x) hx' (by rw [ho]; simp [Op.operands, Call.operands]) ht
  have hu := mem_ops (x := y) hy' (by rw [ho]; simp [Op.operands, Call.operands]) ht
  rw [hx] at hv
  rw [hy] at hu
  simp [execOp, ho, resolve, invoke, builtin, hv.inv_int, hu.inv_int, Builtin.min_, Builtin.min2]
end
end Go.Eng
end
section
namespace Go.Eng
theorem kill_rel {E : Emb} {base : Nat} {h : Hp} {H : Array Obj} (hr : HRel E base h H) (p : Nat) : HRel E base (h.put p .dead) H where
  le := hr.le
  lt := hr.lt
  obj o hd := by
    by_cases e : o = p
    · simp [Hp.put, e, ORel]
    · simp only [Hp.put, e, if_false]; exact hr.obj o hd
  sep o o' hd hd' hne h1 h2 := by
    by_cases e : o = p
    · simp [Hp.put, e, AObj.owned] at h1
    · by_cases e' : o' = p
      · simp [Hp.put, e', AObj.live] at h2
      · simp only [Hp.put, e, e', if_false] at h1 h2
        exact hr.sep o o' hd hd' hne h1 h2
theorem kill_step {E : Emb} {h : Hp} (w : World) (p : Nat) : Step E h w E (h.put p .dead) w where
  next := Nat.le_refl _
  ext _ _ := ⟨Iff.rfl, rfl, rfl, rfl⟩
  os := rfl
  tape := rfl
  output := Qui.refl _
  size := Nat.le_refl _
  keep _ _ _ := rfl
  own o hd ho := by
    left
    refine ⟨o, hd, ?_, rfl⟩
    by_cases e : o = p
    · simp [Hp.put, e, AObj.owned] at ho
    · simpa [Hp.put, e] using ho
theorem step_take {E : Emb} {base : Nat} {h : Hp} {w w' : World} (hr : HRel E base h w.heap) (p f s : Nat) (x : AObj) (hd : E.D p) (hown : (h.get p).owned = true)
    (hsz : w'.heap.size = w.heap.size) (hh : ∀ b, b ≠ E.blk p → w'.heap[b]? = w.heap[b]?) (ho : w'.os = w.os) (ht : w'.tape = w.tape) (hu : Qui w w')
    (hx : ORel (E.add h.next (E.blk p) f s) base w'.heap h.next x) (_hxo : x.owned = true) :
    Step E h w (E.add h.next (E.blk p) f s) ((h.put p .dead).alloc x) w' ∧ HRel (E.add h.next (E.blk p) f s) base ((h.put p .dead).alloc x) w'.heap := by
  have hext := E.add_ext h.next (E.blk p) f s
  have hD : ∀ o, E.D o → (E.add h.next (E.blk p) f s).D o ∧ (E.add h.next (E.blk p) f s).blk o = E.blk o ∧ (E.add h.next (E.blk p) f s).off o = E.off o ∧ (E.add h.next (E.blk p) f s).slk o = E.slk o := fun o hd => by
    obtain ⟨a, b, c, d⟩ := hext o (hr.lt o hd); exact ⟨a.2 hd, b, c, d⟩
  have hnew : (E.add h.next (E.blk p) f s).blk h.next = E.blk p := by simp [Emb.add]
  have hget : ∀ o, o < h.next → o ≠ p → ((h.put p .dead).alloc x).get o = h.get o := fun o ho hp => by simp [Hp.alloc, Hp.put, show o ≠ h.next by omega, hp]
  have hgp : ((h.put p .dead).alloc x).get p = .dead := by
    have := hr.lt p hd
    simp [Hp.alloc, Hp.put, show p ≠ h.next by omega]
  have hgn : ((h.put p .dead).alloc x).get h.next = x := by simp [Hp.alloc, Hp.put]
  refine ⟨⟨by simp [Hp.alloc, Hp.put], hext, ho, ht, hu, by omega, fun b _ hn => hh b (fun e => hn p hd hown e.symm), ?_⟩, ⟨by rw [hsz]; exact hr.le, ?_, ?_, ?_⟩⟩
  · intro o ho' hoo
    left
    rcases ho' with rfl | ho'
    · exact ⟨p, hd, hown, hnew.symm⟩
    · refine ⟨o, ho', ?_, (hext o (hr.lt o ho')).2.1.symm⟩
      by_cases e : o = p
      · subst e; exact hown
      · rwa [hget o (hr.lt o ho') e] at hoo
  · intro o ho'
    rcases ho' with rfl | ho'
    · simp [Hp.alloc, Hp.put]
    · have := hr.lt o ho'; simp [Hp.alloc, Hp.put]; omega
  · intro o ho'
    rcases ho' with rfl | ho'
    · rw [hgn]; exact hx
    · by_cases e : o = p
      · subst e; rw [hgp]; trivial
      · rw [hget o (hr.lt o ho') e]
        cases hx0 : h.get o with
        | dead => trivial
        | _ =>
          have h0 := hr.obj o ho'
          have hl : (h.get o).live = true := by rw [hx0]; rfl
          rw [hx0] at h0
          exact h0.mono hD ho' (hh _ (fun e' => hr.sep p o hd ho' (fun q => e q.symm) hown hl e'.symm))
  · intro o o' ho' ho'' hne h1 h2
    rcases ho' with rfl | ho' <;> rcases ho'' with rfl | ho''
    · exact absurd rfl hne
    · by_cases e : o' = p
      · subst e; rw [hgp] at h2; cases h2
      · rw [hget o' (hr.lt o' ho'') e] at h2
        rw [hnew, (hext o' (hr.lt o' ho'')).2.1]
        exact hr.sep p o' hd ho'' (fun q => e q.symm) hown h2
    · by_cases e : o = p
      · subst e; rw [hgp] at h1; cases h1
      · rw [hget o (hr.lt o ho') e] at h1
        rw [hnew, (hext o (hr.lt o ho')).2.1]
        exact hr.sep o p ho' hd e h1 (AObj.live_of_owned hown)
    · by_cases e : o = p
      · subst e; rw [hgp] at h1; cases h1
      · by_cases e' : o' = p
        · subst e'; rw [hgp] at h2; cases h2
        · rw [hget o (hr.lt o ho') e] at h1
          rw [hget o' (hr.lt o' ho'') e'] at h2
          rw [(hext o (hr.lt o ho')).2.1, (hext o' (hr.lt o' ho'')).2.1]
          exact hr.sep o o' ho' ho'' hne h1 h2
def srcW (h : Hp) (m : Nat) : Value → Option (Nat × List Value)
  | .slice none 0 0 => some (0, [])
  | .slice (some ⟨q, j, none⟩) n _ => match h.get q with
    | .cells c _ _ _ => if j + n * m ≤ c.length then some (n, (c.drop j).take (n * m)) else none
    | _ => none
  | .string s => if m = 1 then some (s.size, s.data.toList.map fun b => .int .u8 b.toNat) else none
  | _ => none
def srcV (h : Hp) (m : Nat) (v : Value) : Option (Nat × List Value) := match srcW h m v with
  | some r => some r
  | none => match v with
    | .slice _ 0 _ => some (0, [])
    | _ => none
theorem run_firstCells_engW {P : Program} {E : Emb} {base : Nat} {h : Hp} {w : World} (hr : HRel E base h w.heap) {m n : Nat} {v v' : Value} {cs : List Value} (hv : VRel E v v') (hs : srcW h m v = some (n, cs)) :
    (Builtin.lenOf v').run P w = .ok n w ∧ cs.length = n * m ∧ ∃ cs' : List Value, cs'.length = cs.length ∧
      (∀ w1 : World, w1.heap = w.heap → (Builtin.firstCells m n v').run P w1 = .ok cs'.toArray w1) ∧ (∀ i, i < cs.length → VRel E (cs.getD i undef) (cs'.getD i undef)) ∧
      (∀ i, i < cs.length → (cs.getD i undef).oneCell' = true) := by
  unfold srcW at hs
  split at hs
  · simp only [Option.some.injEq, Prod.mk.injEq] at hs
    obtain ⟨rfl, rfl⟩ := hs
    rw [hv.inv_sliceNil]
    exact ⟨rfl, by simp, [], rfl, fun _ _ => rfl, fun i hi => absurd hi (by simp), fun i hi => absurd hi (by simp)⟩
  · rename_i q j n' c'
    split at hs
    · rename_i c own ex es hg
      split at hs
      · rename_i hle
        simp only [Option.some.injEq, Prod.mk.injEq] at hs
        obtain ⟨rfl, rfl⟩ := hs
        obtain ⟨hnc, sl, ad, e, hq⟩ := hv.inv_slice
        rw [e]
        have hlen : ((c.drop j).take (n' * m)).length = n' * m := by simp; omega
        have hgd : ∀ i, i < n' * m → ((c.drop j).take (n' * m)).getD i undef = c.getD (j + i) undef := by
          intro i hi
          simp [List.getD, hi]
        refine ⟨rfl, hlen, (List.range (n' * m)).map (fun i => (w.cell? ⟨E.blk q, E.off q + (j + i), none⟩).getD undef), by simp; omega, ?_, ?_, ?_⟩
        · intro w1 hw1
          by_cases h0 : n' * m = 0
          · simp [Builtin.firstCells, h0, loadCells, loadCellsFrom]
          · have hne : n' ≠ 0 := fun e => h0 (by rw [e, Nat.zero_mul])
            obtain ⟨hd, _, had⟩ := hq.resolve_right (fun h => h)
            have had : ad = ⟨E.blk q, E.off q + j, none⟩ := had.resolve_left (by omega)
            subst had
            have := run_loadCells (P := P) w1 ⟨E.blk q, E.off q + j, none⟩ (n' * m) (fun i => (w.cell? ⟨E.blk q, E.off q + (j + i), none⟩).getD undef) (fun i hi => by
              obtain ⟨v', k1, _⟩ := cell_at (w := w1) (i := j + i) (by rw [hw1]) hr hd hg (by omega)
              obtain ⟨v'', k2, _⟩ := cell_at (w := w) (i := j + i) rfl hr hd hg (by omega)
              have : w1.cell? ⟨E.blk q, E.off q + (j + i), none⟩ = w.cell? ⟨E.blk q, E.off q + (j + i), none⟩ := by simp only [World.cell?, hw1]
              rw [add_plain', Nat.add_assoc, k1, ← this, k1]; rfl)
            simpa [Builtin.firstCells] using this
        · intro i hi
          rw [hlen] at hi
          have hne : n' ≠ 0 := fun e => by rw [e, Nat.zero_mul] at hi; omega
          obtain ⟨hd, _, _⟩ := hq.resolve_right (fun h => h)
          obtain ⟨v', k1, k2, _⟩ := cell_at (w := w) (i := j + i) rfl hr hd hg (by omega)
          rw [hgd i hi]
          have : ((List.range (n' * m)).map (fun i => (w.cell? ⟨E.blk q, E.off q + (j + i), none⟩).getD undef)).getD i undef = v' := by
            simp [List.getD, hi, k1]
          rw [this]; exact k2
        · intro i hi
          rw [hlen] at hi
          rw [hgd i hi]
          have hne : n' ≠ 0 := fun e => by rw [e, Nat.zero_mul] at hi; omega
          obtain ⟨hd, _, _⟩ := hq.resolve_right (fun h => h)
          obtain ⟨v', k1, _, k2⟩ := cell_at (w := w) (i := j + i) rfl hr hd hg (by omega)
          exact k2
      · cases hs
    · cases hs
  · rename_i s
    split at hs
    · rename_i hm
      subst hm
      simp only [Option.some.injEq, Prod.mk.injEq] at hs
      obtain ⟨rfl, rfl⟩ := hs
      rw [hv.inv_string]
      have hsz : s.data.toList.length = s.size := by rw [Array.length_toList]; rfl
      refine ⟨rfl, by simp, s.data.toList.map fun b => .int .u8 b.toNat, by simp, ?_, ?_, ?_⟩
      · intro w1 _
        have he : (s.extract 0 s.size).data = s.data := by
          simp
        simp only [Builtin.firstCells, he, Sem.run_pure]
        congr 1
        apply Array.ext'
        simp
      · intro i hi
        simp at hi
        simp only [List.getD_eq_getElem?_getD, List.getElem?_map]
        rw [List.getElem?_eq_getElem (by simpa using hi)]
        exact .int _ _
      · intro i hi
        simp at hi
        simp only [List.getD_eq_getElem?_getD, List.getElem?_map]
        rw [List.getElem?_eq_getElem (by simpa using hi)]
        rfl
    · cases hs
  · cases hs
theorem run_firstCells_eng {P : Program} {E : Emb} {base : Nat} {h : Hp} {w : World} (hr : HRel E base h w.heap) {m n : Nat} {v v' : Value} {cs : List Value} (hv : VRel E v v') (hs : srcV h m v = some (n, cs)) :
    (Builtin.lenOf v').run P w = .ok n w ∧ cs.length = n * m ∧ ∃ cs' : List Value, cs'.length = cs.length ∧
      (∀ w1 : World, w1.heap = w.heap → (Builtin.firstCells m n v').run P w1 = .ok cs'.toArray w1) ∧ (∀ i, i < cs.length → VRel E (cs.getD i undef) (cs'.getD i undef)) ∧
      (∀ i, i < cs.length → (cs.getD i undef).oneCell' = true) := by
  unfold srcV at hs
  split at hs
  · rename_i r hr'
    cases hs
    exact run_firstCells_engW hr hv hr'
  · split at hs
    · cases hs
      have e : ∃ a c, v' = .slice a 0 c := by cases hv <;> exact ⟨_, _, rfl⟩
      obtain ⟨a, c, rfl⟩ := e
      refine ⟨rfl, by simp, [], rfl, fun w1 _ => ?_, fun i hi => absurd hi (by simp), fun i hi => absurd hi (by simp)⟩
      cases a with
      | none => rfl
      | some a => simp [Builtin.firstCells, loadCells, loadCellsFrom]
    · cases hs
def srcT (P : Program) (t : TypeId) : Bool := match P.underlying t with
  | some (.slice _) => true
  | some .string => true
  | _ => false
theorem srcT_spec {P : Program} {t : TypeId} (h : srcT P t = true) : (∃ e, P.underlying t = some (.slice e)) ∨ P.underlying t = some .string := by
  unfold srcT at h
  split at h
  · exact .inl ⟨_, by assumption⟩
  · exact .inr (by assumption)
  · cases h
section
variable {P : Program} {w : World}
theorem run_append_in {t t' ty e : TypeId} {a : Option Addr} {n n2 cap m : Nat} {y : Value} {new : Array Value} {w' : World} (ht : elT P t = some e) (hn : srcT P t' = true) (hm : szT P e = some m)
    (hl : (Builtin.lenOf y).run P w = .ok n2 w) (hf : (Builtin.firstCells m n2 y).run P w = .ok new w) (hc : n + n2 ≤ cap)
    (hs : ∀ b, a = some b → (storeCells (b.add (n * m)) new.toList).run P w = .ok () w') (h0 : a = none → w' = w) :
    (Builtin.append_ #[t, t'] ty #[.slice a n cap, y]).run P w = .ok (.slice a (n + n2) cap) w' := by
  rcases srcT_spec hn with ⟨e', hd⟩ | hd
  · cases a with
    | none => rw [h0 rfl]; simp [Builtin.append_, run_underlying (elT_spec ht), run_underlying hd, run_szT hm, hl, hf, hc]
    | some b => simp [Builtin.append_, run_underlying (elT_spec ht), run_underlying hd, run_szT hm, hl, hf, hc, hs b rfl]
  · cases a with
    | none => rw [h0 rfl]; simp [Builtin.append_, run_underlying (elT_spec ht), run_underlying hd, run_szT hm, hl, hf, hc]
    | some b => simp [Builtin.append_, run_underlying (elT_spec ht), run_underlying hd, run_szT hm, hl, hf, hc, hs b rfl]
theorem run_append_new {t t' ty e : TypeId} {a : Option Addr} {n n2 cap m b : Nat} {z y : Value} {old new : Array Value} (ht : elT P t = some e) (hn : srcT P t' = true) (hm : szT P e = some m) (hz : zeroT P e = some z)
    (hb : byT P e = some b) (hb0 : b ≠ 0) (hl : (Builtin.lenOf y).run P w = .ok n2 w) (hf : ∀ w1 : World, w1.heap = w.heap → (Builtin.firstCells m n2 y).run P w1 = .ok new w1)
    (hf' : ∀ w1 : World, w1.heap = w.heap → (Builtin.firstCells m n (.slice a n cap)).run P w1 = .ok old w1) (hc : cap < n + n2) (hroom : (n + n2) * b ≤ 2 ^ 47) :
    ∃ nc, n + n2 ≤ nc ∧ (Builtin.append_ #[t, t'] ty #[.slice a n cap, y]).run P w =
      .ok (.slice (some ⟨w.heap.size, 0, none⟩) (n + n2) nc) (w.drew.alloc (.cells (old ++ new ++ Builtin.zeroCells z.cells (nc - (n + n2))) e)) := by
  refine ⟨(Question.appendCap (n + n2) cap e).cut (w.tape w.drawn (.appendCap (n + n2) cap e)), by simp [Question.cut], ?_⟩
  have hnx := nextslicecap_le hc
  have hfit : ¬ (2 ^ 48 < Builtin.nextslicecap (n + n2) cap * b) := by
    have h1 : Builtin.nextslicecap (n + n2) cap * b ≤ 2 * (n + n2) * b := Nat.mul_le_mul_right _ hnx
    rw [Nat.mul_assoc] at h1
    omega
  have hcc : ¬ (n + n2 ≤ cap) := by omega
  cases hi : P.info? e with
  | none => simp [szT, hi] at hm
  | some inf =>
    have hib : inf.bytes = b := by simpa [byT, hi] using hb
    have his : inf.size = m := by simpa [szT, hi] using hm
    have hiz : inf.zero = some z := by simpa [zeroT, hi] using hz
    have h1 := hf w.drew rfl
    have h2 := hf' w.drew rfl
    simp only [Nat.reducePow] at hfit
    have hfo : (Question.appendCap (n + n2) cap e).forced = false := rfl
    rcases srcT_spec hn with ⟨e', hd⟩ | hd
    · simp [Builtin.append_, run_underlying (elT_spec ht), run_underlying hd, sizeOf, typeInfo, zeroValue, hi, hib, his, hiz, hl, hcc, hb0, hfit, hfo, h1, h2, newRow]
    · simp [Builtin.append_, run_underlying (elT_spec ht), run_underlying hd, sizeOf, typeInfo, zeroValue, hi, hib, his, hiz, hl, hcc, hb0, hfit, hfo, h1, h2, newRow]
end
end Go.Eng
end
section
namespace Go.Eng
theorem vrel_new {E' : Emb} {o b n c : Nat} (hd : E'.D o) (hb : E'.blk o = b) (hf : E'.off o = 0) (hn : n ≤ c) {s : Nat} (hs : E'.slk o = s) :
    VRel E' (.slice (some ⟨o, 0, none⟩) n c) (.slice (some ⟨b, 0, none⟩) n (c + s)) := by
  have := VRel.slice (E := E') o 0 n c ⟨b, 0, none⟩ hd hn (.inr (by rw [hb, hf]))
  rwa [hs] at this
theorem getD_append_left {c d : List Value} {i : Nat} (h : i < c.length) : (c ++ d).getD i undef = c.getD i undef := by
  simp only [List.getD_eq_getElem?_getD, List.getElem?_append_left h]
theorem getD_append_right {c d : List Value} {i : Nat} (h : c.length ≤ i) : (c ++ d).getD i undef = d.getD (i - c.length) undef := by
  simp only [List.getD_eq_getElem?_getD, List.getElem?_append_right h]
theorem rel_append {E : Emb} {a b a' b' : List Value} (hl : a'.length = a.length) (_hl' : b'.length = b.length) (h1 : ∀ i, i < a.length → VRel E (a.getD i undef) (a'.getD i undef))
    (h2 : ∀ i, i < b.length → VRel E (b.getD i undef) (b'.getD i undef)) : ∀ i, i < (a ++ b).length → VRel E ((a ++ b).getD i undef) ((a' ++ b').getD i undef) := by
  intro i hi
  simp at hi
  by_cases h : i < a.length
  · rw [getD_append_left h, getD_append_left (by omega)]; exact h1 i h
  · rw [getD_append_right (by omega), getD_append_right (by omega), hl]; exact h2 _ (by omega)
theorem one_append {a b : List Value} (h1 : ∀ i, i < a.length → (a.getD i undef).oneCell' = true) (h2 : ∀ i, i < b.length → (b.getD i undef).oneCell' = true) :
    ∀ i, i < (a ++ b).length → ((a ++ b).getD i undef).oneCell' = true := by
  intro i hi
  simp at hi
  by_cases h : i < a.length
  · rw [getD_append_left h]; exact h1 i h
  · rw [getD_append_right (by omega)]; exact h2 _ (by omega)
def growHp (h : Hp) (p : Nat) (ex : Bool) (x : AObj) : Hp := if ex then h.alloc x else (h.put p .dead).alloc x
theorem new_obj {E : Emb} {base : Nat} {h : Hp} {w w1 : World} (hr : HRel E base h w.heap) (h1 : w1.heap = w.heap) (h2 : w1.os = w.os) (h3 : w1.tape = w.tape) (h4 : Qui w w1)
    {c : List Value} {ex : Bool} {es s : Nat} {C : Array Value} {ty : TypeId}
    (hsz : c.length + s * es ≤ C.size) (hc : ∀ i, i < c.length → VRel E (c.getD i undef) (C.getD i undef)) (h1' : ∀ i, i < c.length → (c.getD i undef).oneCell' = true) (hex : ex = true → s = 0) :
    Step E h w (E.add h.next w.heap.size 0 s) (h.alloc (.cells c true ex es)) (w1.alloc (.cells C ty)) ∧ HRel (E.add h.next w.heap.size 0 s) base (h.alloc (.cells c true ex es)) (w1.alloc (.cells C ty)).heap := by
  have hD : ∀ i, E.D i → (E.add h.next w.heap.size 0 s).D i ∧ (E.add h.next w.heap.size 0 s).blk i = E.blk i ∧ (E.add h.next w.heap.size 0 s).off i = E.off i ∧ (E.add h.next w.heap.size 0 s).slk i = E.slk i := fun i hd => by
    obtain ⟨a, b, c, d⟩ := E.add_ext h.next w.heap.size 0 s i (hr.lt i hd); exact ⟨a.2 hd, b, c, d⟩
  have hh : (w1.alloc (.cells C ty)).heap = w.heap.push (.cells C ty) := by show w1.heap.push _ = _; rw [h1]
  refine step_alloc hr (.cells c true ex es) (.cells C ty) s hh h2 h3 ⟨h4.out, h4.drawn⟩ ⟨C, ty, (0, 0), ?_, ?_, ?_, h1', ?_, ?_⟩
  · rw [hh]; simp [Emb.add]
  · simp [Emb.add]; exact hsz
  · intro i hi
    have := (hc i hi).mono hD
    simpa [Emb.add] using this
  · intro _; simp [Emb.add]; exact hr.le
  · intro e; simpa [Emb.add] using hex e
section
variable {P : Program} {o : Oper} {tm : Nat → Value} {h : Hp}
theorem exec_append {a : Act} {t t' : TypeId} {x y : Operand} {w w' : World} {r : Value} (ho : o.op = .call ⟨.builtin .append, #[x, y], #[t, t']⟩)
    (hr : (Builtin.append_ #[t, t'] o.type #[a.eval x, a.eval y]).run P w = .ok r w') : (execOp a.eval o).run P w = .ok (.value r) w' := by
  simp [execOp, ho, resolve, invoke, builtin, hr]
theorem ok_append0 {t t' e : TypeId} {x y : Operand} {m n c : Nat} {s : Option Addr} {src : List Value} (ho : o.op = .call ⟨.builtin .append, #[x, y], #[t, t']⟩) (hx : ev tm x = .slice s n c) (hx' : okX x = true) (hy' : okX y = true)
    (ht' : elT P t = some e) (hs : srcT P t' = true) (hm : szT P e = some m) (hsrc : srcV h m (ev tm y) = some (0, src)) : OpOK P o tm h (.slice s n c) h := by
  refine OpOK.pure fun E base w a hr ht => ?_
  have hv := mem_ops (x := x) hx' (by rw [ho]; simp [Op.operands, Call.operands]) ht
  have hu := mem_ops (x := y) hy' (by rw [ho]; simp [Op.operands, Call.operands]) ht
  obtain ⟨k1, k2, cs', k3, k4, _⟩ := run_firstCells_eng (P := P) hr hu hsrc
  have hcs : cs' = [] := by have : src.length = 0 := by rw [k2]; simp
                            exact List.length_eq_zero_iff.1 (by omega)
  subst hcs
  refine ⟨a.eval x, hx ▸ hv, exec_append ho ?_⟩
  rw [hx] at hv
  generalize a.eval x = v' at hv
  cases hv with
  | sliceNil => exact run_append_in (new := #[]) ht' hs hm k1 (k4 w rfl) (by omega) (fun b hb => by cases hb) (fun _ => rfl)
  | slice0 ad => exact run_append_in (new := #[]) ht' hs hm k1 (k4 w rfl) (by omega) (fun b hb => rfl) (fun hb => by cases hb)
  | slice p i _ _ ad hd hn _ => exact run_append_in (new := #[]) ht' hs hm k1 (k4 w rfl) (by omega) (fun b hb => rfl) (fun hb => by cases hb)
theorem ok_appendNil {t t' e : TypeId} {x y : Operand} {m b n2 : Nat} {z : Value} {src : List Value} (ho : o.op = .call ⟨.builtin .append, #[x, y], #[t, t']⟩) (hx : ev tm x = .slice none 0 0) (hx' : okX x = true) (hy' : okX y = true)
    (ht' : elT P t = some e) (hs : srcT P t' = true) (hm : szT P e = some m) (hz : zeroT P e = some z) (hzm : z.cells.size = m) (hb : byT P e = some b) (hb0 : b ≠ 0) (hsrc : srcV h m (ev tm y) = some (n2, src)) (hn2 : 0 < n2)
    (hroom : n2 * b ≤ 2 ^ 47) : OpOK P o tm h (.slice (some ⟨h.next, 0, none⟩) n2 n2) (h.alloc (.cells src true false m)) := by
  intro E base w a next Q hr ht hn
  have hv := mem_ops (x := x) hx' (by rw [ho]; simp [Op.operands, Call.operands]) ht
  have hu := mem_ops (x := y) hy' (by rw [ho]; simp [Op.operands, Call.operands]) ht
  obtain ⟨k1, k2, cs', k3, k4, k5, k6⟩ := run_firstCells_eng (P := P) hr hu hsrc
  rw [hx] at hv
  obtain ⟨nc, hnc, hrun⟩ := run_append_new (t := t) (ty := o.type) (a := none) (n := 0) (cap := 0) (old := #[]) ht' hs hm hz hb hb0 k1 k4 (fun w1 _ => rfl) (by omega) (by simpa using hroom)
  obtain ⟨st, hr'⟩ := new_obj (w1 := w.drew) (C := #[] ++ cs'.toArray ++ Builtin.zeroCells z.cells (nc - (0 + n2))) (ty := e) (s := nc - n2) (es := m) (ex := false) (c := src) hr rfl rfl rfl ⟨rfl, Nat.le_succ _⟩
    (by simp [Builtin.zeroCells, hzm, k3]) (fun i hi => by
      have : (#[] ++ cs'.toArray ++ Builtin.zeroCells z.cells (nc - (0 + n2))).getD i undef = cs'.getD i undef := by
        simp [Array.getD_eq_getD_getElem?, Array.getElem?_append, List.getD_eq_getElem?_getD, show i < cs'.length by omega]
      rw [this]; exact k5 i hi) k6 (fun e => by cases e)
  unfold Oper.wp
  rw [exec_append ho (by rw [hv.inv_sliceNil]; exact hrun)]
  refine hn _ _ _ st hr' ?_
  have := vrel_new (E' := E.add h.next w.heap.size 0 (nc - n2)) (o := h.next) (b := w.heap.size) (n := n2) (c := n2) (.inl rfl) (by simp [Emb.add]) (by simp [Emb.add]) (Nat.le_refl _) (s := nc - n2) (by simp [Emb.add])
  rw [show n2 + (nc - n2) = nc by omega] at this
  simpa using this
theorem ok_appendGrow {t t' e : TypeId} {x y : Operand} {m b n c n2 p i : Nat} {z : Value} {src cp : List Value} {own ex : Bool} (ho : o.op = .call ⟨.builtin .append, #[x, y], #[t, t']⟩) (hx : ev tm x = .slice (some ⟨p, i, none⟩) n c)
    (hx' : okX x = true) (hy' : okX y = true)
    (ht' : elT P t = some e) (hs : srcT P t' = true) (hm : szT P e = some m) (hz : zeroT P e = some z) (hzm : z.cells.size = m) (hb : byT P e = some b) (hb0 : b ≠ 0) (hsrc : srcV h m (ev tm y) = some (n2, src)) (hgt : c < n + n2)
    (hg : h.get p = .cells cp own ex m) (hown : ex = true ∨ own = true) (hcap : i + c * m ≤ cp.length)
    (hroom : (n + n2) * b ≤ 2 ^ 47) : OpOK P o tm h (.slice (some ⟨h.next, 0, none⟩) (n + n2) (n + n2)) (growHp h p ex (.cells ((cp.drop i).take (n * m) ++ src) true false m)) := by
  intro E base w a next Q hr ht hn
  have hv := mem_ops (x := x) hx' (by rw [ho]; simp [Op.operands, Call.operands]) ht
  have hu := mem_ops (x := y) hy' (by rw [ho]; simp [Op.operands, Call.operands]) ht
  obtain ⟨k1, k2, cs', k3, k4, k5, k6⟩ := run_firstCells_eng (P := P) hr hu hsrc
  rw [hx] at hv
  have hnc0 : n ≤ c := (hv.inv_slice).1
  have hnm : n * m ≤ c * m := Nat.mul_le_mul_right _ hnc0
  have hold : srcV h m (.slice (some ⟨p, i, none⟩) n c) = some (n, (cp.drop i).take (n * m)) := by
    simp only [srcV, srcW, hg]; rw [if_pos (by omega)]
  obtain ⟨j1, j2, old', j3, j4, j5, j6⟩ := run_firstCells_eng (P := P) hr hv hold
  obtain ⟨_, sl, ad, e1, hq⟩ := hv.inv_slice
  have hrel := rel_append (E := E) j3 k3 j5 k5
  have hone := one_append j6 k6
  by_cases hin : n + n2 ≤ c + sl
  · -- in place
    obtain ⟨hd, rfl, had⟩ := hq.resolve_right (fun h => h)
    have h0 := hr.obj p hd
    rw [hg] at h0
    obtain ⟨C, ty, fz, g1, g2, g3, g4, g5, g6⟩ := h0
    have hex : ex = false := by cases ex with | false => rfl | true => have := g6 rfl; omega
    have hown' : own = true := by rcases hown with h | h <;> simp_all
    subst hex hown'
    obtain ⟨rfl, g7⟩ := g5 rfl
    have had : ad = ⟨E.blk p, E.off p + i, none⟩ := had.resolve_left (by omega)
    subst had
    have hmul : (n + n2) * m ≤ (c + E.slk p) * m := Nat.mul_le_mul_right _ hin
    rw [Nat.add_mul, Nat.add_mul] at hmul
    obtain ⟨w', C', q1, q2, q3, q4, q5, q6, q7, q8, q9⟩ := run_storeCells_eng (P := P) (E.blk p) ty cs' 0 (E.off p + (i + n * m)) w C g1 (by omega) (by
      intro v hvm
      obtain ⟨j, hj, ej⟩ := List.getElem_of_mem hvm
      have h2 := (k5 j (by omega)).oneCell
      rw [k6 j (by omega), List.getD_eq_getElem?_getD, List.getElem?_eq_getElem hj] at h2
      rw [← ej]; exact h2)
    have hadd : (⟨E.blk p, E.off p + i, none⟩ : Addr).add (n * m) = ⟨E.blk p, E.off p + (i + n * m), none⟩ := by rw [add_plain', Nat.add_assoc]
    have hrun := run_append_in (t := t) (ty := o.type) (a := some ⟨E.blk p, E.off p + i, none⟩) (n := n) (cap := c + E.slk p) (w' := w') ht' hs hm k1 (k4 w rfl) hin
      (fun b' hb' => by cases hb'; rw [hadd]; exact q1) (fun hb' => by cases hb')
    have hlen : ((cp.drop i).take (n * m) ++ src).length = n * m + n2 * m := by simp [k2]; omega
    have hcell : ∀ j, j < ((cp.drop i).take (n * m) ++ src).length → C'.getD (E.off p + i + j) undef = (old' ++ cs').getD j undef := by
      intro j hj
      rw [hlen] at hj
      rw [q4]
      by_cases hjn : j < n * m
      · rw [if_neg (by omega), getD_append_left (by omega)]
        -- the old cells
        have hr1 := j4 w rfl
        have hlo : (loadCells ⟨E.blk p, E.off p + i, none⟩ (n * m)).run P w = .ok old'.toArray w := by
          simpa [e1, Builtin.firstCells] using hr1
        have hl2 := run_loadCells (P := P) w ⟨E.blk p, E.off p + i, none⟩ (n * m) (fun q => C.getD (E.off p + i + q) undef) (fun q hq => by
          rw [add_plain']
          simp only [World.cell?, g1, Option.isSome_none]
          obtain ⟨zz, hz1, hz2⟩ := getD_some (c := C) (i := E.off p + i + q) (by omega)
          rw [hz1, hz2]; rfl)
        rw [hlo] at hl2
        injection hl2 with hl2
        have : old' = (List.range (n * m)).map fun q => C.getD (E.off p + i + q) undef := by simpa using congrArg Array.toList hl2
        rw [this]
        simp [List.getD, hjn]
      · rw [if_pos (by omega), getD_append_right (by omega), j3, j2]
        congr 1; omega
    obtain ⟨st, hr'⟩ := step_take (w' := w') hr p (E.off p + i) (c + E.slk p - (n + n2)) (.cells ((cp.drop i).take (n * m) ++ src) true false m) hd (by rw [hg]; rfl) q5 q6 q7 q8 q9 (by
      refine ⟨C', ty, (0, 0), by simp [Emb.add]; exact q2, ?_, ?_, hone, fun _ => ⟨rfl, by simp [Emb.add]; exact g7⟩, fun e => by cases e⟩
      · have : (c + E.slk p - (n + n2)) * m = (c + E.slk p) * m - (n + n2) * m := Nat.sub_mul _ _ _
        rw [hlen, q3]
        simp only [Emb.add, if_true]
        rw [this, Nat.add_mul, Nat.add_mul]
        omega
      · intro j hj
        simp only [Emb.add, if_true]
        rw [hcell j hj]
        exact (hrel j hj).mono (fun oo hoo => by
          obtain ⟨a', b', c', d'⟩ := E.add_ext h.next (E.blk p) (E.off p + i) (c + E.slk p - (n + n2)) oo (hr.lt oo hoo); exact ⟨a'.2 hoo, b', c', d'⟩)) rfl
    unfold Oper.wp
    rw [exec_append ho (by rw [e1]; exact hrun)]
    refine hn _ _ _ (by simpa [growHp] using st) (by simpa [growHp] using hr') ?_
    have := VRel.slice (E := E.add h.next (E.blk p) (E.off p + i) (c + E.slk p - (n + n2))) h.next 0 (n + n2) (n + n2) ⟨E.blk p, E.off p + i, none⟩ (.inl rfl) (Nat.le_refl _) (.inr (by simp [Emb.add]))
    rw [show n + n2 + (E.add h.next (E.blk p) (E.off p + i) (c + E.slk p - (n + n2))).slk h.next = c + E.slk p by simp [Emb.add]; omega] at this
    exact this
  · -- a new row
    obtain ⟨nc, hnc, hrun⟩ := run_append_new (t := t) (ty := o.type) (a := some ad) (n := n) (cap := c + sl) (old := old'.toArray) ht' hs hm hz hb hb0 k1 k4 (fun w1 hw1 => by rw [← e1]; exact j4 w1 hw1) (by omega) hroom
    have hlen : ((cp.drop i).take (n * m) ++ src).length = n * m + n2 * m := by simp [k2]; omega
    have hC : ∀ i', i' < ((cp.drop i).take (n * m) ++ src).length → VRel E (((cp.drop i).take (n * m) ++ src).getD i' undef) ((old'.toArray ++ cs'.toArray ++ Builtin.zeroCells z.cells (nc - (n + n2))).getD i' undef) := by
      intro i' hi'
      have hlt : i' < (old' ++ cs').length := by simp [j3, k3]; simpa using hi'
      have : (old'.toArray ++ cs'.toArray ++ Builtin.zeroCells z.cells (nc - (n + n2))).getD i' undef = (old' ++ cs').getD i' undef := by
        rw [Array.getD_eq_getD_getElem?, Array.getElem?_append_left (by simpa using hlt)]
        simp [List.getD_eq_getElem?_getD]
      rw [this]; exact hrel i' hi'
    have hszz : ((cp.drop i).take (n * m) ++ src).length + (nc - (n + n2)) * m ≤ (old'.toArray ++ cs'.toArray ++ Builtin.zeroCells z.cells (nc - (n + n2))).size := by
      rw [hlen]; simp [Builtin.zeroCells, hzm, j3, k3, k2]; omega
    have hvv : ∀ E' : Emb, E'.D h.next → E'.blk h.next = w.heap.size → E'.off h.next = 0 → E'.slk h.next = nc - (n + n2) → VRel E' (.slice (some ⟨h.next, 0, none⟩) (n + n2) (n + n2)) (.slice (some ⟨w.heap.size, 0, none⟩) (n + n2) nc) := by
      intro E' a1 a2 a3 a4
      have := vrel_new (E' := E') a1 a2 a3 (Nat.le_refl (n + n2)) a4
      rwa [show n + n2 + (nc - (n + n2)) = nc by omega] at this
    unfold Oper.wp
    rw [exec_append ho (by rw [e1]; exact hrun)]
    cases ex with
    | true =>
      obtain ⟨st, hr'⟩ := new_obj (w1 := w.drew) (ty := e) (ex := false) hr rfl rfl rfl ⟨rfl, Nat.le_succ _⟩ hszz hC hone (fun e => by cases e)
      exact hn _ _ _ (by simpa [growHp] using st) (by simpa [growHp] using hr') (hvv _ (Or.inl rfl) (by simp [Emb.add]) (by simp [Emb.add]) (by simp [Emb.add]))
    | false =>
      have hk := kill_rel hr p
      obtain ⟨st, hr'⟩ := new_obj (h := h.put p .dead) (w1 := w.drew) (ty := e) (ex := false) hk rfl rfl rfl ⟨rfl, Nat.le_succ _⟩ hszz hC hone (fun e => by cases e)
      exact hn _ _ _ (by simpa [growHp] using (kill_step (E := E) w p).trans st) (by simpa [growHp] using hr') (hvv _ (Or.inl rfl) (by simp [Emb.add, Hp.put]) (by simp [Emb.add, Hp.put]) (by simp [Emb.add, Hp.put]))
theorem ok_appendIn {t t' e : TypeId} {x y : Operand} {m n c n2 p i : Nat} {src cp : List Value} {ex : Bool} {es : Nat} (ho : o.op = .call ⟨.builtin .append, #[x, y], #[t, t']⟩) (hx : ev tm x = .slice (some ⟨p, i, none⟩) n c)
    (hx' : okX x = true) (hy' : okX y = true)
    (ht' : elT P t = some e) (hs : srcT P t' = true) (hm : szT P e = some m) (hsrc : srcV h m (ev tm y) = some (n2, src)) (hle : n + n2 ≤ c)
    (hg : h.get p = .cells cp true ex es) (hcap : i + c * m ≤ cp.length) (hpos : 0 < n2) :
    OpOK P o tm h (.slice (some ⟨p, i, none⟩) (n + n2) c) (h.put p (.cells (putCells cp (i + n * m) src) true ex es)) := by
  intro E base w a next Q hr ht hn
  have hv := mem_ops (x := x) hx' (by rw [ho]; simp [Op.operands, Call.operands]) ht
  have hu := mem_ops (x := y) hy' (by rw [ho]; simp [Op.operands, Call.operands]) ht
  obtain ⟨k1, k2, cs', k3, k4, k5, k6⟩ := run_firstCells_eng (P := P) hr hu hsrc
  rw [hx] at hv
  obtain ⟨hnc, sl, ad, e1, hq⟩ := hv.inv_slice
  obtain ⟨hd, rfl, had⟩ := hq.resolve_right (fun h => h)
  have had : ad = ⟨E.blk p, E.off p + i, none⟩ := had.resolve_left (by omega)
  subst had
  have hmul : (n + n2) * m ≤ c * m := Nat.mul_le_mul_right _ hle
  rw [Nat.add_mul] at hmul
  obtain ⟨w', q1, st, hr'⟩ := store_step (P := P) hr hd hg (i := i + n * m) (vs := src) (vs' := cs') k3.symm (by omega) k5 k6
  have hadd : (⟨E.blk p, E.off p + i, none⟩ : Addr).add (n * m) = ⟨E.blk p, E.off p + (i + n * m), none⟩ := by rw [add_plain', Nat.add_assoc]
  have hrun := run_append_in (t := t) (ty := o.type) (a := some ⟨E.blk p, E.off p + i, none⟩) (n := n) (cap := c + E.slk p) (w' := w') ht' hs hm k1 (k4 w rfl) (by omega)
    (fun b' hb' => by cases hb'; rw [hadd]; exact q1) (fun hb' => by cases hb')
  unfold Oper.wp
  rw [exec_append ho (by rw [e1]; exact hrun)]
  exact hn _ _ _ st hr' (.slice p i _ _ _ hd hle (.inr rfl))
end
end Go.Eng
end
section
namespace Go.Eng
structure ARel (E : Emb) (c c' : Array Value) : Prop where
  size : c.size = c'.size
  rel : ∀ i, i < c.size → VRel E (c.getD i undef) (c'.getD i undef)
  one : ∀ i, i < c.size → (c.getD i undef).oneCell' = true
theorem ARel.set {E : Emb} {c c' : Array Value} (h : ARel E c c') (i : Nat) {v v' : Value} (hv : VRel E v v') (h1 : v.oneCell' = true) : ARel E (c.setIfInBounds i v) (c'.setIfInBounds i v') := by
  have key : ∀ (d : Array Value) (u : Value) (j : Nat), j < d.size → (d.setIfInBounds i u).getD j undef = if i = j then u else d.getD j undef := by
    intro d u j hj
    by_cases e : i = j
    · subst e; simp [Array.getD_eq_getD_getElem?, hj]
    · simp [Array.getD_eq_getD_getElem?, Array.getElem?_setIfInBounds_ne e, e]
  refine ⟨by simp [h.size], fun j hj => ?_, fun j hj => ?_⟩
  · simp at hj
    rw [key c v j hj, key c' v' j (by rw [← h.size]; exact hj)]
    by_cases e : i = j
    · rw [if_pos e, if_pos e]; exact hv
    · rw [if_neg e, if_neg e]; exact h.rel j hj
  · simp at hj
    rw [key c v j hj]
    by_cases e : i = j
    · rw [if_pos e]; exact h1
    · rw [if_neg e]; exact h.one j hj
theorem ARel.fold {E : Emb} (off : Nat) : ∀ (l l' : List Value) (k : Nat) {c c' : Array Value}, ARel E c c' → l.length = l'.length → (∀ i, i < l.length → VRel E (l.getD i undef) (l'.getD i undef)) →
    (∀ i, i < l.length → (l.getD i undef).oneCell' = true) →
    ARel E ((l.zipIdx k).foldl (fun cs (c, j) => cs.setIfInBounds (off + j) c) c) ((l'.zipIdx k).foldl (fun cs (c, j) => cs.setIfInBounds (off + j) c) c')
  | [], [], _, _, _, h, _, _, _ => h
  | [], _ :: _, _, _, _, _, hl, _, _ => by simp at hl
  | _ :: _, [], _, _, _, _, hl, _, _ => by simp at hl
  | v :: l, v' :: l', k, c, c', h, hl, hr, h1 => by
    simp only [List.zipIdx_cons, List.foldl_cons]
    refine ARel.fold off l l' (k + 1) (h.set (off + k) ?_ ?_) (by simpa using hl) (fun i hi => ?_) (fun i hi => ?_)
    · have := hr 0 (by simp); simpa using this
    · have := h1 0 (by simp); simpa using this
    · have := hr (i + 1) (by simpa using hi); simpa using this
    · have := h1 (i + 1) (by simpa using hi); simpa using this
theorem foldl_arr (off : Nat) (d c : Array Value) : d.zipIdx.foldl (fun cs (c, j) => cs.setIfInBounds (off + j) c) c = (d.toList.zipIdx).foldl (fun cs (c, j) => cs.setIfInBounds (off + j) c) c := by
  rw [← Array.foldl_toList, Array.toList_zipIdx]
theorem fill_rel {E : Emb} (place : Nat → Option (Nat × Nat)) : ∀ (ps ps' : List (Nat × Value)) {c c' r : Array Value}, ARel E c c' → ps.length = ps'.length →
    (∀ i, i < ps.length → (ps.getD i (0, undef)).1 = (ps'.getD i (0, undef)).1 ∧ VRel E (ps.getD i (0, undef)).2 (ps'.getD i (0, undef)).2 ∧ notTup (ps.getD i (0, undef)).2 = true) →
    Instr.fill place c ps = some r → ∃ r', Instr.fill place c' ps' = some r' ∧ ARel E r r'
  | [], [], c, c', r, h, _, _, hf => by simp only [Instr.fill, Option.some.injEq] at hf; subst hf; exact ⟨c', rfl, h⟩
  | [], _ :: _, _, _, _, _, hl, _, _ => by simp at hl
  | _ :: _, [], _, _, _, _, hl, _, _ => by simp at hl
  | (i, v) :: ps, (i', v') :: ps', c, c', r, h, hl, hp, hf => by
    obtain ⟨e, hv, hn⟩ := hp 0 (by simp)
    simp at e hv hn
    subst e
    simp only [Instr.fill] at hf ⊢
    cases hpl : place i with
    | none => simp [hpl] at hf
    | some q =>
      obtain ⟨off, size⟩ := q
      simp only [hpl] at hf ⊢
      have hc := hv.cells
      split at hf
      · cases hf
      · rename_i hcond
        rw [← hc.1, ← h.size, if_neg hcond]
        rw [foldl_arr] at hf ⊢
        have hq := ARel.fold off v.cells.toList v'.cells.toList 0 h (by simp [hc.1]) (fun j hj => by rw [toList_getD, toList_getD]; exact hc.2 j (by simpa using hj))
          (fun j hj => by rw [toList_getD]; exact hv.cells_one (notTup_iff hn) j (by simpa using hj))
        exact fill_rel place ps ps' hq (by simpa using hl) (fun j hj => by have := hp (j + 1) (by simpa using hj); simpa using this) hf
def placesT (P : Program) (t : TypeId) : Option (Array (Nat × Nat)) := match P.underlying t with
  | some (.struct fs) => fs.mapM fun f => (szT P f.type).map fun n => (f.offset, n)
  | _ => none
theorem run_mapM_places {P : Program} {w : World} : ∀ (l : List Field) (r : List (Nat × Nat)), (l.mapM fun f => (szT P f.type).map fun n => (f.offset, n)) = some r →
    (l.mapM fun f => do pure (f.offset, ← sizeOf f.type) : Sem (List (Nat × Nat))).run P w = .ok r w
  | [], r, h => by simp at h; subst h; simp
  | f :: l, r, h => by
    simp only [List.mapM_cons] at h ⊢
    cases hs : szT P f.type with
    | none => simp [hs] at h
    | some n =>
      cases hl : (l.mapM fun f => (szT P f.type).map fun n => (f.offset, n)) with
      | none => simp [hs, hl] at h
      | some q =>
        simp [hs, hl] at h
        subst h
        have ih := run_mapM_places (w := w) l q hl
        simp only [Sem.run_bind, run_szT hs, Result.andThen_ok, Sem.run_pure, ih]
theorem run_places {P : Program} {w : World} {fs : Array Field} {r : Array (Nat × Nat)} (h : (fs.mapM fun f => (szT P f.type).map fun n => (f.offset, n)) = some r) :
    (fs.mapM fun f => do pure (f.offset, ← sizeOf f.type) : Sem (Array (Nat × Nat))).run P w = .ok r w := by
  rw [Array.mapM_eq_mapM_toList] at h ⊢
  cases hl : (fs.toList.mapM fun f => (szT P f.type).map fun n => (f.offset, n)) with
  | none => simp [hl] at h
  | some q =>
    simp [hl] at h
    subst h
    have := run_mapM_places (w := w) fs.toList q hl
    rw [Sem.run_map, this]
    rfl
section
variable {P : Program} {o : Oper} {tm : Nat → Value} {h : Hp}
theorem parts_rel {E : Emb} {a : Act} {parts : Array (Nat × Operand)} (hp : parts.all (fun q => okX q.2) = true) (hnt : parts.all (fun q => notTup (ev tm q.2)) = true) (hm : ∀ q ∈ parts, q.2 ∈ o.op.operands)
    (ht : ∀ t, Operand.tmp t ∈ o.op.operands → VRel E (tm t) (a.tmps.getD t undef)) :
    (parts.map fun (i, x) => (i, ev tm x)).toList.length = (parts.map fun (i, x) => (i, a.eval x)).toList.length ∧
    ∀ i, i < (parts.map fun (i, x) => (i, ev tm x)).toList.length → ((parts.map fun (i, x) => (i, ev tm x)).toList.getD i (0, undef)).1 = ((parts.map fun (i, x) => (i, a.eval x)).toList.getD i (0, undef)).1 ∧
      VRel E ((parts.map fun (i, x) => (i, ev tm x)).toList.getD i (0, undef)).2 ((parts.map fun (i, x) => (i, a.eval x)).toList.getD i (0, undef)).2 ∧ notTup ((parts.map fun (i, x) => (i, ev tm x)).toList.getD i (0, undef)).2 = true := by
  refine ⟨by simp, fun i hi => ?_⟩
  simp at hi
  have e1 : (parts.map fun (i, x) => (i, ev tm x)).toList.getD i (0, undef) = (parts[i].1, ev tm parts[i].2) := by
    simp [List.getD_eq_getElem?_getD, hi]
  have e2 : (parts.map fun (i, x) => (i, a.eval x)).toList.getD i (0, undef) = (parts[i].1, a.eval parts[i].2) := by
    simp [List.getD_eq_getElem?_getD, hi]
  rw [e1, e2]
  rw [Array.all_eq_true] at hp hnt
  exact ⟨rfl, mem_ops (hp i hi) (hm _ (Array.getElem_mem hi)) ht, hnt i hi⟩
theorem ARel.ofPlain (E : Emb) {z : Value} (hp : plainV z = true) (hn : notTup z = true) : ARel E z.cells z.cells :=
  ⟨rfl, (VRel.ofV E hp).cells.2, (VRel.ofV E hp).cells_one (notTup_iff hn)⟩
theorem ok_build {t : TypeId} {parts : Array (Nat × Operand)} {z : Value} {pl : Array (Nat × Nat)} {r : Array Value} (ho : o.op = .build t parts) (hp : parts.all (fun q => okX q.2) = true)
    (hnt : parts.all (fun q => notTup (ev tm q.2)) = true) (hz : zeroT P t = some z) (hzp : plainV z = true) (hzn : notTup z = true) (hpl : placesT P t = some pl)
    (hr' : Instr.fill (pl[·]?) z.cells (parts.map fun (i, x) => (i, ev tm x)).toList = some r) : OpOK P o tm h (.agg r) h := by
  refine OpOK.pure fun E base w a hr ht => ?_
  obtain ⟨k1, k2⟩ := parts_rel (tm := tm) (a := a) (E := E) hp hnt (fun q hq => by
    rw [ho]
    simp only [Op.operands]
    rw [List.mem_toArray]
    exact List.mem_map.2 ⟨q, by simpa using hq, rfl⟩) ht
  obtain ⟨r', hf, har⟩ := fill_rel (E := E) (pl[·]?) _ _ (ARel.ofPlain E hzp hzn) k1 k2 hr'
  refine ⟨.agg r', .agg _ _ har.size har.one har.rel, ?_⟩
  unfold placesT at hpl
  split at hpl
  · rename_i fs hu
    simp only [execOp, ho, Instr.build, Sem.run_bind, run_zeroT hz, Result.andThen_ok, run_underlying hu, run_places hpl, hf, Sem.run_pure]
  · cases hpl
theorem ok_buildA {t e : TypeId} {n m : Nat} {parts : Array (Nat × Operand)} {z : Value} {r : Array Value} (ho : o.op = .build t parts) (hp : parts.all (fun q => okX q.2) = true)
    (hnt : parts.all (fun q => notTup (ev tm q.2)) = true) (hz : zeroT P t = some z) (hzp : plainV z = true) (hzn : notTup z = true) (har : arT P t = some (n, e)) (hm : szT P e = some m)
    (hr' : Instr.fill (fun i => some (i * m, m)) z.cells (parts.map fun (i, x) => (i, ev tm x)).toList = some r) : OpOK P o tm h (.agg r) h := by
  refine OpOK.pure fun E base w a hr ht => ?_
  obtain ⟨k1, k2⟩ := parts_rel (tm := tm) (a := a) (E := E) hp hnt (fun q hq => by
    rw [ho]
    simp only [Op.operands]
    rw [List.mem_toArray]
    exact List.mem_map.2 ⟨q, by simpa using hq, rfl⟩) ht
  obtain ⟨r', hf, hrr⟩ := fill_rel (E := E) _ _ _ (ARel.ofPlain E hzp hzn) k1 k2 hr'
  refine ⟨.agg r', .agg _ _ hrr.size hrr.one hrr.rel, ?_⟩
  simp only [execOp, ho, Instr.build, Sem.run_bind, run_zeroT hz, Result.andThen_ok, run_underlying (arT_spec har), run_szT hm, hf, Sem.run_pure]
def zarr (z : Array Value) (n : Nat) : Array Value := (Array.range n).map (z[· % z.size]!)
theorem ok_buildSlice {t e : TypeId} {n m : Nat} {parts : Array (Nat × Operand)} {z : Value} {r : Array Value} (ho : o.op = .buildSlice t n parts) (hp : parts.all (fun q => okX q.2) = true)
    (hnt : parts.all (fun q => notTup (ev tm q.2)) = true) (hz : zeroT P e = some z) (hzp : plainV z = true) (hzn : notTup z = true) (hel : elT P t = some e) (hm : szT P e = some m) (hzm : z.cells.size = m)
    (hle : n * m ≤ 2 ^ 24) (hr' : Instr.fill (fun i => some (i * m, m)) (zarr z.cells (n * m)) (parts.map fun (i, x) => (i, ev tm x)).toList = some r) (hrs : r.size = n * m) :
    OpOK P o tm h (.slice (some ⟨h.next, 0, none⟩) n n) (h.alloc (.cells r.toList true true m)) := by
  intro E base w a next Q hr ht hn
  obtain ⟨k1, k2⟩ := parts_rel (tm := tm) (a := a) (E := E) hp hnt (fun q hq => by
    rw [ho]
    simp only [Op.operands]
    rw [List.mem_toArray]
    exact List.mem_map.2 ⟨q, by simpa using hq, rfl⟩) ht
  have hzr := ARel.ofPlain E hzp hzn
  have hza : ARel E (zarr z.cells (n * m)) (zarr z.cells (n * m)) := by
    have key : ∀ i, i < n * m → (zarr z.cells (n * m)).getD i undef = z.cells.getD (i % z.cells.size) undef ∧ i % z.cells.size < z.cells.size := by
      intro i hi
      have hpos : 0 < z.cells.size := by rw [hzm]; exact Nat.pos_of_ne_zero (fun e => by rw [e] at hi; simp at hi)
      have hlt := Nat.mod_lt i hpos
      refine ⟨?_, hlt⟩
      unfold zarr
      rw [Array.getD_eq_getD_getElem?, Array.getElem?_map, Array.getElem?_range, if_pos hi]
      simp [hlt]
    refine ⟨rfl, fun i hi => ?_, fun i hi => ?_⟩
    · have hi' : i < n * m := by simpa [zarr] using hi
      rw [(key i hi').1]; exact hzr.rel _ (key i hi').2
    · have hi' : i < n * m := by simpa [zarr] using hi
      rw [(key i hi').1]; exact hzr.one _ (key i hi').2
  obtain ⟨r', hf, hrr⟩ := fill_rel (E := E) _ _ _ hza k1 k2 hr'
  have hrun : (execOp a.eval o).run P w = .ok (.value (.slice (some ⟨w.heap.size, 0, none⟩) n n)) (w.alloc (.cells r' e)) := by
    have hle' : ¬ (2 ^ 24 < n * m) := by omega
    unfold zarr at hf
    by_cases h0 : n * m = 0
    · have hr0 : (Array.range 0).map (fun x => (#[] : Array Value)[x % (#[] : Array Value).size]!) = (Array.range 0).map (z.cells[· % z.cells.size]!) := by
        rw [show Array.range 0 = #[] from Array.ext (by simp) (fun i h _ => absurd h (by simp))]; simp
      rw [h0, ← hr0] at hf
      simp only [execOp, ho, Instr.buildSlice, Sem.run_bind, run_underlying (elT_spec hel), Result.andThen_ok, run_szT hm, h0, if_true, Sem.run_pure, hf, newRow, run_newObj, Nat.not_lt_zero, gt_iff_lt, if_false]
      rfl
    · simp only [execOp, ho, Instr.buildSlice, Sem.run_bind, run_underlying (elT_spec hel), Result.andThen_ok, run_szT hm, h0, if_false, run_zeroT hz, Sem.run_pure, hf, newRow, run_newObj, gt_iff_lt, hle']
      rfl
  refine new_row (u := fun b => .slice (some ⟨b, 0, none⟩) n n) (s := 0) (C := r') (ty := e) hr (by simp [hrr.size]) ?_ ?_ (fun _ => rfl) hrun ?_ hn
  · intro i hi; rw [toList_getD]; exact hrr.rel i (by simpa using hi)
  · intro i hi; rw [toList_getD]; exact hrr.one i (by simpa using hi)
  · intro E' a1 a2 a3 a4 _
    have := vrel_new (E' := E') a1 a2 a3 (Nat.le_refl n) a4
    simpa using this
end
end Go.Eng
end
section
namespace Go.Eng
def CallOK (P : Program) (f : FuncId) (args : Array Value) (h : Hp) (v : Value) (h' : Hp) : Prop :=
  ∀ (E : Emb) (base : Nat) (w : World) (args' : Array Value), HRel E base h w.heap → args.size = args'.size → (∀ i, i < args.size → VRel E (args.getD i undef) (args'.getD i undef)) →
    Calls P f args' w fun e w' => ∃ E' v', e = .returned v' ∧ Step E h w E' h' w' ∧ HRel E' base h' w'.heap ∧ VRel E' v v'
def fnOK (P : Program) (f : FuncId) : Bool := match P.funcs[f]? with
  | some fn => fn.body.isSome && !(fn.name == "runtime.NumGoroutine")
  | none => false
section
variable {P : Program} {o : Oper} {tm : Nat → Value} {h h' : Hp}
theorem VRel.inv_func {E : Emb} {fn : Fn} {f c : Array Value} {v' : Value} (h : VRel E (.func fn f c) v') : ∃ f' c', v' = .func fn f' c' ∧ f.size = f'.size ∧ c.size = c'.size ∧
    (∀ i, i < f.size → VRel E (f.getD i Go.undef) (f'.getD i Go.undef)) ∧ ∀ i, i < c.size → VRel E (c.getD i Go.undef) (c'.getD i Go.undef) := by
  cases h; exact ⟨_, _, rfl, by assumption, by assumption, by assumption, by assumption⟩
theorem arr_append {E : Emb} {a b a' b' : Array Value} (h1 : a.size = a'.size) (h2 : b.size = b'.size) (r1 : ∀ i, i < a.size → VRel E (a.getD i Go.undef) (a'.getD i Go.undef))
    (r2 : ∀ i, i < b.size → VRel E (b.getD i Go.undef) (b'.getD i Go.undef)) : (a ++ b).size = (a' ++ b').size ∧ ∀ i, i < (a ++ b).size → VRel E ((a ++ b).getD i Go.undef) ((a' ++ b').getD i Go.undef) := by
  refine ⟨by simp [h1, h2], fun i hi => ?_⟩
  simp at hi
  by_cases hl : i < a.size
  · have e1 : (a ++ b).getD i undef = a.getD i undef := by rw [Array.getD_eq_getD_getElem?, Array.getD_eq_getD_getElem?, Array.getElem?_append_left hl]
    have e2 : (a' ++ b').getD i undef = a'.getD i undef := by rw [Array.getD_eq_getD_getElem?, Array.getD_eq_getD_getElem?, Array.getElem?_append_left (by omega)]
    rw [e1, e2]; exact r1 i hl
  · have e1 : (a ++ b).getD i undef = b.getD (i - a.size) undef := by rw [Array.getD_eq_getD_getElem?, Array.getD_eq_getD_getElem?, Array.getElem?_append_right (by omega)]
    have e2 : (a' ++ b').getD i undef = b'.getD (i - a.size) undef := by rw [Array.getD_eq_getD_getElem?, Array.getD_eq_getD_getElem?, Array.getElem?_append_right (by omega), h1]
    rw [e1, e2]; exact r2 _ (by omega)
theorem args_rel {E : Emb} {a : Act} {xs : Array Operand} (hx : xs.all okX = true) (hm : ∀ x ∈ xs, x ∈ o.op.operands) (ht : ∀ t, Operand.tmp t ∈ o.op.operands → VRel E (tm t) (a.tmps.getD t undef)) :
    ∀ i, i < (xs.map (ev tm)).size → VRel E ((xs.map (ev tm)).getD i undef) ((xs.map a.eval).getD i undef) := by
  intro i hi
  simp at hi
  have e1 : (xs.map (ev tm)).getD i undef = ev tm xs[i] := by simp [Array.getD_eq_getD_getElem?, hi]
  have e2 : (xs.map a.eval).getD i undef = a.eval xs[i] := by simp [Array.getD_eq_getD_getElem?, hi]
  rw [e1, e2]
  rw [Array.all_eq_true] at hx
  exact mem_ops (hx i hi) (hm _ (Array.getElem_mem hi)) ht
theorem ok_call {fx : Operand} {xs : Array Operand} {ts : Array TypeId} {f : FuncId} {fst cap : Array Value} {v : Value} (ho : o.op = .call ⟨.value fx, xs, ts⟩) (hfx : ev tm fx = .func (.func f) fst cap) (hfx' : okX fx = true)
    (hxs : xs.all okX = true) (hfn : fnOK P f = true) (hc : CallOK P f (fst ++ xs.map (ev tm) ++ cap) h v h') : OpOK P o tm h v h' := by
  intro E base w a next Q hr ht hn
  have hv := mem_ops (x := fx) hfx' (by rw [ho]; simp [Op.operands, Call.operands]) ht
  have ha := args_rel (tm := tm) (a := a) hxs (fun x hx => by rw [ho]; simp [Op.operands, Call.operands, hx]) ht
  rw [hfx] at hv
  obtain ⟨f', c', e, s1, s2, r1, r2⟩ := hv.inv_func
  obtain ⟨q1, q2⟩ := arr_append s1 (show (xs.map (ev tm)).size = (xs.map a.eval).size by simp) r1 ha
  obtain ⟨q3, q4⟩ := arr_append q1 s2 q2 r2
  have hrun : (execOp a.eval o).run P w = .ok (.enter f (f' ++ xs.map a.eval ++ c')) w := by
    unfold fnOK at hfn
    split at hfn
    · rename_i fn hfn'
      simp only [Bool.and_eq_true, Bool.not_eq_true'] at hfn
      have hbn : ¬ fn.body = none := by intro hb; rw [hb] at hfn; simp at hfn
      have hnm : ¬ fn.name = "runtime.NumGoroutine" := by have := hfn.2; simpa using this
      simp [execOp, ho, resolve, e, Deferred.ofValue, invoke, callFunc, hfn', hnm, hbn]
    · cases hfn
  unfold Oper.wp
  rw [hrun]
  exact (hc E base w _ hr q3 q4).mono fun e' w' ⟨E', v', he, st, hr', hv'⟩ => by subst he; exact hn E' w' v' st hr' hv'
end
def upd (tm : Nat → Value) (d : Nat) (v : Value) : Nat → Value := fun t => if t = d then v else tm t
def updO (tm : Nat → Value) : Option Nat → Value → Nat → Value
  | none, _ => tm
  | some d, v => upd tm d v
def dstOK (n : Nat) : Option Nat → Bool
  | none => true
  | some d => decide (d < n)
structure TRel (E : Emb) (n : Nat) (tm : Nat → Value) (a : Act) : Prop where
  size : a.tmps.size = n
  rel : ∀ t, VRel E (tm t) (a.tmps.getD t undef)
  defers : a.defers = []
theorem TRel.put {E : Emb} {n : Nat} {tm : Nat → Value} {a : Act} (h : TRel E n tm a) {v v' : Value} (hv : VRel E v v') {d : Option Nat} (hd : dstOK n d = true) : TRel E n (updO tm d v) (a.put d v') := by
  cases d with
  | none => exact h
  | some d =>
    have hd' : d < n := by simpa [dstOK] using hd
    refine ⟨by simp [Act.put, h.size], fun t => ?_, h.defers⟩
    simp only [updO, upd, Act.put]
    by_cases e : t = d
    · subst e
      have : (a.tmps.setIfInBounds t v').getD t undef = v' := by simp [Array.getD_eq_getD_getElem?, h.size, hd']
      rw [if_pos rfl, this]; exact hv
    · have : (a.tmps.setIfInBounds d v').getD t undef = a.tmps.getD t undef := by
        rw [Array.getD_eq_getD_getElem?, Array.getD_eq_getD_getElem?, Array.getElem?_setIfInBounds_ne (fun q => e q.symm)]
      rw [if_neg e, this]; exact h.rel t
theorem TRel.step {E E' : Emb} {n : Nat} {tm : Nat → Value} {a : Act} {h h' : Hp} {w w' : World} {base : Nat} (ht : TRel E n tm a) (s : Step E h w E' h' w') (hr : HRel E base h w.heap) : TRel E' n tm a :=
  ⟨ht.size, fun t => s.vrel hr (ht.rel t), ht.defers⟩
def wantA (ops : Array Oper) (tm : Nat → Value) (o : Oper) : Option Bool :=
  match o.guard with
  | none => some true
  | some (j, want) => match (ops[j]?).bind (·.dst) with
    | some d => match tm d with
      | .bool b => some (b == want)
      | .tuple _ => some false
      | _ => none
    | none => none
theorem VRel.inv_tuple {E : Emb} {c : Array Value} {v' : Value} (h : VRel E (.tuple c) v') : ∃ c', v' = .tuple c' := by cases h; exact ⟨_, rfl⟩
theorem wantA_rel {ops : Array Oper} {E : Emb} {n : Nat} {tm : Nat → Value} {a : Act} {o : Oper} {b : Bool} (h : wantA ops tm o = some b) (hg : ∀ j want d, o.guard = some (j, want) → (ops[j]?).bind (·.dst) = some d → d < n)
    (ht : TRel E n tm a) : Region.wanted o (yielded ops a.tmps) = b := by
  unfold wantA at h
  unfold Region.wanted
  split at h
  · rename_i hgd; simp only [Option.some.injEq] at h; subst h; rw [hgd]
  · rename_i j want hgd
    rw [hgd]
    split at h
    · rename_i d hd
      split at h
      · rename_i bb hb
        simp only [Option.some.injEq] at h
        subst h
        have hlt := hg j want d hgd hd
        have hr := ht.rel d
        rw [hb] at hr
        obtain ⟨z, hz, hz'⟩ := getD_some (c := a.tmps) (i := d) (by rw [ht.size]; exact hlt)
        have hz2 : z = .bool bb := by rw [← hz']; exact hr.inv_bool
        subst hz2
        simp only [yielded, hd, Option.bind_some, hz]
        cases bb <;> cases want <;> rfl
      · rename_i bb hb
        simp only [Option.some.injEq] at h
        subst h
        have hlt := hg j want d hgd hd
        have hr := ht.rel d
        rw [hb] at hr
        obtain ⟨z, hz, hz'⟩ := getD_some (c := a.tmps) (i := d) (by rw [ht.size]; exact hlt)
        obtain ⟨c', hc'⟩ := hr.inv_tuple
        have hz2 : z = .tuple c' := by rw [← hz']; exact hc'
        subst hz2
        simp only [yielded, hd, Option.bind_some, hz]
        cases want <;> rfl
      · cases h
    · cases h
def guardOK (n : Nat) (ops : Array Oper) (o : Oper) : Bool :=
  match o.guard with
  | none => true
  | some (j, _) => match (ops[j]?).bind (·.dst) with
    | some d => decide (d < n)
    | none => false
theorem guardOK_spec {n : Nat} {ops : Array Oper} {o : Oper} (h : guardOK n ops o = true) : ∀ j want d, o.guard = some (j, want) → (ops[j]?).bind (·.dst) = some d → d < n := by
  intro j want d hg hd
  unfold guardOK at h
  rw [hg] at h
  simp only [hd] at h
  simpa using h
def RunOps (P : Program) (n : Nat) (ops : Array Oper) : List Oper → ((Nat → Value) → Hp → Prop) → (Nat → Value) → Hp → Prop
  | [], Q, tm, h => Q tm h
  | o :: rest, Q, tm, h => dstOK n o.dst = true ∧ guardOK n ops o = true ∧
    ((wantA ops tm o = some true ∧ ∃ v h', OpOK P o tm h v h' ∧ RunOps P n ops rest Q (updO tm o.dst v) h') ∨
     (wantA ops tm o = some false ∧ RunOps P n ops rest Q (updO tm o.dst undef) h))
theorem runOps_sound {P : Program} {n : Nat} {ops : Array Oper} {Q : (Nat → Value) → Hp → Prop} : ∀ (l : List Oper) (k : Nat) (tm : Nat → Value) (h : Hp), ops.toList.drop k = l → RunOps P n ops l Q tm h →
    ∃ tm' h', Q tm' h' ∧ ∀ (E : Emb) (base : Nat) (w : World) (a : Act) (R : Exit → Act → World → Prop), HRel E base h w.heap → TRel E n tm a →
      (∀ E' w' a', Step E h w E' h' w' → HRel E' base h' w'.heap → TRel E' n tm' a' → R .normal a' w') → wpOps P ops R (List.range' k l.length) a w
  | [], k, tm, h, _, hq => ⟨tm, h, hq, fun E base w a R hr ht hn => by simpa [wpOps] using hn E w a (Step.refl E h w) hr ht⟩
  | o :: rest, k, tm, h, hl, hq => by
    have hk : ops[k]? = some o := by
      have : (ops.toList.drop k)[0]? = some o := by rw [hl]; rfl
      simpa using this
    have hl2 : ops.toList.drop (k + 1) = rest := by
      rw [← List.drop_drop, hl]; rfl
    obtain ⟨hd, hg, hq⟩ := hq
    rcases hq with ⟨hw, v, h1, hok, hq⟩ | ⟨hw, hq⟩
    · obtain ⟨tm', h', hQ, hs⟩ := runOps_sound rest (k + 1) _ _ hl2 hq
      refine ⟨tm', h', hQ, fun E base w a R hr ht hn => ?_⟩
      simp only [List.length_cons, List.range'_succ, wpOps, hk]
      rw [wantA_rel hw (guardOK_spec hg) ht, if_pos rfl]
      left
      exact hok E base w a _ R hr (fun t _ => ht.rel t) fun E1 w1 v1 st hr1 hv1 =>
        hs E1 base w1 _ R hr1 ((ht.step st hr).put hv1 hd) fun E2 w2 a2 st2 hr2 ht2 => hn E2 w2 a2 (st.trans st2) hr2 ht2
    · obtain ⟨tm', h', hQ, hs⟩ := runOps_sound rest (k + 1) _ _ hl2 hq
      refine ⟨tm', h', hQ, fun E base w a R hr ht hn => ?_⟩
      simp only [List.length_cons, List.range'_succ, wpOps, hk]
      rw [wantA_rel hw (guardOK_spec hg) ht, if_neg (by simp)]
      exact hs E base w _ R hr (ht.put (VRel.undef E) hd) hn
def CodeOK (P : Program) (n : Nat) (c : Code) (tm : Nat → Value) (h : Hp) (e : Exit) (tm' : Nat → Value) (h' : Hp) : Prop :=
  ∀ (E : Emb) (base : Nat) (w : World) (a : Act), HRel E base h w.heap → TRel E n tm a →
    c.wp P (fun ex a' w' => ex = e ∧ ∃ E', Step E h w E' h' w' ∧ HRel E' base h' w'.heap ∧ TRel E' n tm' a') a w
def Runs (P : Program) (n : Nat) (c : Code) (Q : Exit → (Nat → Value) → Hp → Prop) (tm : Nat → Value) (h : Hp) : Prop :=
  ∃ e tm' h', CodeOK P n c tm h e tm' h' ∧ Q e tm' h'
section
variable {P : Program} {n : Nat} {tm : Nat → Value} {h : Hp}
theorem Runs.mono {c : Code} {Q Q' : Exit → (Nat → Value) → Hp → Prop} (hr : Runs P n c Q tm h) (hq : ∀ e tm h, Q e tm h → Q' e tm h) : Runs P n c Q' tm h :=
  let ⟨e, tm', h', hc, q⟩ := hr; ⟨e, tm', h', hc, hq _ _ _ q⟩
theorem runs_skip {Q : Exit → (Nat → Value) → Hp → Prop} (hq : Q .normal tm h) : Runs P n .skip Q tm h :=
  ⟨.normal, tm, h, fun E _ w _ hr ht => wp_skip ⟨rfl, E, Step.refl E h w, hr, ht⟩, hq⟩
theorem runs_label {l : Nat} {Q : Exit → (Nat → Value) → Hp → Prop} (hq : Q .normal tm h) : Runs P n (.label l) Q tm h :=
  ⟨.normal, tm, h, fun E _ w _ hr ht => wp_label ⟨rfl, E, Step.refl E h w, hr, ht⟩, hq⟩
theorem runs_exit {i : Nat} {Q : Exit → (Nat → Value) → Hp → Prop} (hq : Q (.exit i) tm h) : Runs P n (.exit i) Q tm h :=
  ⟨.exit i, tm, h, fun E _ w _ hr ht => wp_exit ⟨rfl, E, Step.refl E h w, hr, ht⟩, hq⟩
theorem runs_ret {Q : Exit → (Nat → Value) → Hp → Prop} (hq : Q .ret tm h) : Runs P n .ret Q tm h :=
  ⟨.ret, tm, h, fun E _ w _ hr ht => wp_ret ⟨rfl, E, Step.refl E h w, hr, ht⟩, hq⟩
theorem runs_region {id : Nat} {ops : Array Oper} {Q : Exit → (Nat → Value) → Hp → Prop} (hq : RunOps P n ops ops.toList (Q .normal) tm h) : Runs P n (.region id ops false) Q tm h := by
  obtain ⟨tm', h', hQ, hs⟩ := runOps_sound ops.toList 0 tm h rfl hq
  refine ⟨.normal, tm', h', fun E base w a hr ht => wp_region ?_, hQ⟩
  have := hs E base w a (fun ex a' w' => ex = .normal ∧ ∃ E', Step E h w E' h' w' ∧ HRel E' base h' w'.heap ∧ TRel E' n tm' a') hr ht (fun E' w' a' st hr' ht' => ⟨rfl, E', st, hr', ht'⟩)
  simpa [List.range_eq_range'] using this
theorem codeOK_seq {x y : Code} {tm1 tm2 : Nat → Value} {h1 h2 : Hp} {e : Exit} (ha : CodeOK P n x tm h .normal tm1 h1) (hb : CodeOK P n y tm1 h1 e tm2 h2) : CodeOK P n (.seq x y) tm h e tm2 h2 := by
  intro E base w a hr ht
  refine wp_seq (wp_mono (ha E base w a hr ht) ?_)
  rintro ex a1 w1 ⟨rfl, E1, st, hr1, ht1⟩
  refine wp_mono (hb E1 base w1 a1 hr1 ht1) ?_
  rintro ex a2 w2 ⟨rfl, E2, st2, hr2, ht2⟩
  exact ⟨rfl, E2, st.trans st2, hr2, ht2⟩
theorem codeOK_seq' {x y : Code} {tm1 : Nat → Value} {h1 : Hp} {e : Exit} (he : e ≠ .normal) (ha : CodeOK P n x tm h e tm1 h1) : CodeOK P n (.seq x y) tm h e tm1 h1 := by
  intro E base w a hr ht
  refine wp_seq (wp_mono (ha E base w a hr ht) ?_)
  rintro ex a1 w1 ⟨rfl, E1, st, hr1, ht1⟩
  cases ex with
  | normal => exact absurd rfl he
  | _ => exact ⟨rfl, E1, st, hr1, ht1⟩
theorem runs_seq {x y : Code} {Q : Exit → (Nat → Value) → Hp → Prop} (hx : Runs P n x (fun e tm h => (e = .normal ∧ Runs P n y Q tm h) ∨ (e ≠ .normal ∧ Q e tm h)) tm h) : Runs P n (.seq x y) Q tm h := by
  obtain ⟨e, tm1, h1, hc, hq⟩ := hx
  rcases hq with ⟨rfl, e2, tm2, h2, hc2, hq2⟩ | ⟨he, hq⟩
  · exact ⟨e2, tm2, h2, codeOK_seq hc hc2, hq2⟩
  · exact ⟨e, tm1, h1, codeOK_seq' he hc, hq⟩
theorem runs_cond {c : Operand} {x y : Code} {t : Bool} {Q : Exit → (Nat → Value) → Hp → Prop} (hc : ev tm c = .bool t) (hc' : okX c = true) (hq : Runs P n (if t then x else y) Q tm h) : Runs P n (.cond c x y) Q tm h := by
  obtain ⟨e, tm1, h1, hok, hq⟩ := hq
  refine ⟨e, tm1, h1, fun E base w a hr ht => ?_, hq⟩
  have hv := ev_rel (tm := tm) (a := a) hc' (fun q _ => ht.rel q)
  rw [hc] at hv
  exact wp_cond hv.inv_bool (hok E base w a hr ht)
def inBlk (id : Nat) (Q : Exit → (Nat → Value) → Hp → Prop) : Exit → (Nat → Value) → Hp → Prop
  | .exit id', tm, h => if id' = id then Q .normal tm h else Q (.exit id') tm h
  | e, tm, h => Q e tm h
theorem runs_block {id : Nat} {c : Code} {Q : Exit → (Nat → Value) → Hp → Prop} (hq : Runs P n c (inBlk id Q) tm h) : Runs P n (.block id c) Q tm h := by
  obtain ⟨e, tm1, h1, hok, hq⟩ := hq
  refine ⟨match e with | .exit id' => if id' = id then .normal else .exit id' | e => e, tm1, h1, fun E base w a hr ht => wp_block (wp_mono (hok E base w a hr ht) ?_), ?_⟩
  · rintro ex a1 w1 ⟨rfl, q⟩
    cases ex with
    | exit id' =>
      simp only [Exit.inBlock]
      split <;> exact ⟨by simp_all, q⟩
    | _ => exact ⟨rfl, q⟩
  · cases e with
    | exit id' => simp only [inBlk] at hq; split at hq <;> simp_all
    | _ => exact hq
theorem wp_loop_of {c : Code} {Q : Exit → Act → World → Prop} (I : Nat → Act → World → Prop) (round : ∀ k a w, I k a w → c.wp P (Exit.then (fun a' w' => ∃ k', k' < k ∧ I k' a' w') Q) a w) {k : Nat} {a : Act} {w : World} (h₀ : I k a w) :
    (Code.loop c).wp P Q a w := by
  intro b kk cs
  have key : ∀ n a w, I n a w → ∃ e a' w', Q e a' w' ∧ Arrives P (lone (b.at a (.code c :: .inLoop c :: kk)) cs w) b kk cs e a' w' := by
    intro n
    induction n using Nat.strongRecOn with
    | _ n ih =>
      intro a w hI
      obtain ⟨e, a₁, w₁, hq, harr⟩ := round n a w hI b (.inLoop c :: kk) cs
      cases e with
      | normal =>
        obtain ⟨k', hlt, hI₁⟩ := hq
        obtain ⟨e₂, a₂, w₂, hq₂, harr₂⟩ := ih k' hlt a₁ w₁ hI₁
        exact ⟨e₂, a₂, w₂, hq₂, .of_steps (Steps.trans harr (.one step_inLoop)) harr₂⟩
      | exit id => exact ⟨_, a₁, w₁, hq, .pass (x := .inLoop c) rfl (fun _ _ => .inl (by simp)) harr⟩
      | goto l => exact ⟨_, a₁, w₁, hq, .pass (x := .inLoop c) rfl (fun _ _ => .inl (by simp)) harr⟩
      | ret => exact ⟨_, a₁, w₁, hq, .pass (x := .inLoop c) rfl (fun _ _ => .inl (by simp)) harr⟩
      | panic ch => exact ⟨_, a₁, w₁, hq, .pass (x := .inLoop c) rfl (fun _ _ => .inl (by simp)) harr⟩
      | outgrown => exact ⟨_, a₁, w₁, hq, .pass (x := .inLoop c) rfl (fun _ _ => .inl (by simp)) harr⟩
  obtain ⟨e, a', w', hq, harr⟩ := key _ a w h₀
  exact ⟨e, a', w', hq, .of_steps (.one step_loop) harr⟩
inductive Rounds (P : Program) (n : Nat) (c : Code) (e : Exit) (tm' : Nat → Value) (h' : Hp) : Nat → (Nat → Value) → Hp → Prop
  | last {k : Nat} {tm : Nat → Value} {h : Hp} (he : e ≠ .normal) (hc : CodeOK P n c tm h e tm' h') : Rounds P n c e tm' h' k tm h
  | more {k : Nat} {tm tm1 : Nat → Value} {h h1 : Hp} (hc : CodeOK P n c tm h .normal tm1 h1) (hr : Rounds P n c e tm' h' k tm1 h1) : Rounds P n c e tm' h' (k + 1) tm h
theorem Rounds.code {c : Code} {e : Exit} {tm' : Nat → Value} {h' : Hp} {k : Nat} (hr : Rounds P n c e tm' h' k tm h) : CodeOK P n (.loop c) tm h e tm' h' := by
  intro E base w a hrel ht
  refine wp_loop_of (fun k a1 w1 => ∃ tm1 h1 E1, Rounds P n c e tm' h' k tm1 h1 ∧ Step E h w E1 h1 w1 ∧ HRel E1 base h1 w1.heap ∧ TRel E1 n tm1 a1) ?_ (k := k) ⟨tm, h, E, hr, Step.refl E h w, hrel, ht⟩
  rintro k a1 w1 ⟨tm1, h1, E1, hr1, st, hrel1, ht1⟩
  cases hr1 with
  | last he hc =>
    refine wp_mono (hc E1 base w1 a1 hrel1 ht1) ?_
    rintro ex a2 w2 ⟨rfl, E2, st2, hrel2, ht2⟩
    cases ex with
    | normal => exact absurd rfl he
    | _ => exact ⟨rfl, E2, st.trans st2, hrel2, ht2⟩
  | more hc hr2 =>
    refine wp_mono (hc E1 base w1 a1 hrel1 ht1) ?_
    rintro ex a2 w2 ⟨rfl, E2, st2, hrel2, ht2⟩
    exact ⟨_, Nat.lt_succ_self _, _, _, E2, hr2, st.trans st2, hrel2, ht2⟩
theorem runs_loop {c : Code} {Q : Exit → (Nat → Value) → Hp → Prop} (I : Nat → (Nat → Value) → Hp → Prop) (round : ∀ k tm h, I k tm h → Runs P n c (fun e tm' h' => (e = .normal ∧ ∃ k', k' < k ∧ I k' tm' h') ∨ (e ≠ .normal ∧ Q e tm' h')) tm h)
    {k : Nat} (h0 : I k tm h) : Runs P n (.loop c) Q tm h := by
  have key : ∀ k tm h, I k tm h → ∃ e tm' h' j, Rounds P n c e tm' h' j tm h ∧ Q e tm' h' := by
    intro k
    induction k using Nat.strongRecOn with
    | _ k ih =>
      intro tm h hI
      obtain ⟨e, tm1, h1, hc, hq⟩ := round k tm h hI
      rcases hq with ⟨rfl, k', hlt, hI'⟩ | ⟨he, hq⟩
      · obtain ⟨e2, tm2, h2, j, hr, hq2⟩ := ih k' hlt tm1 h1 hI'
        exact ⟨e2, tm2, h2, j + 1, .more hc hr, hq2⟩
      · exact ⟨e, tm1, h1, 0, .last he hc, hq⟩
  obtain ⟨e, tm', h', j, hr, hq⟩ := key k tm h h0
  exact ⟨e, tm', h', hr.code, hq⟩
end
def WP (P : Program) (n : Nat) : Code → (Exit → (Nat → Value) → Hp → Prop) → (Nat → Value) → Hp → Prop
  | .skip, Q, tm, h => Q .normal tm h
  | .region _ ops false, Q, tm, h => RunOps P n ops ops.toList (Q .normal) tm h
  | .seq x y, Q, tm, h => WP P n x (fun e tm h => (e = .normal ∧ WP P n y Q tm h) ∨ (e ≠ .normal ∧ Q e tm h)) tm h
  | .cond c x y, Q, tm, h => okX c = true ∧ ((ev tm c = .bool true ∧ WP P n x Q tm h) ∨ (ev tm c = .bool false ∧ WP P n y Q tm h))
  | .block id c, Q, tm, h => WP P n c (inBlk id Q) tm h
  | .exit i, Q, tm, h => Q (.exit i) tm h
  | .ret, Q, tm, h => Q .ret tm h
  | .label _, Q, tm, h => Q .normal tm h
  | c, Q, tm, h => Runs P n c Q tm h
end Go.Eng
end
section
namespace Go.Eng
def resOne (P : Program) (tm : Nat → Value) (h : Hp) : ResultVar → Option Value
  | .tmp t => some (tm t)
  | .cell a t => match tm a with
    | .pointer (some ⟨p, i, none⟩) => match h.get p with
      | .cells c _ _ _ => match aggT P t with
        | some false => if i < c.length then some (c.getD i undef) else none
        | some true => match szT P t with
          | some m => if i + m ≤ c.length then some (.agg ((c.drop i).take m).toArray) else none
          | none => none
        | none => none
      | _ => none
    | _ => none
def resL (P : Program) (tm : Nat → Value) (h : Hp) : List ResultVar → Option (List Value)
  | [] => some []
  | r :: rs => match resOne P tm h r, resL P tm h rs with
    | some v, some vs => some (v :: vs)
    | _, _ => none
def packL : List Value → Value
  | [v] => v
  | vs => .tuple vs.toArray
def resM (tmps : Array Value) : ResultVar → Sem Value
  | .tmp t => pure (tmps.getD t undef)
  | .cell q t => do loadVar t (← asAddr (tmps.getD q undef))
theorem resOne_rel {P : Program} {E : Emb} {base n : Nat} {h : Hp} {w : World} {tm : Nat → Value} {a : Act} (hr : HRel E base h w.heap) (ht : TRel E n tm a) {r : ResultVar} {v : Value} (hv : resOne P tm h r = some v) :
    ∃ v', VRel E v v' ∧ (resM a.tmps r).run P w = .ok v' w := by
  cases r with
  | tmp t =>
    simp only [resOne] at hv
    simp only [Option.some.injEq] at hv
    subst hv
    exact ⟨_, ht.rel t, rfl⟩
  | cell q t =>
    simp only [resOne] at hv
    split at hv
    · rename_i p i hq
      have hp := ht.rel q
      rw [hq] at hp
      obtain ⟨hd, e⟩ := hp.inv_ptr
      simp only [resM, e, asAddr, Sem.run_bind, Sem.run_pure, Result.andThen_ok]
      split at hv
      · rename_i c own ex es hg
        have hl := run_loadVar_eng (P := P) hr hd hg t i
        split at hv
        · rename_i ha
          split at hv
          · rename_i hi
            simp only [Option.some.injEq] at hv
            subst hv
            exact hl.1 ha hi
          · cases hv
        · rename_i ha
          split at hv
          · rename_i m hm
            split at hv
            · rename_i hi
              simp only [Option.some.injEq] at hv
              subst hv
              exact hl.2 m ha hm hi
            · cases hv
          · cases hv
        · cases hv
      · cases hv
    · cases hv
theorem resL_rel {P : Program} {E : Emb} {base n : Nat} {h : Hp} {w : World} {tm : Nat → Value} {a : Act} (hr : HRel E base h w.heap) (ht : TRel E n tm a) : ∀ (rs : List ResultVar) (vs : List Value), resL P tm h rs = some vs →
    ∃ vs' : List Value, vs.length = vs'.length ∧ (∀ i, i < vs.length → VRel E (vs.getD i undef) (vs'.getD i undef)) ∧ (rs.mapM (resM a.tmps)).run P w = .ok vs' w
  | [], vs, h => by simp only [resL, Option.some.injEq] at h; subst h; exact ⟨[], rfl, fun i hi => absurd hi (by simp), by simp⟩
  | r :: rs, vs, h => by
    simp only [resL] at h
    split at h
    · rename_i v vs1 h1 h2
      simp only [Option.some.injEq] at h
      subst h
      obtain ⟨v', g1, g2⟩ := resOne_rel hr ht h1
      obtain ⟨vs', g3, g4, g5⟩ := resL_rel hr ht rs vs1 h2
      refine ⟨v' :: vs', by simp [g3], fun i hi => ?_, ?_⟩
      · cases i with
        | zero => simpa using g1
        | succ i => simpa using g4 i (by simpa using hi)
      · simp only [List.mapM_cons, Sem.run_bind, g2, Result.andThen_ok, g5, Sem.run_pure]
    · cases h
theorem run_results {P : Program} {fn : Func} {tmps : Array Value} {w : World} {vs : List Value} (h : (fn.results.toList.mapM (resM tmps)).run P w = .ok vs w) : (results fn tmps).run P w = .ok (packL vs) w := by
  have h2 : (fn.results.mapM (resM tmps)).run P w = .ok vs.toArray w := by
    rw [Array.mapM_eq_mapM_toList, Sem.run_map, h]; rfl
  have h3 : results fn tmps = (do
      let vs ← fn.results.mapM (resM tmps)
      pure (if h : vs.size = 1 then vs[0] else .tuple vs)) := by
    unfold results
    congr 1
  rw [h3, Sem.run_bind, h2]
  simp only [Result.andThen_ok, Sem.run_pure]
  match vs with
  | [] => rfl
  | [v] => rfl
  | _ :: _ :: _ => rfl
theorem pack_rel {E : Emb} {vs vs' : List Value} (hl : vs.length = vs'.length) (hr : ∀ i, i < vs.length → VRel E (vs.getD i undef) (vs'.getD i undef)) : VRel E (packL vs) (packL vs') := by
  match vs, vs', hl with
  | [], [], _ => exact VRel.undef E
  | [v], [v'], _ => exact (by simpa using hr 0 (by simp) : VRel E v v')
  | a :: b :: l, a' :: b' :: l', hl => exact .tuple _ _ (by simpa using hl) (fun i hi => by simpa using hr i (by simpa using hi))
def Done (P : Program) (rs : List ResultVar) (R : Value → Hp → Prop) (e : Exit) (tm : Nat → Value) (h : Hp) : Prop :=
  (e = .normal ∨ e = .ret) ∧ ∃ vs, resL P tm h rs = some vs ∧ R (packL vs) h
theorem call_of_runs {P : Program} {f : FuncId} {fn : Func} {body : Code} {args : Array Value} {h : Hp} {R : Value → Hp → Prop} (n : Nat) (hf : P.funcs[f]? = some fn) (hb : fn.body = some body)
    (hn : args.size + (fn.ntmps - args.size) = n) (hw : Runs P n body (Done P fn.results.toList R) (fun t => args.getD t undef) h) : ∃ v h', CallOK P f args h v h' ∧ R v h' := by
  obtain ⟨e, tm', h', hc, he, vs, hv, hR⟩ := hw
  refine ⟨packL vs, h', ?_, hR⟩
  intro E base w args' hr hs hrel
  refine calls_of_wp hf hb (wp_mono (hc E base w _ hr ⟨by simp; omega, fun t => ?_, rfl⟩) ?_)
  · by_cases ht : t < args.size
    · have : (args' ++ Array.replicate (fn.ntmps - args'.size) undef).getD t undef = args'.getD t undef := by
        rw [Array.getD_eq_getD_getElem?, Array.getD_eq_getD_getElem?, Array.getElem?_append_left (by omega)]
      simp only [this]
      exact hrel t ht
    · have e1 : args.getD t undef = undef := by rw [Array.getD_eq_getD_getElem?, Array.getElem?_eq_none (by omega)]; rfl
      have e2 : (args' ++ Array.replicate (fn.ntmps - args'.size) undef).getD t undef = undef := by
        rw [Array.getD_eq_getD_getElem?, Array.getElem?_append_right (by omega)]
        by_cases hlt : t - args'.size < fn.ntmps - args'.size
        · simp [hlt]
        · rw [Array.getElem?_eq_none (by simp; omega)]; rfl
      simp only [e1, e2]
      exact VRel.undef E
  · rintro ex a' w' ⟨rfl, E', st, hr', ht'⟩
    obtain ⟨vs', g1, g2, g3⟩ := resL_rel (P := P) hr' ht' fn.results.toList vs hv
    have hres := run_results (fn := fn) g3
    have hvr := pack_rel g1 g2
    rcases he with rfl | rfl
    · exact ⟨ht'.defers, _, hres, E', _, rfl, st, hr', hvr⟩
    · exact ⟨ht'.defers, _, hres, E', _, rfl, st, hr', hvr⟩
def loadD (P : Program) (t : TypeId) (i : Nat) : AObj → Option Value
  | .cells c _ _ _ => match aggT P t with
    | some false => if i < c.length then some (c.getD i undef) else none
    | some true => match szT P t with
      | some n => if i + n ≤ c.length then some (.agg ((c.drop i).take n).toArray) else none
      | none => none
    | none => none
  | _ => none
def storeD (P : Program) (t : TypeId) (i : Nat) (v : Value) : AObj → Option AObj
  | .cells c true ex es => match szT P t with
    | some n => if notTup v = true ∧ v.cells.size = n ∧ i + n ≤ c.length then some (.cells (putCells c i v.cells.toList) true ex es) else none
    | none => none
  | _ => none
def sliceD (P : Program) (t : TypeId) (x : Value) (lo hi : Option Operand) (tm : Nat → Value) : Option Value :=
  match x with
  | .slice (some ⟨p, i, none⟩) n c => match bnd tm 0 lo, bnd tm n hi, (elT P t).bind (szT P) with
    | some l, some r, some m => if l ≤ r ∧ r ≤ c then some (.slice (some ⟨p, i + l * m, none⟩) (r - l) (c - l)) else none
    | _, _, _ => none
  | .slice none 0 0 => match bnd tm 0 lo, bnd tm 0 hi, (elT P t).bind (szT P) with
    | some l, some r, some _ => if l = 0 ∧ r = 0 then some (.slice none 0 0) else none
    | _, _, _ => none
  | .string s => match bnd tm 0 lo, bnd tm s.size hi, P.underlying t with
    | some l, some r, some .string => if l ≤ r ∧ r ≤ s.size then some (.string (s.extract l r)) else none
    | _, _, _ => none
  | _ => none
def indexAddrD (P : Program) (t : TypeId) (x y : Value) : Option Value :=
  match x, y with
  | .slice (some ⟨p, i, none⟩) n _, .int _ j => match (elT P t).bind (szT P) with
    | some m => if 0 ≤ j ∧ j < n then some (.pointer (some ⟨p, i + j.toNat * m, none⟩)) else none
    | none => none
  | .pointer (some ⟨p, i, none⟩), .int _ j => match arT P t with
    | some (n, e) => match szT P e with
      | some m => if 0 ≤ j ∧ j < n then some (.pointer (some ⟨p, i + j.toNat * m, none⟩)) else none
      | none => none
    | none => none
  | _, _ => none
def indexD (P : Program) (t : TypeId) (x y : Value) : Option Value :=
  match x, y with
  | .agg cs, .int _ j => match arT P t with
    | some (n, e) => match szT P e, aggT P e with
      | some m, some b => if 0 ≤ j ∧ j < n ∧ m ≠ 0 ∧ j.toNat * m + m ≤ cs.size then some (partV b cs (j.toNat * m) m) else none
      | _, _ => none
    | none => none
  | .string s, .int _ j => match P.underlying t with
    | some .string => if h : 0 ≤ j ∧ j.toNat < s.size then some (.int .u8 ((s[j.toNat]'h.2).toNat : Int)) else none
    | _ => none
  | _, _ => none
def lenD (P : Program) (t : TypeId) (x : Value) : Option Value :=
  match x with
  | .slice _ n _ => match elT P t with
    | some _ => some (.int .i64 n)
    | none => none
  | .string s => match P.underlying t with
    | some .string => some (.int .i64 s.size)
    | _ => none
  | _ => none
def appendD (P : Program) (t t' : TypeId) (x y : Value) (h : Hp) : Option (Value × Hp) :=
  match elT P t with
  | none => none
  | some e => match szT P e, zeroT P e, byT P e with
    | some m, some z, some b => match srcV h m y with
      | none => none
      | some (n2, src) =>
        if srcT P t' = true ∧ z.cells.size = m ∧ b ≠ 0 then
          match x with
          | .slice none 0 0 => if n2 = 0 then some (x, h) else if n2 * b ≤ 2 ^ 47 then some (.slice (some ⟨h.next, 0, none⟩) n2 n2, h.alloc (.cells src true false m)) else none
          | .slice (some ⟨p, i, none⟩) n c =>
            if n2 = 0 then some (x, h) else
            match h.get p with
            | .cells cp own ex es =>
              if i + c * m ≤ cp.length then
                if n + n2 ≤ c then (if own = true then some (.slice (some ⟨p, i, none⟩) (n + n2) c, h.put p (.cells (putCells cp (i + n * m) src) true ex es)) else none)
                else if es = m ∧ (ex = true ∨ own = true) ∧ (n + n2) * b ≤ 2 ^ 47 then
                  some (.slice (some ⟨h.next, 0, none⟩) (n + n2) (n + n2), growHp h p ex (.cells ((cp.drop i).take (n * m) ++ src) true false m))
                else none
              else none
            | _ => none
          | _ => none
        else none
    | _, _, _ => none
def makeD (P : Program) (t : TypeId) (x y : Value) (h : Hp) : Option (Value × Hp) :=
  match x, y, elT P t with
  | .int _ n, .int _ c, some e => match szT P e, zeroT P e, byT P e with
    | some m, some z, some b => if z.cells.size = m ∧ plainV z = true ∧ notTup z = true ∧ 0 ≤ n ∧ n ≤ c ∧ c < 2 ^ 47 ∧ (b : Int) * c ≤ 2 ^ 48 then
        some (.slice (some ⟨h.next, 0, none⟩) n.toNat c.toNat, h.alloc (.cells (zcells z c.toNat) true true m)) else none
    | _, _, _ => none
  | _, _, _ => none
def convD (P : Program) (s d : TypeId) (x : Value) : Option Value :=
  match x, P.underlying s, inT P d with
  | .int _ n, some _, some k => some (.int k (k.wrap n))
  | _, _, _ => none
def binD (P : Program) (op : BinOp) (t : TypeId) (x y : Operand) (tm : Nat → Value) : Option Value :=
  match binV op (ev tm x) (ev tm y) with
  | some r => some r
  | none => if isC x = true ∨ isC y = true ∨ nIf (ev tm x) = true then
      match op with
      | .eql => (eqV P t (ev tm x) (ev tm y)).map .bool
      | .neq => (eqV P t (ev tm x) (ev tm y)).map fun b => .bool !b
      | _ => none
    else none
def copyD (P : Program) (t : TypeId) (x y : Value) (h : Hp) : Option (Value × Hp) :=
  match x, y, elT P t with
  | .slice (some ⟨p, i, none⟩) n _, .slice (some ⟨q, j, none⟩) n2 c2, some e => match szT P e with
    | some m =>
      if min n2 n = 0 then some (.int .i64 0, h) else
      match h.get p, srcV h m (.slice (some ⟨q, j, none⟩) (min n2 n) c2) with
      | .cells cp own ex es, some (k, src) => if own = true ∧ i + n * m ≤ cp.length ∧ k = min n2 n ∧ k < 2 ^ 63 then some (.int .i64 k, h.put p (.cells (putCells cp i src) true ex es)) else none
      | _, _ => none
    | none => none
  | _, _, _ => none
def clearD (P : Program) (t : TypeId) (x : Value) (h : Hp) : Option (Value × Hp) :=
  match x, elT P t with
  | .slice none 0 0, some _ => some (.tuple #[], h)
  | .slice (some ⟨p, i, none⟩) n _, some e => match szT P e, zeroT P e with
    | some 1, some (.int k z) =>
      if n = 0 then some (.tuple #[], h) else
      match h.get p with
      | .cells cp own ex es => if own = true ∧ i + n ≤ cp.length then some (.tuple #[], h.put p (.cells (putCells cp i (List.replicate n (.int k z))) true ex es)) else none
      | _ => none
    | _, _ => none
  | _, _ => none
def builtinD (P : Program) (b : Builtin) (xs : List Operand) (ts : List TypeId) (tm : Nat → Value) (h : Hp) : Option (Value × Hp) :=
  match b, xs, ts with
  | .len, [x], [t] => if okX x then (lenD P t (ev tm x)).map fun v => (v, h) else none
  | .append, [x, y], [t, t'] => if okX x && okX y then appendD P t t' (ev tm x) (ev tm y) h else none
  | .max, [x, y], [_, _] => if okX x && okX y then match ev tm x, ev tm y with
      | .int k i, .int _ j => some (.int k (if j > i then j else i), h)
      | _, _ => none
    else none
  | .min, [x, y], [_, _] => if okX x && okX y then match ev tm x, ev tm y with
      | .int k i, .int _ j => some (.int k (if j < i then j else i), h)
      | _, _ => none
    else none
  | .copy, [x, y], [t, _] => if okX x && okX y then copyD P t (ev tm x) (ev tm y) h else none
  | .clear, [x], [t] => if okX x then clearD P t (ev tm x) h else none
  | _, _, _ => none
def keyB : Value → Value → Bool
  | .int _ a, .int _ b => a == b
  | .agg ⟨[.int _ a, .int _ b]⟩, .agg ⟨[.int _ c, .int _ d]⟩ => a == c && b == d
  | .agg ⟨[.int _ a, .int _ b, .int _ c, .int _ d, .int _ e]⟩, .agg ⟨[.int _ a', .int _ b', .int _ c', .int _ d', .int _ e']⟩ => a == a' && (b == b' && (c == c' && (d == d' && e == e')))
  | _, _ => false
def isKey : Nat → Value → Bool
  | 1, .int .i64 _ => true
  | 2, .agg ⟨[.int .i64 _, .int .i64 _]⟩ => true
  | 5, .agg ⟨[.int .i64 _, .int .i64 _, .int .i64 _, .int .i64 _, .int .i64 _]⟩ => true
  | _, _ => false
def keyK (P : Program) (t : TypeId) : Option Nat := match P.underlying t with
  | some (.int .i64) => some 1
  | some (.array 2 e) => match P.underlying e, szT P e with
    | some (.int .i64), some 1 => some 2
    | _, _ => none
  | some (.array 5 e) => match P.underlying e, szT P e with
    | some (.int .i64), some 1 => some 5
    | _, _ => none
  | _ => none
def mapT (P : Program) (t : TypeId) : Option (Nat × Value) := match P.underlying t with
  | some (.map k e) => match keyK P k, zeroT P e with
    | some n, some z => some (n, z)
    | _, _ => none
  | _ => none
def mapGet : List (Value × Value) → Value → Option Value
  | [], _ => none
  | e :: es, q => if keyB e.1 q = true then some e.2 else mapGet es q
def mapPut : List (Value × Value) → Value → Value → List (Value × Value)
  | [], q, u => [(q, u)]
  | e :: es, q, u => if keyB e.1 q = true then (q, u) :: es else e :: mapPut es q u
def keysOK (n : Nat) (es : List (Value × Value)) : Bool := es.all fun e => isKey n e.1
def lookupD (P : Program) (t : TypeId) (x y : Value) (ok : Bool) (h : Hp) : Option Value :=
  match x, mapT P t with
  | .map (some p), some (n, z) => match h.get p with
    | .map es => if isKey n y && keysOK n es && plainV z then
        some (if ok then .tuple #[(mapGet es y).getD z, .bool (mapGet es y).isSome] else (mapGet es y).getD z) else none
    | _ => none
  | _, _ => none
def updateD (P : Program) (t : TypeId) (x y u : Value) (h : Hp) : Option Hp :=
  match x, mapT P t with
  | .map (some p), some (n, _) => match h.get p with
    | .map es => if isKey n y && keysOK n es then some (h.put p (.map (mapPut es y u))) else none
    | _ => none
  | _, _ => none
def nilD : Value → Option Value
  | .pointer (some a) => some (.pointer (some a))
  | .func (.func f) a b => some (.func (.func f) a b)
  | _ => none
def opD (P : Program) (op : Op) (tm : Nat → Value) (h : Hp) : Option (Value × Hp) :=
  match op with
  | .move x | .assign x => if okX x then some (ev tm x, h) else none
  | .pick c x y => if okX c && okX x && okX y then match ev tm c with
      | .bool t => some (if t then ev tm x else ev tm y, h)
      | _ => none
    else none
  | .alloc e => match zeroT P e with
    | some z => if plainV z && notTup z then some (.pointer (some ⟨h.next, 0, none⟩), h.alloc (.cells z.cells.toList true true 1)) else none
    | none => none
  | .box _ x => if okX x && notTup (ev tm x) then some (.pointer (some ⟨h.next, 0, none⟩), h.alloc (.cells (ev tm x).cells.toList true true 1)) else none
  | .load t x => if okX x then match ev tm x with
      | .pointer (some ⟨p, i, none⟩) => (loadD P t i (h.get p)).map fun v => (v, h)
      | _ => none
    else none
  | .store t x y => if okX x && okX y then match ev tm x with
      | .pointer (some ⟨p, i, none⟩) => (storeD P t i (ev tm y) (h.get p)).map fun ob => (undef, h.put p ob)
      | _ => none
    else none
  | .fieldAddr s x f => if okX x then match ev tm x, fldT P s f with
      | .pointer (some ⟨p, i, none⟩), some (off, n, _) => if n ≠ 0 then some (.pointer (some ⟨p, i + off, none⟩), h) else none
      | _, _ => none
    else none
  | .field s x f => if okX x then match ev tm x, fldT P s f with
      | .agg cs, some (off, n, b) => if n ≠ 0 ∧ off + n ≤ cs.size then some (partV b cs off n, h) else none
      | _, _ => none
    else none
  | .indexAddr t x y => if okX x && okX y then (indexAddrD P t (ev tm x) (ev tm y)).map fun v => (v, h) else none
  | .index t x y => if okX x && okX y then (indexD P t (ev tm x) (ev tm y)).map fun v => (v, h) else none
  | .extract x i => if okX x then match ev tm x with
      | .tuple vs => (vs[i]?).map fun v => (v, h)
      | _ => none
    else none
  | .makeFunc fn f c => if f.all okX && c.all okX then some (.func fn (f.map (ev tm)) (c.map (ev tm)), h) else none
  | .binOp op t x y _ => if okX x && okX y then (binD P op t x y tm).map fun v => (v, h) else none
  | .unOp op _ x => if okX x then (unV op (ev tm x)).map fun v => (v, h) else none
  | .convert s d x => if okX x then (convD P s d (ev tm x)).map fun v => (v, h) else none
  | .makeSlice t x y => if okX x && okX y then makeD P t (ev tm x) (ev tm y) h else none
  | .slice t x lo hi none => if okX x && okO lo && okO hi then (sliceD P t (ev tm x) lo hi tm).map fun v => (v, h) else none
  | .build t parts => if parts.all (fun q => okX q.2) && parts.all (fun q => notTup (ev tm q.2)) then
      match zeroT P t with
      | some z => if plainV z && notTup z then
          match placesT P t with
          | some pl => (Instr.fill (pl[·]?) z.cells (parts.map fun (i, x) => (i, ev tm x)).toList).map fun r => (.agg r, h)
          | none => match arT P t with
            | some (_, e) => match szT P e with
              | some m => (Instr.fill (fun i => some (i * m, m)) z.cells (parts.map fun (i, x) => (i, ev tm x)).toList).map fun r => (.agg r, h)
              | none => none
            | none => none
        else none
      | none => none
    else none
  | .buildSlice t n parts => if parts.all (fun q => okX q.2) && parts.all (fun q => notTup (ev tm q.2)) then
      match elT P t with
      | some e => match szT P e, zeroT P e with
        | some m, some z => if plainV z && notTup z && decide (z.cells.size = m) && decide (n * m ≤ 2 ^ 24) then
            match Instr.fill (fun i => some (i * m, m)) (zarr z.cells (n * m)) (parts.map fun (i, x) => (i, ev tm x)).toList with
            | some r => if r.size = n * m then some (.slice (some ⟨h.next, 0, none⟩) n n, h.alloc (.cells r.toList true true m)) else none
            | none => none
          else none
        | _, _ => none
      | none => none
    else none
  | .call c => match c.callee with
    | .builtin b => builtinD P b c.args.toList c.argTypes.toList tm h
    | _ => none
  | .nilCheck x => if okX x then (nilD (ev tm x)).map fun v => (v, h) else none
  | .makeMap _ none => some (.map (some h.next), h.alloc (.map []))
  | .lookup t x y ok => if okX x && okX y then (lookupD P t (ev tm x) (ev tm y) ok h).map fun v => (v, h) else none
  | .mapUpdate t m k u => if okX m && okX k && okX u then (updateD P t (ev tm m) (ev tm k) (ev tm u) h).map fun h' => (undef, h') else none
  | _ => none
end Go.Eng
end
section
namespace Go.Eng
section
variable {P : Program} {o : Oper} {tm : Nat → Value} {h : Hp}
theorem ok_nilCheck {x : Operand} {v : Value} (ho : o.op = .nilCheck x) (hx' : okX x = true) (hv : nilD (ev tm x) = some v) : OpOK P o tm h v h := by
  refine OpOK.pure fun E base w a hr ht => ?_
  have hr1 := mem_ops (x := x) hx' (by rw [ho]; simp [Op.operands]) ht
  unfold nilD at hv
  split at hv
  · rename_i ad hx
    injection hv with hv; subst hv
    rw [hx] at hr1
    refine ⟨a.eval x, hr1, ?_⟩
    generalize hae : a.eval x = u at hr1
    cases hr1 with
    | ptr oo i hD => simp [execOp, ho, hae]
  · rename_i f fa fb hx
    injection hv with hv; subst hv
    rw [hx] at hr1
    refine ⟨a.eval x, hr1, ?_⟩
    generalize hae : a.eval x = u at hr1
    cases hr1 with
    | func _ _ f' _ c' h1 h2 h3 h4 => simp [execOp, ho, hae]
  · cases hv
theorem ok_makeMap {t : TypeId} (ho : o.op = .makeMap t none) : OpOK P o tm h (.map (some h.next)) (h.alloc (.map [])) := by
  intro E base w a next Q hr ht hn
  have hD : ∀ i, E.D i → (E.add h.next w.heap.size 0 0).D i ∧ (E.add h.next w.heap.size 0 0).blk i = E.blk i ∧ (E.add h.next w.heap.size 0 0).off i = E.off i ∧ (E.add h.next w.heap.size 0 0).slk i = E.slk i := fun i hd => by
    obtain ⟨a, b, c, d⟩ := E.add_ext h.next w.heap.size 0 0 i (hr.lt i hd); exact ⟨a.2 hd, b, c, d⟩
  have hx : ORel (E.add h.next w.heap.size 0 0) base (w.alloc (.map #[] 0)).heap h.next (.map []) := by
    refine ⟨#[], 0, ?_, ?_, rfl, fun i hi => absurd hi (by simp)⟩
    · show (w.heap.push (.map #[] 0))[(E.add h.next w.heap.size 0 0).blk h.next]? = _
      simp [Emb.add]
    · simp [Emb.add]; exact hr.le
  obtain ⟨st, hr'⟩ := step_alloc (w' := w.alloc (.map #[] 0)) hr (.map []) (.map #[] 0) 0 rfl rfl rfl ⟨rfl, Nat.le_refl _⟩ hx
  unfold Oper.wp
  have hrun : (execOp a.eval o).run P w = .ok (.value (.map (some w.heap.size))) (w.alloc (.map #[] 0)) := by
    simp [execOp, ho, Instr.makeMap]
  rw [hrun]
  have hv : VRel (E.add h.next w.heap.size 0 0) (.map (some h.next)) (.map (some w.heap.size)) := by
    have := VRel.map (E := E.add h.next w.heap.size 0 0) h.next (by simp [Emb.add])
    simpa [Emb.add] using this
  exact hn _ _ _ st hr' hv
theorem isKey_form {n : Nat} {k : Value} (hk : isKey n k = true) : (n = 1 ∧ ∃ a, k = .int .i64 a) ∨ (n = 2 ∧ ∃ a b, k = .agg #[.int .i64 a, .int .i64 b]) ∨ (n = 5 ∧ ∃ a b c d e, k = .agg #[.int .i64 a, .int .i64 b, .int .i64 c, .int .i64 d, .int .i64 e]) := by
  unfold isKey at hk
  split at hk
  · exact .inl ⟨rfl, _, rfl⟩
  · exact .inr (.inl ⟨rfl, _, _, rfl⟩)
  · exact .inr (.inr ⟨rfl, _, _, _, _, _, rfl⟩)
  · cases hk
theorem key_same {E : Emb} {n : Nat} {k k' : Value} (hk : isKey n k = true) (hv : VRel E k k') : k' = k := by
  rcases isKey_form hk with ⟨rfl, a, rfl⟩ | ⟨rfl, a, b, rfl⟩ | ⟨rfl, a, b, c, d, e, rfl⟩
  · exact hv.inv_int
  · cases hv with
    | agg _ c' hs h1 h2 =>
      have e0 := (h2 0 (by simp)).inv_int
      have e1 := (h2 1 (by simp)).inv_int
      have hs' : c'.size = 2 := by simpa using hs.symm
      congr 1
      apply Array.ext (by simp [hs'])
      intro i h3 h4
      have : i = 0 ∨ i = 1 := by simp at h4; omega
      rcases this with rfl | rfl
      · simpa [Array.getD_eq_getD_getElem?, h3] using e0
      · simpa [Array.getD_eq_getD_getElem?, h3] using e1
  · cases hv with
    | agg _ c' hs h1 h2 =>
      have e0 := (h2 0 (by simp)).inv_int
      have e1 := (h2 1 (by simp)).inv_int
      have e2 := (h2 2 (by simp)).inv_int
      have e3 := (h2 3 (by simp)).inv_int
      have e4 := (h2 4 (by simp)).inv_int
      have hs' : c'.size = 5 := by simpa using hs.symm
      congr 1
      apply Array.ext (by simp [hs'])
      intro i h3 h4
      have : i = 0 ∨ i = 1 ∨ i = 2 ∨ i = 3 ∨ i = 4 := by simp at h4; omega
      rcases this with rfl | rfl | rfl | rfl | rfl
      · simpa [Array.getD_eq_getD_getElem?, h3] using e0
      · simpa [Array.getD_eq_getD_getElem?, h3] using e1
      · simpa [Array.getD_eq_getD_getElem?, h3] using e2
      · simpa [Array.getD_eq_getD_getElem?, h3] using e3
      · simpa [Array.getD_eq_getD_getElem?, h3] using e4
theorem keyB_iff {n : Nat} {a b : Value} (ha : isKey n a = true) (hb : isKey n b = true) : keyB a b = true ↔ a = b := by
  rcases isKey_form ha with ⟨rfl, x, rfl⟩ | ⟨rfl, x, y, rfl⟩ | ⟨rfl, x1, x2, x3, x4, x5, rfl⟩ <;> rcases isKey_form hb with ⟨e, x', rfl⟩ | ⟨e, x', y', rfl⟩ | ⟨e, y1, y2, y3, y4, y5, rfl⟩ <;> first | omega | skip
  · simp [keyB]
  · simp [keyB]
  · simp [keyB]
def firstM (k : Value) : List MapEntry → Nat → Option (Nat × Value)
  | [], _ => none
  | e :: es, i => if keyB e.key k = true then some (i, e.val) else firstM k es (i + 1)
theorem isKey_same {E : Emb} {n : Nat} {k k' : Value} (hk : isKey n k = true) (hv : VRel E k k') : isKey n k' = true := by rw [key_same hk hv]; exact hk
theorem firstM_rel {E : Emb} {q : Value} {n : Nat} (hq : isKey n q = true) : ∀ (es : List (Value × Value)) (el : List MapEntry) (i : Nat), el.length = es.length → keysOK n es = true →
    (∀ j, j < es.length → VRel E (es.getD j (undef, undef)).1 (el.getD j default).key ∧ VRel E (es.getD j (undef, undef)).2 (el.getD j default).val) →
    (mapGet es q = none ∧ firstM q el i = none ∧ ∀ u, mapPut es q u = es ++ [(q, u)]) ∨
    ∃ j v v', j < es.length ∧ mapGet es q = some v ∧ firstM q el i = some (i + j, v') ∧ VRel E v v' ∧ (el.getD j default).key = q ∧ ∀ u, mapPut es q u = es.set j (q, u)
  | [], [], i, _, _, _ => .inl ⟨rfl, rfl, fun u => rfl⟩
  | e :: es, [], i, hl, _, _ => absurd hl (by simp)
  | [], m :: el, i, hl, _, _ => absurd hl (by simp)
  | e :: es, m :: el, i, hl, hk, hr => by
    simp only [keysOK, List.all_cons, Bool.and_eq_true] at hk
    have h0 := hr 0 (by simp)
    simp only [List.getD_cons_zero] at h0
    have ek := key_same hk.1 h0.1
    by_cases hb : keyB e.1 q = true
    · right
      have e1 := (keyB_iff hk.1 hq).1 hb
      refine ⟨0, e.2, m.val, by simp, by simp [mapGet, hb], by simp [firstM, ek, hb], h0.2, by simp [ek, e1], fun u => by simp [mapPut, hb]⟩
    · rcases firstM_rel hq es el (i + 1) (by simpa using hl) hk.2 (fun j hj => by have := hr (j + 1) (by simpa using hj); simpa using this) with ⟨h1, h2, h3⟩ | ⟨j, v, v', h1, h2, h3, h4, h5, h6⟩
      · left
        exact ⟨by simp [mapGet, hb, h1], by simp [firstM, ek, hb, h2], fun u => by simp [mapPut, hb, h3 u]⟩
      · right
        refine ⟨j + 1, v, v', by simpa using h1, by simp [mapGet, hb, h2], ?_, h4, by simpa using h5, fun u => by simp [mapPut, hb, h6 u]⟩
        simp only [firstM, ek, hb, h3]
        simp; omega
theorem keyK_spec {t : TypeId} {n : Nat} (h : keyK P t = some n) : (n = 1 ∧ P.underlying t = some (.int .i64)) ∨ (n = 2 ∧ ∃ e, P.underlying t = some (.array 2 e) ∧ P.underlying e = some (.int .i64) ∧ szT P e = some 1) ∨ (n = 5 ∧ ∃ e, P.underlying t = some (.array 5 e) ∧ P.underlying e = some (.int .i64) ∧ szT P e = some 1) := by
  unfold keyK at h
  split at h
  · rename_i hu; injection h with h; exact .inl ⟨h.symm, hu⟩
  · rename_i e hu
    split at h
    · rename_i h1 h2; injection h with h; exact .inr (.inl ⟨h.symm, e, hu, h1, h2⟩)
    · cases h
  · rename_i e hu
    split at h
    · rename_i h1 h2; injection h with h; exact .inr (.inr ⟨h.symm, e, hu, h1, h2⟩)
    · cases h
  · cases h
theorem aggT_int {t : TypeId} {k : IntKind} (h : P.underlying t = some (.int k)) : aggT P t = some false := by simp [aggT, h]
theorem run_checkKey {t : TypeId} {n : Nat} {k : Value} {b : Bool} {w : World} {d : Nat} (h : keyK P t = some n) (hk : isKey n k = true) : (Instr.checkKey b (d + 2) t k).run P w = .ok () w := by
  rcases keyK_spec h with ⟨rfl, hu⟩ | ⟨rfl, e, hu, he, hs⟩ | ⟨rfl, e, hu, he, hs⟩ <;> rcases isKey_form hk with ⟨e1, x, rfl⟩ | ⟨e1, x, y, rfl⟩ | ⟨e1, x1, x2, x3, x4, x5, rfl⟩ <;> first | omega | skip
  · simp [Instr.checkKey, run_underlying hu]
  · simp [Instr.checkKey, run_underlying hu, Std.Legacy.Range.forIn_eq_forIn_range', List.range', Std.Legacy.Range.size, run_szT hs, part, run_aggT (aggT_int he), run_underlying he]
  · simp [Instr.checkKey, run_underlying hu, Std.Legacy.Range.forIn_eq_forIn_range', List.range', Std.Legacy.Range.size, run_szT hs, part, run_aggT (aggT_int he), run_underlying he]
set_option maxHeartbeats 4000000 in
theorem run_keyEq {t : TypeId} {n : Nat} {a b : Value} {w : World} (h : keyK P t = some n) (ha : isKey n a = true) (hb : isKey n b = true) : (Op.equal t a b).run P w = .ok (keyB a b) w := by
  unfold Op.equal
  obtain ⟨d, hd⟩ : ∃ d, Op.maxDepth = d + 2 := ⟨9998, rfl⟩
  rw [hd]
  clear hd
  rcases keyK_spec h with ⟨rfl, hu⟩ | ⟨rfl, e, hu, he, hs⟩ | ⟨rfl, e, hu, he, hs⟩ <;> rcases isKey_form ha with ⟨e1, x, rfl⟩ | ⟨e1, x, y, rfl⟩ | ⟨e1, x1, x2, x3, x4, x5, rfl⟩ <;> rcases isKey_form hb with ⟨e2, x', rfl⟩ | ⟨e2, x', y', rfl⟩ | ⟨e2, y1, y2, y3, y4, y5, rfl⟩ <;> first | omega | skip
  · simp [Op.equalIn, run_underlying hu, keyB]
  · simp [Op.equalIn, Std.Legacy.Range.forIn_eq_forIn_range', List.range', Std.Legacy.Range.size, run_underlying hu, keyB, run_szT hs, part, run_aggT (aggT_int he), run_underlying he]
    by_cases h1 : x = x' <;> by_cases h2 : y = y' <;> simp [h1, h2]
  · simp [Op.equalIn, Std.Legacy.Range.forIn_eq_forIn_range', List.range', Std.Legacy.Range.size, run_underlying hu, keyB, run_szT hs, part, run_aggT (aggT_int he), run_underlying he]
    by_cases h1 : x1 = y1
    · by_cases h2 : x2 = y2
      · by_cases h3 : x3 = y3
        · by_cases h4 : x4 = y4
          · by_cases h5 : x5 = y5 <;> simp [h1, h2, h3, h4, h5]
          · simp [h1, h2, h3, h4]
        · simp [h1, h2, h3]
      · simp [h1, h2]
    · simp [h1]
theorem run_findAsking {t : TypeId} {n : Nat} {q : Value} (h : keyK P t = some n) (hq : isKey n q = true) {w : World} : ∀ (el : List MapEntry) (i : Nat), (∀ m ∈ el, isKey n m.key = true) → (Instr.findAsking t q el i).run P w = .ok (firstM q el i) w
  | [], i, _ => rfl
  | m :: el, i, hk => by
    have hm := hk m (by simp)
    simp only [Instr.findAsking, Sem.run_bind, run_keyEq h hq hm, Result.andThen_ok]
    have e : keyB q m.key = keyB m.key q := by
      rw [Bool.eq_iff_iff, keyB_iff hq hm, keyB_iff hm hq]; exact eq_comm
    by_cases hb : keyB m.key q = true
    · simp [e, hb, firstM]
    · simp [e, hb, firstM, run_findAsking h hq el (i + 1) fun m hm => hk m (by simp [hm])]
theorem findNow_int {q : Int} : ∀ (el : List MapEntry) (i : Nat), (∀ m ∈ el, isKey 1 m.key = true) → Instr.findNow (.int .i64) (.int .i64 q) el i = some (firstM (.int .i64 q) el i)
  | [], i, _ => rfl
  | m :: el, i, hk => by
    rcases isKey_form (hk m (by simp)) with ⟨_, a, ha⟩ | ⟨e, _⟩ | ⟨e, _⟩
    · simp only [Instr.findNow, ha, Instr.sameNow, if_true, firstM]
      by_cases hb : q = a
      · simp [keyB, hb]
      · have hb' : ¬ a = q := fun e => hb e.symm
        have hq' : (q == a) = false := by simp [hb]
        rw [hq']
        simp [keyB, hb', findNow_int el (i + 1) fun m hm => hk m (by simp [hm])]
    · omega
    · omega
theorem run_findKey {t : TypeId} {n : Nat} {q : Value} (h : keyK P t = some n) (hq : isKey n q = true) {w : World} (el : List MapEntry) (hk : ∀ m ∈ el, isKey n m.key = true) : (Instr.findKey t q el).run P w = .ok (firstM q el 0) w := by
  unfold Instr.findKey
  rcases keyK_spec h with ⟨rfl, hu⟩ | ⟨rfl, e, hu, he, hs⟩ | ⟨rfl, e, hu, he, hs⟩
  · rcases isKey_form hq with ⟨_, x, rfl⟩ | ⟨e2, _⟩ | ⟨e2, _⟩
    · simp [run_underlying hu, findNow_int el 0 hk]
    · omega
    · omega
  · simp only [Sem.run_bind, run_underlying hu, Result.andThen_ok]
    cases el with
    | nil => rfl
    | cons m el =>
      have : Instr.findNow (.array 2 e) q (m :: el) 0 = none := by
        rcases isKey_form hq with ⟨e1, _⟩ | ⟨_, x, y, rfl⟩ | ⟨e1, _⟩
        · omega
        · simp [Instr.findNow, Instr.sameNow]
        · omega
      rw [this]
      exact run_findAsking h hq (m :: el) 0 hk
  · simp only [Sem.run_bind, run_underlying hu, Result.andThen_ok]
    cases el with
    | nil => rfl
    | cons m el =>
      have : Instr.findNow (.array 5 e) q (m :: el) 0 = none := by
        rcases isKey_form hq with ⟨e1, _⟩ | ⟨e1, _⟩ | ⟨_, x1, x2, x3, x4, x5, rfl⟩
        · omega
        · omega
        · simp [Instr.findNow, Instr.sameNow]
      rw [this]
      exact run_findAsking h hq (m :: el) 0 hk
theorem VRel.inv_map {E : Emb} {p : Nat} {v' : Value} (h : VRel E (.map (some p)) v') : E.D p ∧ v' = .map (some (E.blk p)) := by
  cases h; exact ⟨by assumption, rfl⟩
theorem getD_toList {α : Type} [Inhabited α] (el : Array α) (j : Nat) : el.toList.getD j default = el.getD j default := by
  simp [List.getD_eq_getElem?_getD, Array.getD_eq_getD_getElem?]
theorem mapT_spec {t : TypeId} {n : Nat} {z : Value} (h : mapT P t = some (n, z)) : ∃ k e, P.underlying t = some (.map k e) ∧ keyK P k = some n ∧ zeroT P e = some z := by
  unfold mapT at h
  split at h
  · rename_i k e hu
    split at h
    · rename_i n' z' h1 h2
      simp only [Option.some.injEq, Prod.mk.injEq] at h
      obtain ⟨rfl, rfl⟩ := h
      exact ⟨k, e, hu, h1, h2⟩
    · cases h
  · cases h
theorem map_at {E : Emb} {base : Nat} {h : Hp} {w : World} (hr : HRel E base h w.heap) {p : Nat} {es : List (Value × Value)} (hd : E.D p) (hg : h.get p = .map es) {n : Nat} (hk : keysOK n es = true) :
    ∃ (el : Array MapEntry) (c : Nat), w.heap[E.blk p]? = some (.map el c) ∧ base ≤ E.blk p ∧ el.toList.length = es.length ∧
      (∀ j, j < es.length → VRel E (es.getD j (undef, undef)).1 (el.toList.getD j default).key ∧ VRel E (es.getD j (undef, undef)).2 (el.toList.getD j default).val) ∧ ∀ m ∈ el.toList, isKey n m.key = true := by
  have h0 := hr.obj p hd
  rw [hg] at h0
  obtain ⟨el, c, h1, h2, h3, h4⟩ := h0
  refine ⟨el, c, h1, h2, by simpa using h3, fun j hj => by rw [getD_toList]; exact h4 j hj, fun m hm => ?_⟩
  obtain ⟨j, hj, e⟩ := List.getElem_of_mem hm
  have hj' : j < es.length := by have : j < el.size := by simpa using hj
                                 omega
  have h5 := (h4 j hj').1
  have h6 : isKey n (es.getD j (undef, undef)).1 = true := by
    rw [List.getD_eq_getElem?_getD, List.getElem?_eq_getElem hj']
    exact (List.all_eq_true.1 hk) _ (List.getElem_mem hj')
  have h7 := isKey_same h6 h5
  have h8 : el.getD j default = m := by
    rw [← getD_toList, List.getD_eq_getElem?_getD, List.getElem?_eq_getElem hj, e]; rfl
  rw [h8] at h7
  exact h7
theorem run_getMap {w : World} {b : Nat} {el : Array MapEntry} {c : Nat} (h : w.heap[b]? = some (.map el c)) : (getObj b).run P w = .ok (.map el c) w := by
  simp [getObj, Sem.run, h]
theorem ok_lookup {t : TypeId} {x y : Operand} {ok : Bool} {v : Value} (ho : o.op = .lookup t x y ok) (hx' : okX x = true) (hy' : okX y = true) (hv : lookupD P t (ev tm x) (ev tm y) ok h = some v) : OpOK P o tm h v h := by
  refine OpOK.pure fun E base w a hr ht => ?_
  have hr1 := mem_ops (x := x) hx' (by rw [ho]; simp [Op.operands]) ht
  have hr2 := mem_ops (x := y) hy' (by rw [ho]; simp [Op.operands]) ht
  unfold lookupD at hv
  split at hv
  rotate_left
  · cases hv
  rename_i p n z hx hm
  split at hv
  rotate_left
  · cases hv
  rename_i es hg
  split at hv
  rotate_left
  · cases hv
  rename_i hc
  simp only [Bool.and_eq_true] at hc
  obtain ⟨⟨hq, hk⟩, hz⟩ := hc
  injection hv with hv
  subst hv
  rw [hx] at hr1
  obtain ⟨hd, e1⟩ := hr1.inv_map
  have e2 := key_same hq hr2
  obtain ⟨kt, et, hu, hkt, hzt⟩ := mapT_spec hm
  obtain ⟨el, c, g1, g2, g3, g4, g5⟩ := map_at hr hd hg hk
  have hck : (Instr.checkKey el.isEmpty 10000 kt (ev tm y)).run P w = .ok () w := run_checkKey (d := 9998) hkt hq
  have hfk := run_findKey (P := P) (w := w) hkt hq el.toList g5
  rcases firstM_rel (E := E) hq es el.toList 0 g3 hk g4 with ⟨h1, h2, h3⟩ | ⟨j, v1, v1', h1, h2, h3, h4, h5, h6⟩
  · rw [h2] at hfk
    rw [h1]
    have hzr := VRel.ofV E hz
    refine ⟨if ok then .tuple #[z, .bool false] else z, ?_, ?_⟩
    · cases ok
      · simpa using hzr
      · refine .tuple _ _ (by simp) fun i hi => ?_
        have : i = 0 ∨ i = 1 := by simp at hi; omega
        rcases this with rfl | rfl
        · simpa using hzr
        · exact .bool _
    · simp [execOp, ho, e1, e2, Instr.lookup, run_underlying hu, run_getMap g1, hck, hfk, run_zeroT hzt]
  · rw [h3] at hfk
    rw [h2]
    refine ⟨if ok then .tuple #[v1', .bool true] else v1', ?_, ?_⟩
    · cases ok
      · simpa using h4
      · refine .tuple _ _ (by simp) fun i hi => ?_
        have : i = 0 ∨ i = 1 := by simp at hi; omega
        rcases this with rfl | rfl
        · simpa using h4
        · exact .bool _
    · simp [execOp, ho, e1, e2, Instr.lookup, run_underlying hu, run_getMap g1, hck, hfk]
theorem sameBits_key {n : Nat} {q : Value} {d : Nat} (hq : isKey n q = true) : Instr.sameBits (d + 1) q q = true := by
  rcases isKey_form hq with ⟨_, x, rfl⟩ | ⟨_, x, y, rfl⟩ | ⟨_, x1, x2, x3, x4, x5, rfl⟩
  · simp [Instr.sameBits]
  · simp [Instr.sameBits]
  · simp [Instr.sameBits]
theorem run_setMap {w : World} {b : Nat} {el : Array MapEntry} {c : Nat} {ob : Obj} (h : w.heap[b]? = some (.map el c)) : (setObj b ob).run P w = .ok () { w with heap := w.heap.setIfInBounds b ob } := by
  simp [setObj, Sem.run, h]
theorem ok_mapUpdate {t : TypeId} {m x y : Operand} {h' : Hp} (ho : o.op = .mapUpdate t m x y) (hm' : okX m = true) (hx' : okX x = true) (hy' : okX y = true) (hv : updateD P t (ev tm m) (ev tm x) (ev tm y) h = some h') : OpOK P o tm h undef h' := by
  intro E base w a next Q hr ht hn
  have hr1 := mem_ops (x := m) hm' (by rw [ho]; simp [Op.operands]) ht
  have hr2 := mem_ops (x := x) hx' (by rw [ho]; simp [Op.operands]) ht
  have hr3 := mem_ops (x := y) hy' (by rw [ho]; simp [Op.operands]) ht
  unfold updateD at hv
  split at hv
  rotate_left
  · cases hv
  rename_i p n z hx hm
  split at hv
  rotate_left
  · cases hv
  rename_i es hg
  split at hv
  rotate_left
  · cases hv
  rename_i hc
  simp only [Bool.and_eq_true] at hc
  obtain ⟨hq, hk⟩ := hc
  injection hv with hv
  subst hv
  rw [hx] at hr1
  obtain ⟨hd, e1⟩ := hr1.inv_map
  have e2 := key_same hq hr2
  obtain ⟨kt, et, hu, hkt, hzt⟩ := mapT_spec hm
  obtain ⟨el, c, g1, g2, g3, g4, g5⟩ := map_at hr hd hg hk
  have hck : (Instr.checkKey false 10000 kt (ev tm x)).run P w = .ok () w := run_checkKey (d := 9998) hkt hq
  have hfk := run_findKey (P := P) (w := w) hkt hq el.toList g5
  have hlt : E.blk p < w.heap.size := (Array.getElem?_eq_some_iff.1 g1).1
  have hown : (h.get p).owned = true := by rw [hg]; rfl
  have key : ∀ (el' : Array MapEntry) (c' : Nat), (execOp a.eval o).run P w = .ok .skip { w with heap := w.heap.setIfInBounds (E.blk p) (.map el' c') } →
      el'.size = (mapPut es (ev tm x) (ev tm y)).length →
      (∀ i, i < (mapPut es (ev tm x) (ev tm y)).length → VRel E ((mapPut es (ev tm x) (ev tm y)).getD i (undef, undef)).1 (el'.getD i default).key ∧ VRel E ((mapPut es (ev tm x) (ev tm y)).getD i (undef, undef)).2 (el'.getD i default).val) →
      o.wp P a w next Q := by
    intro el' c' hrun hsz hrel
    have hx2 : ORel E base (w.heap.setIfInBounds (E.blk p) (.map el' c')) p (.map (mapPut es (ev tm x) (ev tm y))) :=
      ⟨el', c', by simp [hlt], g2, hsz, hrel⟩
    obtain ⟨st, hr'⟩ := step_put (w' := { w with heap := w.heap.setIfInBounds (E.blk p) (.map el' c') }) hr p (.map (mapPut es (ev tm x) (ev tm y))) hd hown (by simp) (fun b hb => by simp [Ne.symm hb]) rfl rfl ⟨rfl, Nat.le_refl _⟩ hx2
    unfold Oper.wp
    rw [hrun]
    exact hn E _ undef st hr' (VRel.undef E)
  rcases firstM_rel (E := E) hq es el.toList 0 g3 hk g4 with ⟨h1, h2, h3⟩ | ⟨j, v1, v1', h1, h2, h3, h4, h5, h6⟩
  · rw [h2] at hfk
    refine key (el.push ⟨ev tm x, a.eval y, c⟩) (c + 1) ?_ ?_ ?_
    · simp [execOp, ho, e1, e2, Instr.mapUpdate, run_underlying hu, run_getMap g1, hck, hfk, run_setMap g1]
    · rw [h3]; simp at g3 ⊢; exact g3
    · intro i hi
      rw [h3] at hi ⊢
      have g3' : el.size = es.length := by simpa using g3
      simp only [List.length_append, List.length_singleton] at hi
      by_cases hlt2 : i < es.length
      · have := g4 i hlt2
        rw [getD_toList] at this
        have e5 : (el.push ⟨ev tm x, a.eval y, c⟩).getD i default = el.getD i default := by
          rw [Array.getD_eq_getD_getElem?, Array.getD_eq_getD_getElem?, Array.getElem?_push, if_neg (by omega)]
        have e6 : (es ++ [(ev tm x, ev tm y)]).getD i (undef, undef) = es.getD i (undef, undef) := by
          rw [List.getD_eq_getElem?_getD, List.getD_eq_getElem?_getD, List.getElem?_append_left hlt2]
        rw [e5, e6]; exact this
      · have ei : i = es.length := by omega
        subst ei
        have e5 : (el.push ⟨ev tm x, a.eval y, c⟩).getD es.length default = ⟨ev tm x, a.eval y, c⟩ := by
          rw [Array.getD_eq_getD_getElem?, Array.getElem?_push, if_pos g3'.symm]; rfl
        have e6 : (es ++ [(ev tm x, ev tm y)]).getD es.length (undef, undef) = (ev tm x, ev tm y) := by
          rw [List.getD_eq_getElem?_getD, List.getElem?_append_right (Nat.le_refl _)]; simp
        rw [e5, e6]
        exact ⟨by have h9 := hr2; rw [e2] at h9; exact h9, hr3⟩
  · rw [h3] at hfk
    have g3' : el.size = es.length := by simpa using g3
    have hje : j < el.size := by omega
    have h5' : ((el[j]?).map (·.key)).getD (ev tm x) = ev tm x := by
      rw [getD_toList, Array.getD_eq_getD_getElem?, Array.getElem?_eq_getElem hje] at h5
      rw [Array.getElem?_eq_getElem hje]; simpa using h5
    have hkeep : (Instr.keyThatStays (ev tm x) (ev tm x)).run P w = .ok (ev tm x) w := by
      unfold Instr.keyThatStays
      rw [sameBits_key (d := 9999) hq]; rfl
    refine key (el.modify j fun e => { e with key := ev tm x, val := a.eval y }) c ?_ ?_ ?_
    · simp only [Nat.zero_add] at hfk
      simp [execOp, ho, e1, e2, Instr.mapUpdate, run_underlying hu, run_getMap g1, hck, hfk]
      rw [h5', hkeep]
      simp [run_setMap g1]
    · rw [h6]; simpa using g3'
    · intro i hi
      rw [h6] at hi ⊢
      have hi' : i < es.length := by simpa using hi
      have hie : i < el.size := by omega
      by_cases eij : j = i
      · subst eij
        have e5 : (el.modify j fun e => { e with key := ev tm x, val := a.eval y }).getD j default = { el[j] with key := ev tm x, val := a.eval y } := by
          rw [Array.getD_eq_getD_getElem?, Array.getElem?_modify, if_pos rfl, Array.getElem?_eq_getElem hje]; rfl
        have e6 : (es.set j (ev tm x, ev tm y)).getD j (undef, undef) = (ev tm x, ev tm y) := by
          rw [List.getD_eq_getElem?_getD, List.getElem?_set]; simp [h1]
        rw [e5, e6]
        exact ⟨by have h9 := hr2; rw [e2] at h9; exact h9, hr3⟩
      · have := g4 i hi'
        rw [getD_toList] at this
        have e5 : (el.modify j fun e => { e with key := ev tm x, val := a.eval y }).getD i default = el.getD i default := by
          rw [Array.getD_eq_getD_getElem?, Array.getD_eq_getD_getElem?, Array.getElem?_modify, if_neg eij]
        have e6 : (es.set j (ev tm x, ev tm y)).getD i (undef, undef) = es.getD i (undef, undef) := by
          rw [List.getD_eq_getElem?_getD, List.getD_eq_getElem?_getD, List.getElem?_set, if_neg eij]
        rw [e5, e6]; exact this
end
end Go.Eng
end
section
namespace Go.Eng
section
variable {P : Program} {o : Oper} {tm : Nat → Value} {h h' : Hp} {v : Value}
theorem plain_wrap {n : Int} (h : 0 ≤ n) : ((n.toNat : Nat) : Int) = n := Int.toNat_of_nonneg h
theorem exec_copy {a : Act} {t t' : TypeId} {x y : Operand} {w w' : World} {r : Value} (ho : o.op = .call ⟨.builtin .copy, #[x, y], #[t, t']⟩)
    (hr : (Builtin.copy_ #[t, t'] o.type #[a.eval x, a.eval y]).run P w = .ok r w') : (execOp a.eval o).run P w = .ok (.value r) w' := by
  simp [execOp, ho, resolve, invoke, builtin, hr]
theorem run_copy {t t' ty e : TypeId} {a b : Addr} {n n2 c c2 m : Nat} {new : Array Value} {w w' : World} (ht : elT P t = some e) (hm : szT P e = some m)
    (hf : (Builtin.firstCells m (min n2 n) (.slice (some b) n2 c2)).run P w = .ok new w) (hs : (storeCells a new.toList).run P w = .ok () w') :
    (Builtin.copy_ #[t, t'] ty #[.slice (some a) n c, .slice (some b) n2 c2]).run P w = .ok (goInt ((min n2 n : Nat) : Int)) w' := by
  simp [Builtin.copy_, run_underlying (elT_spec ht), run_szT hm, Builtin.lenOf, hf, hs, Nat.min_def] at *
theorem ok_copy {t t' : TypeId} {x y : Operand} {v : Value} {h' : Hp} (ho : o.op = .call ⟨.builtin .copy, #[x, y], #[t, t']⟩) (hx' : okX x = true) (hy' : okX y = true) (hd : copyD P t (ev tm x) (ev tm y) h = some (v, h')) : OpOK P o tm h v h' := by
  unfold copyD at hd
  split at hd
  rotate_left
  · cases hd
  rename_i p i n c q j n2 c2 e hx hy he
  split at hd
  rotate_left
  · cases hd
  rename_i m hm
  intro E base w a next Q hr ht hn
  have hv := mem_ops (x := x) hx' (by rw [ho]; simp [Op.operands, Call.operands]) ht
  have hu := mem_ops (x := y) hy' (by rw [ho]; simp [Op.operands, Call.operands]) ht
  rw [hx] at hv
  rw [hy] at hu
  obtain ⟨hnc, sl, ad, e1, hq⟩ := hv.inv_slice
  obtain ⟨hD, rfl, had⟩ := hq.resolve_right (fun h => h)
  obtain ⟨hnc2, sl2, ad2, e2, hq2⟩ := hu.inv_slice
  obtain ⟨hD2, rfl, had2⟩ := hq2.resolve_right (fun h => h)
  unfold Oper.wp
  split at hd
  · rename_i h0
    simp only [Option.some.injEq, Prod.mk.injEq] at hd; obtain ⟨rfl, rfl⟩ := hd
    have hrun := run_copy (t := t) (t' := t') (ty := o.type) (a := ad) (b := ad2) (n := n) (n2 := n2) (c := c + E.slk p) (c2 := c2 + E.slk q) (new := #[]) (w := w) (w' := w) he hm (by rw [h0]; simp [Builtin.firstCells, loadCells, loadCellsFrom]) (by rfl)
    rw [exec_copy ho (by rw [e1, e2]; exact hrun), h0]
    exact hn _ _ _ (Step.refl _ _ _) hr (.int _ _)
  · rename_i h0
    split at hd
    rotate_left
    · cases hd
    rename_i cp own ex es k src hg hsrc
    split at hd
    rotate_left
    · cases hd
    rename_i hc
    obtain ⟨rfl, c1, rfl, c3⟩ := hc
    simp only [Option.some.injEq, Prod.mk.injEq] at hd; obtain ⟨rfl, rfl⟩ := hd
    have had : ad = ⟨E.blk p, E.off p + i, none⟩ := had.resolve_left (by omega)
    subst had
    have had2 : ad2 = ⟨E.blk q, E.off q + j, none⟩ := had2.resolve_left (by omega)
    subst had2
    have hu2 : VRel E (.slice (some ⟨q, j, none⟩) (min n2 n) c2) (.slice (some ⟨E.blk q, E.off q + j, none⟩) (min n2 n) (c2 + E.slk q)) := .slice q j _ _ _ hD2 (by omega) (.inr rfl)
    obtain ⟨k1, k2, cs', k3, k4, k5, k6⟩ := run_firstCells_eng (P := P) hr hu2 hsrc
    have hmul : min n2 n * m ≤ n * m := Nat.mul_le_mul_right _ (by omega)
    obtain ⟨w', q1, st, hr'⟩ := store_step (P := P) hr hD hg (i := i) (vs := src) (vs' := cs') k3.symm (by omega) k5 k6
    have hrun := run_copy (t := t) (t' := t') (ty := o.type) (a := ⟨E.blk p, E.off p + i, none⟩) (b := ⟨E.blk q, E.off q + j, none⟩) (n := n) (n2 := n2) (c := c + E.slk p) (c2 := c2 + E.slk q) (new := cs'.toArray) (w := w) (w' := w') he hm (k4 w rfl) q1
    rw [exec_copy ho (by rw [e1, e2]; exact hrun)]
    have eg : goInt ((min n2 n : Nat) : Int) = .int .i64 ((min n2 n : Nat) : Int) := rfl
    rw [eg]
    exact hn _ _ _ st hr' (.int _ _)
theorem exec_clear {a : Act} {t : TypeId} {x : Operand} {w w' : World} {r : Value} (ho : o.op = .call ⟨.builtin .clear, #[x], #[t]⟩)
    (hr : (Builtin.clear_ #[t] o.type #[a.eval x]).run P w = .ok r w') : (execOp a.eval o).run P w = .ok (.value r) w' := by
  simp [execOp, ho, resolve, invoke, builtin, hr]
theorem zeroCells_one (v : Value) (n : Nat) : (Builtin.zeroCells #[v] n).toList = List.replicate n v := by
  unfold Builtin.zeroCells
  apply List.ext_getElem
  · simp
  · intro i h1 h2
    simp [Nat.mod_one]
theorem ok_clear {t : TypeId} {x : Operand} {v : Value} {h' : Hp} (ho : o.op = .call ⟨.builtin .clear, #[x], #[t]⟩) (hx' : okX x = true) (hd : clearD P t (ev tm x) h = some (v, h')) : OpOK P o tm h v h' := by
  unfold clearD at hd
  have htup : ∀ E : Emb, VRel E (.tuple #[]) (.tuple #[]) := fun E => .tuple _ _ rfl (fun i hi => absurd hi (by simp))
  split at hd
  · rename_i e hx he
    simp only [Option.some.injEq, Prod.mk.injEq] at hd; obtain ⟨rfl, rfl⟩ := hd
    intro E base w a next Q hr ht hn
    have hv := mem_ops (x := x) hx' (by rw [ho]; simp [Op.operands, Call.operands]) ht
    rw [hx] at hv
    unfold Oper.wp
    rw [exec_clear ho (w' := w) (r := .tuple #[]) (by rw [hv.inv_sliceNil]; simp [Builtin.clear_, run_underlying (elT_spec he)])]
    exact hn _ _ _ (Step.refl _ _ _) hr (htup _)
  · rename_i p i n c e hx he
    split at hd
    rotate_left
    · cases hd
    rename_i k z hm hz
    intro E base w a next Q hr ht hn
    have hv := mem_ops (x := x) hx' (by rw [ho]; simp [Op.operands, Call.operands]) ht
    rw [hx] at hv
    obtain ⟨hnc, sl, ad, e1, hq⟩ := hv.inv_slice
    obtain ⟨hD, rfl, had⟩ := hq.resolve_right (fun h => h)
    unfold Oper.wp
    split at hd
    · rename_i h0
      simp only [Option.some.injEq, Prod.mk.injEq] at hd; obtain ⟨rfl, rfl⟩ := hd
      subst h0
      rw [exec_clear ho (w' := w) (r := .tuple #[]) (by rw [e1]; simp [Builtin.clear_, run_underlying (elT_spec he)])]
      exact hn _ _ _ (Step.refl _ _ _) hr (htup _)
    · rename_i h0
      split at hd
      rotate_left
      · cases hd
      rename_i cp own ex es hg
      split at hd
      rotate_left
      · cases hd
      rename_i hc
      obtain ⟨rfl, c1⟩ := hc
      simp only [Option.some.injEq, Prod.mk.injEq] at hd; obtain ⟨rfl, rfl⟩ := hd
      have had : ad = ⟨E.blk p, E.off p + i, none⟩ := had.resolve_left (by omega)
      subst had
      have hrep : ∀ j, j < (List.replicate n (Value.int k z)).length → (List.replicate n (Value.int k z)).getD j undef = .int k z := fun j hj => by
        simp at hj
        simp [List.getD_eq_getElem?_getD, hj]
      obtain ⟨w', q1, st, hr'⟩ := store_step (P := P) hr hD hg (i := i) (vs := List.replicate n (.int k z)) (vs' := List.replicate n (.int k z)) rfl (by simpa using c1)
        (fun j hj => by rw [hrep j hj]; exact .int k z) (fun j hj => by rw [hrep j hj]; rfl)
      obtain ⟨n', rfl⟩ : ∃ n', n = n' + 1 := ⟨n - 1, by omega⟩
      rw [exec_clear ho (w' := w') (r := .tuple #[]) (by
        rw [e1]
        simp [Builtin.clear_, run_underlying (elT_spec he), run_zeroT hz, show (Value.int k z).cells = #[.int k z] from rfl, zeroCells_one, q1])]
      exact hn _ _ _ st hr' (htup _)
  · cases hd
theorem builtinD_sound {b : Builtin} {xs : List Operand} {ts : List TypeId} (hop : o.op = .call ⟨.builtin b, xs.toArray, ts.toArray⟩) (hd : builtinD P b xs ts tm h = some (v, h')) : OpOK P o tm h v h' := by
  unfold builtinD at hd
  split at hd
  case h_1 x t =>
    split at hd
    rotate_left
    · cases hd
    rename_i hx
    simp only [Option.map_eq_some_iff, Prod.mk.injEq] at hd
    obtain ⟨v0, hl, rfl, rfl⟩ := hd
    unfold lenD at hl
    split at hl
    · rename_i hp
      split at hl
      rotate_left
      · cases hl
      rename_i e he
      simp only [Option.some.injEq] at hl; subst hl
      exact ok_len hop hp hx he rfl
    · rename_i hp
      split at hl
      rotate_left
      · cases hl
      rename_i he
      simp only [Option.some.injEq] at hl; subst hl
      exact ok_lenS hop hp hx he
    · cases hl
  case h_2 x y t t' =>
    split at hd
    rotate_left
    · cases hd
    rename_i hx
    simp only [Bool.and_eq_true] at hx
    unfold appendD at hd
    split at hd
    · cases hd
    rename_i e he
    split at hd
    rotate_left
    · cases hd
    rename_i m z b hm hz hb
    split at hd
    · cases hd
    rename_i n2 src hsrc
    split at hd
    rotate_left
    · cases hd
    rename_i hc
    split at hd
    · rename_i hp
      split at hd
      · rename_i h0
        simp only [Option.some.injEq, Prod.mk.injEq] at hd; obtain ⟨rfl, rfl⟩ := hd
        subst h0
        rw [hp]
        exact ok_append0 hop hp hx.1 hx.2 he hc.1 hm hsrc
      · rename_i h0
        split at hd
        rotate_left
        · cases hd
        rename_i hr
        simp only [Option.some.injEq, Prod.mk.injEq] at hd; obtain ⟨rfl, rfl⟩ := hd
        exact ok_appendNil hop hp hx.1 hx.2 he hc.1 hm hz hc.2.1 hb hc.2.2 hsrc (by omega) hr
    · rename_i p i n c hp
      split at hd
      · rename_i h0
        simp only [Option.some.injEq, Prod.mk.injEq] at hd; obtain ⟨rfl, rfl⟩ := hd
        subst h0
        rw [hp]
        exact ok_append0 hop hp hx.1 hx.2 he hc.1 hm hsrc
      · rename_i h0
        split at hd
        rotate_left
        · cases hd
        rename_i cp own ex es hg
        split at hd
        rotate_left
        · cases hd
        rename_i hcap
        split at hd
        · rename_i hle
          split at hd
          rotate_left
          · cases hd
          rename_i hown
          subst hown
          simp only [Option.some.injEq, Prod.mk.injEq] at hd; obtain ⟨rfl, rfl⟩ := hd
          exact ok_appendIn hop hp hx.1 hx.2 he hc.1 hm hsrc hle hg hcap (by omega)
        · rename_i hle
          split at hd
          rotate_left
          · cases hd
          rename_i hq
          simp only [Option.some.injEq, Prod.mk.injEq] at hd; obtain ⟨rfl, rfl⟩ := hd
          obtain ⟨rfl, q1, q2⟩ := hq
          exact ok_appendGrow hop hp hx.1 hx.2 he hc.1 hm hz hc.2.1 hb hc.2.2 hsrc (by omega) hg q1 hcap q2
    · cases hd
  case h_3 x y t t' =>
    split at hd
    rotate_left
    · cases hd
    rename_i hx
    simp only [Bool.and_eq_true] at hx
    split at hd
    rotate_left
    · cases hd
    rename_i h1 h2
    simp only [Option.some.injEq, Prod.mk.injEq] at hd; obtain ⟨rfl, rfl⟩ := hd
    exact ok_max2 hop h1 hx.1 h2 hx.2
  case h_4 x y t t' =>
    split at hd
    rotate_left
    · cases hd
    rename_i hx
    simp only [Bool.and_eq_true] at hx
    split at hd
    rotate_left
    · cases hd
    rename_i h1 h2
    simp only [Option.some.injEq, Prod.mk.injEq] at hd; obtain ⟨rfl, rfl⟩ := hd
    exact ok_min2 hop h1 hx.1 h2 hx.2
  case h_5 x y t t' =>
    split at hd
    rotate_left
    · cases hd
    rename_i hx
    simp only [Bool.and_eq_true] at hx
    exact ok_copy hop hx.1 hx.2 hd
  case h_6 x t =>
    split at hd
    rotate_left
    · cases hd
    rename_i hx
    exact ok_clear hop hx hd
  case h_7 => cases hd
theorem opD_sound (hd : opD P o.op tm h = some (v, h')) : OpOK P o tm h v h' := by
  generalize hop : o.op = op at hd
  unfold opD at hd
  split at hd
  case h_1 x =>
    split at hd
    rotate_left
    · cases hd
    rename_i hx
    simp only [Option.some.injEq, Prod.mk.injEq] at hd; obtain ⟨rfl, rfl⟩ := hd; exact ok_move (.inl hop) hx
  case h_2 x =>
    split at hd
    rotate_left
    · cases hd
    rename_i hx
    simp only [Option.some.injEq, Prod.mk.injEq] at hd; obtain ⟨rfl, rfl⟩ := hd; exact ok_move (.inr hop) hx
  case h_3 c x y =>
    split at hd
    rotate_left
    · cases hd
    rename_i hx
    simp only [Bool.and_eq_true] at hx
    split at hd
    rotate_left
    · cases hd
    rename_i t hc
    simp only [Option.some.injEq, Prod.mk.injEq] at hd; obtain ⟨rfl, rfl⟩ := hd
    exact ok_pick hop hc hx.1.1 hx.1.2 hx.2
  case h_4 e =>
    split at hd
    rotate_left
    · cases hd
    rename_i z hz
    split at hd
    rotate_left
    · cases hd
    rename_i hx
    simp only [Bool.and_eq_true] at hx
    simp only [Option.some.injEq, Prod.mk.injEq] at hd; obtain ⟨rfl, rfl⟩ := hd
    exact ok_alloc hop hz hx.1 (notTup_iff hx.2)
  case h_5 e x =>
    split at hd
    rotate_left
    · cases hd
    rename_i hx
    simp only [Bool.and_eq_true] at hx
    simp only [Option.some.injEq, Prod.mk.injEq] at hd; obtain ⟨rfl, rfl⟩ := hd
    exact ok_box hop hx.1 hx.2
  case h_6 t x =>
    split at hd
    rotate_left
    · cases hd
    rename_i hx
    split at hd
    rotate_left
    · cases hd
    rename_i p i hp
    simp only [Option.map_eq_some_iff, Prod.mk.injEq] at hd
    obtain ⟨v0, hl, rfl, rfl⟩ := hd
    unfold loadD at hl
    split at hl
    rotate_left
    · cases hl
    rename_i c own ex es hg
    split at hl
    · rename_i ha
      split at hl
      rotate_left
      · cases hl
      rename_i hi
      simp only [Option.some.injEq] at hl; subst hl
      exact ok_load1 hop hp hx hg ha hi
    · rename_i ha
      split at hl
      rotate_left
      · cases hl
      rename_i n hn
      split at hl
      rotate_left
      · cases hl
      rename_i hi
      simp only [Option.some.injEq] at hl; subst hl
      exact ok_loadN hop hp hx hg ha hn hi
    · cases hl
  case h_7 t x y =>
    split at hd
    rotate_left
    · cases hd
    rename_i hx
    simp only [Bool.and_eq_true] at hx
    split at hd
    rotate_left
    · cases hd
    rename_i p i hp
    simp only [Option.map_eq_some_iff, Prod.mk.injEq] at hd
    obtain ⟨v0, hl, rfl, rfl⟩ := hd
    unfold storeD at hl
    split at hl
    rotate_left
    · cases hl
    rename_i c ex es hg
    split at hl
    rotate_left
    · cases hl
    rename_i n hn
    split at hl
    rotate_left
    · cases hl
    rename_i hc
    simp only [Option.some.injEq] at hl; subst hl
    exact ok_store hop hp hx.1 hx.2 hc.1 hg hn hc.2.1 hc.2.2
  case h_8 s x f =>
    split at hd
    rotate_left
    · cases hd
    rename_i hx
    split at hd
    rotate_left
    · cases hd
    rename_i hp hf
    split at hd
    rotate_left
    · cases hd
    rename_i hn
    simp only [Option.some.injEq, Prod.mk.injEq] at hd; obtain ⟨rfl, rfl⟩ := hd
    exact ok_fieldAddr hop hp hx hf hn
  case h_9 s x f =>
    split at hd
    rotate_left
    · cases hd
    rename_i hx
    split at hd
    rotate_left
    · cases hd
    rename_i hp hf
    split at hd
    rotate_left
    · cases hd
    rename_i hn
    simp only [Option.some.injEq, Prod.mk.injEq] at hd; obtain ⟨rfl, rfl⟩ := hd
    exact ok_field hop hp hx hf hn.1 hn.2
  case h_10 t x y =>
    split at hd
    rotate_left
    · cases hd
    rename_i hx
    simp only [Bool.and_eq_true] at hx
    simp only [Option.map_eq_some_iff, Prod.mk.injEq] at hd
    obtain ⟨v0, hl, rfl, rfl⟩ := hd
    unfold indexAddrD at hl
    split at hl
    · rename_i hp hj
      split at hl
      rotate_left
      · cases hl
      rename_i m hm
      split at hl
      rotate_left
      · cases hl
      rename_i hb
      simp only [Option.some.injEq] at hl; subst hl
      obtain ⟨e, he, hm⟩ := Option.bind_eq_some_iff.1 hm
      exact ok_indexAddr hop hp hx.1 hj hx.2 he hm hb.1 hb.2
    · rename_i hp hj
      split at hl
      rotate_left
      · cases hl
      rename_i n e he
      split at hl
      rotate_left
      · cases hl
      rename_i m hm
      split at hl
      rotate_left
      · cases hl
      rename_i hb
      simp only [Option.some.injEq] at hl; subst hl
      exact ok_indexAddrA hop hp hx.1 hj hx.2 he hm hb.1 hb.2
    · cases hl
  case h_11 t x y =>
    split at hd
    rotate_left
    · cases hd
    rename_i hx
    simp only [Bool.and_eq_true] at hx
    simp only [Option.map_eq_some_iff, Prod.mk.injEq] at hd
    obtain ⟨v0, hl, rfl, rfl⟩ := hd
    unfold indexD at hl
    split at hl
    · rename_i hp hj
      split at hl
      rotate_left
      · cases hl
      rename_i n e he
      split at hl
      rotate_left
      · cases hl
      rename_i m b hm hb'
      split at hl
      rotate_left
      · cases hl
      rename_i hb
      simp only [Option.some.injEq] at hl; subst hl
      exact ok_indexA hop hp hx.1 hj hx.2 he hm hb' hb.1 hb.2.1 hb.2.2.1 hb.2.2.2
    · rename_i hp hj
      split at hl
      rotate_left
      · cases hl
      rename_i he
      split at hl
      rotate_left
      · cases hl
      rename_i hb
      simp only [Option.some.injEq] at hl; subst hl
      exact ok_indexS hop hp hx.1 hj hx.2 he hb.1 hb.2
    · cases hl
  case h_12 x i =>
    split at hd
    rotate_left
    · cases hd
    rename_i hx
    split at hd
    rotate_left
    · cases hd
    rename_i vs hp
    simp only [Option.map_eq_some_iff, Prod.mk.injEq] at hd
    obtain ⟨v0, hl, rfl, rfl⟩ := hd
    obtain ⟨hi, e⟩ := Array.getElem?_eq_some_iff.1 hl
    have e2 : vs.getD i undef = v0 := by rw [Array.getD_eq_getD_getElem?, hl]; rfl
    rw [← e2]
    exact ok_extract hop hp hx hi
  case h_13 fn f c =>
    split at hd
    rotate_left
    · cases hd
    rename_i hx
    simp only [Bool.and_eq_true] at hx
    simp only [Option.some.injEq, Prod.mk.injEq] at hd; obtain ⟨rfl, rfl⟩ := hd
    exact ok_makeFunc hop hx.1 hx.2
  case h_14 op t x y t' =>
    split at hd
    rotate_left
    · cases hd
    rename_i hx
    simp only [Bool.and_eq_true] at hx
    simp only [Option.map_eq_some_iff, Prod.mk.injEq] at hd
    obtain ⟨v0, hl, rfl, rfl⟩ := hd
    unfold binD at hl
    split at hl
    · rename_i r hr
      simp only [Option.some.injEq] at hl; subst hl
      exact ok_binOp hop hx.1 hx.2 hr
    · split at hl
      rotate_left
      · cases hl
      rename_i hc
      split at hl
      · simp only [Option.map_eq_some_iff] at hl
        obtain ⟨b, hb, rfl⟩ := hl
        exact ok_eq hop hx.1 hx.2 hb hc
      · simp only [Option.map_eq_some_iff] at hl
        obtain ⟨b, hb, rfl⟩ := hl
        exact ok_neq hop hx.1 hx.2 hb hc
      · cases hl
  case h_15 op t x =>
    split at hd
    rotate_left
    · cases hd
    rename_i hx
    simp only [Option.map_eq_some_iff, Prod.mk.injEq] at hd
    obtain ⟨v0, hl, rfl, rfl⟩ := hd
    exact ok_unOp hop hx hl
  case h_16 s d x =>
    split at hd
    rotate_left
    · cases hd
    rename_i hx
    simp only [Option.map_eq_some_iff, Prod.mk.injEq] at hd
    obtain ⟨v0, hl, rfl, rfl⟩ := hd
    unfold convD at hl
    split at hl
    rotate_left
    · cases hl
    rename_i hp hs hk
    simp only [Option.some.injEq] at hl; subst hl
    exact ok_convInt hop hp hx (by rw [hs]; rfl) hk
  case h_17 t x y =>
    split at hd
    rotate_left
    · cases hd
    rename_i hx
    simp only [Bool.and_eq_true] at hx
    unfold makeD at hd
    split at hd
    rotate_left
    · cases hd
    rename_i n k' c e hp hq he
    split at hd
    rotate_left
    · cases hd
    rename_i m z b hm hz hb
    split at hd
    rotate_left
    · cases hd
    rename_i hc
    simp only [Option.some.injEq, Prod.mk.injEq] at hd; obtain ⟨rfl, rfl⟩ := hd
    obtain ⟨c1, c2, c3, c4, c5, c6, c7⟩ := hc
    have e1 := plain_wrap c4
    have e2 := plain_wrap (n := c) (by omega)
    rw [← e2] at c7
    exact ok_makeSlice hop (by rw [hp, e1]) hx.1 (by rw [hq, e2]) hx.2 he hz hm c1 hb c2 c3 (by omega) (by omega) (by
      have h9 : ((b * c.toNat : Nat) : Int) ≤ ((2 ^ 48 : Nat) : Int) := by rw [Int.natCast_mul]; exact c7
      exact Int.ofNat_le.1 h9)
  case h_18 t x lo hi =>
    split at hd
    rotate_left
    · cases hd
    rename_i hx
    simp only [Bool.and_eq_true] at hx
    simp only [Option.map_eq_some_iff, Prod.mk.injEq] at hd
    obtain ⟨v0, hl, rfl, rfl⟩ := hd
    unfold sliceD at hl
    split at hl
    · rename_i hp
      split at hl
      rotate_left
      · cases hl
      rename_i l r m h1 h2 h3
      split at hl
      rotate_left
      · cases hl
      rename_i hb
      simp only [Option.some.injEq] at hl; subst hl
      obtain ⟨e, he, hm⟩ := Option.bind_eq_some_iff.1 h3
      exact ok_slice hop hp hx.1.1 hx.1.2 hx.2 h1 h2 he hm hb.1 hb.2
    · rename_i hp
      split at hl
      rotate_left
      · cases hl
      rename_i l r m h1 h2 h3
      split at hl
      rotate_left
      · cases hl
      rename_i hb
      simp only [Option.some.injEq] at hl; subst hl
      obtain ⟨e, he, hm⟩ := Option.bind_eq_some_iff.1 h3
      exact ok_sliceNil hop hp hx.1.1 hx.1.2 hx.2 h1 h2 he hm hb.1 hb.2
    · rename_i hp
      split at hl
      rotate_left
      · cases hl
      rename_i l r h1 h2 h3
      split at hl
      rotate_left
      · cases hl
      rename_i hb
      simp only [Option.some.injEq] at hl; subst hl
      exact ok_sliceS hop hp hx.1.1 hx.1.2 hx.2 h1 h2 h3 hb.1 hb.2
    · cases hl
  case h_19 t parts =>
    split at hd
    rotate_left
    · cases hd
    rename_i hx
    simp only [Bool.and_eq_true] at hx
    split at hd
    rotate_left
    · cases hd
    rename_i z hz
    split at hd
    rotate_left
    · cases hd
    rename_i hzp
    simp only [Bool.and_eq_true] at hzp
    split at hd
    · rename_i pl hpl
      simp only [Option.map_eq_some_iff, Prod.mk.injEq] at hd
      obtain ⟨r, hr, rfl, rfl⟩ := hd
      exact ok_build hop hx.1 hx.2 hz hzp.1 hzp.2 hpl hr
    · split at hd
      rotate_left
      · cases hd
      rename_i n e he
      split at hd
      rotate_left
      · cases hd
      rename_i m hm
      simp only [Option.map_eq_some_iff, Prod.mk.injEq] at hd
      obtain ⟨r, hr, rfl, rfl⟩ := hd
      exact ok_buildA hop hx.1 hx.2 hz hzp.1 hzp.2 he hm hr
  case h_20 t n parts =>
    split at hd
    rotate_left
    · cases hd
    rename_i hx
    simp only [Bool.and_eq_true] at hx
    split at hd
    rotate_left
    · cases hd
    rename_i e he
    split at hd
    rotate_left
    · cases hd
    rename_i m z hm hz
    split at hd
    rotate_left
    · cases hd
    rename_i hc
    simp only [Bool.and_eq_true, decide_eq_true_eq] at hc
    split at hd
    rotate_left
    · cases hd
    rename_i r hr
    split at hd
    rotate_left
    · cases hd
    rename_i hrs
    simp only [Option.some.injEq, Prod.mk.injEq] at hd; obtain ⟨rfl, rfl⟩ := hd
    exact ok_buildSlice hop hx.1 hx.2 hz hc.1.1.1 hc.1.1.2 he hm hc.1.2 hc.2 hr hrs
  case h_21 c =>
    split at hd
    rotate_left
    · cases hd
    rename_i b hb
    exact builtinD_sound (xs := c.args.toList) (ts := c.argTypes.toList) (by rw [hop]; cases c; simp_all) hd
  case h_22 x =>
    split at hd
    rotate_left
    · cases hd
    rename_i hx
    simp only [Option.map_eq_some_iff, Prod.mk.injEq] at hd
    obtain ⟨v0, hl, rfl, rfl⟩ := hd
    exact ok_nilCheck hop hx hl
  case h_23 =>
    simp only [Option.some.injEq, Prod.mk.injEq] at hd; obtain ⟨rfl, rfl⟩ := hd
    exact ok_makeMap hop
  case h_24 t x y ok =>
    split at hd
    rotate_left
    · cases hd
    rename_i hx
    simp only [Bool.and_eq_true] at hx
    simp only [Option.map_eq_some_iff, Prod.mk.injEq] at hd
    obtain ⟨v0, hl, rfl, rfl⟩ := hd
    exact ok_lookup hop hx.1 hx.2 hl
  case h_25 t m k u =>
    split at hd
    rotate_left
    · cases hd
    rename_i hx
    simp only [Bool.and_eq_true] at hx
    simp only [Option.map_eq_some_iff, Prod.mk.injEq] at hd
    obtain ⟨h0, hl, rfl, rfl⟩ := hd
    exact ok_mapUpdate hop hx.1.1 hx.1.2 hx.2 hl
  case h_26 => cases hd
def RunD (P : Program) (n : Nat) (ops : Array Oper) : List Oper → ((Nat → Value) → Hp → Prop) → (Nat → Value) → Hp → Prop
  | [], Q, tm, h => Q tm h
  | o :: rest, Q, tm, h => dstOK n o.dst = true ∧ guardOK n ops o = true ∧
    match wantA ops tm o with
    | none => False
    | some false => RunD P n ops rest Q (updO tm o.dst undef) h
    | some true => match o.op with
      | .call ⟨.value fx, xs, _⟩ => okX fx = true ∧ xs.all okX = true ∧ match ev tm fx with
          | .func (.func f) fst cap => fnOK P f = true ∧ ∃ v h', CallOK P f (fst ++ xs.map (ev tm) ++ cap) h v h' ∧ RunD P n ops rest Q (updO tm o.dst v) h'
          | _ => False
      | op => match opD P op tm h with
        | some (v, h') => RunD P n ops rest Q (updO tm o.dst v) h'
        | none => False
theorem RunD.run {n : Nat} {ops : Array Oper} {Q : (Nat → Value) → Hp → Prop} : ∀ (l : List Oper) {tm : Nat → Value} {h : Hp}, RunD P n ops l Q tm h → RunOps P n ops l Q tm h
  | [], _, _, hq => hq
  | o :: rest, tm, h, hq => by
    obtain ⟨h1, h2, h3⟩ := hq
    refine ⟨h1, h2, ?_⟩
    split at h3
    · cases h3
    · rename_i hw; exact .inr ⟨hw, RunD.run rest h3⟩
    · rename_i hw
      refine .inl ⟨hw, ?_⟩
      split at h3
      · rename_i fx xs ts hop
        obtain ⟨k1, k2, k3⟩ := h3
        split at k3
        rotate_left
        · cases k3
        rename_i f fst cap hfx
        obtain ⟨k4, v, h', k5, k6⟩ := k3
        exact ⟨v, h', ok_call hop hfx k1 k2 k4 k5, RunD.run rest k6⟩
      · split at h3
        rotate_left
        · cases h3
        rename_i v h' hd
        exact ⟨v, h', opD_sound hd, RunD.run rest h3⟩
end
end Go.Eng
end
