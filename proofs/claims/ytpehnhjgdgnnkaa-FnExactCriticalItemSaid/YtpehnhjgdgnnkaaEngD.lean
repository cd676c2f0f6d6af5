/- Addresses of fields and elements, slices, aggregates, arithmetic, comparisons, tuples. -/
import Derived.Test.YtpehnhjgdgnnkaaEngC
namespace Go.Eng

/-- A struct's field: where it begins, how many cells it has, whether it is a struct or an array. -/
def fldT (P : Program) (s : TypeId) (f : Nat) : Option (Nat × Nat × Bool) :=
  match P.underlying s with
  | some (.struct fs) => match fs[f]? with
    | some fd => match szT P fd.type, aggT P fd.type with
      | some n, some b => some (fd.offset, n, b)
      | _, _ => none
    | none => none
  | _ => none

def elT (P : Program) (t : TypeId) : Option TypeId := match P.underlying t with | some (.slice e) => some e | _ => none
/-- An array's length and element. -/
def arT (P : Program) (t : TypeId) : Option (Nat × TypeId) := match P.underlying t with | some (.array n e) => some (n, e) | _ => none
def inT (P : Program) (t : TypeId) : Option IntKind := match P.underlying t with | some (.int k) => some k | _ => none

theorem elT_spec {P : Program} {t e : TypeId} (h : elT P t = some e) : P.underlying t = some (.slice e) := by
  unfold elT at h; split at h <;> simp_all
theorem arT_spec {P : Program} {t e : TypeId} {n : Nat} (h : arT P t = some (n, e)) : P.underlying t = some (.array n e) := by
  unfold arT at h; split at h <;> simp_all
theorem inT_spec {P : Program} {t : TypeId} {k : IntKind} (h : inT P t = some k) : P.underlying t = some (.int k) := by
  unfold inT at h; split at h <;> simp_all

theorem fldT_spec {P : Program} {s : TypeId} {f off n : Nat} {b : Bool} (h : fldT P s f = some (off, n, b)) :
    ∃ fs fd, P.underlying s = some (.struct fs) ∧ fs[f]? = some fd ∧ fd.offset = off ∧ szT P fd.type = some n ∧ aggT P fd.type = some b := by
  unfold fldT at h
  split at h
  · rename_i fs hs
    split at h
    · rename_i fd hf
      split at h
      · rename_i n' b' hn hb
        simp only [Option.some.injEq, Prod.mk.injEq] at h
        obtain ⟨rfl, rfl, rfl⟩ := h
        exact ⟨fs, fd, hs, hf, rfl, hn, hb⟩
      · cases h
    · cases h
  · cases h

section
variable {P : Program} {o : Oper} {tm : Nat → Value} {h : Hp}

theorem ok_fieldAddr {s : TypeId} {x : Operand} {p i f off n : Nat} {b : Bool} (ho : o.op = .fieldAddr s x f) (hx : ev tm x = .pointer (some ⟨p, i, none⟩)) (hx' : okX x = true)
    (hf : fldT P s f = some (off, n, b)) (hn : n ≠ 0) : OpOK P o tm h (.pointer (some ⟨p, i + off, none⟩)) h := by
  refine OpOK.pure fun E base w a hr ht => ?_
  have hv := mem_ops (x := x) hx' (by rw [ho]; simp [Op.operands]) ht
  rw [hx] at hv
  obtain ⟨hd, e⟩ := hv.inv_ptr
  obtain ⟨fs, fd, h1, h2, h3, h4, h5⟩ := fldT_spec hf
  refine ⟨.pointer (some ⟨E.blk p, E.off p + (i + off), none⟩), .ptr p (i + off) hd, ?_⟩
  simp [execOp, ho, e, Instr.fieldAt, run_underlying h1, h2, Instr.sureAddr, fieldPlace, run_szT h4, hn, h3, add_plain', Nat.add_assoc]

theorem getD_extract {c : Array Value} {a b i : Nat} (hi : i < b - a) (hb : b ≤ c.size) : (c.extract a b).getD i undef = c.getD (a + i) undef := by
  rw [Array.getD_eq_getD_getElem?, Array.getD_eq_getD_getElem?, Array.getElem?_extract]
  rw [if_pos (by omega)]

theorem getD_some {c : Array Value} {i : Nat} (hi : i < c.size) : ∃ z, c[i]? = some z ∧ c.getD i undef = z :=
  ⟨c[i], by rw [Array.getElem?_eq_getElem hi], by rw [Array.getD_eq_getD_getElem?, Array.getElem?_eq_getElem hi]; rfl⟩

/-- What a struct's field is. -/
def partV (b : Bool) (cs : Array Value) (off n : Nat) : Value := if b then .agg (cs.extract off (off + n)) else cs.getD off undef

theorem run_part_eng {E : Emb} {w : World} {cs cs' : Array Value} {t : TypeId} {off n : Nat} {b : Bool} (hv : VRel E (.agg cs) (.agg cs')) (hs : szT P t = some n) (hb : aggT P t = some b)
    (hi : off + n ≤ cs.size) (hn : n ≠ 0) : ∃ v', VRel E (partV b cs off n) v' ∧ (part t cs' off).run P w = .ok v' w := by
  have hsz : cs.size = cs'.size ∧ (∀ i, i < cs.size → (cs.getD i undef).oneCell' = true) ∧ ∀ i, i < cs.size → VRel E (cs.getD i undef) (cs'.getD i undef) := by
    cases hv; exact ⟨by assumption, by assumption, by assumption⟩
  obtain ⟨g1, g2, g3⟩ := hsz
  cases b with
  | true =>
    refine ⟨.agg (cs'.extract off (off + n)), ?_, by simp [part, run_aggT hb, run_szT hs]⟩
    refine .agg _ _ (by simp; omega) ?_ ?_
    · intro i hi'
      simp at hi'
      rw [getD_extract (by omega) (by omega)]
      exact g2 _ (by omega)
    · intro i hi'
      simp at hi'
      rw [getD_extract (by omega) (by omega), getD_extract (by omega) (by omega)]
      exact g3 _ (by omega)
  | false =>
    obtain ⟨z, hz, hz'⟩ := getD_some (c := cs') (i := off) (by omega)
    refine ⟨z, hz' ▸ g3 off (by omega), ?_⟩
    simp [part, run_aggT hb, hz]

theorem VRel.inv_agg {E : Emb} {cs : Array Value} {v' : Value} (h : VRel E (.agg cs) v') : ∃ cs', v' = .agg cs' := by cases h; exact ⟨_, rfl⟩

theorem ok_field {s : TypeId} {x : Operand} {f off n : Nat} {b : Bool} {cs : Array Value} (ho : o.op = .field s x f) (hx : ev tm x = .agg cs) (hx' : okX x = true)
    (hf : fldT P s f = some (off, n, b)) (hn : n ≠ 0) (hi : off + n ≤ cs.size) : OpOK P o tm h (partV b cs off n) h := by
  refine OpOK.pure fun E base w a hr ht => ?_
  have hv := mem_ops (x := x) hx' (by rw [ho]; simp [Op.operands]) ht
  rw [hx] at hv
  obtain ⟨cs', e⟩ := hv.inv_agg
  rw [e] at hv
  obtain ⟨fs, fd, h1, h2, h3, h4, h5⟩ := fldT_spec hf
  obtain ⟨v', k1, k2⟩ := run_part_eng (P := P) (w := w) (t := fd.type) hv h4 h5 hi hn
  exact ⟨v', k1, by simp [execOp, ho, e, Instr.field, run_underlying h1, h2, asAgg, h3, k2]⟩

theorem ok_indexAddr {t e : TypeId} {x y : Operand} {p i n c m : Nat} {k : IntKind} {j : Int} (ho : o.op = .indexAddr t x y) (hx : ev tm x = .slice (some ⟨p, i, none⟩) n c) (hx' : okX x = true)
    (hy : ev tm y = .int k j) (hy' : okX y = true) (ht' : elT P t = some e) (hs : szT P e = some m) (h0 : 0 ≤ j) (h1 : j < n) :
    OpOK P o tm h (.pointer (some ⟨p, i + j.toNat * m, none⟩)) h := by
  refine OpOK.pure fun E base w a hr ht => ?_
  have hv := mem_ops (x := x) hx' (by rw [ho]; simp [Op.operands]) ht
  have hu := mem_ops (x := y) hy' (by rw [ho]; simp [Op.operands]) ht
  rw [hx] at hv
  rw [hy] at hu
  obtain ⟨hnc, s, ad, ev, hq⟩ := hv.inv_slice
  obtain ⟨hd, hs', had⟩ := hq.resolve_right (fun h => h)
  have had : ad = ⟨E.blk p, E.off p + i, none⟩ := had.resolve_left (by omega)
  subst had
  refine ⟨.pointer (some ⟨E.blk p, E.off p + (i + j.toNat * m), none⟩), .ptr p _ hd, ?_⟩
  have hb : 0 ≤ j ∧ j < n := ⟨h0, h1⟩
  simp [execOp, ho, ev, hu.inv_int, Instr.indexAt, asIntOf, run_underlying (elT_spec ht'), run_szT hs, hb, add_plain', Nat.add_assoc]

theorem ok_indexAddrA {t e : TypeId} {x y : Operand} {p i n m : Nat} {k : IntKind} {j : Int} (ho : o.op = .indexAddr t x y) (hx : ev tm x = .pointer (some ⟨p, i, none⟩)) (hx' : okX x = true)
    (hy : ev tm y = .int k j) (hy' : okX y = true) (ht' : arT P t = some (n, e)) (hs : szT P e = some m) (h0 : 0 ≤ j) (h1 : j < n) :
    OpOK P o tm h (.pointer (some ⟨p, i + j.toNat * m, none⟩)) h := by
  refine OpOK.pure fun E base w a hr ht => ?_
  have hv := mem_ops (x := x) hx' (by rw [ho]; simp [Op.operands]) ht
  have hu := mem_ops (x := y) hy' (by rw [ho]; simp [Op.operands]) ht
  rw [hx] at hv
  rw [hy] at hu
  obtain ⟨hd, ev⟩ := hv.inv_ptr
  refine ⟨.pointer (some ⟨E.blk p, E.off p + (i + j.toNat * m), none⟩), .ptr p _ hd, ?_⟩
  have hb : 0 ≤ j ∧ j < n := ⟨h0, h1⟩
  simp [execOp, ho, ev, hu.inv_int, Instr.indexAt, asIntOf, run_underlying (arT_spec ht'), run_szT hs, hb, add_plain', Nat.add_assoc, Instr.sureAddr]

/-- An array's element, the array a value. -/
theorem ok_indexA {t e : TypeId} {x y : Operand} {n m : Nat} {b : Bool} {k : IntKind} {j : Int} {cs : Array Value} (ho : o.op = .index t x y) (hx : ev tm x = .agg cs) (hx' : okX x = true)
    (hy : ev tm y = .int k j) (hy' : okX y = true) (ht' : arT P t = some (n, e)) (hs : szT P e = some m) (hb : aggT P e = some b) (h0 : 0 ≤ j) (h1 : j < n) (hm : m ≠ 0) (hi : j.toNat * m + m ≤ cs.size) :
    OpOK P o tm h (partV b cs (j.toNat * m) m) h := by
  refine OpOK.pure fun E base w a hr ht => ?_
  have hv := mem_ops (x := x) hx' (by rw [ho]; simp [Op.operands]) ht
  have hu := mem_ops (x := y) hy' (by rw [ho]; simp [Op.operands]) ht
  rw [hx] at hv
  rw [hy] at hu
  obtain ⟨cs', e⟩ := hv.inv_agg
  rw [e] at hv
  obtain ⟨v', k1, k2⟩ := run_part_eng (P := P) (w := w) hv hs hb hi hm
  have hbd : 0 ≤ j ∧ j < n := ⟨h0, h1⟩
  exact ⟨v', k1, by simp [execOp, ho, e, hu.inv_int, Instr.index, asIntOf, run_underlying (arT_spec ht'), run_szT hs, hbd, k2]⟩

theorem ok_indexS {t : TypeId} {x y : Operand} {k : IntKind} {j : Int} {s : ByteArray} (ho : o.op = .index t x y) (hx : ev tm x = .string s) (hx' : okX x = true)
    (hy : ev tm y = .int k j) (hy' : okX y = true) (ht' : P.underlying t = some .string) (h0 : 0 ≤ j) (h1 : j.toNat < s.size) :
    OpOK P o tm h (.int .u8 (s[j.toNat].toNat : Int)) h := by
  refine OpOK.pure fun E base w a hr ht => ?_
  have hv := mem_ops (x := x) hx' (by rw [ho]; simp [Op.operands]) ht
  have hu := mem_ops (x := y) hy' (by rw [ho]; simp [Op.operands]) ht
  rw [hx] at hv
  rw [hy] at hu
  refine ⟨_, .int _ _, ?_⟩
  simp [execOp, ho, hv.inv_string, hu.inv_int, Instr.index, asIntOf, run_underlying ht', h0, h1]

theorem ok_extract {x : Operand} {i : Nat} {vs : Array Value} (ho : o.op = .extract x i) (hx : ev tm x = .tuple vs) (hx' : okX x = true) (hi : i < vs.size) : OpOK P o tm h (vs.getD i undef) h := by
  refine OpOK.pure fun E base w a hr ht => ?_
  have hv := mem_ops (x := x) hx' (by rw [ho]; simp [Op.operands]) ht
  rw [hx] at hv
  generalize hav : a.eval x = v' at hv
  cases hv with
  | tuple _ cs' hs hh =>
    obtain ⟨z, hz, hz'⟩ := getD_some (c := cs') (i := i) (by omega)
    refine ⟨z, hz' ▸ hh i hi, ?_⟩
    simp [execOp, ho, hav, Instr.extract, hz]

theorem ok_makeFunc {fn : Fn} {f c : Array Operand} (ho : o.op = .makeFunc fn f c) (hf : f.all okX = true) (hc : c.all okX = true) :
    OpOK P o tm h (.func fn (f.map (ev tm)) (c.map (ev tm))) h := by
  refine OpOK.pure fun E base w a hr ht => ⟨.func fn (f.map a.eval) (c.map a.eval), ?_, by simp [execOp, ho, Instr.makeFunc]⟩
  have key : ∀ (l : Array Operand), l.all okX = true → (∀ x ∈ l, x ∈ o.op.operands) → ∀ i, i < (l.map (ev tm)).size → VRel E ((l.map (ev tm)).getD i undef) ((l.map a.eval).getD i undef) := by
    intro l hl hm i hi
    simp at hi
    have e1 : (l.map (ev tm)).getD i undef = ev tm l[i] := by simp [Array.getD_eq_getD_getElem?, hi]
    have e2 : (l.map a.eval).getD i undef = a.eval l[i] := by simp [Array.getD_eq_getD_getElem?, hi]
    rw [e1, e2]
    rw [Array.all_eq_true] at hl
    exact mem_ops (hl i hi) (hm _ (Array.getElem_mem hi)) ht
  exact .func _ _ _ _ _ (by simp) (by simp) (key f hf (fun x hx => by rw [ho]; simp [Op.operands, hx])) (key c hc (fun x hx => by rw [ho]; simp [Op.operands, hx]))

end

/-! Arithmetic on integers. -/
def intBin (op : BinOp) (k : IntKind) (x y : Int) : Option Value :=
  match op with
  | .add => some (.int k (k.wrap (x + y)))
  | .sub => some (.int k (k.wrap (x - y)))
  | .mul => some (.int k (k.wrap (x * y)))
  | .quo => if y = 0 then none else some (.int k (k.wrap (x.tdiv y)))
  | .rem => if y = 0 then none else some (.int k (x.tmod y))
  | .and => some (.int k (k.wrap (BitVec.ofInt k.bits x &&& BitVec.ofInt k.bits y).toNat))
  | .or => some (.int k (k.wrap (BitVec.ofInt k.bits x ||| BitVec.ofInt k.bits y).toNat))
  | .xor => some (.int k (k.wrap (BitVec.ofInt k.bits x ^^^ BitVec.ofInt k.bits y).toNat))
  | .andNot => some (.int k (k.wrap (BitVec.ofInt k.bits x &&& ~~~(BitVec.ofInt k.bits y)).toNat))
  | .eql => some (.bool (x == y))
  | .neq => some (.bool (x != y))
  | .lss => some (.bool (x < y))
  | .leq => some (.bool (x ≤ y))
  | .gtr => some (.bool (x > y))
  | .geq => some (.bool (x ≥ y))
  | _ => none

def shiftV (op : BinOp) (k : IntKind) (x y : Int) : Option Value :=
  if y < 0 then none else
  match op with
  | .shl => some (.int k (k.wrap (x * 2 ^ min y.toNat k.bits)))
  | .shr => some (.int k (x.fdiv (2 ^ min y.toNat k.bits)))
  | _ => none

def strBin (op : BinOp) (x y : ByteArray) : Option Value :=
  match op with
  | .add => if ((x.size + y.size : Nat) : Int) > IntKind.i64.max then none else some (.string (x ++ y))
  | .eql => some (.bool (x.toList == y.toList))
  | .neq => some (.bool !(x.toList == y.toList))
  | .lss => some (.bool (Op.bytesLess x.toList y.toList))
  | .leq => some (.bool (Op.bytesLess x.toList y.toList || x.toList == y.toList))
  | .gtr => some (.bool !(Op.bytesLess x.toList y.toList || x.toList == y.toList))
  | .geq => some (.bool !(Op.bytesLess x.toList y.toList))
  | _ => none

def isShift : BinOp → Bool
  | .shl | .shr => true
  | _ => false

def binV (op : BinOp) (x y : Value) : Option Value :=
  match x, y with
  | .int k a, .int k' b => if isShift op = true then shiftV op k a b else if k ≠ k' then none else intBin op k a b
  | .string a, .string b => strBin op a b
  | _, _ => none

theorem plain_bin {op : BinOp} {k : IntKind} {x y : Int} {r : Value} (h : intBin op k x y = some r) : plainS r = true := by
  cases op <;> simp [intBin] at h <;> first | (obtain ⟨_, rfl⟩ := h; rfl) | (subst h; rfl)
theorem plain_shift {op : BinOp} {k : IntKind} {x y : Int} {r : Value} (h : shiftV op k x y = some r) : plainS r = true := by
  unfold shiftV at h
  split at h
  · cases h
  · cases op <;> simp at h <;> (subst h; rfl)
theorem plain_str {op : BinOp} {x y : ByteArray} {r : Value} (h : strBin op x y = some r) : plainS r = true := by
  cases op <;> simp [strBin] at h <;> first | (obtain ⟨_, rfl⟩ := h; rfl) | (subst h; rfl)

theorem run_binV {P : Program} {w : World} {op : BinOp} {t : TypeId} {u v : Value} {x y : Operand} {r : Value} (h : binV op u v = some r) :
    plainS r = true ∧ ((do eqGuard op t x y u v; binOp op t u v : Sem Value)).run P w = .ok r w := by
  unfold binV at h
  split at h
  · rename_i k a k' b
    have hg : (eqGuard op t x y (.int k a) (.int k' b)).run P w = .ok () w := by
      unfold eqGuard; split <;> rfl
    by_cases hsh : isShift op = true
    · rw [if_pos hsh] at h
      refine ⟨plain_shift h, ?_⟩
      unfold shiftV at h
      split at h
      · cases h
      · rename_i hb
        cases op <;> simp [isShift] at hsh <;> simp at h <;> subst h <;> simp [hg, binOp, Op.shift, hb]
    · rw [if_neg hsh] at h
      by_cases hk : k = k'
      · subst hk
        simp only [ne_eq, not_true_eq_false, if_false] at h
        refine ⟨plain_bin h, ?_⟩
        cases op <;> simp [isShift] at hsh <;> simp [intBin] at h <;>
          first
            | (obtain ⟨h0, rfl⟩ := h; simp [hg, binOp, Op.intDiv, h0])
            | (subst h; simp [hg, binOp, Op.intArith, Op.intBits, Op.intCmp])
      · rw [if_pos hk] at h; cases h
  · rename_i a b
    have hg : (eqGuard op t x y (.string a) (.string b)).run P w = .ok () w := by
      unfold eqGuard; split <;> rfl
    refine ⟨plain_str h, ?_⟩
    cases op <;> simp [strBin] at h <;>
      first
        | (obtain ⟨h0, rfl⟩ := h; simp [hg, binOp, Op.stringOp]; omega)
        | (subst h; simp [hg, binOp, Op.stringOp])
  · cases h

section
variable {P : Program} {o : Oper} {tm : Nat → Value} {h : Hp}

theorem ok_binOp {op : BinOp} {t t' : TypeId} {x y : Operand} {r : Value} (ho : o.op = .binOp op t x y t') (hx' : okX x = true) (hy' : okX y = true) (hb : binV op (ev tm x) (ev tm y) = some r) :
    OpOK P o tm h r h := by
  refine OpOK.pure fun E base w a hr ht => ?_
  have hv := mem_ops (x := x) hx' (by rw [ho]; simp [Op.operands]) ht
  have hu := mem_ops (x := y) hy' (by rw [ho]; simp [Op.operands]) ht
  have e : a.eval x = ev tm x ∧ a.eval y = ev tm y := by
    unfold binV at hb
    split at hb
    · rename_i h1 h2
      rw [h1] at hv ⊢; rw [h2] at hu ⊢
      exact ⟨hv.inv_int, hu.inv_int⟩
    · rename_i h1 h2
      rw [h1] at hv ⊢; rw [h2] at hu ⊢
      exact ⟨hv.inv_string, hu.inv_string⟩
    · cases hb
  obtain ⟨h1, h2⟩ := run_binV (P := P) (w := w) (t := t) (x := x) (y := y) hb
  refine ⟨r, .ofS E h1, ?_⟩
  have h2' := h2
  rw [Sem.run_bind] at h2'
  simp only [execOp, ho, e.1, e.2]
  rw [Sem.run_bind, h2]
  rfl
end

end Go.Eng
