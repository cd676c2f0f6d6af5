/- Slices: make, literals, reslicing, len, append; aggregates built; unary operations, conversions, comparisons with nil. -/
import Derived.Test.YtpehnhjgdgnnkaaEngD
namespace Go.Eng

section
variable {P : Program} {o : Oper} {tm : Nat → Value} {h : Hp}

def unV (op : UnOp) (x : Value) : Option Value :=
  match op, x with
  | .neg, .int k n => some (.int k (k.wrap (0 - n)))
  | .xor, .int k n => intBin .xor k (if k.signed then -1 else k.max) n
  | .not, .bool b => some (.bool !b)
  | _, _ => none

theorem ok_unOp {op : UnOp} {t : TypeId} {x : Operand} {r : Value} (ho : o.op = .unOp op t x) (hx' : okX x = true) (hb : unV op (ev tm x) = some r) : OpOK P o tm h r h := by
  refine OpOK.pure fun E base w a hr ht => ?_
  have hv := mem_ops (x := x) hx' (by rw [ho]; simp [Op.operands]) ht
  unfold unV at hb
  split at hb
  · rename_i h1; rw [h1] at hv; injection hb with hb; subst hb
    exact ⟨_, .int _ _, by simp [execOp, ho, hv.inv_int, Op.unary, Op.intArith]⟩
  · rename_i k n h1; rw [h1] at hv
    simp only [intBin, Option.some.injEq] at hb; subst hb
    exact ⟨_, .int _ _, by simp [execOp, ho, hv.inv_int, Op.unary, Op.intBits]⟩
  · rename_i h1; rw [h1] at hv; injection hb with hb; subst hb
    exact ⟨_, .bool _, by simp [execOp, ho, hv.inv_bool, Op.unary]⟩
  · cases hb

theorem ok_convInt {s d : TypeId} {x : Operand} {k k' : IntKind} {n : Int} (ho : o.op = .convert s d x) (hx : ev tm x = .int k n) (hx' : okX x = true)
    (hs : (P.underlying s).isSome = true) (hd : inT P d = some k') : OpOK P o tm h (.int k' (k'.wrap n)) h := by
  refine OpOK.pure fun E base w a hr ht => ?_
  have hv := mem_ops (x := x) hx' (by rw [ho]; simp [Op.operands]) ht
  rw [hx] at hv
  obtain ⟨ds, hds⟩ := Option.isSome_iff_exists.mp hs
  exact ⟨_, .int _ _, by simp [execOp, ho, hv.inv_int, convert, run_underlying hds, run_underlying (inT_spec hd), Conv.intToInt]⟩

/-! Comparisons that look at no memory. -/
def eqV (P : Program) (t : TypeId) (x y : Value) : Option Bool :=
  match P.underlying t, x, y with
  | some .bool, .bool a, .bool b => some (a == b)
  | some (.slice _), .slice none _ _, .slice b _ _ => some b.isNone
  | some (.slice _), .slice (some _) _ _, .slice none _ _ => some false
  | some (.interface _), .nilIface, .iface _ _ => some false
  | some (.interface _), .iface _ _, .nilIface => some false
  | some (.interface _), .nilIface, .nilIface => some true
  | some (.map _ _), .map none, .map b => some b.isNone
  | some (.map _ _), .map (some _), .map none => some false
  | some (.pointer _), .pointer none, .pointer b => some b.isNone
  | some (.pointer _), .pointer (some _), .pointer none => some false
  | some (.func _ _ _), .nilFunc, .nilFunc => some true
  | some (.func _ _ _), .nilFunc, .func _ _ _ => some false
  | some (.func _ _ _), .func _ _ _, .nilFunc => some false
  | _, _, _ => none

def isC : Operand → Bool
  | .const _ => true
  | _ => false

/-- No nil of an interface. -/
def nIf : Value → Bool
  | .nilIface => false
  | _ => true
theorem VRel.nIf {E : Emb} {u u' : Value} (h : VRel E u u') : nIf u' = nIf u := by cases h <;> rfl

theorem run_eqV {E : Emb} {w : World} {t : TypeId} {u v u' v' : Value} {b : Bool} (hu : VRel E u u') (hv : VRel E v v') (h : eqV P t u v = some b) :
    (Op.equal t u' v').run P w = .ok b w := by
  unfold eqV at h
  unfold Op.equal
  obtain ⟨d, hd⟩ : ∃ d, Op.maxDepth = d + 1 := ⟨9999, rfl⟩
  rw [hd]
  clear hd
  split at h <;> first
    | (rename_i hk; injection h with h; subst h; cases hu <;> cases hv <;> simp [Op.equalIn, run_underlying hk])
    | cases h

theorem binOp_eq_other {t : TypeId} {u v : Value} (h : ∀ k n, u ≠ .int k n) (h2 : ∀ s, u ≠ .string s) (h3 : ∀ k b, u ≠ .float k b) (h4 : ∀ k b c, u ≠ .complex k b c) :
    binOp .eql t u v = (do pure (.bool (← Op.equal t u v)) : Sem Value) := by
  unfold binOp
  split <;> simp_all

theorem binOp_neq_other {t : TypeId} {u v : Value} (h : ∀ k n, u ≠ .int k n) (h2 : ∀ s, u ≠ .string s) (h3 : ∀ k b, u ≠ .float k b) (h4 : ∀ k b c, u ≠ .complex k b c) :
    binOp .neq t u v = (do pure (.bool (!(← Op.equal t u v))) : Sem Value) := by
  unfold binOp
  split <;> simp_all

theorem eqV_left {t : TypeId} {u v : Value} {b : Bool} (h : eqV P t u v = some b) : (∀ k n, u ≠ .int k n) ∧ (∀ s, u ≠ .string s) ∧ (∀ k b, u ≠ .float k b) ∧ (∀ k b c, u ≠ .complex k b c) ∧ (∀ c, u ≠ .agg c) := by
  refine ⟨?_, ?_, ?_, ?_, ?_⟩ <;> intros <;> intro e <;> subst e <;> simp [eqV] at h

theorem VRel.shape {E : Emb} {u u' : Value} (h : VRel E u u') (g : (∀ k n, u ≠ .int k n) ∧ (∀ s, u ≠ .string s) ∧ (∀ k b, u ≠ .float k b) ∧ (∀ k b c, u ≠ .complex k b c) ∧ (∀ c, u ≠ .agg c)) :
    (∀ k n, u' ≠ .int k n) ∧ (∀ s, u' ≠ .string s) ∧ (∀ k b, u' ≠ .float k b) ∧ (∀ k b c, u' ≠ .complex k b c) ∧ (∀ c, u' ≠ .agg c) := by
  cases h <;> simp_all

theorem run_guard {w : World} {op : BinOp} {t : TypeId} {x y : Operand} {u v : Value} (h : ∀ c, u ≠ .agg c) (hc : isC x = true ∨ isC y = true ∨ nIf u = true) :
    (eqGuard op t x y u v).run P w = .ok () w := by
  unfold eqGuard
  cases hop : op <;> simp <;> split <;> simp_all <;> (rcases hc with hc | hc | hc <;> (cases x <;> cases y <;> simp_all [isC, nIf]))

theorem ok_eq {t t' : TypeId} {x y : Operand} {b : Bool} (ho : o.op = .binOp .eql t x y t') (hx' : okX x = true) (hy' : okX y = true) (hb : eqV P t (ev tm x) (ev tm y) = some b)
    (hc : isC x = true ∨ isC y = true ∨ nIf (ev tm x) = true) : OpOK P o tm h (.bool b) h := by
  refine OpOK.pure fun E base w a hr ht => ⟨_, .bool b, ?_⟩
  have hv := mem_ops (x := x) hx' (by rw [ho]; simp [Op.operands]) ht
  have hu := mem_ops (x := y) hy' (by rw [ho]; simp [Op.operands]) ht
  obtain ⟨h1, h2, h3, h4, h5⟩ := hv.shape (eqV_left hb)
  simp [execOp, ho, run_guard h5 (by rw [hv.nIf]; exact hc), binOp_eq_other h1 h2 h3 h4, run_eqV hv hu hb]

theorem ok_neq {t t' : TypeId} {x y : Operand} {b : Bool} (ho : o.op = .binOp .neq t x y t') (hx' : okX x = true) (hy' : okX y = true) (hb : eqV P t (ev tm x) (ev tm y) = some b)
    (hc : isC x = true ∨ isC y = true ∨ nIf (ev tm x) = true) : OpOK P o tm h (.bool !b) h := by
  refine OpOK.pure fun E base w a hr ht => ⟨_, .bool !b, ?_⟩
  have hv := mem_ops (x := x) hx' (by rw [ho]; simp [Op.operands]) ht
  have hu := mem_ops (x := y) hy' (by rw [ho]; simp [Op.operands]) ht
  obtain ⟨h1, h2, h3, h4, h5⟩ := hv.shape (eqV_left hb)
  simp [execOp, ho, run_guard h5 (by rw [hv.nIf]; exact hc), binOp_neq_other h1 h2 h3 h4, run_eqV hv hu hb]

/-! make([]T, n) -/
def zcells (z : Value) (n : Nat) : List Value := (List.range (n * z.cells.size)).map fun i => z.cells.getD (i % z.cells.size) undef

theorem zcells_one {z : Value} (h : z.cells = #[z]) (n : Nat) : zcells z n = List.replicate n z := by
  unfold zcells
  rw [h]
  apply List.ext_getElem
  · simp
  · intro i h1 h2
    simp [Nat.mod_one]

theorem ok_makeSlice {t e : TypeId} {x y : Operand} {z : Value} {n c m b : Nat} {k k' : IntKind} (ho : o.op = .makeSlice t x y) (hx : ev tm x = .int k n) (hx' : okX x = true)
    (hy : ev tm y = .int k' c) (hy' : okX y = true) (ht' : elT P t = some e) (hz : zeroT P e = some z) (hm : szT P e = some m) (hzm : z.cells.size = m) (hbt : byT P e = some b)
    (hp : plainV z = true) (hz1 : notTup z = true) (hnc : n ≤ c) (hc : c < 2 ^ 47) (hcb : b * c ≤ 2 ^ 48) :
    OpOK P o tm h (.slice (some ⟨h.next, 0, none⟩) n c) (h.alloc (.cells (zcells z c) true true m)) := by
  intro E base w a next Q hr ht hn
  have hv := mem_ops (x := x) hx' (by rw [ho]; simp [Op.operands]) ht
  have hu := mem_ops (x := y) hy' (by rw [ho]; simp [Op.operands]) ht
  rw [hx] at hv
  rw [hy] at hu
  have hzr := VRel.ofV E hp
  have hsz : ∀ i, i < (zcells z c).length → i % z.cells.size < z.cells.size := by
    intro i hi
    simp [zcells] at hi
    exact Nat.mod_lt _ (Nat.pos_of_ne_zero (fun e => by rw [e] at hi; simp at hi))
  have hgd : ∀ i, i < (zcells z c).length → (zcells z c).getD i undef = z.cells.getD (i % z.cells.size) undef := by
    intro i hi
    have hi' := hi
    simp [zcells] at hi'
    simp [zcells, List.getD, hi']
  have hwl : ∀ q : Nat, q < 2 ^ 47 → IntKind.i64.wrap (q : Int) = q := by
    intro q hq
    simp only [IntKind.wrap, IntKind.bits, IntKind.signed]
    simp
    omega
  refine new_row (u := fun b => .slice (some ⟨b, 0, none⟩) n c) (s := 0) (C := (Array.range (c * m)).map (z.cells[· % z.cells.size]!)) (ty := e) hr ?_ ?_ ?_ (fun _ => rfl) ?_ ?_ hn
  · simp [zcells, hzm]
  · intro i hi
    rw [hgd i hi]
    have h2 := hsz i hi
    have hi' := hi
    simp [zcells, hzm] at hi'
    have : ((Array.range (c * m)).map (z.cells[· % z.cells.size]!)).getD i undef = z.cells.getD (i % z.cells.size) undef := by
      rw [Array.getD_eq_getD_getElem?, Array.getElem?_map, Array.getElem?_range, if_pos hi']
      simp [h2]
    rw [this]
    exact hzr.cells.2 _ h2
  · intro i hi
    rw [hgd i hi]
    exact hzr.cells_one (notTup_iff hz1) _ (hsz i hi)
  · have hl := hwl n (by omega)
    have hcc := hwl c hc
    have h1 : ¬ ((281474976710656 : Int) < (b : Int) * (c : Int)) := by
      have h2 : (((b * c : Nat)) : Int) ≤ ((281474976710656 : Nat) : Int) := Int.ofNat_le.2 hcb
      rw [Int.natCast_mul] at h2
      omega
    cases hi : P.info? e with
    | none => simp [szT, hi] at hm
    | some inf =>
      have hib : inf.bytes = b := by simpa [byT, hi] using hbt
      have his : inf.size = m := by simpa [szT, hi] using hm
      have hiz : inf.zero = some z := by simpa [zeroT, hi] using hz
      simp [execOp, ho, hv.inv_int, hu.inv_int, Instr.makeSlice, run_underlying (elT_spec ht'), asInt, asIntOf, typeInfo, hi, hib, his, hl, hcc, sizeOf, zeroValue, hiz, newRow, show ¬ (c < n) by omega, h1, show ¬ ((c : Int) < 0) by omega, show ¬ ((n : Int) < 0) by omega]
      intro h0
      rw [h0, show Array.range 0 = #[] from Array.ext (by simp) (fun i h _ => absurd h (by simp))]; simp
  · intro E' hd hb hf hs _
    have := VRel.slice (E := E') h.next 0 n c ⟨w.heap.size, 0, none⟩ hd hnc (.inr (by rw [hb, hf]))
    rwa [hs] at this
end
end Go.Eng
