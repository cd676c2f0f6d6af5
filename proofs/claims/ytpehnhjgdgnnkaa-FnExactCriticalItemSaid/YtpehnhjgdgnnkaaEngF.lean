/- Reslicing, len, literals, append, copy, min and max. -/
import Derived.Test.YtpehnhjgdgnnkaaEngE
namespace Go.Eng

section
variable {P : Program} {o : Oper} {tm : Nat → Value} {h : Hp}

/-- A bound of a slice expression. -/
def bnd (tm : Nat → Value) (d : Nat) : Option Operand → Option Nat
  | none => some d
  | some x => match ev tm x with
    | .int _ i => if 0 ≤ i then some i.toNat else none
    | _ => none
def okO : Option Operand → Bool
  | none => true
  | some x => okX x

theorem bnd_rel {E : Emb} {a : Act} {d l : Nat} {x : Option Operand} (hx : okO x = true) (hm : ∀ y, x = some y → y ∈ o.op.operands)
    (ht : ∀ t, Operand.tmp t ∈ o.op.operands → VRel E (tm t) (a.tmps.getD t undef)) (hb : bnd tm d x = some l) :
    (x = none ∧ l = d) ∨ ∃ y k i, x = some y ∧ a.eval y = .int k i ∧ 0 ≤ i ∧ i.toNat = l := by
  cases x with
  | none => left; simp [bnd] at hb; exact ⟨rfl, hb.symm⟩
  | some y =>
    right
    have hv := mem_ops (x := y) hx (hm y rfl) ht
    simp only [bnd] at hb
    split at hb
    · rename_i k i he
      rw [he] at hv
      split at hb
      · rename_i h0
        simp only [Option.some.injEq] at hb
        exact ⟨y, k, i, rfl, hv.inv_int, h0, hb⟩
      · cases hb
    · cases hb

theorem run_sliceBound {w : World} {k : IntKind} {i : Int} {y n : Nat} {code : BoundsCode} (h0 : 0 ≤ i) (h1 : i ≤ y) (e : i.toNat = n) : (Instr.sliceBound (.int k i) y code).run P w = .ok n w := by
  have : 0 ≤ i ∧ i ≤ (y : Int) := ⟨h0, h1⟩
  simp [Instr.sliceBound, asIntOf, this, e]

theorem run_sliceBounds {w : World} {ρ : Operand → Value} {b : Bool} {len cap l r : Nat} {lo hi : Option Operand}
    (hL : (lo = none ∧ l = 0) ∨ ∃ y k i, lo = some y ∧ ρ y = .int k i ∧ 0 ≤ i ∧ i.toNat = l) (hR : (hi = none ∧ r = len) ∨ ∃ y k i, hi = some y ∧ ρ y = .int k i ∧ 0 ≤ i ∧ i.toNat = r)
    (h1 : l ≤ r) (h2 : r ≤ cap) : (Instr.sliceBounds b len cap (lo.map ρ) (hi.map ρ) none).run P w = .ok (l, r, cap) w := by
  rcases hR with ⟨rfl, rfl⟩ | ⟨y, k, j, rfl, e1, e2, e3⟩ <;> rcases hL with ⟨rfl, rfl⟩ | ⟨y', k', j', rfl, e1', e2', e3'⟩
  · simp [Instr.sliceBounds]
  · simp only [Instr.sliceBounds, Option.map_some, Option.map_none, e1', Sem.run_bind, Sem.run_pure, Result.andThen_ok, run_sliceBound e2' (show j' ≤ (r : Int) by omega) e3']
  · simp only [Instr.sliceBounds, Option.map_some, Option.map_none, e1, Sem.run_bind, Sem.run_pure, Result.andThen_ok, run_sliceBound e2 (show j ≤ (cap : Int) by omega) e3]
  · simp only [Instr.sliceBounds, Option.map_some, e1, e1', Sem.run_bind, Sem.run_pure, Result.andThen_ok, run_sliceBound e2 (show j ≤ (cap : Int) by omega) e3, run_sliceBound e2' (show j' ≤ (r : Int) by omega) e3']

theorem ok_slice {t e : TypeId} {x : Operand} {lo hi : Option Operand} {p i n c l r m : Nat} (ho : o.op = .slice t x lo hi none) (hx : ev tm x = .slice (some ⟨p, i, none⟩) n c) (hx' : okX x = true)
    (hlo : okO lo = true) (hhi : okO hi = true) (hl : bnd tm 0 lo = some l) (hr' : bnd tm n hi = some r) (ht' : elT P t = some e) (hm : szT P e = some m) (h1 : l ≤ r) (h2 : r ≤ c) :
    OpOK P o tm h (.slice (some ⟨p, i + l * m, none⟩) (r - l) (c - l)) h := by
  refine OpOK.pure fun E base w a hr ht => ?_
  have hv := mem_ops (x := x) hx' (by rw [ho]; simp [Op.operands]) ht
  rw [hx] at hv
  obtain ⟨hnc, sl, ad, ev, hq⟩ := hv.inv_slice
  have hL := bnd_rel hlo (fun y e => by rw [ho]; simp [Op.operands, e]) ht hl
  have hR := bnd_rel hhi (fun y e => by rw [ho]; simp [Op.operands, e]) ht hr'
  have hbs : (Instr.sliceBounds true n (c + sl) (lo.map a.eval) (hi.map a.eval) none).run P w = .ok (l, r, c + sl) w := run_sliceBounds hL hR h1 (by omega)
  refine ⟨.slice (some (if c + sl = l then ad else ad.add (l * m))) (r - l) (c - l + sl), ?_, ?_⟩
  · rcases hq with ⟨hd, rfl, had⟩ | h0
    · refine .slice p _ _ _ _ hd (by omega) ?_
      by_cases hq : c + E.slk p = l
      · left; omega
      · right
        rw [if_neg hq]
        rcases had with h0 | had
        · omega
        · rw [had, add_plain', Nat.add_assoc]
    · exact h0.elim
  · simp only [execOp, ho, ev, Option.map_none]
    simp only [Instr.sliceAt, run_underlying (elT_spec ht'), Sem.run_bind, Result.andThen_ok, Instr.slice, hbs, run_szT hm, Sem.run_pure]
    congr 3
    · split <;> simp_all
    · omega

theorem ok_sliceNil {t e : TypeId} {x : Operand} {lo hi : Option Operand} {l r m : Nat} (ho : o.op = .slice t x lo hi none) (hx : ev tm x = .slice none 0 0) (hx' : okX x = true)
    (hlo : okO lo = true) (hhi : okO hi = true) (hl : bnd tm 0 lo = some l) (hr' : bnd tm 0 hi = some r) (ht' : elT P t = some e) (hm : szT P e = some m) (h1 : l = 0) (h2 : r = 0) :
    OpOK P o tm h (.slice none 0 0) h := by
  refine OpOK.pure fun E base w a hr ht => ⟨_, .sliceNil, ?_⟩
  have hv := mem_ops (x := x) hx' (by rw [ho]; simp [Op.operands]) ht
  rw [hx] at hv
  have hL := bnd_rel hlo (fun y e => by rw [ho]; simp [Op.operands, e]) ht hl
  have hR := bnd_rel hhi (fun y e => by rw [ho]; simp [Op.operands, e]) ht hr'
  subst h1 h2
  have hbs : (Instr.sliceBounds true 0 0 (lo.map a.eval) (hi.map a.eval) none).run P w = .ok (0, 0, 0) w := run_sliceBounds hL hR (by omega) (by omega)
  simp only [execOp, ho, hv.inv_sliceNil, Option.map_none]
  simp [Instr.sliceAt, run_underlying (elT_spec ht'), Instr.slice, hbs, run_szT hm]

theorem ok_sliceS {t : TypeId} {x : Operand} {lo hi : Option Operand} {s : ByteArray} {l r : Nat} (ho : o.op = .slice t x lo hi none) (hx : ev tm x = .string s) (hx' : okX x = true)
    (hlo : okO lo = true) (hhi : okO hi = true) (hl : bnd tm 0 lo = some l) (hr' : bnd tm s.size hi = some r) (ht' : P.underlying t = some .string) (h1 : l ≤ r) (h2 : r ≤ s.size) :
    OpOK P o tm h (.string (s.extract l r)) h := by
  refine OpOK.pure fun E base w a hr ht => ⟨_, .string _, ?_⟩
  have hv := mem_ops (x := x) hx' (by rw [ho]; simp [Op.operands]) ht
  rw [hx] at hv
  have hL := bnd_rel hlo (fun y e => by rw [ho]; simp [Op.operands, e]) ht hl
  have hR := bnd_rel hhi (fun y e => by rw [ho]; simp [Op.operands, e]) ht hr'
  have hbs : (Instr.sliceBounds false s.size s.size (lo.map a.eval) (hi.map a.eval) none).run P w = .ok (l, r, s.size) w := run_sliceBounds hL hR h1 h2
  simp only [execOp, ho, hv.inv_string, Option.map_none]
  simp [Instr.sliceAt, run_underlying ht', Instr.slice, hbs]

/-! len -/
theorem ok_len {ty : TypeId} {t e : TypeId} {x : Operand} {s : Option Addr} {n c : Nat} (ho : o.op = .call ⟨.builtin .len, #[x], #[t]⟩) (hx : ev tm x = .slice s n c) (hx' : okX x = true)
    (ht' : elT P t = some e) (_hty : o.type = ty) : OpOK P o tm h (.int .i64 n) h := by
  refine OpOK.pure fun E base w a hr ht => ⟨_, .int _ _, ?_⟩
  have hv := mem_ops (x := x) hx' (by rw [ho]; simp [Op.operands, Call.operands]) ht
  rw [hx] at hv
  obtain ⟨s', c', e'⟩ : ∃ s' c', a.eval x = .slice s' n c' := by
    generalize a.eval x = v' at hv
    cases hv <;> exact ⟨_, _, rfl⟩
  simp [execOp, ho, resolve, invoke, builtin, e', Builtin.len_, run_underlying (elT_spec ht'), goInt]

theorem ok_lenS {t : TypeId} {x : Operand} {s : ByteArray} (ho : o.op = .call ⟨.builtin .len, #[x], #[t]⟩) (hx : ev tm x = .string s) (hx' : okX x = true)
    (ht' : P.underlying t = some .string) : OpOK P o tm h (.int .i64 s.size) h := by
  refine OpOK.pure fun E base w a hr ht => ⟨_, .int _ _, ?_⟩
  have hv := mem_ops (x := x) hx' (by rw [ho]; simp [Op.operands, Call.operands]) ht
  rw [hx] at hv
  simp [execOp, ho, resolve, invoke, builtin, hv.inv_string, Builtin.len_, run_underlying ht', goInt]

/-! min, max of whole numbers -/
theorem ok_max2 {t t' : TypeId} {x y : Operand} {k k' : IntKind} {i j : Int} (ho : o.op = .call ⟨.builtin .max, #[x, y], #[t, t']⟩) (hx : ev tm x = .int k i) (hx' : okX x = true)
    (hy : ev tm y = .int k' j) (hy' : okX y = true) : OpOK P o tm h (.int k (if j > i then j else i)) h := by
  refine OpOK.pure fun E base w a hr ht => ⟨_, .int _ _, ?_⟩
  have hv := mem_ops (x := x) hx' (by rw [ho]; simp [Op.operands, Call.operands]) ht
  have hu := mem_ops (x := y) hy' (by rw [ho]; simp [Op.operands, Call.operands]) ht
  rw [hx] at hv
  rw [hy] at hu
  simp [execOp, ho, resolve, invoke, builtin, hv.inv_int, hu.inv_int, Builtin.max_, Builtin.max2]

theorem ok_min2 {t t' : TypeId} {x y : Operand} {k k' : IntKind} {i j : Int} (ho : o.op = .call ⟨.builtin .min, #[x, y], #[t, t']⟩) (hx : ev tm x = .int k i) (hx' : okX x = true)
    (hy : ev tm y = .int k' j) (hy' : okX y = true) : OpOK P o tm h (.int k (if j < i then j else i)) h := by
  refine OpOK.pure fun E base w a hr ht => ⟨_, .int _ _, ?_⟩
  have hv := mem_ops (x := x) hx' (by rw [ho]; simp [Op.operands, Call.operands]) ht
  have hu := mem_ops (x := y) hy' (by rw [ho]; simp [Op.operands, Call.operands]) ht
  rw [hx] at hv
  rw [hy] at hu
  simp [execOp, ho, resolve, invoke, builtin, hv.inv_int, hu.inv_int, Builtin.min_, Builtin.min2]
end
end Go.Eng
