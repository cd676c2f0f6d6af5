/- A function by its body; one operation by computation. -/
import Derived.Test.YtpehnhjgdgnnkaaEngJ
namespace Go.Eng

def resOne (P : Program) (tm : Nat → Value) (h : Hp) : ResultVar → Option Value
  | .tmp t => some (tm t)
  | .cell a t => match tm a with
    | .pointer (some ⟨p, i, none⟩) => match h.get p with
      | .cells c _ _ _ => match aggT P t with
        | some false => if i < c.length then some (c.getD i undef) else none
        | some true => match szT P t with
          | some m => if i + m ≤ c.length then some (.agg ((c.drop i).take m).toArray) else none
          | none => none
        | none => none
      | _ => none
    | _ => none

def resL (P : Program) (tm : Nat → Value) (h : Hp) : List ResultVar → Option (List Value)
  | [] => some []
  | r :: rs => match resOne P tm h r, resL P tm h rs with
    | some v, some vs => some (v :: vs)
    | _, _ => none

def packL : List Value → Value
  | [v] => v
  | vs => .tuple vs.toArray

def resM (tmps : Array Value) : ResultVar → Sem Value
  | .tmp t => pure (tmps.getD t undef)
  | .cell q t => do loadVar t (← asAddr (tmps.getD q undef))

theorem resOne_rel {P : Program} {E : Emb} {base n : Nat} {h : Hp} {w : World} {tm : Nat → Value} {a : Act} (hr : HRel E base h w.heap) (ht : TRel E n tm a) {r : ResultVar} {v : Value} (hv : resOne P tm h r = some v) :
    ∃ v', VRel E v v' ∧ (resM a.tmps r).run P w = .ok v' w := by
  cases r with
  | tmp t =>
    simp only [resOne] at hv
    simp only [Option.some.injEq] at hv
    subst hv
    exact ⟨_, ht.rel t, rfl⟩
  | cell q t =>
    simp only [resOne] at hv
    split at hv
    · rename_i p i hq
      have hp := ht.rel q
      rw [hq] at hp
      obtain ⟨hd, e⟩ := hp.inv_ptr
      simp only [resM, e, asAddr, Sem.run_bind, Sem.run_pure, Result.andThen_ok]
      split at hv
      · rename_i c own ex es hg
        have hl := run_loadVar_eng (P := P) hr hd hg t i
        split at hv
        · rename_i ha
          split at hv
          · rename_i hi
            simp only [Option.some.injEq] at hv
            subst hv
            exact hl.1 ha hi
          · cases hv
        · rename_i ha
          split at hv
          · rename_i m hm
            split at hv
            · rename_i hi
              simp only [Option.some.injEq] at hv
              subst hv
              exact hl.2 m ha hm hi
            · cases hv
          · cases hv
        · cases hv
      · cases hv
    · cases hv

theorem resL_rel {P : Program} {E : Emb} {base n : Nat} {h : Hp} {w : World} {tm : Nat → Value} {a : Act} (hr : HRel E base h w.heap) (ht : TRel E n tm a) : ∀ (rs : List ResultVar) (vs : List Value), resL P tm h rs = some vs →
    ∃ vs' : List Value, vs.length = vs'.length ∧ (∀ i, i < vs.length → VRel E (vs.getD i undef) (vs'.getD i undef)) ∧ (rs.mapM (resM a.tmps)).run P w = .ok vs' w
  | [], vs, h => by simp only [resL, Option.some.injEq] at h; subst h; exact ⟨[], rfl, fun i hi => absurd hi (by simp), by simp⟩
  | r :: rs, vs, h => by
    simp only [resL] at h
    split at h
    · rename_i v vs1 h1 h2
      simp only [Option.some.injEq] at h
      subst h
      obtain ⟨v', g1, g2⟩ := resOne_rel hr ht h1
      obtain ⟨vs', g3, g4, g5⟩ := resL_rel hr ht rs vs1 h2
      refine ⟨v' :: vs', by simp [g3], fun i hi => ?_, ?_⟩
      · cases i with
        | zero => simpa using g1
        | succ i => simpa using g4 i (by simpa using hi)
      · simp only [List.mapM_cons, Sem.run_bind, g2, Result.andThen_ok, g5, Sem.run_pure]
    · cases h

theorem run_results {P : Program} {fn : Func} {tmps : Array Value} {w : World} {vs : List Value} (h : (fn.results.toList.mapM (resM tmps)).run P w = .ok vs w) : (results fn tmps).run P w = .ok (packL vs) w := by
  have h2 : (fn.results.mapM (resM tmps)).run P w = .ok vs.toArray w := by
    rw [Array.mapM_eq_mapM_toList, Sem.run_map, h]; rfl
  have h3 : results fn tmps = (do
      let vs ← fn.results.mapM (resM tmps)
      pure (if h : vs.size = 1 then vs[0] else .tuple vs)) := by
    unfold results
    congr 1
  rw [h3, Sem.run_bind, h2]
  simp only [Result.andThen_ok, Sem.run_pure]
  match vs with
  | [] => rfl
  | [v] => rfl
  | _ :: _ :: _ => rfl

theorem pack_rel {E : Emb} {vs vs' : List Value} (hl : vs.length = vs'.length) (hr : ∀ i, i < vs.length → VRel E (vs.getD i undef) (vs'.getD i undef)) : VRel E (packL vs) (packL vs') := by
  match vs, vs', hl with
  | [], [], _ => exact VRel.undef E
  | [v], [v'], _ => exact (by simpa using hr 0 (by simp) : VRel E v v')
  | a :: b :: l, a' :: b' :: l', hl => exact .tuple _ _ (by simpa using hl) (fun i hi => by simpa using hr i (by simpa using hi))

/-- What is behind a body's end. -/
def Done (P : Program) (rs : List ResultVar) (R : Value → Hp → Prop) (e : Exit) (tm : Nat → Value) (h : Hp) : Prop :=
  (e = .normal ∨ e = .ret) ∧ ∃ vs, resL P tm h rs = some vs ∧ R (packL vs) h

theorem call_of_runs {P : Program} {f : FuncId} {fn : Func} {body : Code} {args : Array Value} {h : Hp} {R : Value → Hp → Prop} (n : Nat) (hf : P.funcs[f]? = some fn) (hb : fn.body = some body)
    (hn : args.size + (fn.ntmps - args.size) = n) (hw : Runs P n body (Done P fn.results.toList R) (fun t => args.getD t undef) h) : ∃ v h', CallOK P f args h v h' ∧ R v h' := by
  obtain ⟨e, tm', h', hc, he, vs, hv, hR⟩ := hw
  refine ⟨packL vs, h', ?_, hR⟩
  intro E base w args' hr hs hrel
  refine calls_of_wp hf hb (wp_mono (hc E base w _ hr ⟨by simp; omega, fun t => ?_, rfl⟩) ?_)
  · by_cases ht : t < args.size
    · have : (args' ++ Array.replicate (fn.ntmps - args'.size) undef).getD t undef = args'.getD t undef := by
        rw [Array.getD_eq_getD_getElem?, Array.getD_eq_getD_getElem?, Array.getElem?_append_left (by omega)]
      simp only [this]
      exact hrel t ht
    · have e1 : args.getD t undef = undef := by rw [Array.getD_eq_getD_getElem?, Array.getElem?_eq_none (by omega)]; rfl
      have e2 : (args' ++ Array.replicate (fn.ntmps - args'.size) undef).getD t undef = undef := by
        rw [Array.getD_eq_getD_getElem?, Array.getElem?_append_right (by omega)]
        by_cases hlt : t - args'.size < fn.ntmps - args'.size
        · simp [hlt]
        · rw [Array.getElem?_eq_none (by simp; omega)]; rfl
      simp only [e1, e2]
      exact VRel.undef E
  · rintro ex a' w' ⟨rfl, E', st, hr', ht'⟩
    obtain ⟨vs', g1, g2, g3⟩ := resL_rel (P := P) hr' ht' fn.results.toList vs hv
    have hres := run_results (fn := fn) g3
    have hvr := pack_rel g1 g2
    rcases he with rfl | rfl
    · exact ⟨ht'.defers, _, hres, E', _, rfl, st, hr', hvr⟩
    · exact ⟨ht'.defers, _, hres, E', _, rfl, st, hr', hvr⟩

/-! One operation by computation. -/
def loadD (P : Program) (t : TypeId) (i : Nat) : AObj → Option Value
  | .cells c _ _ _ => match aggT P t with
    | some false => if i < c.length then some (c.getD i undef) else none
    | some true => match szT P t with
      | some n => if i + n ≤ c.length then some (.agg ((c.drop i).take n).toArray) else none
      | none => none
    | none => none
  | _ => none

def storeD (P : Program) (t : TypeId) (i : Nat) (v : Value) : AObj → Option AObj
  | .cells c true ex es => match szT P t with
    | some n => if notTup v = true ∧ v.cells.size = n ∧ i + n ≤ c.length then some (.cells (putCells c i v.cells.toList) true ex es) else none
    | none => none
  | _ => none

def sliceD (P : Program) (t : TypeId) (x : Value) (lo hi : Option Operand) (tm : Nat → Value) : Option Value :=
  match x with
  | .slice (some ⟨p, i, none⟩) n c => match bnd tm 0 lo, bnd tm n hi, (elT P t).bind (szT P) with
    | some l, some r, some m => if l ≤ r ∧ r ≤ c then some (.slice (some ⟨p, i + l * m, none⟩) (r - l) (c - l)) else none
    | _, _, _ => none
  | .slice none 0 0 => match bnd tm 0 lo, bnd tm 0 hi, (elT P t).bind (szT P) with
    | some l, some r, some _ => if l = 0 ∧ r = 0 then some (.slice none 0 0) else none
    | _, _, _ => none
  | .string s => match bnd tm 0 lo, bnd tm s.size hi, P.underlying t with
    | some l, some r, some .string => if l ≤ r ∧ r ≤ s.size then some (.string (s.extract l r)) else none
    | _, _, _ => none
  | _ => none

def indexAddrD (P : Program) (t : TypeId) (x y : Value) : Option Value :=
  match x, y with
  | .slice (some ⟨p, i, none⟩) n _, .int _ j => match (elT P t).bind (szT P) with
    | some m => if 0 ≤ j ∧ j < n then some (.pointer (some ⟨p, i + j.toNat * m, none⟩)) else none
    | none => none
  | .pointer (some ⟨p, i, none⟩), .int _ j => match arT P t with
    | some (n, e) => match szT P e with
      | some m => if 0 ≤ j ∧ j < n then some (.pointer (some ⟨p, i + j.toNat * m, none⟩)) else none
      | none => none
    | none => none
  | _, _ => none

def indexD (P : Program) (t : TypeId) (x y : Value) : Option Value :=
  match x, y with
  | .agg cs, .int _ j => match arT P t with
    | some (n, e) => match szT P e, aggT P e with
      | some m, some b => if 0 ≤ j ∧ j < n ∧ m ≠ 0 ∧ j.toNat * m + m ≤ cs.size then some (partV b cs (j.toNat * m) m) else none
      | _, _ => none
    | none => none
  | .string s, .int _ j => match P.underlying t with
    | some .string => if h : 0 ≤ j ∧ j.toNat < s.size then some (.int .u8 ((s[j.toNat]'h.2).toNat : Int)) else none
    | _ => none
  | _, _ => none

def lenD (P : Program) (t : TypeId) (x : Value) : Option Value :=
  match x with
  | .slice _ n _ => match elT P t with
    | some _ => some (.int .i64 n)
    | none => none
  | .string s => match P.underlying t with
    | some .string => some (.int .i64 s.size)
    | _ => none
  | _ => none

def appendD (P : Program) (t t' : TypeId) (x y : Value) (h : Hp) : Option (Value × Hp) :=
  match elT P t with
  | none => none
  | some e => match szT P e, zeroT P e, byT P e with
    | some m, some z, some b => match srcV h m y with
      | none => none
      | some (n2, src) =>
        if srcT P t' = true ∧ z.cells.size = m ∧ b ≠ 0 then
          match x with
          | .slice none 0 0 => if n2 = 0 then some (x, h) else if n2 * b ≤ 2 ^ 47 then some (.slice (some ⟨h.next, 0, none⟩) n2 n2, h.alloc (.cells src true false m)) else none
          | .slice (some ⟨p, i, none⟩) n c =>
            if n2 = 0 then some (x, h) else
            match h.get p with
            | .cells cp own ex es =>
              if i + c * m ≤ cp.length then
                if n + n2 ≤ c then (if own = true then some (.slice (some ⟨p, i, none⟩) (n + n2) c, h.put p (.cells (putCells cp (i + n * m) src) true ex es)) else none)
                else if es = m ∧ (ex = true ∨ own = true) ∧ (n + n2) * b ≤ 2 ^ 47 then
                  some (.slice (some ⟨h.next, 0, none⟩) (n + n2) (n + n2), growHp h p ex (.cells ((cp.drop i).take (n * m) ++ src) true false m))
                else none
              else none
            | _ => none
          | _ => none
        else none
    | _, _, _ => none

def makeD (P : Program) (t : TypeId) (x y : Value) (h : Hp) : Option (Value × Hp) :=
  match x, y, elT P t with
  | .int _ n, .int _ c, some e => match szT P e, zeroT P e, byT P e with
    | some m, some z, some b => if z.cells.size = m ∧ plainV z = true ∧ notTup z = true ∧ 0 ≤ n ∧ n ≤ c ∧ c < 2 ^ 47 ∧ (b : Int) * c ≤ 2 ^ 48 then
        some (.slice (some ⟨h.next, 0, none⟩) n.toNat c.toNat, h.alloc (.cells (zcells z c.toNat) true true m)) else none
    | _, _, _ => none
  | _, _, _ => none

def convD (P : Program) (s d : TypeId) (x : Value) : Option Value :=
  match x, P.underlying s, inT P d with
  | .int _ n, some _, some k => some (.int k (k.wrap n))
  | _, _, _ => none

def binD (P : Program) (op : BinOp) (t : TypeId) (x y : Operand) (tm : Nat → Value) : Option Value :=
  match binV op (ev tm x) (ev tm y) with
  | some r => some r
  | none => if isC x = true ∨ isC y = true ∨ nIf (ev tm x) = true then
      match op with
      | .eql => (eqV P t (ev tm x) (ev tm y)).map .bool
      | .neq => (eqV P t (ev tm x) (ev tm y)).map fun b => .bool !b
      | _ => none
    else none

def builtinD (P : Program) (b : Builtin) (xs : List Operand) (ts : List TypeId) (tm : Nat → Value) (h : Hp) : Option (Value × Hp) :=
  match b, xs, ts with
  | .len, [x], [t] => if okX x then (lenD P t (ev tm x)).map fun v => (v, h) else none
  | .append, [x, y], [t, t'] => if okX x && okX y then appendD P t t' (ev tm x) (ev tm y) h else none
  | .max, [x, y], [_, _] => if okX x && okX y then match ev tm x, ev tm y with
      | .int k i, .int _ j => some (.int k (if j > i then j else i), h)
      | _, _ => none
    else none
  | .min, [x, y], [_, _] => if okX x && okX y then match ev tm x, ev tm y with
      | .int k i, .int _ j => some (.int k (if j < i then j else i), h)
      | _, _ => none
    else none
  | _, _, _ => none

/-! Maps. Keys: whole numbers, or rows of two of them. -/
def keyB : Value → Value → Bool
  | .int _ a, .int _ b => a == b
  | .agg ⟨[.int _ a, .int _ b]⟩, .agg ⟨[.int _ c, .int _ d]⟩ => a == c && b == d
  | _, _ => false
def isKey : Nat → Value → Bool
  | 1, .int .i64 _ => true
  | 2, .agg ⟨[.int .i64 _, .int .i64 _]⟩ => true
  | _, _ => false
def keyK (P : Program) (t : TypeId) : Option Nat := match P.underlying t with
  | some (.int .i64) => some 1
  | some (.array 2 e) => match P.underlying e, szT P e with
    | some (.int .i64), some 1 => some 2
    | _, _ => none
  | _ => none
def mapT (P : Program) (t : TypeId) : Option (Nat × Value) := match P.underlying t with
  | some (.map k e) => match keyK P k, zeroT P e with
    | some n, some z => some (n, z)
    | _, _ => none
  | _ => none
def mapGet : List (Value × Value) → Value → Option Value
  | [], _ => none
  | e :: es, q => if keyB e.1 q = true then some e.2 else mapGet es q
def mapPut : List (Value × Value) → Value → Value → List (Value × Value)
  | [], q, u => [(q, u)]
  | e :: es, q, u => if keyB e.1 q = true then (q, u) :: es else e :: mapPut es q u
/-- All keys are of a kind. -/
def keysOK (n : Nat) (es : List (Value × Value)) : Bool := es.all fun e => isKey n e.1
def lookupD (P : Program) (t : TypeId) (x y : Value) (ok : Bool) (h : Hp) : Option Value :=
  match x, mapT P t with
  | .map (some p), some (n, z) => match h.get p with
    | .map es => if isKey n y && keysOK n es && plainV z then
        some (if ok then .tuple #[(mapGet es y).getD z, .bool (mapGet es y).isSome] else (mapGet es y).getD z) else none
    | _ => none
  | _, _ => none
def updateD (P : Program) (t : TypeId) (x y u : Value) (h : Hp) : Option Hp :=
  match x, mapT P t with
  | .map (some p), some (n, _) => match h.get p with
    | .map es => if isKey n y && keysOK n es then some (h.put p (.map (mapPut es y u))) else none
    | _ => none
  | _, _ => none
def nilD : Value → Option Value
  | .pointer (some a) => some (.pointer (some a))
  | .func (.func f) a b => some (.func (.func f) a b)
  | _ => none

def opD (P : Program) (op : Op) (tm : Nat → Value) (h : Hp) : Option (Value × Hp) :=
  match op with
  | .move x | .assign x => if okX x then some (ev tm x, h) else none
  | .pick c x y => if okX c && okX x && okX y then match ev tm c with
      | .bool t => some (if t then ev tm x else ev tm y, h)
      | _ => none
    else none
  | .alloc e => match zeroT P e with
    | some z => if plainV z && notTup z then some (.pointer (some ⟨h.next, 0, none⟩), h.alloc (.cells z.cells.toList true true 1)) else none
    | none => none
  | .box _ x => if okX x && notTup (ev tm x) then some (.pointer (some ⟨h.next, 0, none⟩), h.alloc (.cells (ev tm x).cells.toList true true 1)) else none
  | .load t x => if okX x then match ev tm x with
      | .pointer (some ⟨p, i, none⟩) => (loadD P t i (h.get p)).map fun v => (v, h)
      | _ => none
    else none
  | .store t x y => if okX x && okX y then match ev tm x with
      | .pointer (some ⟨p, i, none⟩) => (storeD P t i (ev tm y) (h.get p)).map fun ob => (undef, h.put p ob)
      | _ => none
    else none
  | .fieldAddr s x f => if okX x then match ev tm x, fldT P s f with
      | .pointer (some ⟨p, i, none⟩), some (off, n, _) => if n ≠ 0 then some (.pointer (some ⟨p, i + off, none⟩), h) else none
      | _, _ => none
    else none
  | .field s x f => if okX x then match ev tm x, fldT P s f with
      | .agg cs, some (off, n, b) => if n ≠ 0 ∧ off + n ≤ cs.size then some (partV b cs off n, h) else none
      | _, _ => none
    else none
  | .indexAddr t x y => if okX x && okX y then (indexAddrD P t (ev tm x) (ev tm y)).map fun v => (v, h) else none
  | .index t x y => if okX x && okX y then (indexD P t (ev tm x) (ev tm y)).map fun v => (v, h) else none
  | .extract x i => if okX x then match ev tm x with
      | .tuple vs => (vs[i]?).map fun v => (v, h)
      | _ => none
    else none
  | .makeFunc fn f c => if f.all okX && c.all okX then some (.func fn (f.map (ev tm)) (c.map (ev tm)), h) else none
  | .binOp op t x y _ => if okX x && okX y then (binD P op t x y tm).map fun v => (v, h) else none
  | .unOp op _ x => if okX x then (unV op (ev tm x)).map fun v => (v, h) else none
  | .convert s d x => if okX x then (convD P s d (ev tm x)).map fun v => (v, h) else none
  | .makeSlice t x y => if okX x && okX y then makeD P t (ev tm x) (ev tm y) h else none
  | .slice t x lo hi none => if okX x && okO lo && okO hi then (sliceD P t (ev tm x) lo hi tm).map fun v => (v, h) else none
  | .build t parts => if parts.all (fun q => okX q.2) && parts.all (fun q => notTup (ev tm q.2)) then
      match zeroT P t with
      | some z => if plainV z && notTup z then
          match placesT P t with
          | some pl => (Instr.fill (pl[·]?) z.cells (parts.map fun (i, x) => (i, ev tm x)).toList).map fun r => (.agg r, h)
          | none => match arT P t with
            | some (_, e) => match szT P e with
              | some m => (Instr.fill (fun i => some (i * m, m)) z.cells (parts.map fun (i, x) => (i, ev tm x)).toList).map fun r => (.agg r, h)
              | none => none
            | none => none
        else none
      | none => none
    else none
  | .buildSlice t n parts => if parts.all (fun q => okX q.2) && parts.all (fun q => notTup (ev tm q.2)) then
      match elT P t with
      | some e => match szT P e, zeroT P e with
        | some m, some z => if plainV z && notTup z && decide (z.cells.size = m) && decide (n * m ≤ 2 ^ 24) then
            match Instr.fill (fun i => some (i * m, m)) (zarr z.cells (n * m)) (parts.map fun (i, x) => (i, ev tm x)).toList with
            | some r => if r.size = n * m then some (.slice (some ⟨h.next, 0, none⟩) n n, h.alloc (.cells r.toList true true m)) else none
            | none => none
          else none
        | _, _ => none
      | none => none
    else none
  | .call c => match c.callee with
    | .builtin b => builtinD P b c.args.toList c.argTypes.toList tm h
    | _ => none
  | .nilCheck x => if okX x then (nilD (ev tm x)).map fun v => (v, h) else none
  | .makeMap _ none => some (.map (some h.next), h.alloc (.map []))
  | .lookup t x y ok => if okX x && okX y then (lookupD P t (ev tm x) (ev tm y) ok h).map fun v => (v, h) else none
  | .mapUpdate t m k u => if okX m && okX k && okX u then (updateD P t (ev tm m) (ev tm k) (ev tm u) h).map fun h' => (undef, h') else none
  | _ => none

end Go.Eng
