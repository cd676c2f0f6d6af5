/- Walking by rewriting: one rule for each form of code. What is not due yet hides behind a witness, so simp does not look into it. Written by gen_engY.py. -/
import Derived.Test.YtnnjehonbolliaaEngZb
namespace Go.Eng
structure Wit {α : Type} (a : α) : Type where
section
variable {P : Program} {n : Nat} {tm : Nat → Value} {h : Hp} {Q : Exit → (Nat → Value) → Hp → Prop} {R : (Nat → Value) → Hp → Prop}
def WY (P : Program) (n : Nat) (c : Code) (Q : Exit → (Nat → Value) → Hp → Prop) (_ : Wit (c, Q)) (tm : Nat → Value) (h : Hp) : Prop := WD P n c Q tm h
def RY (P : Program) (n : Nat) (ops : Array Oper) (l : List Oper) (R : (Nat → Value) → Hp → Prop) (_ : Wit (ops, l, R)) (tm : Nat → Value) (h : Hp) : Prop := RunD P n ops l R tm h
def thenY (r : Option (Value × Hp)) (k : Value → Hp → Prop) (_ : Wit k) : Prop := thenX r k
def condY (v : Value) (A B : Prop) (_ : Wit (A, B)) : Prop := condX v A B
def gateY (v : Value) (w : Bool) (A B : Prop) (_ : Wit (A, B)) : Prop := gateX v w A B
def doneY (P : Program) (rs : List ResultVar) (R : Value → Hp → Prop) (_ : Wit R) (e : Exit) (tm : Nat → Value) (h : Hp) : Prop := Done P rs R e tm h
@[simp] theorem thenY_some (v : Value) (h' : Hp) (k : Value → Hp → Prop) (z : Wit k) : thenY (some (v, h')) k z = k v h' := thenX_some v h' k
@[simp] theorem condY_t (A B : Prop) (z : Wit (A, B)) : condY (.bool true) A B z = A := by simp [condY]
@[simp] theorem condY_f (A B : Prop) (z : Wit (A, B)) : condY (.bool false) A B z = B := by simp [condY]
@[simp] theorem condY_dp (p : Prop) [Decidable p] (A B : Prop) (z : Wit (A, B)) (hp : p) : condY (.bool (decide p)) A B z = A := by simp [condY, hp]
@[simp] theorem condY_dn (p : Prop) [Decidable p] (A B : Prop) (z : Wit (A, B)) (hp : ¬ p) : condY (.bool (decide p)) A B z = B := by simp [condY, hp]
@[simp] theorem condY_ep {α : Type} [BEq α] [LawfulBEq α] (a b : α) (A B : Prop) (z : Wit (A, B)) (hp : a = b) : condY (.bool (a == b)) A B z = A := by simp [condY, hp]
@[simp] theorem condY_en {α : Type} [BEq α] [LawfulBEq α] (a b : α) (A B : Prop) (z : Wit (A, B)) (hp : ¬ a = b) : condY (.bool (a == b)) A B z = B := by simp [condY, hp]
@[simp] theorem condY_np {α : Type} [BEq α] [LawfulBEq α] (a b : α) (A B : Prop) (z : Wit (A, B)) (hp : ¬ a = b) : condY (.bool (a != b)) A B z = A := by simp [condY, hp]
@[simp] theorem condY_nn {α : Type} [BEq α] [LawfulBEq α] (a b : α) (A B : Prop) (z : Wit (A, B)) (hp : a = b) : condY (.bool (a != b)) A B z = B := by simp [condY, hp]
@[simp] theorem condY_tp {α : Type} [BEq α] [LawfulBEq α] (a b : α) (A B : Prop) (z : Wit (A, B)) (hp : ¬ a = b) : condY (.bool (!(a == b))) A B z = A := by simp [condY, hp]
@[simp] theorem condY_tn {α : Type} [BEq α] [LawfulBEq α] (a b : α) (A B : Prop) (z : Wit (A, B)) (hp : a = b) : condY (.bool (!(a == b))) A B z = B := by simp [condY, hp]
@[simp] theorem gateY_ep {α : Type} [BEq α] [LawfulBEq α] (a b : α) (w : Bool) (A B : Prop) (z : Wit (A, B)) (hp : a = b) : gateY (.bool (a == b)) w A B z = if w = true then A else B := by cases w <;> simp [gateY, hp]
@[simp] theorem gateY_en {α : Type} [BEq α] [LawfulBEq α] (a b : α) (w : Bool) (A B : Prop) (z : Wit (A, B)) (hp : ¬ a = b) : gateY (.bool (a == b)) w A B z = if w = true then B else A := by cases w <;> simp [gateY, hp]
@[simp] theorem gateY_tp {α : Type} [BEq α] [LawfulBEq α] (a b : α) (w : Bool) (A B : Prop) (z : Wit (A, B)) (hp : ¬ a = b) : gateY (.bool (!(a == b))) w A B z = if w = true then A else B := by cases w <;> simp [gateY, hp]
@[simp] theorem gateY_tn {α : Type} [BEq α] [LawfulBEq α] (a b : α) (w : Bool) (A B : Prop) (z : Wit (A, B)) (hp : a = b) : gateY (.bool (!(a == b))) w A B z = if w = true then B else A := by cases w <;> simp [gateY, hp]
@[simp] theorem gateY_dp (p : Prop) [Decidable p] (w : Bool) (A B : Prop) (z : Wit (A, B)) (hp : p) : gateY (.bool (decide p)) w A B z = if w = true then A else B := by cases w <;> simp [gateY, hp]
@[simp] theorem gateY_dn (p : Prop) [Decidable p] (w : Bool) (A B : Prop) (z : Wit (A, B)) (hp : ¬ p) : gateY (.bool (decide p)) w A B z = if w = true then B else A := by cases w <;> simp [gateY, hp]
@[simp] theorem gateY_t (A B : Prop) (b : Bool) (z : Wit (A, B)) : gateY (.bool b) b A B z = A := by simp [gateY]
@[simp] theorem gateY_f (A B : Prop) (z : Wit (A, B)) : gateY (.bool false) true A B z = B := by simp [gateY]
@[simp] theorem gateY_g (A B : Prop) (z : Wit (A, B)) : gateY (.bool true) false A B z = B := by simp [gateY]
@[simp] theorem gateY_u (A B : Prop) (w : Bool) (z : Wit (A, B)) : gateY undef w A B z = B := by simp [gateY]
@[simp] theorem gateY_p (A B : Prop) (w : Bool) (c : Array Value) (z : Wit (A, B)) : gateY (.tuple c) w A B z = B := by simp [gateY]
theorem callY_P {f : FuncId} {fn : Func} {args : List Value} {v : Value} (n : Nat) (body : Code) (rs : List ResultVar) (hf : P.funcs[f]? = some fn) (hb : fn.body = some body)
    (hrs : fn.results.toList = rs) (hn : args.length + (fn.ntmps - args.length) = n) (hv : plainV v = true) (hw : WY P n body (doneY P rs (fun u h' => u = v ∧ Keeps h h') ⟨⟩) ⟨⟩ (argL args) h) : CallOK P f args.toArray h v h := call_P n body rs hf hb hrs hn hv hw
theorem callY_L {f : FuncId} {fn : Func} {args : List Value} {R : Value → Hp → Prop} (n : Nat) (body : Code) (rs : List ResultVar) (hf : P.funcs[f]? = some fn) (hb : fn.body = some body)
    (hrs : fn.results.toList = rs) (hn : args.length + (fn.ntmps - args.length) = n) (hw : WY P n body (doneY P rs R ⟨⟩) ⟨⟩ (argL args) h) : ∃ v h', CallOK P f args.toArray h v h' ∧ R v h' := call_L n body rs hf hb hrs hn hw

/-- What follows in a sequence. -/
def seqK (P : Program) (n : Nat) (y : Code) (Q : Exit → (Nat → Value) → Hp → Prop) : Exit → (Nat → Value) → Hp → Prop
  | .normal, tm, h => WY P n y Q ⟨⟩ tm h
  | e, tm, h => Q e tm h
@[simp ↓] theorem seqK_n (y : Code) : seqK P n y Q .normal tm h = WY P n y Q ⟨⟩ tm h := rfl
@[simp ↓] theorem seqK_r (y : Code) : seqK P n y Q .ret tm h = Q .ret tm h := rfl
@[simp ↓] theorem seqK_x (y : Code) (i : Nat) : seqK P n y Q (.exit i) tm h = Q (.exit i) tm h := rfl
theorem wd_seq' (x y : Code) : WD P n (.seq x y) Q tm h = WD P n x (seqK P n y Q) tm h := by
  show WD P n x _ tm h = _
  congr 1
  funext e tm h
  cases e <;> rfl
@[simp ↓] theorem wd_seq (x y : Code) {z : Wit _} : WY P n (.seq x y) Q z tm h = WY P n x (seqK P n y Q) ⟨⟩ tm h := wd_seq' x y
@[simp ↓] theorem wd_block (i : Nat) (c : Code) {z : Wit _} : WY P n (.block i c) Q z tm h = WY P n c (inBlk i Q) ⟨⟩ tm h := rfl
@[simp ↓] theorem inBlk_n (i : Nat) : inBlk i Q .normal tm h = Q .normal tm h := rfl
@[simp ↓] theorem inBlk_r (i : Nat) : inBlk i Q .ret tm h = Q .ret tm h := rfl
@[simp ↓] theorem inBlk_x (i : Nat) : inBlk i Q (.exit i) tm h = Q .normal tm h := by simp [inBlk]
@[simp ↓] theorem inBlk_y (i j : Nat) (hj : ¬ j = i) : inBlk i Q (.exit j) tm h = Q (.exit j) tm h := by simp [inBlk, hj]
@[simp ↓] theorem wd_skip {z : Wit _} : WY P n .skip Q z tm h = Q .normal tm h := rfl
@[simp ↓] theorem wd_ret {z : Wit _} : WY P n .ret Q z tm h = Q .ret tm h := rfl
@[simp ↓] theorem wd_exit (i : Nat) {z : Wit _} : WY P n (.exit i) Q z tm h = Q (.exit i) tm h := rfl
@[simp ↓] theorem wd_region (i : Nat) (l : List Oper) {z : Wit _} : WY P n (.region i (List.toArray l) false) Q z tm h = RY P n (List.toArray l) l (Q .normal) ⟨⟩ tm h := rfl
@[simp ↓] theorem wd_cond (c : Operand) (x y : Code) {z : Wit _} : WY P n (.cond c x y) Q z tm h = (okX c = true ∧ condY (ev tm c) (WY P n x Q ⟨⟩ tm h) (WY P n y Q ⟨⟩ tm h) ⟨⟩) := by
  apply propext
  constructor
  · rintro ⟨h1, b, h2, h3, h4⟩
    refine ⟨h1, ?_⟩
    cases b
    · exact .inr ⟨h2, h4 rfl⟩
    · exact .inl ⟨h2, h3 rfl⟩
  · rintro ⟨h1, h2 | h2⟩
    · exact ⟨h1, true, h2.1, fun _ => h2.2, fun e => by cases e⟩
    · exact ⟨h1, false, h2.1, (fun e => by cases e), fun _ => h2.2⟩
@[simp ↓] theorem runD_nil (ops : Array Oper) {z : Wit _} : RY P n ops [] R z tm h = R tm h := rfl

/-- What follows an operation. -/
def runK (P : Program) (n : Nat) (ops : Array Oper) (l : List Oper) (R : (Nat → Value) → Hp → Prop) (tm : Nat → Value) (d : Nat) : Value → Hp → Prop := fun v h => RY P n ops l R ⟨⟩ (upd tm d v) h
def runS (P : Program) (n : Nat) (ops : Array Oper) (l : List Oper) (R : (Nat → Value) → Hp → Prop) (tm : Nat → Value) : Value → Hp → Prop := fun _ h => RY P n ops l R ⟨⟩ tm h
@[simp ↓] theorem runK_app (ops : Array Oper) (l : List Oper) (d : Nat) (v : Value) : runK P n ops l R tm d v h = RY P n ops l R ⟨⟩ (upd tm d v) h := rfl
@[simp ↓] theorem runS_app (ops : Array Oper) (l : List Oper) (v : Value) : runS P n ops l R tm v h = RY P n ops l R ⟨⟩ tm h := rfl
/-- A call that is due. -/
def callG (P : Program) (n : Nat) (ops : Array Oper) (fx : Operand) (xs : Array Operand) (l : List Oper) (R : (Nat → Value) → Hp → Prop) (_ : Wit (ops, fx, xs, l, R)) (tm : Nat → Value) (d : Nat) (h : Hp) : Prop :=
  okX fx = true ∧ xs.all okX = true ∧ match ev tm fx with
    | .func (.func f) fst cap => fnOK P f = true ∧ ∃ v h', CallOK P f (fst ++ xs.map (ev tm) ++ cap) h v h' ∧ RunD P n ops l R (upd tm d v) h'
    | _ => False
theorem callG_c {ops : Array Oper} {l : List Oper} {d : Nat} {f : FuncId} {xs : Array Operand} {z : Wit _} {args : Array Value} {v : Value} {h' : Hp} (h2 : xs.all okX = true) (h4 : fnOK P f = true) (ha : xs.map (ev tm) = args) (hc : CallOK P f args h v h')
    (hr : RY P n ops l R ⟨⟩ (upd tm d v) h') : callG P n ops (.func f) xs l R z tm d h :=
  ⟨rfl, h2, h4, v, h', by rw [ha]; simpa using hc, hr⟩
theorem callG_f {ops : Array Oper} {l : List Oper} {d : Nat} {f : FuncId} {fx : Operand} {fst cap : Array Value} {xs : Array Operand} {z : Wit _} {args : Array Value} {v : Value} {h' : Hp} (hx : okX fx = true) (h2 : xs.all okX = true) (h3 : ev tm fx = .func (.func f) fst cap) (h4 : fnOK P f = true)
    (ha : fst ++ xs.map (ev tm) ++ cap = args) (hc : CallOK P f args h v h') (hr : RY P n ops l R ⟨⟩ (upd tm d v) h') : callG P n ops fx xs l R z tm d h := by
  refine ⟨hx, h2, ?_⟩
  rw [h3]
  exact ⟨h4, v, h', by rw [ha]; exact hc, hr⟩

/-- The slot of a guard. -/
def gsl (l : List Oper) (j : Nat) : Option Nat := (l[j]?).bind (·.dst)
@[simp ↓] theorem gsl_0 (o : Oper) (l : List Oper) : gsl (o :: l) 0 = o.dst := rfl
@[simp ↓] theorem gsl_s (o : Oper) (l : List Oper) (j : Nat) : gsl (o :: l) (j + 1) = gsl l j := by simp [gsl]
def gateO (n : Nat) (g : Option Nat) (tm : Nat → Value) (w : Bool) (A B : Prop) (_ : Wit (A, B)) : Prop := match g with
  | some g => g < n ∧ gateX (tm g) w A B
  | none => False
@[simp] theorem gateO_some (g : Nat) (w : Bool) (A B : Prop) {z : Wit _} : gateO n (some g) tm w A B z = (g < n ∧ gateY (tm g) w A B ⟨⟩) := rfl

theorem gate_eq (n : Nat) (g : Option Nat) (tm : Nat → Value) (w : Bool) (A B : Prop) : ((match g with | some d => decide (d < n) | none => false) = true ∧ (match (match g with | some d => (match tm d with | .bool b => some (b == w) | .tuple _ => some false | _ => none) | none => none) with
    | none => False | some false => B | some true => A)) = gateO n g tm w A B ⟨⟩ := by
  cases g with
  | none => simp [gateO]
  | some d =>
    simp only [gateO, decide_eq_true_eq]
    congr 1
    cases hv : tm d with
    | bool b => cases b <;> cases w <;> simp [gateX]
    | tuple c => simp [gateX]
    | _ => simp [gateX]

def stepA (P : Program) (n : Nat) (ops : Array Oper) (op : Op) (l : List Oper) (R : (Nat → Value) → Hp → Prop) (tm : Nat → Value) (d : Nat) (h : Hp) : Prop := match op with
  | .call ⟨.value fx, xs, _⟩ => callG P n ops fx xs l R ⟨⟩ tm d h
  | op => thenY (opD P op tm h) (runK P n ops l R tm d) ⟨⟩
variable {ops : Array Oper} {L : List Oper} {op : Op} {ty : TypeId} {pos : String} {aft : Array Edge} {l : List Oper} {d j p : Nat} {w : Bool}
theorem stepA_op (hc : callV op = false) : stepA P n ops op l R tm d h = thenY (opD P op tm h) (runK P n ops l R tm d) ⟨⟩ := by
  unfold stepA
  split
  · simp [callV] at hc
  · rfl
theorem runD_match : (match op with
      | .call ⟨.value fx, xs, _⟩ => okX fx = true ∧ xs.all okX = true ∧ match ev tm fx with
          | .func (.func f) fst cap => fnOK P f = true ∧ ∃ v h', CallOK P f (fst ++ xs.map (ev tm) ++ cap) h v h' ∧ RunD P n ops l R (updO tm (some d) v) h'
          | _ => False
      | op => match opD P op tm h with
        | some (v, h') => RunD P n ops l R (updO tm (some d) v) h'
        | none => False) = stepA P n ops op l R tm d h := by
  unfold stepA
  split
  · rfl
  · cases ho : opD P op tm h with
    | none => simp [thenY]
    | some q =>
      obtain ⟨v, h'⟩ := q
      rw [thenY_some]; rfl
theorem runD_u {z : Wit _} : RY P n ops (⟨some d, op, ty, pos, aft, none⟩ :: l) R z tm h = (d < n ∧ stepA P n ops op l R tm d h) := by
  rw [← runD_match]
  simp only [RY, RunD, dstOK, guardOK, wantA, decide_eq_true_eq, true_and]
  rfl
theorem runD_g {z : Wit _} : RY P n (List.toArray L) (⟨some d, op, ty, pos, aft, some (j, w)⟩ :: l) R z tm h = (d < n ∧ gateO n (gsl L j) tm w (stepA P n (List.toArray L) op l R tm d h) (RY P n (List.toArray L) l R ⟨⟩ (upd tm d undef) h) ⟨⟩) := by
  rw [← gate_eq, ← runD_match]
  simp only [RY, RunD, dstOK, guardOK, wantA, decide_eq_true_eq, gsl, List.getElem?_toArray]
  rfl
theorem ru (hc : callV op = false) {z : Wit _} : RY P n ops (⟨some d, op, ty, pos, aft, none⟩ :: l) R z tm h = (d < n ∧ thenY (opD P op tm h) (runK P n ops l R tm d) ⟨⟩) := by rw [runD_u, stepA_op hc]
theorem rg (hc : callV op = false) {z : Wit _} : RY P n (List.toArray L) (⟨some d, op, ty, pos, aft, some (j, w)⟩ :: l) R z tm h = (d < n ∧ gateO n (gsl L j) tm w (thenY (opD P op tm h) (runK P n (List.toArray L) l R tm d) ⟨⟩) (RY P n (List.toArray L) l R ⟨⟩ (upd tm d undef) h) ⟨⟩) := by rw [runD_g, stepA_op hc]
theorem rs (hc : callV op = false) {z : Wit _} : RY P n ops (⟨none, op, ty, pos, aft, none⟩ :: l) R z tm h = thenY (opD P op tm h) (runS P n ops l R tm) ⟨⟩ := by
  simp only [RY, RunD, dstOK, guardOK, wantA, true_and]
  split
  · simp [callV] at hc
  · cases ho : opD P op tm h with
    | none => simp [thenY]
    | some q =>
      obtain ⟨v, h'⟩ := q
      rw [thenY_some]; rfl
@[simp ↓] theorem ru_move {x} {z : Wit _} : RY P n ops (⟨some d, .move x, ty, pos, aft, none⟩ :: l) R z tm h = (d < n ∧ thenY (opD P (.move x) tm h) (runK P n ops l R tm d) ⟨⟩) := ru rfl
@[simp ↓] theorem rg_move {x} {z : Wit _} : RY P n (List.toArray L) (⟨some d, .move x, ty, pos, aft, some (j, w)⟩ :: l) R z tm h = (d < n ∧ gateO n (gsl L j) tm w (thenY (opD P (.move x) tm h) (runK P n (List.toArray L) l R tm d) ⟨⟩) (RY P n (List.toArray L) l R ⟨⟩ (upd tm d undef) h) ⟨⟩) := rg rfl
@[simp ↓] theorem ru_assign {x} {z : Wit _} : RY P n ops (⟨some d, .assign x, ty, pos, aft, none⟩ :: l) R z tm h = (d < n ∧ thenY (opD P (.assign x) tm h) (runK P n ops l R tm d) ⟨⟩) := ru rfl
@[simp ↓] theorem rg_assign {x} {z : Wit _} : RY P n (List.toArray L) (⟨some d, .assign x, ty, pos, aft, some (j, w)⟩ :: l) R z tm h = (d < n ∧ gateO n (gsl L j) tm w (thenY (opD P (.assign x) tm h) (runK P n (List.toArray L) l R tm d) ⟨⟩) (RY P n (List.toArray L) l R ⟨⟩ (upd tm d undef) h) ⟨⟩) := rg rfl
@[simp ↓] theorem ru_pick {c x y} {z : Wit _} : RY P n ops (⟨some d, .pick c x y, ty, pos, aft, none⟩ :: l) R z tm h = (d < n ∧ thenY (opD P (.pick c x y) tm h) (runK P n ops l R tm d) ⟨⟩) := ru rfl
@[simp ↓] theorem rg_pick {c x y} {z : Wit _} : RY P n (List.toArray L) (⟨some d, .pick c x y, ty, pos, aft, some (j, w)⟩ :: l) R z tm h = (d < n ∧ gateO n (gsl L j) tm w (thenY (opD P (.pick c x y) tm h) (runK P n (List.toArray L) l R tm d) ⟨⟩) (RY P n (List.toArray L) l R ⟨⟩ (upd tm d undef) h) ⟨⟩) := rg rfl
@[simp ↓] theorem ru_alloc {e} {z : Wit _} : RY P n ops (⟨some d, .alloc e, ty, pos, aft, none⟩ :: l) R z tm h = (d < n ∧ thenY (opD P (.alloc e) tm h) (runK P n ops l R tm d) ⟨⟩) := ru rfl
@[simp ↓] theorem rg_alloc {e} {z : Wit _} : RY P n (List.toArray L) (⟨some d, .alloc e, ty, pos, aft, some (j, w)⟩ :: l) R z tm h = (d < n ∧ gateO n (gsl L j) tm w (thenY (opD P (.alloc e) tm h) (runK P n (List.toArray L) l R tm d) ⟨⟩) (RY P n (List.toArray L) l R ⟨⟩ (upd tm d undef) h) ⟨⟩) := rg rfl
@[simp ↓] theorem ru_box {e x} {z : Wit _} : RY P n ops (⟨some d, .box e x, ty, pos, aft, none⟩ :: l) R z tm h = (d < n ∧ thenY (opD P (.box e x) tm h) (runK P n ops l R tm d) ⟨⟩) := ru rfl
@[simp ↓] theorem rg_box {e x} {z : Wit _} : RY P n (List.toArray L) (⟨some d, .box e x, ty, pos, aft, some (j, w)⟩ :: l) R z tm h = (d < n ∧ gateO n (gsl L j) tm w (thenY (opD P (.box e x) tm h) (runK P n (List.toArray L) l R tm d) ⟨⟩) (RY P n (List.toArray L) l R ⟨⟩ (upd tm d undef) h) ⟨⟩) := rg rfl
@[simp ↓] theorem ru_load {t x} {z : Wit _} : RY P n ops (⟨some d, .load t x, ty, pos, aft, none⟩ :: l) R z tm h = (d < n ∧ thenY (opD P (.load t x) tm h) (runK P n ops l R tm d) ⟨⟩) := ru rfl
@[simp ↓] theorem rg_load {t x} {z : Wit _} : RY P n (List.toArray L) (⟨some d, .load t x, ty, pos, aft, some (j, w)⟩ :: l) R z tm h = (d < n ∧ gateO n (gsl L j) tm w (thenY (opD P (.load t x) tm h) (runK P n (List.toArray L) l R tm d) ⟨⟩) (RY P n (List.toArray L) l R ⟨⟩ (upd tm d undef) h) ⟨⟩) := rg rfl
@[simp ↓] theorem ru_fieldAddr {s x f} {z : Wit _} : RY P n ops (⟨some d, .fieldAddr s x f, ty, pos, aft, none⟩ :: l) R z tm h = (d < n ∧ thenY (opD P (.fieldAddr s x f) tm h) (runK P n ops l R tm d) ⟨⟩) := ru rfl
@[simp ↓] theorem rg_fieldAddr {s x f} {z : Wit _} : RY P n (List.toArray L) (⟨some d, .fieldAddr s x f, ty, pos, aft, some (j, w)⟩ :: l) R z tm h = (d < n ∧ gateO n (gsl L j) tm w (thenY (opD P (.fieldAddr s x f) tm h) (runK P n (List.toArray L) l R tm d) ⟨⟩) (RY P n (List.toArray L) l R ⟨⟩ (upd tm d undef) h) ⟨⟩) := rg rfl
@[simp ↓] theorem ru_field {s x f} {z : Wit _} : RY P n ops (⟨some d, .field s x f, ty, pos, aft, none⟩ :: l) R z tm h = (d < n ∧ thenY (opD P (.field s x f) tm h) (runK P n ops l R tm d) ⟨⟩) := ru rfl
@[simp ↓] theorem rg_field {s x f} {z : Wit _} : RY P n (List.toArray L) (⟨some d, .field s x f, ty, pos, aft, some (j, w)⟩ :: l) R z tm h = (d < n ∧ gateO n (gsl L j) tm w (thenY (opD P (.field s x f) tm h) (runK P n (List.toArray L) l R tm d) ⟨⟩) (RY P n (List.toArray L) l R ⟨⟩ (upd tm d undef) h) ⟨⟩) := rg rfl
@[simp ↓] theorem ru_indexAddr {t x y} {z : Wit _} : RY P n ops (⟨some d, .indexAddr t x y, ty, pos, aft, none⟩ :: l) R z tm h = (d < n ∧ thenY (opD P (.indexAddr t x y) tm h) (runK P n ops l R tm d) ⟨⟩) := ru rfl
@[simp ↓] theorem rg_indexAddr {t x y} {z : Wit _} : RY P n (List.toArray L) (⟨some d, .indexAddr t x y, ty, pos, aft, some (j, w)⟩ :: l) R z tm h = (d < n ∧ gateO n (gsl L j) tm w (thenY (opD P (.indexAddr t x y) tm h) (runK P n (List.toArray L) l R tm d) ⟨⟩) (RY P n (List.toArray L) l R ⟨⟩ (upd tm d undef) h) ⟨⟩) := rg rfl
@[simp ↓] theorem ru_index {t x y} {z : Wit _} : RY P n ops (⟨some d, .index t x y, ty, pos, aft, none⟩ :: l) R z tm h = (d < n ∧ thenY (opD P (.index t x y) tm h) (runK P n ops l R tm d) ⟨⟩) := ru rfl
@[simp ↓] theorem rg_index {t x y} {z : Wit _} : RY P n (List.toArray L) (⟨some d, .index t x y, ty, pos, aft, some (j, w)⟩ :: l) R z tm h = (d < n ∧ gateO n (gsl L j) tm w (thenY (opD P (.index t x y) tm h) (runK P n (List.toArray L) l R tm d) ⟨⟩) (RY P n (List.toArray L) l R ⟨⟩ (upd tm d undef) h) ⟨⟩) := rg rfl
@[simp ↓] theorem ru_extract {x i} {z : Wit _} : RY P n ops (⟨some d, .extract x i, ty, pos, aft, none⟩ :: l) R z tm h = (d < n ∧ thenY (opD P (.extract x i) tm h) (runK P n ops l R tm d) ⟨⟩) := ru rfl
@[simp ↓] theorem rg_extract {x i} {z : Wit _} : RY P n (List.toArray L) (⟨some d, .extract x i, ty, pos, aft, some (j, w)⟩ :: l) R z tm h = (d < n ∧ gateO n (gsl L j) tm w (thenY (opD P (.extract x i) tm h) (runK P n (List.toArray L) l R tm d) ⟨⟩) (RY P n (List.toArray L) l R ⟨⟩ (upd tm d undef) h) ⟨⟩) := rg rfl
@[simp ↓] theorem ru_makeFunc {fn f c} {z : Wit _} : RY P n ops (⟨some d, .makeFunc fn f c, ty, pos, aft, none⟩ :: l) R z tm h = (d < n ∧ thenY (opD P (.makeFunc fn f c) tm h) (runK P n ops l R tm d) ⟨⟩) := ru rfl
@[simp ↓] theorem rg_makeFunc {fn f c} {z : Wit _} : RY P n (List.toArray L) (⟨some d, .makeFunc fn f c, ty, pos, aft, some (j, w)⟩ :: l) R z tm h = (d < n ∧ gateO n (gsl L j) tm w (thenY (opD P (.makeFunc fn f c) tm h) (runK P n (List.toArray L) l R tm d) ⟨⟩) (RY P n (List.toArray L) l R ⟨⟩ (upd tm d undef) h) ⟨⟩) := rg rfl
@[simp ↓] theorem ru_binOp {b t x y t2} {z : Wit _} : RY P n ops (⟨some d, .binOp b t x y t2, ty, pos, aft, none⟩ :: l) R z tm h = (d < n ∧ thenY (opD P (.binOp b t x y t2) tm h) (runK P n ops l R tm d) ⟨⟩) := ru rfl
@[simp ↓] theorem rg_binOp {b t x y t2} {z : Wit _} : RY P n (List.toArray L) (⟨some d, .binOp b t x y t2, ty, pos, aft, some (j, w)⟩ :: l) R z tm h = (d < n ∧ gateO n (gsl L j) tm w (thenY (opD P (.binOp b t x y t2) tm h) (runK P n (List.toArray L) l R tm d) ⟨⟩) (RY P n (List.toArray L) l R ⟨⟩ (upd tm d undef) h) ⟨⟩) := rg rfl
@[simp ↓] theorem ru_unOp {u t x} {z : Wit _} : RY P n ops (⟨some d, .unOp u t x, ty, pos, aft, none⟩ :: l) R z tm h = (d < n ∧ thenY (opD P (.unOp u t x) tm h) (runK P n ops l R tm d) ⟨⟩) := ru rfl
@[simp ↓] theorem rg_unOp {u t x} {z : Wit _} : RY P n (List.toArray L) (⟨some d, .unOp u t x, ty, pos, aft, some (j, w)⟩ :: l) R z tm h = (d < n ∧ gateO n (gsl L j) tm w (thenY (opD P (.unOp u t x) tm h) (runK P n (List.toArray L) l R tm d) ⟨⟩) (RY P n (List.toArray L) l R ⟨⟩ (upd tm d undef) h) ⟨⟩) := rg rfl
@[simp ↓] theorem ru_convert {s e x} {z : Wit _} : RY P n ops (⟨some d, .convert s e x, ty, pos, aft, none⟩ :: l) R z tm h = (d < n ∧ thenY (opD P (.convert s e x) tm h) (runK P n ops l R tm d) ⟨⟩) := ru rfl
@[simp ↓] theorem rg_convert {s e x} {z : Wit _} : RY P n (List.toArray L) (⟨some d, .convert s e x, ty, pos, aft, some (j, w)⟩ :: l) R z tm h = (d < n ∧ gateO n (gsl L j) tm w (thenY (opD P (.convert s e x) tm h) (runK P n (List.toArray L) l R tm d) ⟨⟩) (RY P n (List.toArray L) l R ⟨⟩ (upd tm d undef) h) ⟨⟩) := rg rfl
@[simp ↓] theorem ru_makeSlice {t x y} {z : Wit _} : RY P n ops (⟨some d, .makeSlice t x y, ty, pos, aft, none⟩ :: l) R z tm h = (d < n ∧ thenY (opD P (.makeSlice t x y) tm h) (runK P n ops l R tm d) ⟨⟩) := ru rfl
@[simp ↓] theorem rg_makeSlice {t x y} {z : Wit _} : RY P n (List.toArray L) (⟨some d, .makeSlice t x y, ty, pos, aft, some (j, w)⟩ :: l) R z tm h = (d < n ∧ gateO n (gsl L j) tm w (thenY (opD P (.makeSlice t x y) tm h) (runK P n (List.toArray L) l R tm d) ⟨⟩) (RY P n (List.toArray L) l R ⟨⟩ (upd tm d undef) h) ⟨⟩) := rg rfl
@[simp ↓] theorem ru_slice {t x lo hi mx} {z : Wit _} : RY P n ops (⟨some d, .slice t x lo hi mx, ty, pos, aft, none⟩ :: l) R z tm h = (d < n ∧ thenY (opD P (.slice t x lo hi mx) tm h) (runK P n ops l R tm d) ⟨⟩) := ru rfl
@[simp ↓] theorem rg_slice {t x lo hi mx} {z : Wit _} : RY P n (List.toArray L) (⟨some d, .slice t x lo hi mx, ty, pos, aft, some (j, w)⟩ :: l) R z tm h = (d < n ∧ gateO n (gsl L j) tm w (thenY (opD P (.slice t x lo hi mx) tm h) (runK P n (List.toArray L) l R tm d) ⟨⟩) (RY P n (List.toArray L) l R ⟨⟩ (upd tm d undef) h) ⟨⟩) := rg rfl
@[simp ↓] theorem ru_build {t ps} {z : Wit _} : RY P n ops (⟨some d, .build t ps, ty, pos, aft, none⟩ :: l) R z tm h = (d < n ∧ thenY (opD P (.build t ps) tm h) (runK P n ops l R tm d) ⟨⟩) := ru rfl
@[simp ↓] theorem rg_build {t ps} {z : Wit _} : RY P n (List.toArray L) (⟨some d, .build t ps, ty, pos, aft, some (j, w)⟩ :: l) R z tm h = (d < n ∧ gateO n (gsl L j) tm w (thenY (opD P (.build t ps) tm h) (runK P n (List.toArray L) l R tm d) ⟨⟩) (RY P n (List.toArray L) l R ⟨⟩ (upd tm d undef) h) ⟨⟩) := rg rfl
@[simp ↓] theorem ru_buildSlice {t m ps} {z : Wit _} : RY P n ops (⟨some d, .buildSlice t m ps, ty, pos, aft, none⟩ :: l) R z tm h = (d < n ∧ thenY (opD P (.buildSlice t m ps) tm h) (runK P n ops l R tm d) ⟨⟩) := ru rfl
@[simp ↓] theorem rg_buildSlice {t m ps} {z : Wit _} : RY P n (List.toArray L) (⟨some d, .buildSlice t m ps, ty, pos, aft, some (j, w)⟩ :: l) R z tm h = (d < n ∧ gateO n (gsl L j) tm w (thenY (opD P (.buildSlice t m ps) tm h) (runK P n (List.toArray L) l R tm d) ⟨⟩) (RY P n (List.toArray L) l R ⟨⟩ (upd tm d undef) h) ⟨⟩) := rg rfl
@[simp ↓] theorem ru_nilCheck {x} {z : Wit _} : RY P n ops (⟨some d, .nilCheck x, ty, pos, aft, none⟩ :: l) R z tm h = (d < n ∧ thenY (opD P (.nilCheck x) tm h) (runK P n ops l R tm d) ⟨⟩) := ru rfl
@[simp ↓] theorem rg_nilCheck {x} {z : Wit _} : RY P n (List.toArray L) (⟨some d, .nilCheck x, ty, pos, aft, some (j, w)⟩ :: l) R z tm h = (d < n ∧ gateO n (gsl L j) tm w (thenY (opD P (.nilCheck x) tm h) (runK P n (List.toArray L) l R tm d) ⟨⟩) (RY P n (List.toArray L) l R ⟨⟩ (upd tm d undef) h) ⟨⟩) := rg rfl
@[simp ↓] theorem ru_makeMap {t r} {z : Wit _} : RY P n ops (⟨some d, .makeMap t r, ty, pos, aft, none⟩ :: l) R z tm h = (d < n ∧ thenY (opD P (.makeMap t r) tm h) (runK P n ops l R tm d) ⟨⟩) := ru rfl
@[simp ↓] theorem rg_makeMap {t r} {z : Wit _} : RY P n (List.toArray L) (⟨some d, .makeMap t r, ty, pos, aft, some (j, w)⟩ :: l) R z tm h = (d < n ∧ gateO n (gsl L j) tm w (thenY (opD P (.makeMap t r) tm h) (runK P n (List.toArray L) l R tm d) ⟨⟩) (RY P n (List.toArray L) l R ⟨⟩ (upd tm d undef) h) ⟨⟩) := rg rfl
@[simp ↓] theorem ru_lookup {t x y ok} {z : Wit _} : RY P n ops (⟨some d, .lookup t x y ok, ty, pos, aft, none⟩ :: l) R z tm h = (d < n ∧ thenY (opD P (.lookup t x y ok) tm h) (runK P n ops l R tm d) ⟨⟩) := ru rfl
@[simp ↓] theorem rg_lookup {t x y ok} {z : Wit _} : RY P n (List.toArray L) (⟨some d, .lookup t x y ok, ty, pos, aft, some (j, w)⟩ :: l) R z tm h = (d < n ∧ gateO n (gsl L j) tm w (thenY (opD P (.lookup t x y ok) tm h) (runK P n (List.toArray L) l R tm d) ⟨⟩) (RY P n (List.toArray L) l R ⟨⟩ (upd tm d undef) h) ⟨⟩) := rg rfl
@[simp ↓] theorem ru_bi {b xs ts} {z : Wit _} : RY P n ops (⟨some d, .call ⟨.builtin b, xs, ts⟩, ty, pos, aft, none⟩ :: l) R z tm h = (d < n ∧ thenY (opD P (.call ⟨.builtin b, xs, ts⟩) tm h) (runK P n ops l R tm d) ⟨⟩) := ru rfl
@[simp ↓] theorem rg_bi {b xs ts} {z : Wit _} : RY P n (List.toArray L) (⟨some d, .call ⟨.builtin b, xs, ts⟩, ty, pos, aft, some (j, w)⟩ :: l) R z tm h = (d < n ∧ gateO n (gsl L j) tm w (thenY (opD P (.call ⟨.builtin b, xs, ts⟩) tm h) (runK P n (List.toArray L) l R tm d) ⟨⟩) (RY P n (List.toArray L) l R ⟨⟩ (upd tm d undef) h) ⟨⟩) := rg rfl
@[simp ↓] theorem rs_store {t x y} {z : Wit _} : RY P n ops (⟨none, .store t x y, ty, pos, aft, none⟩ :: l) R z tm h = thenY (opD P (.store t x y) tm h) (runS P n ops l R tm) ⟨⟩ := rs rfl
@[simp ↓] theorem rs_mapUpdate {t x y u} {z : Wit _} : RY P n ops (⟨none, .mapUpdate t x y u, ty, pos, aft, none⟩ :: l) R z tm h = thenY (opD P (.mapUpdate t x y u) tm h) (runS P n ops l R tm) ⟨⟩ := rs rfl
@[simp ↓] theorem ru_call {fx xs ts} {z : Wit _} : RY P n ops (⟨some d, .call ⟨.value fx, xs, ts⟩, ty, pos, aft, none⟩ :: l) R z tm h = (d < n ∧ callG P n ops fx xs l R ⟨⟩ tm d h) := runD_u
@[simp ↓] theorem rg_call {fx xs ts} {z : Wit _} : RY P n (List.toArray L) (⟨some d, .call ⟨.value fx, xs, ts⟩, ty, pos, aft, some (j, w)⟩ :: l) R z tm h = (d < n ∧ gateO n (gsl L j) tm w (callG P n (List.toArray L) fx xs l R ⟨⟩ tm d h) (RY P n (List.toArray L) l R ⟨⟩ (upd tm d undef) h) ⟨⟩) := runD_g

/-- The first operations of a drawn region, by computation. -/
def PreC (P : Program) (n : Nat) (ops : Array Oper) : Nat → List Oper → ((Nat → Value) → Hp → Prop) → (Nat → Value) → Hp → Prop
  | 0, l, R, tm, h => RunD P n ops l R tm h
  | _ + 1, [], R, tm, h => R tm h
  | p + 1, o :: l, R, tm, h => dstOK n o.dst = true ∧ guardOK n ops o = true ∧
    match wantA ops tm o with
    | none => False
    | some false => PreC P n ops p l R (updO tm o.dst undef) h
    | some true => match o.op with
      | .call ⟨.value fx, xs, _⟩ => okX fx = true ∧ xs.all okX = true ∧ match ev tm fx with
          | .func (.func f) fst cap => fnOK P f = true ∧ ∃ v h', CallOK P f (fst ++ xs.map (ev tm) ++ cap) h v h' ∧ Adds h h' ∧ PreC P n ops p l R (updO tm o.dst v) h'
          | _ => False
      | op => match opD P op tm h with
        | some (v, h') => Adds h h' ∧ PreC P n ops p l R (updO tm o.dst v) h'
        | none => False
theorem PreC.pre {ops : Array Oper} {R : (Nat → Value) → Hp → Prop} : ∀ (p : Nat) (l : List Oper) (tm : Nat → Value) (h : Hp), PreC P n ops p l R tm h → PreD P n ops (l.take p) (fun tm h => RunD P n ops (l.drop p) R tm h) tm h
  | 0, l, tm, h, hp => hp
  | p + 1, [], tm, h, hp => hp
  | p + 1, o :: l, tm, h, ⟨h1, h2, h3⟩ => by
    refine ⟨h1, h2, ?_⟩
    cases hw : wantA ops tm o with
    | none => rw [hw] at h3; exact h3.elim
    | some b =>
      rw [hw] at h3
      cases b with
      | false => exact .inr ⟨rfl, PreC.pre p l _ _ h3⟩
      | true =>
        left
        refine ⟨rfl, ?_⟩
        simp only at h3
        split at h3
        · rename_i fx xs ts heq
          obtain ⟨h4, h5, h6⟩ := h3
          split at h6
          · rename_i f fst cap hf
            obtain ⟨h7, v, h', h8, h9, h10⟩ := h6
            exact ⟨v, h', ok_call heq hf h4 h5 h7 h8, h9, PreC.pre p l _ _ h10⟩
          · exact h6.elim
        · split at h3
          · rename_i v h' hv
            exact ⟨v, h', opD_sound hv, h3.1, PreC.pre p l _ _ h3.2⟩
          · exact h3.elim
theorem preD_mono {ops : Array Oper} : ∀ (l : List Oper) (R R' : (Nat → Value) → Hp → Prop), (∀ tm h, R tm h → R' tm h) → ∀ tm h, PreD P n ops l R tm h → PreD P n ops l R' tm h := by
  intro l R R' hRR
  induction l with
  | nil => exact fun tm h hq => hRR _ _ hq
  | cons o rest ih =>
    rintro tm h ⟨h1, h2, h3⟩
    refine ⟨h1, h2, h3.imp ?_ ?_⟩
    · rintro ⟨hw, v, h', hok, ha, hp⟩; exact ⟨hw, v, h', hok, ha, ih _ _ hp⟩
    · rintro ⟨hw, hp⟩; exact ⟨hw, ih _ _ hp⟩
def PY (P : Program) (n : Nat) (ops : Array Oper) (p : Nat) (l : List Oper) (R : (Nat → Value) → Hp → Prop) (_ : Wit (ops, l, R)) (tm : Nat → Value) (h : Hp) : Prop := PreC P n ops p l R tm h
theorem WD_drawC {id : Nat} (p : Nat) (hm : P.follows .mixedOrders = true) (hd : drawOK (List.toArray l) p = true) {z : Wit _} (hq : PY P n (List.toArray l) p l (Q .normal) ⟨⟩ tm h) : WY P n (.region id (List.toArray l) true) Q z tm h :=
  WD_draw p hm hd fun _ hK => preD_mono _ _ _ hK _ _ (PreC.pre p l tm h hq)
theorem WD_chainC {id : Nat} (hm : P.follows .mixedOrders = true) (hd : drawOK (List.toArray l) (List.toArray l).size = true) (hch : chainB (List.toArray l) = true) {z : Wit _} (hr : RY P n (List.toArray l) l (Q .normal) ⟨⟩ tm h) : WY P n (.region id (List.toArray l) true) Q z tm h :=
  runs_chain hm hd hch hr
@[simp ↓] theorem preC_0 {z : Wit _} : PY P n ops 0 l R z tm h = RY P n ops l R ⟨⟩ tm h := rfl
def preK (P : Program) (n : Nat) (ops : Array Oper) (p : Nat) (l : List Oper) (R : (Nat → Value) → Hp → Prop) (tm : Nat → Value) (d : Nat) (h : Hp) : Value → Hp → Prop := fun v h' => Adds h h' ∧ PY P n ops p l R ⟨⟩ (upd tm d v) h'
@[simp ↓] theorem preK_app (v : Value) (h' : Hp) : preK P n ops p l R tm d h v h' = (Adds h h' ∧ PY P n ops p l R ⟨⟩ (upd tm d v) h') := rfl
def callP (P : Program) (n : Nat) (ops : Array Oper) (p : Nat) (fx : Operand) (xs : Array Operand) (l : List Oper) (R : (Nat → Value) → Hp → Prop) (_ : Wit (ops, fx, xs, l, R)) (tm : Nat → Value) (d : Nat) (h : Hp) : Prop :=
  okX fx = true ∧ xs.all okX = true ∧ match ev tm fx with
    | .func (.func f) fst cap => fnOK P f = true ∧ ∃ v h', CallOK P f (fst ++ xs.map (ev tm) ++ cap) h v h' ∧ Adds h h' ∧ PreC P n ops p l R (upd tm d v) h'
    | _ => False
theorem callP_c {f : FuncId} {xs : Array Operand} {z : Wit _} {args : Array Value} {v : Value} {h' : Hp} (h2 : xs.all okX = true) (h4 : fnOK P f = true) (ha : xs.map (ev tm) = args) (hc : CallOK P f args h v h') (hadd : Adds h h')
    (hr : PY P n ops p l R ⟨⟩ (upd tm d v) h') : callP P n ops p (.func f) xs l R z tm d h :=
  ⟨rfl, h2, h4, v, h', by rw [ha]; simpa using hc, hadd, hr⟩
def stepP (P : Program) (n : Nat) (ops : Array Oper) (p : Nat) (op : Op) (l : List Oper) (R : (Nat → Value) → Hp → Prop) (tm : Nat → Value) (d : Nat) (h : Hp) : Prop := match op with
  | .call ⟨.value fx, xs, _⟩ => callP P n ops p fx xs l R ⟨⟩ tm d h
  | op => thenY (opD P op tm h) (preK P n ops p l R tm d h) ⟨⟩
theorem stepP_op (hc : callV op = false) : stepP P n ops p op l R tm d h = thenY (opD P op tm h) (preK P n ops p l R tm d h) ⟨⟩ := by
  unfold stepP
  split
  · simp [callV] at hc
  · rfl
theorem preC_match : (match op with
      | .call ⟨.value fx, xs, _⟩ => okX fx = true ∧ xs.all okX = true ∧ match ev tm fx with
          | .func (.func f) fst cap => fnOK P f = true ∧ ∃ v h', CallOK P f (fst ++ xs.map (ev tm) ++ cap) h v h' ∧ Adds h h' ∧ PreC P n ops p l R (updO tm (some d) v) h'
          | _ => False
      | op => match opD P op tm h with
        | some (v, h') => Adds h h' ∧ PreC P n ops p l R (updO tm (some d) v) h'
        | none => False) = stepP P n ops p op l R tm d h := by
  unfold stepP
  split
  · rfl
  · cases ho : opD P op tm h with
    | none => simp [thenY]
    | some q =>
      obtain ⟨v, h'⟩ := q
      rw [thenY_some]; rfl
theorem preC_u {z : Wit _} : PY P n ops (p + 1) (⟨some d, op, ty, pos, aft, none⟩ :: l) R z tm h = (d < n ∧ stepP P n ops p op l R tm d h) := by
  rw [← preC_match]
  simp only [PY, PreC, dstOK, guardOK, wantA, decide_eq_true_eq, true_and]
theorem preC_g {z : Wit _} : PY P n (List.toArray L) (p + 1) (⟨some d, op, ty, pos, aft, some (j, w)⟩ :: l) R z tm h = (d < n ∧ gateO n (gsl L j) tm w (stepP P n (List.toArray L) p op l R tm d h) (PY P n (List.toArray L) p l R ⟨⟩ (upd tm d undef) h) ⟨⟩) := by
  rw [← gate_eq, ← preC_match]
  simp only [PY, PreC, dstOK, guardOK, wantA, decide_eq_true_eq, gsl, List.getElem?_toArray]
  rfl
theorem pu (hc : callV op = false) {z : Wit _} : PY P n ops (p + 1) (⟨some d, op, ty, pos, aft, none⟩ :: l) R z tm h = (d < n ∧ thenY (opD P op tm h) (preK P n ops p l R tm d h) ⟨⟩) := by rw [preC_u, stepP_op hc]
theorem pg (hc : callV op = false) {z : Wit _} : PY P n (List.toArray L) (p + 1) (⟨some d, op, ty, pos, aft, some (j, w)⟩ :: l) R z tm h = (d < n ∧ gateO n (gsl L j) tm w (thenY (opD P op tm h) (preK P n (List.toArray L) p l R tm d h) ⟨⟩) (PY P n (List.toArray L) p l R ⟨⟩ (upd tm d undef) h) ⟨⟩) := by rw [preC_g, stepP_op hc]

@[simp ↓] theorem pu_move {x} {z : Wit _} : PY P n ops (p + 1) (⟨some d, .move x, ty, pos, aft, none⟩ :: l) R z tm h = (d < n ∧ thenY (opD P (.move x) tm h) (preK P n ops p l R tm d h) ⟨⟩) := pu rfl
@[simp ↓] theorem pg_move {x} {z : Wit _} : PY P n (List.toArray L) (p + 1) (⟨some d, .move x, ty, pos, aft, some (j, w)⟩ :: l) R z tm h = (d < n ∧ gateO n (gsl L j) tm w (thenY (opD P (.move x) tm h) (preK P n (List.toArray L) p l R tm d h) ⟨⟩) (PY P n (List.toArray L) p l R ⟨⟩ (upd tm d undef) h) ⟨⟩) := pg rfl
@[simp ↓] theorem pu_assign {x} {z : Wit _} : PY P n ops (p + 1) (⟨some d, .assign x, ty, pos, aft, none⟩ :: l) R z tm h = (d < n ∧ thenY (opD P (.assign x) tm h) (preK P n ops p l R tm d h) ⟨⟩) := pu rfl
@[simp ↓] theorem pg_assign {x} {z : Wit _} : PY P n (List.toArray L) (p + 1) (⟨some d, .assign x, ty, pos, aft, some (j, w)⟩ :: l) R z tm h = (d < n ∧ gateO n (gsl L j) tm w (thenY (opD P (.assign x) tm h) (preK P n (List.toArray L) p l R tm d h) ⟨⟩) (PY P n (List.toArray L) p l R ⟨⟩ (upd tm d undef) h) ⟨⟩) := pg rfl
@[simp ↓] theorem pu_pick {c x y} {z : Wit _} : PY P n ops (p + 1) (⟨some d, .pick c x y, ty, pos, aft, none⟩ :: l) R z tm h = (d < n ∧ thenY (opD P (.pick c x y) tm h) (preK P n ops p l R tm d h) ⟨⟩) := pu rfl
@[simp ↓] theorem pg_pick {c x y} {z : Wit _} : PY P n (List.toArray L) (p + 1) (⟨some d, .pick c x y, ty, pos, aft, some (j, w)⟩ :: l) R z tm h = (d < n ∧ gateO n (gsl L j) tm w (thenY (opD P (.pick c x y) tm h) (preK P n (List.toArray L) p l R tm d h) ⟨⟩) (PY P n (List.toArray L) p l R ⟨⟩ (upd tm d undef) h) ⟨⟩) := pg rfl
@[simp ↓] theorem pu_alloc {e} {z : Wit _} : PY P n ops (p + 1) (⟨some d, .alloc e, ty, pos, aft, none⟩ :: l) R z tm h = (d < n ∧ thenY (opD P (.alloc e) tm h) (preK P n ops p l R tm d h) ⟨⟩) := pu rfl
@[simp ↓] theorem pg_alloc {e} {z : Wit _} : PY P n (List.toArray L) (p + 1) (⟨some d, .alloc e, ty, pos, aft, some (j, w)⟩ :: l) R z tm h = (d < n ∧ gateO n (gsl L j) tm w (thenY (opD P (.alloc e) tm h) (preK P n (List.toArray L) p l R tm d h) ⟨⟩) (PY P n (List.toArray L) p l R ⟨⟩ (upd tm d undef) h) ⟨⟩) := pg rfl
@[simp ↓] theorem pu_box {e x} {z : Wit _} : PY P n ops (p + 1) (⟨some d, .box e x, ty, pos, aft, none⟩ :: l) R z tm h = (d < n ∧ thenY (opD P (.box e x) tm h) (preK P n ops p l R tm d h) ⟨⟩) := pu rfl
@[simp ↓] theorem pg_box {e x} {z : Wit _} : PY P n (List.toArray L) (p + 1) (⟨some d, .box e x, ty, pos, aft, some (j, w)⟩ :: l) R z tm h = (d < n ∧ gateO n (gsl L j) tm w (thenY (opD P (.box e x) tm h) (preK P n (List.toArray L) p l R tm d h) ⟨⟩) (PY P n (List.toArray L) p l R ⟨⟩ (upd tm d undef) h) ⟨⟩) := pg rfl
@[simp ↓] theorem pu_load {t x} {z : Wit _} : PY P n ops (p + 1) (⟨some d, .load t x, ty, pos, aft, none⟩ :: l) R z tm h = (d < n ∧ thenY (opD P (.load t x) tm h) (preK P n ops p l R tm d h) ⟨⟩) := pu rfl
@[simp ↓] theorem pg_load {t x} {z : Wit _} : PY P n (List.toArray L) (p + 1) (⟨some d, .load t x, ty, pos, aft, some (j, w)⟩ :: l) R z tm h = (d < n ∧ gateO n (gsl L j) tm w (thenY (opD P (.load t x) tm h) (preK P n (List.toArray L) p l R tm d h) ⟨⟩) (PY P n (List.toArray L) p l R ⟨⟩ (upd tm d undef) h) ⟨⟩) := pg rfl
@[simp ↓] theorem pu_fieldAddr {s x f} {z : Wit _} : PY P n ops (p + 1) (⟨some d, .fieldAddr s x f, ty, pos, aft, none⟩ :: l) R z tm h = (d < n ∧ thenY (opD P (.fieldAddr s x f) tm h) (preK P n ops p l R tm d h) ⟨⟩) := pu rfl
@[simp ↓] theorem pg_fieldAddr {s x f} {z : Wit _} : PY P n (List.toArray L) (p + 1) (⟨some d, .fieldAddr s x f, ty, pos, aft, some (j, w)⟩ :: l) R z tm h = (d < n ∧ gateO n (gsl L j) tm w (thenY (opD P (.fieldAddr s x f) tm h) (preK P n (List.toArray L) p l R tm d h) ⟨⟩) (PY P n (List.toArray L) p l R ⟨⟩ (upd tm d undef) h) ⟨⟩) := pg rfl
@[simp ↓] theorem pu_field {s x f} {z : Wit _} : PY P n ops (p + 1) (⟨some d, .field s x f, ty, pos, aft, none⟩ :: l) R z tm h = (d < n ∧ thenY (opD P (.field s x f) tm h) (preK P n ops p l R tm d h) ⟨⟩) := pu rfl
@[simp ↓] theorem pg_field {s x f} {z : Wit _} : PY P n (List.toArray L) (p + 1) (⟨some d, .field s x f, ty, pos, aft, some (j, w)⟩ :: l) R z tm h = (d < n ∧ gateO n (gsl L j) tm w (thenY (opD P (.field s x f) tm h) (preK P n (List.toArray L) p l R tm d h) ⟨⟩) (PY P n (List.toArray L) p l R ⟨⟩ (upd tm d undef) h) ⟨⟩) := pg rfl
@[simp ↓] theorem pu_indexAddr {t x y} {z : Wit _} : PY P n ops (p + 1) (⟨some d, .indexAddr t x y, ty, pos, aft, none⟩ :: l) R z tm h = (d < n ∧ thenY (opD P (.indexAddr t x y) tm h) (preK P n ops p l R tm d h) ⟨⟩) := pu rfl
@[simp ↓] theorem pg_indexAddr {t x y} {z : Wit _} : PY P n (List.toArray L) (p + 1) (⟨some d, .indexAddr t x y, ty, pos, aft, some (j, w)⟩ :: l) R z tm h = (d < n ∧ gateO n (gsl L j) tm w (thenY (opD P (.indexAddr t x y) tm h) (preK P n (List.toArray L) p l R tm d h) ⟨⟩) (PY P n (List.toArray L) p l R ⟨⟩ (upd tm d undef) h) ⟨⟩) := pg rfl
@[simp ↓] theorem pu_index {t x y} {z : Wit _} : PY P n ops (p + 1) (⟨some d, .index t x y, ty, pos, aft, none⟩ :: l) R z tm h = (d < n ∧ thenY (opD P (.index t x y) tm h) (preK P n ops p l R tm d h) ⟨⟩) := pu rfl
@[simp ↓] theorem pg_index {t x y} {z : Wit _} : PY P n (List.toArray L) (p + 1) (⟨some d, .index t x y, ty, pos, aft, some (j, w)⟩ :: l) R z tm h = (d < n ∧ gateO n (gsl L j) tm w (thenY (opD P (.index t x y) tm h) (preK P n (List.toArray L) p l R tm d h) ⟨⟩) (PY P n (List.toArray L) p l R ⟨⟩ (upd tm d undef) h) ⟨⟩) := pg rfl
@[simp ↓] theorem pu_extract {x i} {z : Wit _} : PY P n ops (p + 1) (⟨some d, .extract x i, ty, pos, aft, none⟩ :: l) R z tm h = (d < n ∧ thenY (opD P (.extract x i) tm h) (preK P n ops p l R tm d h) ⟨⟩) := pu rfl
@[simp ↓] theorem pg_extract {x i} {z : Wit _} : PY P n (List.toArray L) (p + 1) (⟨some d, .extract x i, ty, pos, aft, some (j, w)⟩ :: l) R z tm h = (d < n ∧ gateO n (gsl L j) tm w (thenY (opD P (.extract x i) tm h) (preK P n (List.toArray L) p l R tm d h) ⟨⟩) (PY P n (List.toArray L) p l R ⟨⟩ (upd tm d undef) h) ⟨⟩) := pg rfl
@[simp ↓] theorem pu_makeFunc {fn f c} {z : Wit _} : PY P n ops (p + 1) (⟨some d, .makeFunc fn f c, ty, pos, aft, none⟩ :: l) R z tm h = (d < n ∧ thenY (opD P (.makeFunc fn f c) tm h) (preK P n ops p l R tm d h) ⟨⟩) := pu rfl
@[simp ↓] theorem pg_makeFunc {fn f c} {z : Wit _} : PY P n (List.toArray L) (p + 1) (⟨some d, .makeFunc fn f c, ty, pos, aft, some (j, w)⟩ :: l) R z tm h = (d < n ∧ gateO n (gsl L j) tm w (thenY (opD P (.makeFunc fn f c) tm h) (preK P n (List.toArray L) p l R tm d h) ⟨⟩) (PY P n (List.toArray L) p l R ⟨⟩ (upd tm d undef) h) ⟨⟩) := pg rfl
@[simp ↓] theorem pu_binOp {b t x y t2} {z : Wit _} : PY P n ops (p + 1) (⟨some d, .binOp b t x y t2, ty, pos, aft, none⟩ :: l) R z tm h = (d < n ∧ thenY (opD P (.binOp b t x y t2) tm h) (preK P n ops p l R tm d h) ⟨⟩) := pu rfl
@[simp ↓] theorem pg_binOp {b t x y t2} {z : Wit _} : PY P n (List.toArray L) (p + 1) (⟨some d, .binOp b t x y t2, ty, pos, aft, some (j, w)⟩ :: l) R z tm h = (d < n ∧ gateO n (gsl L j) tm w (thenY (opD P (.binOp b t x y t2) tm h) (preK P n (List.toArray L) p l R tm d h) ⟨⟩) (PY P n (List.toArray L) p l R ⟨⟩ (upd tm d undef) h) ⟨⟩) := pg rfl
@[simp ↓] theorem pu_unOp {u t x} {z : Wit _} : PY P n ops (p + 1) (⟨some d, .unOp u t x, ty, pos, aft, none⟩ :: l) R z tm h = (d < n ∧ thenY (opD P (.unOp u t x) tm h) (preK P n ops p l R tm d h) ⟨⟩) := pu rfl
@[simp ↓] theorem pg_unOp {u t x} {z : Wit _} : PY P n (List.toArray L) (p + 1) (⟨some d, .unOp u t x, ty, pos, aft, some (j, w)⟩ :: l) R z tm h = (d < n ∧ gateO n (gsl L j) tm w (thenY (opD P (.unOp u t x) tm h) (preK P n (List.toArray L) p l R tm d h) ⟨⟩) (PY P n (List.toArray L) p l R ⟨⟩ (upd tm d undef) h) ⟨⟩) := pg rfl
@[simp ↓] theorem pu_convert {s e x} {z : Wit _} : PY P n ops (p + 1) (⟨some d, .convert s e x, ty, pos, aft, none⟩ :: l) R z tm h = (d < n ∧ thenY (opD P (.convert s e x) tm h) (preK P n ops p l R tm d h) ⟨⟩) := pu rfl
@[simp ↓] theorem pg_convert {s e x} {z : Wit _} : PY P n (List.toArray L) (p + 1) (⟨some d, .convert s e x, ty, pos, aft, some (j, w)⟩ :: l) R z tm h = (d < n ∧ gateO n (gsl L j) tm w (thenY (opD P (.convert s e x) tm h) (preK P n (List.toArray L) p l R tm d h) ⟨⟩) (PY P n (List.toArray L) p l R ⟨⟩ (upd tm d undef) h) ⟨⟩) := pg rfl
@[simp ↓] theorem pu_makeSlice {t x y} {z : Wit _} : PY P n ops (p + 1) (⟨some d, .makeSlice t x y, ty, pos, aft, none⟩ :: l) R z tm h = (d < n ∧ thenY (opD P (.makeSlice t x y) tm h) (preK P n ops p l R tm d h) ⟨⟩) := pu rfl
@[simp ↓] theorem pg_makeSlice {t x y} {z : Wit _} : PY P n (List.toArray L) (p + 1) (⟨some d, .makeSlice t x y, ty, pos, aft, some (j, w)⟩ :: l) R z tm h = (d < n ∧ gateO n (gsl L j) tm w (thenY (opD P (.makeSlice t x y) tm h) (preK P n (List.toArray L) p l R tm d h) ⟨⟩) (PY P n (List.toArray L) p l R ⟨⟩ (upd tm d undef) h) ⟨⟩) := pg rfl
@[simp ↓] theorem pu_slice {t x lo hi mx} {z : Wit _} : PY P n ops (p + 1) (⟨some d, .slice t x lo hi mx, ty, pos, aft, none⟩ :: l) R z tm h = (d < n ∧ thenY (opD P (.slice t x lo hi mx) tm h) (preK P n ops p l R tm d h) ⟨⟩) := pu rfl
@[simp ↓] theorem pg_slice {t x lo hi mx} {z : Wit _} : PY P n (List.toArray L) (p + 1) (⟨some d, .slice t x lo hi mx, ty, pos, aft, some (j, w)⟩ :: l) R z tm h = (d < n ∧ gateO n (gsl L j) tm w (thenY (opD P (.slice t x lo hi mx) tm h) (preK P n (List.toArray L) p l R tm d h) ⟨⟩) (PY P n (List.toArray L) p l R ⟨⟩ (upd tm d undef) h) ⟨⟩) := pg rfl
@[simp ↓] theorem pu_build {t ps} {z : Wit _} : PY P n ops (p + 1) (⟨some d, .build t ps, ty, pos, aft, none⟩ :: l) R z tm h = (d < n ∧ thenY (opD P (.build t ps) tm h) (preK P n ops p l R tm d h) ⟨⟩) := pu rfl
@[simp ↓] theorem pg_build {t ps} {z : Wit _} : PY P n (List.toArray L) (p + 1) (⟨some d, .build t ps, ty, pos, aft, some (j, w)⟩ :: l) R z tm h = (d < n ∧ gateO n (gsl L j) tm w (thenY (opD P (.build t ps) tm h) (preK P n (List.toArray L) p l R tm d h) ⟨⟩) (PY P n (List.toArray L) p l R ⟨⟩ (upd tm d undef) h) ⟨⟩) := pg rfl
@[simp ↓] theorem pu_buildSlice {t m ps} {z : Wit _} : PY P n ops (p + 1) (⟨some d, .buildSlice t m ps, ty, pos, aft, none⟩ :: l) R z tm h = (d < n ∧ thenY (opD P (.buildSlice t m ps) tm h) (preK P n ops p l R tm d h) ⟨⟩) := pu rfl
@[simp ↓] theorem pg_buildSlice {t m ps} {z : Wit _} : PY P n (List.toArray L) (p + 1) (⟨some d, .buildSlice t m ps, ty, pos, aft, some (j, w)⟩ :: l) R z tm h = (d < n ∧ gateO n (gsl L j) tm w (thenY (opD P (.buildSlice t m ps) tm h) (preK P n (List.toArray L) p l R tm d h) ⟨⟩) (PY P n (List.toArray L) p l R ⟨⟩ (upd tm d undef) h) ⟨⟩) := pg rfl
@[simp ↓] theorem pu_nilCheck {x} {z : Wit _} : PY P n ops (p + 1) (⟨some d, .nilCheck x, ty, pos, aft, none⟩ :: l) R z tm h = (d < n ∧ thenY (opD P (.nilCheck x) tm h) (preK P n ops p l R tm d h) ⟨⟩) := pu rfl
@[simp ↓] theorem pg_nilCheck {x} {z : Wit _} : PY P n (List.toArray L) (p + 1) (⟨some d, .nilCheck x, ty, pos, aft, some (j, w)⟩ :: l) R z tm h = (d < n ∧ gateO n (gsl L j) tm w (thenY (opD P (.nilCheck x) tm h) (preK P n (List.toArray L) p l R tm d h) ⟨⟩) (PY P n (List.toArray L) p l R ⟨⟩ (upd tm d undef) h) ⟨⟩) := pg rfl
@[simp ↓] theorem pu_makeMap {t r} {z : Wit _} : PY P n ops (p + 1) (⟨some d, .makeMap t r, ty, pos, aft, none⟩ :: l) R z tm h = (d < n ∧ thenY (opD P (.makeMap t r) tm h) (preK P n ops p l R tm d h) ⟨⟩) := pu rfl
@[simp ↓] theorem pg_makeMap {t r} {z : Wit _} : PY P n (List.toArray L) (p + 1) (⟨some d, .makeMap t r, ty, pos, aft, some (j, w)⟩ :: l) R z tm h = (d < n ∧ gateO n (gsl L j) tm w (thenY (opD P (.makeMap t r) tm h) (preK P n (List.toArray L) p l R tm d h) ⟨⟩) (PY P n (List.toArray L) p l R ⟨⟩ (upd tm d undef) h) ⟨⟩) := pg rfl
@[simp ↓] theorem pu_lookup {t x y ok} {z : Wit _} : PY P n ops (p + 1) (⟨some d, .lookup t x y ok, ty, pos, aft, none⟩ :: l) R z tm h = (d < n ∧ thenY (opD P (.lookup t x y ok) tm h) (preK P n ops p l R tm d h) ⟨⟩) := pu rfl
@[simp ↓] theorem pg_lookup {t x y ok} {z : Wit _} : PY P n (List.toArray L) (p + 1) (⟨some d, .lookup t x y ok, ty, pos, aft, some (j, w)⟩ :: l) R z tm h = (d < n ∧ gateO n (gsl L j) tm w (thenY (opD P (.lookup t x y ok) tm h) (preK P n (List.toArray L) p l R tm d h) ⟨⟩) (PY P n (List.toArray L) p l R ⟨⟩ (upd tm d undef) h) ⟨⟩) := pg rfl
@[simp ↓] theorem pu_bi {b xs ts} {z : Wit _} : PY P n ops (p + 1) (⟨some d, .call ⟨.builtin b, xs, ts⟩, ty, pos, aft, none⟩ :: l) R z tm h = (d < n ∧ thenY (opD P (.call ⟨.builtin b, xs, ts⟩) tm h) (preK P n ops p l R tm d h) ⟨⟩) := pu rfl
@[simp ↓] theorem pg_bi {b xs ts} {z : Wit _} : PY P n (List.toArray L) (p + 1) (⟨some d, .call ⟨.builtin b, xs, ts⟩, ty, pos, aft, some (j, w)⟩ :: l) R z tm h = (d < n ∧ gateO n (gsl L j) tm w (thenY (opD P (.call ⟨.builtin b, xs, ts⟩) tm h) (preK P n (List.toArray L) p l R tm d h) ⟨⟩) (PY P n (List.toArray L) p l R ⟨⟩ (upd tm d undef) h) ⟨⟩) := pg rfl
@[simp ↓] theorem pu_call {fx xs ts} {z : Wit _} : PY P n ops (p + 1) (⟨some d, .call ⟨.value fx, xs, ts⟩, ty, pos, aft, none⟩ :: l) R z tm h = (d < n ∧ callP P n ops p fx xs l R ⟨⟩ tm d h) := preC_u
@[simp ↓] theorem pg_call {fx xs ts} {z : Wit _} : PY P n (List.toArray L) (p + 1) (⟨some d, .call ⟨.value fx, xs, ts⟩, ty, pos, aft, some (j, w)⟩ :: l) R z tm h = (d < n ∧ gateO n (gsl L j) tm w (callP P n (List.toArray L) p fx xs l R ⟨⟩ tm d h) (PY P n (List.toArray L) p l R ⟨⟩ (upd tm d undef) h) ⟨⟩) := preC_g

/-- The first region alone. -/
def stopK (P : Program) (n : Nat) (y : Code) (Q : Exit → (Nat → Value) → Hp → Prop) (_ : Wit (y, Q)) : (Nat → Value) → Hp → Prop := fun tm h => WD P n y Q tm h
theorem WD_first {i : Nat} {y : Code} {z : Wit _} (hr : RY P n (List.toArray l) l (stopK P n y Q ⟨⟩) ⟨⟩ tm h) : WY P n (.seq (.region i (List.toArray l) false) y) Q z tm h := by
  rw [wd_seq]; exact hr
theorem stopK_go {y : Code} {z : Wit _} (hr : WY P n y Q ⟨⟩ tm h) : stopK P n y Q z tm h := hr

/-- A loop's round behind it. -/
def loopK (fs : List Nat) (I : Nat → (Nat → Value) → Hp → Prop) (k : Nat) (tm0 : Nat → Value) (Q : Exit → (Nat → Value) → Hp → Prop) (_ : Wit (fs, I, k, tm0, Q)) : Exit → (Nat → Value) → Hp → Prop
  | .normal, tm, h => ∃ k', k' < k ∧ FrameL fs tm0 tm ∧ I k' tm h
  | e, tm, h => Q e tm h
variable {fs : List Nat} {I : Nat → (Nat → Value) → Hp → Prop} {k : Nat} {tm0 : Nat → Value}
@[simp ↓] theorem loopK_r {z : Wit _} : loopK fs I k tm0 Q z .ret tm h = Q .ret tm h := rfl
@[simp ↓] theorem loopK_x {z : Wit _} (i : Nat) : loopK fs I k tm0 Q z (.exit i) tm h = Q (.exit i) tm h := rfl
theorem loopK_next {z : Wit _} (k' : Nat) (hm : k' < k) (hf : FrameL fs tm0 tm) (hi : I k' tm h) : loopK fs I k tm0 Q z .normal tm h := ⟨k', hm, hf, hi⟩
theorem WD_loopC (fs : List Nat) {c : Code} {z : Wit _} (I : Nat → (Nat → Value) → Hp → Prop) (k : Nat) (h0 : I k tm h) (round : ∀ k tm' h', FrameL fs tm tm' → I k tm' h' → WY P n c (loopK fs I k tm' Q ⟨⟩) ⟨⟩ tm' h') : WY P n (.loop c) Q z tm h := by
  show Runs P n (.loop c) Q tm h
  refine runs_loop (fun k tm' h' => FrameL fs tm tm' ∧ I k tm' h') (fun k tm' h' hI => ((WD.runs c (round k tm' h' hI.1 hI.2)).mono fun e tm2 h2 hq => ?_)) ⟨FrameL.refl _ _, h0⟩
  cases e with
  | normal =>
    obtain ⟨k', h1, h3, h4⟩ := hq
    exact .inl ⟨rfl, k', h1, hI.1.trans h3, h4⟩
  | _ => exact .inr ⟨by simp, hq⟩
variable {fx : Operand} {xs : Array Operand} {e : Exit}
theorem WY_heap {c : Code} {z : Wit _} (hr : ∀ h', h' = h → WY P n c Q z tm h') : WY P n c Q z tm h := hr h rfl
theorem RY_heap {z : Wit _} (hr : ∀ h', h' = h → RY P n ops l R z tm h') : RY P n ops l R z tm h := hr h rfl
theorem PY_heap {z : Wit _} (hr : ∀ h', h' = h → PY P n ops p l R z tm h') : PY P n ops p l R z tm h := hr h rfl
theorem callG_heap {z : Wit _} (hr : ∀ h', h' = h → callG P n ops fx xs l R z tm d h') : callG P n ops fx xs l R z tm d h := hr h rfl
theorem callP_heap {z : Wit _} (hr : ∀ h', h' = h → callP P n ops p fx xs l R z tm d h') : callP P n ops p fx xs l R z tm d h := hr h rfl
theorem stopK_heap {c : Code} {z : Wit _} (hr : ∀ h', h' = h → stopK P n c Q z tm h') : stopK P n c Q z tm h := hr h rfl
theorem loopK_heap {z : Wit _} (hr : ∀ h', h' = h → loopK fs I k tm0 Q z e tm h') : loopK fs I k tm0 Q z e tm h := hr h rfl
theorem doneY_heap {rs : List ResultVar} {R : Value → Hp → Prop} {z : Wit _} (hr : ∀ h', h' = h → doneY P rs R z e tm h') : doneY P rs R z e tm h := hr h rfl
theorem thenY_heap {t t' : TypeId} {x y : Value} {k : Value → Hp → Prop} {z : Wit k} (hr : ∀ h', h' = h → thenY (appendD P t t' x y h') k z) : thenY (appendD P t t' x y h) k z := hr h rfl
theorem thenM_heap {r : Option Value} {k : Value → Hp → Prop} {z : Wit k} (hr : ∀ h', h' = h → thenY (r.map fun v => (v, h')) k z) : thenY (r.map fun v => (v, h)) k z := hr h rfl
/-- What a call keeps. -/
@[simp] theorem adds_allocM {h h' : Hp} (k : Adds h h') (es : List (Value × Value)) : Adds h (h'.alloc (.map es)) := k.trans (Adds.alloc _ fun _ => rfl)
theorem aK {h h' : Hp} (p : Adds h h' := by repeat (first | exact keep_self _ | exact adds_self _ | assumption | exact Adds.keeps (by assumption) | refine keeps_alloc ?_ _ | refine adds_alloc ?_ _ _ _ | refine adds_allocM ?_ _ | (refine keeps_put ?_ ?hle _; (case hle => first | omega | (simp; done) | (simp; omega))) | (refine adds_put ?_ ?hle _ _ _; (case hle => first | omega | (simp; done) | (simp; omega))))) : Adds h h' := p
theorem kK {h h' : Hp} (p : Keeps h h' := by repeat (first | exact keep_self _ | exact adds_self _ | assumption | exact Adds.keeps (by assumption) | refine keeps_alloc ?_ _ | refine adds_alloc ?_ _ _ _ | refine adds_allocM ?_ _ | (refine keeps_put ?_ ?hle _; (case hle => first | omega | (simp; done) | (simp; omega))) | (refine adds_put ?_ ?hle _ _ _; (case hle => first | omega | (simp; done) | (simp; omega))))) : Keeps h h' := p
end
end Go.Eng
