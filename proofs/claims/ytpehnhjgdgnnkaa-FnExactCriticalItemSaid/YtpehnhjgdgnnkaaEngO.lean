/- What simp is to know of the engine's words. -/
import Derived.Test.YtpehnhjgdgnnkaaEngN
namespace Go.Eng

@[simp] theorem upd_at (tm : Nat → Value) (d : Nat) (v : Value) (t : Nat) : upd tm d v t = if t = d then v else tm t := rfl
attribute [simp] opD okX plainV plainS ev thenD updO argL binD binV isShift strBin unV convD loadD storeD indexAddrD indexD makeD sliceD bnd okO builtinD partV isC eqV nIf
  resL resOne packL srcV srcW

theorem getD_cons0 (v : Value) (l : List Value) : (v :: l).getD 0 undef = v := rfl
theorem keep_self (h : Hp) : Keeps h h := Keeps.refl h
theorem get_alloc (h : Hp) (x : AObj) (o : Nat) : (h.alloc x).get o = if o = h.next then x else h.get o := rfl
theorem get_put (h : Hp) (i : Nat) (x : AObj) (o : Nat) : (h.put i x).get o = if o = i then x else h.get o := rfl
theorem next_alloc (h : Hp) (x : AObj) : (h.alloc x).next = h.next + 1 := rfl
theorem next_put (h : Hp) (i : Nat) (x : AObj) : (h.put i x).next = h.next := rfl
attribute [simp] get_alloc get_put next_alloc next_put keep_self


@[simp] theorem intBin_add (k : IntKind) (x y : Int) : intBin .add k x y = some (.int k (k.wrap (x + y))) := rfl
@[simp] theorem intBin_sub (k : IntKind) (x y : Int) : intBin .sub k x y = some (.int k (k.wrap (x - y))) := rfl
@[simp] theorem intBin_mul (k : IntKind) (x y : Int) : intBin .mul k x y = some (.int k (k.wrap (x * y))) := rfl
@[simp] theorem intBin_quo (k : IntKind) (x y : Int) : intBin .quo k x y = if y = 0 then none else some (.int k (k.wrap (x.tdiv y))) := rfl
@[simp] theorem intBin_rem (k : IntKind) (x y : Int) : intBin .rem k x y = if y = 0 then none else some (.int k (x.tmod y)) := rfl
@[simp] theorem intBin_eql (k : IntKind) (x y : Int) : intBin .eql k x y = some (.bool (x == y)) := rfl
@[simp] theorem intBin_neq (k : IntKind) (x y : Int) : intBin .neq k x y = some (.bool (x != y)) := rfl
@[simp] theorem intBin_lss (k : IntKind) (x y : Int) : intBin .lss k x y = some (.bool (decide (x < y))) := rfl
@[simp] theorem intBin_leq (k : IntKind) (x y : Int) : intBin .leq k x y = some (.bool (decide (x ≤ y))) := rfl
@[simp] theorem intBin_gtr (k : IntKind) (x y : Int) : intBin .gtr k x y = some (.bool (decide (x > y))) := rfl
@[simp] theorem intBin_geq (k : IntKind) (x y : Int) : intBin .geq k x y = some (.bool (decide (x ≥ y))) := rfl
@[simp] theorem lenD_slice (P : Program) (t : TypeId) (s : Option Addr) (n c : Nat) : lenD P t (.slice s n c) = (elT P t).map fun _ => .int .i64 n := by
  unfold lenD; cases elT P t <;> rfl
theorem lenD_str {P : Program} {t : TypeId} (h : P.underlying t = some .string) (s : ByteArray) : lenD P t (.string s) = some (.int .i64 s.size) := by
  unfold lenD; simp [h]
@[simp] theorem notTup_bool (b : Bool) : notTup (.bool b) = true := rfl
@[simp] theorem notTup_int (k : IntKind) (b : Int) : notTup (.int k b) = true := rfl
@[simp] theorem notTup_string (b : ByteArray) : notTup (.string b) = true := rfl
@[simp] theorem notTup_pointer (b : Option Addr) : notTup (.pointer b) = true := rfl
@[simp] theorem notTup_slice (b : Option Addr) (n c : Nat) : notTup (.slice b n c) = true := rfl
@[simp] theorem notTup_map (b : Option Nat) : notTup (.map b) = true := rfl
@[simp] theorem notTup_func (f : Fn) (a b : Array Value) : notTup (.func f a b) = true := rfl
@[simp] theorem notTup_nilFunc : notTup .nilFunc = true := rfl
@[simp] theorem notTup_nilIface : notTup .nilIface = true := rfl
@[simp] theorem notTup_iface (t : TypeId) (v : Value) : notTup (.iface t v) = true := rfl
@[simp] theorem notTup_agg (c : Array Value) : notTup (.agg c) = true := rfl
@[simp] theorem cells_bool (b : Bool) : (Value.bool b).cells = #[.bool b] := rfl
@[simp] theorem cells_int (k : IntKind) (b : Int) : (Value.int k b).cells = #[.int k b] := rfl
@[simp] theorem cells_string (b : ByteArray) : (Value.string b).cells = #[.string b] := rfl
@[simp] theorem cells_pointer (b : Option Addr) : (Value.pointer b).cells = #[.pointer b] := rfl
@[simp] theorem cells_slice (b : Option Addr) (n c : Nat) : (Value.slice b n c).cells = #[.slice b n c] := rfl
@[simp] theorem cells_map (b : Option Nat) : (Value.map b).cells = #[.map b] := rfl
@[simp] theorem cells_func (f : Fn) (a b : Array Value) : (Value.func f a b).cells = #[.func f a b] := rfl
@[simp] theorem cells_nilFunc : Value.nilFunc.cells = #[.nilFunc] := rfl
@[simp] theorem cells_nilIface : Value.nilIface.cells = #[.nilIface] := rfl
@[simp] theorem cells_iface (t : TypeId) (v : Value) : (Value.iface t v).cells = #[.iface t v] := rfl
@[simp] theorem cells_agg (c : Array Value) : (Value.agg c).cells = c := rfl
end Go.Eng
