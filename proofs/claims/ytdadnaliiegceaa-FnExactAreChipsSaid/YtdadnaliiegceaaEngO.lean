/- What simp is to know of the engine's words. -/
import Derived.Test.YtdadnaliiegceaaEngN
namespace Go.Eng

@[simp] theorem upd_at (tm : Nat → Value) (d : Nat) (v : Value) (t : Nat) : upd tm d v t = if t = d then v else tm t := rfl
attribute [simp] opD okX plainV plainS ev thenD updO argL binD binV isShift intBin shiftV strBin unV convD loadD storeD lenD indexAddrD indexD makeD sliceD bnd okO builtinD appendD notTup Value.cells partV isC eqV nIf
  resL resOne packL srcV

theorem getD_cons0 (v : Value) (l : List Value) : (v :: l).getD 0 undef = v := rfl
theorem keep_self (h : Hp) : Keeps h h := Keeps.refl h
theorem get_alloc (h : Hp) (x : AObj) (o : Nat) : (h.alloc x).get o = if o = h.next then x else h.get o := rfl
theorem get_put (h : Hp) (i : Nat) (x : AObj) (o : Nat) : (h.put i x).get o = if o = i then x else h.get o := rfl
theorem next_alloc (h : Hp) (x : AObj) : (h.alloc x).next = h.next + 1 := rfl
theorem next_put (h : Hp) (i : Nat) (x : AObj) : (h.put i x).next = h.next := rfl
attribute [simp] get_alloc get_put next_alloc next_put keep_self

end Go.Eng
