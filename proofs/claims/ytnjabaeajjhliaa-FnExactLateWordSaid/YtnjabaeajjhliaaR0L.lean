/- Arguments that are rows of numbers, laid into the abstract heap; four arguments. -/
import Derived.Test.YtnjabaeajjhliaaR0S
import Derived.Test.YtnjabaeajjhliaaA3
import Derived.Test.YtnjabaeajjhliaaEngU
import Derived.Carry
namespace Go.Proofs.Ytnjabaeajjhliaa
set_option linter.unusedSimpArgs false
set_option linter.unusedVariables false
open Go Go.Eng Go.ChangeShapes Go.WideShapes Go.ChangeAt Go.RowKit Go.Joins

theorem cellsRows : Try.prog.cellsOf 54 = 1 := by kernel_rfl

set_option maxRecDepth 100000 in
/-- An argument that is rows of whole numbers. -/
theorem lay_rowss {H : Type} {enc : TypeId × Value → H} {W : World} {base b0 : Nat} {held : Bool} {E : Emb} {h : Hp} {v : Value} {d : DataW H} {p : List MemPlace} (hv : Value.okWide Try.prog W .any b0 54 v)
    (hd : DataW.Trod enc Try.prog W base (fun _ => true) held 54 v d p) (st : Go.Eng.Start E h W) : ∃ E' h' a L, Go.Eng.Start E' h' W ∧ More E h E' h' ∧ VRel E' a v ∧ IRows h' a L := by
  obtain ⟨a0, len, cap, rfl⟩ := okWide_slice Try.underlying54 hv
  obtain ⟨m, hm⟩ := hd
  exact lay_rows Try.underlying54 Try.underlying30 Try.underlying3 cellsInts cellsInt hm st
end Go.Proofs.Ytnjabaeajjhliaa
