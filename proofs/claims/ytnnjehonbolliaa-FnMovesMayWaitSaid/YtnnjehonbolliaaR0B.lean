/- Arguments that are bytes, laid into the abstract heap. -/
import Derived.Test.YtnnjehonbolliaaRows
import Derived.Test.YtnnjehonbolliaaTy
import Derived.Test.YtnnjehonbolliaaEngU
import Derived.Test.YtnnjehonbolliaaEngV
import Derived.WalkKit
import Derived.ProofKit
import Derived.Below
import Derived.Lib.SmallJoins
namespace Go.Proofs.Ytnnjehonbolliaa
set_option linter.unusedSimpArgs false
set_option linter.unusedVariables false
open Go Go.Eng Go.ChangeShapes Go.WideShapes Go.ChangeAt Go.RowKit Go.Joins

theorem own : ownKnob Try.prog.godebug = none := by kernel_rfl
theorem laidOut : laidOutB Try.prog = true := by kernel_rfl
theorem cellsByte : Try.prog.cellsOf 5 = 1 := by kernel_rfl

set_option maxRecDepth 100000 in
/-- An argument that is a list of bytes. -/
theorem lay_bytes {H : Type} {enc : TypeId × Value → H} {W : World} {base b0 : Nat} {held : Bool} {E : Emb} {h : Hp} {v : Value} {d : DataW H} {p : List MemPlace} (hv : Value.okWide Try.prog W .any b0 22 v)
    (hd : DataW.Trod enc Try.prog W base (fun _ => true) held 22 v d p) (st : Go.Eng.Start E h W) : ∃ E' h' a X, Go.Eng.Start E' h' W ∧ More E h E' h' ∧ VRel E' a v ∧ Bytes h' a X := by
  obtain ⟨a0, len, cap, rfl⟩ := okWide_slice Try.underlying22 hv
  obtain ⟨m, hm⟩ := hd
  exact lay_u8s Try.underlying22 Try.underlying5 cellsByte hm st
end Go.Proofs.Ytnnjehonbolliaa
