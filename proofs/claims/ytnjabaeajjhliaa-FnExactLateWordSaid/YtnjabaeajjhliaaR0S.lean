/- Arguments of the laws' types (spaces, lists), laid into the abstract heap. -/
import Derived.Test.YtnjabaeajjhliaaRows
import Derived.Test.YtnjabaeajjhliaaS2
import Derived.Test.YtnjabaeajjhliaaEngU
import Derived.WalkKit
import Derived.ProofKit
import Derived.Below
import Derived.Lib.SmallJoins
namespace Go.Proofs.Ytnjabaeajjhliaa
set_option linter.unusedSimpArgs false
set_option linter.unusedVariables false
open Go Go.Eng Go.ChangeShapes Go.WideShapes Go.ChangeAt Go.RowKit Go.Joins

theorem own : ownKnob Try.prog.godebug = none := by kernel_rfl
theorem laidOut : laidOutB Try.prog = true := by kernel_rfl
theorem cellsInts : Try.prog.cellsOf 30 = 1 := by kernel_rfl
theorem cellsInt : Try.prog.cellsOf 3 = 1 := by kernel_rfl
theorem cellsSpace : Try.prog.cellsOf 38 = 2 := by kernel_rfl

set_option maxRecDepth 100000 in
/-- An argument of type laws.Space, laid into the abstract heap. -/
theorem lay_space {H : Type} {enc : TypeId × Value → H} {W : World} {base b0 : Nat} {held : Bool} {E : Emb} {h : Hp} {v : Value} {d : DataW H} {p : List MemPlace} (hv : Value.okWide Try.prog W .any b0 38 v)
    (hd : DataW.Trod enc Try.prog W base (fun _ => true) held 38 v d p) (st : Go.Eng.Start E h W) : ∃ E' h' a N X, Go.Eng.Start E' h' W ∧ More E h E' h' ∧ VRel E' a v ∧ Space h' a N X := by
  obtain ⟨c0, c1, y0, y1, m, rfl, rfl, rfl, hy0, hy1⟩ := open_agg2 Try.underlying38 (by kernel_rfl) cellsSpace hv hd
  obtain ⟨z, hz, _⟩ := DataW.trod_int Try.underlying3 hy0
  simp only [List.cons.injEq, and_true] at hz
  subst hz
  obtain ⟨E1, h1, a1, X, s1, m1, v1, r1⟩ := lay_ints Try.underlying30 Try.underlying3 cellsInt hy1 st
  refine ⟨E1, h1, .agg #[.int .i64 z, a1], z, X, s1, m1, .agg _ _ rfl (fun i hi => ?_) (fun i hi => ?_), _, rfl, r1⟩
  · have : i = 0 ∨ i = 1 := by simp at hi; omega
    obtain ⟨sb, cb, eb, _, _⟩ := Sl.form r1
    rcases this with rfl | rfl
    · rfl
    · subst eb; rfl
  · have : i = 0 ∨ i = 1 := by simp at hi; omega
    rcases this with rfl | rfl
    · exact .int _ _
    · exact v1

set_option maxRecDepth 100000 in
/-- An argument that is a list of whole numbers. -/
theorem lay_list {H : Type} {enc : TypeId × Value → H} {W : World} {base b0 : Nat} {held : Bool} {E : Emb} {h : Hp} {v : Value} {d : DataW H} {p : List MemPlace} (hv : Value.okWide Try.prog W .any b0 30 v)
    (hd : DataW.Trod enc Try.prog W base (fun _ => true) held 30 v d p) (st : Go.Eng.Start E h W) : ∃ E' h' a X, Go.Eng.Start E' h' W ∧ More E h E' h' ∧ VRel E' a v ∧ Ints h' a X := by
  obtain ⟨a0, len, cap, rfl⟩ := okWide_slice Try.underlying30 hv
  obtain ⟨m, hm⟩ := hd
  exact lay_ints Try.underlying30 Try.underlying3 cellsInt hm st
end Go.Proofs.Ytnjabaeajjhliaa
