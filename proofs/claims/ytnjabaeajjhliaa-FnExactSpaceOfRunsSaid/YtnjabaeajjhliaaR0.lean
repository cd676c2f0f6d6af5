/- Arguments of the laws' types, laid into the abstract heap. -/
import Derived.Test.YtnjabaeajjhliaaRows
import Derived.Test.YtnjabaeajjhliaaA4
import Derived.Test.YtnjabaeajjhliaaEngU
import Derived.WalkKit
import Derived.ProofKit
import Derived.Below
import Derived.Lib.SmallJoins
namespace Go.Proofs.Ytnjabaeajjhliaa
set_option linter.unusedSimpArgs false
set_option linter.unusedVariables false
open Go Go.Eng Go.ChangeShapes Go.WideShapes Go.ChangeAt Go.RowKit Go.Joins

theorem own : ownKnob Try.prog.godebug = none := by kernel_rfl
theorem laidOut : laidOutB Try.prog = true := by kernel_rfl
theorem cellsRows : Try.prog.cellsOf 54 = 1 := by kernel_rfl
theorem cellsInts : Try.prog.cellsOf 30 = 1 := by kernel_rfl
theorem cellsInt : Try.prog.cellsOf 3 = 1 := by kernel_rfl
theorem cellsChips : Try.prog.cellsOf 65 = 2 := by kernel_rfl

set_option maxRecDepth 100000 in
/-- An argument of type laws.Chips, laid into the abstract heap. -/
theorem lay_chips {H : Type} {enc : TypeId × Value → H} {W : World} {base b0 : Nat} {held : Bool} {E : Emb} {h : Hp} {v : Value} {d : DataW H} {p : List MemPlace} (hv : Value.okWide Try.prog W .any b0 65 v)
    (hd : DataW.Trod enc Try.prog W base (fun _ => true) held 65 v d p) (st : Go.Eng.Start E h W) : ∃ E' h' a L A, Go.Eng.Start E' h' W ∧ More E h E' h' ∧ VRel E' a v ∧ Chips h' a L A := by
  obtain ⟨c0, c1, y0, y1, m, rfl, rfl, rfl, hy0, hy1⟩ := open_agg2 Try.underlying65 (by kernel_rfl) cellsChips hv hd
  obtain ⟨E1, h1, a1, L, s1, m1, v1, r1⟩ := lay_rows Try.underlying54 Try.underlying30 Try.underlying3 cellsInts cellsInt hy0 st
  obtain ⟨E2, h2, a2, A, s2, m2, v2, r2⟩ := lay_ints Try.underlying30 Try.underlying3 cellsInt hy1 s1
  have w1 := m2.vrel _ _ v1
  refine ⟨E2, h2, .agg #[a1, a2], L, A, s2, m1.trans m2, .agg _ _ rfl (fun i hi => ?_) (fun i hi => ?_), _, _, rfl, r1.keep m2.keep, r2⟩
  · have : i = 0 ∨ i = 1 := by simp at hi; omega
    obtain ⟨sa, ca, ea, _, _⟩ := Sl.form r1
    obtain ⟨sb, cb, eb, _, _⟩ := Sl.form r2
    rcases this with rfl | rfl
    · subst ea; rfl
    · subst eb; rfl
  · have : i = 0 ∨ i = 1 := by simp at hi; omega
    rcases this with rfl | rfl
    · exact w1
    · exact v2

set_option maxRecDepth 100000 in
/-- An argument that is a list of whole numbers. -/
theorem lay_list {H : Type} {enc : TypeId × Value → H} {W : World} {base b0 : Nat} {held : Bool} {E : Emb} {h : Hp} {v : Value} {d : DataW H} {p : List MemPlace} (hv : Value.okWide Try.prog W .any b0 30 v)
    (hd : DataW.Trod enc Try.prog W base (fun _ => true) held 30 v d p) (st : Go.Eng.Start E h W) : ∃ E' h' a X, Go.Eng.Start E' h' W ∧ More E h E' h' ∧ VRel E' a v ∧ Ints h' a X := by
  obtain ⟨a0, len, cap, rfl⟩ := okWide_slice Try.underlying30 hv
  obtain ⟨m, hm⟩ := hd
  exact lay_ints Try.underlying30 Try.underlying3 cellsInt hm st
end Go.Proofs.Ytnjabaeajjhliaa
