/- An argument that is a desk, laid into the abstract heap. -/
import Derived.Test.YtpehnhjgdgnnkaaR0S
import Derived.Test.YtpehnhjgdgnnkaaS9
namespace Go.Proofs.Ytpehnhjgdgnnkaa
set_option linter.unusedSimpArgs false
set_option linter.unusedVariables false
open Go Go.Eng Go.ChangeShapes Go.WideShapes Go.ChangeAt Go.RowKit Go.Joins

theorem cellsDesk : Try.prog.cellsOf 39 = 3 := by kernel_rfl

set_option maxRecDepth 100000 in
/-- An argument of type laws.Desk, laid into the abstract heap. -/
theorem lay_desk {H : Type} {enc : TypeId × Value → H} {W : World} {base b0 : Nat} {held : Bool} {E : Emb} {h : Hp} {v : Value} {d : DataW H} {p : List MemPlace} (hv : Value.okWide Try.prog W .any b0 39 v)
    (hd : DataW.Trod enc Try.prog W base (fun _ => true) held 39 v d p) (st : Go.Eng.Start E h W) : ∃ E' h' a N X D, Go.Eng.Start E' h' W ∧ More E h E' h' ∧ VRel E' a v ∧ Desk h' a N X D := by
  obtain ⟨cs, rfl, hsz⟩ := okWide_struct Try.underlying39 hv
  obtain ⟨c0, c1, c2, rfl⟩ := array3 (hsz.trans cellsDesk)
  obtain ⟨fuel, hf⟩ := hd
  obtain ⟨y0, y1, n, hx, _, h0, h1⟩ := trod_struct2 Try.underlying39 hf
  have h0' : DataW.trod enc Try.prog W base (fun _ => true) held n 31 [c0, c1] = some y0 := by simpa [Value.cells, cellsSpace] using h0
  have h1' : DataW.trod enc Try.prog W base (fun _ => true) held n 3 [c2] = some y1 := by simpa [Value.cells, cellsInt] using h1
  obtain ⟨z0, z1, n2, hx2, _, h00, h01⟩ := trod_struct2 Try.underlying31 h0'
  have h00' : DataW.trod enc Try.prog W base (fun _ => true) held n2 3 [c0] = some z0 := by simpa [cellsInt] using h00
  have h01' : DataW.trod enc Try.prog W base (fun _ => true) held n2 22 [c1] = some z1 := by simpa [cellsInts] using h01
  obtain ⟨N, hN, _⟩ := DataW.trod_int Try.underlying3 h00'
  obtain ⟨D, hD, _⟩ := DataW.trod_int Try.underlying3 h1'
  simp only [List.cons.injEq, and_true] at hN hD
  subst hN hD
  obtain ⟨E1, h1, a1, X, s1, m1, v1, r1⟩ := lay_ints Try.underlying22 Try.underlying3 cellsInt h01' st
  refine ⟨E1, h1, .agg #[.int .i64 N, a1, .int .i64 D], N, X, D, s1, m1, .agg _ _ rfl (fun i hi => ?_) (fun i hi => ?_), _, rfl, r1⟩
  · have : i = 0 ∨ i = 1 ∨ i = 2 := by simp at hi; omega
    obtain ⟨sb, cb, eb, _, _⟩ := Sl.form r1
    rcases this with rfl | rfl | rfl
    · rfl
    · subst eb; rfl
    · rfl
  · have : i = 0 ∨ i = 1 ∨ i = 2 := by simp at hi; omega
    rcases this with rfl | rfl | rfl
    · exact .int _ _
    · exact v1
    · exact .int _ _
end Go.Proofs.Ytpehnhjgdgnnkaa
