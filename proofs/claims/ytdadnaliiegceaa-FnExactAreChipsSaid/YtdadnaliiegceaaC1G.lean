/- For every input of its types the law on AreChips returns true; its argument reads behind the call as it read before. -/
import Derived.Test.YtdadnaliiegceaaRows
import Derived.Test.YtdadnaliiegceaaC1F
import Derived.Test.YtdadnaliiegceaaEngU
import Derived.WalkKit
import Derived.ProofKit
import Derived.Below
import Derived.Lib.SmallJoins
namespace Go.Proofs.Ytdadnaliiegceaa
set_option linter.unusedSimpArgs false
set_option linter.unusedVariables false
open Go Go.Eng Go.ChangeShapes Go.WideShapes Go.ChangeAt Go.RowKit Go.Joins

theorem own : ownKnob Try.prog.godebug = none := by kernel_rfl
theorem laidOut : laidOutB Try.prog = true := by kernel_rfl
theorem cells22 : Try.prog.cellsOf 22 = 1 := by kernel_rfl
theorem cells23 : Try.prog.cellsOf 23 = 1 := by kernel_rfl
theorem cells3 : Try.prog.cellsOf 3 = 1 := by kernel_rfl
theorem cells25 : Try.prog.cellsOf 25 = 2 := by kernel_rfl

/-- An argument of type laws.Chips, laid into the abstract heap. -/
theorem lay_chips {H : Type} {enc : TypeId × Value → H} {W : World} {base b0 : Nat} {held : Bool} {E : Emb} {h : Hp} {v : Value} {d : DataW H} {p : List MemPlace} (hv : Value.okWide Try.prog W .any b0 25 v)
    (hd : DataW.Trod enc Try.prog W base (fun _ => true) held 25 v d p) (st : Go.Eng.Start E h W) : ∃ E' h' a L A, Go.Eng.Start E' h' W ∧ More E h E' h' ∧ VRel E' a v ∧ Chips h' a L A := by
  obtain ⟨c0, c1, y0, y1, m, rfl, rfl, rfl, hy0, hy1⟩ := open_agg2 Try.underlying25 (by kernel_rfl) cells25 hv hd
  obtain ⟨E1, h1, a1, L, s1, m1, v1, r1⟩ := lay_rows Try.underlying22 Try.underlying23 Try.underlying3 cells23 cells3 hy0 st
  obtain ⟨E2, h2, a2, A, s2, m2, v2, r2⟩ := lay_ints Try.underlying23 Try.underlying3 cells3 hy1 s1
  obtain ⟨sa, ca, ea, _, _⟩ := r1.form
  obtain ⟨sb, cb, eb, _, _⟩ := r2.form
  have w1 := m2.vrel _ _ v1
  refine ⟨E2, h2, .agg #[a1, a2], L, A, s2, m1.trans m2, .agg _ _ rfl (fun i hi => ?_) (fun i hi => ?_), _, _, rfl, ⟨_, _, ea⟩, ⟨_, _, eb⟩, r1.keep m2.keep, r2⟩
  · have : i = 0 ∨ i = 1 := by simp at hi; omega
    rcases this with rfl | rfl
    · subst ea; rfl
    · subst eb; rfl
  · have : i = 0 ∨ i = 1 := by simp at hi; omega
    rcases this with rfl | rfl
    · exact w1
    · exact v2

set_option maxRecDepth 100000 in
theorem areChips_lifted (os : Os) (started : os.Started) (H : Type) (enc : TypeId × Value → H) :
    ReturnsInHanded {} Try.checked os 3 .any (Rows.fnExactAreChipsSpec.pre6 enc Try.prog Try.f3 Rows.fnExactAreChipsRow.domain false) (Rows.fnExactAreChipsSpec.post enc Try.prog Try.f3 false true false false) := by
  refine returnsInHanded_of_change (C := Try.checked) own started (by kernel_rfl) Try.func3
    (ChangeSpec.witness6 (enc := enc) (C := Try.checked) false ⟨#[], #[.agg #[.slice none 0 0, .slice none 0 0]], []⟩ 8 (by kernel_rfl) (by kernel_rfl) (by kernel_rfl) (by kernel_rfl)) ?_
  intro W base args ds gs before hval0 hW hcnd _
  have hval : ∀ (j : Nat) t v, Try.f3.params[j]? = some t → args[j]? = some v → Value.okWide Try.prog W .any base t v := hval0
  have hW' := hW
  obtain ⟨p, q, hA0, hV, rfl, hfz, hnd⟩ := hW
  have hA : DataW.TrodAll enc Try.prog W 0 (fun _ => true) true Try.f3.params.toList args.toList ds p := hA0
  rw [Try.params3] at hA hval
  obtain ⟨v0, d0, rfl, rfl, h0⟩ := trodAll_one hA
  obtain ⟨rfl, rfl⟩ := trodVars_none hV
  simp only [List.append_nil] at hW'
  have k0 := h0
  have lt0 : ∀ x ∈ p, x.block < W.heap.size := by obtain ⟨m, hm⟩ := k0; exact DataW.trod_lt m _ _ _ hm
  obtain ⟨E, hh, a, L, A, st, _, hva, hc⟩ := lay_chips (hval 0 25 v0 rfl rfl) h0 (start0 W)
  refine (law_calls (args := #[a]) (args' := #[v0]) st rfl (fun i hi => ?_) (lawAreChips_ok hh a L A hc) rfl).mono fun e W' ⟨he, bel⟩ => ?_
  · have : i = 0 := by simp at hi; omega
    subst this; exact hva
  · subst he
    exact ⟨_, rfl, _, _, _, [], _, [], hW', trodAll_mk1 (shut_bool Try.underlying4 _), trodAll_mk1 (Below.trod laidOut (by kernel_rfl) (of_decide_eq_true (by kernel_rfl)) k0 bel lt0), rfl, bel.frame _, fun h => by cases h⟩

theorem areChips_holds : Rows.FnExactAreChipsSaid :=
  OpenClaim.holds_of_wide 3 Try.f3 rfl rfl rfl rfl rfl rfl rfl ⟨rfl, rfl, rfl, rfl, rfl⟩ rfl rfl rfl rfl rfl (by kernel_rfl) Try.func3 (by kernel_rfl)
    (of_decide_eq_true (by kernel_rfl)) (by unfold Func.isWrapper; first | (rw [if_pos (by decide +kernel)]; kernel_rfl) | (rw [if_neg (by decide +kernel)]; exact ⟨rfl, rfl⟩))
    (fun os started H enc _ => areChips_lifted os started H enc)
end Go.Proofs.Ytdadnaliiegceaa
