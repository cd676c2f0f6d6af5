/- Arguments as a row hands them, laid into the abstract heap. -/
import Derived.Test.YtnnjehonbolliaaEngX
import Derived.Deep.Matrix
import Derived.ChangeSlices
import Derived.RowKit
import Derived.WideShapes
namespace Go.Eng
open Go.ChangeShapes Go.WideShapes Go.Deep Go.ChangeShapes 

section
variable {H : Type} {enc : TypeId × Value → H} {P : Program} {W : World} {base : Nat} {held : Bool} {E : Emb} {h : Hp}

theorem maxLen_lt {c : Nat} (hc : c ≤ maxLen) : c < 2 ^ 63 := by unfold maxLen at hc; omega

theorem lay_ints {t e : TypeId} {fuel : Nat} {v : Value} {x : DataW H × List MemPlace} (ht : P.underlying t = some (.slice e)) (he : P.underlying e = some (.int .i64)) (hc : P.cellsOf e = 1)
    (hf : DataW.trod enc P W base (fun _ => true) held fuel t [v] = some x) (st : Start E h W) :
    ∃ E' h' a A, Start E' h' W ∧ More E h E' h' ∧ VRel E' a v ∧ Ints h' a A := by
  rcases open_ints ht he hc hf with ⟨h1, _⟩ | ⟨a, len, cap, zs, h1, _, hl, hm, hz, _, hcell, _⟩
  · simp only [List.cons.injEq, and_true] at h1
    subst h1
    obtain ⟨E', h', v', s1, s2, s3, s4⟩ := add_ints st none 0 0 [] (Nat.le_refl _) (by decide) rfl (fun _ => rfl) (fun _ hx => by cases hx)
    exact ⟨E', h', v', _, s1, s2, s3, s4⟩
  · simp only [List.cons.injEq, and_true] at h1
    subst h1
    simp only [if_true] at hz
    obtain ⟨E', h', v', s1, s2, s3, s4⟩ := add_ints st (some a) len cap zs hl (maxLen_lt hm) hz (fun hx => by cases hx) (fun y hy i hi => by cases hy; exact hcell i (by omega))
    exact ⟨E', h', v', _, s1, s2, s3, s4⟩

theorem lay_rows {t e q : TypeId} {fuel : Nat} {v : Value} {x : DataW H × List MemPlace} (ht : P.underlying t = some (.slice e)) (he : P.underlying e = some (.slice q)) (hq : P.underlying q = some (.int .i64))
    (ce : P.cellsOf e = 1) (cq : P.cellsOf q = 1) (hf : DataW.trod enc P W base (fun _ => true) held fuel t [v] = some x) (st : Start E h W) :
    ∃ E' h' a L, Start E' h' W ∧ More E h E' h' ∧ VRel E' a v ∧ IRows h' a L := by
  rcases open_int_rows ht he hq ce cq hf with ⟨h1, _⟩ | ⟨a, len, cap, A, L, C, Z, h1, _, hl, hm, _, hrows⟩
  · simp only [List.cons.injEq, and_true] at h1
    subst h1
    obtain ⟨E', h', v', s1, s2, s3, s4⟩ := add_rows st none 0 0 (fun _ => none) (fun _ => 0) (fun _ => 0) (fun _ => []) (Nat.le_refl _) (by decide) (fun _ => rfl) (fun _ hx => by cases hx)
    exact ⟨E', h', v', _, s1, s2, s3, s4⟩
  · simp only [List.cons.injEq, and_true] at h1
    subst h1
    obtain ⟨E', h', v', s1, s2, s3, s4⟩ := add_rows st (some a) len cap A L C Z hl (maxLen_lt hm) (fun hx => by cases hx) (fun y hy r hr => by
      cases hy
      obtain ⟨g1, g2, g3, g4, _, g5, g6⟩ := hrows r hr
      exact ⟨g1, g2, maxLen_lt g3, g4, g5, fun a' ha' c hc => (g6 a' ha').2 c hc⟩)
    exact ⟨E', h', v', _, s1, s2, s3, s4⟩
end
end Go.Eng
