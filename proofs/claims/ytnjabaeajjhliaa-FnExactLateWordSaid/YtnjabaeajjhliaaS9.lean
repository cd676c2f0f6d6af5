/- Desks as one value; the first desk; what a desk is. -/
import Derived.Test.YtnjabaeajjhliaaS5
namespace Go.Proofs.Ytnjabaeajjhliaa
set_option linter.unusedSimpArgs false
set_option linter.unusedVariables false
set_option maxHeartbeats 4000000
open Go Go.Eng
attribute [local irreducible] WD RunD PreD Runs CallOK

/-- A desk, read: a space's number of items and sets, and a set. -/
def Desk (h : Hp) (v : Value) (N : Int) (X : List Int) (D : Int) : Prop := ∃ b, v = .agg #[.int .i64 N, b, .int .i64 D] ∧ Ints h b X
theorem Desk.keep {h h' : Hp} (hk : Keeps h h') {v : Value} {N : Int} {X : List Int} {D : Int} (hv : Desk h v N X D) : Desk h' v N X D := by
  obtain ⟨b, e, h1⟩ := hv
  exact ⟨b, e, h1.keep hk⟩
theorem Desk.mk {h : Hp} {b : Value} {N D : Int} {X : List Int} (hX : Ints h b X) : Desk h (.agg #[.int .i64 N, b, .int .i64 D]) N X D := ⟨b, rfl, hX⟩
/-- A desk in objects of S, that may be written. -/
def DeskO (S : Nat → Prop) (h : Hp) (v : Value) (N : Int) (X : List Int) (D : Int) : Prop := ∃ b, v = .agg #[.int .i64 N, b, .int .i64 D] ∧ IntsO S h b X
theorem DeskO.desk {S : Nat → Prop} {h : Hp} {v : Value} {N : Int} {X : List Int} {D : Int} (hv : DeskO S h v N X D) : Desk h v N X D := by
  obtain ⟨b, e, h1⟩ := hv
  exact ⟨b, e, h1.ints⟩
theorem DeskO.same {S : Nat → Prop} {h h' : Hp} (hk : Same S h h') {v : Value} {N : Int} {X : List Int} {D : Int} (hv : DeskO S h v N X D) : DeskO S h' v N X D := by
  obtain ⟨b, e, h1⟩ := hv
  exact ⟨b, e, h1.same hk⟩
theorem DeskO.keep {S : Nat → Prop} {h h' : Hp} (hk : Keeps h h') {v : Value} {N : Int} {X : List Int} {D : Int} (hv : DeskO S h v N X D) : DeskO S h' v N X D := hv.same (.of_keeps hk)
theorem DeskO.sub {S T : Nat → Prop} (hst : ∀ x, S x → T x) {h : Hp} {v : Value} {N : Int} {X : List Int} {D : Int} (hv : DeskO S h v N X D) : DeskO T h v N X D := by
  obtain ⟨b, e, h1⟩ := hv
  exact ⟨b, e, h1.sub hst⟩

def desk0 : List Int := [0, 1, 2, 3, 5, 6, 7]
end Go.Proofs.Ytnjabaeajjhliaa
