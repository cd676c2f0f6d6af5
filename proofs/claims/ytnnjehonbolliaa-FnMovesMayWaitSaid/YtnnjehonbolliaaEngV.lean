/- Slices of bytes: read, laid. -/
import Derived.Test.YtnnjehonbolliaaEngZb
import Derived.Test.YtnnjehonbolliaaEngU
namespace Go.Eng
open Go.ChangeShapes Go.WideShapes Go.Deep

def isByte (_ : Hp) (u : Value) (x : Int) : Prop := u = .int .u8 x ∧ 0 ≤ x ∧ x ≤ 255
/-- A slice of bytes. -/
def Bytes : Hp → Value → List Int → Prop := Sl isByte
/-- .. below a number. -/
def BytesF (base : Nat) : Hp → Value → List Int → Prop := SlF (fun o => o < base) isByte
theorem Bytes.keep {h h' : Hp} (hk : Keeps h h') {v : Value} {xs : List Int} (hs : Bytes h v xs) : Bytes h' v xs := Sl.mono (R := isByte) (h := h) (h' := h') (fun _ _ h => h) hk hs
theorem Bytes.lenD {h : Hp} {v : Value} {xs : List Int} (hs : Bytes h v xs) : ∀ (P : Program) (t : TypeId), Go.Eng.lenD P t v = (elT P t).map fun _ => .int .i64 xs.length := Sl.lenD hs
theorem Bytes.nt {h : Hp} {v : Value} {xs : List Int} (hs : Bytes h v xs) : notTup v = true := Sl.nt hs
theorem Bytes.cs {h : Hp} {v : Value} {xs : List Int} (hs : Bytes h v xs) : v.cells = #[v] := Sl.cs hs
theorem Bytes.len {h : Hp} {v : Value} {xs : List Int} (hs : Bytes h v xs) : xs.length < 2 ^ 63 := Sl.short hs
theorem Bytes.open {h : Hp} {v : Value} {xs : List Int} (hs : Bytes h v xs) (hne : 0 < xs.length) :
    ∃ o i c cs own ex es, v = .slice (some ⟨o, i, none⟩) xs.length c ∧ o < h.next ∧ h.get o = .cells cs own ex es ∧ i + xs.length ≤ cs.length ∧ ∀ k (hk : k < xs.length) (h2 : i + k < cs.length), cs[i + k] = .int .u8 xs[k] ∧ 0 ≤ xs[k] ∧ xs[k] ≤ 255 := by
  obtain ⟨o, i, c, cs, own, ex, es, h1, h2, h3, h4, h5⟩ := Sl.open hs hne
  exact ⟨o, i, c, cs, own, ex, es, h1, h2, h3, h4, fun k hk h2 => by have := h5 k hk; rw [List.getD_eq_getElem?_getD, List.getElem?_eq_getElem h2] at this; exact this⟩
theorem BytesF.same {base : Nat} {h h' : Hp} (hk : Same (fun o => o < base) h h') {v : Value} {xs : List Int} (hs : BytesF base h v xs) : BytesF base h' v xs := SlF.mono (R := isByte) (R' := isByte) (h := h) (h' := h') (fun _ _ h => h) (fun _ h => h) hk hs
theorem BytesF.bytes {base : Nat} {h : Hp} {v : Value} {xs : List Int} (hs : BytesF base h v xs) : Bytes h v xs := SlF.sl hs

section
variable {H : Type} {enc : TypeId × Value → H} {P : Program} {W : World} {base : Nat} {held : Bool} {E : Emb} {h : Hp}
theorem lay_u8s {t e : TypeId} {fuel : Nat} {v : Value} {x : DataW H × List MemPlace} (ht : P.underlying t = some (.slice e)) (he : P.underlying e = some (.int .u8)) (hc : P.cellsOf e = 1)
    (hf : DataW.trod enc P W base (fun _ => true) held fuel t [v] = some x) (st : Start E h W) :
    ∃ E' h' a A, Start E' h' W ∧ More E h E' h' ∧ VRel E' a v ∧ Bytes h' a A := by
  rcases open_ints ht he hc hf with ⟨h1, _⟩ | ⟨a, len, cap, zs, h1, _, hl, hm, hz, _, hcell, hwf⟩
  · simp only [List.cons.injEq, and_true] at h1
    subst h1
    exact ⟨E, h, _, [], st, More.refl E h, .sliceNil, ⟨none, 0, rfl, Nat.le_refl _, by decide, fun k x hk => by simp at hk⟩⟩
  · simp only [List.cons.injEq, and_true] at h1
    subst h1
    simp only [if_true] at hz
    obtain ⟨E', h', v', s1, s2, s3, s4⟩ := add_slice (R := isByte) (W := W) st (fun _ _ _ _ _ h => h) (some a) len cap (zs.map (.int .u8)) (zs.take len) hl (maxLen_lt hm) (by simpa using hz) (fun hx => by cases hx) (by simp; omega) (fun y hy i hi => by
      cases hy
      have e : (zs.map (Value.int .u8)).getD i undef = .int .u8 (zs.getD i 0) := by
        simp [List.getD_eq_getElem?_getD, show i < zs.length by omega]
      rw [e]
      exact ⟨rfl, _, hcell i (by omega), .int _ _⟩) (fun i x hx => by
      have hx' : zs[i]? = some x := by
        rw [List.getElem?_take] at hx
        split at hx
        · exact hx
        · cases hx
      have hmem := List.mem_of_getElem? hx'
      have hw := hwf x hmem
      refine ⟨by simp [List.getD_eq_getElem?_getD, hx'], ?_⟩
      simp [Lit.wf] at hw
      have e1 : IntKind.u8.min = 0 := by decide
      have e2 : IntKind.u8.max = 255 := by decide
      omega)
    exact ⟨E', h', v', _, s1, s2, s3, s4⟩
end
end Go.Eng
