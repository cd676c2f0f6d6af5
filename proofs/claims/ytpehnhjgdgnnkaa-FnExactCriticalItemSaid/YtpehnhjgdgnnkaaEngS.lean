/- The start: arguments that came in as read-only objects; and what a law's call says in the model's own words. -/
import Derived.Test.YtpehnhjgdgnnkaaEngR
import Derived.Below
namespace Go.Eng
open Go.RowKit (Below)

/-- Slices, element by element (elements of one cell). -/
def Sl {α : Type} (R : Hp → Value → α → Prop) (h : Hp) (v : Value) (xs : List α) : Prop :=
  ∃ s c, v = .slice s xs.length c ∧ xs.length ≤ c ∧ c < 2 ^ 63 ∧ ∀ k x, xs[k]? = some x → ∃ o i cs own ex es, s = some ⟨o, i, none⟩ ∧ o < h.next ∧ h.get o = .cells cs own ex es ∧ i + k < cs.length ∧ R h (cs.getD (i + k) undef) x

def isInt (_ : Hp) (u : Value) (x : Int) : Prop := u = .int .i64 x
def Ints : Hp → Value → List Int → Prop := Sl isInt
def IRows : Hp → Value → List (List Int) → Prop := Sl Ints

theorem Sl.mono {α : Type} {R : Hp → Value → α → Prop} {h h' : Hp} (hR : ∀ u x, R h u x → R h' u x) (hk : Keeps h h') {v : Value} {xs : List α} (hs : Sl R h v xs) : Sl R h' v xs := by
  obtain ⟨s, c, e, hc, hc', hx⟩ := hs
  refine ⟨s, c, e, hc, hc', fun k x hk' => ?_⟩
  obtain ⟨o, i, cs, own, ex, es, h1, h2, h3, h4, h5⟩ := hx k x hk'
  exact ⟨o, i, cs, own, ex, es, h1, Nat.lt_of_lt_of_le h2 hk.1, by rw [hk.2 o h2]; exact h3, h4, hR _ _ h5⟩
theorem Ints.keep {h h' : Hp} (hk : Keeps h h') {v : Value} {xs : List Int} (hs : Ints h v xs) : Ints h' v xs := Sl.mono (R := isInt) (h := h) (h' := h') (fun _ _ h => h) hk hs
theorem IRows.keep {h h' : Hp} (hk : Keeps h h') {v : Value} {xs : List (List Int)} (hs : IRows h v xs) : IRows h' v xs := Sl.mono (R := Ints) (fun _ _ h => Ints.keep hk h) hk hs

structure Start (E : Emb) (h : Hp) (W : World) : Prop where
  rel : HRel E W.heap.size h W.heap
  ro : ∀ o, E.D o → (h.get o).owned = false

theorem start0 (W : World) : Start ⟨fun _ => False, fun _ => 0, fun _ => 0, fun _ => 0⟩ ⟨fun _ => .dead, 0⟩ W :=
  ⟨⟨Nat.le_refl _, fun _ h => h.elim, fun _ h => h.elim, fun _ _ h => h.elim⟩, fun _ h => h.elim⟩

/-- One start goes on to another. -/
structure More (E : Emb) (h : Hp) (E' : Emb) (h' : Hp) : Prop where
  vrel : ∀ x y, VRel E x y → VRel E' x y
  keep : Keeps h h'
theorem More.refl (E : Emb) (h : Hp) : More E h E h := ⟨fun _ _ h => h, Keeps.refl h⟩
theorem More.trans {E E1 E2 : Emb} {h h1 h2 : Hp} (a : More E h E1 h1) (b : More E1 h1 E2 h2) : More E h E2 h2 := ⟨fun x y h => b.vrel x y (a.vrel x y h), a.keep.trans b.keep⟩

/-- One object more, read-only. -/
theorem add_ro {E : Emb} {h : Hp} {W : World} (st : Start E h W) (x : Addr) (cs : List Value) (hpos : 0 < cs.length)
    (hc : ∀ i, i < cs.length → (cs.getD i undef).oneCell' = true ∧ ∃ v', W.cell? (x.add i) = some v' ∧ VRel E (cs.getD i undef) v') :
    x.spot = none ∧ Start (E.add h.next x.block x.off 0) (h.alloc (.cells cs false true 1)) W ∧ More E h (E.add h.next x.block x.off 0) (h.alloc (.cells cs false true 1)) := by
  have hD : ∀ i, E.D i → (E.add h.next x.block x.off 0).D i ∧ (E.add h.next x.block x.off 0).blk i = E.blk i ∧ (E.add h.next x.block x.off 0).off i = E.off i ∧ (E.add h.next x.block x.off 0).slk i = E.slk i := fun i hd => by
    obtain ⟨a, b, c, d⟩ := E.add_ext h.next x.block x.off 0 i (st.rel.lt i hd); exact ⟨a.2 hd, b, c, d⟩
  obtain ⟨_, v0, h0, _⟩ := hc 0 hpos
  have hx0 : x.add 0 = x := by simp [Addr.add]
  rw [hx0] at h0
  have hspot : x.spot = none := by
    unfold World.cell? at h0
    split at h0
    · cases hs : x.spot with
      | none => rfl
      | some s => simp [hs] at h0
    · cases h0
  obtain ⟨C, ty, fz, hb⟩ : ∃ C ty fz, W.heap[x.block]? = some (.cells C ty fz) := by
    unfold World.cell? at h0
    split at h0
    · exact ⟨_, _, _, by assumption⟩
    · cases h0
  have hadd : ∀ i, x.add i = ⟨x.block, x.off + i, none⟩ := fun i => by
    obtain ⟨b, o, s⟩ := x
    simp only at hspot
    subst hspot
    exact add_plain' b o i
  have hcell : ∀ i, i < cs.length → x.off + i < C.size ∧ VRel E (cs.getD i undef) (C.getD (x.off + i) undef) := by
    intro i hi
    obtain ⟨_, v', h1, h2⟩ := hc i hi
    rw [hadd i] at h1
    simp only [World.cell?, hb, Option.isSome_none] at h1
    obtain ⟨hlt, e⟩ := Array.getElem?_eq_some_iff.1 (by simpa using h1)
    refine ⟨hlt, ?_⟩
    rw [Array.getD_eq_getD_getElem?, Array.getElem?_eq_getElem hlt, e]
    exact h2
  have hget : ∀ o, o < h.next → (h.alloc (.cells cs false true 1)).get o = h.get o := fun o ho => by simp [Hp.alloc, show o ≠ h.next by omega]
  have hgn : (h.alloc (.cells cs false true 1)).get h.next = .cells cs false true 1 := by simp [Hp.alloc]
  refine ⟨hspot, ⟨⟨Nat.le_refl _, fun o ho => ?_, fun o ho => ?_, fun o o' ho ho' hne h1 h2 => ?_⟩, fun o ho => ?_⟩, ⟨fun a b hab => hab.mono hD, Keeps.alloc h _⟩⟩
  · rcases ho with rfl | ho
    · exact Nat.lt_succ_self _
    · exact Nat.lt_succ_of_lt (st.rel.lt o ho)
  · rcases ho with rfl | ho
    · rw [hgn]
      have hlast := (hcell (cs.length - 1) (by omega)).1
      refine ⟨C, ty, fz, by simp [Emb.add]; exact hb, by simp [Emb.add]; omega, fun i hi => ?_, fun i hi => (hc i hi).1, fun e => (by cases e), fun _ => by simp [Emb.add]⟩
      have := (hcell i hi).2.mono hD
      simpa [Emb.add] using this
    · rw [hget o (st.rel.lt o ho)]
      exact (st.rel.obj o ho).mono hD ho rfl
  · rcases ho with rfl | ho
    · rw [hgn] at h1; cases h1
    · rw [hget o (st.rel.lt o ho), st.ro o ho] at h1; cases h1
  · rcases ho with rfl | ho
    · rw [hgn]; rfl
    · rw [hget o (st.rel.lt o ho)]; exact st.ro o ho

/-- A slice whose elements are there as abstract values. -/
theorem add_slice {α : Type} {R : Hp → Value → α → Prop} {E : Emb} {h : Hp} {W : World} (st : Start E h W) (hR : ∀ h h' u x, Keeps h h' → R h u x → R h' u x) (a : Option Addr) (len cap : Nat) (cs : List Value) (xs : List α)
    (hlc : len ≤ cap) (hcap : cap < 2 ^ 63) (hcs : cs.length = cap) (hnil : a = none → cap = 0) (hlen : xs.length = len)
    (hc : ∀ x, a = some x → ∀ i, i < cap → (cs.getD i undef).oneCell' = true ∧ ∃ v', W.cell? (x.add i) = some v' ∧ VRel E (cs.getD i undef) v') (hr : ∀ i x, xs[i]? = some x → R h (cs.getD i undef) x) :
    ∃ E' h' v, Start E' h' W ∧ More E h E' h' ∧ VRel E' v (.slice a len cap) ∧ Sl R h' v xs := by
  cases a with
  | none =>
    have := hnil rfl
    subst this
    have h0 : len = 0 := by omega
    subst h0
    refine ⟨E, h, _, st, More.refl E h, .sliceNil, ⟨none, 0, by rw [hlen], by omega, by decide, fun k x hk => ?_⟩⟩
    have := List.length_eq_zero_iff.1 hlen
    subst this; simp at hk
  | some x =>
    by_cases h0 : cap = 0
    · subst h0
      have h0 : len = 0 := by omega
      subst h0
      refine ⟨E, h, _, st, More.refl E h, .slice0 x, ⟨some ⟨0, 0, some 0⟩, 0, by rw [hlen], by omega, by decide, fun k x hk => ?_⟩⟩
      have := List.length_eq_zero_iff.1 hlen
      subst this; simp at hk
    · obtain ⟨hsp, st', mo⟩ := add_ro st x cs (by omega) (fun i hi => hc x rfl i (by omega))
      refine ⟨_, _, .slice (some ⟨h.next, 0, none⟩) len cap, st', mo, ?_, ⟨some ⟨h.next, 0, none⟩, cap, by rw [hlen], by omega, hcap, fun k y hk => ?_⟩⟩
      · have := VRel.slice (E := E.add h.next x.block x.off 0) h.next 0 len cap x (.inl rfl) hlc (.inr (by
          obtain ⟨b, o, s⟩ := x
          simp only at hsp
          subst hsp
          simp [Emb.add]))
        simpa [Emb.add] using this
      · have hkl : k < xs.length := (List.getElem?_eq_some_iff.1 hk).1
        refine ⟨h.next, 0, cs, false, true, 1, rfl, Nat.lt_succ_self _, by simp [Hp.alloc], by omega, ?_⟩
        rw [Nat.zero_add]
        exact hR _ _ _ _ mo.keep (hr k y hk)

theorem add_ints {E : Emb} {h : Hp} {W : World} (st : Start E h W) (a : Option Addr) (len cap : Nat) (zs : List Int) (hlc : len ≤ cap) (hcap : cap < 2 ^ 63) (hz : zs.length = cap) (hnil : a = none → cap = 0)
    (hc : ∀ x, a = some x → ∀ i, i < cap → W.cell? (x.add i) = some (.int .i64 (zs.getD i 0))) :
    ∃ E' h' v, Start E' h' W ∧ More E h E' h' ∧ VRel E' v (.slice a len cap) ∧ Ints h' v (zs.take len) := by
  refine add_slice (R := isInt) st (fun _ _ _ _ _ h => h) a len cap (zs.map (.int .i64)) (zs.take len) hlc hcap (by simpa using hz) hnil (by simp; omega) (fun x hx i hi => ?_) (fun i x hx => ?_)
  · have e : (zs.map (Value.int .i64)).getD i undef = .int .i64 (zs.getD i 0) := by
      simp [List.getD_eq_getElem?_getD, show i < zs.length by omega]
    rw [e]
    exact ⟨rfl, _, hc x hx i hi, .int _ _⟩
  · have hx' : zs[i]? = some x := by
      rw [List.getElem?_take] at hx
      split at hx
      · exact hx
      · cases hx
    simp [isInt, List.getD_eq_getElem?_getD, hx']

theorem add_rows {E : Emb} {h : Hp} {W : World} (st : Start E h W) (a : Option Addr) (len cap : Nat) (A : Nat → Option Addr) (L C : Nat → Nat) (Z : Nat → List Int) (hlc : len ≤ cap) (hcap : cap < 2 ^ 63) (hnil : a = none → cap = 0)
    (hc : ∀ x, a = some x → ∀ r, r < cap → W.cell? (x.add r) = some (.slice (A r) (L r) (C r)) ∧ L r ≤ C r ∧ C r < 2 ^ 63 ∧ (Z r).length = C r ∧ (A r = none → C r = 0) ∧ ∀ a', A r = some a' → ∀ c, c < C r → W.cell? (a'.add c) = some (.int .i64 ((Z r).getD c 0))) :
    ∃ E' h' v, Start E' h' W ∧ More E h E' h' ∧ VRel E' v (.slice a len cap) ∧ IRows h' v ((List.range len).map fun r => (Z r).take (L r)) := by
  cases a with
  | none =>
    have := hnil rfl
    subst this
    have h0 : len = 0 := by omega
    subst h0
    exact add_slice (R := Ints) st (fun _ _ _ _ hk h => Ints.keep hk h) none 0 0 [] _ (Nat.le_refl _) (by decide) rfl (fun _ => rfl) (by simp) (fun x hx => by cases hx) (fun i x hx => by simp at hx)
  | some x =>
    have hc := hc x rfl
    -- the rows, one after the other
    have rows : ∀ m, m ≤ cap → ∃ (E' : Emb) (h' : Hp) (cs : List Value), Start E' h' W ∧ More E h E' h' ∧ cs.length = m ∧
        ∀ r, r < m → (cs.getD r undef).oneCell' = true ∧ VRel E' (cs.getD r undef) (.slice (A r) (L r) (C r)) ∧ Ints h' (cs.getD r undef) ((Z r).take (L r)) := by
      intro m
      induction m with
      | zero => intro _; exact ⟨E, h, [], st, More.refl E h, rfl, fun r hr => absurd hr (by omega)⟩
      | succ m ih =>
        intro hm
        obtain ⟨E1, h1, cs, st1, mo1, hl1, hr1⟩ := ih (by omega)
        obtain ⟨c1, c2, c2', c3, c4, c5⟩ := hc m (by omega)
        obtain ⟨E2, h2, v, st2, mo2, hv, hi⟩ := add_ints st1 (A m) (L m) (C m) (Z m) c2 c2' c3 c4 c5
        refine ⟨E2, h2, cs ++ [v], st2, mo1.trans mo2, by simp [hl1], fun r hr => ?_⟩
        by_cases e : r = m
        · subst e
          have : (cs ++ [v]).getD r undef = v := by simp [List.getD_eq_getElem?_getD, ← hl1]
          rw [this]
          exact ⟨hv.oneCell.symm, hv, hi⟩
        · have : (cs ++ [v]).getD r undef = cs.getD r undef := getD_append_left (by omega)
          rw [this]
          obtain ⟨g1, g2, g3⟩ := hr1 r (by omega)
          exact ⟨g1, mo2.vrel _ _ g2, g3.keep mo2.keep⟩
    obtain ⟨E1, h1, cs, st1, mo1, hl1, hr1⟩ := rows cap (Nat.le_refl _)
    obtain ⟨E2, h2, v, st2, mo2, hv, hi⟩ := add_slice (R := Ints) st1 (fun _ _ _ _ hk h => Ints.keep hk h) (some x) len cap cs ((List.range len).map fun r => (Z r).take (L r)) hlc hcap hl1 (fun e => (by cases e)) (by simp)
      (fun y hy i hi => ⟨(hr1 i hi).1, _, by cases hy; exact (hc i hi).1, (hr1 i hi).2.1⟩) (fun i y hy => by
        have hi : i < len := by have := (List.getElem?_eq_some_iff.1 hy).1; simpa using this
        simp [hi] at hy
        rw [← hy]
        exact (hr1 i (by omega)).2.2)
    exact ⟨E2, h2, v, st2, mo1.trans mo2, hv, hi⟩

/-- What a law's call says in the model's own words. -/
theorem law_calls {P : Program} {f : FuncId} {W : World} {E : Emb} {h h' : Hp} {args args' : Array Value} {v : Value} (st : Start E h W) (hs : args.size = args'.size) (hv : ∀ i, i < args.size → VRel E (args.getD i undef) (args'.getD i undef))
    (hc : CallOK P f args h v h') (hp : plainV v = true) : Calls P f args' W fun e W' => e = .returned v ∧ Below W.heap.size W W' := by
  refine (hc E W.heap.size W args' st.rel hs hv).mono fun e W' ⟨E', v', he, s, _, hv'⟩ => ?_
  have hvv : v' = v := by
    clear he s hc hv hs
    unfold plainV at hp
    have key : ∀ {u u' : Value}, plainS u = true → VRel E' u u' → u' = u := by
      intro u u' hu hr
      unfold plainS at hu
      split at hu <;> first | exact absurd hu Bool.false_ne_true | (cases hr; rfl)
    split at hp
    · rename_i cs
      cases hv' with
      | agg _ c' hs' _ hr =>
        congr 1
        exact ext_getD hs'.symm fun i hi => key (all_getD hp (by omega)) (hr i (by omega))
    · rename_i cs
      cases hv' with
      | tuple _ c' hs' hr =>
        congr 1
        exact ext_getD hs'.symm fun i hi => key (all_getD hp (by omega)) (hr i (by omega))
    · exact key hp hv'
  refine ⟨by rw [he, hvv], s.os, s.tape, s.output, s.size, fun k hk => ?_⟩
  exact s.keep k hk fun o ho hown => by rw [st.ro o ho] at hown; cases hown

end Go.Eng
