/- The start: arguments that came in as read-only objects; and what a law's call says in the model's own words. A loop with its rest kept behind a name; elements; whole numbers that do not wrap. Slices of whole numbers that a call has made: they may be written; in which objects they lie; growing by one. Loops that keep slots; heaps behind a name; what is known of a slice without its address; a guarded call in a drawn part. Slices of things that lie in objects of their own (rows): they may be written, row by row; growing by one. -/
import Derived.Test.YtnnjehonbolliaaEngR
import Derived.Below
section
namespace Go.Eng
open Go.RowKit (Below)

/-- Slices, element by element (elements of one cell). -/
def Sl {α : Type} (R : Hp → Value → α → Prop) (h : Hp) (v : Value) (xs : List α) : Prop :=
  ∃ s c, v = .slice s xs.length c ∧ xs.length ≤ c ∧ c < 2 ^ 63 ∧ ∀ k x, xs[k]? = some x → ∃ o i cs own ex es, s = some ⟨o, i, none⟩ ∧ o < h.next ∧ h.get o = .cells cs own ex es ∧ i + k < cs.length ∧ R h (cs.getD (i + k) undef) x

def isInt (_ : Hp) (u : Value) (x : Int) : Prop := u = .int .i64 x
def Ints : Hp → Value → List Int → Prop := Sl isInt
def IRows : Hp → Value → List (List Int) → Prop := Sl Ints

theorem Sl.mono {α : Type} {R : Hp → Value → α → Prop} {h h' : Hp} (hR : ∀ u x, R h u x → R h' u x) (hk : Keeps h h') {v : Value} {xs : List α} (hs : Sl R h v xs) : Sl R h' v xs := by
  obtain ⟨s, c, e, hc, hc', hx⟩ := hs
  refine ⟨s, c, e, hc, hc', fun k x hk' => ?_⟩
  obtain ⟨o, i, cs, own, ex, es, h1, h2, h3, h4, h5⟩ := hx k x hk'
  exact ⟨o, i, cs, own, ex, es, h1, Nat.lt_of_lt_of_le h2 hk.1, by rw [hk.2 o h2]; exact h3, h4, hR _ _ h5⟩
theorem Ints.keep {h h' : Hp} (hk : Keeps h h') {v : Value} {xs : List Int} (hs : Ints h v xs) : Ints h' v xs := Sl.mono (R := isInt) (h := h) (h' := h') (fun _ _ h => h) hk hs
theorem IRows.keep {h h' : Hp} (hk : Keeps h h') {v : Value} {xs : List (List Int)} (hs : IRows h v xs) : IRows h' v xs := Sl.mono (R := Ints) (fun _ _ h => Ints.keep hk h) hk hs

structure Start (E : Emb) (h : Hp) (W : World) : Prop where
  rel : HRel E W.heap.size h W.heap
  ro : ∀ o, E.D o → (h.get o).owned = false

theorem start0 (W : World) : Start ⟨fun _ => False, fun _ => 0, fun _ => 0, fun _ => 0⟩ ⟨fun _ => .dead, 0⟩ W :=
  ⟨⟨Nat.le_refl _, fun _ h => h.elim, fun _ h => h.elim, fun _ _ h => h.elim⟩, fun _ h => h.elim⟩

/-- One start goes on to another. -/
structure More (E : Emb) (h : Hp) (E' : Emb) (h' : Hp) : Prop where
  vrel : ∀ x y, VRel E x y → VRel E' x y
  keep : Keeps h h'
theorem More.refl (E : Emb) (h : Hp) : More E h E h := ⟨fun _ _ h => h, Keeps.refl h⟩
theorem More.trans {E E1 E2 : Emb} {h h1 h2 : Hp} (a : More E h E1 h1) (b : More E1 h1 E2 h2) : More E h E2 h2 := ⟨fun x y h => b.vrel x y (a.vrel x y h), a.keep.trans b.keep⟩

/-- One object more, read-only. -/
theorem add_ro {E : Emb} {h : Hp} {W : World} (st : Start E h W) (x : Addr) (cs : List Value) (hpos : 0 < cs.length)
    (hc : ∀ i, i < cs.length → (cs.getD i undef).oneCell' = true ∧ ∃ v', W.cell? (x.add i) = some v' ∧ VRel E (cs.getD i undef) v') :
    x.spot = none ∧ Start (E.add h.next x.block x.off 0) (h.alloc (.cells cs false true 1)) W ∧ More E h (E.add h.next x.block x.off 0) (h.alloc (.cells cs false true 1)) := by
  have hD : ∀ i, E.D i → (E.add h.next x.block x.off 0).D i ∧ (E.add h.next x.block x.off 0).blk i = E.blk i ∧ (E.add h.next x.block x.off 0).off i = E.off i ∧ (E.add h.next x.block x.off 0).slk i = E.slk i := fun i hd => by
    obtain ⟨a, b, c, d⟩ := E.add_ext h.next x.block x.off 0 i (st.rel.lt i hd); exact ⟨a.2 hd, b, c, d⟩
  obtain ⟨_, v0, h0, _⟩ := hc 0 hpos
  have hx0 : x.add 0 = x := by simp [Addr.add]
  rw [hx0] at h0
  have hspot : x.spot = none := by
    unfold World.cell? at h0
    split at h0
    · cases hs : x.spot with
      | none => rfl
      | some s => simp [hs] at h0
    · cases h0
  obtain ⟨C, ty, fz, hb⟩ : ∃ C ty fz, W.heap[x.block]? = some (.cells C ty fz) := by
    unfold World.cell? at h0
    split at h0
    · exact ⟨_, _, _, by assumption⟩
    · cases h0
  have hadd : ∀ i, x.add i = ⟨x.block, x.off + i, none⟩ := fun i => by
    obtain ⟨b, o, s⟩ := x
    simp only at hspot
    subst hspot
    exact add_plain' b o i
  have hcell : ∀ i, i < cs.length → x.off + i < C.size ∧ VRel E (cs.getD i undef) (C.getD (x.off + i) undef) := by
    intro i hi
    obtain ⟨_, v', h1, h2⟩ := hc i hi
    rw [hadd i] at h1
    simp only [World.cell?, hb, Option.isSome_none] at h1
    obtain ⟨hlt, e⟩ := Array.getElem?_eq_some_iff.1 (by simpa using h1)
    refine ⟨hlt, ?_⟩
    rw [Array.getD_eq_getD_getElem?, Array.getElem?_eq_getElem hlt, e]
    exact h2
  have hget : ∀ o, o < h.next → (h.alloc (.cells cs false true 1)).get o = h.get o := fun o ho => by simp [Hp.alloc, show o ≠ h.next by omega]
  have hgn : (h.alloc (.cells cs false true 1)).get h.next = .cells cs false true 1 := by simp [Hp.alloc]
  refine ⟨hspot, ⟨⟨Nat.le_refl _, fun o ho => ?_, fun o ho => ?_, fun o o' ho ho' hne h1 h2 => ?_⟩, fun o ho => ?_⟩, ⟨fun a b hab => hab.mono hD, Keeps.alloc h _⟩⟩
  · rcases ho with rfl | ho
    · exact Nat.lt_succ_self _
    · exact Nat.lt_succ_of_lt (st.rel.lt o ho)
  · rcases ho with rfl | ho
    · rw [hgn]
      have hlast := (hcell (cs.length - 1) (by omega)).1
      refine ⟨C, ty, fz, by simp [Emb.add]; exact hb, by simp [Emb.add]; omega, fun i hi => ?_, fun i hi => (hc i hi).1, fun e => (by cases e), fun _ => by simp [Emb.add]⟩
      have := (hcell i hi).2.mono hD
      simpa [Emb.add] using this
    · rw [hget o (st.rel.lt o ho)]
      exact (st.rel.obj o ho).mono hD ho rfl
  · rcases ho with rfl | ho
    · rw [hgn] at h1; cases h1
    · rw [hget o (st.rel.lt o ho), st.ro o ho] at h1; cases h1
  · rcases ho with rfl | ho
    · rw [hgn]; rfl
    · rw [hget o (st.rel.lt o ho)]; exact st.ro o ho

/-- A slice whose elements are there as abstract values. -/
theorem add_slice {α : Type} {R : Hp → Value → α → Prop} {E : Emb} {h : Hp} {W : World} (st : Start E h W) (hR : ∀ h h' u x, Keeps h h' → R h u x → R h' u x) (a : Option Addr) (len cap : Nat) (cs : List Value) (xs : List α)
    (hlc : len ≤ cap) (hcap : cap < 2 ^ 63) (hcs : cs.length = cap) (hnil : a = none → cap = 0) (hlen : xs.length = len)
    (hc : ∀ x, a = some x → ∀ i, i < cap → (cs.getD i undef).oneCell' = true ∧ ∃ v', W.cell? (x.add i) = some v' ∧ VRel E (cs.getD i undef) v') (hr : ∀ i x, xs[i]? = some x → R h (cs.getD i undef) x) :
    ∃ E' h' v, Start E' h' W ∧ More E h E' h' ∧ VRel E' v (.slice a len cap) ∧ Sl R h' v xs := by
  cases a with
  | none =>
    have := hnil rfl
    subst this
    have h0 : len = 0 := by omega
    subst h0
    refine ⟨E, h, _, st, More.refl E h, .sliceNil, ⟨none, 0, by rw [hlen], by omega, by decide, fun k x hk => ?_⟩⟩
    have := List.length_eq_zero_iff.1 hlen
    subst this; simp at hk
  | some x =>
    by_cases h0 : cap = 0
    · subst h0
      have h0 : len = 0 := by omega
      subst h0
      refine ⟨E, h, _, st, More.refl E h, .slice0 x, ⟨some ⟨0, 0, some 0⟩, 0, by rw [hlen], by omega, by decide, fun k x hk => ?_⟩⟩
      have := List.length_eq_zero_iff.1 hlen
      subst this; simp at hk
    · obtain ⟨hsp, st', mo⟩ := add_ro st x cs (by omega) (fun i hi => hc x rfl i (by omega))
      refine ⟨_, _, .slice (some ⟨h.next, 0, none⟩) len cap, st', mo, ?_, ⟨some ⟨h.next, 0, none⟩, cap, by rw [hlen], by omega, hcap, fun k y hk => ?_⟩⟩
      · have := VRel.slice (E := E.add h.next x.block x.off 0) h.next 0 len cap x (.inl rfl) hlc (.inr (by
          obtain ⟨b, o, s⟩ := x
          simp only at hsp
          subst hsp
          simp [Emb.add]))
        simpa [Emb.add] using this
      · have hkl : k < xs.length := (List.getElem?_eq_some_iff.1 hk).1
        refine ⟨h.next, 0, cs, false, true, 1, rfl, Nat.lt_succ_self _, by simp [Hp.alloc], by omega, ?_⟩
        rw [Nat.zero_add]
        exact hR _ _ _ _ mo.keep (hr k y hk)

theorem add_ints {E : Emb} {h : Hp} {W : World} (st : Start E h W) (a : Option Addr) (len cap : Nat) (zs : List Int) (hlc : len ≤ cap) (hcap : cap < 2 ^ 63) (hz : zs.length = cap) (hnil : a = none → cap = 0)
    (hc : ∀ x, a = some x → ∀ i, i < cap → W.cell? (x.add i) = some (.int .i64 (zs.getD i 0))) :
    ∃ E' h' v, Start E' h' W ∧ More E h E' h' ∧ VRel E' v (.slice a len cap) ∧ Ints h' v (zs.take len) := by
  refine add_slice (R := isInt) st (fun _ _ _ _ _ h => h) a len cap (zs.map (.int .i64)) (zs.take len) hlc hcap (by simpa using hz) hnil (by simp; omega) (fun x hx i hi => ?_) (fun i x hx => ?_)
  · have e : (zs.map (Value.int .i64)).getD i undef = .int .i64 (zs.getD i 0) := by
      simp [List.getD_eq_getElem?_getD, show i < zs.length by omega]
    rw [e]
    exact ⟨rfl, _, hc x hx i hi, .int _ _⟩
  · have hx' : zs[i]? = some x := by
      rw [List.getElem?_take] at hx
      split at hx
      · exact hx
      · cases hx
    simp [isInt, List.getD_eq_getElem?_getD, hx']

theorem add_rows {E : Emb} {h : Hp} {W : World} (st : Start E h W) (a : Option Addr) (len cap : Nat) (A : Nat → Option Addr) (L C : Nat → Nat) (Z : Nat → List Int) (hlc : len ≤ cap) (hcap : cap < 2 ^ 63) (hnil : a = none → cap = 0)
    (hc : ∀ x, a = some x → ∀ r, r < cap → W.cell? (x.add r) = some (.slice (A r) (L r) (C r)) ∧ L r ≤ C r ∧ C r < 2 ^ 63 ∧ (Z r).length = C r ∧ (A r = none → C r = 0) ∧ ∀ a', A r = some a' → ∀ c, c < C r → W.cell? (a'.add c) = some (.int .i64 ((Z r).getD c 0))) :
    ∃ E' h' v, Start E' h' W ∧ More E h E' h' ∧ VRel E' v (.slice a len cap) ∧ IRows h' v ((List.range len).map fun r => (Z r).take (L r)) := by
  cases a with
  | none =>
    have := hnil rfl
    subst this
    have h0 : len = 0 := by omega
    subst h0
    exact add_slice (R := Ints) st (fun _ _ _ _ hk h => Ints.keep hk h) none 0 0 [] _ (Nat.le_refl _) (by decide) rfl (fun _ => rfl) (by simp) (fun x hx => by cases hx) (fun i x hx => by simp at hx)
  | some x =>
    have hc := hc x rfl
    -- the rows, one after the other
    have rows : ∀ m, m ≤ cap → ∃ (E' : Emb) (h' : Hp) (cs : List Value), Start E' h' W ∧ More E h E' h' ∧ cs.length = m ∧
        ∀ r, r < m → (cs.getD r undef).oneCell' = true ∧ VRel E' (cs.getD r undef) (.slice (A r) (L r) (C r)) ∧ Ints h' (cs.getD r undef) ((Z r).take (L r)) := by
      intro m
      induction m with
      | zero => intro _; exact ⟨E, h, [], st, More.refl E h, rfl, fun r hr => absurd hr (by omega)⟩
      | succ m ih =>
        intro hm
        obtain ⟨E1, h1, cs, st1, mo1, hl1, hr1⟩ := ih (by omega)
        obtain ⟨c1, c2, c2', c3, c4, c5⟩ := hc m (by omega)
        obtain ⟨E2, h2, v, st2, mo2, hv, hi⟩ := add_ints st1 (A m) (L m) (C m) (Z m) c2 c2' c3 c4 c5
        refine ⟨E2, h2, cs ++ [v], st2, mo1.trans mo2, by simp [hl1], fun r hr => ?_⟩
        by_cases e : r = m
        · subst e
          have : (cs ++ [v]).getD r undef = v := by simp [List.getD_eq_getElem?_getD, ← hl1]
          rw [this]
          exact ⟨hv.oneCell.symm, hv, hi⟩
        · have : (cs ++ [v]).getD r undef = cs.getD r undef := getD_append_left (by omega)
          rw [this]
          obtain ⟨g1, g2, g3⟩ := hr1 r (by omega)
          exact ⟨g1, mo2.vrel _ _ g2, g3.keep mo2.keep⟩
    obtain ⟨E1, h1, cs, st1, mo1, hl1, hr1⟩ := rows cap (Nat.le_refl _)
    obtain ⟨E2, h2, v, st2, mo2, hv, hi⟩ := add_slice (R := Ints) st1 (fun _ _ _ _ hk h => Ints.keep hk h) (some x) len cap cs ((List.range len).map fun r => (Z r).take (L r)) hlc hcap hl1 (fun e => (by cases e)) (by simp)
      (fun y hy i hi => ⟨(hr1 i hi).1, _, by cases hy; exact (hc i hi).1, (hr1 i hi).2.1⟩) (fun i y hy => by
        have hi : i < len := by have := (List.getElem?_eq_some_iff.1 hy).1; simpa using this
        simp [hi] at hy
        rw [← hy]
        exact (hr1 i (by omega)).2.2)
    exact ⟨E2, h2, v, st2, mo1.trans mo2, hv, hi⟩

/-- What a law's call says in the model's own words. -/
theorem law_calls {P : Program} {f : FuncId} {W : World} {E : Emb} {h h' : Hp} {args args' : Array Value} {v : Value} (st : Start E h W) (hs : args.size = args'.size) (hv : ∀ i, i < args.size → VRel E (args.getD i undef) (args'.getD i undef))
    (hc : CallOK P f args h v h') (hp : plainV v = true) : Calls P f args' W fun e W' => e = .returned v ∧ Below W.heap.size W W' := by
  refine (hc E W.heap.size W args' st.rel hs hv).mono fun e W' ⟨E', v', he, s, _, hv'⟩ => ?_
  have hvv : v' = v := by
    clear he s hc hv hs
    unfold plainV at hp
    have key : ∀ {u u' : Value}, plainS u = true → VRel E' u u' → u' = u := by
      intro u u' hu hr
      unfold plainS at hu
      split at hu <;> first | exact absurd hu Bool.false_ne_true | (cases hr; rfl)
    split at hp
    · rename_i cs
      cases hv' with
      | agg _ c' hs' _ hr =>
        congr 1
        exact ext_getD hs'.symm fun i hi => key (all_getD hp (by omega)) (hr i (by omega))
    · rename_i cs
      cases hv' with
      | tuple _ c' hs' hr =>
        congr 1
        exact ext_getD hs'.symm fun i hi => key (all_getD hp (by omega)) (hr i (by omega))
    · exact key hp hv'
  refine ⟨by rw [he, hvv], s.os, s.tape, s.output.out, s.size, fun k hk => ?_⟩
  exact s.keep k hk fun o ho hown => by rw [st.ro o ho] at hown; cases hown

end Go.Eng
end

section
namespace Go.Eng

section
variable {P : Program} {n : Nat} {tm : Nat → Value} {h : Hp} {Q : Exit → (Nat → Value) → Hp → Prop}

theorem WD_loop {c : Code} (I : Nat → (Nat → Value) → Hp → Prop) (k : Nat) (h0 : I k tm h)
    (round : ∀ k tm h, I k tm h → ∀ K : Exit → (Nat → Value) → Hp → Prop, ((∀ k' tm' h', k' < k → I k' tm' h' → K .normal tm' h') ∧ (∀ e tm' h', e ≠ .normal → Q e tm' h' → K e tm' h')) → WD P n c K tm h) :
    WD P n (.loop c) Q tm h :=
  loop_D I k h0 fun k tm h hI => round k tm h hI _ ⟨fun k' _ _ hk hI' => ⟨k', hk, hI'⟩, fun e _ _ he hq => by cases e <;> first | exact absurd rfl he | exact hq⟩
end

theorem Sl.at {α : Type} {R : Hp → Value → α → Prop} {h : Hp} {v : Value} {xs : List α} (hs : Sl R h v xs) {k : Nat} (hk : k < xs.length) :
    ∃ o i c cs own ex es u, v = .slice (some ⟨o, i, none⟩) xs.length c ∧ xs.length ≤ c ∧ c < 2 ^ 63 ∧ o < h.next ∧ h.get o = .cells cs own ex es ∧ ∃ hi : i + k < cs.length, cs[i + k] = u ∧ R h u xs[k] := by
  obtain ⟨s, c, e, hc, hc', hx⟩ := hs
  obtain ⟨o, i, cs, own, ex, es, h1, h2, h3, h4, h5⟩ := hx k xs[k] (List.getElem?_eq_getElem hk)
  refine ⟨o, i, c, cs, own, ex, es, cs[i + k], by rw [e, h1], hc, hc', h2, h3, h4, rfl, ?_⟩
  simpa [List.getD_eq_getElem?_getD, h4] using h5

theorem Sl.form {α : Type} {R : Hp → Value → α → Prop} {h : Hp} {v : Value} {xs : List α} (hs : Sl R h v xs) : ∃ s c, v = .slice s xs.length c ∧ xs.length ≤ c ∧ c < 2 ^ 63 := by
  obtain ⟨s, c, e, hc, hc', _⟩ := hs
  exact ⟨s, c, e, hc, hc'⟩
theorem Sl.short {α : Type} {R : Hp → Value → α → Prop} {h : Hp} {v : Value} {xs : List α} (hs : Sl R h v xs) : xs.length < 2 ^ 63 := by
  obtain ⟨s, c, e, hc, hc'⟩ := hs.form
  omega
theorem Ints.at {h : Hp} {v : Value} {xs : List Int} (hs : Ints h v xs) {k : Nat} (hk : k < xs.length) :
    ∃ o i c cs own ex es, v = .slice (some ⟨o, i, none⟩) xs.length c ∧ h.get o = .cells cs own ex es ∧ ∃ hi : i + k < cs.length, cs[i + k] = .int .i64 xs[k] := by
  obtain ⟨o, i, c, cs, own, ex, es, u, e, _, _, _, h1, h2, h3, h4⟩ := Sl.at hs hk
  cases h4
  exact ⟨o, i, c, cs, own, ex, es, e, h1, h2, h3⟩
theorem IRows.at {h : Hp} {v : Value} {xs : List (List Int)} (hs : IRows h v xs) {k : Nat} (hk : k < xs.length) :
    ∃ o i c cs own ex es u, v = .slice (some ⟨o, i, none⟩) xs.length c ∧ h.get o = .cells cs own ex es ∧ ∃ hi : i + k < cs.length, cs[i + k] = u ∧ Ints h u xs[k] := by
  obtain ⟨o, i, c, cs, own, ex, es, u, e, _, _, _, h1, h2, h3, h4⟩ := Sl.at hs hk
  exact ⟨o, i, c, cs, own, ex, es, u, e, h1, h2, h3, h4⟩

/-- A slice of a new object. -/
theorem Sl.mk {α : Type} {R : Hp → Value → α → Prop} {h : Hp} {o : Nat} {xs : List α} {c : Nat} {cs : List Value} {own ex : Bool} {es : Nat} (ho : o < h.next) (hg : h.get o = .cells cs own ex es) (hc : xs.length ≤ c) (hc' : c < 2 ^ 63)
    (hx : ∀ k (hk : k < xs.length), ∃ u, cs[k]? = some u ∧ R h u xs[k]) : Sl R h (.slice (some ⟨o, 0, none⟩) xs.length c) xs := by
  refine ⟨_, c, rfl, hc, hc', fun k x hk => ⟨o, 0, cs, own, ex, es, rfl, ho, hg, ?_⟩⟩
  obtain ⟨hk', e⟩ := List.getElem?_eq_some_iff.1 hk
  subst e
  obtain ⟨u, h1, h2⟩ := hx k hk'
  refine ⟨by have := (List.getElem?_eq_some_iff.1 h1).1; omega, ?_⟩
  simpa [List.getD_eq_getElem?_getD, h1] using h2

theorem wrap64 {x : Int} (h1 : -9223372036854775808 ≤ x) (h2 : x < 9223372036854775808) : IntKind.wrap .i64 x = x := by
  have e : IntKind.wrap .i64 x = if (true && decide (x % 18446744073709551616 ≥ 9223372036854775808)) = true then x % 18446744073709551616 - 18446744073709551616 else x % 18446744073709551616 := rfl
  rw [e]
  by_cases hc : x % 18446744073709551616 ≥ 9223372036854775808
  · simp only [hc, decide_true, Bool.and_self, if_true]; omega
  · simp only [hc, decide_false, Bool.and_false, Bool.false_eq_true, if_false]; omega

@[simp] theorem keeps_alloc {h h' : Hp} (k : Keeps h h') (x : AObj) : Keeps h (h'.alloc x) := k.trans (Keeps.alloc _ _)
@[simp] theorem keeps_put {h h' : Hp} (k : Keeps h h') {o : Nat} (ho : h.next ≤ o) (x : AObj) : Keeps h (h'.put o x) := k.put ho x
@[simp] theorem adds_self (h : Hp) : Adds h h := Adds.refl h
@[simp] theorem adds_alloc {h h' : Hp} (k : Adds h h') (c : List Value) (e : Bool) (n : Nat) : Adds h (h'.alloc (.cells c true e n)) := k.trans (Adds.alloc _ fun _ => rfl)
@[simp] theorem adds_put {h h' : Hp} (k : Adds h h') {o : Nat} (ho : h.next ≤ o) (c : List Value) (e : Bool) (n : Nat) : Adds h (h'.put o (.cells c true e n)) := k.put ho fun _ => rfl
@[simp] theorem live_cells (c : List Value) (a b : Bool) (n : Nat) : (AObj.cells c a b n).live = true := rfl
@[simp] theorem owned_cells (c : List Value) (a b : Bool) (n : Nat) : (AObj.cells c a b n).owned = a := rfl

@[simp] theorem zcells_int (k : IntKind) (x : Int) (n : Nat) : zcells (.int k x) n = List.replicate n (.int k x) := zcells_one rfl n
@[simp] theorem zcells_bool (b : Bool) (n : Nat) : zcells (.bool b) n = List.replicate n (.bool b) := zcells_one rfl n
@[simp] theorem zcells_str (b : ByteArray) (n : Nat) : zcells (.string b) n = List.replicate n (.string b) := zcells_one rfl n
@[simp] theorem zcells_slice (a : Option Addr) (x y : Nat) (n : Nat) : zcells (.slice a x y) n = List.replicate n (.slice a x y) := zcells_one rfl n

attribute [simp] thenP
@[simp] theorem add_1_one (x : Nat) : x + 1 + 1 = x + 2 := rfl
@[simp] theorem add_2_one (x : Nat) : x + 2 + 1 = x + 3 := rfl
@[simp] theorem add_3_one (x : Nat) : x + 3 + 1 = x + 4 := rfl
@[simp] theorem add_4_one (x : Nat) : x + 4 + 1 = x + 5 := rfl
@[simp] theorem add_5_one (x : Nat) : x + 5 + 1 = x + 6 := rfl
@[simp] theorem add_6_one (x : Nat) : x + 6 + 1 = x + 7 := rfl
@[simp] theorem add_7_one (x : Nat) : x + 7 + 1 = x + 8 := rfl
@[simp] theorem add_8_one (x : Nat) : x + 8 + 1 = x + 9 := rfl
@[simp] theorem add_9_one (x : Nat) : x + 9 + 1 = x + 10 := rfl
@[simp] theorem add_10_one (x : Nat) : x + 10 + 1 = x + 11 := rfl
@[simp] theorem add_11_one (x : Nat) : x + 11 + 1 = x + 12 := rfl
@[simp] theorem add_12_one (x : Nat) : x + 12 + 1 = x + 13 := rfl
@[simp] theorem add_13_one (x : Nat) : x + 13 + 1 = x + 14 := rfl
@[simp] theorem add_14_one (x : Nat) : x + 14 + 1 = x + 15 := rfl
@[simp] theorem add_15_one (x : Nat) : x + 15 + 1 = x + 16 := rfl
@[simp] theorem cast_inj (a b : Nat) : ((a : Int) = (b : Int)) ↔ a = b := by omega

/-- The slice is not of this object. -/
def Off (p : Nat) (v : Value) : Prop := ∀ o i n c, v = .slice (some ⟨o, i, none⟩) n c → o ≠ p
theorem Off.mk {p o i n c : Nat} (h : o ≠ p) : Off p (.slice (some ⟨o, i, none⟩) n c) := fun _ _ _ _ e => by cases e; exact h
theorem Sl.put {α : Type} {R : Hp → Value → α → Prop} {h : Hp} {v : Value} {xs : List α} {p : Nat} {x : AObj} (hs : Sl R h v xs) (ho : Off p v) (hR : ∀ k (hk : k < xs.length) u, R h u xs[k] → R (h.put p x) u xs[k]) : Sl R (h.put p x) v xs := by
  obtain ⟨s, c, e, hc, hc', hx⟩ := hs
  refine ⟨s, c, e, hc, hc', fun k y hk => ?_⟩
  obtain ⟨o, i, cs, own, ex, es, h1, h2, h3, h4, h5⟩ := hx k y hk
  obtain ⟨hk', ek⟩ := List.getElem?_eq_some_iff.1 hk
  subst ek
  exact ⟨o, i, cs, own, ex, es, h1, h2, by rw [get_put, if_neg (ho o i _ _ (by rw [e, h1]))]; exact h3, h4, hR k hk' _ h5⟩
theorem Ints.put {h : Hp} {v : Value} {xs : List Int} {p : Nat} (hs : Ints h v xs) (ho : Off p v) (x : AObj) : Ints (h.put p x) v xs := Sl.put hs ho fun _ _ _ hR => hR

theorem Off.none (p n c : Nat) : Off p (.slice .none n c) := fun _ _ _ _ e => by cases e
/-- Slices of objects from number n on. -/
def IntsN (n : Nat) (h : Hp) (v : Value) (xs : List Int) : Prop := Ints h v xs ∧ ∀ p, p < n → Off p v
def IRowsN (n : Nat) (h : Hp) (v : Value) (xs : List (List Int)) : Prop := Sl (IntsN n) h v xs ∧ ∀ p, p < n → Off p v
theorem IRowsN.rows {n : Nat} {h : Hp} {v : Value} {xs : List (List Int)} (hs : IRowsN n h v xs) : IRows h v xs :=
  by
    obtain ⟨s, c, e, hc, hc', hx⟩ := hs.1
    refine ⟨s, c, e, hc, hc', fun k x hk => ?_⟩
    obtain ⟨o, i, cs, own, ex, es, h1, h2, h3, h4, h5⟩ := hx k x hk
    exact ⟨o, i, cs, own, ex, es, h1, h2, h3, h4, h5.1⟩
theorem IntsN.keep {n : Nat} {h h' : Hp} (hk : Keeps h h') {v : Value} {xs : List Int} (hs : IntsN n h v xs) : IntsN n h' v xs := ⟨hs.1.keep hk, hs.2⟩
theorem IRowsN.keep {n : Nat} {h h' : Hp} (hk : Keeps h h') {v : Value} {xs : List (List Int)} (hs : IRowsN n h v xs) : IRowsN n h' v xs := ⟨Sl.mono (R := IntsN n) (h := h) (h' := h') (fun _ _ hR => hR.keep hk) hk hs.1, hs.2⟩
theorem IntsN.put {n : Nat} {h : Hp} {v : Value} {xs : List Int} {p : Nat} (hs : IntsN n h v xs) (hp : p < n) (x : AObj) : IntsN n (h.put p x) v xs := ⟨hs.1.put (hs.2 p hp) x, hs.2⟩
theorem IRowsN.put {n : Nat} {h : Hp} {v : Value} {xs : List (List Int)} {p : Nat} (hs : IRowsN n h v xs) (hp : p < n) (x : AObj) : IRowsN n (h.put p x) v xs := ⟨Sl.put hs.1 (hs.2 p hp) fun _ _ _ hR => hR.put hp x, hs.2⟩

/-- Whether it is a call of a function (which no rule of one operation serves). -/
def callV : Op → Bool
  | .call ⟨.value _, _, _⟩ => true
  | _ => false

section
variable {P : Program} {n : Nat} {tm : Nat → Value} {h : Hp} {ops : Array Oper} {rest : List Oper} {R : (Nat → Value) → Hp → Prop} {o : Oper}
def thenX (r : Option (Value × Hp)) (k : Value → Hp → Prop) : Prop := ∃ v h', r = some (v, h') ∧ k v h'
@[simp] theorem thenX_some (v : Value) (h' : Hp) (k : Value → Hp → Prop) : thenX (some (v, h')) k = k v h' :=
  propext ⟨fun ⟨_, _, e, hk⟩ => by cases e; exact hk, fun hk => ⟨v, h', rfl, hk⟩⟩
@[simp] theorem thenX_none (k : Value → Hp → Prop) : thenX none k = False := by simp [thenX]
/-- One operation that is no call; what follows is kept behind a name. -/
theorem RunD_o {d : Nat} {op : Op} (hop : o.op = op) (_ : callV op = false) (hd : o.dst = some d) (hn : decide (d < n) = true) (hg : o.guard = none)
    (hr : ∀ k : Value → Hp → Prop, (∀ v h', RunD P n ops rest R (upd tm d v) h' → k v h') → thenX (opD P op tm h) k) : RunD P n ops (o :: rest) R tm h := by
  obtain ⟨v, h', hv, hr⟩ := hr _ (fun _ _ h => h)
  exact RunD_op (by rw [hd]; exact hn) hg (by rw [hop, hv, hd]; exact hr)
theorem RunD_s {op : Op} (hop : o.op = op) (_ : callV op = false) (hd : o.dst = none) (hg : o.guard = none)
    (hr : ∀ k : Value → Hp → Prop, (∀ v h', RunD P n ops rest R tm h' → k v h') → thenX (opD P op tm h) k) : RunD P n ops (o :: rest) R tm h := by
  obtain ⟨v, h', hv, hr⟩ := hr _ (fun _ _ h => h)
  exact RunD_op (by rw [hd]; rfl) hg (by rw [hop, hv, hd]; exact hr)
/-- A guarded operation that runs. -/
theorem RunD_oT {j g d : Nat} {want : Bool} {op : Op} (hop : o.op = op) (_ : callV op = false) (hd : o.dst = some d) (hn : decide (d < n) = true) (hg : o.guard = some (j, want)) (hj : (ops[j]?).bind (·.dst) = some g) (hl : decide (g < n) = true)
    (hb : tm g = .bool want) (hr : ∀ k : Value → Hp → Prop, (∀ v h', RunD P n ops rest R (upd tm d v) h' → k v h') → thenX (opD P op tm h) k) : RunD P n ops (o :: rest) R tm h := by
  obtain ⟨v, h', hv, hr⟩ := hr _ (fun _ _ h => h)
  exact RunD_opT (by rw [hd]; exact hn) hg hj hl hb (by rw [hop, hv, hd]; exact hr)
/-- A guarded operation that does not run. -/
theorem RunD_oF {j g d : Nat} {want : Bool} (hd : o.dst = some d) (hn : decide (d < n) = true) (hg : o.guard = some (j, want)) (hj : (ops[j]?).bind (·.dst) = some g) (hl : decide (g < n) = true)
    (hb : tm g = .bool !want) (hr : RunD P n ops rest R (upd tm d undef) h) : RunD P n ops (o :: rest) R tm h :=
  RunD_opF (by rw [hd]; exact hn) hg hj hl hb (by rw [hd]; exact hr)
/-- A guarded operation whose guard has not run. -/
theorem RunD_oU {j g d : Nat} {want : Bool} {c : Array Value} (hd : o.dst = some d) (hn : decide (d < n) = true) (hg : o.guard = some (j, want)) (hj : (ops[j]?).bind (·.dst) = some g) (hl : decide (g < n) = true)
    (hb : tm g = .tuple c) (hr : RunD P n ops rest R (upd tm d undef) h) : RunD P n ops (o :: rest) R tm h := by
  refine ⟨by rw [hd]; exact hn, by simp only [guardOK, hg, hj]; exact hl, ?_⟩
  have hw : wantA ops tm o = some false := by simp only [wantA, hg, hj, hb]
  simp only [hw]; rw [hd]; exact hr
theorem PreD_oU {j g d : Nat} {want : Bool} {c : Array Value} (hd : o.dst = some d) (hn : decide (d < n) = true) (hg : o.guard = some (j, want)) (hj : (ops[j]?).bind (·.dst) = some g) (hl : decide (g < n) = true)
    (hb : tm g = .tuple c) (hr : PreD P n ops rest R (upd tm d undef) h) : PreD P n ops (o :: rest) R tm h := by
  refine ⟨by rw [hd]; exact hn, by simp only [guardOK, hg, hj]; exact hl, .inr ⟨?_, by rw [hd]; exact hr⟩⟩
  simp only [wantA, hg, hj, hb]
theorem RunD_c {d : Nat} {f : FuncId} {xs : Array Operand} {ts : Array TypeId} {args : Array Value} {v : Value} {h' : Hp} (hop : o.op = .call ⟨.value (.func f), xs, ts⟩) (hd : o.dst = some d) (hn : decide (d < n) = true) (hg : o.guard = none)
    (h2 : xs.all okX = true) (h4 : fnOK P f = true) (ha : xs.map (ev tm) = args) (hc : CallOK P f args h v h') (hr : RunD P n ops rest R (upd tm d v) h') : RunD P n ops (o :: rest) R tm h :=
  RunD_call' hop (by rw [hd]; exact hn) (by simp [guardOK, hg]) (by simp [wantA, hg]) h2 h4 ha hc (by rw [hd]; exact hr)
theorem RunD_cT {j g d : Nat} {want : Bool} {f : FuncId} {xs : Array Operand} {ts : Array TypeId} {args : Array Value} {v : Value} {h' : Hp} (hop : o.op = .call ⟨.value (.func f), xs, ts⟩) (hd : o.dst = some d) (hn : decide (d < n) = true)
    (hg : o.guard = some (j, want)) (hj : (ops[j]?).bind (·.dst) = some g) (hl : decide (g < n) = true) (hb : tm g = .bool want)
    (h2 : xs.all okX = true) (h4 : fnOK P f = true) (ha : xs.map (ev tm) = args) (hc : CallOK P f args h v h') (hr : RunD P n ops rest R (upd tm d v) h') : RunD P n ops (o :: rest) R tm h :=
  RunD_call' hop (by rw [hd]; exact hn) (by simp only [guardOK, hg, hj]; exact hl) (by simp only [wantA, hg, hj, hb]; simp) h2 h4 ha hc (by rw [hd]; exact hr)
theorem PreD_o {d : Nat} {op : Op} (hop : o.op = op) (_ : callV op = false) (hd : o.dst = some d) (hn : decide (d < n) = true) (hg : o.guard = none)
    (hr : ∀ k : Value → Hp → Prop, (∀ v h', Adds h h' → PreD P n ops rest R (upd tm d v) h' → k v h') → thenX (opD P op tm h) k) : PreD P n ops (o :: rest) R tm h := by
  obtain ⟨v, h', hv, hadd, hr⟩ := hr (fun v h' => Adds h h' ∧ PreD P n ops rest R (upd tm d v) h') (fun _ _ h k => ⟨h, k⟩)
  exact PreD_op (by rw [hd]; exact hn) hg (by rw [hop, hv, hd]; exact ⟨hadd, hr⟩)
theorem PreD_oT {j g d : Nat} {want : Bool} {op : Op} (hop : o.op = op) (_ : callV op = false) (hd : o.dst = some d) (hn : decide (d < n) = true) (hg : o.guard = some (j, want)) (hj : (ops[j]?).bind (·.dst) = some g) (hl : decide (g < n) = true)
    (hb : tm g = .bool want) (hr : ∀ k : Value → Hp → Prop, (∀ v h', Adds h h' → PreD P n ops rest R (upd tm d v) h' → k v h') → thenX (opD P op tm h) k) : PreD P n ops (o :: rest) R tm h := by
  obtain ⟨v, h', hv, hadd, hr⟩ := hr (fun v h' => Adds h h' ∧ PreD P n ops rest R (upd tm d v) h') (fun _ _ h k => ⟨h, k⟩)
  exact PreD_opT (by rw [hd]; exact hn) hg hj hl hb (by rw [hop, hv, hd]; exact ⟨hadd, hr⟩)
theorem PreD_oF {j g d : Nat} {want : Bool} (hd : o.dst = some d) (hn : decide (d < n) = true) (hg : o.guard = some (j, want)) (hj : (ops[j]?).bind (·.dst) = some g) (hl : decide (g < n) = true)
    (hb : tm g = .bool !want) (hr : PreD P n ops rest R (upd tm d undef) h) : PreD P n ops (o :: rest) R tm h :=
  PreD_opF (by rw [hd]; exact hn) hg hj hl hb (by rw [hd]; exact hr)
theorem PreD_c {d : Nat} {f : FuncId} {xs : Array Operand} {ts : Array TypeId} {args : Array Value} {v : Value} {h' : Hp} (hop : o.op = .call ⟨.value (.func f), xs, ts⟩) (hd : o.dst = some d) (hn : decide (d < n) = true) (hg : o.guard = none)
    (h2 : xs.all okX = true) (h4 : fnOK P f = true) (ha : xs.map (ev tm) = args) (hc : CallOK P f args h v h') (hadd : Adds h h') (hr : PreD P n ops rest R (upd tm d v) h') : PreD P n ops (o :: rest) R tm h :=
  PreD_call' hop (by rw [hd]; exact hn) hg h2 h4 ha hc hadd (by rw [hd]; exact hr)
end
end Go.Eng
end

section
namespace Go.Eng

/-- The objects from n on, below m. -/
def Btw (n m o : Nat) : Prop := n ≤ o ∧ o < m

/-- A slice of whole numbers in an object of S that may be written. -/
def IntsO (S : Nat → Prop) (h : Hp) (v : Value) (xs : List Int) : Prop :=
  ∃ s c, v = .slice s xs.length c ∧ xs.length ≤ c ∧ c < 2 ^ 63 ∧ (xs.length = 0 ∨ ∃ o i cs ex, s = some ⟨o, i, none⟩ ∧ S o ∧ o < h.next ∧ h.get o = .cells cs true ex 1 ∧ i + c ≤ cs.length ∧
    ∀ k (hk : k < xs.length), cs[i + k]? = some (.int .i64 xs[k]))

/-- Nothing is changed in S. -/
def Same (S : Nat → Prop) (h h' : Hp) : Prop := h.next ≤ h'.next ∧ ∀ o, S o → o < h.next → h'.get o = h.get o
theorem Same.of_keeps {S : Nat → Prop} {h h' : Hp} (k : Keeps h h') : Same S h h' := ⟨k.1, fun o _ ho => k.2 o ho⟩
theorem Same.trans {S : Nat → Prop} {a b c : Hp} (k : Same S a b) (l : Same S b c) : Same S a c := ⟨Nat.le_trans k.1 l.1, fun o hs ho => (l.2 o hs (Nat.lt_of_lt_of_le ho k.1)).trans (k.2 o hs ho)⟩
theorem Same.put {S : Nat → Prop} {h h' : Hp} (k : Same S h h') {o : Nat} (ho : ¬ S o) (x : AObj) : Same S h (h'.put o x) := ⟨k.1, fun i hs hi => by simp [show i ≠ o from fun e => ho (e ▸ hs), k.2 i hs hi]⟩
theorem Same.refl (S : Nat → Prop) (h : Hp) : Same S h h := ⟨Nat.le_refl _, fun _ _ _ => rfl⟩

theorem IntsO.form {S : Nat → Prop} {h : Hp} {v : Value} {xs : List Int} (hs : IntsO S h v xs) : ∃ s c, v = .slice s xs.length c ∧ xs.length ≤ c ∧ c < 2 ^ 63 := by
  obtain ⟨s, c, e, h1, h2, _⟩ := hs; exact ⟨s, c, e, h1, h2⟩
theorem IntsO.same {S : Nat → Prop} {h h' : Hp} (k : Same S h h') {v : Value} {xs : List Int} (hs : IntsO S h v xs) : IntsO S h' v xs := by
  obtain ⟨s, c, e, h1, h2, h3⟩ := hs
  refine ⟨s, c, e, h1, h2, h3.imp id ?_⟩
  rintro ⟨o, i, cs, ex, g1, g2, g3, g4, g5⟩
  exact ⟨o, i, cs, ex, g1, g2, Nat.lt_of_lt_of_le g3 k.1, by rw [k.2 o g2 g3]; exact g4, g5⟩
theorem IntsO.keep {S : Nat → Prop} {h h' : Hp} (k : Keeps h h') {v : Value} {xs : List Int} (hs : IntsO S h v xs) : IntsO S h' v xs := hs.same (.of_keeps k)
theorem IntsO.sub {S T : Nat → Prop} (hst : ∀ o, S o → T o) {h : Hp} {v : Value} {xs : List Int} (hs : IntsO S h v xs) : IntsO T h v xs := by
  obtain ⟨s, c, e, h1, h2, h3⟩ := hs
  exact ⟨s, c, e, h1, h2, h3.imp id fun ⟨o, i, cs, ex, g1, g2, g⟩ => ⟨o, i, cs, ex, g1, hst o g2, g⟩⟩
theorem IntsO.ints {S : Nat → Prop} {h : Hp} {v : Value} {xs : List Int} (hs : IntsO S h v xs) : Ints h v xs := by
  obtain ⟨s, c, e, h1, h2, h3⟩ := hs
  refine ⟨s, c, e, h1, h2, fun k x hk => ?_⟩
  obtain ⟨hk', ek⟩ := List.getElem?_eq_some_iff.1 hk
  subst ek
  rcases h3 with h3 | ⟨o, i, cs, ex, g1, g2, g3, g4, g5, g6⟩
  · omega
  · refine ⟨o, i, cs, true, ex, 1, g1, g3, g4, by omega, ?_⟩
    simp [isInt, List.getD_eq_getElem?_getD, g6 k hk']
/-- An element that may be written. -/
theorem IntsO.at {S : Nat → Prop} {h : Hp} {v : Value} {xs : List Int} (hs : IntsO S h v xs) {k : Nat} (hk : k < xs.length) :
    ∃ o i c cs ex, v = .slice (some ⟨o, i, none⟩) xs.length c ∧ S o ∧ o < h.next ∧ h.get o = .cells cs true ex 1 ∧ ∃ hi : i + k < cs.length, cs[i + k] = .int .i64 xs[k] := by
  obtain ⟨s, c, e, h1, h2, h3⟩ := hs
  rcases h3 with h3 | ⟨o, i, cs, ex, g1, g2, g3, g4, g5, g6⟩
  · omega
  · refine ⟨o, i, c, cs, ex, by rw [e, g1], g2, g3, g4, by omega, ?_⟩
    have := g6 k hk
    exact (List.getElem?_eq_some_iff.1 this).2
/-- .. written. -/
theorem IntsO.set {S : Nat → Prop} {h : Hp} {xs : List Int} {o i c : Nat} {cs : List Value} {ex : Bool} {k : Nat} (hs : IntsO S h (.slice (some ⟨o, i, none⟩) xs.length c) xs) (hk : k < xs.length) (hg : h.get o = .cells cs true ex 1) (x : Int) :
    IntsO S (h.put o (.cells (putCells cs (i + k) [.int .i64 x]) true ex 1)) (.slice (some ⟨o, i, none⟩) xs.length c) (xs.set k x) := by
  obtain ⟨s, c', e, h1, h2, h3⟩ := hs
  cases e
  refine ⟨some ⟨o, i, none⟩, c, by simp, by simpa using h1, h2, .inr ?_⟩
  rcases h3 with h3 | ⟨o', i', cs', ex', g1, g2, g3, g4, g5, g6⟩
  · omega
  · cases g1
    rw [hg] at g4
    cases g4
    have hik : i + k < cs.length := by omega
    refine ⟨o, i, cs.set (i + k) (.int .i64 x), ex, rfl, g2, g3, by simp [putCells_one hik], by simpa using g5, fun j hj => ?_⟩
    have hj' : j < xs.length := by simpa using hj
    rw [List.getElem?_set, List.getElem_set]
    by_cases e : k = j
    · subst e; simp [hik]
    · rw [if_neg (by omega), if_neg e]; exact g6 j hj'

theorem IntsO.nil (S : Nat → Prop) (h : Hp) : IntsO S h (.slice none 0 0) [] := ⟨none, 0, rfl, Nat.le_refl _, by decide, .inl rfl⟩
/-- A whole new object. -/
theorem IntsO.mk {S : Nat → Prop} {h : Hp} {o : Nat} {xs : List Int} {ex : Bool} (hS : S o) (ho : o < h.next) (hl : xs.length < 2 ^ 63) (hg : h.get o = .cells (xs.map (.int .i64)) true ex 1) : IntsO S h (.slice (some ⟨o, 0, none⟩) xs.length xs.length) xs :=
  ⟨_, _, rfl, Nat.le_refl _, hl, .inr ⟨o, 0, _, ex, rfl, hS, ho, hg, by simp, fun k hk => by simp [hk]⟩⟩

/-- A slice that grows by append: none, or a whole new object of n and beyond. -/
def IntsA (n : Nat) (h : Hp) (v : Value) (xs : List Int) : Prop :=
  (xs = [] ∧ v = .slice none 0 0) ∨ ∃ o ex, v = .slice (some ⟨o, 0, none⟩) xs.length xs.length ∧ n ≤ o ∧ o < h.next ∧ h.get o = .cells (xs.map (.int .i64)) true ex 1
theorem IntsA.own {n : Nat} {h : Hp} {v : Value} {xs : List Int} (hs : IntsA n h v xs) (hl : xs.length < 2 ^ 63) : IntsO (Btw n h.next) h v xs := by
  rcases hs with ⟨rfl, rfl⟩ | ⟨o, ex, rfl, h1, h2, h3⟩
  · exact .nil _ _
  · exact .mk ⟨h1, h2⟩ h2 hl h3
theorem IntsA.keep {n : Nat} {h h' : Hp} (k : Keeps h h') {v : Value} {xs : List Int} (hs : IntsA n h v xs) : IntsA n h' v xs := by
  rcases hs with ⟨rfl, rfl⟩ | ⟨o, ex, rfl, h1, h2, h3⟩
  · exact .inl ⟨rfl, rfl⟩
  · exact .inr ⟨o, ex, rfl, h1, Nat.lt_of_lt_of_le h2 k.1, by rw [k.2 o h2]; exact h3⟩
theorem IntsA.form {n : Nat} {h : Hp} {v : Value} {xs : List Int} (hs : IntsA n h v xs) : ∃ s, v = .slice s xs.length xs.length := by
  rcases hs with ⟨rfl, rfl⟩ | ⟨o, ex, rfl, h1, h2, h3⟩
  · exact ⟨_, rfl⟩
  · exact ⟨_, rfl⟩

section
variable {P : Program}
/-- One number more. -/
theorem append_one {n : Nat} {h0 h : Hp} {v : Value} {xs : List Int} {t t' e q b : Nat} {x : Int} {qx : Bool} (hs : IntsA n h v xs) (h1 : elT P t = some e) (h2 : szT P e = some 1) (h3 : zeroT P e = some (.int .i64 0)) (h4 : byT P e = some b)
    (hb : b ≠ 0) (hb8 : b ≤ 8) (h5 : srcT P t' = true) (hq : h.get q = .cells [.int .i64 x] true qx 1) (hl : xs.length < 2 ^ 40) (hn : n ≤ h.next) (hA : Adds h0 h) (h0n : h0.next ≤ n) :
    ∃ v' h', appendD P t t' v (.slice (some ⟨q, 0, none⟩) 1 1) h = some (v', h') ∧ IntsA n h' v' (xs ++ [x]) ∧ Adds h0 h' ∧ h.next < h'.next ∧ ∀ o, o < h.next → o < n → h'.get o = h.get o := by
  have hsrc : srcV h 1 (.slice (some ⟨q, 0, none⟩) 1 1) = some (1, [.int .i64 x]) := by simp [srcV, srcW, hq]
  have hbb : (xs.length + 1) * b ≤ 140737488355328 := Nat.le_trans (Nat.mul_le_mul (Nat.succ_le_of_lt hl) hb8) (by decide)
  have hbb1 : b ≤ 140737488355328 := Nat.le_trans hb8 (by decide)
  have hA1 : Adds h0 h := hA
  rcases hs with ⟨rfl, rfl⟩ | ⟨o, ex, rfl, g1, g2, g3⟩
  · refine ⟨.slice (some ⟨h.next, 0, none⟩) 1 1, h.alloc (.cells [.int .i64 x] true false 1), ?_, .inr ⟨h.next, false, rfl, hn, Nat.lt_succ_self _, by simp⟩, by simp [hA], Nat.lt_succ_self _, fun o ho _ => by simp [Nat.ne_of_lt ho]⟩
    simp only [appendD, h1, h2, h3, h4, hsrc, h5]
    simp [Value.cells, hb, hbb1]
  · refine ⟨.slice (some ⟨h.next, 0, none⟩) (xs.length + 1) (xs.length + 1), growHp h o ex (.cells (xs.map (.int .i64) ++ [.int .i64 x]) true false 1), ?_, .inr ⟨h.next, false, by simp, hn, ?_, ?_⟩, hA.grow (by omega) (fun _ => rfl), ?_, fun i hi hin => ?_⟩
    · simp only [appendD, h1, h2, h3, h4, hsrc, h5]
      have ht : (xs.map (Value.int .i64)).take xs.length = xs.map (.int .i64) := List.take_of_length_le (by simp)
      simp [Value.cells, hb, g3, hbb, ht]
    · cases ex <;> simp [growHp]
    · cases ex <;> simp [growHp]
    · cases ex <;> simp [growHp]
    · have e1 : i ≠ h.next := by omega
      have e2 : i ≠ o := by omega
      cases ex <;> simp [growHp, e1, e2]
end
end Go.Eng
end

section
namespace Go.Eng

/-- These slots are as they were. -/
def FrameL : List Nat → (Nat → Value) → (Nat → Value) → Prop
  | [], _, _ => True
  | s :: l, a, b => b s = a s ∧ FrameL l a b
theorem FrameL.refl : ∀ (l : List Nat) (a : Nat → Value), FrameL l a a
  | [], _ => trivial
  | _ :: l, a => ⟨rfl, FrameL.refl l a⟩
theorem FrameL.trans : ∀ {l : List Nat} {a b c : Nat → Value}, FrameL l a b → FrameL l b c → FrameL l a c
  | [], _, _, _, _, _ => trivial
  | _ :: _, _, _, _, h, k => ⟨k.1.trans h.1, FrameL.trans h.2 k.2⟩

section
variable {P : Program} {n : Nat} {tm : Nat → Value} {h : Hp} {Q : Exit → (Nat → Value) → Hp → Prop}

theorem WD_loopF (fs : List Nat) {c : Code} (I : Nat → (Nat → Value) → Hp → Prop) (k : Nat) (h0 : I k tm h)
    (round : ∀ k tm' h', FrameL fs tm tm' → I k tm' h' → ∀ K : Exit → (Nat → Value) → Hp → Prop, ((∀ k' tm'' h'', k' < k → FrameL fs tm' tm'' → I k' tm'' h'' → K .normal tm'' h'') ∧ (∀ e tm'' h'', e ≠ .normal → Q e tm'' h'' → K e tm'' h'')) → WD P n c K tm' h') :
    WD P n (.loop c) Q tm h :=
  WD_loop (fun k tm' h' => FrameL fs tm tm' ∧ I k tm' h') k ⟨FrameL.refl _ _, h0⟩ fun k tm' h' hI K hK =>
    round k tm' h' hI.1 hI.2 K ⟨fun k' tm'' h'' hk hF hI' => hK.1 k' tm'' h'' hk ⟨hI.1.trans hF, hI'⟩, hK.2⟩

theorem WD_heap {c : Code} (hr : ∀ h', h' = h → WD P n c Q tm h') : WD P n c Q tm h := hr h rfl
variable {ops : Array Oper} {rest : List Oper} {R : (Nat → Value) → Hp → Prop} {o : Oper}
theorem RunD_heap (hr : ∀ h', h' = h → RunD P n ops rest R tm h') : RunD P n ops rest R tm h := hr h rfl
theorem PreD_heap (hr : ∀ h', h' = h → PreD P n ops rest R tm h') : PreD P n ops rest R tm h := hr h rfl

theorem PreD_cT {j g d : Nat} {want : Bool} {f : FuncId} {xs : Array Operand} {ts : Array TypeId} {args : Array Value} {v : Value} {h' : Hp} (hop : o.op = .call ⟨.value (.func f), xs, ts⟩) (hd : o.dst = some d) (hn : decide (d < n) = true)
    (hg : o.guard = some (j, want)) (hj : (ops[j]?).bind (·.dst) = some g) (hl : decide (g < n) = true) (hb : tm g = .bool want)
    (h2 : xs.all okX = true) (h4 : fnOK P f = true) (ha : xs.map (ev tm) = args) (hc : CallOK P f args h v h') (hadd : Adds h h') (hr : PreD P n ops rest R (upd tm d v) h') : PreD P n ops (o :: rest) R tm h :=
  ⟨by rw [hd]; exact hn, by simp only [guardOK, hg, hj]; exact hl, .inl ⟨by simp only [wantA, hg, hj, hb]; simp, v, h', ok_call hop rfl rfl h2 h4 (by rw [ha]; simpa using hc), hadd, by rw [hd]; exact hr⟩⟩
end

/-! What is known of a slice without its address. -/
theorem Sl.lenD {α : Type} {R : Hp → Value → α → Prop} {h : Hp} {v : Value} {xs : List α} (hs : Sl R h v xs) : ∀ (P : Program) (t : TypeId), Go.Eng.lenD P t v = (elT P t).map fun _ => .int .i64 xs.length := by
  obtain ⟨s, c, rfl, _, _⟩ := hs.form
  intro P t
  unfold Go.Eng.lenD
  cases elT P t <;> rfl
theorem Sl.nt {α : Type} {R : Hp → Value → α → Prop} {h : Hp} {v : Value} {xs : List α} (hs : Sl R h v xs) : notTup v = true := by
  obtain ⟨s, c, rfl, _, _⟩ := hs.form; rfl
theorem Sl.cs {α : Type} {R : Hp → Value → α → Prop} {h : Hp} {v : Value} {xs : List α} (hs : Sl R h v xs) : v.cells = #[v] := by
  obtain ⟨s, c, rfl, _, _⟩ := hs.form; rfl
theorem Ints.lenD {h : Hp} {v : Value} {xs : List Int} (hs : Ints h v xs) : ∀ (P : Program) (t : TypeId), Go.Eng.lenD P t v = (elT P t).map fun _ => .int .i64 xs.length := Sl.lenD hs
theorem Ints.nt {h : Hp} {v : Value} {xs : List Int} (hs : Ints h v xs) : notTup v = true := Sl.nt hs
theorem Ints.cs {h : Hp} {v : Value} {xs : List Int} (hs : Ints h v xs) : v.cells = #[v] := Sl.cs hs
theorem Ints.len {h : Hp} {v : Value} {xs : List Int} (hs : Ints h v xs) : xs.length < 2 ^ 63 := Sl.short hs
theorem IRows.lenD {h : Hp} {v : Value} {xs : List (List Int)} (hs : IRows h v xs) : ∀ (P : Program) (t : TypeId), Go.Eng.lenD P t v = (elT P t).map fun _ => .int .i64 xs.length := Sl.lenD hs
theorem IRows.nt {h : Hp} {v : Value} {xs : List (List Int)} (hs : IRows h v xs) : notTup v = true := Sl.nt hs
theorem IRows.cs {h : Hp} {v : Value} {xs : List (List Int)} (hs : IRows h v xs) : v.cells = #[v] := Sl.cs hs
theorem IRows.len {h : Hp} {v : Value} {xs : List (List Int)} (hs : IRows h v xs) : xs.length < 2 ^ 63 := Sl.short hs

/-- A slice that is not empty: where it lies, and all its elements. -/
theorem Sl.open {α : Type} {R : Hp → Value → α → Prop} {h : Hp} {v : Value} {xs : List α} (hs : Sl R h v xs) (hne : 0 < xs.length) :
    ∃ o i c cs own ex es, v = .slice (some ⟨o, i, none⟩) xs.length c ∧ o < h.next ∧ h.get o = .cells cs own ex es ∧ i + xs.length ≤ cs.length ∧ ∀ k (hk : k < xs.length), R h (cs.getD (i + k) undef) xs[k] := by
  obtain ⟨s, c, e, hc, hc', hx⟩ := hs
  obtain ⟨o, i, cs, own, ex, es, h1, h2, h3, h4, h5⟩ := hx 0 xs[0] (List.getElem?_eq_getElem hne)
  have key : ∀ k (hk : k < xs.length), i + k < cs.length ∧ R h (cs.getD (i + k) undef) xs[k] := fun k hk => by
    obtain ⟨o', i', cs', own', ex', es', h1', h2', h3', h4', h5'⟩ := hx k xs[k] (List.getElem?_eq_getElem hk)
    rw [h1] at h1'
    cases h1'
    rw [h3] at h3'
    cases h3'
    exact ⟨h4', h5'⟩
  exact ⟨o, i, c, cs, own, ex, es, by rw [e, h1], h2, h3, by have := (key (xs.length - 1) (by omega)).1; omega, fun k hk => (key k hk).2⟩
theorem Ints.open {h : Hp} {v : Value} {xs : List Int} (hs : Ints h v xs) (hne : 0 < xs.length) :
    ∃ o i c cs own ex es, v = .slice (some ⟨o, i, none⟩) xs.length c ∧ o < h.next ∧ h.get o = .cells cs own ex es ∧ i + xs.length ≤ cs.length ∧ ∀ k (hk : k < xs.length) (h2 : i + k < cs.length), cs[i + k] = .int .i64 xs[k] := by
  obtain ⟨o, i, c, cs, own, ex, es, h1, h2, h3, h4, h5⟩ := Sl.open hs hne
  exact ⟨o, i, c, cs, own, ex, es, h1, h2, h3, h4, fun k hk h2 => by have := h5 k hk; rw [List.getD_eq_getElem?_getD, List.getElem?_eq_getElem h2] at this; exact this⟩
theorem IRows.open {h : Hp} {v : Value} {xs : List (List Int)} (hs : IRows h v xs) (hne : 0 < xs.length) :
    ∃ o i c cs own ex es, ∃ us : Nat → Value, v = .slice (some ⟨o, i, none⟩) xs.length c ∧ o < h.next ∧ h.get o = .cells cs own ex es ∧ i + xs.length ≤ cs.length ∧ (∀ k, k < xs.length → ∀ h2 : i + k < cs.length, cs[i + k] = us k) ∧ ∀ k (hk : k < xs.length), Ints h (us k) xs[k] := by
  obtain ⟨o, i, c, cs, own, ex, es, h1, h2, h3, h4, h5⟩ := Sl.open hs hne
  exact ⟨o, i, c, cs, own, ex, es, fun k => cs.getD (i + k) undef, h1, h2, h3, h4, fun k _ h2 => by simp [h2], fun k hk => h5 k hk⟩

theorem getForm {cs : List Value} {i n : Nat} {us : Nat → Value} (r : ∀ k, k < n → cs[i + k]?.getD undef = us k) : ∀ k, k < n → ∀ h2 : i + k < cs.length, cs[i + k] = us k := fun k hk h2 => by
  have := r k hk
  rw [List.getElem?_eq_getElem h2] at this; exact this

theorem wrap64c (x : Int) (h1 : -9223372036854775808 ≤ x) (h2 : x < 9223372036854775808) : IntKind.wrap .i64 x = x := wrap64 h1 h2
end Go.Eng
end

section
namespace Go.Eng

theorem IntsO.lenD {S : Nat → Prop} {h : Hp} {v : Value} {xs : List Int} (hs : IntsO S h v xs) : ∀ (P : Program) (t : TypeId), Go.Eng.lenD P t v = (elT P t).map fun _ => .int .i64 xs.length := hs.ints.lenD
theorem IntsO.nt {S : Nat → Prop} {h : Hp} {v : Value} {xs : List Int} (hs : IntsO S h v xs) : notTup v = true := hs.ints.nt
theorem IntsO.cs {S : Nat → Prop} {h : Hp} {v : Value} {xs : List Int} (hs : IntsO S h v xs) : v.cells = #[v] := hs.ints.cs
theorem IntsO.open {S : Nat → Prop} {h : Hp} {v : Value} {xs : List Int} (hs : IntsO S h v xs) (hne : 0 < xs.length) :
    ∃ o i c cs ex, v = .slice (some ⟨o, i, none⟩) xs.length c ∧ S o ∧ o < h.next ∧ h.get o = .cells cs true ex 1 ∧ i + xs.length ≤ cs.length ∧ ∀ k (hk : k < xs.length) (h2 : i + k < cs.length), cs[i + k] = .int .i64 xs[k] := by
  obtain ⟨s, c, e, h1, h2, h3⟩ := hs
  rcases h3 with h3 | ⟨o, i, cs, ex, g1, g2, g3, g4, g5, g6⟩
  · omega
  · exact ⟨o, i, c, cs, ex, by rw [e, g1], g2, g3, g4, by omega, fun k hk h2 => by have := g6 k hk; rw [List.getElem?_eq_getElem h2] at this; exact Option.some.inj this⟩
theorem IntsO.write {S : Nat → Prop} {h : Hp} {v : Value} {xs : List Int} {o i c : Nat} {cs : List Value} {ex : Bool} {k : Nat} (hs : IntsO S h v xs) (hv : v = .slice (some ⟨o, i, none⟩) xs.length c) (hk : k < xs.length) (hg : h.get o = .cells cs true ex 1) (x : Int) :
    IntsO S (h.put o (.cells (putCells cs (i + k) [.int .i64 x]) true ex 1)) v (xs.set k x) := by
  subst hv; exact hs.set hk hg x

/-- Only objects of S are changed. -/
def Upd (S : Nat → Prop) (h h' : Hp) : Prop := h.next ≤ h'.next ∧ ∀ o, o < h.next → ¬ S o → h'.get o = h.get o
theorem Upd.refl (S : Nat → Prop) (h : Hp) : Upd S h h := ⟨Nat.le_refl _, fun _ _ _ => rfl⟩
theorem Upd.trans {S : Nat → Prop} {a b c : Hp} (k : Upd S a b) (l : Upd S b c) : Upd S a c := ⟨Nat.le_trans k.1 l.1, fun o ho hs => (l.2 o (Nat.lt_of_lt_of_le ho k.1) hs).trans (k.2 o ho hs)⟩
theorem Upd.of_keeps {S : Nat → Prop} {h h' : Hp} (k : Keeps h h') : Upd S h h' := ⟨k.1, fun o ho _ => k.2 o ho⟩
theorem Upd.put {S : Nat → Prop} {h h' : Hp} (k : Upd S h h') {o : Nat} (ho : S o) (x : AObj) : Upd S h (h'.put o x) := ⟨k.1, fun i hi hs => by simp [show i ≠ o from fun e => hs (e ▸ ho), k.2 i hi hs]⟩
theorem Upd.mono {S T : Nat → Prop} {h h' : Hp} (k : Upd S h h') (hst : ∀ o, o < h.next → S o → T o) : Upd T h h' := ⟨k.1, fun o ho hs => k.2 o ho fun e => hs (hst o ho e)⟩
theorem Upd.keeps {S : Nat → Prop} {a h h' : Hp} (k : Upd S h h') (ha : Keeps a h) (hs : ∀ o, S o → a.next ≤ o) : Keeps a h' :=
  ⟨Nat.le_trans ha.1 k.1, fun o ho => (k.2 o (Nat.lt_of_lt_of_le ho ha.1) fun e => by have := hs o e; omega).trans (ha.2 o ho)⟩
theorem Upd.same {S T : Nat → Prop} {h h' : Hp} (k : Upd S h h') (hd : ∀ o, T o → ¬ S o) : Same T h h' := ⟨k.1, fun o ht ho => k.2 o ho (hd o ht)⟩
theorem Adds.keeps {h h' : Hp} (k : Adds h h') : Keeps h h' := k.1
theorem Same.keeps {S : Nat → Prop} {h h' : Hp} (k : Keeps h h') : Same S h h' := .of_keeps k

theorem zarr_list (z : Value) (n : Nat) : zarr #[z] n = (List.replicate n z).toArray := by
  unfold zarr
  apply Array.ext
  · simp
  · intro i h1 h2
    simp at h1
    simp [Nat.mod_one]
@[simp] theorem zarr_0 (z : Value) : zarr #[z] 0 = #[] := by rw [zarr_list]; rfl
@[simp] theorem zarr_1 (z : Value) : zarr #[z] 1 = #[z] := by rw [zarr_list]; rfl
@[simp] theorem zarr_2 (z : Value) : zarr #[z] 2 = #[z, z] := by rw [zarr_list]; rfl
@[simp] theorem zarr_3 (z : Value) : zarr #[z] 3 = #[z, z, z] := by rw [zarr_list]; rfl
@[simp] theorem zarr_4 (z : Value) : zarr #[z] 4 = #[z, z, z, z] := by rw [zarr_list]; rfl
@[simp] theorem zarr_5 (z : Value) : zarr #[z] 5 = #[z, z, z, z, z] := by rw [zarr_list]; rfl
@[simp] theorem zarr_6 (z : Value) : zarr #[z] 6 = #[z, z, z, z, z, z] := by rw [zarr_list]; rfl
@[simp] theorem zarr_7 (z : Value) : zarr #[z] 7 = #[z, z, z, z, z, z, z] := by rw [zarr_list]; rfl
@[simp] theorem zarr_8 (z : Value) : zarr #[z] 8 = #[z, z, z, z, z, z, z, z] := by rw [zarr_list]; rfl
@[simp] theorem zarr_9 (z : Value) : zarr #[z] 9 = #[z, z, z, z, z, z, z, z, z] := by rw [zarr_list]; rfl
@[simp] theorem all_none {α : Type} (p : α → Bool) : (#[] : Array α).all p 0 0 = true := by simp [Array.all]
attribute [simp] Instr.fill

def partsOk (tm : Nat → Value) : List (Nat × Operand) → Bool
  | [] => true
  | q :: l => okX q.2 && notTup (ev tm q.2) && partsOk tm l
def partsV (tm : Nat → Value) : List (Nat × Operand) → List (Nat × Value)
  | [] => []
  | q :: l => (q.1, ev tm q.2) :: partsV tm l
theorem partsOk_eq (tm : Nat → Value) (parts : Array (Nat × Operand)) : (parts.all (fun q => okX q.2) && parts.all (fun q => notTup (ev tm q.2))) = partsOk tm parts.toList := by
  rw [← Array.all_toList, ← Array.all_toList]
  induction parts.toList with
  | nil => rfl
  | cons q l ih =>
    simp only [List.all_cons, partsOk, ← ih]
    generalize okX q.2 = a
    generalize notTup (ev tm q.2) = b
    generalize (l.all fun q => okX q.2) = c
    generalize (l.all fun q => notTup (ev tm q.2)) = d
    cases a <;> cases b <;> cases c <;> cases d <;> rfl
theorem partsV_eq (tm : Nat → Value) (parts : Array (Nat × Operand)) : (parts.map fun (i, x) => (i, ev tm x)).toList = partsV tm parts.toList := by
  rw [Array.toList_map]
  induction parts.toList with
  | nil => rfl
  | cons q l ih => simp only [List.map_cons, partsV, ← ih]
def buildX (P : Program) (t : TypeId) (l : List (Nat × Value)) : Option Value := match zeroT P t with
  | some z => if plainV z && notTup z then
      match placesT P t with
      | some pl => (Instr.fill (pl[·]?) z.cells l).map fun r => .agg r
      | none => match arT P t with
        | some (_, e) => match szT P e with
          | some m => (Instr.fill (fun i => some (i * m, m)) z.cells l).map fun r => .agg r
          | none => none
        | none => none
    else none
  | none => none
def litX (P : Program) (t : TypeId) (n : Nat) (l : List (Nat × Value)) (h : Hp) : Option (Value × Hp) := match elT P t with
  | some e => match szT P e, zeroT P e with
    | some m, some z => if plainV z && notTup z && decide (z.cells.size = m) && decide (n * m ≤ 2 ^ 24) then
        match Instr.fill (fun i => some (i * m, m)) (zarr z.cells (n * m)) l with
        | some r => if r.size = n * m then some (.slice (some ⟨h.next, 0, none⟩) n n, h.alloc (.cells r.toList true true m)) else none
        | none => none
      else none
    | _, _ => none
  | none => none
@[simp ↓ high] theorem opD_build (P : Program) (t : TypeId) (parts : Array (Nat × Operand)) (tm : Nat → Value) (h : Hp) : opD P (.build t parts) tm h =
    if partsOk tm parts.toList = true then (buildX P t (partsV tm parts.toList)).map fun v => (v, h) else none := by
  simp only [opD, partsOk_eq, partsV_eq, buildX]
  by_cases hp : partsOk tm parts.toList = true
  · rw [if_pos hp, if_pos hp]
    cases hz : zeroT P t with
    | none => rfl
    | some z =>
      simp only
      by_cases hb : (plainV z && notTup z) = true
      · rw [if_pos hb, if_pos hb]
        cases hq : placesT P t with
        | some pl => simp only [Option.map_map, Function.comp_def]
        | none =>
          cases ha : arT P t with
          | none => rfl
          | some q =>
            obtain ⟨n, e⟩ := q
            simp only
            cases hs : szT P e with
            | none => rfl
            | some m => simp only [Option.map_map, Function.comp_def]
      · rw [if_neg hb, if_neg hb]; rfl
  · rw [if_neg hp, if_neg hp]
@[simp ↓ high] theorem opD_buildSlice (P : Program) (t : TypeId) (n : Nat) (parts : Array (Nat × Operand)) (tm : Nat → Value) (h : Hp) : opD P (.buildSlice t n parts) tm h =
    if partsOk tm parts.toList = true then litX P t n (partsV tm parts.toList) h else none := by
  simp only [opD, partsOk_eq, partsV_eq, litX]
  rfl
@[simp] theorem partsOk_nil (tm : Nat → Value) : partsOk tm [] = true := rfl
@[simp] theorem partsOk_cons (tm : Nat → Value) (i : Nat) (x : Operand) (l : List (Nat × Operand)) : partsOk tm ((i, x) :: l) = (okX x && notTup (ev tm x) && partsOk tm l) := rfl
@[simp] theorem partsV_nil (tm : Nat → Value) : partsV tm [] = [] := rfl
@[simp] theorem partsV_cons (tm : Nat → Value) (i : Nat) (x : Operand) (l : List (Nat × Operand)) : partsV tm ((i, x) :: l) = (i, ev tm x) :: partsV tm l := rfl
attribute [simp] buildX litX

/-- Rows, each in objects of its own, within S. -/
def IRowsO (S : Nat → Prop) (h : Hp) (v : Value) (L : List (List Int)) : Prop :=
  ∃ s c, v = .slice s L.length c ∧ L.length ≤ c ∧ c < 2 ^ 63 ∧ (L.length = 0 ∨ ∃ o i cs ex, ∃ us : Nat → Value, ∃ T : Nat → Nat → Prop, s = some ⟨o, i, none⟩ ∧ S o ∧ o < h.next ∧ h.get o = .cells cs true ex 1 ∧ i + c ≤ cs.length ∧
    (∀ k, k < L.length → cs[i + k]?.getD undef = us k) ∧ (∀ k x, T k x → S x ∧ x ≠ o) ∧ (∀ k k' x, T k x → T k' x → k = k') ∧ ∀ k (hk : k < L.length), IntsO (T k) h (us k) L[k])

theorem IRowsO.open {S : Nat → Prop} {h : Hp} {v : Value} {L : List (List Int)} (hs : IRowsO S h v L) (hne : 0 < L.length) :
    ∃ o i c cs ex, ∃ us : Nat → Value, ∃ T : Nat → Nat → Prop, v = .slice (some ⟨o, i, none⟩) L.length c ∧ S o ∧ o < h.next ∧ h.get o = .cells cs true ex 1 ∧ i + L.length ≤ cs.length ∧
      (∀ k, k < L.length → cs[i + k]?.getD undef = us k) ∧ (∀ k x, T k x → S x ∧ x ≠ o) ∧ (∀ k k' x, T k x → T k' x → k = k') ∧ ∀ k (hk : k < L.length), IntsO (T k) h (us k) L[k] := by
  obtain ⟨s, c, e, h1, h2, h3⟩ := hs
  rcases h3 with h3 | ⟨o, i, cs, ex, us, T, g1, g2, g3, g4, g5, g6, g7, g8, g9⟩
  · omega
  · exact ⟨o, i, c, cs, ex, us, T, by rw [e, g1], g2, g3, g4, by omega, g6, g7, g8, g9⟩
theorem IRowsO.rows {S : Nat → Prop} {h : Hp} {v : Value} {L : List (List Int)} (hs : IRowsO S h v L) : IRows h v L := by
  obtain ⟨s, c, e, h1, h2, h3⟩ := hs
  refine ⟨s, c, e, h1, h2, fun k x hk => ?_⟩
  obtain ⟨hk', ek⟩ := List.getElem?_eq_some_iff.1 hk
  subst ek
  rcases h3 with h3 | ⟨o, i, cs, ex, us, T, g1, g2, g3, g4, g5, g6, g7, g8, g9⟩
  · omega
  · refine ⟨o, i, cs, true, ex, 1, g1, g3, g4, by omega, ?_⟩
    rw [List.getD_eq_getElem?_getD, g6 k hk']
    exact (g9 k hk').ints
theorem IRowsO.same {S : Nat → Prop} {h h' : Hp} (k : Same S h h') {v : Value} {L : List (List Int)} (hs : IRowsO S h v L) : IRowsO S h' v L := by
  obtain ⟨s, c, e, h1, h2, h3⟩ := hs
  refine ⟨s, c, e, h1, h2, h3.imp id ?_⟩
  rintro ⟨o, i, cs, ex, us, T, g1, g2, g3, g4, g5, g6, g7, g8, g9⟩
  exact ⟨o, i, cs, ex, us, T, g1, g2, Nat.lt_of_lt_of_le g3 k.1, by rw [k.2 o g2 g3]; exact g4, g5, g6, g7, g8, fun q hq => (g9 q hq).same ⟨k.1, fun o ho ho' => k.2 o (g7 q o ho).1 ho'⟩⟩
theorem IRowsO.keep {S : Nat → Prop} {h h' : Hp} (k : Keeps h h') {v : Value} {L : List (List Int)} (hs : IRowsO S h v L) : IRowsO S h' v L := hs.same (.of_keeps k)
theorem IRowsO.sub {S T : Nat → Prop} (hst : ∀ o, S o → T o) {h : Hp} {v : Value} {L : List (List Int)} (hs : IRowsO S h v L) : IRowsO T h v L := by
  obtain ⟨s, c, e, h1, h2, h3⟩ := hs
  exact ⟨s, c, e, h1, h2, h3.imp id fun ⟨o, i, cs, ex, us, T, g1, g2, g3, g4, g5, g6, g7, g8, g9⟩ => ⟨o, i, cs, ex, us, T, g1, hst o g2, g3, g4, g5, g6, fun k x hk => ⟨hst x (g7 k x hk).1, (g7 k x hk).2⟩, g8, g9⟩⟩
theorem IRowsO.lenD {S : Nat → Prop} {h : Hp} {v : Value} {xs : List (List Int)} (hs : IRowsO S h v xs) : ∀ (P : Program) (t : TypeId), Go.Eng.lenD P t v = (elT P t).map fun _ => .int .i64 xs.length := hs.rows.lenD
theorem IRowsO.nt {S : Nat → Prop} {h : Hp} {v : Value} {xs : List (List Int)} (hs : IRowsO S h v xs) : notTup v = true := hs.rows.nt
theorem IRowsO.cs {S : Nat → Prop} {h : Hp} {v : Value} {xs : List (List Int)} (hs : IRowsO S h v xs) : v.cells = #[v] := hs.rows.cs

/-- One row is written. -/
theorem IRowsO.row {S : Nat → Prop} {h h' : Hp} {v : Value} {L : List (List Int)} {o i c : Nat} {cs : List Value} {ex : Bool} {us : Nat → Value} {T : Nat → Nat → Prop} (hs : IRowsO S h v L) (hv : v = .slice (some ⟨o, i, none⟩) L.length c)
    (hS : S o) (ho : o < h.next) (hg : h.get o = .cells cs true ex 1) (_hl : i + L.length ≤ cs.length) (hu : ∀ k, k < L.length → cs[i + k]?.getD undef = us k) (hT : ∀ k x, T k x → S x ∧ x ≠ o)
    (hd : ∀ k k' x, T k x → T k' x → k = k') (hr : ∀ k (hk : k < L.length), IntsO (T k) h (us k) L[k]) {k : Nat} (_hk : k < L.length) {r : List Int} (hu' : Upd (T k) h h') (hr' : IntsO (T k) h' (us k) r) : IRowsO S h' v (L.set k r) := by
  obtain ⟨s, c', e, h1, h2, h3⟩ := hs
  rw [hv] at e
  cases e
  have hlc : i + c ≤ cs.length := by
    rcases h3 with h3 | ⟨o', i', cs', ex', us', T', g1, g2, g3, g4, g5, _⟩
    · omega
    · cases g1; rw [hg] at g4; cases g4; exact g5
  refine ⟨some ⟨o, i, none⟩, c, by simp [hv], by simpa using h1, h2, .inr ⟨o, i, cs, ex, us, T, rfl, hS, Nat.lt_of_lt_of_le ho hu'.1, by rw [hu'.2 o ho fun q => (hT k o q).2 rfl]; exact hg, hlc, fun q hq => hu q (by simpa using hq), hT, hd, fun q hq => ?_⟩⟩
  rw [List.getElem_set]
  by_cases e : k = q
  · subst e; simpa using hr'
  · rw [if_neg e]
    exact (hr q (by simpa using hq)).same (hu'.same fun x hx hx' => e (hd k q x hx' hx))

theorem IntsO.cut {S : Nat → Prop} {h : Hp} {v : Value} {xs : List Int} (hs : IntsO S h v xs) : IntsO (fun x => S x ∧ x < h.next) h v xs := by
  obtain ⟨s, c, e, h1, h2, h3⟩ := hs
  exact ⟨s, c, e, h1, h2, h3.imp id fun ⟨o, i, cs, ex, g1, g2, g3, g⟩ => ⟨o, i, cs, ex, g1, ⟨g2, g3⟩, g3, g⟩⟩
theorem IRowsO.cut {S : Nat → Prop} {h : Hp} {v : Value} {L : List (List Int)} (hs : IRowsO S h v L) : IRowsO (fun x => S x ∧ x < h.next) h v L := by
  obtain ⟨s, c, e, h1, h2, h3⟩ := hs
  exact ⟨s, c, e, h1, h2, h3.imp id fun ⟨o, i, cs, ex, us, T, g1, g2, g3, g4, g5, g6, g7, g8, g9⟩ => ⟨o, i, cs, ex, us, fun k x => T k x ∧ x < h.next, g1, ⟨g2, g3⟩, g3, g4, g5, g6, fun k x hk => ⟨⟨(g7 k x hk.1).1, hk.2⟩, (g7 k x hk.1).2⟩,
    fun k k' x hk hk' => g8 k k' x hk.1 hk'.1, fun k hk => by
      obtain ⟨s', c', e', i1, i2, i3⟩ := g9 k hk
      exact ⟨s', c', e', i1, i2, i3.imp id fun ⟨o, i, cs, ex, j1, j2, j3, j⟩ => ⟨o, i, cs, ex, j1, ⟨j2, j3⟩, j3, j⟩⟩⟩⟩

theorem IRowsO.nil (S : Nat → Prop) (h : Hp) : IRowsO S h (.slice none 0 0) [] := ⟨none, 0, rfl, Nat.le_refl _, by decide, .inl rfl⟩

/-- Rows that are being made: each in objects of its own, from n on, none of them in the object o. -/
def RowsB (n o : Nat) (h : Hp) (us : List Value) (L : List (List Int)) : Prop :=
  us.length = L.length ∧ ∃ T : Nat → Nat → Prop, (∀ k x, T k x → n ≤ x ∧ x < h.next ∧ x ≠ o) ∧ (∀ k k' x, T k x → T k' x → k = k') ∧ ∀ k (hk : k < L.length), IntsO (T k) h (us.getD k undef) L[k]
theorem RowsB.nil (n o : Nat) (h : Hp) : RowsB n o h [] [] := ⟨rfl, fun _ _ => False, fun _ _ h => h.elim, fun _ _ _ h => h.elim, fun k hk => absurd hk (by simp)⟩
theorem RowsB.same {n o : Nat} {h h' : Hp} {us : List Value} {L : List (List Int)} (hs : RowsB n o h us L) (k : Same (fun x => n ≤ x ∧ x ≠ o) h h') : RowsB n o h' us L := by
  obtain ⟨h1, T, h2, h3, h4⟩ := hs
  exact ⟨h1, T, fun q x hq => ⟨(h2 q x hq).1, Nat.lt_of_lt_of_le (h2 q x hq).2.1 k.1, (h2 q x hq).2.2⟩, h3, fun q hq => (h4 q hq).same ⟨k.1, fun x hx hx' => k.2 x ⟨(h2 q x hx).1, (h2 q x hx).2.2⟩ hx'⟩⟩
theorem RowsB.other {n o p : Nat} {h : Hp} {us : List Value} {L : List (List Int)} (hs : RowsB n o h us L) (hp : h.next ≤ p) : RowsB n p h us L := by
  obtain ⟨h1, T, h2, h3, h4⟩ := hs
  exact ⟨h1, T, fun q x hq => ⟨(h2 q x hq).1, (h2 q x hq).2.1, by have := (h2 q x hq).2.1; omega⟩, h3, h4⟩
theorem RowsB.snoc {n o : Nat} {h h' : Hp} {us : List Value} {L : List (List Int)} {u : Value} {r : List Int} (hs : RowsB n o h us L) (hk : Keeps h h') (ho : o < h.next) (hn : n ≤ h.next) (hr : IntsO (Btw h.next h'.next) h' u r) : RowsB n o h' (us ++ [u]) (L ++ [r]) := by
  have hs' := hs.same (.of_keeps hk)
  obtain ⟨h1, T, h2, h3, h4⟩ := hs
  obtain ⟨_, _⟩ := hs'
  refine ⟨by simp [h1], fun k x => if k < L.length then T k x else k = L.length ∧ Btw h.next h'.next x, fun k x hx => ?_, fun k k' x hx hx' => ?_, fun k hk' => ?_⟩
  · by_cases e : k < L.length
    · simp only [e, if_true] at hx; have := h2 k x hx; have := hk.1; omega
    · simp only [e, if_false] at hx; have := hx.2; unfold Btw at this; omega
  · by_cases e : k < L.length <;> by_cases e' : k' < L.length <;> simp only [e, e', if_true, if_false] at hx hx'
    · exact h3 k k' x hx hx'
    · have := h2 k x hx; have := hx'.2; unfold Btw at this; omega
    · have := h2 k' x hx'; have := hx.2; unfold Btw at this; omega
    · omega
  · by_cases e : k < L.length
    · simp only [e, if_true]
      rw [List.getElem_append_left e, show (us ++ [u]).getD k undef = us.getD k undef from getD_append_left (by omega)]
      exact (h4 k e).keep hk
    · have ek : k = L.length := by simp at hk'; omega
      subst ek
      have : (us ++ [u]).getD L.length undef = u := by simp [List.getD_eq_getElem?_getD, ← h1]
      rw [this]
      have e2 : (fun x => if L.length < L.length then T L.length x else L.length = L.length ∧ Btw h.next h'.next x) = Btw h.next h'.next := by funext x; simp
      show IntsO (fun x => if L.length < L.length then T L.length x else L.length = L.length ∧ Btw h.next h'.next x) h' u _
      rw [e2]
      simpa using hr

/-- A slice of rows that grows by append: none, or a whole new object of n and beyond. -/
def IRowsA (n : Nat) (h : Hp) (v : Value) (L : List (List Int)) : Prop :=
  (L = [] ∧ v = .slice none 0 0) ∨ ∃ o ex us, v = .slice (some ⟨o, 0, none⟩) L.length L.length ∧ n ≤ o ∧ o < h.next ∧ h.get o = .cells us true ex 1 ∧ RowsB n o h us L
theorem IRowsA.own {n : Nat} {h : Hp} {v : Value} {L : List (List Int)} (hs : IRowsA n h v L) (hl : L.length < 2 ^ 63) : IRowsO (Btw n h.next) h v L := by
  rcases hs with ⟨rfl, rfl⟩ | ⟨o, ex, us, rfl, h1, h2, h3, h4, T, h5, h6, h7⟩
  · exact .nil _ _
  · refine ⟨_, _, rfl, Nat.le_refl _, hl, .inr ⟨o, 0, us, ex, fun k => us.getD k undef, T, rfl, ⟨h1, h2⟩, h2, h3, by omega, fun k _ => by simp, fun k x hk => ⟨⟨(h5 k x hk).1, (h5 k x hk).2.1⟩, (h5 k x hk).2.2⟩, h6, h7⟩⟩
theorem IRowsA.keep {n : Nat} {h h' : Hp} (k : Keeps h h') {v : Value} {L : List (List Int)} (hs : IRowsA n h v L) : IRowsA n h' v L := by
  rcases hs with ⟨rfl, rfl⟩ | ⟨o, ex, us, rfl, h1, h2, h3, h4⟩
  · exact .inl ⟨rfl, rfl⟩
  · exact .inr ⟨o, ex, us, rfl, h1, Nat.lt_of_lt_of_le h2 k.1, by rw [k.2 o h2]; exact h3, h4.same (.of_keeps k)⟩
theorem IRowsA.nt {n : Nat} {h : Hp} {v : Value} {L : List (List Int)} (hs : IRowsA n h v L) : notTup v = true := by
  rcases hs with ⟨rfl, rfl⟩ | ⟨o, ex, us, rfl, _⟩ <;> rfl
theorem IRowsA.lenD {n : Nat} {h : Hp} {v : Value} {L : List (List Int)} (hs : IRowsA n h v L) (P : Program) (t : TypeId) : Go.Eng.lenD P t v = (elT P t).map fun _ => .int .i64 L.length := by
  rcases hs with ⟨rfl, rfl⟩ | ⟨o, ex, us, rfl, _⟩ <;> simp
theorem IntsA.nt {n : Nat} {h : Hp} {v : Value} {L : List Int} (hs : IntsA n h v L) : notTup v = true := by
  rcases hs with ⟨rfl, rfl⟩ | ⟨o, ex, rfl, _⟩ <;> rfl
theorem IntsA.lenD {n : Nat} {h : Hp} {v : Value} {L : List Int} (hs : IntsA n h v L) (P : Program) (t : TypeId) : Go.Eng.lenD P t v = (elT P t).map fun _ => .int .i64 L.length := by
  rcases hs with ⟨rfl, rfl⟩ | ⟨o, ex, rfl, _⟩ <;> simp
theorem IntsA.nil (n : Nat) (h : Hp) : IntsA n h (.slice none 0 0) [] := .inl ⟨rfl, rfl⟩
theorem IRowsA.nil (n : Nat) (h : Hp) : IRowsA n h (.slice none 0 0) [] := .inl ⟨rfl, rfl⟩
/-- A slice literal without elements. -/
theorem IntsA.lit {n : Nat} {h : Hp} {o : Nat} {ex : Bool} (h1 : n ≤ o) (h2 : o < h.next) (h3 : h.get o = .cells [] true ex 1) : IntsA n h (.slice (some ⟨o, 0, none⟩) 0 0) [] := .inr ⟨o, ex, rfl, h1, h2, h3⟩

section
variable {P : Program}
theorem append_row {n : Nat} {h0 h1 h : Hp} {v : Value} {L : List (List Int)} {t t' e q b : Nat} {u : Value} {r : List Int} {qx : Bool} (hs : IRowsA n h1 v L) (hk1 : Keeps h1 h) (hu : IntsO (Btw h1.next h.next) h u r) 
    (h1t : elT P t = some e) (h2 : szT P e = some 1) (h3 : zeroT P e = some (.slice none 0 0)) (h4 : byT P e = some b)
    (hb : b ≠ 0) (hb8 : b ≤ 24) (h5 : srcT P t' = true) (hq : h.get q = .cells [u] true qx 1) (hl : L.length < 2 ^ 40) (hn : n ≤ h1.next) (hA : Adds h0 h) (h0n : h0.next ≤ n) :
    ∃ v' h', appendD P t t' v (.slice (some ⟨q, 0, none⟩) 1 1) h = some (v', h') ∧ IRowsA n h' v' (L ++ [r]) ∧ Adds h0 h' ∧ h.next < h'.next ∧ ∀ o, o < h.next → o < n → h'.get o = h.get o := by
  have hsrc : srcV h 1 (.slice (some ⟨q, 0, none⟩) 1 1) = some (1, [u]) := by simp [srcV, srcW, hq]
  have hbb : (L.length + 1) * b ≤ 140737488355328 := Nat.le_trans (Nat.mul_le_mul (Nat.succ_le_of_lt hl) hb8) (by decide)
  have hbb1 : b ≤ 140737488355328 := Nat.le_trans hb8 (by decide)
  have hhn : h1.next ≤ h.next := hk1.1
  rcases hs with ⟨rfl, rfl⟩ | ⟨o, ex, us, rfl, g1, g2, g3, g4⟩
  · have hB : RowsB n h.next (h.alloc (.cells [u] true false 1)) [u] [r] := by
      refine ⟨rfl, fun k x => k = 0 ∧ Btw h1.next h.next x, fun k x hx => ?_, fun k k' x hx hx' => by omega, fun k hk => ?_⟩
      · have := hx.2; unfold Btw at this; simp; omega
      · have hk0 : k = 0 := by simp at hk; exact hk
        subst hk0
        have e2 : (fun x => 0 = 0 ∧ Btw h1.next h.next x) = Btw h1.next h.next := by funext x; simp
        show IntsO (fun x => 0 = 0 ∧ Btw h1.next h.next x) _ _ _
        rw [e2]
        simpa using hu.keep (Keeps.alloc _ _)
    refine ⟨.slice (some ⟨h.next, 0, none⟩) 1 1, h.alloc (.cells [u] true false 1), ?_, .inr ⟨h.next, false, [u], rfl, Nat.le_trans hn hhn, Nat.lt_succ_self _, by simp, hB⟩, by simp [hA], Nat.lt_succ_self _, fun o ho _ => by simp [Nat.ne_of_lt ho]⟩
    simp only [appendD, h1t, h2, h3, h4, hsrc, h5]
    simp [Value.cells, hb, hbb1]
  · have hus : us.length = L.length := g4.1
    have g3' : h.get o = .cells us true ex 1 := by rw [hk1.2 o g2]; exact g3
    have hB1 : RowsB n o h (us ++ [u]) (L ++ [r]) := g4.snoc hk1 g2 hn hu
    have hB2 : RowsB n h.next (growHp h o ex (.cells (us ++ [u]) true false 1)) (us ++ [u]) (L ++ [r]) := by
      have := (hB1.other (p := h.next) (Nat.le_refl _))
      obtain ⟨a1, T, a2, a3, a4⟩ := hB1
      refine ⟨a1, T, fun k x hx => ?_, a3, fun k hk => (a4 k hk).same ⟨?_, fun x hx hx' => ?_⟩⟩
      · have := a2 k x hx; cases ex <;> simp [growHp] <;> omega
      · cases ex <;> simp [growHp]
      · have := a2 k x hx
        have e1 : x ≠ h.next := by omega
        have e2 : x ≠ o := this.2.2
        cases ex <;> simp [growHp, e1, e2]
    refine ⟨.slice (some ⟨h.next, 0, none⟩) (L.length + 1) (L.length + 1), growHp h o ex (.cells (us ++ [u]) true false 1), ?_, .inr ⟨h.next, false, us ++ [u], by simp, Nat.le_trans hn hhn, ?_, ?_, hB2⟩, hA.grow (by omega) (fun _ => rfl), ?_, fun i hi hin => ?_⟩
    · simp only [appendD, h1t, h2, h3, h4, hsrc, h5]
      have ht : us.take L.length = us := List.take_of_length_le (by omega)
      simp [Value.cells, hb, g3', hbb, ht, hus]
    · cases ex <;> simp [growHp]
    · cases ex <;> simp [growHp]
    · cases ex <;> simp [growHp]
    · have e1 : i ≠ h.next := by omega
      have e2 : i ≠ o := by omega
      cases ex <;> simp [growHp, e1, e2]

theorem srcV_zero (h : Hp) (m : Nat) (s : Option Addr) (c : Nat) : srcV h m (.slice s 0 c) = some (0, []) := by
  unfold srcV
  split
  · rename_i r hr
    unfold srcW at hr
    split at hr
    · exact hr.symm
    · rename_i q j n' c' heq
      injection heq with e1 e2 e3
      subst e2
      split at hr
      · split at hr
        · simpa using hr.symm
        · cases hr
      · cases hr
    · rename_i heq; cases heq
    · cases hr
  · rfl
theorem Ints.src {h : Hp} {v : Value} {xs : List Int} (hs : Ints h v xs) : srcV h 1 v = some (xs.length, xs.map (.int .i64)) := by
  by_cases h0 : xs.length = 0
  · obtain ⟨s, c, e, _, _⟩ := Sl.form hs
    have := List.length_eq_zero_iff.1 h0
    subst this
    rw [e]
    exact srcV_zero _ _ _ _
  · obtain ⟨o, i, c, cs, own, ex, es, e, _, hg, hl, hr⟩ := hs.open (by omega)
    have hb : i + xs.length * 1 ≤ cs.length := by omega
    have he : (cs.drop i).take (xs.length * 1) = xs.map (.int .i64) := by
      apply List.ext_getElem?
      intro k
      by_cases hk : k < xs.length
      · have h1 := hr k hk
        have h2 : i + k < cs.length := by omega
        have h1 := hr k hk h2
        simp [hk, h2, h1]
      · rw [List.getElem?_eq_none (by simp; omega), List.getElem?_eq_none (by simpa using hk)]
    rw [e]
    simp only [srcV, srcW, hg, hb, if_true, he]
/-- Numbers more. -/
theorem append_ints {n : Nat} {h0 h : Hp} {v y : Value} {xs ys : List Int} {t t' e b : Nat} (hs : IntsA n h v xs) (hy : Ints h y ys) (h1 : elT P t = some e) (h2 : szT P e = some 1) (h3 : zeroT P e = some (.int .i64 0)) (h4 : byT P e = some b)
    (hb : b ≠ 0) (hb8 : b ≤ 8) (h5 : srcT P t' = true) (hl : xs.length + ys.length < 2 ^ 40) (hn : n ≤ h.next) (hA : Adds h0 h) (h0n : h0.next ≤ n) :
    ∃ v' h', appendD P t t' v y h = some (v', h') ∧ IntsA n h' v' (xs ++ ys) ∧ Adds h0 h' ∧ h.next ≤ h'.next ∧ ∀ o, o < h.next → o < n → h'.get o = h.get o := by
  have hsrc := hy.src
  by_cases hy0 : ys.length = 0
  · have := List.length_eq_zero_iff.1 hy0
    subst this
    refine ⟨v, h, ?_, by simpa using hs, hA, Nat.le_refl _, fun _ _ _ => rfl⟩
    simp only [appendD, h1, h2, h3, h4, hsrc, h5]
    rcases hs with ⟨rfl, rfl⟩ | ⟨o, ex, rfl, g1, g2, g3⟩ <;> simp [Value.cells, hb]
  have hbb : (xs.length + ys.length) * b ≤ 140737488355328 := Nat.le_trans (Nat.mul_le_mul (Nat.le_of_lt hl) hb8) (by decide)
  have hbb1 : ys.length * b ≤ 140737488355328 := Nat.le_trans (Nat.mul_le_mul_right _ (by omega)) hbb
  have hne : ys ≠ [] := fun e => hy0 (by rw [e]; rfl)
  rcases hs with ⟨rfl, rfl⟩ | ⟨o, ex, rfl, g1, g2, g3⟩
  · refine ⟨.slice (some ⟨h.next, 0, none⟩) ys.length ys.length, h.alloc (.cells (ys.map (.int .i64)) true false 1), ?_, .inr ⟨h.next, false, rfl, hn, Nat.lt_succ_self _, by simp⟩, by simp [hA], Nat.le_succ _, fun o ho _ => by simp [Nat.ne_of_lt ho]⟩
    simp only [appendD, h1, h2, h3, h4, hsrc, h5]
    simp [Value.cells, hb, hbb1, hne]
  · refine ⟨.slice (some ⟨h.next, 0, none⟩) (xs.length + ys.length) (xs.length + ys.length), growHp h o ex (.cells (xs.map (.int .i64) ++ ys.map (.int .i64)) true false 1), ?_, .inr ⟨h.next, false, by simp, hn, ?_, ?_⟩, hA.grow (by omega) (fun _ => rfl), ?_, fun i hi hin => ?_⟩
    · simp only [appendD, h1, h2, h3, h4, hsrc, h5]
      have ht : (xs.map (Value.int .i64)).take xs.length = xs.map (.int .i64) := List.take_of_length_le (by simp)
      have hlt : 0 < ys.length := by omega
      simp [Value.cells, hb, g3, hbb, ht, hne, hlt]
    · cases ex <;> simp [growHp]
    · cases ex <;> simp [growHp]
    · cases ex <;> simp [growHp]
    · have e1 : i ≠ h.next := by omega
      have e2 : i ≠ o := by omega
      cases ex <;> simp [growHp, e1, e2]
end
end Go.Eng
end
