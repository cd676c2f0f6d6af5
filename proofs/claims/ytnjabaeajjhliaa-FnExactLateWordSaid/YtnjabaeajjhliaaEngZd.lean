/- Slices of three numbers each (tasks): read, laid, built. -/
import Derived.Test.YtnjabaeajjhliaaEngZb
import Derived.Test.YtnjabaeajjhliaaEngU
import Derived.Deep.SlicePairs
namespace Go.Eng
open Go.ChangeShapes Go.WideShapes Go.Deep

/-- Three numbers. -/
structure Job where
  ti : Int
  ra : Int
  ba : Int
instance : Inhabited Job := ⟨⟨0, 0, 0⟩⟩
theorem Job.ext' {a b : Job} (h1 : a.ti = b.ti) (h2 : a.ra = b.ra) (h3 : a.ba = b.ba) : a = b := by cases a; cases b; simp_all
def jobL (j : Job) : List Value := [.int .i64 j.ti, .int .i64 j.ra, .int .i64 j.ba]
def jobV (j : Job) : Value := .agg #[.int .i64 j.ti, .int .i64 j.ra, .int .i64 j.ba]
def jobsL (L : List Job) : List Value := L.flatMap jobL
@[simp] theorem jobsL_length (L : List Job) : (jobsL L).length = 3 * L.length := by
  induction L with
  | nil => rfl
  | cons a l ih =>
    have e : jobsL (a :: l) = .int .i64 a.ti :: .int .i64 a.ra :: .int .i64 a.ba :: jobsL l := by simp [jobsL, jobL]
    rw [e]
    simp only [List.length_cons, ih]
    omega
theorem jobsL_at (L : List Job) : ∀ k (hk : k < L.length), (jobsL L)[3 * k]? = some (.int .i64 L[k].ti) ∧ (jobsL L)[3 * k + 1]? = some (.int .i64 L[k].ra) ∧ (jobsL L)[3 * k + 2]? = some (.int .i64 L[k].ba) := by
  induction L with
  | nil => intro k hk; simp at hk
  | cons a l ih =>
    intro k hk
    cases k with
    | zero => simp [jobsL, jobL]
    | succ k =>
      have h := ih k (by simpa using hk)
      have e : jobsL (a :: l) = .int .i64 a.ti :: .int .i64 a.ra :: .int .i64 a.ba :: jobsL l := by simp [jobsL, jobL]
      rw [e]
      have e1 : 3 * (k + 1) = 3 * k + 1 + 1 + 1 := by omega
      have e2 : 3 * (k + 1) + 1 = 3 * k + 1 + 1 + 1 + 1 := by omega
      have e3 : 3 * (k + 1) + 2 = 3 * k + 2 + 1 + 1 + 1 := by omega
      rw [e1]
      simp only [List.getElem?_cons_succ, List.getElem_cons_succ]
      exact h

/-- A slice of such. -/
def Jobs (h : Hp) (v : Value) (L : List Job) : Prop :=
  ∃ s c, v = .slice s L.length c ∧ L.length ≤ c ∧ c < 2 ^ 63 ∧ (L.length = 0 ∨ ∃ o i cs own ex es, s = some ⟨o, i, none⟩ ∧ o < h.next ∧ h.get o = .cells cs own ex es ∧ i + 3 * L.length ≤ cs.length ∧
    ∀ k (hk : k < L.length), cs[i + 3 * k]? = some (.int .i64 L[k].ti) ∧ cs[i + 3 * k + 1]? = some (.int .i64 L[k].ra) ∧ cs[i + 3 * k + 2]? = some (.int .i64 L[k].ba))
theorem Jobs.form {h : Hp} {v : Value} {L : List Job} (hs : Jobs h v L) : ∃ s c, v = .slice s L.length c ∧ L.length ≤ c ∧ c < 2 ^ 63 := by
  obtain ⟨s, c, e, h1, h2, _⟩ := hs; exact ⟨s, c, e, h1, h2⟩
theorem Jobs.keep {h h' : Hp} (k : Keeps h h') {v : Value} {L : List Job} (hs : Jobs h v L) : Jobs h' v L := by
  obtain ⟨s, c, e, h1, h2, h3⟩ := hs
  refine ⟨s, c, e, h1, h2, h3.imp id ?_⟩
  rintro ⟨o, i, cs, own, ex, es, g1, g2, g3, g4⟩
  exact ⟨o, i, cs, own, ex, es, g1, Nat.lt_of_lt_of_le g2 k.1, by rw [k.2 o g2]; exact g3, g4⟩
theorem Jobs.lenD {h : Hp} {v : Value} {L : List Job} (hs : Jobs h v L) : ∀ (P : Program) (t : TypeId), Go.Eng.lenD P t v = (elT P t).map fun _ => .int .i64 L.length := by
  obtain ⟨s, c, rfl, _⟩ := hs.form
  intro P t
  simp only [Go.Eng.lenD]
  cases elT P t <;> rfl
theorem Jobs.nt {h : Hp} {v : Value} {L : List Job} (hs : Jobs h v L) : notTup v = true := by obtain ⟨s, c, rfl, _⟩ := hs.form; rfl
theorem Jobs.cs {h : Hp} {v : Value} {L : List Job} (hs : Jobs h v L) : v.cells = #[v] := by obtain ⟨s, c, rfl, _⟩ := hs.form; rfl
/-- One of them, by its place. -/
def jobAt (L : List Job) (k : Nat) : Job := L.getD k default
theorem jobAt_eq {L : List Job} {k : Nat} (h : k < L.length) : jobAt L k = L[k] := by simp [jobAt, h]
theorem Jobs.open {h : Hp} {v : Value} {L : List Job} (hs : Jobs h v L) (hne : 0 < L.length) :
    ∃ o i c cs own ex es, v = .slice (some ⟨o, i, none⟩) L.length c ∧ o < h.next ∧ h.get o = .cells cs own ex es ∧ i + L.length * 3 ≤ cs.length ∧
      (∀ k, k < L.length → (cs.drop (i + k * 3)).take 3 = jobL (jobAt L k)) ∧ (∀ k, k < L.length → cs[i + k * 3]? = some (.int .i64 (jobAt L k).ti)) ∧ (∀ k, k < L.length → cs[i + k * 3 + 1]? = some (.int .i64 (jobAt L k).ra)) ∧ (∀ k, k < L.length → cs[i + k * 3 + 2]? = some (.int .i64 (jobAt L k).ba)) ∧
      (∀ k, k < L.length → ∀ h2 : i + k * 3 < cs.length, cs[i + k * 3] = .int .i64 (jobAt L k).ti) ∧ (∀ k, k < L.length → ∀ h2 : i + k * 3 + 1 < cs.length, cs[i + k * 3 + 1] = .int .i64 (jobAt L k).ra) ∧ (∀ k, k < L.length → ∀ h2 : i + k * 3 + 2 < cs.length, cs[i + k * 3 + 2] = .int .i64 (jobAt L k).ba) := by
  obtain ⟨s, c, e, h1, h2, h3⟩ := hs
  rcases h3 with h3 | ⟨o, i, cs, own, ex, es, g1, g2, g3, g4, g5⟩
  · omega
  · have g6 : ∀ k, k < L.length → cs[i + k * 3]? = some (.int .i64 (jobAt L k).ti) ∧ cs[i + k * 3 + 1]? = some (.int .i64 (jobAt L k).ra) ∧ cs[i + k * 3 + 2]? = some (.int .i64 (jobAt L k).ba) := by
      intro k hk
      have := g5 k hk
      rw [Nat.mul_comm] at this
      rw [jobAt_eq hk]
      exact this
    refine ⟨o, i, c, cs, own, ex, es, by rw [e, g1], g2, g3, by omega, fun k hk => ?_, fun k hk => (g6 k hk).1, fun k hk => (g6 k hk).2.1, fun k hk => (g6 k hk).2.2, fun k hk h2 => ?_, fun k hk h2 => ?_, fun k hk h2 => ?_⟩ <;> obtain ⟨a, b, d⟩ := g6 k hk
    · apply List.ext_getElem?
      intro j
      rw [List.getElem?_take]
      by_cases hj : j < 3
      · rw [if_pos hj, List.getElem?_drop]
        match j, hj with
        | 0, _ => simpa [jobL] using a
        | 1, _ => simpa [jobL] using b
        | 2, _ => simpa [jobL] using d
      · rw [if_neg hj]; simp [jobL]; omega
    · rw [List.getElem?_eq_getElem h2] at a; exact Option.some.inj a
    · rw [List.getElem?_eq_getElem h2] at b; exact Option.some.inj b
    · rw [List.getElem?_eq_getElem h2] at d; exact Option.some.inj d
theorem Jobs.nil (h : Hp) : Jobs h (.slice none 0 0) [] := ⟨none, 0, rfl, Nat.le_refl _, by decide, .inl rfl⟩
/-- A whole new object. -/
theorem Jobs.mk {h : Hp} {o : Nat} {L : List Job} {own ex : Bool} {es : Nat} (ho : o < h.next) (hl : L.length < 2 ^ 63) (hg : h.get o = .cells (jobsL L) own ex es) : Jobs h (.slice (some ⟨o, 0, none⟩) L.length L.length) L :=
  ⟨_, _, rfl, Nat.le_refl _, hl, .inr ⟨o, 0, _, own, ex, es, rfl, ho, hg, by simp, fun k hk => by simpa using jobsL_at L k hk⟩⟩

/-- The cells of a new row of which j have been set. -/
def jobsC (L : List Job) (j : Nat) : List Value := jobsL (L.take j) ++ List.replicate (3 * (L.length - j)) (.int .i64 0)
theorem jobsC_length {L : List Job} {j : Nat} (hj : j ≤ L.length) : (jobsC L j).length = 3 * L.length := by
  simp only [jobsC, List.length_append, jobsL_length, List.length_take, List.length_replicate]; omega
theorem jobsC_zero (L : List Job) : List.replicate (L.length * 3) (Value.int .i64 0) = jobsC L 0 := by simp [jobsC, jobsL, Nat.mul_comm]
theorem zcells_job (n : Nat) : zcells (.agg #[.int .i64 0, .int .i64 0, .int .i64 0]) n = List.replicate (n * 3) (.int .i64 0) := by
  unfold zcells
  apply List.ext_getElem
  · simp [Value.cells]
  · intro i h1 h2
    simp only [Value.cells, List.getElem_map, List.getElem_range, List.getElem_replicate]
    have : i % 3 = 0 ∨ i % 3 = 1 ∨ i % 3 = 2 := by omega
    rcases this with e | e | e <;> simp [e]
theorem jobsC_full (L : List Job) : jobsC L L.length = jobsL L := by simp [jobsC]
theorem jobsC_put {L : List Job} {j : Nat} (hj : j < L.length) : putCells (jobsC L j) (j * 3) (jobL (jobAt L j)) = jobsC L (j + 1) := by
  have hl : (jobsL (L.take j)).length = j * 3 := by simp; omega
  have hs : jobsL (L.take (j + 1)) = jobsL (L.take j) ++ jobL (jobAt L j) := by
    rw [List.take_succ_eq_append_getElem hj, jobAt_eq hj]; simp only [jobsL, List.flatMap_append, List.flatMap_cons, List.flatMap_nil, List.append_nil]
  have hj3 : (jobL (jobAt L j)).length = 3 := rfl
  unfold putCells jobsC
  rw [List.take_left' hl, hs, List.append_assoc, hj3]
  congr 2
  rw [← hl, List.drop_length_add_append, List.drop_replicate]
  congr 1
  omega

section
variable {H : Type} {enc : TypeId × Value → H} {P : Program} {W : World} {base : Nat} {held : Bool} {E : Emb} {h : Hp}
/-- .. as an argument. -/
theorem lay_jobs {t e : TypeId} {f0 f1 f2 : Field} {fuel : Nat} {v : Value} {x : DataW H × List MemPlace} (ht : P.underlying t = some (.slice e)) (he : P.underlying e = some (.struct #[f0, f1, f2])) (ce : P.cellsOf e = 3)
    (o0 : f0.offset = 0) (o1 : f1.offset = 1) (o2 : f2.offset = 2) (i0 : P.underlying f0.type = some (.int .i64)) (i1 : P.underlying f1.type = some (.int .i64)) (i2 : P.underlying f2.type = some (.int .i64))
    (c0 : P.cellsOf f0.type = 1) (c1 : P.cellsOf f1.type = 1) (c2 : P.cellsOf f2.type = 1)
    (hf : DataW.trod enc P W base (fun _ => true) held fuel t [v] = some x) (st : Start E h W) :
    ∃ E' h' a L, Start E' h' W ∧ More E h E' h' ∧ VRel E' a v ∧ Jobs h' a L := by
  rcases open_slice ht hf with ⟨h0, _⟩ | ⟨a, len, cap, m, n, D, Pl, h0, hb, hl, hm, hmm, _, hx⟩
  · simp only [List.cons.injEq, and_true] at h0
    subst h0
    exact ⟨E, h, _, [], st, More.refl E h, .sliceNil, Jobs.nil h⟩
  · simp only [List.cons.injEq, and_true] at h0
    subst h0
    simp only [if_true] at hmm
    subst hmm
    have each : ∀ i, i < m → ∃ q : Job, W.cell? (a.add (i * 3)) = some (.int .i64 q.ti) ∧ W.cell? (a.add (i * 3 + 1)) = some (.int .i64 q.ra) ∧ W.cell? (a.add (i * 3 + 2)) = some (.int .i64 q.ba) := by
      intro i hi
      obtain ⟨cs', h1, h2⟩ := hx i hi
      rw [ce] at h1
      obtain ⟨_, hlen, hcell⟩ := World.cells?_some h1
      obtain ⟨xs, k, hk, hxy, _, hxl, hf⟩ := DataW.trod_struct he h2
      match xs, hxl, cs', hlen with
      | [y0, y1, y2], _, [v0, v1, v2], _ =>
        have g0 := hf 0 f0 rfl
        have g1 := hf 1 f1 rfl
        have g2 := hf 2 f2 rfl
        simp [o0, o1, o2, c0, c1, c2] at g0 g1 g2
        have e0 := hcell 0 (by omega)
        have e1 := hcell 1 (by omega)
        have e2 := hcell 2 (by omega)
        rw [add_add] at e0 e1 e2
        obtain ⟨z0, q0, _⟩ := DataW.trod_int i0 g0
        obtain ⟨z1, q1, _⟩ := DataW.trod_int i1 g1
        obtain ⟨z2, q2, _⟩ := DataW.trod_int i2 g2
        simp only [List.cons.injEq, and_true] at q0 q1 q2
        subst q0; subst q1; subst q2
        exact ⟨⟨z0, z1, z2⟩, by simpa using e0, by simpa using e1, by simpa using e2⟩
    by_cases hc0 : m = 0
    · subst hc0
      have h0 : len = 0 := by omega
      subst h0
      exact ⟨E, h, _, [], st, More.refl E h, .slice0 a, ⟨some ⟨0, 0, some 0⟩, 0, rfl, Nat.le_refl _, by decide, .inl rfl⟩⟩
    · obtain ⟨q, hq⟩ := choose_lt each
      have hcells : ∀ i, i < 3 * m → ∃ z : Int, (jobsL ((List.range m).map q)).getD i undef = .int .i64 z ∧ W.cell? (a.add i) = some (.int .i64 z) := by
        intro i hi
        have hk : i / 3 < ((List.range m).map q).length := by simp; omega
        have hk' : i / 3 < m := by omega
        obtain ⟨a1, a2, a3⟩ := jobsL_at ((List.range m).map q) (i / 3) hk
        obtain ⟨b1, b2, b3⟩ := hq (i / 3) hk'
        simp only [List.getElem_map, List.getElem_range] at a1 a2 a3
        have : i = i / 3 * 3 ∨ i = i / 3 * 3 + 1 ∨ i = i / 3 * 3 + 2 := by omega
        rw [List.getD_eq_getElem?_getD]
        rcases this with e | e | e
        · have e' : i = 3 * (i / 3) := by omega
          exact ⟨(q (i / 3)).ti, by rw [← e'] at a1; rw [a1]; rfl, by rw [← e] at b1; exact b1⟩
        · have e' : i = 3 * (i / 3) + 1 := by omega
          exact ⟨(q (i / 3)).ra, by rw [← e'] at a2; rw [a2]; rfl, by rw [← e] at b2; exact b2⟩
        · have e' : i = 3 * (i / 3) + 2 := by omega
          exact ⟨(q (i / 3)).ba, by rw [← e'] at a3; rw [a3]; rfl, by rw [← e] at b3; exact b3⟩
      obtain ⟨hsp, st', mo⟩ := add_ro st a (jobsL ((List.range m).map q)) (by simp; omega) (fun i hi => by
        obtain ⟨z, z1, z2⟩ := hcells i (by simpa using hi)
        rw [z1]
        exact ⟨rfl, _, z2, .int _ _⟩)
      have hn : h.next < (h.alloc (.cells (jobsL ((List.range m).map q)) false true 1)).next := Nat.lt_succ_self _
      refine ⟨_, _, .slice (some ⟨h.next, 0, none⟩) len m, ((List.range m).map q).take len, st', mo, ?_, ⟨some ⟨h.next, 0, none⟩, m, by simp; omega, by simp; omega, maxLen_lt hm, .inr ⟨h.next, 0, jobsL ((List.range m).map q), false, true, 1, rfl, hn, by simp [Hp.alloc], by simp; omega, fun k hk => ?_⟩⟩⟩
      · have := VRel.slice (E := E.add h.next a.block a.off 0) h.next 0 len m a (.inl rfl) hl (.inr (by
          obtain ⟨b, o, s⟩ := a
          simp only at hsp
          subst hsp
          simp [Emb.add]))
        simpa [Emb.add] using this
      · have hk' : k < ((List.range m).map q).length := by simp at hk ⊢; omega
        have := jobsL_at ((List.range m).map q) k hk'
        simpa using this
end
end Go.Eng
