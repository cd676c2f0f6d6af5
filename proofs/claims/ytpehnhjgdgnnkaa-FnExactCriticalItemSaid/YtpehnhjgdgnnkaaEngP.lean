/- A region that draws its order: its first operations in any order that the edges allow, the others behind all of them. -/
import Derived.Test.YtpehnhjgdgnnkaaEngO
namespace Go.Eng

/-- The objects below a number alone. -/
def Emb.cut (E : Emb) (n : Nat) : Emb := ⟨fun o => o < n ∧ E.D o, E.blk, E.off, E.slk⟩

theorem HRel.congr {E F : Emb} {base : Nat} {h : Hp} {H : Array Obj} (hd : ∀ o, E.D o ↔ F.D o) (he : ∀ o, E.D o → F.blk o = E.blk o ∧ F.off o = E.off o ∧ F.slk o = E.slk o) (hr : HRel E base h H) : HRel F base h H where
  le := hr.le
  lt o h := hr.lt o ((hd o).2 h)
  obj o h := (hr.obj o ((hd o).2 h)).mono (fun o h => ⟨(hd o).1 h, he o h⟩) ((hd o).2 h) rfl
  sep o o' h h' hne h1 h2 := by
    rw [(he o ((hd o).2 h)).1, (he o' ((hd o').2 h')).1]
    exact hr.sep o o' ((hd o).2 h) ((hd o').2 h') hne h1 h2

/-- What a larger relation says of some objects only. -/
theorem sub_rel {F E' : Emb} {base : Nat} {h h' : Hp} {H H' : Array Obj} (hF : HRel F base h H) (hmem : ∀ o, F.D o → E'.D o ∧ E'.blk o = F.blk o ∧ E'.off o = F.off o ∧ E'.slk o = F.slk o)
    (hget : ∀ o, F.D o → h'.get o = h.get o) (hr' : HRel E' base h' H') : HRel F base h H' := by
  have hD : ∀ o, F.D o → E'.blk o = F.blk o ∧ E'.off o = F.off o ∧ E'.slk o = F.slk o := fun o hd => (hmem o hd).2
  refine ⟨hr'.le, hF.lt, fun o hd => ?_, hF.sep⟩
  have h1 := hr'.obj o (hmem o hd).1
  rw [hget o hd] at h1
  have h0 := hF.obj o hd
  obtain ⟨hb, hf, hs⟩ := hD o hd
  cases hx : h.get o with
  | dead => trivial
  | cells c own ex es =>
    rw [hx] at h0 h1
    obtain ⟨C0, _, _, _, _, g3, _, _, _⟩ := h0
    obtain ⟨C, ty, fz, k1, k2, k3, k4, k5, k6⟩ := h1
    refine ⟨C, ty, fz, by rw [← hb]; exact k1, by rw [← hf, ← hs]; exact k2, fun i hi => ?_, k4, fun e => ?_, fun e => by rw [← hs]; exact k6 e⟩
    · have := k3 i hi
      rw [hf] at this
      exact (g3 i hi).back hD this
    · rw [← hb]; exact k5 e
  | map es =>
    rw [hx] at h0 h1
    obtain ⟨e0, _, _, _, _, g4⟩ := h0
    obtain ⟨ents, clock, k1, k2, k3, k4⟩ := h1
    exact ⟨ents, clock, by rw [← hb]; exact k1, by rw [← hb]; exact k2, k3, fun i hi => ⟨(g4 i hi).1.back hD (k4 i hi).1, (g4 i hi).2.back hD (k4 i hi).2⟩⟩

/-- The new objects are the call's own. -/
def NewOwn (h h' : Hp) : Prop := ∀ o, h.next ≤ o → o < h'.next → (h'.get o).live = true → (h'.get o).owned = true

/-- The trace of the first operations in the order of the text. -/
structure Tr (P : Program) (n : Nat) (ops : Array Oper) (p : Nat) where
  fits : p ≤ ops.size
  T : Nat → Nat → Value
  H : Nat → Hp
  V : Nat → Value
  dst : ∀ i o, i < p → ops[i]? = some o → dstOK n o.dst = true ∧ guardOK n ops o = true
  step : ∀ i o, i < p → ops[i]? = some o → (wantA ops (T i) o = some true ∧ OpOK P o (T i) (H i) (V i) (H (i + 1))) ∨ (wantA ops (T i) o = some false ∧ V i = undef ∧ H (i + 1) = H i)
  next : ∀ i o, i < p → ops[i]? = some o → T (i + 1) = updO (T i) o.dst (V i)
  keeps : ∀ i, i < p → Keeps (H i) (H (i + 1))
  own : ∀ i, i < p → NewOwn (H i) (H (i + 1))

section
variable {P : Program} {n : Nat} {ops : Array Oper} {p : Nat}

theorem Tr.keep (t : Tr P n ops p) {i : Nat} : ∀ {k : Nat}, i ≤ k → k ≤ p → Keeps (t.H i) (t.H k)
  | 0, h, _ => by have : i = 0 := by omega
                  subst this; exact Keeps.refl _
  | k + 1, h, hk => by
    by_cases e : i = k + 1
    · subst e; exact Keeps.refl _
    · exact (Tr.keep t (by omega : i ≤ k) (by omega)).trans (t.keeps k (by omega))

theorem Tr.le (t : Tr P n ops p) {i k : Nat} (h : i ≤ k) (hk : k ≤ p) : (t.H i).next ≤ (t.H k).next := (t.keep h hk).1

/-- What was executed (S), and what it has left. -/
structure Inv (t : Tr P n ops p) (E0 : Emb) (base : Nat) (w0 : World) (S : Nat → Bool) (E : Emb) (w : World) (a : Act) : Prop where
  heap : ∀ k, k ≤ p → HRel (E.cut (t.H k).next) base (t.H k) w.heap
  ext : ∀ o, o < (t.H 0).next → (E.D o ↔ E0.D o) ∧ E.blk o = E0.blk o ∧ E.off o = E0.off o ∧ E.slk o = E0.slk o
  os : w.os = w0.os
  tape : w.tape = w0.tape
  output : w.output = w0.output
  size : w0.heap.size ≤ w.heap.size
  keep : ∀ b, b < w0.heap.size → (∀ o, E0.D o → ((t.H 0).get o).owned = true → E0.blk o ≠ b) → w.heap[b]? = w0.heap[b]?
  own : ∀ o, E.D o → o < (t.H p).next → ((t.H p).get o).owned = true → (∃ o0, E0.D o0 ∧ ((t.H 0).get o0).owned = true ∧ E0.blk o0 = E.blk o) ∨ w0.heap.size ≤ E.blk o
  new : ∀ i o, i < p → S i = false → (t.H i).next ≤ o → o < (t.H (i + 1)).next → ¬ E.D o
  tmps : a.tmps.size = n
  defers : a.defers = []
  /-- a slot holds what the last of its executed writers gave -/
  last : ∀ s j o, j < p → S j = true → ops[j]? = some o → o.dst = some s → (∀ k o', j < k → k < p → S k = true → ops[k]? = some o' → o'.dst ≠ some s) → VRel (E.cut (t.H (j + 1)).next) (t.V j) (a.tmps.getD s undef)
  none : ∀ s, (∀ k o', k < p → S k = true → ops[k]? = some o' → o'.dst ≠ some s) → VRel (E.cut (t.H 0).next) (t.T 0 s) (a.tmps.getD s undef)

theorem cut_mono {E : Emb} {a b : Nat} (h : a ≤ b) {v v' : Value} (hv : VRel (E.cut a) v v') : VRel (E.cut b) v v' :=
  VRel.mono (E := E.cut a) (E' := E.cut b) (fun _ ho => ⟨⟨by have := ho.1; omega, ho.2⟩, rfl, rfl, rfl⟩) hv

/-- A slot in the order of the text: its last writer, or none. -/
theorem Tr.slot (t : Tr P n ops p) (s : Nat) : ∀ i, i ≤ p → (∃ j o, j < i ∧ ops[j]? = some o ∧ o.dst = some s ∧ t.T i s = t.V j ∧ ∀ k o', j < k → k < i → ops[k]? = some o' → o'.dst ≠ some s) ∨
    (t.T i s = t.T 0 s ∧ ∀ k o', k < i → ops[k]? = some o' → o'.dst ≠ some s)
  | 0, _ => .inr ⟨rfl, fun k o' h => absurd h (by omega)⟩
  | i + 1, hi => by
    cases ho : ops[i]? with
    | none => rw [Array.getElem?_eq_getElem (by have := t.fits; omega)] at ho; cases ho
    | some o =>
      have hn := t.next i o (by omega) ho
      by_cases hd : o.dst = some s
      · left
        refine ⟨i, o, by omega, ho, hd, by rw [hn, hd]; simp [updO, upd], fun k o' h1 h2 => absurd h1 (by omega)⟩
      · have hts : t.T (i + 1) s = t.T i s := by
          rw [hn]
          cases hdst : o.dst with
          | none => rfl
          | some d =>
            have : s ≠ d := fun e => hd (by rw [hdst, e])
            simp [updO, upd, this]
        rcases Tr.slot t s i (by omega) with ⟨j, oj, h1, h2, h3, h4, h5⟩ | ⟨h1, h2⟩
        · left
          refine ⟨j, oj, by omega, h2, h3, by rw [hts, h4], fun k o' hk1 hk2 hk => ?_⟩
          by_cases e : k = i
          · subst e; rw [ho] at hk; cases hk; exact hd
          · exact h5 k o' hk1 (by omega) hk
        · right
          refine ⟨by rw [hts, h1], fun k o' hk1 hk => ?_⟩
          by_cases e : k = i
          · subst e; rw [ho] at hk; cases hk; exact hd
          · exact h2 k o' (by omega) hk

/-- The embedding behind one more operation. -/
def Emb.mix (E' E : Emb) (n : Nat) : Emb := ⟨fun o => if o < n then E'.D o else E.D o, fun o => if o < n then E'.blk o else E.blk o, fun o => if o < n then E'.off o else E.off o, fun o => if o < n then E'.slk o else E.slk o⟩

theorem Inv.next {t : Tr P n ops p} {E0 E E' : Emb} {base : Nat} {w0 w w' : World} {S : Nat → Bool} {a : Act} {v' : Value} (inv : Inv t E0 base w0 S E w a) {i : Nat} {o : Oper} (hi : i < p) (ho : ops[i]? = some o) (hS : S i = false)
    (hdst : dstOK n o.dst = true) (hB : ∀ j oj s, j < p → i < j → ops[j]? = some oj → o.dst = some s → oj.dst = some s → S j = false)
    (st : Step (E.cut (t.H i).next) (t.H i) w E' (t.H (i + 1)) w') (hr : HRel E' base (t.H (i + 1)) w'.heap) (hv : VRel E' (t.V i) v') :
    Inv t E0 base w0 (fun k => if k = i then true else S k) (E'.mix E (t.H (i + 1)).next) w' (a.put o.dst v') := by
  have hle : (t.H i).next ≤ (t.H (i + 1)).next := t.le (by omega) (by omega)
  have hle0 : (t.H 0).next ≤ (t.H i).next := t.le (by omega) (by omega)
  have hlep : (t.H (i + 1)).next ≤ (t.H p).next := t.le (by omega) (by omega)
  -- old objects are in the new embedding, as they were
  have hsub : ∀ q, E.D q → (E'.mix E (t.H (i + 1)).next).D q ∧ (E'.mix E (t.H (i + 1)).next).blk q = E.blk q ∧ (E'.mix E (t.H (i + 1)).next).off q = E.off q ∧ (E'.mix E (t.H (i + 1)).next).slk q = E.slk q := by
    intro q hq
    by_cases h1 : q < (t.H (i + 1)).next
    · have h2 : q < (t.H i).next := by
        rcases Nat.lt_or_ge q (t.H i).next with h | h
        · exact h
        · exact absurd hq (inv.new i q hi hS h h1)
      obtain ⟨e1, e2, e3, e4⟩ := st.ext q h2
      simp only [Emb.mix, h1, if_true]
      exact ⟨e1.2 ⟨h2, hq⟩, e2, e3, e4⟩
    · simp [Emb.mix, h1, hq]
  -- and those of the operation's own embedding
  have hsub' : ∀ q, E'.D q → (E'.mix E (t.H (i + 1)).next).D q ∧ (E'.mix E (t.H (i + 1)).next).blk q = E'.blk q ∧ (E'.mix E (t.H (i + 1)).next).off q = E'.off q ∧ (E'.mix E (t.H (i + 1)).next).slk q = E'.slk q := by
    intro q hq
    have h1 := hr.lt q hq
    simp [Emb.mix, h1, hq]
  have hE' : ∀ q, q < (t.H i).next → E.D q → E'.D q ∧ E'.blk q = E.blk q ∧ E'.off q = E.off q ∧ E'.slk q = E.slk q := by
    intro q h2 hq
    obtain ⟨e1, e2, e3, e4⟩ := st.ext q h2
    exact ⟨e1.2 ⟨h2, hq⟩, e2, e3, e4⟩
  have hback : ∀ q, q < (t.H i).next → E'.D q → E.D q := fun q h2 hq => ((st.ext q h2).1.1 hq).2
  -- a new object's block was not there
  have hfresh : ∀ q, (t.H i).next ≤ q → E'.D q → ((t.H (i + 1)).get q).live = true → w.heap.size ≤ E'.blk q := by
    intro q h1 hq hlv
    have hown := t.own i hi q h1 (hr.lt q hq) hlv
    rcases st.own q hq hown with ⟨o0, h0, h00, e0⟩ | h
    · have h0lt : o0 < (t.H i).next := h0.1
      have hn0 : E'.D o0 ∧ E'.blk o0 = E.blk o0 := ⟨(hE' o0 h0lt h0.2).1, (hE' o0 h0lt h0.2).2.1⟩
      have hg : (t.H (i + 1)).get o0 = (t.H i).get o0 := (t.keeps i hi).2 o0 h0lt
      have := hr.sep q o0 hq hn0.1 (by omega) hown (by rw [hg]; exact AObj.live_of_owned h00)
      exact absurd (hn0.2.trans e0).symm this
    · exact h
  have heap : ∀ k, k ≤ p → HRel ((E'.mix E (t.H (i + 1)).next).cut (t.H k).next) base (t.H k) w'.heap := by
    intro k hk
    by_cases hki : k ≤ i
    · have hlk := t.le hki (by omega)
      have h1 := sub_rel (F := E.cut (t.H k).next) (E' := E') (inv.heap k hk) (fun q (hq : q < (t.H k).next ∧ E.D q) => hE' q (by have := hq.1; omega) hq.2)
        (fun q (hq : q < (t.H k).next ∧ E.D q) => (t.keep (show k ≤ i + 1 by omega) (by omega)).2 q hq.1) hr
      refine HRel.congr (E := E.cut (t.H k).next) (F := (E'.mix E (t.H (i + 1)).next).cut (t.H k).next) (fun q => ?_) (fun q (hq : q < (t.H k).next ∧ E.D q) => (hsub q hq.2).2) h1
      constructor
      · exact fun hq => ⟨hq.1, (hsub q hq.2).1⟩
      · rintro ⟨h2, h3⟩
        have h4 : q < (t.H (i + 1)).next := by omega
        simp only [Emb.mix, h4, if_true] at h3
        exact ⟨h2, hback q (by omega) h3⟩
    · have hlk := t.le (show i + 1 ≤ k by omega) hk
      have old := inv.heap k hk
      have hkp := t.keep (show i + 1 ≤ k by omega) hk
      have hkp0 := t.keep (show i ≤ k by omega) hk
      -- members
      have mem : ∀ q, ((E'.mix E (t.H (i + 1)).next).cut (t.H k).next).D q → (q < (t.H (i + 1)).next ∧ E'.D q) ∨ ((t.H (i + 1)).next ≤ q ∧ q < (t.H k).next ∧ E.D q) := by
        rintro q ⟨h1, h2⟩
        by_cases h3 : q < (t.H (i + 1)).next
        · simp only [Emb.mix, h3, if_true] at h2; exact .inl ⟨h3, h2⟩
        · simp only [Emb.mix, h3, if_false] at h2; exact .inr ⟨by omega, h1, h2⟩
      have blkL : ∀ q, q < (t.H (i + 1)).next → ((E'.mix E (t.H (i + 1)).next).cut (t.H k).next).blk q = E'.blk q := fun q h => by simp [Emb.cut, Emb.mix, h]
      have blkR : ∀ q, (t.H (i + 1)).next ≤ q → ((E'.mix E (t.H (i + 1)).next).cut (t.H k).next).blk q = E.blk q := fun q h => by simp [Emb.cut, Emb.mix, Nat.not_lt.2 h]
      -- a left one and a right one, one of them owned, lie apart
      have apart : ∀ q r, q < (t.H (i + 1)).next → E'.D q → (t.H (i + 1)).next ≤ r → r < (t.H k).next → E.D r → ((t.H k).get q).live = true → ((t.H k).get r).live = true → (((t.H k).get q).owned = true ∨ ((t.H k).get r).owned = true) → E'.blk q ≠ E.blk r := by
        intro q r h1 h2 h3 h4 h5 h6 h7 h8
        by_cases hq : q < (t.H i).next
        · have hq' := hback q hq h2
          rw [(hE' q hq hq').2.1]
          rcases h8 with h8 | h8
          · exact old.sep q r ⟨by omega, hq'⟩ ⟨h4, h5⟩ (by omega) h8 h7
          · exact fun e => old.sep r q ⟨h4, h5⟩ ⟨by omega, hq'⟩ (by omega) h8 h6 e.symm
        · have := hfresh q (by omega) h2 (by rw [← hkp.2 q h1]; exact h6)
          have hb := (old.obj r ⟨h4, h5⟩).block h7
          exact fun e => by simp only [Emb.cut] at hb; omega
      refine ⟨hr.le, fun q hq => hq.1, fun q hq => ?_, fun q r hq hr' hne h1 h2 => ?_⟩
      · rcases mem q hq with ⟨h1, h2⟩ | ⟨h1, h2, h3⟩
        · have hg : (t.H k).get q = (t.H (i + 1)).get q := hkp.2 q h1
          rw [hg]
          refine ORel.mono (E := E') (E' := (E'.mix E (t.H (i + 1)).next).cut (t.H k).next) (fun r hr'' => ?_) h2 rfl (hr.obj q h2)
          have := hsub' r hr''
          exact ⟨⟨by have := hr.lt r hr''; omega, this.1⟩, this.2⟩
        · have h0 := old.obj q ⟨h2, h3⟩
          cases hx : (t.H k).get q with
          | dead => trivial
          | _ =>
            have hl : ((t.H k).get q).live = true := by rw [hx]; rfl
            have hb := h0.block hl
            rw [hx] at h0
            refine ORel.mono (E := E.cut (t.H k).next) (E' := (E'.mix E (t.H (i + 1)).next).cut (t.H k).next) (fun r (hr'' : r < (t.H k).next ∧ E.D r) => ?_) ⟨h2, h3⟩ ?_ h0
            · have := hsub r hr''.2
              exact ⟨⟨hr''.1, this.1⟩, this.2⟩
            · refine st.keep _ hb ?_
              intro o0 h4 h5
              have h4lt : o0 < (t.H i).next := h4.1
              have hg0 : (t.H k).get o0 = (t.H i).get o0 := hkp0.2 o0 h4lt
              exact old.sep o0 q ⟨by omega, h4.2⟩ ⟨h2, h3⟩ (by omega) (by rw [hg0]; exact h5) hl
      · rcases mem q hq with ⟨a1, a2⟩ | ⟨a1, a2, a3⟩ <;> rcases mem r hr' with ⟨b1, b2⟩ | ⟨b1, b2, b3⟩
        · rw [blkL q a1, blkL r b1]
          refine hr.sep q r a2 b2 hne ?_ ?_
          · rw [← hkp.2 q a1]; exact h1
          · rw [← hkp.2 r b1]; exact h2
        · rw [blkL q a1, blkR r b1]
          exact apart q r a1 a2 b1 b2 b3 (AObj.live_of_owned h1) h2 (.inl h1)
        · rw [blkR q a1, blkL r b1]
          exact fun e => apart r q b1 b2 a1 a2 a3 h2 (AObj.live_of_owned h1) (.inr h1) e.symm
        · rw [blkR q a1, blkR r b1]
          exact old.sep q r ⟨a2, a3⟩ ⟨b2, b3⟩ hne h1 h2
  refine ⟨heap, fun q hq => ?_, st.os.trans inv.os, st.tape.trans inv.tape, st.output.trans inv.output, Nat.le_trans inv.size st.size, fun b hb hn => ?_, fun q hq hqp hown => ?_, fun k q hk hkS h1 h2 hq => ?_, ?_, ?_, ?_, ?_⟩
  · have h1 : q < (t.H (i + 1)).next := by omega
    obtain ⟨e1, e2, e3, e4⟩ := st.ext q (by omega)
    obtain ⟨f1, f2, f3, f4⟩ := inv.ext q hq
    simp only [Emb.mix, h1, if_true]
    refine ⟨⟨fun h => f1.1 (e1.1 h).2, fun h => e1.2 ⟨by omega, f1.2 h⟩⟩, e2.trans f2, e3.trans f3, e4.trans f4⟩
  · rw [st.keep b (Nat.lt_of_lt_of_le hb inv.size) ?_]
    · exact inv.keep b hb hn
    · intro o1 h1 h2 e
      have hg1 : (t.H p).get o1 = (t.H i).get o1 := (t.keep (show i ≤ p by omega) (Nat.le_refl _)).2 o1 h1.1
      have h1p : o1 < (t.H p).next := by have := h1.1; omega
      rcases inv.own o1 h1.2 h1p (by rw [hg1]; exact h2) with ⟨o0, h0, h00, e0⟩ | h
      · exact hn o0 h0 h00 (e0.trans e)
      · have e' : E.blk o1 = b := e
        omega
  · by_cases h1 : q < (t.H (i + 1)).next
    · simp only [Emb.mix, h1, if_true] at hq ⊢
      by_cases h2 : q < (t.H i).next
      · have hq' := hback q h2 hq
        rw [(hE' q h2 hq').2.1]
        exact inv.own q hq' hqp hown
      · right
        refine Nat.le_trans inv.size (hfresh q (by omega) hq ?_)
        rw [← (t.keep (show i + 1 ≤ p by omega) (Nat.le_refl _)).2 q h1]; exact AObj.live_of_owned hown
    · simp only [Emb.mix, h1, if_false] at hq ⊢
      exact inv.own q hq hqp hown
  · by_cases hki : k = i
    · simp [hki] at hkS
    · simp only [hki, if_false] at hkS
      have := inv.new k q hk hkS h1 h2
      by_cases h3 : q < (t.H (i + 1)).next
      · simp only [Emb.mix, h3, if_true] at hq
        rcases Nat.lt_or_gt_of_ne hki with h4 | h4
        · have := t.le (show k + 1 ≤ i by omega) (by omega)
          exact inv.new k q hk hkS h1 h2 (hback q (by omega) hq)
        · have := t.le (show i + 1 ≤ k by omega) (by omega)
          omega
      · simp only [Emb.mix, h3, if_false] at hq
        exact this hq
  · cases hd : o.dst <;> simp [Act.put, inv.tmps]
  · cases hd : o.dst <;> simp [Act.put, inv.defers]
  · intro s j oj hj hSj hoj hdj hlast
    by_cases hji : j = i
    · subst hji
      rw [ho] at hoj; cases hoj
      have hs : s < n := by rw [hdj] at hdst; simpa [dstOK] using hdst
      have : (a.put o.dst v').tmps.getD s undef = v' := by rw [hdj]; simp [Act.put, inv.tmps, hs]
      rw [this]
      exact VRel.mono (E := E') (E' := (E'.mix E (t.H (j + 1)).next).cut (t.H (j + 1)).next) (fun q hq => ⟨⟨hr.lt q hq, (hsub' q hq).1⟩, (hsub' q hq).2⟩) hv
    · have hSj' : S j = true := by simpa [hji] using hSj
      have hne : o.dst ≠ some s := by
        intro e
        rcases Nat.lt_or_gt_of_ne hji with h4 | h4
        · exact hlast i o h4 hi (by simp) ho e
        · have := hB j oj s hj h4 hoj e hdj
          rw [this] at hSj'; cases hSj'
      have : (a.put o.dst v').tmps.getD s undef = a.tmps.getD s undef := by
        cases hd : o.dst with
        | none => rfl
        | some d =>
          have hds : d ≠ s := fun e => hne (by rw [hd, e])
          simp only [Act.put]
          rw [Array.getD_eq_getD_getElem?, Array.getD_eq_getD_getElem?, Array.getElem?_setIfInBounds_ne hds]
      rw [this]
      exact VRel.mono (E := E.cut (t.H (j + 1)).next) (E' := (E'.mix E (t.H (i + 1)).next).cut (t.H (j + 1)).next) (fun q hq => ⟨⟨hq.1, (hsub q hq.2).1⟩, (hsub q hq.2).2⟩) (inv.last s j oj hj hSj' hoj hdj (fun k ok h1 h2 h3 h4 => hlast k ok h1 h2 (by simp only [h3]; split <;> rfl) h4))
  · intro s hnone
    have hne : o.dst ≠ some s := hnone i o hi (by simp) ho
    have : (a.put o.dst v').tmps.getD s undef = a.tmps.getD s undef := by
      cases hd : o.dst with
      | none => rfl
      | some d =>
        have hds : d ≠ s := fun e => hne (by rw [hd, e])
        simp only [Act.put]
        rw [Array.getD_eq_getD_getElem?, Array.getD_eq_getD_getElem?, Array.getElem?_setIfInBounds_ne hds]
    rw [this]
    exact VRel.mono (E := E.cut (t.H 0).next) (E' := (E'.mix E (t.H (i + 1)).next).cut (t.H 0).next) (fun q hq => ⟨⟨hq.1, (hsub q hq.2).1⟩, (hsub q hq.2).2⟩) (inv.none s (fun k ok h2 h3 h4 => hnone k ok h2 (by simp only [h3]; split <;> rfl) h4))

end
end Go.Eng
