/- A region that draws its order, continued: every order that the edges allow comes to the end that the text's order has. -/
import Derived.Test.YtpehnhjgdgnnkaaEngP
namespace Go.Eng

def dirE (ops : Array Oper) (i j : Nat) : Bool := match ops[i]? with
  | some o => o.after.any fun e => Region.binds .any e && e.on == j
  | none => false

/-- An edge, or a way over a few. -/
def tclE (ops : Array Oper) : Nat → Nat → Nat → Bool
  | 0, i, j => dirE ops i j
  | m + 1, i, j => dirE ops i j || (List.range i).any fun k => dirE ops i k && tclE ops m k j

/-- The edges order what has to be ordered: slots' writers and readers; from p on everything. -/
def drawOK (ops : Array Oper) (p : Nat) : Bool :=
  decide (p ≤ ops.size) &&
  (List.range ops.size).all (fun i => match ops[i]? with
    | some o => o.after.all (fun e => !Region.binds .any e || decide (e.on < i)) &&
      (if i < p then
        (List.range p).all (fun j => i == j || match ops[j]? with
          | some oj => (match oj.dst with
            | some s => (!(o.looksAt ops).contains s || (if j < i then dirE ops i j else dirE ops j i)) && (o.dst != some s || !decide (i < j) || dirE ops j i)
            | none => true)
          | none => false)
      else (List.range i).all fun j => tclE ops 4 i j)
    | none => false)

def cntF (f : Nat → Bool) : Nat → Nat
  | 0 => 0
  | m + 1 => cntF f m + if f m then 0 else 1

theorem cntF_set {f g : Nat → Bool} {i : Nat} : ∀ {m : Nat}, i < m → f i = false → (∀ k, g k = if k = i then true else f k) → cntF f m = cntF g m + 1
  | 0, h, _, _ => absurd h (by omega)
  | m + 1, h, hf, hg => by
    simp only [cntF]
    by_cases e : i = m
    · subst e
      have hsame : ∀ k, k ≤ i → cntF g k = cntF f k := by
        intro k
        induction k with
        | zero => intro _; rfl
        | succ k ih =>
          intro hk
          have hgk : g k = f k := by rw [hg k]; exact if_neg (by omega)
          simp only [cntF, ih (by omega), hgk]
      rw [hsame i (Nat.le_refl _), hg i, hf]
      simp
    · have hgm : g m = f m := by rw [hg m]; exact if_neg (fun q => e q.symm)
      rw [cntF_set (m := m) (by omega) hf hg, hgm]
      omega

theorem cntF_zero {f : Nat → Bool} : ∀ {m : Nat}, cntF f m = 0 → ∀ i, i < m → f i = true
  | 0, _, i, h => absurd h (by omega)
  | m + 1, hc, i, h => by
    simp only [cntF] at hc
    by_cases e : i = m
    · subst e
      cases hf : f i with
      | true => rfl
      | false => simp [hf] at hc
    · exact cntF_zero (m := m) (by omega) i (by omega)

theorem cntF_pos {f : Nat → Bool} : ∀ {m : Nat}, 0 < cntF f m → ∃ i, i < m ∧ f i = false ∧ ∀ k, k < i → f k = true
  | 0, h => absurd h (by simp [cntF])
  | m + 1, h => by
    by_cases hc : 0 < cntF f m
    · obtain ⟨i, h1, h2, h3⟩ := cntF_pos hc
      exact ⟨i, by omega, h2, h3⟩
    · refine ⟨m, by omega, ?_, cntF_zero (by omega)⟩
      simp only [cntF] at h
      cases hf : f m with
      | false => rfl
      | true => simp [hf] at h; omega

section
variable {P : Program} {n : Nat} {ops : Array Oper} {p : Nat}

theorem drawOK_spec (hd : drawOK ops p = true) : p ≤ ops.size ∧ (∀ i o, ops[i]? = some o → ∀ e ∈ o.after.toList, Region.binds .any e = true → e.on < i) ∧
    (∀ i j o oj s, i < p → j < p → i ≠ j → ops[i]? = some o → ops[j]? = some oj → oj.dst = some s → ((o.looksAt ops).contains s = true → if j < i then dirE ops i j = true else dirE ops j i = true) ∧ (o.dst = some s → i < j → dirE ops j i = true)) ∧
    (∀ i, p ≤ i → i < ops.size → ∀ j, j < i → tclE ops 4 i j = true) := by
  unfold drawOK at hd
  simp only [Bool.and_eq_true, decide_eq_true_eq, List.all_eq_true, List.mem_range] at hd
  obtain ⟨h1, h2⟩ := hd
  refine ⟨h1, fun i o ho e he hb => ?_, fun i j o oj s hi hj hne ho hoj hs => ?_, fun i hp hi j hj => ?_⟩
  · have hi : i < ops.size := (Array.getElem?_eq_some_iff.1 ho).1
    have := h2 i hi
    simp only [ho, Bool.and_eq_true, Array.all_eq_true'] at this
    have h3 := this.1 e (Array.mem_toList_iff.1 he)
    simp only [hb, Bool.not_true, Bool.false_or, decide_eq_true_eq] at h3
    exact h3
  · have := h2 i (by omega)
    simp only [ho, Bool.and_eq_true, if_pos hi, List.all_eq_true, List.mem_range] at this
    have h3 := this.2 j hj
    have hij : (i == j) = false := by simpa using hne
    simp only [hij, Bool.false_or, hoj, hs, Bool.and_eq_true, Bool.or_eq_true, Bool.not_eq_true'] at h3
    refine ⟨fun hl => ?_, fun hds hlt => ?_⟩
    · rcases h3.1 with h4 | h4
      · rw [hl] at h4; cases h4
      · split at h4 <;> rename_i hq <;> simp [hq, h4]
    · rcases h3.2 with (h4 | h4) | h4
      · simp [hds] at h4
      · simp [hlt] at h4
      · exact h4
  · have := h2 i hi
    rw [Array.getElem?_eq_getElem hi] at this
    simp only [Bool.and_eq_true, if_neg (Nat.not_lt.2 hp), List.all_eq_true, List.mem_range] at this
    exact this.2 j hj

/-- What has been listed is closed. -/
def Closed (ops : Array Oper) (l : Array Bool) : Prop := ∀ i j, l.getD i false = true → dirE ops i j = true → l.getD j false = true

theorem tcl_done {l : Array Bool} (hc : Closed ops l) : ∀ (m i j : Nat), tclE ops m i j = true → (∀ j, dirE ops i j = true → l.getD j false = true) → l.getD j false = true
  | 0, i, j, h, hd => hd j h
  | m + 1, i, j, h, hd => by
    simp only [tclE, Bool.or_eq_true, List.any_eq_true, List.mem_range, Bool.and_eq_true] at h
    rcases h with h | ⟨k, _, h1, h2⟩
    · exact hd j h
    · exact tcl_done hc m k j h2 fun q hq => hc k q (hd k h1) hq

theorem ready_spec {l : Array Bool} (hs : l.size = ops.size) {i : Nat} (hi : i ∈ Region.ready .any ops l) : i < ops.size ∧ l.getD i false = false ∧ ∀ j, dirE ops i j = true → l.getD j false = true := by
  unfold Region.ready at hi
  simp only [List.mem_filter, List.mem_range, Bool.and_eq_true, Bool.not_eq_true'] at hi
  obtain ⟨h1, h2, h3⟩ := hi
  refine ⟨h1, ?_, fun j hj => ?_⟩
  · rw [Array.getD_eq_getD_getElem?, Array.getElem?_eq_getElem (by omega)] at h2 ⊢
    exact h2
  · rw [Array.getElem?_eq_getElem h1] at h3
    unfold dirE at hj
    rw [Array.getElem?_eq_getElem h1] at hj
    simp only [Option.map_some, Option.getD_some, Array.all_eq_true'] at h3
    simp only [Array.any_eq_true'] at hj
    obtain ⟨e, he, hb⟩ := hj
    simp only [Bool.and_eq_true, beq_iff_eq] at hb
    have := h3 e he
    rw [hb.1, hb.2] at this
    simpa using this

theorem ready_mk (hok : ∀ i o, ops[i]? = some o → ∀ e ∈ o.after.toList, Region.binds .any e = true → e.on < i) {l : Array Bool} (hs : l.size = ops.size) {i : Nat} (h1 : i < ops.size) (h2 : l.getD i false = false) (h3 : ∀ j, j < i → l.getD j false = true) :
    i ∈ Region.ready .any ops l := by
  unfold Region.ready
  simp only [List.mem_filter, List.mem_range, Bool.and_eq_true, Bool.not_eq_true']
  refine ⟨h1, ?_, ?_⟩
  · rw [Array.getD_eq_getD_getElem?, Array.getElem?_eq_getElem (by omega)] at h2 ⊢
    exact h2
  · rw [Array.getElem?_eq_getElem h1]
    simp only [Option.map_some, Option.getD_some, Array.all_eq_true']
    intro e he
    cases hb : Region.binds .any e with
    | false => rfl
    | true => simp only [Bool.not_true, Bool.false_or]; exact h3 _ (hok i _ (Array.getElem?_eq_getElem h1) e (Array.mem_toList_iff.2 he) hb)

/-- The tail, totally ordered. -/
theorem any_tail {Q : Exit → Act → World → Prop} (hok : ∀ i o, ops[i]? = some o → ∀ e ∈ o.after.toList, Region.binds .any e = true → e.on < i) (hc : ∀ i, p ≤ i → i < ops.size → ∀ j, j < i → tclE ops 4 i j = true) :
    ∀ (k q : Nat) (l : Array Bool) (a : Act) (w : World), p ≤ q → q + k = ops.size → l.size = ops.size → (∀ i, i < ops.size → l.getD i false = decide (i < q)) → wpOps P ops Q (List.range' q k) a w → wpAny P .any ops Q k l a w
  | 0, q, l, a, w, hp, hq, hs, hl, hw => by
    simp only [wpAny]
    refine ⟨?_, by simpa [wpOps] using hw⟩
    apply List.eq_nil_iff_forall_not_mem.2
    intro i hi
    obtain ⟨h1, h2, _⟩ := ready_spec hs hi
    rw [hl i h1] at h2
    simp at h2; omega
  | k + 1, q, l, a, w, hp, hq, hs, hl, hw => by
    simp only [wpAny]
    have hqs : q < ops.size := by omega
    refine ⟨fun h => ?_, fun i hi => ?_⟩
    · have := ready_mk (l := l) hok hs hqs (by rw [hl q hqs]; simp) (fun j hj => by rw [hl j (by omega)]; simp [hj])
      rw [h] at this; cases this
    · obtain ⟨h1, h2, h3⟩ := ready_spec hs hi
      have hiq : i = q := by
        rw [hl i h1] at h2
        simp at h2
        by_cases e : i = q
        · exact e
        · have hcl : Closed ops l := fun x y hx hxy => by
            have hxs : x < ops.size := by
              by_cases hx' : x < ops.size
              · exact hx'
              · unfold dirE at hxy; rw [Array.getElem?_eq_none (by omega)] at hxy; cases hxy
            rw [hl x hxs] at hx
            simp at hx
            have hxy' := hxy
            unfold dirE at hxy'
            rw [Array.getElem?_eq_getElem hxs] at hxy'
            simp only [Array.any_eq_true', Bool.and_eq_true, beq_iff_eq] at hxy'
            obtain ⟨e, he, hb, rfl⟩ := hxy'
            have := hok x _ (Array.getElem?_eq_getElem hxs) e (Array.mem_toList_iff.2 he) hb
            rw [hl _ (by omega)]; simp; omega
          have := tcl_done hcl 4 i q (hc i (by omega) h1 q (by omega)) h3
          rw [hl q hqs] at this; simp at this
      subst hiq
      rw [List.range'_succ, wpOps_cons] at hw
      refine wpOp_mono (fun a w h => any_tail hok hc k (i + 1) _ a w (by omega) (by omega) (by simp [hs]) (fun j hj => ?_) h) hw
      by_cases e : j = i
      · subst e
        rw [Array.getD_eq_getD_getElem?, Array.getElem?_setIfInBounds_self_of_lt (by omega)]
        simp
      · rw [Array.getD_eq_getD_getElem?, Array.getElem?_setIfInBounds_ne (fun q => e q.symm), ← Array.getD_eq_getD_getElem?, hl j hj]
        simp; omega

theorem Inv.operand {t : Tr P n ops p} {E0 E : Emb} {base : Nat} {w0 w : World} {S : Nat → Bool} {a : Act} (inv : Inv t E0 base w0 S E w a) {i s : Nat} (hi : i < p) (hS : S i = false)
    (hw : ∀ j oj, j < p → j ≠ i → ops[j]? = some oj → oj.dst = some s → (j < i → S j = true) ∧ (i < j → S j = false)) : VRel (E.cut (t.H i).next) (t.T i s) (a.tmps.getD s undef) := by
  rcases t.slot s i (by omega) with ⟨j, oj, h1, h2, h3, h4, h5⟩ | ⟨h1, h2⟩
  · rw [h4]
    refine cut_mono (t.le (show j + 1 ≤ i by omega) (by omega)) (inv.last s j oj (by omega) ((hw j oj (by omega) (by omega) h2 h3).1 h1) h2 h3 (fun k ok k1 k2 k3 k4 k5 => ?_))
    rcases Nat.lt_trichotomy k i with h | h | h
    · exact h5 k ok k1 h k4 k5
    · subst h; rw [hS] at k3; cases k3
    · have := (hw k ok k2 (by omega) k4 k5).2 h
      rw [this] at k3; cases k3
  · rw [h1]
    refine cut_mono (t.le (show 0 ≤ i by omega) (by omega)) (inv.none s (fun k ok k2 k3 k4 k5 => ?_))
    rcases Nat.lt_trichotomy k i with h | h | h
    · exact h2 k ok h k4 k5
    · subst h; rw [hS] at k3; cases k3
    · have := (hw k ok k2 (by omega) k4 k5).2 h
      rw [this] at k3; cases k3

theorem getD_set {l : Array Bool} {i : Nat} (hi : i < l.size) (k : Nat) : (l.setIfInBounds i true).getD k false = if k = i then true else l.getD k false := by
  by_cases e : k = i
  · subst e; rw [if_pos rfl, Array.getD_eq_getD_getElem?, Array.getElem?_setIfInBounds_self_of_lt hi]; rfl
  · rw [if_neg e, Array.getD_eq_getD_getElem?, Array.getElem?_setIfInBounds_ne (fun q => e q.symm), ← Array.getD_eq_getD_getElem?]

theorem Inv.congr {t : Tr P n ops p} {E0 E : Emb} {base : Nat} {w0 w : World} {S S' : Nat → Bool} {a : Act} (inv : Inv t E0 base w0 S E w a) (h : ∀ k, S' k = S k) : Inv t E0 base w0 S' E w a := by
  have : S' = S := funext h
  rw [this]; exact inv

theorem any_head {Q : Exit → Act → World → Prop} (t : Tr P n ops p) (hd : drawOK ops p = true) {E0 : Emb} {base : Nat} {w0 : World}
    (hend : ∀ E w a, Step E0 (t.H 0) w0 E (t.H p) w → HRel E base (t.H p) w.heap → TRel E n (t.T p) a → wpOps P ops Q (List.range' p (ops.size - p)) a w) :
    ∀ (c : Nat) (l : Array Bool) (E : Emb) (w : World) (a : Act), l.size = ops.size → cntF (fun k => l.getD k false) p = c → Closed ops l → (∀ i, p ≤ i → l.getD i false = false) →
      Inv t E0 base w0 (fun k => l.getD k false) E w a → wpAny P .any ops Q (c + (ops.size - p)) l a w
  | 0, l, E, w, a, hs, hc, hcl, htl, inv => by
    obtain ⟨h1, h2, h3, h4⟩ := drawOK_spec hd
    have hall := cntF_zero hc
    have hgd : ∀ i, i < ops.size → l.getD i false = decide (i < p) := fun i hi => by
      by_cases e : i < p
      · rw [hall i e]; simp [e]
      · rw [htl i (by omega)]; simp [e]
    rw [Nat.zero_add]
    refine any_tail h2 h4 _ p l a w (Nat.le_refl _) (by omega) hs hgd ?_
    have hr := inv.heap p (Nat.le_refl _)
    refine hend (E.cut (t.H p).next) w a ⟨t.le (Nat.zero_le _) (Nat.le_refl _), fun o ho => ?_, inv.os, inv.tape, inv.output, inv.size, inv.keep, fun o ho hown => inv.own o ho.2 ho.1 hown⟩ hr ⟨inv.tmps, fun s => ?_, inv.defers⟩
    · obtain ⟨e1, e2, e3, e4⟩ := inv.ext o ho
      have hlt : o < (t.H p).next := Nat.lt_of_lt_of_le ho (t.le (Nat.zero_le _) (Nat.le_refl _))
      exact ⟨⟨fun h => e1.1 h.2, fun h => ⟨hlt, e1.2 h⟩⟩, e2, e3, e4⟩
    · rcases t.slot s p (Nat.le_refl _) with ⟨j, oj, g1, g2, g3, g4, g5⟩ | ⟨g1, g2⟩
      · rw [g4]
        exact cut_mono (t.le (show j + 1 ≤ p by omega) (Nat.le_refl _)) (inv.last s j oj g1 (hall j g1) g2 g3 (fun k ok k1 k2 _ k4 => g5 k ok k1 k2 k4))
      · rw [g1]
        exact cut_mono (t.le (Nat.zero_le _) (Nat.le_refl _)) (inv.none s (fun k ok k2 _ k4 => g2 k ok k2 k4))
  | c + 1, l, E, w, a, hs, hc, hcl, htl, inv => by
    obtain ⟨h1, h2, h3, h4⟩ := drawOK_spec hd
    obtain ⟨i0, i1, i2, i3⟩ := cntF_pos (f := fun k => l.getD k false) (m := p) (by omega)
    rw [show c + 1 + (ops.size - p) = c + (ops.size - p) + 1 by omega]
    simp only [wpAny]
    refine ⟨fun h => ?_, fun i hi => ?_⟩
    · have := ready_mk (l := l) h2 hs (show i0 < ops.size by omega) i2 i3
      rw [h] at this; cases this
    · obtain ⟨r1, r2, r3⟩ := ready_spec hs hi
      have hip : i < p := by
        rcases Nat.lt_or_ge i p with h | h
        · exact h
        · have := tcl_done hcl 4 i i0 (h4 i h r1 i0 (by omega)) r3
          have i2' : l.getD i0 false = false := i2
          rw [i2'] at this; cases this
      have ho := Array.getElem?_eq_getElem r1
      generalize hov : ops[i] = o at ho
      -- who writes what the operation looks at
      have hlook : ∀ s, (o.looksAt ops).contains s = true → ∀ j oj, j < p → j ≠ i → ops[j]? = some oj → oj.dst = some s → (j < i → l.getD j false = true) ∧ (i < j → l.getD j false = false) := by
        intro s hcs j oj hj hne hoj hds
        have h5 := (h3 i j o oj s hip hj (fun e => hne e.symm) ho hoj hds).1 hcs
        refine ⟨fun hlt => ?_, fun hlt => ?_⟩
        · rw [if_pos hlt] at h5; exact r3 j h5
        · rw [if_neg (by omega)] at h5
          cases hlj : l.getD j false with
          | false => rfl
          | true => have := hcl j i hlj h5; rw [r2] at this; cases this
      have hval : ∀ s, (o.looksAt ops).contains s = true → VRel (E.cut (t.H i).next) (t.T i s) (a.tmps.getD s undef) := fun s hcs => inv.operand hip r2 (hlook s hcs)
      have hB : ∀ j oj s, j < p → i < j → ops[j]? = some oj → o.dst = some s → oj.dst = some s → l.getD j false = false := by
        intro j oj s hj hlt hoj hds hds'
        have h5 := (h3 i j o oj s hip hj (by omega) ho hoj hds').2 hds hlt
        cases hlj : l.getD j false with
        | false => rfl
        | true => have := hcl j i hlj h5; rw [r2] at this; cases this
      obtain ⟨d1, d2⟩ := t.dst i o hip ho
      have hcnt : cntF (fun k => (l.setIfInBounds i true).getD k false) p = c := by
        have := cntF_set (f := fun k => l.getD k false) (g := fun k => (l.setIfInBounds i true).getD k false) hip r2 (fun k => getD_set (by omega) k)
        omega
      have hcl' : Closed ops (l.setIfInBounds i true) := by
        intro x y hx hxy
        rw [getD_set (by omega)] at hx ⊢
        by_cases e : x = i
        · subst e; split
          · rfl
          · exact r3 y hxy
        · rw [if_neg e] at hx
          split
          · rfl
          · exact hcl x y hx hxy
      have htl' : ∀ k, p ≤ k → (l.setIfInBounds i true).getD k false = false := fun k hk => by
        rw [getD_set (by omega), if_neg (by omega)]; exact htl k hk
      have cont : ∀ E' w' v', Step (E.cut (t.H i).next) (t.H i) w E' (t.H (i + 1)) w' → HRel E' base (t.H (i + 1)) w'.heap → VRel E' (t.V i) v' → wpAny P .any ops Q (c + (ops.size - p)) (l.setIfInBounds i true) (a.put o.dst v') w' := by
        intro E' w' v' st hr hv
        exact any_head t hd hend c _ _ w' _ (by simp [hs]) hcnt hcl' htl' ((inv.next hip ho r2 d1 hB st hr hv).congr (fun k => getD_set (by omega) k))
      have hr0 := inv.heap i (by omega)
      -- the guard
      have hwant : ∀ b, wantA ops (t.T i) o = some b → Region.wanted o (yielded ops a.tmps) = b := by
        intro b hb
        unfold wantA at hb
        unfold Region.wanted
        split at hb
        · rename_i hgd; simp only [Option.some.injEq] at hb; subst hb; rw [hgd]
        · rename_i j want hgd
          rw [hgd]
          split at hb
          · rename_i d hdd
            split at hb
            · rename_i bb hbb
              simp only [Option.some.injEq] at hb
              subst hb
              have hlt := guardOK_spec d2 j want d hgd hdd
              have hcs : (o.looksAt ops).contains d = true := by simp [Oper.looksAt, hgd, hdd]
              have hrr := hval d hcs
              rw [hbb] at hrr
              obtain ⟨z, hz, hz'⟩ := getD_some (c := a.tmps) (i := d) (by rw [inv.tmps]; exact hlt)
              have hz2 : z = .bool bb := by rw [← hz']; exact hrr.inv_bool
              subst hz2
              simp only [yielded, hdd, Option.bind_some, hz]
              cases bb <;> cases want <;> rfl
            · rename_i bb hbb
              simp only [Option.some.injEq] at hb
              subst hb
              have hlt := guardOK_spec d2 j want d hgd hdd
              have hcs : (o.looksAt ops).contains d = true := by simp [Oper.looksAt, hgd, hdd]
              have hrr := hval d hcs
              rw [hbb] at hrr
              obtain ⟨z, hz, hz'⟩ := getD_some (c := a.tmps) (i := d) (by rw [inv.tmps]; exact hlt)
              obtain ⟨c', hc'⟩ := hrr.inv_tuple
              have hz2 : z = .tuple c' := by rw [← hz']; exact hc'
              subst hz2
              simp only [yielded, hdd, Option.bind_some, hz]
              cases want <;> rfl
            · cases hb
          · cases hb
      unfold wpOp
      simp only [ho]
      rcases t.step i o hip ho with ⟨g1, g2⟩ | ⟨g1, g2, g3⟩
      · rw [hwant true g1, if_pos rfl]
        left
        refine g2 (E.cut (t.H i).next) base w a _ Q hr0 (fun s hsm => hval s ?_) cont
        simp only [Oper.looksAt, List.contains_eq_mem, List.mem_append, decide_eq_true_eq]
        left
        exact List.mem_filterMap.2 ⟨.tmp s, by simpa using hsm, rfl⟩
      · rw [hwant false g1, if_neg (by simp)]
        refine cont (E.cut (t.H i).next) w undef ?_ ?_ ?_
        · rw [g3]; exact Step.refl _ _ _
        · rw [g3]; exact hr0
        · rw [g2]; exact VRel.undef _

end
end Go.Eng
