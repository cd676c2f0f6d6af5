/- The states behind runs with so many moves: which there are, and in how many ways runs lead there. -/
import Derived.Test.YtnjabaeajjhliaaT35
namespace Go.Proofs.Ytnjabaeajjhliaa
set_option linter.unusedSimpArgs false
set_option linter.unusedVariables false
set_option maxHeartbeats 4000000
open Go Go.Eng

structure RSt where
  x : List Int
  b : List Int
  w : Nat
instance : Inhabited RSt := ⟨⟨[], [], 0⟩⟩
/-- Where a state with such moves is, or how many there are. -/
def ixS (S : List RSt) (x : List Int) : Nat := S.findIdx fun s => decide (s.x = x)
def putS (S : List RSt) (x b : List Int) : List RSt := if ixS S x = S.length then S ++ [⟨x, b, 0⟩] else S
def addS (S : List RSt) (k w : Nat) : List RSt := S.set k ⟨(S.getD k default).x, (S.getD k default).b, (S.getD k default).w + w⟩
def insS (S : List RSt) (x b : List Int) (w : Nat) : List RSt := addS (putS S x b) (ixS S x) w
theorem ixS_le (S : List RSt) (x : List Int) : ixS S x ≤ S.length := List.findIdx_le_length
theorem ixS_lt {S : List RSt} {x : List Int} (h : ixS S x < S.length) : S[ixS S x].x = x := by
  have := List.findIdx_getElem (p := fun s : RSt => decide (s.x = x)) (w := h)
  exact of_decide_eq_true this
theorem ixS_not {S : List RSt} {x : List Int} {k : Nat} (h : k < ixS S x) (hk : k < S.length) : S[k].x ≠ x := by
  have := List.not_of_lt_findIdx (p := fun s : RSt => decide (s.x = x)) h
  simpa using this
theorem ixS_of {S : List RSt} {x : List Int} {k : Nat} (hk : k ≤ S.length) (h1 : ∀ j (hj : j < S.length), j < k → S[j].x ≠ x) (h2 : ∀ hk : k < S.length, S[k].x = x) : ixS S x = k := by
  rcases Nat.lt_trichotomy (ixS S x) k with h | h | h
  · exact absurd (ixS_lt (by omega)) (h1 _ (by omega) h)
  · exact h
  · have := ixS_le S x
    exact absurd (h2 (by omega)) (ixS_not h (by omega))
theorem putS_len (S : List RSt) (x b : List Int) : ixS S x < (putS S x b).length := by
  unfold putS
  have := ixS_le S x
  split
  · simp; omega
  · omega
theorem putS_at (S : List RSt) (x b : List Int) : ((putS S x b)[ixS S x]'(putS_len S x b)).x = x := by
  by_cases h : ixS S x = S.length
  · have e : putS S x b = S ++ [⟨x, b, 0⟩] := by unfold putS; rw [if_pos h]
    have : (putS S x b)[ixS S x]? = some ⟨x, b, 0⟩ := by rw [e, h]; simp
    rw [List.getElem?_eq_getElem (putS_len S x b)] at this
    rw [Option.some.inj this]
  · have e : putS S x b = S := by unfold putS; rw [if_neg h]
    have h1 : ixS S x < S.length := by have := ixS_le S x; omega
    have : (putS S x b)[ixS S x]? = some S[ixS S x] := by rw [e]; exact List.getElem?_eq_getElem h1
    rw [List.getElem?_eq_getElem (putS_len S x b)] at this
    rw [Option.some.inj this, ixS_lt h1]

/-- All ways, each counted as often as told. -/
def totW (g : List Int → Nat) (S : List RSt) : Nat := (S.map fun s => s.w * g s.b).sum
theorem totW_app (g : List Int → Nat) (S T : List RSt) : totW g (S ++ T) = totW g S + totW g T := by simp [totW]
theorem totW_add (g : List Int → Nat) : ∀ (S : List RSt) (k w : Nat) (hk : k < S.length), totW g (addS S k w) = totW g S + w * g S[k].b
  | s :: S, 0, w, hk => by simp [addS, totW, Nat.add_mul]; omega
  | s :: S, k + 1, w, hk => by
    have := totW_add g S k w (by simpa using hk)
    unfold totW addS at this ⊢
    simp at this ⊢
    omega
theorem totW_put (g : List Int → Nat) (S : List RSt) (x b : List Int) : totW g (putS S x b) = totW g S := by
  unfold putS
  split
  · rw [totW_app]; simp [totW]
  · rfl

/-- What holds of states behind k moves. -/
structure StI (L : List (List Int)) (A : List Int) (k : Nat) (S : List RSt) : Prop where
  rn : ∀ s ∈ S, Rn L A s.x s.b ∧ s.x.sum = k
  nd : (S.map (·.x)).Nodup
theorem StI.nil (L : List (List Int)) (A : List Int) (k : Nat) : StI L A k [] := ⟨fun s hs => (by cases hs), by simp⟩
theorem addS_map (S : List RSt) (k w : Nat) (hk : k < S.length) : (addS S k w).map (·.x) = S.map (·.x) := by
  unfold addS
  apply List.ext_getElem?
  intro i
  rw [List.map_set, List.getElem?_set]
  by_cases e : k = i
  · subst e; simp [hk]
  · rw [if_neg e]
theorem addS_mem {S : List RSt} {k w : Nat} (hk : k < S.length) {s : RSt} (hs : s ∈ addS S k w) : ∃ t ∈ S, s.x = t.x ∧ s.b = t.b := by
  unfold addS at hs
  rcases List.mem_or_eq_of_mem_set hs with h | h
  · exact ⟨s, h, rfl, rfl⟩
  · refine ⟨S[k], List.getElem_mem hk, ?_, ?_⟩ <;> rw [h] <;> simp [List.getD_eq_getElem?_getD, hk]
theorem StI.put {L : List (List Int)} {A x b : List Int} {k : Nat} {S : List RSt} (h : StI L A k S) (hr : Rn L A x b) (hx : x.sum = k) : StI L A k (putS S x b) := by
  unfold putS
  split
  · rename_i e
    refine ⟨fun s hs => ?_, ?_⟩
    · rcases List.mem_append.1 hs with hs | hs
      · exact h.rn s hs
      · simp at hs; subst hs; exact ⟨hr, hx⟩
    · rw [List.map_append, List.nodup_append]
      refine ⟨h.nd, by simp, fun y hy z hz => ?_⟩
      simp at hz
      subst hz
      obtain ⟨s, hs, rfl⟩ := List.mem_map.1 hy
      obtain ⟨j, hj, rfl⟩ := List.getElem_of_mem hs
      exact ixS_not (by omega) hj
  · exact h
theorem StI.add {L : List (List Int)} {A : List Int} {k j w : Nat} {S : List RSt} (h : StI L A k S) (hj : j < S.length) : StI L A k (addS S j w) := by
  refine ⟨fun s hs => ?_, by rw [addS_map S j w hj]; exact h.nd⟩
  obtain ⟨t, ht, e1, e2⟩ := addS_mem hj hs
  rw [e1, e2]; exact h.rn t ht
theorem StI.ins {L : List (List Int)} {A x b : List Int} {k w : Nat} {S : List RSt} (h : StI L A k S) (hr : Rn L A x b) (hx : x.sum = k) : StI L A k (insS S x b w) := (h.put hr hx).add (putS_len S x b)
theorem totW_ins {L : List (List Int)} {A x b : List Int} {k w : Nat} {S : List RSt} (hs : Shape L A.length) (h : StI L A k S) (hr : Rn L A x b) (hx : x.sum = k) (g : List Int → Nat) : totW g (insS S x b w) = totW g S + w * g b := by
  unfold insS
  rw [totW_add g _ _ _ (putS_len S x b), totW_put]
  have h1 := (h.put hr hx).rn _ (List.getElem_mem (putS_len S x b))
  rw [putS_at] at h1
  rw [h1.1.same hr hs]
theorem ins_mem {S : List RSt} {x b : List Int} {w : Nat} : (insS S x b w).map (·.x) = (putS S x b).map (·.x) := addS_map _ _ _ (putS_len S x b)
theorem put_has (S : List RSt) (x b : List Int) : x ∈ (putS S x b).map (·.x) := List.mem_map.2 ⟨_, List.getElem_mem (putS_len S x b), putS_at S x b⟩
theorem put_sub (S : List RSt) (x b y : List Int) (h : y ∈ S.map (·.x)) : y ∈ (putS S x b).map (·.x) := by
  unfold putS
  split
  · rw [List.map_append]; exact List.mem_append.2 (.inl h)
  · exact h

/-- One move more: by one state, by all. -/
def moveS (L : List (List Int)) (s : RSt) (out : List RSt) (ms : List Int) : List RSt := ms.foldl (fun out m => insS out (s.x.set m.toNat (s.x.getD m.toNat 0 + 1)) (moveA L s.b m.toNat) s.w) out
def stepS (L : List (List Int)) (S : List RSt) : List RSt := S.foldl (fun out s => moveS L s out (movesL L s.b)) []
def stateS (L : List (List Int)) (A : List Int) : Nat → List RSt
  | 0 => [⟨List.replicate A.length 0, A, 1⟩]
  | k + 1 => stepS L (stateS L A k)
theorem foldl_snoc {α β : Type} (f : β → α → β) (b : β) (l : List α) (a : α) : (l ++ [a]).foldl f b = f (l.foldl f b) a := by simp
theorem moveS_snoc (L : List (List Int)) (s : RSt) (out : List RSt) (ms : List Int) (m : Int) : moveS L s out (ms ++ [m]) = insS (moveS L s out ms) (s.x.set m.toNat (s.x.getD m.toNat 0 + 1)) (moveA L s.b m.toNat) s.w := by simp [moveS]

variable {L : List (List Int)} {A X E : List Int} {R k : Nat}
theorem moveS_inv (f : FinR L A X E R) (hs : Shape L A.length) {s : RSt} (h : Rn L A s.x s.b) (hx : s.x.sum = k) (hk : k < R) (g : List Int → Nat) : ∀ {ms : List Int} {out : List RSt}, (∀ m ∈ ms, m ∈ movesL L s.b) → StI L A (k + 1) out →
    StI L A (k + 1) (moveS L s out ms) ∧ totW g (moveS L s out ms) = totW g out + s.w * (ms.map fun m => g (moveA L s.b m.toNat)).sum ∧ (∀ y ∈ out.map (·.x), y ∈ (moveS L s out ms).map (·.x)) ∧ ∀ m ∈ ms, s.x.set m.toNat (s.x.getD m.toNat 0 + 1) ∈ (moveS L s out ms).map (·.x)
  | [], out, _, ho => ⟨ho, by simp [moveS], fun y hy => hy, fun m hm => by cases hm⟩
  | m :: ms, out, hm, ho => by
    obtain ⟨i, rfl, hi, hc, hxi, h1, h2, h3⟩ := f.next hs h (hm m (by simp))
    have e : s.x.set ((i : Int).toNat) (s.x.getD ((i : Int).toNat) 0 + 1) = s.x.set i (s.x[i] + 1) := by simp [hxi]
    have e2 : moveA L s.b ((i : Int).toNat) = moveA L s.b i := by simp
    have ho2 : StI L A (k + 1) (insS out (s.x.set i (s.x[i] + 1)) (moveA L s.b i) s.w) := ho.ins h1 (by rw [h2, hx]; rfl)
    obtain ⟨a1, a2, a3, a4⟩ := moveS_inv f hs h hx hk g (ms := ms) (fun m hmm => hm m (by simp [hmm])) ho2
    have eM : moveS L s out ((i : Int) :: ms) = moveS L s (insS out (s.x.set i (s.x[i] + 1)) (moveA L s.b i) s.w) ms := by
      show moveS L s (insS out (s.x.set ((i : Int).toNat) (s.x.getD ((i : Int).toNat) 0 + 1)) (moveA L s.b ((i : Int).toNat)) s.w) ms = _
      rw [e, e2]
    rw [eM]
    have hin : ∀ y ∈ (insS out (s.x.set i (s.x[i] + 1)) (moveA L s.b i) s.w).map (·.x), y ∈ (moveS L s (insS out (s.x.set i (s.x[i] + 1)) (moveA L s.b i) s.w) ms).map (·.x) := a3
    refine ⟨a1, ?_, fun y hy => hin y (by rw [ins_mem]; exact put_sub _ _ _ _ hy), fun m' hm' => ?_⟩
    · rw [a2, totW_ins hs ho h1 (by rw [h2, hx]; rfl), List.map_cons, List.sum_cons, e2, Nat.mul_add]; omega
    · rcases List.mem_cons.1 hm' with rfl | hm'
      · rw [e]; exact hin _ (by rw [ins_mem]; exact put_has _ _ _)
      · exact a4 m' hm'
theorem stepS_inv (f : FinR L A X E R) (hs : Shape L A.length) (hk : k < R) (g : List Int → Nat) : ∀ {S : List RSt} {out : List RSt}, (∀ s ∈ S, Rn L A s.x s.b ∧ s.x.sum = k) → StI L A (k + 1) out →
    StI L A (k + 1) (S.foldl (fun out s => moveS L s out (movesL L s.b)) out) ∧ totW g (S.foldl (fun out s => moveS L s out (movesL L s.b)) out) = totW g out + (S.map fun s => s.w * ((movesL L s.b).map fun m => g (moveA L s.b m.toNat)).sum).sum ∧
      (∀ y ∈ out.map (·.x), y ∈ (S.foldl (fun out s => moveS L s out (movesL L s.b)) out).map (·.x)) ∧ ∀ s ∈ S, ∀ m ∈ movesL L s.b, s.x.set m.toNat (s.x.getD m.toNat 0 + 1) ∈ (S.foldl (fun out s => moveS L s out (movesL L s.b)) out).map (·.x)
  | [], out, _, ho => ⟨ho, by simp, fun y hy => hy, fun s hm => by cases hm⟩
  | s :: S, out, hS, ho => by
    obtain ⟨h1, h2⟩ := hS s (by simp)
    obtain ⟨b1, b2, b3, b4⟩ := moveS_inv f hs h1 h2 hk g (ms := movesL L s.b) (fun m hm => hm) ho
    obtain ⟨a1, a2, a3, a4⟩ := stepS_inv f hs hk g (S := S) (fun s hm => hS s (by simp [hm])) b1
    rw [List.foldl_cons]
    refine ⟨a1, ?_, fun y hy => a3 y (b3 y hy), fun t ht m hm => ?_⟩
    · rw [a2, b2, List.map_cons, List.sum_cons]; omega
    · rcases List.mem_cons.1 ht with rfl | ht
      · exact a3 _ (b4 m hm)
      · exact a4 t ht m hm
theorem stateS_inv (f : FinR L A X E R) (hs : Shape L A.length) : ∀ k, k ≤ R → StI L A k (stateS L A k) ∧ totW (wN L (R - k)) (stateS L A k) = wN L R A ∧ ∀ x B, Rn L A x B → x.sum = k → x ∈ (stateS L A k).map (·.x)
  | 0, _ => by
    refine ⟨⟨fun s h => ?_, by simp [stateS]⟩, by simp [stateS, totW], fun x B h hx => ?_⟩
    · simp [stateS] at h; subst h; exact ⟨.zero, by simp⟩
    · have e : List.replicate A.length (0 : Int) = x := eq_of_sum (by simp [h.len.2]) (fun i => by
        have := h.nn i
        have : (List.replicate A.length (0 : Int)).getD i 0 = 0 := by simp [List.getD_eq_getElem?_getD, List.getElem?_replicate]; split <;> simp
        omega) (by rw [hx]; simp)
      rw [← e]; simp [stateS]
  | k + 1, hk => by
    obtain ⟨h1, h2, h3⟩ := stateS_inv f hs k (by omega)
    obtain ⟨a1, a2, a3, a4⟩ := stepS_inv f hs (k := k) (by omega) (wN L (R - (k + 1))) (S := stateS L A k) (out := []) h1.rn (StI.nil _ _ _)
    refine ⟨a1, ?_, fun x B h hx => ?_⟩
    · show totW _ (stepS L (stateS L A k)) = _
      unfold stepS
      rw [a2, ← h2]
      have e : R - k = (R - (k + 1)) + 1 := by omega
      have : (stateS L A k).map (fun s => s.w * ((movesL L s.b).map fun m => wN L (R - (k + 1)) (moveA L s.b m.toNat)).sum) = (stateS L A k).map fun s => s.w * wN L (R - k) s.b := by
        apply List.map_congr_left
        intro s hm
        obtain ⟨hr, hx⟩ := h1.rn s hm
        rw [e, wN, if_neg (f.more hs hr (by omega))]
      rw [this]; simp [totW]
    · cases h with
      | zero => simp at hx; omega
      | @step x B i hr hi hc hxi =>
        have h5 := Rn.step_sum hxi
        have h6 : x.sum = k := by omega
        obtain ⟨s, hsm, e⟩ := List.mem_map.1 (h3 x B hr h6)
        have hb := (h1.rn s hsm).1
        rw [e] at hb
        have hbB := hb.same hr hs
        have := a4 s hsm (i : Int) (by
          rw [hbB]
          exact List.mem_map.2 ⟨i, List.mem_filter.2 ⟨by simpa using hi, hc⟩, rfl⟩)
        rw [e] at this
        simpa [hxi, stateS, stepS] using this
theorem stateS_end (f : FinR L A X E R) (hs : Shape L A.length) : stateS L A R = [⟨X, E, wN L R A⟩] := by
  obtain ⟨h1, h2, h3⟩ := stateS_inv f hs R (Nat.le_refl _)
  have h4 := h3 X E f.rn f.sum
  match hS : stateS L A R with
  | [] => rw [hS] at h4; simp at h4
  | s :: S =>
    rw [hS] at h1 h2
    obtain ⟨h5, h6⟩ := h1.rn s (by simp)
    obtain ⟨e1, e2⟩ := f.end hs h5 h6
    have hS0 : S = [] := by
      match S with
      | [] => rfl
      | t :: T =>
        obtain ⟨h7, h8⟩ := h1.rn t (by simp)
        obtain ⟨e3, e4⟩ := f.end hs h7 h8
        have := h1.nd
        simp [e1, e3] at this
    subst hS0
    simp only [totW, List.map_cons, List.map_nil, List.sum_cons, List.sum_nil, Nat.sub_self, e2, wN, f.last, if_true, Nat.mul_one, Nat.add_zero] at h2
    rw [← h2, ← e1, ← e2]
end Go.Proofs.Ytnjabaeajjhliaa
