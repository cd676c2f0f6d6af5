/- Full runs: whatever is moved first, they all end, with the same moves and the same chips; sums stay. -/
import Derived.Test.YtnnjehonbolliaaT35
namespace Go.Proofs.Ytnnjehonbolliaa
set_option linter.unusedSimpArgs false
set_option linter.unusedVariables false
set_option maxHeartbeats 4000000
open Go Go.Eng
variable {L : List (List Int)} {A x B y C : List Int}
theorem FinR.any {X E cs : List Int} {R : Nat} (f : FinR L A X E R) (hs : Shape L A.length) (hR : R ≤ 60) (hcs : ∀ v ∈ cs, 0 ≤ v) : ∀ {n : Nat} {run B : List Int}, Rn L A (cntL A.length run) B → (cntL A.length run).sum = run.length → run.length + n = 61 → (fullA L cs n run B).isSome = true
  | 0, run, B, hr, hsum, hn => by
    have := f.le hs hr
    omega
  | n + 1, run, B, hr, hsum, hn => by
    rw [fullA]
    split
    · rfl
    · rename_i hm
      split
      · rename_i h60
        have h1 := f.le hs hr
        obtain ⟨_, e⟩ := f.end hs hr (by omega)
        exact absurd (by rw [e]; exact f.last) hm
      · have hml : 0 < (movesL L B).length := List.length_pos_iff.2 hm
        have hpk := pickK_lt hml hcs run.length
        obtain ⟨i, hi, hiB, hic⟩ := movesL_get hpk
        have e : (movesL L B).getD (pickK (movesL L B) cs run.length) 0 = (i : Int) := by rw [getD_at hpk]; exact hi
        rw [e]
        have hlen := hr.len
        have hxi : i < (cntL A.length run).length := by omega
        have e2 := cntL_snoc A.length run i (by omega)
        refine f.any hs hR hcs ?_ ?_ ?_
        · rw [e2]; exact .step hr hiB hic hxi
        · rw [e2, Rn.step_sum hxi, hsum]; simp
        · simp; omega
theorem full_some {cs ds : List Int} (hcs : ∀ v ∈ cs, 0 ≤ v) (hds : ∀ v ∈ ds, 0 ≤ v) (hg : goodB L A = true) {q : List Int × List Int} (h : fullR L A cs = some q) : (fullR L A ds).isSome = true := by
  have f := fullR_fin hcs (show fullR L A cs = some (q.1, q.2) from h)
  rw [fullR, if_pos hg]
  exact f.any (good_of hg).shape (fullR_len hcs h).1 hds (by rw [cntL_nil]; exact .zero) (by rw [cntL_nil]; simp) (by simp)
theorem full_same {cs ds : List Int} (hcs : ∀ v ∈ cs, 0 ≤ v) (hds : ∀ v ∈ ds, 0 ≤ v) (hg : goodB L A = true) {q r : List Int × List Int} (h : fullR L A cs = some q) (h' : fullR L A ds = some r) : cntL A.length q.1 = cntL A.length r.1 ∧ q.2 = r.2 ∧ q.1.length = r.1.length := by
  have f := fullR_fin hcs (show fullR L A cs = some (q.1, q.2) from h)
  have f' := fullR_fin hds (show fullR L A ds = some (r.1, r.2) from h')
  have hs := (good_of hg).shape
  have h1 := f.le hs f'.rn
  have h2 := f'.le hs f.rn
  rw [f'.sum] at h1
  rw [f.sum] at h2
  have e : q.1.length = r.1.length := by omega
  obtain ⟨e1, e2⟩ := f.end hs f'.rn (by rw [f'.sum, e])
  exact ⟨e1.symm, e2.symm, e⟩
theorem fullA_moves {cs : List Int} (hcs : ∀ v ∈ cs, 0 ≤ v) : ∀ {n : Nat} {run B : List Int} {q : List Int × List Int}, fullA L cs n run B = some q → ∃ l, q.1 = run ++ l ∧ runA L B l = some q.2
  | 0, run, B, q, h => by cases h
  | n + 1, run, B, q, h => by
    rw [fullA] at h
    split at h
    · cases h
      exact ⟨[], by simp, rfl⟩
    · rename_i hm
      split at h
      · cases h
      · have hml : 0 < (movesL L B).length := List.length_pos_iff.2 hm
        have hpk := pickK_lt hml hcs run.length
        obtain ⟨i, hi, hiB, hic⟩ := movesL_get hpk
        have e : (movesL L B).getD (pickK (movesL L B) cs run.length) 0 = (i : Int) := by rw [getD_at hpk]; exact hi
        rw [e] at h
        obtain ⟨l, h1, h2⟩ := fullA_moves hcs h
        refine ⟨(i : Int) :: l, by rw [h1]; simp, ?_⟩
        rw [runA, stepA_some hiB hic]
        simpa using h2
theorem full_run {cs : List Int} (hcs : ∀ v ∈ cs, 0 ≤ v) (hg : goodB L A = true) {q : List Int × List Int} (h : fullR L A cs = some q) : runR L A q.1 = some q.2 := by
  have hl := (fullR_len hcs h).1
  rw [fullR, if_pos hg] at h
  obtain ⟨l, h1, h2⟩ := fullA_moves hcs h
  simp at h1
  rw [runR, if_pos ⟨hg, by omega⟩, h1, h2]
theorem sum_map3 (f g : Nat → Int) (i : Nat) (d : Int) : ∀ n : Nat, ((List.range n).map fun j => f j + g j - if j = i then d else 0).sum = ((List.range n).map f).sum + ((List.range n).map g).sum - if i < n then d else 0
  | 0 => by simp
  | n + 1 => by
    rw [List.range_succ, List.map_append, List.map_append, List.map_append, List.sum_append, List.sum_append, List.sum_append, sum_map3 f g i d n]
    simp only [List.map_cons, List.map_nil, List.sum_cons, List.sum_nil]
    by_cases h : n = i
    · subst h; simp; omega
    · rw [if_neg h]
      by_cases h2 : i < n
      · rw [if_pos h2, if_pos (by omega)]; omega
      · rw [if_neg h2, if_neg (by omega)]; omega
theorem map_getD (l : List Int) : (List.range l.length).map (fun j => l.getD j 0) = l := by
  refine List.ext_getElem (by simp) fun i h1 h2 => ?_
  simp [List.getD_eq_getElem?_getD, h2]
theorem move_sum (hs : Shape L B.length) {i : Nat} (hi : i < B.length) : (moveA L B i).sum = B.sum := by
  have hi' : i < L.length := by have := hs.len; omega
  have h1 := (hs.at hi').1
  have e := sum_map3 (fun j => B.getD j 0) (fun j => (L.getD i []).getD j 0) i (deg L i) B.length
  rw [map_getD, if_pos hi] at e
  have e2 : (L.getD i []) = L[i] := by simp [List.getD_eq_getElem?_getD, hi']
  have e3 : ((List.range B.length).map fun j => (L.getD i []).getD j 0).sum = deg L i := by
    rw [e2, deg_eq hi', ← h1, map_getD]
  rw [e3] at e
  unfold moveA
  rw [e]; omega
theorem Rn.sum (h : Rn L A x B) (hs : Shape L A.length) : B.sum = A.sum := by
  induction h with
  | zero => rfl
  | step h hi hc hx ih => rw [move_sum (by rw [h.len.1]; exact hs) hi, ih]
theorem mem_le_sum : ∀ {l : List Int}, (∀ v ∈ l, 0 ≤ v) → ∀ v ∈ l, v ≤ l.sum
  | [], _, v, h => by cases h
  | p :: l, hn, v, h => by
    have h0 := hn p (by simp)
    have h1 : 0 ≤ l.sum := by
      exact sum_nn fun v hv => hn v (by simp [hv])
    rcases List.mem_cons.1 h with rfl | h
    · simp; omega
    · have := mem_le_sum (fun v hv => hn v (by simp [hv])) v h
      simp; omega
theorem Rn.good (h : Rn L A x B) (hg : goodB L A = true) : goodB L B = true := by
  have g := good_of hg
  have hl := h.len.1
  have ok := h.ok g.ok
  have e := h.sum g.shape
  refine goodB_true ⟨by rw [hl]; exact g.1, by rw [hl]; exact g.2.1, fun v hv => ⟨ok.nn v hv, ?_⟩, by rw [hl]; exact g.2.2.2.1, by rw [hl]; exact g.2.2.2.2.1, by rw [hl]; exact g.2.2.2.2.2.1, by rw [e]; exact g.2.2.2.2.2.2⟩
  have := mem_le_sum ok.nn v hv
  rw [e] at this
  have := g.2.2.2.2.2.2
  omega
theorem moveR_some {i : Int} {B : List Int} (h : moveR L A i = some B) : goodB L A = true ∧ ∃ k : Nat, i = (k : Int) ∧ k < A.length ∧ canB L A k = true ∧ B = moveA L A k := by
  rw [moveR, runR] at h
  split at h
  · rename_i hg
    refine ⟨hg.1, ?_⟩
    simp only [runA] at h
    unfold stepA at h
    by_cases c : 0 ≤ i ∧ i < A.length ∧ canB L A i.toNat = true
    · rw [if_pos c] at h
      simp at h
      exact ⟨i.toNat, by omega, by omega, c.2.2, h.symm⟩
    · rw [if_neg c] at h
      cases h
  · cases h
theorem move_at (hg : goodB L A = true) {k : Nat} (hk : k < A.length) : (moveA L A k).getD k 0 = A.getD k 0 - deg L k := by
  have g := good_of hg
  have e := g.2.2.2.2.2.1 k hk
  unfold el at e
  have h1 : k < (moveA L A k).length := by simp [moveA, hk]
  have hk' : k < L.length := by have := g.2.1; omega
  have e2 : (L.getD k []) = L[k] := by simp [List.getD_eq_getElem?_getD, hk']
  have e3 : (moveA L A k).getD k 0 = A.getD k 0 + (L.getD k []).getD k 0 - if k = k then deg L k else 0 := by
    rw [List.getD_eq_getElem?_getD, List.getElem?_eq_getElem h1]
    simp only [moveA, List.getElem_map, List.getElem_range, Option.getD_some]
  rw [e3, e, if_pos rfl]; omega
theorem runs_in {cs : List Int} (hcs : ∀ v ∈ cs, 0 ≤ v) (hg : goodB L A = true) {q : List Int × List Int} (h : fullR L A cs = some q) : ∀ v ∈ q.1, 0 ≤ v ∧ v < A.length := by
  rw [fullR, if_pos hg] at h
  exact (fullA_run hcs h (by simp) (by simp)).2.1
theorem cnt_le {n i : Nat} {l : List Int} {j : Nat} (hi : i < (cntL n (l.take j)).length) (hl : l.length ≤ 60) : 0 ≤ (cntL n (l.take j))[i] ∧ (cntL n (l.take j))[i] ≤ 60 := by
  simp only [cntL, List.getElem_map, List.getElem_range]
  have := List.count_le_length (a := (i : Int)) (l := l.take j)
  simp at this
  omega
end Go.Proofs.Ytnnjehonbolliaa
