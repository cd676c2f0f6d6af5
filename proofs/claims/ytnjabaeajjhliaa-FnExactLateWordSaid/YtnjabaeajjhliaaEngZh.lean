/- The library's Reverse of whole numbers at a slice in objects that may be written. -/
import Derived.Test.YtnjabaeajjhliaaEngZg
namespace Go.Eng
open Go.Proofs

theorem putCells_in {c : List Value} {i : Nat} {vs : List Value} (hi : i ≤ c.length) {k : Nat} (hk : k < vs.length) : (putCells c i vs)[i + k]? = vs[k]? := by
  have hl : (c.take i).length = i := by rw [List.length_take]; omega
  unfold putCells
  rw [List.getElem?_append_right (by omega), hl, List.getElem?_append_left (by omega)]
  congr 1; omega

/-- slices.Reverse at a slice in objects of S. -/
theorem reverseO_ok {P : Program} {ρ : Go.Shelf.Ren} (Ly : Lays.n112 P ρ) {S : Nat → Prop} {h : Hp} {v : Value} {xs : List Int} (hs : IntsO S h v xs) (hl : xs.length < 2 ^ 40) :
    ∃ h', CallOK P (ρ.f 112) #[v] h (.tuple #[]) h' ∧ IntsO S h' v xs.reverse ∧ h'.next = h.next ∧ (∀ a, Adds a h → (∀ o, S o → a.next ≤ o) → Adds a h') ∧ Upd S h h' := by
  have one : ∀ {args' : Array Value}, (#[v] : Array Value).size = args'.size → args' = #[args'.getD 0 undef] := by
    intro args' h1
    apply Array.ext
    · simpa using h1.symm
    · intro i h2 h3
      have : i = 0 := by simp at h1; omega
      subst this
      simp [Array.getD_eq_getD_getElem?, h2]
  rcases Nat.eq_zero_or_pos xs.length with h0 | h0
  · have hx : xs = [] := List.eq_nil_of_length_eq_zero h0
    subst hx
    refine ⟨h, ?_, by simpa using hs, rfl, fun _ k _ => k, Upd.refl _ _⟩
    intro E base w args' hr h1 h2
    have h3 := h2 0 (by simp)
    rw [one h1]
    have hform : ∃ p c, args'.getD 0 undef = .slice p 0 c := by
      obtain ⟨s, c, e, _⟩ := hs
      simp only [e, Array.getD_eq_getD_getElem?] at h3
      simp only [Array.getD_eq_getD_getElem?]
      generalize (args'[0]?).getD undef = u at h3
      cases s with
      | none => simp at h3; cases h3; exact ⟨_, _, rfl⟩
      | some s => simp at h3; cases h3 <;> exact ⟨_, _, rfl⟩
    obtain ⟨p, c, e⟩ := hform
    rw [e]
    refine (Any.slices_Reverse_int_empty Ly p c w).mono ?_
    rintro e w' ⟨rfl, rfl⟩
    exact ⟨E, _, rfl, Step.refl _ _ _, hr, .tuple _ _ rfl (fun i hi => absurd hi (by simp))⟩
  · obtain ⟨s, c, e, g1, g2, g3⟩ := hs
    rcases g3 with g3 | ⟨o, i, cs, ex, rfl, gS, go, g3, g4, g5⟩
    · omega
    have hown : (h.get o).owned = true := by rw [g3]; rfl
    have hpl : (putCells cs i (xs.reverse.map (.int .i64))).length = cs.length := putCells_length (by simp; omega)
    refine ⟨h.put o (.cells (putCells cs i (xs.reverse.map (.int .i64))) true ex 1), ?_, ⟨_, c, by simpa using e, by simpa using g1, g2, .inr ⟨o, i, putCells cs i (xs.reverse.map (.int .i64)), ex, rfl, gS, by simpa using go, by simp [Hp.put], by rw [hpl]; exact g4, fun k hk => by
      rw [putCells_in (by omega) (by simpa using hk)]
      rw [List.getElem?_map, List.getElem?_eq_getElem hk]; rfl⟩⟩, rfl, ?_, ?_⟩
    · intro E base w args' hr h1 h2
      have h3 := h2 0 (by simp)
      rw [one h1]
      have hform : ∃ sl, args'.getD 0 undef = .slice (some ⟨E.blk o, E.off o + i, none⟩) xs.length sl ∧ E.D o := by
        simp only [e, Array.getD_eq_getD_getElem?] at h3
        simp only [Array.getD_eq_getD_getElem?]
        generalize (args'[0]?).getD undef = u at h3
        simp at h3
        cases h3 with
        | slice o i n c a hD hn ha =>
          rcases ha with ha | ha
          · omega
          · subst ha; exact ⟨_, rfl, hD⟩
      obtain ⟨sl, e2, hD⟩ := hform
      rw [e2]
      have ho := hr.obj o hD
      rw [g3] at ho
      obtain ⟨C, ty, fz, c1, c2, c3, c4, c5, c6⟩ := ho
      obtain ⟨c5, c7⟩ := c5 rfl
      subst c5
      have hblk : E.blk o < w.heap.size := (Array.getElem?_eq_some_iff.1 c1).1
      have cell : ∀ j, E.off o + j < C.size → (Go.Sort.putCells (Value.int .i64) (E.off o + i) xs.reverse.toArray C).getD (E.off o + j) undef = if i ≤ j ∧ j < i + xs.length then .int .i64 (xs.reverse.getD (j - i) 0) else C.getD (E.off o + j) undef := by
        intro j hc
        simp only [Array.getD_eq_getD_getElem?, Go.Sort.putCells, Array.getElem?_mapIdx, Array.getElem?_eq_getElem hc, Option.map_some, Option.getD_some]
        by_cases hj : i ≤ j ∧ j < i + xs.length
        · rw [if_pos ⟨by omega, by simp; omega⟩, if_pos hj]
          have e1 : E.off o + j - (E.off o + i) = j - i := by omega
          rw [e1]
          simp [List.getD_eq_getElem?_getD]
        · rw [if_neg (by simp; omega), if_neg hj]
      have hH : Go.Sort.Holds (Value.int .i64) w (E.blk o) (E.off o + i) xs.toArray := by
        intro j hj
        have hj' : j < xs.length := by simpa using hj
        have hc : E.off o + i + j < C.size := by omega
        have h4 := c3 (i + j) (by omega)
        have h5 := g5 j hj'
        rw [← Nat.add_assoc] at h4
        simp [List.getD_eq_getElem?_getD, h5, Array.getD_eq_getD_getElem?, hc] at h4
        refine ⟨?_, ?_⟩
        · simp only [World.cell?, c1]
          rw [Array.getElem?_eq_getElem hc]
          generalize C[E.off o + i + j] = u at h4
          cases h4
          simp [hj']
        · simp [World.frozen?, c1]
      refine (Any.slices_Reverse_int Ly (E.blk o) (E.off o + i) sl xs w hH (by omega)).mono ?_
      rintro e w' ⟨rfl, m, rfl⟩
      have step1 := step_put (w' := Go.Sort.putRow (Value.int .i64) (Sort.ahead w m) (E.blk o) (E.off o + i) (xs.reverse).toArray) hr o (.cells (putCells cs i (xs.reverse.map (.int .i64))) true ex 1) hD hown (by simp)
        (fun b hb => by
          simp only [Go.Sort.putRow, Go.Sort.mapBlock, Sort.heap_ahead, Array.getElem?_modify]
          rw [if_neg (fun e => hb e.symm)]) rfl rfl ⟨rfl, by simp [Go.Sort.putRow, Go.Sort.mapBlock, Sort.ahead]⟩
        ⟨Go.Sort.putCells (Value.int .i64) (E.off o + i) xs.reverse.toArray C, ty, (0, 0), by simp [Go.Sort.putRow, Go.Sort.mapBlock, Array.getElem?_modify, c1, Go.Sort.onCells], by rw [hpl]; simp only [Go.Sort.putCells, Array.size_mapIdx]; exact c2, fun j hj => by
          rw [hpl] at hj
          rw [putCells_getD (by simp; omega), cell j (by omega)]
          simp only [List.length_map, List.length_reverse]
          by_cases hij : i ≤ j ∧ j < i + xs.length
          · rw [if_pos hij, if_pos hij]
            have e2 : j - i < xs.reverse.length := by simp; omega
            rw [List.getD_eq_getElem?_getD, List.getElem?_map, List.getElem?_eq_getElem e2, List.getD_eq_getElem?_getD, List.getElem?_eq_getElem e2]
            exact .int _ _
          · rw [if_neg hij, if_neg hij]; exact c3 j hj, fun j hj => by
          rw [hpl] at hj
          rw [putCells_getD (by simp; omega)]
          simp only [List.length_map, List.length_reverse]
          by_cases hij : i ≤ j ∧ j < i + xs.length
          · rw [if_pos hij]
            have e2 : j - i < xs.reverse.length := by simp; omega
            rw [List.getD_eq_getElem?_getD, List.getElem?_map, List.getElem?_eq_getElem e2]
            rfl
          · rw [if_neg hij]; exact c4 j hj, fun _ => ⟨rfl, c7⟩, c6⟩
      obtain ⟨s1, r1⟩ := step1
      exact ⟨E, _, rfl, s1, r1, .tuple _ _ rfl (fun i hi => absurd hi (by simp))⟩
    · intro a ha hn
      exact ha.wr (S := fun i => i = o) (Wr.put (S := fun i => i = o) (Wr.refl _ h) (o := o) rfl (fun _ => rfl)) (fun j hj => by have := hn j (hj ▸ gS); omega)
    · exact (Upd.refl S h).put gS _
end Go.Eng
