/- The library's Reverse of whole numbers as one call: the kit's contract, carried over to the abstract heap. -/
import Derived.Test.YtnjabaeajjhliaaEngZb
import Derived.Shelf.Slices.Reverse
namespace Go.Eng
open Go.Proofs

/-- slices.Reverse at a slice that may be written. -/
theorem reverseA_ok {P : Program} {ρ : Go.Shelf.Ren} (Ly : Lays.n112 P ρ) {n : Nat} {h : Hp} {v : Value} {xs : List Int} (hs : IntsA n h v xs) (hl : xs.length < 2 ^ 40) :
    ∃ h', CallOK P (ρ.f 112) #[v] h (.tuple #[]) h' ∧ IntsA n h' v xs.reverse ∧ h'.next = h.next ∧ (∀ a, Adds a h → a.next ≤ n → Adds a h') ∧ ∀ o, o < n → h'.get o = h.get o := by
  have one : ∀ {args' : Array Value}, (#[v] : Array Value).size = args'.size → args' = #[args'.getD 0 undef] := by
    intro args' h1
    apply Array.ext
    · simpa using h1.symm
    · intro i h2 h3
      have : i = 0 := by simp at h1; omega
      subst this
      simp [Array.getD_eq_getD_getElem?, h2]
  rcases Nat.eq_zero_or_pos xs.length with h0 | h0
  · have hx : xs = [] := List.eq_nil_of_length_eq_zero h0
    subst hx
    refine ⟨h, ?_, by simpa using hs, rfl, fun _ k _ => k, fun _ _ => rfl⟩
    intro E base w args' hr h1 h2
    have h3 := h2 0 (by simp)
    rw [one h1]
    have hform : ∃ p c, args'.getD 0 undef = .slice p 0 c := by
      rcases hs with ⟨_, e⟩ | ⟨o, ex, e, _⟩
      · simp only [e, Array.getD_eq_getD_getElem?] at h3
        simp only [Array.getD_eq_getD_getElem?]
        generalize (args'[0]?).getD undef = u at h3
        simp at h3
        cases h3
        exact ⟨_, _, rfl⟩
      · simp only [e, Array.getD_eq_getD_getElem?] at h3
        simp only [Array.getD_eq_getD_getElem?]
        generalize (args'[0]?).getD undef = u at h3
        simp at h3
        cases h3
        · exact ⟨_, _, rfl⟩
    obtain ⟨p, c, e⟩ := hform
    rw [e]
    refine (Any.slices_Reverse_int_empty Ly p c w).mono ?_
    rintro e w' ⟨rfl, rfl⟩
    exact ⟨E, _, rfl, Step.refl _ _ _, hr, .tuple _ _ rfl (fun i hi => absurd hi (by simp))⟩
  · rcases hs with ⟨e, _⟩ | ⟨o, ex, e, g1, g2, g3⟩
    · subst e; simp at h0
    have hown : (h.get o).owned = true := by rw [g3]; rfl
    refine ⟨h.put o (.cells (xs.reverse.map (.int .i64)) true ex 1), ?_, .inr ⟨o, ex, by simpa using e, g1, g2, by simp [Hp.put]⟩, rfl, ?_, ?_⟩
    · intro E base w args' hr h1 h2
      have h3 := h2 0 (by simp)
      rw [one h1]
      have hform : ∃ sl, args'.getD 0 undef = .slice (some ⟨E.blk o, E.off o, none⟩) xs.length sl ∧ E.D o := by
        simp only [e, Array.getD_eq_getD_getElem?] at h3
        simp only [Array.getD_eq_getD_getElem?]
        generalize (args'[0]?).getD undef = u at h3
        simp at h3
        cases h3 with
        | slice o i n c a hD hn ha =>
          rcases ha with ha | ha
          · omega
          · subst ha; exact ⟨_, rfl, hD⟩
      obtain ⟨sl, e2, hD⟩ := hform
      rw [e2]
      have ho := hr.obj o hD
      rw [g3] at ho
      obtain ⟨C, ty, fz, c1, c2, c3, c4, c5, c6⟩ := ho
      obtain ⟨c5, c7⟩ := c5 rfl
      subst c5
      have hblk : E.blk o < w.heap.size := (Array.getElem?_eq_some_iff.1 c1).1
      simp only [List.length_map] at c2 c3
      have cell : ∀ (d : List Int), d.length = xs.length → ∀ j (hj : j < d.length), (Go.Sort.putCells (Value.int .i64) (E.off o) d.toArray C)[E.off o + j]? = some (.int .i64 d[j]) := by
        intro d hd j hj
        have hc : E.off o + j < C.size := by omega
        simp only [Go.Sort.putCells, Array.getElem?_mapIdx, Array.getElem?_eq_getElem hc, Option.map_some]
        rw [if_pos ⟨by omega, by simp; omega⟩]
        have : E.off o + j - E.off o = j := by omega
        simp [this, hj]
      have hH : Go.Sort.Holds (Value.int .i64) w (E.blk o) (E.off o) xs.toArray := by
        intro j hj
        have hj' : j < xs.length := by simpa using hj
        have hc : E.off o + j < C.size := by omega
        have h4 := c3 j hj'
        simp [List.getD_eq_getElem?_getD, hj', Array.getD_eq_getD_getElem?, hc] at h4
        refine ⟨?_, ?_⟩
        · simp only [World.cell?, c1]
          rw [Array.getElem?_eq_getElem hc]
          generalize C[E.off o + j] = u at h4
          cases h4
          simp [hj']
        · simp [World.frozen?, c1]
      refine (Any.slices_Reverse_int Ly (E.blk o) (E.off o) sl xs w hH (by omega)).mono ?_
      rintro e w' ⟨rfl, m, rfl⟩
      have hs1 : ((xs.reverse).toArray).size = xs.length := by simp
      have step1 := step_put (w' := Go.Sort.putRow (Value.int .i64) (Sort.ahead w m) (E.blk o) (E.off o) (xs.reverse).toArray) hr o (.cells (xs.reverse.map (.int .i64)) true ex 1) hD hown (by simp)
        (fun b hb => by
          simp only [Go.Sort.putRow, Go.Sort.mapBlock, Sort.heap_ahead, Array.getElem?_modify]
          rw [if_neg (fun e => hb e.symm)]) rfl rfl ⟨rfl, by simp [Go.Sort.putRow, Go.Sort.mapBlock, Sort.ahead]⟩
        ⟨Go.Sort.putCells (Value.int .i64) (E.off o) xs.reverse.toArray C, ty, (0, 0), by simp [Go.Sort.putRow, Go.Sort.mapBlock, Array.getElem?_modify, c1, Go.Sort.onCells], by simp [Go.Sort.putCells]; omega, fun j hj => by
          have hj' : j < xs.reverse.length := by simpa using hj
          have := cell xs.reverse (by simp) j hj'
          simp only [Array.getD_eq_getD_getElem?, this, List.getD_eq_getElem?_getD]
          simp only [List.length_reverse] at hj'
          simp [hj']
          exact .int _ _, fun j hj => by
          have hj' : j < xs.length := by simpa using hj
          simp [List.getD_eq_getElem?_getD, hj']; rfl, fun _ => ⟨rfl, c7⟩, c6⟩
      obtain ⟨s1, r1⟩ := step1
      exact ⟨E, _, rfl, s1, r1, .tuple _ _ rfl (fun i hi => absurd hi (by simp))⟩
    · intro a ha hn
      exact ha.wr (S := fun i => i = o) (Wr.put (S := fun i => i = o) (Wr.refl _ h) (o := o) rfl (fun _ => rfl)) (fun i hi => by omega)
    · intro i hi
      simp [Hp.put, show i ≠ o by omega]
end Go.Eng
