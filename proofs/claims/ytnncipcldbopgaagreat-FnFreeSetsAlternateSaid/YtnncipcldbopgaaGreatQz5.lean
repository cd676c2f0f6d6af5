/- Part 5 of the proof of freeSetsAlternate_holds: what it uses of the texts that lie in the notes, merged. -/
import Derived.Test.YtnncipcldbopgaaGreatQz4
import Derived.Shelf.Sort.Plain
import Derived.Ground.NamesProg
import Derived.Shelf.Slices.In.SortNone
import Derived.Test.YtnncipcldbopgaaGreatProg
namespace Go.Proofs.YtnncipcldbopgaaGreat
set_option linter.unusedSimpArgs false
set_option linter.unusedVariables false
open Go Go.Eng
def sgnN (a : Nat) : Int := 1 - 2 * ((pcN a % 2 : Nat) : Int)
theorem pc_flip : ∀ a, a < 128 → ∀ i, i < 7 → (pcN (nXor a (bit i)) + pcN a) % 2 = 1 := by decide +kernel
theorem sgn_flip {a i : Nat} (ha : a < 128) (hi : i < 7) : sgnN (nXor a (bit i)) = - sgnN a := by
  have h := pc_flip a ha i hi
  unfold sgnN
  omega
theorem perm_sum {l k : List Int} (h : l.Perm k) : l.sum = k.sum := by
  induction h with
  | nil => rfl
  | cons a _ ih => rw [List.sum_cons, List.sum_cons, ih]
  | swap a b l => rw [List.sum_cons, List.sum_cons, List.sum_cons, List.sum_cons]; omega
  | trans _ _ h1 h2 => rw [h1, h2]
theorem sum_add (f g : Nat → Int) : ∀ l : List Nat, (l.map fun a => f a + g a).sum = (l.map f).sum + (l.map g).sum
  | [] => by simp
  | a :: l => by simp only [List.map_cons, List.sum_cons, sum_add f g l]; omega
theorem sum_neg (f : Nat → Int) : ∀ l : List Nat, (l.map fun a => - f a).sum = - (l.map f).sum
  | [] => by simp
  | a :: l => by simp only [List.map_cons, List.sum_cons, sum_neg f l]; omega
theorem sum_nil (l : List Nat) : (l.map fun _ => (0 : Int)).sum = 0 := by induction l with
  | nil => rfl
  | cons a l ih => rw [List.map_cons, List.sum_cons, ih]; rfl
theorem sum_eq {f g : Nat → Int} {l : List Nat} (h : ∀ a ∈ l, f a = g a) : (l.map f).sum = (l.map g).sum := by rw [List.map_congr_left h]
theorem sum_filter (p : Nat → Bool) (f : Nat → Int) : ∀ l : List Nat, ((l.filter p).map f).sum = (l.map fun a => if p a = true then f a else 0).sum
  | [] => rfl
  | a :: l => by
    rw [List.filter_cons, List.map_cons, List.sum_cons, ← sum_filter p f l]
    split <;> simp
theorem sum_pick (c : Nat) (v : Int) : ∀ m : Nat, ((List.range m).map fun k => if c = k then v else 0).sum = if c < m then v else 0
  | 0 => by simp
  | m + 1 => by
    rw [List.range_succ, List.map_append, List.sum_append, sum_pick c v m]
    simp only [List.map_cons, List.map_nil, List.sum_cons, List.sum_nil]
    by_cases h1 : c < m
    · rw [if_pos h1, if_neg (by omega), if_pos (by omega)]; omega
    · rw [if_neg h1]
      by_cases h2 : c = m
      · rw [if_pos h2, if_pos (by omega)]; omega
      · rw [if_neg h2, if_neg (by omega)]; omega
theorem sum_swap (s : Nat → Int) (H : Nat → Nat) (m : Nat) : ∀ l : List Nat, (∀ a ∈ l, H a < m) → ((List.range m).map fun k => (l.map fun a => if H a = k then s a else 0).sum).sum = (l.map s).sum
  | [], _ => by
    simp only [List.map_nil, List.sum_nil]
    exact sum_nil _
  | a :: l, h => by
    simp only [List.map_cons, List.sum_cons]
    rw [sum_add, sum_swap s H m l (fun b hb => h b (by simp [hb])), sum_pick, if_pos (h a (by simp))]
theorem xor_lt {n a i : Nat} (ha : a < bit n) (hi : i < n) : nXor a (bit i) < bit n := Nat.xor_lt_two_pow ha (Nat.pow_lt_pow_right (by omega) hi)
theorem xor_xor (a b : Nat) : nXor (nXor a b) b = a := by
  apply eq_bits
  intro j
  rw [nXor_bit, nXor_bit]
  cases a.testBit j <;> cases b.testBit j <;> rfl
theorem flip_zero {n i : Nat} (hi : i < n) {f : Nat → Int} (h : ∀ a, a < bit n → f (nXor a (bit i)) = - f a) : ((List.range (bit n)).map f).sum = 0 := by
  have hp : ((List.range (bit n)).map fun a => nXor a (bit i)).Perm (List.range (bit n)) := by
    have hinj : ∀ a b, nXor a (bit i) = nXor b (bit i) → a = b := fun a b e => by rw [← xor_xor a (bit i), e, xor_xor]
    rw [List.perm_ext_iff_of_nodup (List.Pairwise.map _ (fun a b hab e => hab (hinj a b e)) List.nodup_range) List.nodup_range]
    intro a
    rw [List.mem_map, List.mem_range]
    constructor
    · rintro ⟨b, hb, rfl⟩
      exact xor_lt (List.mem_range.1 hb) hi
    · intro ha
      exact ⟨nXor a (bit i), List.mem_range.2 (xor_lt ha hi), xor_xor _ _⟩
  have h1 := perm_sum (hp.map f)
  rw [List.map_map] at h1
  have h2 : ((List.range (bit n)).map (f ∘ fun a => nXor a (bit i))).sum = - ((List.range (bit n)).map f).sum := by
    rw [← sum_neg]
    exact sum_eq fun a ha => h a (List.mem_range.1 ha)
  omega
theorem full_diff {n x : Nat} (h : x < bit n) : ndiff (bit n - 1) (ndiff (bit n - 1) x) = x := by
  apply eq_bits
  intro i
  rw [ndiff_bit, ndiff_bit, full_bit]
  by_cases hi : i < n
  · simp [hi]
  · rw [hi_bit h (by omega)]; simp [hi]
theorem diff_lt (n x : Nat) : ndiff (bit n - 1) x < bit n := by
  have := bit_pos n
  have h : ndiff (bit n - 1) x ≤ bit n - 1 := by
    have h0 : ndiff (ndiff (bit n - 1) x) (bit n - 1) = 0 := (ndiff_zero _ _).2 fun i hi => by rw [ndiff_bit] at hi; simp at hi; exact hi.1
    apply Classical.byContradiction
    intro hn
    have : bit n ≤ ndiff (bit n - 1) x := by omega
    obtain ⟨i, hi, hb⟩ := Nat.exists_ge_and_testBit_of_ge_two_pow (n := n) (x := ndiff (bit n - 1) x) this
    have := (ndiff_zero _ _).1 h0 i hb
    rw [full_bit] at this
    simp at this
    omega
  omega
theorem hull_iff {n : Nat} {xs : List Nat} (g : SpGood n xs) {x A : Nat} (hx : x ∈ xs) (hA : A < bit n) : hullN n xs A = ndiff (bit n - 1) x ↔ (∀ i, (outerN (fam xs) n x).testBit i = true → A.testBit i = true) ∧ (∀ i, A.testBit i = true → (ndiff (bit n - 1) x).testBit i = true) := by
  have hG := great_mem g (ndiff (bit n - 1) A)
  have hsub := great_sub xs (ndiff (bit n - 1) A)
  have e : hullN n xs A = ndiff (bit n - 1) x ↔ greatN xs (ndiff (bit n - 1) A) = x := by
    rw [hullN]
    constructor
    · intro h
      have : ndiff (bit n - 1) (ndiff (bit n - 1) (greatN xs (ndiff (bit n - 1) A))) = ndiff (bit n - 1) (ndiff (bit n - 1) x) := by rw [h]
      rwa [full_diff (g.lt _ hG), full_diff (g.lt _ hx)] at this
    · intro h; rw [h]
  rw [e]
  generalize hg : greatN xs (ndiff (bit n - 1) A) = G at *
  constructor
  · intro h
    subst h
    constructor
    · intro i hi
      rw [outerN_bit] at hi
      simp only [Bool.and_eq_true, Bool.not_eq_true', decide_eq_true_eq] at hi
      obtain ⟨h1, h2, h3⟩ := hi
      have hm : nOr G (bit i) ∈ xs := by unfold fam at h3; exact of_decide_eq_true h3
      cases hAi : A.testBit i
      · exfalso
        have : ndiff (nOr G (bit i)) (ndiff (bit n - 1) A) = 0 := (ndiff_zero _ _).2 fun j hj => by
          rw [nOr_bit, Bool.or_eq_true] at hj
          rcases hj with hj | hj
          · exact (ndiff_zero _ _).1 hsub j hj
          · rw [bit_bit] at hj
            have hij : i = j := by simpa using hj
            subst hij
            rw [ndiff_bit, full_bit, hAi]
            simp [h1]
        have h4 := great_top hm this
        rw [hg] at h4
        have := (ndiff_zero _ _).1 h4 i (by rw [nOr_bit, bit_bit]; simp)
        rw [h2] at this
        cases this
      · rfl
    · intro i hi
      have hin : i < n := by
        apply Classical.byContradiction
        intro hn
        rw [hi_bit hA (by omega)] at hi
        cases hi
      rw [ndiff_bit, full_bit, decide_eq_true hin, Bool.true_and]
      cases hGi : G.testBit i
      · rfl
      · have := (ndiff_zero _ _).1 hsub i hGi
        rw [ndiff_bit, hi] at this
        simp at this
  · rintro ⟨h1, h2⟩
    have hxB : ndiff x (ndiff (bit n - 1) A) = 0 := (ndiff_zero _ _).2 fun i hi => by
      have hin : i < n := by
        apply Classical.byContradiction
        intro hn
        rw [hi_bit (g.lt _ hx) (by omega)] at hi
        cases hi
      rw [ndiff_bit, full_bit, decide_eq_true hin, Bool.true_and]
      cases hAi : A.testBit i
      · rfl
      · have := h2 i hAi
        rw [ndiff_bit, hi] at this
        simp at this
    have hxG := great_top hx hxB
    rw [hg] at hxG
    refine ndiff_anti ?_ hxG
    apply Classical.byContradiction
    intro hn
    have : ∃ j, G.testBit j = true ∧ x.testBit j = false := by
      apply Classical.byContradiction
      intro h
      apply hn
      refine (ndiff_zero _ _).2 fun j hj => ?_
      cases hxj : x.testBit j
      · exact absurd ⟨j, hj, hxj⟩ h
      · rfl
    obtain ⟨i, a1, a2, a3, a4⟩ := g.next hx G hG this
    have := h1 i (by rw [outerN_bit, a2]; simp [a1]; unfold fam; exact decide_eq_true a3)
    have h5 := (ndiff_zero _ _).1 hsub i a4
    rw [ndiff_bit, this] at h5
    simp at h5
theorem fiber_sum {n : Nat} {xs : List Nat} (g : SpGood n xs) {K : Nat} (hK : K < bit n) : ((List.range (bit n)).map fun A => if hullN n xs A = K then sgnN A else 0).sum = if isFreeN n xs K = true then sgnN K else 0 := by
  have n7 := g.n7
  have hb := bit7 n7
  by_cases hx : ndiff (bit n - 1) K ∈ xs
  case neg =>
    have hf : isFreeN n xs K = false := by
      unfold isFreeN fam
      rw [decide_eq_false hx, Bool.false_and]
    rw [hf, if_neg (by simp)]
    rw [sum_eq (g := fun _ => 0) fun A hA => ?_, sum_nil]
    rw [if_neg]
    intro h
    apply hx
    rw [← h, hullN, full_diff (g.lt _ (great_mem g _))]
    exact great_mem g _
  case pos =>
    have hKd := full_diff hK
    have hiff := fun A (hA : A < bit n) => hull_iff g hx hA
    rw [hKd] at hiff
    generalize ndiff (bit n - 1) K = x at *
    have hKx : ∀ i, (outerN (fam xs) n x).testBit i = true → K.testBit i = true := fun i hi => by
      rw [← hKd, ndiff_bit, full_bit]
      rw [outerN_bit] at hi
      simp only [Bool.and_eq_true, Bool.not_eq_true', decide_eq_true_eq] at hi
      simp [hi.1, hi.2.1]
    by_cases hf : ∃ i, i < n ∧ K.testBit i = true ∧ (outerN (fam xs) n x).testBit i = false
    · obtain ⟨i, h1, h2, h3⟩ := hf
      have hfr : isFreeN n xs K = false := by
        unfold isFreeN
        rw [Bool.and_eq_false_iff]
        refine .inr ?_
        rw [beq_eq_false_iff_ne]
        intro e
        have e2 : ndiff (bit n - 1) K = x := by rw [← hKd, full_diff (g.lt _ hx)]
        rw [e2] at e
        rw [e, h2] at h3
        cases h3
      rw [hfr, if_neg (by simp)]
      refine flip_zero h1 fun A hA => ?_
      have hA2 := xor_lt hA h1
      have hsame : hullN n xs (nXor A (bit i)) = K ↔ hullN n xs A = K := by
        rw [hiff _ hA2, hiff _ hA]
        have hbit : ∀ j, j ≠ i → (nXor A (bit i)).testBit j = A.testBit j := fun j hj => by rw [nXor_bit, bit_bit, decide_eq_false (fun h => hj h.symm), Bool.xor_false]
        constructor
        · rintro ⟨q1, q2⟩
          refine ⟨fun j hj => ?_, fun j hj => ?_⟩
          · by_cases e : j = i
            · subst e; rw [h3] at hj; cases hj
            · rw [← hbit j e]; exact q1 j hj
          · by_cases e : j = i
            · subst e; exact h2
            · exact q2 j (by rw [hbit j e]; exact hj)
        · rintro ⟨q1, q2⟩
          refine ⟨fun j hj => ?_, fun j hj => ?_⟩
          · by_cases e : j = i
            · subst e; rw [h3] at hj; cases hj
            · rw [hbit j e]; exact q1 j hj
          · by_cases e : j = i
            · subst e; exact h2
            · exact q2 j (by rw [← hbit j e]; exact hj)
      by_cases hh : hullN n xs A = K
      · rw [if_pos (hsame.2 hh), if_pos hh, sgn_flip (by omega) (by omega)]
      · rw [if_neg (fun h => hh (hsame.1 h)), if_neg hh]; rfl
    · have hOK : outerN (fam xs) n x = K := by
        apply eq_bits
        intro i
        cases hi : (outerN (fam xs) n x).testBit i
        · cases hKi : K.testBit i
          · rfl
          · exfalso
            apply hf
            refine ⟨i, ?_, hKi, hi⟩
            apply Classical.byContradiction
            intro hn
            rw [hi_bit hK (by omega)] at hKi
            cases hKi
        · rw [hKx i hi]
      have hfr : isFreeN n xs K = true := by
        have e2 : ndiff (bit n - 1) K = x := by rw [← hKd, full_diff (g.lt _ hx)]
        unfold isFreeN fam
        rw [e2, decide_eq_true hx, Bool.true_and]
        exact beq_iff_eq.2 hOK
      rw [if_pos hfr]
      rw [sum_eq (g := fun A => if K = A then sgnN K else 0) fun A hA => ?_, sum_pick, if_pos hK]
      have h1 := hiff A (List.mem_range.1 hA)
      rw [hOK] at h1
      by_cases hh : K = A
      · subst hh
        rw [if_pos (h1.2 ⟨fun _ h => h, fun _ h => h⟩), if_pos rfl]
      · rw [if_neg hh, if_neg]
        intro h
        obtain ⟨q1, q2⟩ := h1.1 h
        apply hh
        apply eq_bits
        intro i
        rw [Bool.eq_iff_iff]
        exact ⟨q1 i, q2 i⟩
theorem free_zero {n : Nat} {xs : List Nat} (g : SpGood n xs) : ((freeN n xs).map sgnN).sum = 0 := by
  have n7 := g.n7
  have n1 := g.n1
  have hb := bit7 n7
  rw [freeN, freeK, sum_filter]
  rw [sum_eq fun K hK => (fiber_sum g (List.mem_range.1 hK)).symm]
  rw [sum_swap sgnN (hullN n xs) (bit n) _ (fun A _ => diff_lt n _)]
  exact flip_zero (i := 0) (by omega) fun a ha => sgn_flip (by omega) (by omega)
end Go.Proofs.YtnncipcldbopgaaGreat
namespace Go.Proofs.YtnncipcldbopgaaGreat
set_option linter.unusedSimpArgs false
set_option linter.unusedVariables false
set_option maxHeartbeats 4000000
open Go Go.Eng
attribute [local irreducible] WD RunD PreD Runs CallOK
def stepU {σ : Type} (stop : σ → Bool) (step : σ → List Nat → σ) (s : σ) (w : List Nat) : σ := if stop s = true then s else step s w
theorem foldU_stop {σ : Type} {stop : σ → Bool} {step : σ → List Nat → σ} {s : σ} (h : stop s = true) : ∀ l : List (List Nat), l.foldl (stepU stop step) s = s
  | [] => rfl
  | w :: l => by rw [List.foldl_cons, stepU, if_pos h, foldU_stop h l]
structure WSu (base : Nat) (S : Nat → Prop) (A : WA) (n : Nat) (M : Nat → Bool) (b : Value) (X : List Int) (dv : Value) (h : Hp) (W : List Nat) (v : Value) (bg : Bool) : Prop where
  ord : base ≤ A.os ∧ A.os < A.od ∧ A.od < A.fo ∧ A.fo < A.oF ∧ A.oF < A.ow ∧ A.ow < A.og ∧ A.og < A.on ∧ A.on < A.B ∧ A.B ≤ h.next
  gs : h.get A.os = .cells [.int .i64 (n : Int), b] true true 1
  ib : IntsF (fun x => x < base ∧ ¬ S x) h b X
  gd : h.get A.od = .cells [dv] true true 1
  gF : h.get A.fo = .cells (famC M) true true 1
  gf : h.get A.oF = .cells [.pointer (some ⟨A.fo, 0, none⟩)] true true 1
  gw : h.get A.ow = .cells [v] true true 1
  gg : h.get A.og = .cells [.bool bg] true true 1
  gn : h.get A.on = .cells [.func (.func 176) #[] #[.pointer (some ⟨A.os, 0, none⟩), .pointer (some ⟨A.od, 0, none⟩), .pointer (some ⟨A.ow, 0, none⟩), .pointer (some ⟨A.og, 0, none⟩), .pointer (some ⟨A.oF, 0, none⟩), .pointer (some ⟨A.on, 0, none⟩)]] true true 1
  ws : WS A.B h v W
theorem WSu.keep {base : Nat} {S : Nat → Prop} {A : WA} {n : Nat} {M : Nat → Bool} {b : Value} {X : List Int} {dv : Value} {h h' : Hp} {W : List Nat} {v : Value} {bg : Bool} (k : WSu base S A n M b X dv h W v bg) (hS : ∀ o, S o → o < base) {T : Nat → Prop} (hT : ∀ o, T o → A.B ≤ o ∧ objOf v ≠ some o) (w : Wr (fun o => S o ∨ T o) h h') : WSu base S A n M b X dv h' W v bg := by
  obtain ⟨o1, o2, o3, o4, o5, o6, o7, o8, o9⟩ := k.ord
  have hn := w.upd.1
  have hg : ∀ o, base ≤ o → o < A.B → h'.get o = h.get o := fun o h1 h2 => w.upd.2 o (by omega) fun hs => by
    rcases hs with hs | hs
    · have := hS o hs; omega
    · have := hT o hs; omega
  exact {
    ord := ⟨o1, o2, o3, o4, o5, o6, o7, o8, by omega⟩
    gs := by rw [hg _ (by omega) (by omega)]; exact k.gs
    ib := k.ib.same ⟨hn, fun q hq hl => w.upd.2 q hl fun hs => by
      rcases hs with hs | hs
      · exact hq.2 hs
      · have := hT q hs; have := hq.1; omega⟩
    gd := by rw [hg _ (by omega) (by omega)]; exact k.gd
    gF := by rw [hg _ (by omega) (by omega)]; exact k.gF
    gf := by rw [hg _ (by omega) (by omega)]; exact k.gf
    gw := by rw [hg _ (by omega) (by omega)]; exact k.gw
    gg := by rw [hg _ (by omega) (by omega)]; exact k.gg
    gn := by rw [hg _ (by omega) (by omega)]; exact k.gn
    ws := k.ws.keep hn fun o ho => w.upd.2 o (k.ws.obj ho).2 fun hs => by
      rcases hs with hs | hs
      · have := hS o hs; have := (k.ws.obj ho).1; omega
      · exact (hT o hs).2 ho }
theorem WSu.put {base : Nat} {S : Nat → Prop} {A : WA} {n : Nat} {M : Nat → Bool} {b : Value} {X : List Int} {dv : Value} {h h' h2 : Hp} {W W' : List Nat} {v v' : Value} {bg : Bool} (k : WSu base S A n M b X dv h W v bg) (hS : ∀ o, S o → o < base)
    (w : Wr (fun o => objOf v = some o) h h') (hw : WS A.B h' v' W') (he : h2 = h'.put A.ow (.cells [v'] true true 1)) : WSu base S A n M b X dv h2 W' v' bg := by
  subst he
  obtain ⟨o1, o2, o3, o4, o5, o6, o7, o8, o9⟩ := k.ord
  have hn := w.upd.1
  have hg : ∀ o, o < A.B → o ≠ A.ow → (h'.put A.ow (.cells [v'] true true 1)).get o = h.get o := fun o h1 h2 => by
    simp [h2]
    exact w.upd.2 o (by omega) fun hs => by have := (k.ws.obj hs).1; omega
  exact {
    ord := ⟨o1, o2, o3, o4, o5, o6, o7, o8, by simp; omega⟩
    gs := by rw [hg _ (by omega) (by omega)]; exact k.gs
    ib := k.ib.same ⟨by simp; exact hn, fun q hq hl => hg q (by omega) (by omega)⟩
    gd := by rw [hg _ (by omega) (by omega)]; exact k.gd
    gF := by rw [hg _ (by omega) (by omega)]; exact k.gF
    gf := by rw [hg _ (by omega) (by omega)]; exact k.gf
    gw := by simp
    gg := by rw [hg _ (by omega) (by omega)]; exact k.gg
    gn := by rw [hg _ (by omega) (by omega)]; exact k.gn
    ws := hw.keep (by simp) fun o ho => by simp [show o ≠ A.ow by have := (hw.obj ho).1; omega] }
theorem WSu.putG {base : Nat} {S : Nat → Prop} {A : WA} {n : Nat} {M : Nat → Bool} {b : Value} {X : List Int} {dv : Value} {h h2 : Hp} {W : List Nat} {v : Value} {bg bg' : Bool} (k : WSu base S A n M b X dv h W v bg)
    (he : h2 = h.put A.og (.cells [.bool bg'] true true 1)) : WSu base S A n M b X dv h2 W v bg' := by
  subst he
  obtain ⟨o1, o2, o3, o4, o5, o6, o7, o8, o9⟩ := k.ord
  have hg : ∀ o, o ≠ A.og → (h.put A.og (.cells [.bool bg'] true true 1)).get o = h.get o := fun o h2 => by simp [h2]
  exact {
    ord := ⟨o1, o2, o3, o4, o5, o6, o7, o8, by simp; omega⟩
    gs := by rw [hg _ (by omega)]; exact k.gs
    ib := k.ib.same ⟨by simp, fun q hq hl => hg q (by omega)⟩
    gd := by rw [hg _ (by omega)]; exact k.gd
    gF := by rw [hg _ (by omega)]; exact k.gF
    gf := by rw [hg _ (by omega)]; exact k.gf
    gw := by rw [hg _ (by omega)]; exact k.gw
    gg := by simp
    gn := by rw [hg _ (by omega)]; exact k.gn
    ws := k.ws.keep (by simp) fun o ho => by simp [show o ≠ A.og by have := (k.ws.obj ho).1; omega] }
section
variable {σ : Type} (P : σ → (Nat → Prop) → Hp → Prop) (stop : σ → Bool) (step : σ → List Nat → σ) (Good : List Nat → Prop) (base : Nat) (S : Nat → Prop) (fid : Nat) (dc : Array Value)
structure DoerU : Prop where
  stab : ∀ s T h h', P s T h → base ≤ h.next → h.next ≤ h'.next → (∀ o, o < h.next → (o < base ∨ T o) → h'.get o = h.get o) → P s T h'
  run : ∀ s T h w v, stop s = false → P s T h → base ≤ h.next → Ints h v (toN w) → Good w → ∃ h', CallOK Tryz.prog fid (#[v] ++ dc) h (.bool (!stop (step s w))) h' ∧ Wr (fun o => S o ∨ T o) h h' ∧ ∃ T', P (step s w) T' h' ∧ ∀ o, T' o → (T o ∨ h.next ≤ o) ∧ o < h'.next
  low : ∀ o, S o → o < base
  fn : fnOK Tryz.prog fid = true
end
theorem nextU_ok {σ : Type} (P : σ → (Nat → Prop) → Hp → Prop) (stop : σ → Bool) (step : σ → List Nat → σ) (Good : List Nat → Prop) (base : Nat) (S : Nat → Prop) (fid : Nat) (dc : Array Value) (D : DoerU P stop step Good base S fid dc) (A : WA) (n : Nat) (xs : List Nat) (g : SpGood n xs) (b : Value) (X : List Int) :
    ∀ (k : Nat) (h : Hp) (W : List Nat) (set : Nat) (v : Value) (s : σ) (T : Nat → Prop), WSu base S A n (fam xs) b X (.func (.func fid) #[] dc) h W v true → stop s = false → P s T h → (∀ o, T o → (A.B ≤ o ∧ o < h.next) ∧ objOf v ≠ some o) → set ∈ xs → pcN set + k = n → W.length + k = n → (∀ w ∈ wordsF (fam xs) n k W set, Good w) →
    ∃ u h', CallOK Tryz.prog 176 #[.int .i64 (set : Int), .pointer (some ⟨A.os, 0, none⟩), .pointer (some ⟨A.od, 0, none⟩), .pointer (some ⟨A.ow, 0, none⟩), .pointer (some ⟨A.og, 0, none⟩), .pointer (some ⟨A.oF, 0, none⟩), .pointer (some ⟨A.on, 0, none⟩)] h u h' ∧ ∃ v' T',
      WSu base S A n (fam xs) b X (.func (.func fid) #[] dc) h' W v' (!stop ((wordsF (fam xs) n k W set).foldl (stepU stop step) s)) ∧ P ((wordsF (fam xs) n k W set).foldl (stepU stop step) s) T' h' ∧ (∀ o, T' o → (A.B ≤ o ∧ o < h'.next) ∧ objOf v' ≠ some o) ∧ (∀ o, T' o → T o ∨ h.next ≤ o) ∧ Wr (fun o => S o ∨ T o ∨ o = A.ow ∨ o = A.og ∨ objOf v = some o) h h' ∧ (objOf v' = objOf v ∨ ∃ p, objOf v' = some p ∧ h.next ≤ p) := by
  intro k
  induction k with
  | zero =>
    intro h W set v s T hw hst hP hT hset hk hWk hgood
    refine callY_L (args := [.int .i64 (set : Int), .pointer (some ⟨A.os, 0, none⟩), .pointer (some ⟨A.od, 0, none⟩), .pointer (some ⟨A.ow, 0, none⟩), .pointer (some ⟨A.og, 0, none⟩), .pointer (some ⟨A.oF, 0, none⟩), .pointer (some ⟨A.on, 0, none⟩)]) 44 _ [] Tryz.func176 rfl rfl rfl ?_
    have hsa : set = bit n - 1 := (pcN_lt g.n7 (g.lt set hset)).2 (by omega)
    have hgs := hw.gs
    have hgd := hw.gd
    have hgw := hw.gw
    have hfn := D.fn
    have n7 := g.n7
    try simp (disch := first | omega | (simp; done) | fail) [wrap64c, if_pos, if_neg, opAnd, opOr, opXor, opDiff, opShr, opBit, hgs, hgd, hgw, hfn]
    refine callG_c (by simp) (by simp) ?ha (all_ok h (.agg #[.int .i64 (n : Int), b]) n X (.mk hw.ib.ints) (by omega)) ?_
    (case ha => simp (disch := first | omega | (simp; done) | fail) [wrap64c, if_pos, if_neg, opAnd, opOr, opXor, opDiff, opShr, opBit, hgs, hgd, hgw, hfn])
    have hn := hw.ord
    try simp (disch := first | omega | (simp; done) | fail) [wrap64c, if_pos, if_neg, opAnd, opOr, opXor, opDiff, opShr, opBit, hgs, hgd, hgw, hfn, hsa]
    obtain ⟨h1, hc1, W1, T1, P1, hT1⟩ := D.run s T h W v hst hP (by omega) hw.ws.ints (hgood W (by simp [wordsF]))
    refine callG_f (fst := #[]) (cap := dc) (by simp) (by simp) ?hf ?hk ?ha (hc1) ?_
    (case hf => simp (disch := first | omega | (simp; done) | fail) [wrap64c, if_pos, if_neg, opAnd, opOr, opXor, opDiff, opShr, opBit, hgs, hgd, hgw, hfn]; try rfl)
    (case hk => simp (disch := first | omega | (simp; done) | fail) [wrap64c, if_pos, if_neg, opAnd, opOr, opXor, opDiff, opShr, opBit, hgs, hgd, hgw, hfn])
    (case ha => simp (disch := first | omega | (simp; done) | fail) [wrap64c, if_pos, if_neg, opAnd, opOr, opXor, opDiff, opShr, opBit, hgs, hgd, hgw, hfn])
    have hw1 := hw.keep D.low (fun o ho => ⟨(hT o ho).1.1, (hT o ho).2⟩) W1
    have hgg := hw1.gg
    try simp (disch := first | omega | (simp; done) | fail) [wrap64c, if_pos, if_neg, opAnd, opOr, opXor, opDiff, opShr, opBit, hgs, hgd, hgw, hfn, hgg, putCells]
    have hfo : (wordsF (fam xs) n 0 W set).foldl (stepU stop step) s = step s W := by simp [wordsF, stepU, hst]
    rw [hfo]
    have hw2 := hw1.putG (bg' := !stop (step s W)) (h2 := h1.put A.og (.cells [.bool (!stop (step s W))] true true 1)) rfl
    have hT2 : ∀ o, T1 o → A.B ≤ o := fun o ho => by
      rcases (hT1 o ho).1 with h1 | h1
      · exact (hT o h1).1.1
      · omega
    refine done_ret rfl ⟨v, T1, hw2, ?_, fun o ho => ⟨⟨hT2 o ho, (hT1 o ho).2⟩, fun e => ?_⟩, fun o ho => (hT1 o ho).1, ?_, .inl rfl⟩
    · exact D.stab _ T1 h1 _ P1 (by have := W1.upd.1; omega) (by simp) fun o _ ho => by
        have : o ≠ A.og := by
          rcases ho with ho | ho
          · omega
          · have := hT2 o ho; omega
        simp [this]
    · rcases (hT1 o ho).1 with h1 | h1
      · exact (hT o h1).2 e
      · have := (hw.ws.obj e).2; omega
    · exact (W1.mono fun o _ hs => hs.elim .inl fun h => .inr (.inl h)).put (.inr (.inr (.inr (.inl rfl)))) (fun _ => rfl)
  | succ k ih =>
    intro h W set v s T hw hst hP hT hset hk hWk hgood
    refine callY_L (args := [.int .i64 (set : Int), .pointer (some ⟨A.os, 0, none⟩), .pointer (some ⟨A.od, 0, none⟩), .pointer (some ⟨A.ow, 0, none⟩), .pointer (some ⟨A.og, 0, none⟩), .pointer (some ⟨A.oF, 0, none⟩), .pointer (some ⟨A.on, 0, none⟩)]) 44 _ [] Tryz.func176 rfl rfl rfl ?_
    have hsa : set ≠ bit n - 1 := fun e => by have := pcN_full g.n7; rw [← e] at this; omega
    have hs7 := g.lt7 set hset
    have hn := hw.ord
    have hgs := hw.gs
    have hgf := hw.gf
    have n7 := g.n7
    have hbn := bit7 n7
    have hsb : ((set : Int) == ((bit n - 1 : Nat) : Int)) = false := by simp; omega
    try simp (disch := first | omega | (simp; done) | fail) [wrap64c, if_pos, if_neg, opAnd, opOr, opXor, opDiff, opShr, opBit, hgs, hgf, hsb]
    refine callG_c (by simp) (by simp) ?ha (all_ok h (.agg #[.int .i64 (n : Int), b]) n X (.mk hw.ib.ints) (by omega)) ?_
    (case ha => simp (disch := first | omega | (simp; done) | fail) [wrap64c, if_pos, if_neg, opAnd, opOr, opXor, opDiff, opShr, opBit, hgs, hgf, hsb])
    try simp (disch := first | omega | (simp; done) | fail) [wrap64c, if_pos, if_neg, opAnd, opOr, opXor, opDiff, opShr, opBit, hgs, hgf, hsb]
    refine callG_c (by simp) (by simp) ?ha (imOuter_ok h A.fo (fam xs) true true 1 set (by omega) hw.gF hs7) ?_
    (case ha => simp (disch := first | omega | (simp; done) | fail) [wrap64c, if_pos, if_neg, opAnd, opOr, opXor, opDiff, opShr, opBit, hgs, hgf, hsb])
    rw [g.outer7 set]
    have hol := outerN_lt (fam xs) n set
    obtain ⟨q, h2, hc2, ha2, hi2, _⟩ := items_ok h (outerN (fam xs) n set) (by omega)
    try simp (disch := first | omega | (simp; done) | fail) [wrap64c, if_pos, if_neg, opAnd, opOr, opXor, opDiff, opShr, opBit, hgs, hgf, hsb]
    refine callG_c (by simp) (by simp) ?ha (hc2) ?_
    (case ha => simp (disch := first | omega | (simp; done) | fail) [wrap64c, if_pos, if_neg, opAnd, opOr, opXor, opDiff, opShr, opBit, hgs, hgf, hsb])
    obtain ⟨I, hI⟩ : ∃ I, I = itemsN (outerN (fam xs) n set) := ⟨_, rfl⟩
    have hIl : I.length ≤ 7 := by rw [hI]; exact items_len _
    rw [← hI] at hi2
    have hM2 := hi2.ints.lenD
    have hgt := toN_get I
    have hln := toN_length I
    have n2 := ha2.1.1
    have W2 : Wr (fun o => S o ∨ T o) h h2 := .of_adds ha2
    have hw2 := hw.keep D.low (fun o ho => ⟨(hT o ho).1.1, (hT o ho).2⟩) W2
    have P2 := D.stab _ T h h2 hP (by omega) ha2.1.1 fun o ho _ => ha2.1.2 o ho
    try simp (disch := first | omega | (simp; done) | fail) [wrap64c, if_pos, if_neg, opAnd, opOr, opXor, opDiff, opShr, opBit, hgs, hgf, hsb, hM2, hgt]
    refine WD_loopC [0, 3, 4, 6, 20, 21] (fun m tm h' => ∃ j u s1 T1, m = I.length - j ∧ tm 22 = .int .i64 (j : Int) ∧ (j ≤ I.length) ∧ (WSu base S A n (fam xs) b X (.func (.func fid) #[] dc) h' W u (!stop s1)) ∧ (P s1 T1 h') ∧ (∀ o, T1 o → (A.B ≤ o ∧ o < h'.next) ∧ objOf u ≠ some o) ∧ (∀ o, T1 o → T o ∨ h2.next ≤ o) ∧ (s1 = ((I.take j).flatMap fun i => wordsF (fam xs) n k (W ++ [i]) (nOr set (bit i))).foldl (stepU stop step) s) ∧ (Wr (fun o => S o ∨ T o ∨ o = A.ow ∨ o = A.og ∨ objOf v = some o) h2 h') ∧ (objOf u = objOf v ∨ ∃ p, objOf u = some p ∧ h2.next ≤ p)) _ ⟨0, v, s, T, rfl, (by simp (disch := first | omega | (simp; done) | fail) [wrap64c, if_pos, if_neg, opAnd, opOr, opXor, opDiff, opShr, opBit, hgs, hgf, hsb, hM2, hgt]), (by first | omega | assumption | (simp (disch := first | omega | (simp; done) | fail) [wrap64c, if_pos, if_neg, opAnd, opOr, opXor, opDiff, opShr, opBit, hgs, hgf, hsb, hM2, hgt] <;> omega)), (by rw [hst]; exact hw2), P2, (fun o ho => ⟨⟨(hT o ho).1.1, by have := (hT o ho).1.2; omega⟩, (hT o ho).2⟩), (fun o ho => .inl ho), rfl, (Wr.refl _ _), (.inl rfl)⟩ ?_
    rintro m tm h' hFr ⟨j, u, s1, T1, rfl, e22, hj, hww, hPP, hT1, hT2, hs1, hWr, ho⟩
    simp only [FrameL] at hFr
    obtain ⟨f0_0, f3_0, f4_0, f6_0, f20_0, f21_0, -⟩ := hFr
    try simp (disch := first | omega | (simp; done) | fail) [wrap64c, if_pos, if_neg, opAnd, opOr, opXor, opDiff, opShr, opBit, hgs, hgf, hsb, hM2, hgt] at f0_0 f3_0 f4_0 f6_0 f20_0 f21_0
    have e0 := f0_0
    have e3 := f3_0
    have e4 := f4_0
    have e6 := f6_0
    have e20 := f20_0
    have e21 := f21_0
    have hn3 := hWr.upd.1
    by_cases hlt : j < I.length
    · have hvI : Ints h' q (toN I) := (hi2.same (hWr.upd.same fun x hx hx' => by
        unfold Btw at hx
        rcases hx' with hx' | hx' | hx' | hx' | hx'
        · have := D.low x hx'; omega
        · have := (hT x hx').1.2; omega
        · omega
        · omega
        · have := (hw.ws.obj hx').2; omega)).ints
      obtain ⟨o_x, i_x, c_x, cs_x, own_x, ex_x, es_x, q_x, b_x, g_x, l_x, r_x⟩ := hvI.open ((by omega))
      have z_x : ∀ h2 : i_x < cs_x.length, cs_x[i_x] = _ := fun h2 => r_x 0 ((by omega)) h2
      obtain ⟨i, hi⟩ : ∃ i, i = I[j] := ⟨_, rfl⟩
      have hi' := hi.symm
      have hmi : i ∈ itemsN (outerN (fam xs) n set) := by rw [← hI, hi]; exact List.getElem_mem hlt
      obtain ⟨hin, hib, hix⟩ := g.learn hmi
      have hb7 := bit_lt7 (show i < 7 by omega)
      have hor := nOr128 (b := bit i) hs7 (by omega)
      cases hst1 : stop s1
      case true =>
        have hgg := hww.gg
        rw [hst1] at hgg
        have hgg := hgg
        have hall : (wordsF (fam xs) n (k + 1) W set).foldl (stepU stop step) s = s1 := by
          have hsp : I.flatMap (fun i => wordsF (fam xs) n k (W ++ [i]) (nOr set (bit i))) = (I.take j).flatMap (fun i => wordsF (fam xs) n k (W ++ [i]) (nOr set (bit i))) ++ (I.drop j).flatMap (fun i => wordsF (fam xs) n k (W ++ [i]) (nOr set (bit i))) := by
            rw [← List.flatMap_append, List.take_append_drop]
          rw [wordsF, ← hI, hsp, List.foldl_append, ← hs1, foldU_stop hst1]
        try simp (disch := first | omega | (simp; done) | fail) [wrap64c, if_pos, if_neg, opAnd, opOr, opXor, opDiff, opShr, opBit, hgs, hgf, hsb, hM2, hgt, e0, e3, e4, e6, e20, e21, e22, hlt, q_x, g_x, l_x, r_x, z_x, hi', hgg]
        rw [hall]
        refine done_ret (vs := []) rfl ⟨u, T1, hww, hPP, hT1, fun o ho => ?_, ?_, ?_⟩
        · rcases hT2 o ho with h1 | h1
          · exact .inl h1
          · exact .inr (by omega)
        · exact (W2.mono fun o _ hs => hs.elim .inl fun h => .inr (.inl h)).trans hWr
        · rcases ho with ho | ⟨p, ho, hp⟩
          · exact .inl ho
          · exact .inr ⟨p, ho, by omega⟩
      rw [hst1] at hww
      have hgg := hww.gg
      have hgw := hww.gw
      have hgn := hww.gn
      have hn4 := hww.ord
      have htk : (I.take (j + 1)).flatMap (fun i => wordsF (fam xs) n k (W ++ [i]) (nOr set (bit i))) = ((I.take j).flatMap fun i => wordsF (fam xs) n k (W ++ [i]) (nOr set (bit i))) ++ wordsF (fam xs) n k (W ++ [i]) (nOr set (bit i)) := by
        rw [List.take_succ_eq_append_getElem hlt, List.flatMap_append, ← hi]; simp
      obtain ⟨u3, h3, hap, hws3, W3, hn5, ho3⟩ := appW hww.ws i (by omega) (by omega)
      have nt3 := hws3.nt
      have cs3 := hws3.cs
      have g3w : h3.get A.ow = .cells [u] true true 1 := by rw [W3.upd.2 _ (by omega) (fun e => by have := (hww.ws.obj e).1; omega)]; exact hww.gw
      try simp (disch := first | omega | (simp; done) | fail) [wrap64c, if_pos, if_neg, opAnd, opOr, opXor, opDiff, opShr, opBit, hgs, hgf, hsb, hM2, hgt, e0, e3, e4, e6, e20, e21, e22, hlt, q_x, g_x, l_x, r_x, z_x, hi', hgg, hgw, hgn, nt3, cs3, hap, putCells, g3w]
      have hw4 := hww.put D.low W3 hws3 (h2 := h3.put A.ow (.cells [u3] true true 1)) rfl
      have W4 : Wr (fun o => S o ∨ T o ∨ o = A.ow ∨ o = A.og ∨ objOf u = some o) h' (h3.put A.ow (.cells [u3] true true 1)) := (W3.mono fun o _ e => .inr (.inr (.inr (.inr e)))).put (.inr (.inr (.inl rfl))) fun _ => rfl
      have P4 := D.stab _ T1 h' (h3.put A.ow (.cells [u3] true true 1)) hPP (by omega) (by simp; omega) fun o hlo ho => by
        have h1 : o ≠ A.ow ∧ objOf u ≠ some o := by
          rcases ho with ho | ho
          · exact ⟨by omega, fun e => by have := (hww.ws.obj e).1; omega⟩
          · exact ⟨by have := (hT1 o ho).1.1; omega, (hT1 o ho).2⟩
        simp [h1.1]
        exact W3.upd.2 _ hlo h1.2
      obtain ⟨h4, hh4⟩ : ∃ h4, h4 = h3.put A.ow (.cells [u3] true true 1) := ⟨_, rfl⟩
      rw [← hh4] at hw4 W4 P4
      have hn6 : h4.next = h3.next := by rw [hh4]; simp
      rw [← hh4]
      have hgn4 := hw4.gn
      refine WD_drawC 5 rfl (by kernel_rfl) ?_
      try simp (disch := first | omega | (simp; done) | fail) [wrap64c, if_pos, if_neg, opAnd, opOr, opXor, opDiff, opShr, opBit, hgs, hgf, hsb, hM2, hgt, e0, e3, e4, e6, e20, e21, e22, hlt, q_x, g_x, l_x, r_x, z_x, hi', hgg, hgw, hgn, nt3, cs3, hgn4]
      have hT4 : ∀ o, T1 o → (A.B ≤ o ∧ o < h4.next) ∧ objOf u3 ≠ some o := fun o ho => by
        refine ⟨⟨(hT1 o ho).1.1, by have := (hT1 o ho).1.2; omega⟩, fun e => ?_⟩
        rcases ho3 with ho3 | ⟨p, ho3, hp⟩
        · exact (hT1 o ho).2 (ho3 ▸ e)
        · rw [ho3] at e; cases e; have := (hT1 o ho).1.2; omega
      obtain ⟨_, h5, hc5, u5, T5, hw5, P5, hT5, hT6, W5, ho5⟩ := ih h4 (W ++ [i]) (nOr set (bit i)) u3 s1 T1 hw4 hst1 P4 hT4 hix (by rw [pcN_or hs7 (by omega) hib]; omega) (by simp; omega) (fun w hm => hgood w (by
        rw [wordsF, List.mem_flatMap]; exact ⟨i, hmi, hm⟩))
      refine callG_f (fst := #[]) (cap := #[.pointer (some ⟨A.os, 0, none⟩), .pointer (some ⟨A.od, 0, none⟩), .pointer (some ⟨A.ow, 0, none⟩), .pointer (some ⟨A.og, 0, none⟩), .pointer (some ⟨A.oF, 0, none⟩), .pointer (some ⟨A.on, 0, none⟩)]) (by simp) (by simp) ?hf ?hk ?ha (hc5) ?_
      (case hf => simp (disch := first | omega | (simp; done) | fail) [wrap64c, if_pos, if_neg, opAnd, opOr, opXor, opDiff, opShr, opBit, hgs, hgf, hsb, hM2, hgt, e0, e3, e4, e6, e20, e21, e22, hlt, q_x, g_x, l_x, r_x, z_x, hi', hgg, hgw, hgn, nt3, cs3, hgn4]; try rfl)
      (case hk => simp (disch := first | omega | (simp; done) | fail) [wrap64c, if_pos, if_neg, opAnd, opOr, opXor, opDiff, opShr, opBit, hgs, hgf, hsb, hM2, hgt, e0, e3, e4, e6, e20, e21, e22, hlt, q_x, g_x, l_x, r_x, z_x, hi', hgg, hgw, hgn, nt3, cs3, hgn4])
      (case ha => simp (disch := first | omega | (simp; done) | fail) [wrap64c, if_pos, if_neg, opAnd, opOr, opXor, opDiff, opShr, opBit, hgs, hgf, hsb, hM2, hgt, e0, e3, e4, e6, e20, e21, e22, hlt, q_x, g_x, l_x, r_x, z_x, hi', hgg, hgw, hgn, nt3, cs3, hgn4])
      have hgw5 := hw5.gw
      rcases hw5.ws with ⟨_, e⟩ | ⟨p5, c5, x5, e5, q1, q2, q3, q4, q5⟩
      · simp at e
      · have hl5 : (W ++ [i]).length = W.length + 1 := by simp
        rw [hl5] at e5 q4 q5
        subst e5
        have n8 := W5.upd.1
        have hw7 : WS A.B h5 (.slice (some ⟨p5, 0, none⟩) W.length c5.length) W := .inr ⟨p5, c5, x5, rfl, q1, q2, q3, by omega, by
          have := congrArg (List.take W.length) q5
          rw [List.take_take, show min W.length (W.length + 1) = W.length by omega, toN_snoc, List.map_append, List.take_left' (by simp [toN])] at this
          exact this⟩
        have hw8 := hw5.put D.low (Wr.refl _ _) hw7 (h2 := h5.put A.ow (.cells [.slice (some ⟨p5, 0, none⟩) W.length c5.length] true true 1)) rfl
        have hle5 := q4.1
        have n9 := hw5.ord
        try simp (disch := first | omega | (simp; done) | fail) [wrap64c, if_pos, if_neg, opAnd, opOr, opXor, opDiff, opShr, opBit, hgs, hgf, hsb, hM2, hgt, e0, e3, e4, e6, e20, e21, e22, hlt, q_x, g_x, l_x, r_x, z_x, hi', hgg, hgw, hgn, nt3, cs3, hgn4, hgw5, putCells]
        refine loopK_next _ ?hm ?hf ⟨j + 1, .slice (some ⟨p5, 0, none⟩) W.length c5.length, (wordsF (fam xs) n k (W ++ [i]) (nOr set (bit i))).foldl (stepU stop step) s1, T5, rfl, (by simp (disch := first | omega | (simp; done) | fail) [wrap64c, if_pos, if_neg, opAnd, opOr, opXor, opDiff, opShr, opBit, hgs, hgf, hsb, hM2, hgt, e0, e3, e4, e6, e20, e21, e22, hlt, q_x, g_x, l_x, r_x, z_x, hi', hgg, hgw, hgn, nt3, cs3, hgn4, hgw5] <;> omega), (by first | omega | assumption | (simp (disch := first | omega | (simp; done) | fail) [wrap64c, if_pos, if_neg, opAnd, opOr, opXor, opDiff, opShr, opBit, hgs, hgf, hsb, hM2, hgt, e0, e3, e4, e6, e20, e21, e22, hlt, q_x, g_x, l_x, r_x, z_x, hi', hgg, hgw, hgn, nt3, cs3, hgn4, hgw5] <;> omega)), hw8, ?c_hPP, (fun o ho => ⟨⟨(hT5 o ho).1.1, by simp; exact (hT5 o ho).1.2⟩, (hT5 o ho).2⟩), ?c_hT2, (by rw [htk, List.foldl_append, hs1]), ?c_hWr, ?c_ho⟩
        (case hm => first | omega | (simp; omega))
        (case hf => simp [FrameL, hgs, hgf, hsb, hM2, hgt, e0, e3, e4, e6, e20, e21, e22, hlt, q_x, g_x, l_x, r_x, z_x, hi', hgg, hgw, hgn, nt3, cs3, hgn4, hgw5, f0_0, f3_0, f4_0, f6_0, f20_0, f21_0])
        case c_hPP =>
          exact (D.stab _ T5 h5 _ P5 (by omega) (by simp) fun o _ ho => by
            have : o ≠ A.ow := by
              rcases ho with ho | ho
              · omega
              · have := (hT5 o ho).1.1; omega
            simp [this])
        case c_hT2 =>
          exact (fun o ho => by
            rcases hT6 o ho with h1 | h1
            · exact hT2 o h1
            · exact .inr (by omega))
        case c_hWr =>
          exact (by
            refine ((wr_trans2 (wr_trans2 hWr W4 ?_) W5 ?_)).put (.inr (.inr (.inl rfl))) fun _ => rfl
            · rintro o ho1 (e | e | e | e | e)
              · exact .inl e
              · exact .inr (.inl e)
              · exact .inr (.inr (.inl e))
              · exact .inr (.inr (.inr (.inl e)))
              · rcases ho with ho | ⟨p, ho, hp⟩
                · exact .inr (.inr (.inr (.inr (ho ▸ e))))
                · rw [ho] at e; cases e; omega
            · rintro o ho1 (e | e | e | e | e)
              · exact .inl e
              · rcases hT2 o e with h1 | h1
                · exact .inr (.inl h1)
                · omega
              · exact .inr (.inr (.inl e))
              · exact .inr (.inr (.inr (.inl e)))
              · rcases ho3 with ho3 | ⟨p, ho3, hp⟩
                · rw [ho3] at e
                  rcases ho with ho | ⟨p, ho, hp⟩
                  · exact .inr (.inr (.inr (.inr (ho ▸ e))))
                  · rw [ho] at e; cases e; omega
                · rw [ho3] at e; cases e; omega)
        case c_ho =>
          exact (by
            show some p5 = _ ∨ ∃ p, some p5 = some p ∧ _
            rcases ho5 with ho5 | ⟨p, ho5, hp⟩
            · rw [objOf_mk] at ho5
              rw [ho5]
              rcases ho3 with ho3 | ⟨p, ho3, hp⟩
              · rw [ho3]; exact ho
              · exact .inr ⟨p, ho3, by omega⟩
            · rw [objOf_mk] at ho5
              exact .inr ⟨p, ho5, by omega⟩)
    · have hje : I.take j = I := List.take_of_length_le (by omega)
      rw [hje] at hs1
      have hall : (wordsF (fam xs) n (k + 1) W set).foldl (stepU stop step) s = s1 := by rw [wordsF, ← hI, hs1]
      rw [hall]
      try simp (disch := first | omega | (simp; done) | fail) [wrap64c, if_pos, if_neg, opAnd, opOr, opXor, opDiff, opShr, opBit, hgs, hgf, hsb, hM2, hgt, e0, e3, e4, e6, e20, e21, e22, hlt]
      refine done_end rfl ⟨u, T1, hww, ?_, hT1, fun o ho => ?_, ?_, ?_⟩
      · exact hPP
      · rcases hT2 o ho with h1 | h1
        · exact .inl h1
        · exact .inr (by omega)
      · exact (W2.mono fun o _ hs => hs.elim .inl fun h => .inr (.inl h)).trans hWr
      · rcases ho with ho | ⟨p, ho, hp⟩
        · exact .inl ho
        · exact .inr ⟨p, ho, by omega⟩
theorem wordsU_ok {σ : Type} (P : σ → (Nat → Prop) → Hp → Prop) (stop : σ → Bool) (step : σ → List Nat → σ) (Good : List Nat → Prop) (base : Nat) (S : Nat → Prop) (fid : Nat) (dc : Array Value) (D : DoerU P stop step Good base S fid dc) (n : Nat) (xs : List Nat) (g : SpGood n xs) (h : Hp) (b : Value) (s : σ)
    (hb : IntsF (fun x => x < base ∧ ¬ S x) h b (toN xs)) (hst : stop s = false) (hP : P s (fun _ => False) h) (hbase : base ≤ h.next) (hgood : ∀ w ∈ wordsF (fam xs) n n [] 0, Good w) :
    ∃ u h', CallOK Tryz.prog 132 #[.agg #[.int .i64 (n : Int), b], .slice none 0 0, .func (.func fid) #[] dc] h u h' ∧ Wr S h h' ∧ ∃ T, P ((wordsF (fam xs) n n [] 0).foldl (stepU stop step) s) T h' ∧ ∀ o, T o → h.next ≤ o ∧ o < h'.next := by
  refine callY_L (args := [.agg #[.int .i64 (n : Int), b], .slice none 0 0, .func (.func fid) #[] dc]) 26 _ [] Tryz.func132 rfl rfl rfl ?_
  have hl7 := g.len7
  try simp (disch := first | omega | (simp; done) | fail) [wrap64c, if_pos, if_neg, opAnd, opOr, opXor, opDiff, opShr, opBit]
  first | refine WY_heap fun h0 q_h0 => ?_ | refine callG_heap fun h0 q_h0 => ?_ | refine callP_heap fun h0 q_h0 => ?_ | refine callS_heap fun h0 q_h0 => ?_ | refine RY_heap fun h0 q_h0 => ?_ | refine PY_heap fun h0 q_h0 => ?_ | refine SY_heap fun h0 q_h0 => ?_ | refine doneY_heap fun h0 q_h0 => ?_ | refine loopK_heap fun h0 q_h0 => ?_ | refine thenY_heap fun h0 q_h0 => ?_ | refine thenM_heap fun h0 q_h0 => ?_
  have k0 : Adds h h0 := by rw [q_h0]; exact (by first | exact aK | exact kK)
  have n0 : h0.next = h.next + 2 := by simp [q_h0]
  have g1 : h0.get h.next = .cells [.int .i64 (n : Int), b] true true 1 := by simp [q_h0]
  have g2 : h0.get (h.next + 1) = .cells [.func (.func fid) #[] dc] true true 1 := by simp [q_h0]
  obtain ⟨_, h1, hc1, fo, rfl, ha1, hfo1, hfo2, hgf⟩ := family_ok h0 (.agg #[.int .i64 (n : Int), b]) n xs (.mk (hb.ints.keep k0.1)) g.lt7 (by omega)
  try simp (disch := first | omega | (simp; done) | fail) [wrap64c, if_pos, if_neg, opAnd, opOr, opXor, opDiff, opShr, opBit]
  refine callG_c (by simp) (by simp) ?ha (hc1) ?_
  (case ha => simp (disch := first | omega | (simp; done) | fail) [wrap64c, if_pos, if_neg, opAnd, opOr, opXor, opDiff, opShr, opBit])
  try simp (disch := first | omega | (simp; done) | fail) [wrap64c, if_pos, if_neg, opAnd, opOr, opXor, opDiff, opShr, opBit]
  refine callG_c (by simp) (by simp) ?ha (cloneNil_ok h1) ?_
  (case ha => simp (disch := first | omega | (simp; done) | fail) [wrap64c, if_pos, if_neg, opAnd, opOr, opXor, opDiff, opShr, opBit])
  have n1 := ha1.1.1
  have g11 : h1.get h.next = .cells [.int .i64 (n : Int), b] true true 1 := by rw [ha1.1.2 _ (by omega)]; exact g1
  have g21 : h1.get (h.next + 1) = .cells [.func (.func fid) #[] dc] true true 1 := by rw [ha1.1.2 _ (by omega)]; exact g2
  try simp (disch := first | omega | (simp; done) | fail) [wrap64c, if_pos, if_neg, opAnd, opOr, opXor, opDiff, opShr, opBit, putCells]
  first | refine WY_heap fun h2 q_h2 => ?_ | refine callG_heap fun h2 q_h2 => ?_ | refine callP_heap fun h2 q_h2 => ?_ | refine callS_heap fun h2 q_h2 => ?_ | refine RY_heap fun h2 q_h2 => ?_ | refine PY_heap fun h2 q_h2 => ?_ | refine SY_heap fun h2 q_h2 => ?_ | refine doneY_heap fun h2 q_h2 => ?_ | refine loopK_heap fun h2 q_h2 => ?_ | refine thenY_heap fun h2 q_h2 => ?_ | refine thenM_heap fun h2 q_h2 => ?_
  have k2 : Adds h1 h2 := by rw [q_h2]; exact (by first | exact aK | exact kK)
  have n2 : h2.next = h1.next + 4 := by simp [q_h2]
  have hn0 := (k0.trans ha1).1.1
  have A2 := (k0.trans ha1).trans k2
  have hw : WSu base S ⟨h.next, h.next + 1, fo, h1.next, h1.next + 1, h1.next + 2, h1.next + 3, h1.next + 4⟩ n (fam xs) b (toN xs) (.func (.func fid) #[] dc) h2 [] (.slice none 0 0) true := by
    constructor
    · dsimp only; omega
    · dsimp only; rw [k2.1.2 _ (by omega)]; exact g11
    · exact hb.keep A2.1
    · dsimp only; rw [k2.1.2 _ (by omega)]; exact g21
    · dsimp only; rw [k2.1.2 _ (by omega)]; exact hgf
    · simp [q_h2, show ¬ h1.next = h1.next + 1 + 2 by omega]
    · simp [q_h2]
    · simp [q_h2]
    · simp [q_h2]
    · exact WS.nil _ _
  have g22 : h2.get h.next = .cells [.int .i64 (n : Int), b] true true 1 := hw.gs
  have gn := hw.gn
  try simp (disch := first | omega | (simp; done) | fail) [wrap64c, if_pos, if_neg, opAnd, opOr, opXor, opDiff, opShr, opBit, g22, gn, g11]
  refine callG_c (by simp) (by simp) ?ha (setOfNil_ok h2 (.agg #[.int .i64 (n : Int), b]) n xs (.mk (hb.ints.keep A2.1)) g.lt7 (by omega)) ?_
  (case ha => simp (disch := first | omega | (simp; done) | fail) [wrap64c, if_pos, if_neg, opAnd, opOr, opXor, opDiff, opShr, opBit, g22, gn])
  try simp (disch := first | omega | (simp; done) | fail) [wrap64c, if_pos, if_neg, opAnd, opOr, opXor, opDiff, opShr, opBit, g22, gn]
  have P2 := D.stab s _ h h2 hP hbase A2.1.1 fun o ho _ => A2.1.2 o ho
  have hpc : pcN 0 = 0 := rfl
  obtain ⟨u, h3, hc3, v3, T3, hw3, P3, hT3, hT4, W3, _⟩ := nextU_ok P stop step Good base S fid dc D ⟨h.next, h.next + 1, fo, h1.next, h1.next + 1, h1.next + 2, h1.next + 3, h1.next + 4⟩ n xs g b (toN xs) n h2 [] 0 (.slice none 0 0) s (fun _ => False) hw hst P2 (fun _ hf => hf.elim) g.zero (by omega) (by simp) hgood
  refine callG_f (fst := #[]) (cap := #[.pointer (some ⟨h.next, 0, none⟩), .pointer (some ⟨h.next + 1, 0, none⟩), .pointer (some ⟨h1.next + 1, 0, none⟩), .pointer (some ⟨h1.next + 2, 0, none⟩), .pointer (some ⟨h1.next, 0, none⟩), .pointer (some ⟨h1.next + 3, 0, none⟩)]) (by simp) (by simp) ?hf ?hk ?ha (hc3) ?_
  (case hf => simp (disch := first | omega | (simp; done) | fail) [wrap64c, if_pos, if_neg, opAnd, opOr, opXor, opDiff, opShr, opBit, g22, gn]; try rfl)
  (case hk => simp (disch := first | omega | (simp; done) | fail) [wrap64c, if_pos, if_neg, opAnd, opOr, opXor, opDiff, opShr, opBit, g22, gn])
  (case ha => simp (disch := first | omega | (simp; done) | fail) [wrap64c, if_pos, if_neg, opAnd, opOr, opXor, opDiff, opShr, opBit, g22, gn])
  try simp (disch := first | omega | (simp; done) | fail) [wrap64c, if_pos, if_neg, opAnd, opOr, opXor, opDiff, opShr, opBit, g22, gn]
  refine done_end rfl ⟨wr_trans2 (.of_adds A2) W3 ?_, T3, P3, fun o ho => ⟨?_, (hT3 o ho).1.2⟩⟩
  · rintro o ho (e | e | e | e | e)
    · exact e
    · exact e.elim
    · dsimp only at e; omega
    · dsimp only at e; omega
    · cases e
  · rcases hT4 o ho with h1 | h1
    · exact h1.elim
    · omega
end Go.Proofs.YtnncipcldbopgaaGreat
namespace Go.Proofs.YtnncipcldbopgaaGreat
set_option linter.unusedSimpArgs false
set_option linter.unusedVariables false
set_option maxHeartbeats 4000000
open Go Go.Eng
attribute [local irreducible] WD RunD PreD Runs CallOK
theorem slEq_ok (h : Hp) (v w : Value) (X Y : List Int) (hv : Ints h v X) (hw : Ints h w Y) : CallOK Tryz.prog 112 #[v, w] h (.bool (decide (X = Y))) h := by
  refine callY_P 26 _ [.tmp 4] Tryz.func112 rfl rfl rfl (by first | rfl | simp) ?_
  have hL := hv.lenD
  have hM := hw.lenD
  have hlx := hv.len
  have hly := hw.len
  by_cases hl : X.length = Y.length
  · have hlb : ((X.length : Int) != (Y.length : Int)) = false := by simp [hl]
    try simp (disch := first | omega | (simp; done) | fail) [wrap64c, if_pos, if_neg, hL, hM, hlb]
    refine WD_loopC [0, 1, 12] (fun m tm h' => ∃ j, m = X.length - j ∧ h = h' ∧ tm 13 = .int .i64 (j : Int) ∧ (j ≤ X.length) ∧ (∀ i (h1 : i < X.length) (h2 : i < Y.length), i < j → X[i] = Y[i])) _ ⟨0, rfl, rfl, (by simp (disch := first | omega | (simp; done) | fail) [wrap64c, if_pos, if_neg, hL, hM, hlb]), (by first | omega | assumption | (simp (disch := first | omega | (simp; done) | fail) [wrap64c, if_pos, if_neg, hL, hM, hlb] <;> omega)), (by intro i h1 h2 h3; omega)⟩ ?_
    rintro m tm h' hFr ⟨j, rfl, rfl, e13, hj, hx⟩
    simp only [FrameL] at hFr
    obtain ⟨f0_0, f1_0, f12_0, -⟩ := hFr
    try simp (disch := first | omega | (simp; done) | fail) [wrap64c, if_pos, if_neg, hL, hM, hlb] at f0_0 f1_0 f12_0
    have e0 := f0_0
    have e1 := f1_0
    have e12 := f12_0
    by_cases hlt : j < X.length
    · have hlt2 : j < Y.length := by omega
      obtain ⟨o_x, i_x, c_x, cs_x, own_x, ex_x, es_x, q_x, b_x, g_x, l_x, r_x⟩ := hv.open ((by omega))
      have z_x : ∀ h2 : i_x < cs_x.length, cs_x[i_x] = _ := fun h2 => r_x 0 ((by omega)) h2
      obtain ⟨o_y, i_y, c_y, cs_y, own_y, ex_y, es_y, q_y, b_y, g_y, l_y, r_y⟩ := hw.open ((by omega))
      have z_y : ∀ h2 : i_y < cs_y.length, cs_y[i_y] = _ := fun h2 => r_y 0 ((by omega)) h2
      try simp (disch := first | omega | (simp; done) | fail) [wrap64c, if_pos, if_neg, hL, hM, hlb, e0, e1, e12, e13, hlt, hlt2, q_x, g_x, l_x, r_x, z_x, q_y, g_y, l_y, r_y, z_y]
      refine WD_drawC 8 rfl (by kernel_rfl) ?_
      by_cases he : X[j] = Y[j]
      · have hb : (X[j] != Y[j]) = false := by simp [he]
        try simp (disch := first | omega | (simp; done) | fail) [wrap64c, if_pos, if_neg, hL, hM, hlb, e0, e1, e12, e13, hlt, hlt2, q_x, g_x, l_x, r_x, z_x, q_y, g_y, l_y, r_y, z_y, hb]
        refine loopK_next _ ?hm ?hf ⟨j + 1, rfl, rfl, (by simp (disch := first | omega | (simp; done) | fail) [wrap64c, if_pos, if_neg, hL, hM, hlb, e0, e1, e12, e13, hlt, hlt2, q_x, g_x, l_x, r_x, z_x, q_y, g_y, l_y, r_y, z_y] <;> omega), (by first | omega | assumption | (simp (disch := first | omega | (simp; done) | fail) [wrap64c, if_pos, if_neg, hL, hM, hlb, e0, e1, e12, e13, hlt, hlt2, q_x, g_x, l_x, r_x, z_x, q_y, g_y, l_y, r_y, z_y] <;> omega)), ?c_hx⟩
        (case hm => first | omega | (simp; omega))
        (case hf => simp [FrameL, hL, hM, hlb, e0, e1, e12, e13, hlt, hlt2, q_x, g_x, l_x, r_x, z_x, q_y, g_y, l_y, r_y, z_y, f0_0, f1_0, f12_0])
        case c_hx =>
          exact (fun i h1 h2 hi => by
            by_cases e : i = j
            · subst e; exact he
            · exact hx i h1 h2 (by omega))
      · have hb : (X[j] != Y[j]) = true := by simp [he]
        have hne : ¬ X = Y := fun e => he (by subst e; rfl)
        try simp (disch := first | omega | (simp; done) | fail) [wrap64c, if_pos, if_neg, hL, hM, hlb, e0, e1, e12, e13, hlt, hlt2, q_x, g_x, l_x, r_x, z_x, q_y, g_y, l_y, r_y, z_y, hb]
        exact done_ret rfl (by simp [hne])
    · try simp (disch := first | omega | (simp; done) | fail) [wrap64c, if_pos, if_neg, hL, hM, hlb, e0, e1, e12, e13, hlt]
      have e : X = Y := List.ext_getElem hl fun i h1 h2 => hx i h1 h2 (by omega)
      exact done_ret rfl (by simp [e])
  · have hlb : ((X.length : Int) != (Y.length : Int)) = true := by simp; omega
    have hne : ¬ X = Y := fun e => hl (by rw [e])
    try simp (disch := first | omega | (simp; done) | fail) [wrap64c, if_pos, if_neg, hL, hM, hlb]
    exact done_ret rfl (by simp [hne])
end Go.Proofs.YtnncipcldbopgaaGreat
namespace Go.Proofs.YtnncipcldbopgaaGreat
set_option linter.unusedSimpArgs false
set_option linter.unusedVariables false
set_option maxHeartbeats 4000000
open Go Go.Eng
attribute [local irreducible] WD RunD PreD Runs CallOK
def stepW (M : Nat → Bool) (n s : Nat) (i : Int) : Option Nat := if 0 ≤ i ∧ i < (n : Int) ∧ s.testBit i.toNat = false ∧ M (nOr s (bit i.toNat)) = true then some (nOr s (bit i.toNat)) else none
def setF (M : Nat → Bool) (n : Nat) : List Int → Nat → Option Nat
  | [], s => some s
  | i :: l, s => match stepW M n s i with
    | some t => setF M n l t
    | none => none
theorem setF_snoc (M : Nat → Bool) (n : Nat) (i : Int) : ∀ (l : List Int) (s : Nat), setF M n (l ++ [i]) s = (setF M n l s).bind fun t => stepW M n t i
  | [], s => by
    simp only [List.nil_append, setF, Option.bind_some]
    cases stepW M n s i <;> rfl
  | a :: l, s => by
    simp only [List.cons_append, setF]
    cases stepW M n s a with
    | none => rfl
    | some t => exact setF_snoc M n i l t
theorem setF_none (M : Nat → Bool) (n : Nat) {W : List Int} {j : Nat} (hj : j ≤ W.length) (h : setF M n (W.take j) 0 = none) : setF M n W 0 = none := by
  have : ∀ (l m : List Int) (s : Nat), setF M n l s = none → setF M n (l ++ m) s = none := by
    intro l
    induction l with
    | nil => intro m s h; simp [setF] at h
    | cons a l ih =>
      intro m s h
      simp only [List.cons_append, setF] at h ⊢
      cases hs : stepW M n s a with
      | none => rfl
      | some t => rw [hs] at h; exact ih m t h
  have e := this (W.take j) (W.drop j) 0 h
  rwa [List.take_append_drop] at e
theorem stepW_lt {M : Nat → Bool} {n s t : Nat} {i : Int} (hs : s < bit n) (h : stepW M n s i = some t) : t < bit n := by
  unfold stepW at h
  split at h
  · rename_i hc
    cases h
    exact nOr_lt hs (bit_lt_bit (by omega))
  · cases h
theorem setF_lt {M : Nat → Bool} {n : Nat} : ∀ {l : List Int} {s t : Nat}, s < bit n → setF M n l s = some t → t < bit n
  | [], s, t, hs, h => by cases h; exact hs
  | i :: l, s, t, hs, h => by
    simp only [setF] at h
    cases hst : stepW M n s i with
    | none => rw [hst] at h; cases h
    | some r => rw [hst] at h; exact setF_lt (stepW_lt hs hst) h
theorem setOf_ok (h : Hp) (v w : Value) (n : Nat) (xs : List Nat) (W : List Int) (hv : Space h v n (toN xs)) (hw : Ints h w W) (g : SpGood n xs) :
    CallOK Tryz.prog 177 #[v, w] h (.tuple #[.int .i64 (((setF (fam xs) n W 0).getD 0 : Nat) : Int), .bool (setF (fam xs) n W 0).isSome]) h := by
  refine callY_P 48 _ [.tmp 4, .tmp 5] Tryz.func177 rfl rfl rfl (by first | rfl | simp) ?_
  obtain ⟨b, rfl, hX⟩ := hv
  have ntw := hw.nt
  have csw := hw.cs
  refine WD_first ?_
  try simp (disch := first | omega | (simp; done) | fail) [wrap64c, if_pos, if_neg, opAnd, opOr, opXor, opDiff, opShr, opBit, ntw, csw]
  refine stopK_heap fun h0 q_h0 => ?_
  refine stopK_go ?_
  have g_h0 : h0.get h.next = .cells [.int .i64 n, b] true true 1 := by simp [q_h0]
  have k_h0 : Adds h h0 := by rw [q_h0]; exact (by first | exact aK | exact kK)
  have n_h0 : h.next < h0.next := by simp [q_h0]; try omega
  have hX0 := hX.keep k_h0.1
  have hw0 := hw.keep k_h0.1
  have hl7 := g.len7
  have n7 := g.n7
  have hb := bit7 n7
  obtain ⟨_, h1, p1, fo, rfl, a1, b1, b2, q1⟩ := family_ok h0 (.agg #[.int .i64 n, b]) n xs (.mk hX0) g.lt7 (by omega)
  have K1 := k_h0.1.trans a1.1
  have hw1 := hw0.keep a1.1
  have hL := hw1.lenD
  have hwl := hw1.len
  have gb : h1.get h.next = .cells [.int .i64 n, b] true true 1 := by rw [a1.1.2 _ (by omega)]; exact g_h0
  have q1' := q1
  have hf := famC_getD (fam xs)
  have hf2 := famC_at (fam xs)
  try simp (disch := first | omega | (simp; done) | fail) [wrap64c, if_pos, if_neg, opAnd, opOr, opXor, opDiff, opShr, opBit, ntw, csw, g_h0, hL, gb, q1', hf, hf2]
  refine callG_c (by simp) (by simp) ?ha (p1) ?_
  (case ha => simp (disch := first | omega | (simp; done) | fail) [wrap64c, if_pos, if_neg, opAnd, opOr, opXor, opDiff, opShr, opBit, ntw, csw, g_h0, hL, gb, q1', hf, hf2])
  try simp (disch := first | omega | (simp; done) | fail) [wrap64c, if_pos, if_neg, opAnd, opOr, opXor, opDiff, opShr, opBit, ntw, csw, g_h0, hL, gb, q1', hf, hf2]
  refine WD_loopC [2, 6, 12, 13] (fun m tm h' => ∃ j s, m = W.length - j + 0 * s ∧ h1 = h' ∧ tm 7 = .int .i64 (s : Int) ∧ tm 14 = .int .i64 (j : Int) ∧ (j ≤ W.length) ∧ (setF (fam xs) n (W.take j) 0 = some s)) _ ⟨0, 0, rfl, rfl, (by simp (disch := first | omega | (simp; done) | fail) [wrap64c, if_pos, if_neg, opAnd, opOr, opXor, opDiff, opShr, opBit, ntw, csw, g_h0, hL, gb, q1', hf, hf2]), (by simp (disch := first | omega | (simp; done) | fail) [wrap64c, if_pos, if_neg, opAnd, opOr, opXor, opDiff, opShr, opBit, ntw, csw, g_h0, hL, gb, q1', hf, hf2]), (by first | omega | assumption | (simp (disch := first | omega | (simp; done) | fail) [wrap64c, if_pos, if_neg, opAnd, opOr, opXor, opDiff, opShr, opBit, ntw, csw, g_h0, hL, gb, q1', hf, hf2] <;> omega)), (by simp [setF])⟩ ?_
  rintro m tm h' hFr ⟨j, s, rfl, rfl, e7, e14, hj, hs⟩
  simp only [FrameL] at hFr
  obtain ⟨f2_0, f6_0, f12_0, f13_0, -⟩ := hFr
  try simp (disch := first | omega | (simp; done) | fail) [wrap64c, if_pos, if_neg, opAnd, opOr, opXor, opDiff, opShr, opBit, ntw, csw, g_h0, hL, gb, q1', hf, hf2] at f2_0 f6_0 f12_0 f13_0
  have e2 := f2_0
  have e6 := f6_0
  have e12 := f12_0
  have e13 := f13_0
  have hs7 : s < bit n := setF_lt (by omega) hs
  by_cases hlt : j < W.length
  · have hsn := setF_snoc (fam xs) n W[j] (W.take j) 0
    rw [← List.take_succ_eq_append_getElem hlt, hs, Option.bind_some] at hsn
    obtain ⟨i, hi⟩ : ∃ i, i = W[j] := ⟨_, rfl⟩
    have hi' := hi.symm
    rw [← hi] at hsn
    obtain ⟨o_x, i_x, c_x, cs_x, own_x, ex_x, es_x, q_x, b_x, g_x, l_x, r_x⟩ := hw1.open ((by omega))
    have z_x : ∀ h2 : i_x < cs_x.length, cs_x[i_x] = _ := fun h2 => r_x 0 ((by omega)) h2
    have hwn := within_ok h1 i 0 ((n : Int) - 1)
    by_cases k1 : 0 ≤ i ∧ i ≤ (n : Int) - 1
    · rw [decide_eq_true k1] at hwn
      obtain ⟨a, ha⟩ : ∃ a : Nat, i = (a : Int) := ⟨i.toNat, by omega⟩
      have ha' := ha
      have han : a < n := by omega
      have hba := bit7 (i := a) (by omega)
      have hta : i.toNat = a := by omega
      have ho : nOr s (bit a) < bit n := nOr_lt hs7 (bit_lt_bit han)
      have h01 := nShr_and01 s a
      have hsl := nShr_le s a
      unfold stepW at hsn
      rw [hta] at hsn
      cases k2 : s.testBit a
      · rw [k2] at h01 hsn
        have h01 := h01
        cases k3 : fam xs (nOr s (bit a))
        · rw [k3] at hsn
          have hno := setF_none (fam xs) n (by omega) (hsn.trans (by simp))
          have k3 := k3
          try simp (disch := first | omega | (simp; done) | fail) [wrap64c, if_pos, if_neg, opAnd, opOr, opXor, opDiff, opShr, opBit, ntw, csw, g_h0, hL, gb, q1', hf, hf2, e2, e6, e7, e12, e13, e14, hlt, hi', q_x, g_x, l_x, r_x, z_x, ha', h01, k3]
          refine WD_chainC rfl (by kernel_rfl) (by kernel_rfl) ?_
          try simp (disch := first | omega | (simp; done) | fail) [wrap64c, if_pos, if_neg, opAnd, opOr, opXor, opDiff, opShr, opBit, ntw, csw, g_h0, hL, gb, q1', hf, hf2, e2, e6, e7, e12, e13, e14, hlt, hi', q_x, g_x, l_x, r_x, z_x, ha', h01, k3]
          refine callG_c (by simp) (by simp) ?ha (hwn) ?_
          (case ha => simp (disch := first | omega | (simp; done) | fail) [wrap64c, if_pos, if_neg, opAnd, opOr, opXor, opDiff, opShr, opBit, ntw, csw, g_h0, hL, gb, q1', hf, hf2, e2, e6, e7, e12, e13, e14, hlt, hi', q_x, g_x, l_x, r_x, z_x, ha', h01, k3])
          try simp (disch := first | omega | (simp; done) | fail) [wrap64c, if_pos, if_neg, opAnd, opOr, opXor, opDiff, opShr, opBit, ntw, csw, g_h0, hL, gb, q1', hf, hf2, e2, e6, e7, e12, e13, e14, hlt, hi', q_x, g_x, l_x, r_x, z_x, ha', h01, k3]
          exact done_ret rfl (by simp [hno, K1])
        · rw [k3] at hsn
          have k3 := k3
          try simp (disch := first | omega | (simp; done) | fail) [wrap64c, if_pos, if_neg, opAnd, opOr, opXor, opDiff, opShr, opBit, ntw, csw, g_h0, hL, gb, q1', hf, hf2, e2, e6, e7, e12, e13, e14, hlt, hi', q_x, g_x, l_x, r_x, z_x, ha', h01, k3]
          refine WD_chainC rfl (by kernel_rfl) (by kernel_rfl) ?_
          try simp (disch := first | omega | (simp; done) | fail) [wrap64c, if_pos, if_neg, opAnd, opOr, opXor, opDiff, opShr, opBit, ntw, csw, g_h0, hL, gb, q1', hf, hf2, e2, e6, e7, e12, e13, e14, hlt, hi', q_x, g_x, l_x, r_x, z_x, ha', h01, k3]
          refine callG_c (by simp) (by simp) ?ha (hwn) ?_
          (case ha => simp (disch := first | omega | (simp; done) | fail) [wrap64c, if_pos, if_neg, opAnd, opOr, opXor, opDiff, opShr, opBit, ntw, csw, g_h0, hL, gb, q1', hf, hf2, e2, e6, e7, e12, e13, e14, hlt, hi', q_x, g_x, l_x, r_x, z_x, ha', h01, k3])
          try simp (disch := first | omega | (simp; done) | fail) [wrap64c, if_pos, if_neg, opAnd, opOr, opXor, opDiff, opShr, opBit, ntw, csw, g_h0, hL, gb, q1', hf, hf2, e2, e6, e7, e12, e13, e14, hlt, hi', q_x, g_x, l_x, r_x, z_x, ha', h01, k3]
          refine loopK_next _ ?hm ?hf ⟨j + 1, nOr s (bit a), rfl, rfl, (by simp (disch := first | omega | (simp; done) | fail) [wrap64c, if_pos, if_neg, opAnd, opOr, opXor, opDiff, opShr, opBit, ntw, csw, g_h0, hL, gb, q1', hf, hf2, e2, e6, e7, e12, e13, e14, hlt, hi', q_x, g_x, l_x, r_x, z_x, ha', h01, k3] <;> omega), (by simp (disch := first | omega | (simp; done) | fail) [wrap64c, if_pos, if_neg, opAnd, opOr, opXor, opDiff, opShr, opBit, ntw, csw, g_h0, hL, gb, q1', hf, hf2, e2, e6, e7, e12, e13, e14, hlt, hi', q_x, g_x, l_x, r_x, z_x, ha', h01, k3] <;> omega), (by first | omega | assumption | (simp (disch := first | omega | (simp; done) | fail) [wrap64c, if_pos, if_neg, opAnd, opOr, opXor, opDiff, opShr, opBit, ntw, csw, g_h0, hL, gb, q1', hf, hf2, e2, e6, e7, e12, e13, e14, hlt, hi', q_x, g_x, l_x, r_x, z_x, ha', h01, k3] <;> omega)), (by rw [hsn, if_pos ⟨k1.1, by omega, rfl, rfl⟩])⟩
          (case hm => first | omega | (simp; omega))
          (case hf => simp [FrameL, ntw, csw, g_h0, hL, gb, q1', hf, hf2, e2, e6, e7, e12, e13, e14, hlt, hi', q_x, g_x, l_x, r_x, z_x, ha', h01, k3, f2_0, f6_0, f12_0, f13_0])
      · rw [k2] at h01 hsn
        have h01 := h01
        have hno := setF_none (fam xs) n (by omega) (hsn.trans (by simp))
        try simp (disch := first | omega | (simp; done) | fail) [wrap64c, if_pos, if_neg, opAnd, opOr, opXor, opDiff, opShr, opBit, ntw, csw, g_h0, hL, gb, q1', hf, hf2, e2, e6, e7, e12, e13, e14, hlt, hi', q_x, g_x, l_x, r_x, z_x, ha', h01]
        refine WD_chainC rfl (by kernel_rfl) (by kernel_rfl) ?_
        try simp (disch := first | omega | (simp; done) | fail) [wrap64c, if_pos, if_neg, opAnd, opOr, opXor, opDiff, opShr, opBit, ntw, csw, g_h0, hL, gb, q1', hf, hf2, e2, e6, e7, e12, e13, e14, hlt, hi', q_x, g_x, l_x, r_x, z_x, ha', h01]
        refine callG_c (by simp) (by simp) ?ha (hwn) ?_
        (case ha => simp (disch := first | omega | (simp; done) | fail) [wrap64c, if_pos, if_neg, opAnd, opOr, opXor, opDiff, opShr, opBit, ntw, csw, g_h0, hL, gb, q1', hf, hf2, e2, e6, e7, e12, e13, e14, hlt, hi', q_x, g_x, l_x, r_x, z_x, ha', h01])
        try simp (disch := first | omega | (simp; done) | fail) [wrap64c, if_pos, if_neg, opAnd, opOr, opXor, opDiff, opShr, opBit, ntw, csw, g_h0, hL, gb, q1', hf, hf2, e2, e6, e7, e12, e13, e14, hlt, hi', q_x, g_x, l_x, r_x, z_x, ha', h01]
        exact done_ret rfl (by simp [hno, K1])
    · rw [decide_eq_false k1] at hwn
      have hno := setF_none (fam xs) n (by omega) (hsn.trans (by unfold stepW; rw [if_neg]; intro hc; exact k1 ⟨hc.1, by omega⟩))
      try simp (disch := first | omega | (simp; done) | fail) [wrap64c, if_pos, if_neg, opAnd, opOr, opXor, opDiff, opShr, opBit, ntw, csw, g_h0, hL, gb, q1', hf, hf2, e2, e6, e7, e12, e13, e14, hlt, hi', q_x, g_x, l_x, r_x, z_x]
      refine WD_chainC rfl (by kernel_rfl) (by kernel_rfl) ?_
      try simp (disch := first | omega | (simp; done) | fail) [wrap64c, if_pos, if_neg, opAnd, opOr, opXor, opDiff, opShr, opBit, ntw, csw, g_h0, hL, gb, q1', hf, hf2, e2, e6, e7, e12, e13, e14, hlt, hi', q_x, g_x, l_x, r_x, z_x]
      refine callG_c (by simp) (by simp) ?ha (hwn) ?_
      (case ha => simp (disch := first | omega | (simp; done) | fail) [wrap64c, if_pos, if_neg, opAnd, opOr, opXor, opDiff, opShr, opBit, ntw, csw, g_h0, hL, gb, q1', hf, hf2, e2, e6, e7, e12, e13, e14, hlt, hi', q_x, g_x, l_x, r_x, z_x])
      try simp (disch := first | omega | (simp; done) | fail) [wrap64c, if_pos, if_neg, opAnd, opOr, opXor, opDiff, opShr, opBit, ntw, csw, g_h0, hL, gb, q1', hf, hf2, e2, e6, e7, e12, e13, e14, hlt, hi', q_x, g_x, l_x, r_x, z_x]
      exact done_ret rfl (by simp [hno, K1])
  · rw [List.take_of_length_le (by omega)] at hs
    try simp (disch := first | omega | (simp; done) | fail) [wrap64c, if_pos, if_neg, opAnd, opOr, opXor, opDiff, opShr, opBit, ntw, csw, g_h0, hL, gb, q1', hf, hf2, e2, e6, e7, e12, e13, e14, hlt]
    exact done_ret rfl (by simp [hs, K1])
noncomputable def wordB (N : Int) (X W : List Int) : Bool := spB N X && (setF (fam (natsOf X)) N.toNat W 0).isSome
noncomputable def fullB (N : Int) (X W : List Int) : Bool := wordB N X W && decide ((W.length : Int) = N)
theorem isWord_ok (h : Hp) (v w : Value) (N : Int) (X W : List Int) (hv : Space h v N X) (hw : Ints h w W) (hl : X.length < 2 ^ 40) : CallOK Tryz.prog 174 #[v, w] h (.bool (wordB N X W)) h := by
  refine callY_P 17 _ [.tmp 4] Tryz.func174 rfl rfl rfl (by first | rfl | simp) ?_
  obtain ⟨b, rfl, hX⟩ := hv
  have ntw := hw.nt
  have csw := hw.cs
  refine WD_first ?_
  try simp (disch := first | omega | (simp; done) | fail) [wrap64c, if_pos, if_neg, opAnd, opOr, opXor, opDiff, opShr, opBit, ntw, csw]
  refine stopK_heap fun h0 q_h0 => ?_
  refine stopK_go ?_
  have g_h0 : h0.get h.next = .cells [.int .i64 N, b] true true 1 := by simp [q_h0]
  have k_h0 : Adds h h0 := by rw [q_h0]; exact (by first | exact aK | exact kK)
  have n_h0 : h.next < h0.next := by simp [q_h0]; try omega
  have hX0 := hX.keep k_h0.1
  have K0 := k_h0.1
  try simp (disch := first | omega | (simp; done) | fail) [wrap64c, if_pos, if_neg, opAnd, opOr, opXor, opDiff, opShr, opBit, ntw, csw, g_h0]
  refine callG_c (by simp) (by simp) ?ha (isSpace_ok h0 (.agg #[.int .i64 N, b]) N X (.mk hX0) hl) ?_
  (case ha => simp (disch := first | omega | (simp; done) | fail) [wrap64c, if_pos, if_neg, opAnd, opOr, opXor, opDiff, opShr, opBit, ntw, csw, g_h0])
  cases c1 : spB N X
  · try simp (disch := first | omega | (simp; done) | fail) [wrap64c, if_pos, if_neg, opAnd, opOr, opXor, opDiff, opShr, opBit, ntw, csw, g_h0, c1]
    exact done_ret rfl (by simp [wordB, c1, K0])
  · obtain ⟨n, xs, hN, hXe, g⟩ := spB_true c1
    subst hN hXe
    try simp (disch := first | omega | (simp; done) | fail) [wrap64c, if_pos, if_neg, opAnd, opOr, opXor, opDiff, opShr, opBit, ntw, csw, g_h0, c1]
    refine callG_c (by simp) (by simp) ?ha (setOf_ok h0 (.agg #[.int .i64 n, b]) w n xs W (.mk hX0) (hw.keep K0) g) ?_
    (case ha => simp (disch := first | omega | (simp; done) | fail) [wrap64c, if_pos, if_neg, opAnd, opOr, opXor, opDiff, opShr, opBit, ntw, csw, g_h0, c1])
    try simp (disch := first | omega | (simp; done) | fail) [wrap64c, if_pos, if_neg, opAnd, opOr, opXor, opDiff, opShr, opBit, ntw, csw, g_h0, c1]
    exact done_ret rfl (by simp [wordB, c1, K0])
theorem isFull_ok (h : Hp) (v w : Value) (N : Int) (X W : List Int) (hv : Space h v N X) (hw : Ints h w W) (hl : X.length < 2 ^ 40) : CallOK Tryz.prog 131 #[v, w] h (.bool (fullB N X W)) h := by
  refine callY_P 15 _ [.tmp 4] Tryz.func131 rfl rfl rfl (by first | rfl | simp) ?_
  obtain ⟨b, rfl, hX⟩ := hv
  have ntw := hw.nt
  have csw := hw.cs
  refine WD_first ?_
  try simp (disch := first | omega | (simp; done) | fail) [wrap64c, if_pos, if_neg, opAnd, opOr, opXor, opDiff, opShr, opBit, ntw, csw]
  refine stopK_heap fun h0 q_h0 => ?_
  refine stopK_go ?_
  have g_h0 : h0.get h.next = .cells [.int .i64 N, b] true true 1 := by simp [q_h0]
  have k_h0 : Adds h h0 := by rw [q_h0]; exact (by first | exact aK | exact kK)
  have n_h0 : h.next < h0.next := by simp [q_h0]; try omega
  have hX0 := hX.keep k_h0.1
  have K0 := k_h0.1
  have hL := hw.lenD
  try simp (disch := first | omega | (simp; done) | fail) [wrap64c, if_pos, if_neg, opAnd, opOr, opXor, opDiff, opShr, opBit, ntw, csw, g_h0, hL]
  refine callG_c (by simp) (by simp) ?ha (isWord_ok h0 (.agg #[.int .i64 N, b]) w N X W (.mk hX0) (hw.keep K0) hl) ?_
  (case ha => simp (disch := first | omega | (simp; done) | fail) [wrap64c, if_pos, if_neg, opAnd, opOr, opXor, opDiff, opShr, opBit, ntw, csw, g_h0, hL])
  cases c1 : wordB N X W
  · try simp (disch := first | omega | (simp; done) | fail) [wrap64c, if_pos, if_neg, opAnd, opOr, opXor, opDiff, opShr, opBit, ntw, csw, g_h0, hL, c1]
    exact done_ret rfl (by simp [fullB, c1, K0])
  · try simp (disch := first | omega | (simp; done) | fail) [wrap64c, if_pos, if_neg, opAnd, opOr, opXor, opDiff, opShr, opBit, ntw, csw, g_h0, hL, c1]
    refine done_ret rfl ⟨?_, K0⟩
    by_cases hc : (W.length : Int) = N <;> simp [fullB, c1, hc]
theorem rankClo_ok (h : Hp) (oW oN : Nat) (v u : Value) (W : List Nat) (Y : List Int) (s : Int) (gW : h.get oW = .cells [u] true true 1) (gN : h.get oN = .cells [.int .i64 s] true true 1) (hv : Ints h v (toN W)) (hu : Ints h u Y) :
    ∃ v' h', CallOK Tryz.prog 133 #[v, .pointer (some ⟨oW, 0, none⟩), .pointer (some ⟨oN, 0, none⟩)] h v' h' ∧ v' = .bool (!decide (toN W = Y)) ∧ h' = if toN W = Y then h else h.put oN (.cells [.int .i64 (IntKind.wrap .i64 (s + 1))] true true 1) := by
  have ntu := hu.nt
  have csu := hu.cs
  have ntv := hv.nt
  have csv := hv.cs
  have this := slEq_ok h v u _ _ hv hu
  refine callY_L (args := [v, .pointer (some ⟨oW, 0, none⟩), .pointer (some ⟨oN, 0, none⟩)]) 10 _ [.tmp 4] Tryz.func133 rfl rfl rfl ?_
  have gW' := gW
  by_cases hc : toN W = Y
  · rw [decide_eq_true hc] at this
    try simp (disch := first | omega | (simp; done) | fail) [wrap64c, if_pos, if_neg, opAnd, opOr, opXor, opDiff, opShr, opBit, ntu, csu, ntv, csv, gW', gN]
    refine callG_c (by simp) (by simp) ?ha (this) ?_
    (case ha => simp (disch := first | omega | (simp; done) | fail) [wrap64c, if_pos, if_neg, opAnd, opOr, opXor, opDiff, opShr, opBit, ntu, csu, ntv, csv, gW', gN])
    try simp (disch := first | omega | (simp; done) | fail) [wrap64c, if_pos, if_neg, opAnd, opOr, opXor, opDiff, opShr, opBit, ntu, csu, ntv, csv, gW', gN]
    exact done_ret rfl (by simp [hc])
  · rw [decide_eq_false hc] at this
    try simp (disch := first | omega | (simp; done) | fail) [wrap64c, if_pos, if_neg, opAnd, opOr, opXor, opDiff, opShr, opBit, ntu, csu, ntv, csv, gW', gN]
    refine callG_c (by simp) (by simp) ?ha (this) ?_
    (case ha => simp (disch := first | omega | (simp; done) | fail) [wrap64c, if_pos, if_neg, opAnd, opOr, opXor, opDiff, opShr, opBit, ntu, csu, ntv, csv, gW', gN])
    try simp (disch := first | omega | (simp; done) | fail) [wrap64c, if_pos, if_neg, opAnd, opOr, opXor, opDiff, opShr, opBit, ntu, csu, ntv, csv, gW', gN, putCells]
    exact done_ret rfl (by simp [hc])
theorem implRank_ok (h : Hp) (v w : Value) (N : Int) (X W : List Int) (hv : Space h v N X) (hw : Ints h w W) (hl : X.length < 2 ^ 40) : ∃ v' h', CallOK Tryz.prog 76 #[v, w] h v' h' ∧ Adds h h' ∧ ∃ r : Int, v' = .tuple #[.int .i64 r, .bool (fullB N X W)] := by
  refine callY_L (args := [v, w]) 15 _ [.tmp 4, .tmp 5] Tryz.func76 rfl rfl rfl ?_
  obtain ⟨b, rfl, hX⟩ := hv
  have ntw := hw.nt
  have csw := hw.cs
  refine WD_first ?_
  try simp (disch := first | omega | (simp; done) | fail) [wrap64c, if_pos, if_neg, opAnd, opOr, opXor, opDiff, opShr, opBit, ntw, csw]
  refine stopK_heap fun h0 q_h0 => ?_
  refine stopK_go ?_
  have k0 : Adds h h0 := by rw [q_h0]; exact (by first | exact aK | exact kK)
  have n0 : h0.next = h.next + 2 := by simp [q_h0]
  have gs0 : h0.get h.next = .cells [.int .i64 N, b] true true 1 := by simp [q_h0]
  have gw0 : h0.get (h.next + 1) = .cells [w] true true 1 := by simp [q_h0]
  try simp (disch := first | omega | (simp; done) | fail) [wrap64c, if_pos, if_neg, opAnd, opOr, opXor, opDiff, opShr, opBit, ntw, csw, gs0, gw0]
  refine callG_c (by simp) (by simp) ?ha (isFull_ok h0 (.agg #[.int .i64 N, b]) w N X W (.mk (hX.keep k0.1)) (hw.keep k0.1) hl) ?_
  (case ha => simp (disch := first | omega | (simp; done) | fail) [wrap64c, if_pos, if_neg, opAnd, opOr, opXor, opDiff, opShr, opBit, ntw, csw, gs0, gw0])
  cases c1 : fullB N X W
  · try simp (disch := first | omega | (simp; done) | fail) [wrap64c, if_pos, if_neg, opAnd, opOr, opXor, opDiff, opShr, opBit, ntw, csw, gs0, gw0, c1]
    exact done_ret rfl ⟨k0, 0, by simp⟩
  · have c2 := c1
    unfold fullB wordB at c2
    simp only [Bool.and_eq_true] at c2
    obtain ⟨n, xs, hN, hXe, g⟩ := spB_true c2.1.1
    subst hN hXe
    try simp (disch := first | omega | (simp; done) | fail) [wrap64c, if_pos, if_neg, opAnd, opOr, opXor, opDiff, opShr, opBit, ntw, csw, gs0, gw0, c1, putCells]
    first | refine WY_heap fun h1 q_h1 => ?_ | refine callG_heap fun h1 q_h1 => ?_ | refine callP_heap fun h1 q_h1 => ?_ | refine callS_heap fun h1 q_h1 => ?_ | refine RY_heap fun h1 q_h1 => ?_ | refine PY_heap fun h1 q_h1 => ?_ | refine SY_heap fun h1 q_h1 => ?_ | refine doneY_heap fun h1 q_h1 => ?_ | refine loopK_heap fun h1 q_h1 => ?_ | refine thenY_heap fun h1 q_h1 => ?_ | refine thenM_heap fun h1 q_h1 => ?_
    have k1' : Adds h0 h1 := by rw [q_h1]; exact (by first | exact aK | exact kK)
    have k1 := k0.trans k1'
    have n1 : h1.next = h.next + 3 := by simp [q_h1]; omega
    have gs1 : h1.get h.next = .cells [.int .i64 n, b] true true 1 := by rw [k1'.1.2 _ (by omega)]; exact gs0
    have gw1 : h1.get (h.next + 1) = .cells [w] true true 1 := by rw [k1'.1.2 _ (by omega)]; exact gw0
    have gn1 : h1.get h0.next = .cells [.int .i64 0] true true 1 := by simp [q_h1]
    have D : DoerU (fun (s : Int × Bool) (T : Nat → Prop) h' => (∀ o, T o → False) ∧ h1.next ≤ h'.next ∧ (∀ o, o < h1.next → o ≠ h0.next → h'.get o = h1.get o) ∧ h'.get h0.next = .cells [.int .i64 s.1] true true 1) (fun s => s.2) (fun s u => if toN u = W then (s.1, true) else (IntKind.wrap .i64 (s.1 + 1), false)) (fun _ => True) h1.next (fun o => o = h0.next) 133 #[.pointer (some ⟨h.next + 1, 0, none⟩), .pointer (some ⟨h0.next, 0, none⟩)] := {
      stab := fun s T h' h'' hp hb1 hb2 hs => ⟨hp.1, by omega, fun o ho hne => by rw [hs o (by omega) (.inl ho)]; exact hp.2.2.1 o ho hne, by rw [hs _ (by omega) (.inl (by omega))]; exact hp.2.2.2⟩
      run := fun s T h' U u hst hp hb1 hv hg => by
        obtain ⟨hT, p1, p2, p3⟩ := hp
        have K1 : Keeps h h' := ⟨by omega, fun o ho => by rw [p2 o (by omega) (by omega)]; exact k1.1.2 o ho⟩
        obtain ⟨_, h3, hc3, rfl, he⟩ := rankClo_ok h' (h.next + 1) h0.next u w U W s.1 (by rw [p2 _ (by omega) (by omega)]; exact gw1) p3 hv (hw.keep K1)
        by_cases hc : toN U = W
        · rw [if_pos hc] at he
          subst he
          simp only [if_pos hc]
          rw [decide_eq_true hc] at hc3
          exact ⟨h3, hc3, .of_adds (adds_self _), fun _ => False, ⟨fun _ hf => hf, p1, p2, p3⟩, fun _ hf => hf.elim⟩
        · rw [if_neg hc] at he
          simp only [if_neg hc]
          rw [decide_eq_false hc] at hc3
          refine ⟨h3, hc3, ?_, fun _ => False, ⟨fun _ hf => hf, ?_, ?_, ?_⟩, fun _ hf => hf.elim⟩
          · rw [he]; exact (Wr.of_adds (adds_self _)).put (.inl rfl) fun _ => rfl
          · rw [he]; simpa using p1
          · intro o ho hne; rw [he]; simp [hne, p2 o ho hne]
          · rw [he]; simp
      low := fun o ho => by omega
      fn := by simp }
    have hX1 : IntsF (fun x => x < h1.next ∧ ¬ x = h0.next) h1 b (toN xs) := (hX.old.keep k1.1).sub fun o ho => by omega
    obtain ⟨u, h2, hc2, W2, T2, P2, hT2⟩ := wordsU_ok _ _ _ _ _ _ _ _ D n xs g h1 b (0, false) hX1 rfl ⟨fun _ hf => hf, Nat.le_refl _, fun o ho _ => rfl, gn1⟩ (Nat.le_refl _) (fun _ _ => trivial)
    generalize hst : (wordsF (fam xs) n n [] 0).foldl (stepU (fun s : Int × Bool => s.2) (fun s u => if toN u = W then (s.1, true) else (IntKind.wrap .i64 (s.1 + 1), false))) (0, false) = st at P2
    refine callG_c (by simp) (by simp) ?ha (hc2) ?_
    (case ha => simp (disch := first | omega | (simp; done) | fail) [wrap64c, if_pos, if_neg, opAnd, opOr, opXor, opDiff, opShr, opBit, ntw, csw, gs0, gw0, c1, gs1])
    have gc2 := P2.2.2.2
    try simp (disch := first | omega | (simp; done) | fail) [wrap64c, if_pos, if_neg, opAnd, opOr, opXor, opDiff, opShr, opBit, ntw, csw, gs0, gw0, c1, gs1, gc2]
    exact done_ret rfl ⟨k1.wr W2 fun o ho => by omega, st.1, by simp⟩
theorem iWord_ok (h : Hp) (v w : Value) (N : Int) (X W : List Int) (hv : Space h v N X) (hw : Ints h w W) (hl : X.length < 2 ^ 40) : CallOK Tryz.prog 26 #[v, w] h (.bool (fullB N X W)) h := by
  refine callY_P 14 _ [.tmp 4] Tryz.func26 rfl rfl rfl (by first | rfl | simp) ?_
  obtain ⟨b, rfl, hX⟩ := hv
  have ntw := hw.nt
  have csw := hw.cs
  refine WD_first ?_
  try simp (disch := first | omega | (simp; done) | fail) [wrap64c, if_pos, if_neg, opAnd, opOr, opXor, opDiff, opShr, opBit, ntw, csw]
  refine stopK_heap fun h0 q_h0 => ?_
  refine stopK_go ?_
  have g_h0 : h0.get h.next = .cells [.int .i64 N, b] true true 1 := by simp [q_h0]
  have k_h0 : Adds h h0 := by rw [q_h0]; exact (by first | exact aK | exact kK)
  have n_h0 : h.next < h0.next := by simp [q_h0]; try omega
  have K0 := k_h0.1
  obtain ⟨_, h1, pr, a1, r, rfl⟩ := implRank_ok h0 (.agg #[.int .i64 N, b]) w N X W (.mk (hX.keep K0)) (hw.keep K0) hl
  try simp (disch := first | omega | (simp; done) | fail) [wrap64c, if_pos, if_neg, opAnd, opOr, opXor, opDiff, opShr, opBit, ntw, csw, g_h0]
  refine callG_c (by simp) (by simp) ?ha (pr) ?_
  (case ha => simp (disch := first | omega | (simp; done) | fail) [wrap64c, if_pos, if_neg, opAnd, opOr, opXor, opDiff, opShr, opBit, ntw, csw, g_h0])
  try simp (disch := first | omega | (simp; done) | fail) [wrap64c, if_pos, if_neg, opAnd, opOr, opXor, opDiff, opShr, opBit, ntw, csw, g_h0]
  exact done_ret rfl (by simp [K0.trans a1.1])
end Go.Proofs.YtnncipcldbopgaaGreat
namespace Go.Proofs.YtnncipcldbopgaaGreat
set_option linter.unusedSimpArgs false
set_option linter.unusedVariables false
set_option maxHeartbeats 4000000
open Go Go.Eng
attribute [local irreducible] WD RunD PreD Runs CallOK
theorem appI2 {n : Nat} {h0 h : Hp} {v : Value} {xs : List Int} (hs : IntsA n h v xs) (x : Int) (hl : xs.length < 2 ^ 40) (hn : n ≤ h.next) (hA : Adds h0 h) (h0n : h0.next ≤ n) :
    ∃ v' h', appendD Tryz.prog 24 24 v (.slice (some ⟨h.next, 0, none⟩) 1 1) (h.alloc (.cells [.int .i64 x] true true 1)) = some (v', h') ∧ IntsA n h' v' (xs ++ [x]) ∧ Adds h0 h' ∧ h.next < h'.next ∧
      (∀ F : Nat → Prop, (∀ o, F o → o < h.next) → OffF F v → Same F h h' ∧ OffF F v') := by
  obtain ⟨v', h', g1, g2, g3, g4, g5, g6⟩ := append_one2 (P := Tryz.prog) (t := 24) (t' := 24) (x := x) (q := h.next) (h := h.alloc (.cells [.int .i64 x] true true 1)) (qx := true) (n := n) (v := v) (xs := xs) (by
    rcases hs with ⟨a, b⟩ | ⟨o, ex, a, b, c, d⟩
    · exact .inl ⟨a, b⟩
    · exact .inr ⟨o, ex, a, b, Nat.lt_succ_of_lt c, by simp [Nat.ne_of_lt c, d]⟩) ty_elT_24 ty_szT_3 ty_zeroT_3 ty_byT_3 (by decide) (by decide) (by simp) (by simp) hl (by simp; omega) (show Adds h0 _ from (by first | exact aK | exact kK)) h0n
  refine ⟨v', h', g1, g2, g3, Nat.lt_of_le_of_lt (by simp) g4, fun F hF hO => ⟨?_, g6 F fun o ho => Nat.lt_succ_of_lt (hF o ho)⟩⟩
  have := g5 F hO
  exact ⟨Nat.le_trans (Nat.le_succ _) this.1, fun o ho ho' => by rw [this.2 o ho (Nat.lt_succ_of_lt ho')]; simp [Nat.ne_of_lt ho']⟩
theorem ia_read {n : Nat} {h : Hp} {v : Value} {xs : List Int} (hs : IntsA n h v xs) (hl : xs.length < 2 ^ 63) : Ints h v xs := (hs.own hl).ints
theorem ia_off {n m : Nat} {h : Hp} {v : Value} {xs : List Int} (hs : IntsA n h v xs) (hm : h.next ≤ m) : OffF (fun o => m ≤ o) v := by
  rcases hs with ⟨_, rfl⟩ | ⟨o, ex, rfl, _, h2, _⟩
  · exact .nil _ _ _
  · exact .mk (by omega)
noncomputable def walkR (N : Int) (X ch : List Int) : List Int := if (spB N X && chB ch 20) = true then toN (walkS (fam (natsOf X)) N.toNat ch N.toNat).1 else []
theorem chB_long {ch : List Int} {m : Int} (h : m < (ch.length : Int)) : chB ch m = false := by
  unfold chB
  simp only [Bool.and_eq_false_iff, decide_eq_false_iff_not]
  exact .inl (by omega)
theorem chB_neg {ch : List Int} {m : Int} {j : Nat} (hj : j < ch.length) (h : ch[j] < 0) : chB ch m = false := by
  rw [Bool.eq_false_iff]
  intro hc
  have := (chB_pos hc).2 _ (List.getElem_mem hj)
  omega
theorem chB_of {ch : List Int} {m : Int} (h1 : (ch.length : Int) ≤ m) (h2 : ∀ j (hj : j < ch.length), 0 ≤ ch[j]) : chB ch m = true := by
  unfold chB
  simp only [Bool.and_eq_true, decide_eq_true_eq, Bool.not_eq_true', List.any_eq_false]
  refine ⟨h1, fun x hx => ?_⟩
  obtain ⟨j, hj, rfl⟩ := List.getElem_of_mem hx
  have := h2 j hj
  omega
theorem implWalk_ok (h : Hp) (v w : Value) (N : Int) (X ch : List Int) (hv : Space h v N X) (hw : Ints h w ch) (hl : X.length < 2 ^ 40) (hcl : ch.length < 2 ^ 40) :
    ∃ v' h', CallOK Tryz.prog 24 #[v, w] h v' h' ∧ Adds h h' ∧ ∃ u, v' = .tuple #[u, .bool (spB N X && chB ch 20)] ∧ IntsO (Btw h.next h'.next) h' u (walkR N X ch) := by
  refine callY_L (args := [v, w]) 42 _ [.tmp 4, .tmp 5] Tryz.func24 rfl rfl rfl ?_
  obtain ⟨b, rfl, hX⟩ := hv
  have hM := hw.lenD
  refine WD_first ?_
  try simp (disch := first | omega | (simp; done) | fail) [wrap64c, if_pos, if_neg, opAnd, opOr, opXor, opDiff, opShr, opBit, hM]
  refine stopK_heap fun h0 q_h0 => ?_
  refine stopK_go ?_
  have g_h0 : h0.get h.next = .cells [.int .i64 N, b] true true 1 := by simp [q_h0]
  have k_h0 : Adds h h0 := by rw [q_h0]; exact (by first | exact aK | exact kK)
  have n_h0 : h.next < h0.next := by simp [q_h0]; try omega
  have hX0 := hX.keep k_h0.1
  have hw0 := hw.keep k_h0.1
  have K0 := k_h0.1
  try simp (disch := first | omega | (simp; done) | fail) [wrap64c, if_pos, if_neg, opAnd, opOr, opXor, opDiff, opShr, opBit, hM, g_h0]
  refine callG_c (by simp) (by simp) ?ha (isSpace_ok h0 (.agg #[.int .i64 N, b]) N X (.mk hX0) hl) ?_
  (case ha => simp (disch := first | omega | (simp; done) | fail) [wrap64c, if_pos, if_neg, opAnd, opOr, opXor, opDiff, opShr, opBit, hM, g_h0])
  cases c1 : spB N X
  · try simp (disch := first | omega | (simp; done) | fail) [wrap64c, if_pos, if_neg, opAnd, opOr, opXor, opDiff, opShr, opBit, hM, g_h0, c1]
    refine done_ret rfl ⟨k_h0, _, by simp [c1]; rfl, ?_⟩
    rw [walkR, if_neg (by simp [c1])]
    exact .nil _ _
  · try simp (disch := first | omega | (simp; done) | fail) [wrap64c, if_pos, if_neg, opAnd, opOr, opXor, opDiff, opShr, opBit, hM, g_h0, c1]
    refine callG_c (by simp) (by simp) ?ha (areChoices_ok h0 w ch 20 hw0) ?_
    (case ha => simp (disch := first | omega | (simp; done) | fail) [wrap64c, if_pos, if_neg, opAnd, opOr, opXor, opDiff, opShr, opBit, hM, g_h0, c1])
    cases c2 : chB ch 20
    · try simp (disch := first | omega | (simp; done) | fail) [wrap64c, if_pos, if_neg, opAnd, opOr, opXor, opDiff, opShr, opBit, hM, g_h0, c1, c2]
      refine done_ret rfl ⟨k_h0, _, by simp [c1, c2]; rfl, ?_⟩
      rw [walkR, if_neg (by simp [c1, c2])]
      exact .nil _ _
    · obtain ⟨n, xs, hN, hXe, g⟩ := spB_true c1
      have hNt : N = (n : Int) := hN
      have hX1 : Ints h0 b (toN xs) := hXe ▸ hX0
      have n7 := g.n7
      have hb7 := bit7 n7
      have hcp := (chB_pos c2).2
      try simp (disch := first | omega | (simp; done) | fail) [wrap64c, if_pos, if_neg, opAnd, opOr, opXor, opDiff, opShr, opBit, hM, g_h0, c1, c2, hNt]
      obtain ⟨_, h1, hc1, o1, rfl, ha1, ho1, ho2, hg1⟩ := family_ok h0 (.agg #[.int .i64 (n : Int), b]) n xs (.mk hX1) g.lt7 (by have := g.len7; omega)
      refine callG_c (by simp) (by simp) ?ha (hc1) ?_
      (case ha => simp (disch := first | omega | (simp; done) | fail) [wrap64c, if_pos, if_neg, opAnd, opOr, opXor, opDiff, opShr, opBit, hM, g_h0, c1, c2, hNt])
      have g1 : h1.get h.next = .cells [.int .i64 N, b] true true 1 := by rw [ha1.1.2 _ (by omega)]; exact g_h0
      have A1 := k_h0.trans ha1
      have hX2 := hX1.keep ha1.1
      have hw1 := hw0.keep ha1.1
      have hn1 := ha1.1.1
      try simp (disch := first | omega | (simp; done) | fail) [wrap64c, if_pos, if_neg, opAnd, opOr, opXor, opDiff, opShr, opBit, hM, g_h0, c1, c2, hNt, g1]
      refine WD_loopC [1, 2, 6] (fun m tm h' => ∃ k u, m = n - k ∧ tm 7 = u ∧ tm 8 = .int .i64 (((walkS (fam xs) n ch k).2 : Nat) : Int) ∧ (k ≤ n) ∧ (Adds h1 h') ∧ (IntsA h1.next h' u (toN (walkS (fam xs) n ch k).1))) _ ⟨0, _, rfl, (by simp (disch := first | omega | (simp; done) | fail) [wrap64c, if_pos, if_neg, opAnd, opOr, opXor, opDiff, opShr, opBit, hM, g_h0, c1, c2, hNt, g1]), (by simp [walkS]), (by first | omega | assumption | (simp (disch := first | omega | (simp; done) | fail) [wrap64c, if_pos, if_neg, opAnd, opOr, opXor, opDiff, opShr, opBit, hM, g_h0, c1, c2, hNt, g1] <;> omega)), (by first | exact aK | exact kK), (.lit (ex := true) (Nat.le_refl _) (by simp) (by simp [walkS, toN]))⟩ ?_
      rintro m tm h' hFr ⟨k, u, rfl, e7, e8, hk, ha, hu⟩
      simp only [FrameL] at hFr
      obtain ⟨f1_0, f2_0, f6_0, -⟩ := hFr
      try simp (disch := first | omega | (simp; done) | fail) [wrap64c, if_pos, if_neg, opAnd, opOr, opXor, opDiff, opShr, opBit, hM, g_h0, c1, c2, hNt, g1] at f1_0 f2_0 f6_0
      have e1 := f1_0
      have e2 := f2_0
      have e6 := f6_0
      have hlu := walk_len (fam xs) n ch k
      obtain ⟨hi1, hi2⟩ := walk_inv g ch k hk
      have hs128 := g.lt7 _ hi1
      have g1' : h'.get h.next = .cells [.int .i64 N, b] true true 1 := by rw [ha.1.2 _ (by omega)]; exact g1
      have hgf : h'.get o1 = .cells (famC (fam xs)) true true 1 := by rw [ha.1.2 _ (by omega)]; exact hg1
      have hn2 := ha.1.1
      have hlU := hu.lenD
      have hlu2 : (toN (walkS (fam xs) n ch k).1).length = k := by rw [toN_length, hlu]
      try simp (disch := first | omega | (simp; done) | fail) [wrap64c, if_pos, if_neg, opAnd, opOr, opXor, opDiff, opShr, opBit, hM, g_h0, c1, c2, hNt, g1, e1, e2, e6, e7, e8, g1', hlU, hlu2]
      refine callG_c (by simp) (by simp) ?ha (all_ok h' (.agg #[.int .i64 (n : Int), b]) n _ (.mk (hX2.keep ha.1)) (by omega)) ?_
      (case ha => simp (disch := first | omega | (simp; done) | fail) [wrap64c, if_pos, if_neg, opAnd, opOr, opXor, opDiff, opShr, opBit, hM, g_h0, c1, c2, hNt, g1, e1, e2, e6, e7, e8, g1', hlU, hlu2])
      by_cases hlt : k < n
      · have hne : ¬ ((walkS (fam xs) n ch k).2 = bit n - 1) := fun e => by have := (walk_end g ch hk).1 e; omega
        have hneb : ((((walkS (fam xs) n ch k).2 : Nat) : Int) != ((bit n - 1 : Nat) : Int)) = true := by simp [hne]
        obtain ⟨s, hs⟩ : ∃ s, s = (walkS (fam xs) n ch k).2 := ⟨_, rfl⟩
        have hout := outerN_lt (fam xs) n s
        have hwn := walk_ne g ch hlt
        have hmem := pickN_mem (ch := ch) (k := k) hwn
        obtain ⟨l1, l2, l3⟩ := g.learn hmem
        rw [← hs] at hwn hmem l1 l2 l3 hs128
        have hp64 := bit_lt7 (i := pickN ch k (itemsN (outerN (fam xs) n s))) (by omega)
        have hor := g.lt7 _ l3
        have hs2 := hs.symm
        try simp (disch := first | omega | (simp; done) | fail) [wrap64c, if_pos, if_neg, opAnd, opOr, opXor, opDiff, opShr, opBit, hM, g_h0, c1, c2, hNt, g1, e1, e2, e6, e7, e8, g1', hlU, hlu2, hneb, hs2]
        refine callG_c (by simp) (by simp) ?ha (imOuter_ok h' o1 (fam xs) true true 1 s (by omega) hgf (by omega)) ?_
        (case ha => simp (disch := first | omega | (simp; done) | fail) [wrap64c, if_pos, if_neg, opAnd, opOr, opXor, opDiff, opShr, opBit, hM, g_h0, c1, c2, hNt, g1, e1, e2, e6, e7, e8, g1', hlU, hlu2, hneb, hs2])
        have h7 := g.outer7 s
        try simp (disch := first | omega | (simp; done) | fail) [wrap64c, if_pos, if_neg, opAnd, opOr, opXor, opDiff, opShr, opBit, hM, g_h0, c1, c2, hNt, g1, e1, e2, e6, e7, e8, g1', hlU, hlu2, hneb, hs2, h7]
        obtain ⟨y, h2, hc2, ha2, hi2', _⟩ := items_ok h' (outerN (fam xs) n s) (by omega)
        refine callG_c (by simp) (by simp) ?ha (hc2) ?_
        (case ha => simp (disch := first | omega | (simp; done) | fail) [wrap64c, if_pos, if_neg, opAnd, opOr, opXor, opDiff, opShr, opBit, hM, g_h0, c1, c2, hNt, g1, e1, e2, e6, e7, e8, g1', hlU, hlu2, hneb, hs2, h7])
        have hu2 := hu.keep ha2.1
        have hn3 := ha2.1.1
        try simp (disch := first | omega | (simp; done) | fail) [wrap64c, if_pos, if_neg, opAnd, opOr, opXor, opDiff, opShr, opBit, hM, g_h0, c1, c2, hNt, g1, e1, e2, e6, e7, e8, g1', hlU, hlu2, hneb, hs2, h7]
        refine callG_c (by simp) (by simp) ?ha (chosen_ok h2 y w (itemsN (outerN (fam xs) n s)) ch k hi2'.ints ((hw1.keep ha.1).keep ha2.1) hwn (by have := items_len (outerN (fam xs) n s); omega) hcp) ?_
        (case ha => simp (disch := first | omega | (simp; done) | fail) [wrap64c, if_pos, if_neg, opAnd, opOr, opXor, opDiff, opShr, opBit, hM, g_h0, c1, c2, hNt, g1, e1, e2, e6, e7, e8, g1', hlU, hlu2, hneb, hs2, h7])
        try simp (disch := first | omega | (simp; done) | fail) [wrap64c, if_pos, if_neg, opAnd, opOr, opXor, opDiff, opShr, opBit, hM, g_h0, c1, c2, hNt, g1, e1, e2, e6, e7, e8, g1', hlU, hlu2, hneb, hs2, h7]
        refine WD_chainC rfl (by kernel_rfl) (by kernel_rfl) ?_
        try simp (disch := first | omega | (simp; done) | fail) [wrap64c, if_pos, if_neg, opAnd, opOr, opXor, opDiff, opShr, opBit, hM, g_h0, c1, c2, hNt, g1, e1, e2, e6, e7, e8, g1', hlU, hlu2, hneb, hs2, h7]
        obtain ⟨u3, h3, hap, hu3, ha3, hn4, hs3⟩ := appI2 hu2 ((pickN ch k (itemsN (outerN (fam xs) n s)) : Nat) : Int) (by rw [hlu2]; omega) (by omega) (ha.trans ha2) (Nat.le_refl _)
        try simp (disch := first | omega | (simp; done) | fail) [wrap64c, if_pos, if_neg, opAnd, opOr, opXor, opDiff, opShr, opBit, hM, g_h0, c1, c2, hNt, g1, e1, e2, e6, e7, e8, g1', hlU, hlu2, hneb, hs2, h7, hap]
        refine loopK_next _ ?hm ?hf ⟨k + 1, u3, rfl, (by simp (disch := first | omega | (simp; done) | fail) [wrap64c, if_pos, if_neg, opAnd, opOr, opXor, opDiff, opShr, opBit, hM, g_h0, c1, c2, hNt, g1, e1, e2, e6, e7, e8, g1', hlU, hlu2, hneb, hs2, h7] <;> omega), (by simp [walkS, ← hs]), (by first | omega | assumption | (simp (disch := first | omega | (simp; done) | fail) [wrap64c, if_pos, if_neg, opAnd, opOr, opXor, opDiff, opShr, opBit, hM, g_h0, c1, c2, hNt, g1, e1, e2, e6, e7, e8, g1', hlU, hlu2, hneb, hs2, h7] <;> omega)), ha3, (by simp only [walkS, ← hs]; rw [toN_snoc]; exact hu3)⟩
        (case hm => first | omega | (simp; omega))
        (case hf => simp [FrameL, hM, g_h0, c1, c2, hNt, g1, e1, e2, e6, e7, e8, g1', hlU, hlu2, hneb, hs2, h7, f1_0, f2_0, f6_0])
      · have hke : k = n := by omega
        have hee := (walk_end g ch hk).2 hke
        have hneb : ((((walkS (fam xs) n ch k).2 : Nat) : Int) != ((bit n - 1 : Nat) : Int)) = false := by simp [hee]
        try simp (disch := first | omega | (simp; done) | fail) [wrap64c, if_pos, if_neg, opAnd, opOr, opXor, opDiff, opShr, opBit, hM, g_h0, c1, c2, hNt, g1, e1, e2, e6, e7, e8, g1', hlU, hlu2, hneb]
        refine done_ret rfl ⟨A1.trans ha, _, by simp [c1, c2]; rfl, ?_⟩
        rw [walkR, if_pos (by simp [c1, c2]), hXe, natsOf_toN, hN, Int.toNat_natCast]
        rw [hke] at hu
        exact (hu.own (by simp [walk_len]; omega)).sub fun o ho => ⟨by have := ho.1; omega, ho.2⟩
theorem itemsK_eq {o n : Nat} (ho : o < bit n) (hn : n ≤ 7) : itemsK o n = itemsN o := by
  have : ∀ d, n + d ≤ 7 → itemsK o (n + d) = itemsK o n := by
    intro d
    induction d with
    | zero => intro _; rfl
    | succ d ih =>
      intro hd
      rw [show n + (d + 1) = n + d + 1 by omega, itemsK_succ, hi_bit ho (by omega)]
      exact ih (by omega)
  rw [items_eq]
  have h1 := this (7 - n) (by omega)
  rw [show n + (7 - n) = 7 by omega] at h1
  exact h1.symm
theorem specWalk_ok (h : Hp) (v w : Value) (N : Int) (X ch : List Int) (hv : Space h v N X) (hw : Ints h w ch) (hl : X.length < 2 ^ 40) (hcl : ch.length < 2 ^ 40) :
    ∃ v' h', CallOK Tryz.prog 25 #[v, w] h v' h' ∧ Adds h h' ∧ ∃ u, v' = .tuple #[u, .bool (spB N X && chB ch 20)] ∧ IntsO (Btw h.next h'.next) h' u (walkR N X ch) := by
  refine callY_L (args := [v, w]) 80 _ [.tmp 4, .tmp 5] Tryz.func25 rfl rfl rfl ?_
  obtain ⟨b, rfl, hX⟩ := hv
  have hM := hw.lenD
  refine WD_first ?_
  try simp (disch := first | omega | (simp; done) | fail) [wrap64c, if_pos, if_neg, opAnd, opOr, opXor, opDiff, opShr, opBit, hM]
  refine stopK_heap fun h0 q_h0 => ?_
  refine stopK_go ?_
  have g_h0 : h0.get h.next = .cells [.int .i64 N, b] true true 1 := by simp [q_h0]
  have k_h0 : Adds h h0 := by rw [q_h0]; exact (by first | exact aK | exact kK)
  have n_h0 : h.next < h0.next := by simp [q_h0]; try omega
  have hX0 := hX.keep k_h0.1
  have hw0 := hw.keep k_h0.1
  have K0 := k_h0.1
  try simp (disch := first | omega | (simp; done) | fail) [wrap64c, if_pos, if_neg, opAnd, opOr, opXor, opDiff, opShr, opBit, hM, g_h0]
  refine callG_c (by simp) (by simp) ?ha (spGood_ok h0 (.agg #[.int .i64 N, b]) N X (.mk hX0) hl) ?_
  (case ha => simp (disch := first | omega | (simp; done) | fail) [wrap64c, if_pos, if_neg, opAnd, opOr, opXor, opDiff, opShr, opBit, hM, g_h0])
  cases c1 : spB N X
  · try simp (disch := first | omega | (simp; done) | fail) [wrap64c, if_pos, if_neg, opAnd, opOr, opXor, opDiff, opShr, opBit, hM, g_h0, c1]
    refine done_ret rfl ⟨k_h0, _, by simp [c1]; rfl, ?_⟩
    rw [walkR, if_neg (by simp [c1])]
    exact .nil _ _
  · by_cases c2 : (20 : Int) < (ch.length : Int)
    · have cB := chB_long c2
      try simp (disch := first | omega | (simp; done) | fail) [wrap64c, if_pos, if_neg, opAnd, opOr, opXor, opDiff, opShr, opBit, hM, g_h0, c1, c2]
      refine done_ret rfl ⟨k_h0, _, by simp [c1, cB]; rfl, ?_⟩
      rw [walkR, if_neg (by simp [c1, cB])]
      exact .nil _ _
    · try simp (disch := first | omega | (simp; done) | fail) [wrap64c, if_pos, if_neg, opAnd, opOr, opXor, opDiff, opShr, opBit, hM, g_h0, c1, c2]
      refine WD_loopC [1, 2, 23, 24] (fun m tm h' => ∃ j, m = ch.length - j ∧ h0 = h' ∧ tm 25 = .int .i64 (j : Int) ∧ (j ≤ ch.length) ∧ (∀ i (h1 : i < ch.length), i < j → 0 ≤ ch[i])) _ ⟨0, rfl, rfl, (by simp (disch := first | omega | (simp; done) | fail) [wrap64c, if_pos, if_neg, opAnd, opOr, opXor, opDiff, opShr, opBit, hM, g_h0, c1, c2]), (by first | omega | assumption | (simp (disch := first | omega | (simp; done) | fail) [wrap64c, if_pos, if_neg, opAnd, opOr, opXor, opDiff, opShr, opBit, hM, g_h0, c1, c2] <;> omega)), (by intro i h1 h0; omega)⟩ ?_
      rintro m tm h' hFr ⟨j, rfl, rfl, e25, hj, hp⟩
      simp only [FrameL] at hFr
      obtain ⟨f1_0, f2_0, f23_0, f24_0, -⟩ := hFr
      try simp (disch := first | omega | (simp; done) | fail) [wrap64c, if_pos, if_neg, opAnd, opOr, opXor, opDiff, opShr, opBit, hM, g_h0, c1, c2] at f1_0 f2_0 f23_0 f24_0
      have e1 := f1_0
      have e2 := f2_0
      have e23 := f23_0
      have e24 := f24_0
      by_cases hlt : j < ch.length
      · obtain ⟨o_x, i_x, c_x, cs_x, own_x, ex_x, es_x, q_x, b_x, g_x, l_x, r_x⟩ := hw0.open ((by omega))
        have z_x : ∀ h2 : i_x < cs_x.length, cs_x[i_x] = _ := fun h2 => r_x 0 ((by omega)) h2
        by_cases hneg : ch[j] < 0
        · have cB := chB_neg (m := 20) hlt hneg
          try simp (disch := first | omega | (simp; done) | fail) [wrap64c, if_pos, if_neg, opAnd, opOr, opXor, opDiff, opShr, opBit, hM, g_h0, c1, c2, e1, e2, e23, e24, e25, hlt, q_x, g_x, l_x, r_x, z_x, hneg]
          refine done_ret rfl ⟨k_h0, _, by simp [c1, cB]; rfl, ?_⟩
          rw [walkR, if_neg (by simp [c1, cB])]
          exact .nil _ _
        · try simp (disch := first | omega | (simp; done) | fail) [wrap64c, if_pos, if_neg, opAnd, opOr, opXor, opDiff, opShr, opBit, hM, g_h0, c1, c2, e1, e2, e23, e24, e25, hlt, q_x, g_x, l_x, r_x, z_x, hneg]
          refine loopK_next _ ?hm ?hf ⟨j + 1, rfl, rfl, (by simp (disch := first | omega | (simp; done) | fail) [wrap64c, if_pos, if_neg, opAnd, opOr, opXor, opDiff, opShr, opBit, hM, g_h0, c1, c2, e1, e2, e23, e24, e25, hlt, q_x, g_x, l_x, r_x, z_x, hneg] <;> omega), (by first | omega | assumption | (simp (disch := first | omega | (simp; done) | fail) [wrap64c, if_pos, if_neg, opAnd, opOr, opXor, opDiff, opShr, opBit, hM, g_h0, c1, c2, e1, e2, e23, e24, e25, hlt, q_x, g_x, l_x, r_x, z_x, hneg] <;> omega)), ?c_hp⟩
          (case hm => first | omega | (simp; omega))
          (case hf => simp [FrameL, hM, g_h0, c1, c2, e1, e2, e23, e24, e25, hlt, q_x, g_x, l_x, r_x, z_x, hneg, f1_0, f2_0, f23_0, f24_0])
          case c_hp =>
            exact (fun i h1 hi => by
              by_cases e : i = j
              · subst e; omega
              · exact hp i h1 (by omega))
      · have cB := chB_of (m := 20) (by omega) (fun i h1 => hp i h1 (by omega))
        have hcp := (chB_pos cB).2
        obtain ⟨n, xs, hN, hXe, g⟩ := spB_true c1
        have hNt : N = (n : Int) := hN
        have hX1 : Ints h0 b (toN xs) := hXe ▸ hX0
        have n7 := g.n7
        have hb7 := bit7 n7
        try simp (disch := first | omega | (simp; done) | fail) [wrap64c, if_pos, if_neg, opAnd, opOr, opXor, opDiff, opShr, opBit, hM, g_h0, c1, c2, e1, e2, e23, e24, e25, hlt, hNt]
        refine WD_loopC [1, 2] (fun m tm h' => ∃ k u, m = n - k ∧ tm 8 = u ∧ tm 9 = .int .i64 (((walkS (fam xs) n ch k).2 : Nat) : Int) ∧ tm 10 = .int .i64 (k : Int) ∧ (k ≤ n) ∧ (Adds h0 h') ∧ (IntsA h0.next h' u (toN (walkS (fam xs) n ch k).1))) _ ⟨0, _, rfl, (by simp (disch := first | omega | (simp; done) | fail) [wrap64c, if_pos, if_neg, opAnd, opOr, opXor, opDiff, opShr, opBit, hM, g_h0, c1, c2, e1, e2, e23, e24, e25, hlt, hNt]), (by simp [walkS]), (by simp (disch := first | omega | (simp; done) | fail) [wrap64c, if_pos, if_neg, opAnd, opOr, opXor, opDiff, opShr, opBit, hM, g_h0, c1, c2, e1, e2, e23, e24, e25, hlt, hNt]), (by first | omega | assumption | (simp (disch := first | omega | (simp; done) | fail) [wrap64c, if_pos, if_neg, opAnd, opOr, opXor, opDiff, opShr, opBit, hM, g_h0, c1, c2, e1, e2, e23, e24, e25, hlt, hNt] <;> omega)), (adds_self _), (.nil _ _)⟩ ?_
        rintro m tm h' hFr ⟨k, u, rfl, e8, e9, e10, hk, ha, hu⟩
        simp only [FrameL] at hFr
        obtain ⟨f1_1, f2_1, -⟩ := hFr
        try simp (disch := first | omega | (simp; done) | fail) [wrap64c, if_pos, if_neg, opAnd, opOr, opXor, opDiff, opShr, opBit, hM, g_h0, c1, c2, e1, e2, e23, e24, e25, hlt, hNt] at f1_1 f2_1
        have e1 := f1_1
        have e2 := f2_1
        have hlu := walk_len (fam xs) n ch k
        have hlu2 : (toN (walkS (fam xs) n ch k).1).length = k := by rw [toN_length, hlu]
        obtain ⟨hi1, hi2⟩ := walk_inv g ch k hk
        have hs128 := g.lt7 _ hi1
        have g1 : h'.get h.next = .cells [.int .i64 N, b] true true 1 := by rw [ha.1.2 _ (by omega)]; exact g_h0
        have hn2 := ha.1.1
        by_cases hlk : k < n
        · obtain ⟨s, hs⟩ : ∃ s, s = (walkS (fam xs) n ch k).2 := ⟨_, rfl⟩
          have hwn := walk_ne g ch hlk
          have hmem := pickN_mem (ch := ch) (k := k) hwn
          obtain ⟨l1, l2, l3⟩ := g.learn hmem
          rw [← hs] at hwn hmem l1 l2 l3 hs128
          have hs2 := hs.symm
          obtain ⟨o, hoe⟩ : ∃ o, o = outerN (fam xs) n s := ⟨_, rfl⟩
          have hout := outerN_lt (fam xs) n s
          have hsp := spOuter_ok h' (.agg #[.int .i64 (n : Int), b]) n xs s (.mk (hX1.keep ha.1)) n7 (by have := g.len7; omega) g.srt hs128
          rw [← hoe] at hout hwn hmem l1 l2 l3 hsp
          obtain ⟨i0, hi0⟩ : ∃ i0, i0 = pickN ch k (itemsN o) := ⟨_, rfl⟩
          have hi0' := hi0
          rw [← hi0] at hmem l1 l2 l3
          have hp64 := bit_lt7 (i := i0) (by omega)
          have hor := g.lt7 _ l3
          try simp (disch := first | omega | (simp; done) | fail) [wrap64c, if_pos, if_neg, opAnd, opOr, opXor, opDiff, opShr, opBit, hM, g_h0, c1, c2, e1, e2, e23, e24, e25, hlt, hNt, e8, e9, e10, g1, hlk, hs2]
          refine callG_c (by simp) (by simp) ?ha (hsp) ?_
          (case ha => simp (disch := first | omega | (simp; done) | fail) [wrap64c, if_pos, if_neg, opAnd, opOr, opXor, opDiff, opShr, opBit, hM, g_h0, c1, c2, e1, e2, e23, e24, e25, hlt, hNt, e8, e9, e10, g1, hlk, hs2])
          try simp (disch := first | omega | (simp; done) | fail) [wrap64c, if_pos, if_neg, opAnd, opOr, opXor, opDiff, opShr, opBit, hM, g_h0, c1, c2, e1, e2, e23, e24, e25, hlt, hNt, e8, e9, e10, g1, hlk, hs2]
          first | refine WY_heap fun h1 q_h1 => ?_ | refine callG_heap fun h1 q_h1 => ?_ | refine callP_heap fun h1 q_h1 => ?_ | refine callS_heap fun h1 q_h1 => ?_ | refine RY_heap fun h1 q_h1 => ?_ | refine PY_heap fun h1 q_h1 => ?_ | refine SY_heap fun h1 q_h1 => ?_ | refine doneY_heap fun h1 q_h1 => ?_ | refine loopK_heap fun h1 q_h1 => ?_ | refine thenY_heap fun h1 q_h1 => ?_ | refine thenM_heap fun h1 q_h1 => ?_
          subst q_h1
          refine WD_loopC [1, 2, 8, 9, 10, 12] (fun m tm h' => ∃ i y, m = n - i ∧ tm 11 = y ∧ tm 13 = .int .i64 (i : Int) ∧ (i ≤ n) ∧ (Adds h1 h') ∧ (IntsA h1.next h' y (toN (itemsK o i)))) _ ⟨0, _, rfl, (by simp (disch := first | omega | (simp; done) | fail) [wrap64c, if_pos, if_neg, opAnd, opOr, opXor, opDiff, opShr, opBit, hM, g_h0, c1, c2, e1, e2, e23, e24, e25, hlt, hNt, e8, e9, e10, g1, hlk, hs2]), (by simp (disch := first | omega | (simp; done) | fail) [wrap64c, if_pos, if_neg, opAnd, opOr, opXor, opDiff, opShr, opBit, hM, g_h0, c1, c2, e1, e2, e23, e24, e25, hlt, hNt, e8, e9, e10, g1, hlk, hs2]), (by first | omega | assumption | (simp (disch := first | omega | (simp; done) | fail) [wrap64c, if_pos, if_neg, opAnd, opOr, opXor, opDiff, opShr, opBit, hM, g_h0, c1, c2, e1, e2, e23, e24, e25, hlt, hNt, e8, e9, e10, g1, hlk, hs2] <;> omega)), (adds_self _), (.nil _ _)⟩ ?_
          rintro m tm h' hFr ⟨i, y, rfl, e11, e13, hi, hb, hy⟩
          simp only [FrameL] at hFr
          obtain ⟨f1_2, f2_2, f8_2, f9_2, f10_2, f12_2, -⟩ := hFr
          try simp (disch := first | omega | (simp; done) | fail) [wrap64c, if_pos, if_neg, opAnd, opOr, opXor, opDiff, opShr, opBit, hM, g_h0, c1, c2, e1, e2, e23, e24, e25, hlt, hNt, e8, e9, e10, g1, hlk, hs2] at f1_2 f2_2 f8_2 f9_2 f10_2 f12_2
          have e1 := f1_2
          have e2 := f2_2
          have e8 := f8_2
          have e9 := f9_2
          have e10 := f10_2
          have e12 := f12_2
          have hn3 := hb.1.1
          have g2 : h'.get h.next = .cells [.int .i64 N, b] true true 1 := by rw [hb.1.2 _ (by omega)]; exact g1
          have hle := itemsK_len o i
          by_cases hli : i < n
          · try simp (disch := first | omega | (simp; done) | fail) [wrap64c, if_pos, if_neg, opAnd, opOr, opXor, opDiff, opShr, opBit, hM, g_h0, c1, c2, e1, e2, e23, e24, e25, hlt, hNt, e8, e9, e10, g1, hlk, hs2, e11, e12, e13, g2, hli]
            refine callG_c (by simp) (by simp) ?ha (spIn_ok h' o i (by omega) (by omega)) ?_
            (case ha => simp (disch := first | omega | (simp; done) | fail) [wrap64c, if_pos, if_neg, opAnd, opOr, opXor, opDiff, opShr, opBit, hM, g_h0, c1, c2, e1, e2, e23, e24, e25, hlt, hNt, e8, e9, e10, g1, hlk, hs2, e11, e12, e13, g2, hli])
            have hsn := itemsK_succ o i
            cases hbi : o.testBit i
            · rw [hbi] at hsn
              try simp (disch := first | omega | (simp; done) | fail) [wrap64c, if_pos, if_neg, opAnd, opOr, opXor, opDiff, opShr, opBit, hM, g_h0, c1, c2, e1, e2, e23, e24, e25, hlt, hNt, e8, e9, e10, g1, hlk, hs2, e11, e12, e13, g2, hli, hbi]
              refine loopK_next _ ?hm ?hf ⟨i + 1, y, rfl, (by simp (disch := first | omega | (simp; done) | fail) [wrap64c, if_pos, if_neg, opAnd, opOr, opXor, opDiff, opShr, opBit, hM, g_h0, c1, c2, e1, e2, e23, e24, e25, hlt, hNt, e8, e9, e10, g1, hlk, hs2, e11, e12, e13, g2, hli, hbi] <;> omega), (by simp (disch := first | omega | (simp; done) | fail) [wrap64c, if_pos, if_neg, opAnd, opOr, opXor, opDiff, opShr, opBit, hM, g_h0, c1, c2, e1, e2, e23, e24, e25, hlt, hNt, e8, e9, e10, g1, hlk, hs2, e11, e12, e13, g2, hli, hbi] <;> omega), (by first | omega | assumption | (simp (disch := first | omega | (simp; done) | fail) [wrap64c, if_pos, if_neg, opAnd, opOr, opXor, opDiff, opShr, opBit, hM, g_h0, c1, c2, e1, e2, e23, e24, e25, hlt, hNt, e8, e9, e10, g1, hlk, hs2, e11, e12, e13, g2, hli, hbi] <;> omega)), (by first | omega | assumption | (simp (disch := first | omega | (simp; done) | fail) [wrap64c, if_pos, if_neg, opAnd, opOr, opXor, opDiff, opShr, opBit, hM, g_h0, c1, c2, e1, e2, e23, e24, e25, hlt, hNt, e8, e9, e10, g1, hlk, hs2, e11, e12, e13, g2, hli, hbi] <;> omega)), (by rw [hsn]; exact hy)⟩
              (case hm => first | omega | (simp; omega))
              (case hf => simp [FrameL, hM, g_h0, c1, c2, e1, e2, e23, e24, e25, hlt, hNt, e8, e9, e10, g1, hlk, hs2, e11, e12, e13, g2, hli, hbi, f1_2, f2_2, f8_2, f9_2, f10_2, f12_2])
            · rw [hbi] at hsn
              try simp (disch := first | omega | (simp; done) | fail) [wrap64c, if_pos, if_neg, opAnd, opOr, opXor, opDiff, opShr, opBit, hM, g_h0, c1, c2, e1, e2, e23, e24, e25, hlt, hNt, e8, e9, e10, g1, hlk, hs2, e11, e12, e13, g2, hli, hbi]
              obtain ⟨y2, h2, hap, hy2, ha2, hn4, hs3⟩ := appI hy (i : Int) (by simp; omega) hn3 hb (Nat.le_refl _)
              try simp (disch := first | omega | (simp; done) | fail) [wrap64c, if_pos, if_neg, opAnd, opOr, opXor, opDiff, opShr, opBit, hM, g_h0, c1, c2, e1, e2, e23, e24, e25, hlt, hNt, e8, e9, e10, g1, hlk, hs2, e11, e12, e13, g2, hli, hbi, hap]
              refine loopK_next _ ?hm ?hf ⟨i + 1, y2, rfl, (by simp (disch := first | omega | (simp; done) | fail) [wrap64c, if_pos, if_neg, opAnd, opOr, opXor, opDiff, opShr, opBit, hM, g_h0, c1, c2, e1, e2, e23, e24, e25, hlt, hNt, e8, e9, e10, g1, hlk, hs2, e11, e12, e13, g2, hli, hbi] <;> omega), (by simp (disch := first | omega | (simp; done) | fail) [wrap64c, if_pos, if_neg, opAnd, opOr, opXor, opDiff, opShr, opBit, hM, g_h0, c1, c2, e1, e2, e23, e24, e25, hlt, hNt, e8, e9, e10, g1, hlk, hs2, e11, e12, e13, g2, hli, hbi] <;> omega), (by first | omega | assumption | (simp (disch := first | omega | (simp; done) | fail) [wrap64c, if_pos, if_neg, opAnd, opOr, opXor, opDiff, opShr, opBit, hM, g_h0, c1, c2, e1, e2, e23, e24, e25, hlt, hNt, e8, e9, e10, g1, hlk, hs2, e11, e12, e13, g2, hli, hbi] <;> omega)), (by first | omega | assumption | (simp (disch := first | omega | (simp; done) | fail) [wrap64c, if_pos, if_neg, opAnd, opOr, opXor, opDiff, opShr, opBit, hM, g_h0, c1, c2, e1, e2, e23, e24, e25, hlt, hNt, e8, e9, e10, g1, hlk, hs2, e11, e12, e13, g2, hli, hbi] <;> omega)), (by rw [hsn, if_pos rfl, toN_snoc]; exact hy2)⟩
              (case hm => first | omega | (simp; omega))
              (case hf => simp [FrameL, hM, g_h0, c1, c2, e1, e2, e23, e24, e25, hlt, hNt, e8, e9, e10, g1, hlk, hs2, e11, e12, e13, g2, hli, hbi, f1_2, f2_2, f8_2, f9_2, f10_2, f12_2])
          · have hie : i = n := by omega
            have hKe := itemsK_eq hout n7
            rw [hie, hKe] at hy
            have hil := items_len o
            have hl0 : 0 < (itemsN o).length := List.length_pos_iff.2 hwn
            have hyr := ia_read hy (by simp; omega)
            have hL := hyr.lenD
            have hgt := toN_get (itemsN o)
            have hln := toN_length (itemsN o)
            have hne1 : ¬ itemsN o = [] := hwn
            have hu2 := hu.keep hb.1
            obtain ⟨o_x, i_x, c_x, cs_x, own_x, ex_x, es_x, q_x, b_x, g_x, l_x, r_x⟩ := hyr.open ((by omega))
            have z_x : ∀ h2 : i_x < cs_x.length, cs_x[i_x] = _ := fun h2 => r_x 0 ((by omega)) h2
            by_cases hk2 : k < ch.length
            · obtain ⟨o_c, i_c, c_c, cs_c, own_c, ex_c, es_c, q_c, b_c, g_c, l_c, r_c⟩ := ((hw0.keep ha.1).keep hb.1).open ((by omega))
              have z_c : ∀ h2 : i_c < cs_c.length, cs_c[i_c] = _ := fun h2 => r_c 0 ((by omega)) h2
              obtain ⟨q, hq⟩ : ∃ q : Nat, ch[k] = q := ⟨ch[k].toNat, by have := hcp _ (List.getElem_mem hk2); omega⟩
              have hml := Nat.mod_lt q hl0
              obtain ⟨r, hr⟩ : ∃ r, r = q % (itemsN o).length := ⟨_, rfl⟩
              rw [← hr] at hml
              have hmd : Int.tmod (q : Int) ((itemsN o).length : Int) = r := by rw [Int.tmod_eq_emod_of_nonneg (by omega), hr]; rfl
              have hpk : i0 = (itemsN o)[r] := by
                rw [hi0']
                unfold pickN
                rw [dif_pos hk2, hq, Int.toNat_natCast, ← hr, List.getD_eq_getElem?_getD, List.getElem?_eq_getElem hml]; rfl
              try simp (disch := first | omega | (simp; done) | fail) [wrap64c, if_pos, if_neg, opAnd, opOr, opXor, opDiff, opShr, opBit, hM, g_h0, c1, c2, e1, e2, e23, e24, e25, hlt, hNt, e8, e9, e10, g1, hlk, hs2, e11, e12, e13, g2, hli, hL, hgt, hne1, q_x, g_x, l_x, r_x, z_x, hk2, q_c, g_c, l_c, r_c, z_c, hq, hmd]
              have hgr : ∀ hh, (itemsN o)[r]'hh = i0 := fun _ => hpk.symm
              try simp (disch := first | omega | (simp; done) | fail) [wrap64c, if_pos, if_neg, opAnd, opOr, opXor, opDiff, opShr, opBit, hM, g_h0, c1, c2, e1, e2, e23, e24, e25, hlt, hNt, e8, e9, e10, g1, hlk, hs2, e11, e12, e13, g2, hli, hL, hgt, hne1, q_x, g_x, l_x, r_x, z_x, hk2, q_c, g_c, l_c, r_c, z_c, hq, hmd, hgr]
              obtain ⟨u3, h3, hap, hu3, ha3, hn5, hs3⟩ := appI2 hu2 (i0 : Int) (by omega) (by omega) (ha.trans hb) (Nat.le_refl _)
              obtain ⟨sm3, _⟩ := hs3 (fun q => h1.next ≤ q ∧ q < h'.next) (fun q hq => hq.2) ((ia_off hu (Nat.le_refl _)).mono fun q hq => hq.1)
              have hy3 := (((hy.own (by simp; omega)).read).same sm3).ints
              try simp (disch := first | omega | (simp; done) | fail) [wrap64c, if_pos, if_neg, opAnd, opOr, opXor, opDiff, opShr, opBit, hM, g_h0, c1, c2, e1, e2, e23, e24, e25, hlt, hNt, e8, e9, e10, g1, hlk, hs2, e11, e12, e13, g2, hli, hL, hgt, hne1, q_x, g_x, l_x, r_x, z_x, hk2, q_c, g_c, l_c, r_c, z_c, hq, hmd, hgr, hap]
              obtain ⟨oz, iz, cz, csz, ownz, exz, esz, qz, bz, gz, lz, rz⟩ := hy3.open (by omega)
              rw [q_x] at qz
              cases qz
              have rz0 := rz 0 (by omega)
              simp only [Nat.add_zero] at rz0
              have gz := gz
              try simp (disch := first | omega | (simp; done) | fail) [wrap64c, if_pos, if_neg, opAnd, opOr, opXor, opDiff, opShr, opBit, hM, g_h0, c1, c2, e1, e2, e23, e24, e25, hlt, hNt, e8, e9, e10, g1, hlk, hs2, e11, e12, e13, g2, hli, hL, hgt, hne1, q_x, g_x, l_x, r_x, z_x, hk2, q_c, g_c, l_c, r_c, z_c, hq, hmd, hgr, gz, lz, rz, rz0]
              refine loopK_next _ ?hm ?hf ⟨k + 1, u3, rfl, (by simp (disch := first | omega | (simp; done) | fail) [wrap64c, if_pos, if_neg, opAnd, opOr, opXor, opDiff, opShr, opBit, hM, g_h0, c1, c2, e1, e2, e23, e24, e25, hlt, hNt, e8, e9, e10, g1, hlk, hs2, e11, e12, e13, g2, hli, hL, hgt, hne1, q_x, g_x, l_x, r_x, z_x, hk2, q_c, g_c, l_c, r_c, z_c, hq, hmd, hgr, gz, lz, rz, rz0] <;> omega), (by simp [walkS, ← hs, ← hoe, ← hi0]), (by simp (disch := first | omega | (simp; done) | fail) [wrap64c, if_pos, if_neg, opAnd, opOr, opXor, opDiff, opShr, opBit, hM, g_h0, c1, c2, e1, e2, e23, e24, e25, hlt, hNt, e8, e9, e10, g1, hlk, hs2, e11, e12, e13, g2, hli, hL, hgt, hne1, q_x, g_x, l_x, r_x, z_x, hk2, q_c, g_c, l_c, r_c, z_c, hq, hmd, hgr, gz, lz, rz, rz0] <;> omega), (by first | omega | assumption | (simp (disch := first | omega | (simp; done) | fail) [wrap64c, if_pos, if_neg, opAnd, opOr, opXor, opDiff, opShr, opBit, hM, g_h0, c1, c2, e1, e2, e23, e24, e25, hlt, hNt, e8, e9, e10, g1, hlk, hs2, e11, e12, e13, g2, hli, hL, hgt, hne1, q_x, g_x, l_x, r_x, z_x, hk2, q_c, g_c, l_c, r_c, z_c, hq, hmd, hgr, gz, lz, rz, rz0] <;> omega)), ha3, (by simp only [walkS, ← hs, ← hoe, ← hi0]; rw [toN_snoc]; exact hu3)⟩
              (case hm => first | omega | (simp; omega))
              (case hf => simp [FrameL, hM, g_h0, c1, c2, e1, e2, e23, e24, e25, hlt, hNt, e8, e9, e10, g1, hlk, hs2, e11, e12, e13, g2, hli, hL, hgt, hne1, q_x, g_x, l_x, r_x, z_x, hk2, q_c, g_c, l_c, r_c, z_c, hq, hmd, hgr, gz, lz, rz, rz0, f1_1, f2_1])
            · have hpk : i0 = (itemsN o)[0] := by
                rw [hi0']
                unfold pickN
                rw [dif_neg hk2, List.getD_eq_getElem?_getD, List.getElem?_eq_getElem hl0]; rfl
              try simp (disch := first | omega | (simp; done) | fail) [wrap64c, if_pos, if_neg, opAnd, opOr, opXor, opDiff, opShr, opBit, hM, g_h0, c1, c2, e1, e2, e23, e24, e25, hlt, hNt, e8, e9, e10, g1, hlk, hs2, e11, e12, e13, g2, hli, hL, hgt, hne1, q_x, g_x, l_x, r_x, z_x, hk2]
              have hgr : ∀ hh, (itemsN o)[0]'hh = i0 := fun _ => hpk.symm
              try simp (disch := first | omega | (simp; done) | fail) [wrap64c, if_pos, if_neg, opAnd, opOr, opXor, opDiff, opShr, opBit, hM, g_h0, c1, c2, e1, e2, e23, e24, e25, hlt, hNt, e8, e9, e10, g1, hlk, hs2, e11, e12, e13, g2, hli, hL, hgt, hne1, q_x, g_x, l_x, r_x, z_x, hk2, hgr]
              obtain ⟨u3, h3, hap, hu3, ha3, hn5, hs3⟩ := appI2 hu2 (i0 : Int) (by omega) (by omega) (ha.trans hb) (Nat.le_refl _)
              obtain ⟨sm3, _⟩ := hs3 (fun q => h1.next ≤ q ∧ q < h'.next) (fun q hq => hq.2) ((ia_off hu (Nat.le_refl _)).mono fun q hq => hq.1)
              have hy3 := (((hy.own (by simp; omega)).read).same sm3).ints
              try simp (disch := first | omega | (simp; done) | fail) [wrap64c, if_pos, if_neg, opAnd, opOr, opXor, opDiff, opShr, opBit, hM, g_h0, c1, c2, e1, e2, e23, e24, e25, hlt, hNt, e8, e9, e10, g1, hlk, hs2, e11, e12, e13, g2, hli, hL, hgt, hne1, q_x, g_x, l_x, r_x, z_x, hk2, hgr, hap]
              obtain ⟨oz, iz, cz, csz, ownz, exz, esz, qz, bz, gz, lz, rz⟩ := hy3.open (by omega)
              rw [q_x] at qz
              cases qz
              have rz0 := rz 0 (by omega)
              simp only [Nat.add_zero] at rz0
              have gz := gz
              try simp (disch := first | omega | (simp; done) | fail) [wrap64c, if_pos, if_neg, opAnd, opOr, opXor, opDiff, opShr, opBit, hM, g_h0, c1, c2, e1, e2, e23, e24, e25, hlt, hNt, e8, e9, e10, g1, hlk, hs2, e11, e12, e13, g2, hli, hL, hgt, hne1, q_x, g_x, l_x, r_x, z_x, hk2, hgr, gz, lz, rz, rz0]
              refine loopK_next _ ?hm ?hf ⟨k + 1, u3, rfl, (by simp (disch := first | omega | (simp; done) | fail) [wrap64c, if_pos, if_neg, opAnd, opOr, opXor, opDiff, opShr, opBit, hM, g_h0, c1, c2, e1, e2, e23, e24, e25, hlt, hNt, e8, e9, e10, g1, hlk, hs2, e11, e12, e13, g2, hli, hL, hgt, hne1, q_x, g_x, l_x, r_x, z_x, hk2, hgr, gz, lz, rz, rz0] <;> omega), (by simp [walkS, ← hs, ← hoe, ← hi0]), (by simp (disch := first | omega | (simp; done) | fail) [wrap64c, if_pos, if_neg, opAnd, opOr, opXor, opDiff, opShr, opBit, hM, g_h0, c1, c2, e1, e2, e23, e24, e25, hlt, hNt, e8, e9, e10, g1, hlk, hs2, e11, e12, e13, g2, hli, hL, hgt, hne1, q_x, g_x, l_x, r_x, z_x, hk2, hgr, gz, lz, rz, rz0] <;> omega), (by first | omega | assumption | (simp (disch := first | omega | (simp; done) | fail) [wrap64c, if_pos, if_neg, opAnd, opOr, opXor, opDiff, opShr, opBit, hM, g_h0, c1, c2, e1, e2, e23, e24, e25, hlt, hNt, e8, e9, e10, g1, hlk, hs2, e11, e12, e13, g2, hli, hL, hgt, hne1, q_x, g_x, l_x, r_x, z_x, hk2, hgr, gz, lz, rz, rz0] <;> omega)), ha3, (by simp only [walkS, ← hs, ← hoe, ← hi0]; rw [toN_snoc]; exact hu3)⟩
              (case hm => first | omega | (simp; omega))
              (case hf => simp [FrameL, hM, g_h0, c1, c2, e1, e2, e23, e24, e25, hlt, hNt, e8, e9, e10, g1, hlk, hs2, e11, e12, e13, g2, hli, hL, hgt, hne1, q_x, g_x, l_x, r_x, z_x, hk2, hgr, gz, lz, rz, rz0, f1_1, f2_1])
        · have hke : k = n := by omega
          try simp (disch := first | omega | (simp; done) | fail) [wrap64c, if_pos, if_neg, opAnd, opOr, opXor, opDiff, opShr, opBit, hM, g_h0, c1, c2, e1, e2, e23, e24, e25, hlt, hNt, e8, e9, e10, g1, hlk]
          refine done_ret rfl ⟨k_h0.trans ha, _, by simp [c1, cB]; rfl, ?_⟩
          rw [walkR, if_pos (by simp [c1, cB]), hXe, natsOf_toN, hN, Int.toNat_natCast]
          rw [hke] at hu
          exact (hu.own (by simp [walk_len]; omega)).sub fun o ho => ⟨by have := ho.1; omega, ho.2⟩
end Go.Proofs.YtnncipcldbopgaaGreat
namespace Go.Proofs.YtnncipcldbopgaaGreat
set_option linter.unusedSimpArgs false
set_option linter.unusedVariables false
open Go Go.Eng
theorem walk_set {n : Nat} {xs : List Nat} (g : SpGood n xs) (ch : List Int) : ∀ k, k ≤ n → setF (fam xs) n (toN (walkS (fam xs) n ch k).1) 0 = some (walkS (fam xs) n ch k).2
  | 0, _ => rfl
  | k + 1, hk => by
    obtain ⟨a1, a2, a3⟩ := g.learn (pickN_mem (ch := ch) (k := k) (walk_ne g ch (show k < n by omega)))
    rw [walkS, toN_append, show toN [pickN ch k (itemsN (outerN (fam xs) n (walkS (fam xs) n ch k).2))] = [((pickN ch k (itemsN (outerN (fam xs) n (walkS (fam xs) n ch k).2)) : Nat) : Int)] from rfl, setF_snoc, walk_set g ch k (by omega), Option.bind_some, stepW, if_pos ⟨by omega, by omega, by simpa using a2, by simpa [fam] using a3⟩]
    simp
theorem walk_full {n : Nat} {xs : List Nat} (g : SpGood n xs) (hs : spB (n : Int) (toN xs) = true) (ch : List Int) : fullB (n : Int) (toN xs) (toN (walkS (fam xs) n ch n).1) = true := by
  rw [fullB, wordB, hs, natsOf_toN, Int.toNat_natCast, walk_set g ch n (Nat.le_refl _)]
  simp [toN_length, walk_len]
theorem free_mem {n : Nat} {xs : List Nat} (g : SpGood n xs) {a : Nat} (h : a ∈ freeN n xs) : a < bit n ∧ ndiff (bit n - 1) a ∈ xs ∧ extN n xs a = a := by
  have ha := freeN_lt h
  simp only [freeN, freeK, List.mem_filter, isFreeN, Bool.and_eq_true, beq_iff_eq] at h
  obtain ⟨_, h1, h2⟩ := h
  have hm : ndiff (bit n - 1) a ∈ xs := by unfold fam at h1; exact of_decide_eq_true h1
  refine ⟨ha, hm, ?_⟩
  have := extN_outer g hm
  rw [full_diff ha] at this
  rw [this, h2]
theorem fam_filter {n : Nat} {xs : List Nat} (g : SpGood n xs) : ((List.range (bit n)).filter (fam xs)).length = xs.length := by
  refine List.Perm.length_eq ((List.perm_ext_iff_of_nodup (List.Pairwise.filter _ List.nodup_range) (g.srt.imp fun h e => by omega)).2 fun a => ?_)
  rw [List.mem_filter, List.mem_range]
  unfold fam
  rw [decide_eq_true_eq]
  exact ⟨fun h => h.2, fun h => ⟨g.lt a h, h⟩⟩
theorem all_sets {n : Nat} {xs : List Nat} (g : SpGood n xs) : xs.length = bit n ↔ ∀ a, a < bit n → a ∈ xs := by
  have h := fam_filter g
  have h2 := List.length_filter_eq_length_iff (l := List.range (bit n)) (p := fam xs)
  rw [List.length_range] at h2
  rw [← h, h2]
  unfold fam
  constructor
  · intro q a ha; exact of_decide_eq_true (q a (List.mem_range.2 ha))
  · intro q a ha; exact decide_eq_true (q a (List.mem_range.1 ha))
theorem free_full {n : Nat} {xs : List Nat} (g : SpGood n xs) : bit n - 1 ∈ freeN n xs ↔ xs.length = bit n := by
  have hb := bit_pos n
  have e0 : ndiff (bit n - 1) (bit n - 1) = 0 := (ndiff_zero _ _).2 fun _ h => h
  rw [all_sets g, freeN, freeK, List.mem_filter, List.mem_range, isFreeN, e0, Bool.and_eq_true, beq_iff_eq]
  constructor
  · rintro ⟨_, _, h⟩ a ha
    have hsing : ∀ i, i < n → bit i ∈ xs := fun i hi => by
      have := congrArg (fun z => Nat.testBit z i) h
      simp only [outerN_bit, full_bit, decide_eq_true hi, Nat.zero_testBit, Bool.true_and, Bool.not_false] at this
      unfold fam at this
      have h3 := of_decide_eq_true this
      have e : nOr 0 (bit i) = bit i := by
        apply eq_bits
        intro j
        rw [nOr_bit, Nat.zero_testBit, Bool.false_or]
      rwa [e] at h3
    have key : ∀ k, k ≤ n → ∀ a, a < bit n → (∀ i, k ≤ i → a.testBit i = false) → a ∈ xs := by
      intro k
      induction k with
      | zero =>
        intro _ a ha hz
        have : a = 0 := by
          apply eq_bits
          intro i
          rw [hz i (Nat.zero_le _), Nat.zero_testBit]
        exact this ▸ g.zero
      | succ k ih =>
        intro hk a ha hz
        cases hak : a.testBit k
        · exact ih (by omega) a ha fun i hi => by
            by_cases e : i = k
            · subst e; exact hak
            · exact hz i (by omega)
        · have hx := ih (by omega) (nXor a (bit k)) (xor_lt ha (by omega)) fun i hi => by
            rw [nXor_bit, bit_bit]
            by_cases e : i = k
            · subst e; rw [hak]; simp
            · rw [hz i (by omega), decide_eq_false (fun h => e h.symm)]; rfl
          have hu := g.uni _ hx _ (hsing k (by omega))
          have e : nOr (nXor a (bit k)) (bit k) = a := by
            apply eq_bits
            intro i
            rw [nOr_bit, nXor_bit, bit_bit]
            by_cases e : k = i
            · subst e; rw [hak]; simp
            · rw [decide_eq_false e]; simp
          rwa [e] at hu
    exact key n (Nat.le_refl _) a ha fun i hi => hi_bit ha hi
  · intro h
    refine ⟨by omega, by unfold fam; exact decide_eq_true g.zero, ?_⟩
    apply eq_bits
    intro i
    rw [outerN_bit, full_bit, Nat.zero_testBit]
    by_cases hi : i < n
    · have : nOr 0 (bit i) ∈ xs := h _ (by
        have e : nOr 0 (bit i) = bit i := by
          apply eq_bits
          intro j
          rw [nOr_bit, Nat.zero_testBit, Bool.false_or]
        rw [e]
        exact Nat.pow_lt_pow_right (by omega) hi)
      unfold fam
      simp [hi, this]
    · simp [hi]
theorem count_sum (H : Nat → Nat) (k : Nat) (c : Int) : ∀ l : List Nat, (l.map fun a => if H a = k then c else 0).sum = ((l.filter fun a => H a == k).length : Int) * c
  | [] => by simp
  | a :: l => by
    rw [List.map_cons, List.sum_cons, count_sum H k c l, List.filter_cons]
    by_cases h : H a = k
    · rw [if_pos h, if_pos (by simpa using h), List.length_cons, Int.natCast_add, Int.add_mul]
      simp
      omega
    · rw [if_neg h, if_neg (by simpa using h)]
      omega
theorem sizes_sum {n : Nat} {l : List Nat} (h : ∀ a ∈ l, pcN a ≤ n) : (toN (sizesN n l)).sum = (l.length : Int) := by
  have h1 := sum_swap (fun _ => 1) pcN (n + 1) l (fun a ha => by have := h a ha; omega)
  have h2 : toN (sizesN n l) = (List.range (n + 1)).map fun k => (l.map fun a => if pcN a = k then (1 : Int) else 0).sum := by
    unfold toN sizesN
    rw [List.map_map]
    refine List.map_congr_left fun k _ => ?_
    rw [count_sum pcN k 1 l]
    simp
  rw [h2, h1]
  have : ∀ l : List Nat, (l.map fun _ => (1 : Int)).sum = l.length := by
    intro l
    induction l with
    | nil => rfl
    | cons a l ih => rw [List.map_cons, List.sum_cons, ih, List.length_cons]; omega
  exact this l
def sgS (l : List Int) : Nat → Int
  | 0 => 0
  | j + 1 => sgS l j + l.getD j 0 * (1 - 2 * ((j % 2 : Nat) : Int))
theorem sgS_le {l : List Int} (h : ∀ x ∈ l, 0 ≤ x ∧ x ≤ 128) : ∀ j : Nat, -(128 * (j : Int)) ≤ sgS l j ∧ sgS l j ≤ 128 * (j : Int)
  | 0 => by simp [sgS]
  | j + 1 => by
    have ih := sgS_le h j
    have hx : 0 ≤ l.getD j 0 ∧ l.getD j 0 ≤ 128 := by
      rw [List.getD_eq_getElem?_getD]
      cases e : l[j]? with
      | none => simp
      | some x => exact h x (List.mem_of_getElem? e)
    rw [sgS]
    generalize l.getD j 0 = y at *
    rcases Nat.mod_two_eq_zero_or_one j with e | e <;> rw [e] <;> simp <;> omega
theorem sgS_sum (l : List Int) : ∀ j, sgS l j = ((List.range j).map fun k => l.getD k 0 * (1 - 2 * ((k % 2 : Nat) : Int))).sum
  | 0 => rfl
  | j + 1 => by
    rw [sgS, sgS_sum l j, List.range_succ, List.map_append, List.sum_append]
    simp
theorem signed_zero {n : Nat} {xs : List Nat} (g : SpGood n xs) : sgS (toN (sizesN n (freeN n xs))) (n + 1) = 0 := by
  have hpc : ∀ a ∈ freeN n xs, pcN a < n + 1 := fun a ha => by have := (pcN_lt g.n7 (freeN_lt ha)).1; omega
  have h1 := sum_swap sgnN pcN (n + 1) (freeN n xs) hpc
  rw [free_zero g] at h1
  rw [sgS_sum]
  refine Eq.trans ?_ h1
  refine congrArg List.sum (List.map_congr_left fun k hk => ?_)
  have hk' := List.mem_range.1 hk
  have e1 : (toN (sizesN n (freeN n xs))).getD k 0 = (((freeN n xs).filter fun a => pcN a == k).length : Int) := by
    rw [List.getD_eq_getElem?_getD]
    unfold toN
    rw [List.getElem?_map, List.getElem?_eq_getElem (by simp; omega), sizesN_get]
    rfl
  rw [e1, ← count_sum pcN k]
  refine congrArg List.sum (List.map_congr_left fun a _ => ?_)
  by_cases h : pcN a = k
  · rw [if_pos h, if_pos h, sgnN, h]
  · rw [if_neg h, if_neg h]
end Go.Proofs.YtnncipcldbopgaaGreat
namespace Go.Proofs
open Go.Shelf
def Sorts.lays189_ren : Go.Shelf.Ren := ⟨fun | 189 => 60 | 125 => 123 | 257 => 122 | 128 => 165 | 129 => 166 | 294 => 156 | 295 => 157 | 296 => 158 | 297 => 159 | 298 => 160 | 299 => 161 | 216 => 162 | 300 => 163 | 301 => 164 | 328 => 187 | 329 => 188 | 330 => 189 | 331 => 190 | 332 => 191 | 215 => 192 | 343 => 205 | n => n, fun | 28 => 24 | 3 => 3 | 46 => 101 | 0 => 0 | 51 => 123 | 53 => 70 | 4 => 4 | 183 => 118 | 182 => 117 | 131 => 30 | 5 => 5 | 9 => 9 | 218 => 131 | 222 => 135 | 228 => 143 | 229 => 144 | n => n, fun | n => n⟩
theorem Sorts.lays189 : Go.Proofs.Lays.n189 Tryz.prog Sorts.lays189_ren := {
  mixed := by kernel_rfl
  f125 := Tryz.func123.trans (congrArg some (by kernel_rfl))
  f128 := Tryz.func165.trans (congrArg some (by kernel_rfl))
  f129 := Tryz.func166.trans (congrArg some (by kernel_rfl))
  f189 := Tryz.func60.trans (congrArg some (by kernel_rfl))
  f215 := Tryz.func192.trans (congrArg some (by kernel_rfl))
  f216 := Tryz.func162.trans (congrArg some (by kernel_rfl))
  f257 := Tryz.func122.trans (congrArg some (by kernel_rfl))
  f294 := Tryz.func156.trans (congrArg some (by kernel_rfl))
  f295 := Tryz.func157.trans (congrArg some (by kernel_rfl))
  f296 := Tryz.func158.trans (congrArg some (by kernel_rfl))
  f297 := Tryz.func159.trans (congrArg some (by kernel_rfl))
  f298 := Tryz.func160.trans (congrArg some (by kernel_rfl))
  f299 := Tryz.func161.trans (congrArg some (by kernel_rfl))
  f300 := Tryz.func163.trans (congrArg some (by kernel_rfl))
  f301 := Tryz.func164.trans (congrArg some (by kernel_rfl))
  f328 := Tryz.func187.trans (congrArg some (by kernel_rfl))
  f329 := Tryz.func188.trans (congrArg some (by kernel_rfl))
  f330 := Tryz.func189.trans (congrArg some (by kernel_rfl))
  f331 := Tryz.func190.trans (congrArg some (by kernel_rfl))
  f332 := Tryz.func191.trans (congrArg some (by kernel_rfl))
  f343 := Tryz.func205.trans (congrArg some (by kernel_rfl))
  t0 := Tryz.underlying0
  a0 := Tryz.isAgg0
  z0 := Tryz.sizeOf0
  v0 := Tryz.zeroValue0
  t3 := Tryz.underlying3
  a3 := Tryz.isAgg3
  z3 := Tryz.sizeOf3
  v3 := Tryz.zeroValue3
  t4 := Tryz.underlying4
  a4 := Tryz.isAgg4
  z4 := Tryz.sizeOf4
  v4 := Tryz.zeroValue4
  t5 := Tryz.underlying5
  a5 := Tryz.isAgg5
  z5 := Tryz.sizeOf5
  v5 := Tryz.zeroValue5
  t9 := Tryz.underlying9
  a9 := Tryz.isAgg9
  z9 := Tryz.sizeOf9
  v9 := Tryz.zeroValue9
  t28 := Tryz.underlying24
  a28 := Tryz.isAgg24
  z28 := Tryz.sizeOf24
  v28 := Tryz.zeroValue24
  t46 := Tryz.underlying101
  a46 := Tryz.isAgg101
  z46 := Tryz.sizeOf101
  v46 := Tryz.zeroValue101
  t51 := Tryz.underlying123
  a51 := Tryz.isAgg123
  z51 := Tryz.sizeOf123
  v51 := Tryz.zeroValue123
  t53 := Tryz.underlying70
  a53 := Tryz.isAgg70
  z53 := Tryz.sizeOf70
  v53 := Tryz.zeroValue70
  t131 := Tryz.underlying30
  a131 := Tryz.isAgg30
  z131 := Tryz.sizeOf30
  v131 := Tryz.zeroValue30
  t182 := Tryz.underlying117
  a182 := Tryz.isAgg117
  z182 := Tryz.sizeOf117
  v182 := Tryz.zeroValue117
  t183 := Tryz.underlying118
  a183 := Tryz.isAgg118
  z183 := Tryz.sizeOf118
  v183 := Tryz.zeroValue118
  t218 := Tryz.underlying131
  a218 := Tryz.isAgg131
  z218 := Tryz.sizeOf131
  v218 := Tryz.zeroValue131
  t222 := Tryz.underlying135
  a222 := Tryz.isAgg135
  z222 := Tryz.sizeOf135
  v222 := Tryz.zeroValue135
  t228 := Tryz.underlying143
  a228 := Tryz.isAgg143
  z228 := Tryz.sizeOf143
  v228 := Tryz.zeroValue143
  t229 := Tryz.underlying144
  a229 := Tryz.isAgg144
  z229 := Tryz.sizeOf144
  v229 := Tryz.zeroValue144 }
end Go.Proofs
namespace Go.Eng
open Go.Proofs
theorem step_grow {E : Emb} {base : Nat} {h : Hp} {w : World} (os : Array Obj) (hr : HRel E base h w.heap) : Step E h w E h (Sort.grow w os) ∧ HRel E base h (Sort.grow w os).heap := by
  have old : ∀ b, b < w.heap.size → (Sort.grow w os).heap[b]? = w.heap[b]? := fun b hb => Sort.heap_grow_old w os hb
  refine ⟨⟨Nat.le_refl _, fun _ _ => ⟨Iff.rfl, rfl, rfl, rfl⟩, rfl, rfl, ⟨rfl, Nat.le_refl _⟩, by simp, fun b hb _ => old b hb, fun o hd ho => .inl ⟨o, hd, ho, rfl⟩⟩, ⟨?_, hr.lt, ?_, hr.sep⟩⟩
  · simp; have := hr.le; omega
  · intro o hd
    cases hx : h.get o with
    | dead => trivial
    | _ =>
      have h0 := hr.obj o hd
      have hb := h0.block (by rw [hx]; rfl)
      rw [hx] at h0
      exact h0.mono (fun o ho => ⟨ho, rfl, rfl, rfl⟩) hd (old _ hb)
def sortZ (xs : List Int) : List Int := xs.mergeSort fun x y => decide (x ≤ y)
@[simp] theorem sortZ_len (xs : List Int) : (sortZ xs).length = xs.length := List.length_mergeSort _
theorem sortA_ok {P : Program} {ρ : Go.Shelf.Ren} (Ly : Lays.n189 P ρ) {n : Nat} {h : Hp} {v : Value} {xs : List Int} (hs : IntsA n h v xs) (hl : xs.length < 2 ^ 40) :
    ∃ h', CallOK P (ρ.f 189) #[v] h (.tuple #[]) h' ∧ IntsA n h' v (sortZ xs) ∧ h'.next = h.next ∧ (∀ a, Adds a h → a.next ≤ n → Adds a h') ∧ ∀ o, o < n → h'.get o = h.get o := by
  have one : ∀ {args' : Array Value}, (#[v] : Array Value).size = args'.size → args' = #[args'.getD 0 undef] := by
    intro args' h1
    apply Array.ext
    · simpa using h1.symm
    · intro i h2 h3
      have : i = 0 := by simp at h1; omega
      subst this
      simp [Array.getD_eq_getD_getElem?, h2]
  rcases Nat.eq_zero_or_pos xs.length with h0 | h0
  · have hx : xs = [] := List.eq_nil_of_length_eq_zero h0
    subst hx
    refine ⟨h, ?_, by simpa [sortZ] using hs, rfl, fun _ k _ => k, fun _ _ => rfl⟩
    intro E base w args' hr h1 h2
    have h3 := h2 0 (by simp)
    rw [one h1]
    have hform : ∃ p c, args'.getD 0 undef = .slice p 0 c := by
      rcases hs with ⟨_, e⟩ | ⟨o, ex, e, _⟩
      · simp only [e, Array.getD_eq_getD_getElem?] at h3
        simp only [Array.getD_eq_getD_getElem?]
        generalize (args'[0]?).getD undef = u at h3
        simp at h3
        cases h3
        exact ⟨_, _, rfl⟩
      · simp only [e, Array.getD_eq_getD_getElem?] at h3
        simp only [Array.getD_eq_getD_getElem?]
        generalize (args'[0]?).getD undef = u at h3
        simp at h3
        cases h3
        · exact ⟨_, _, rfl⟩
    obtain ⟨p, c, e⟩ := hform
    rw [e]
    refine (Any.slices_Sort_int_none Ly p c w).mono ?_
    rintro e w' ⟨rfl, rfl⟩
    exact ⟨E, _, rfl, Step.refl _ _ _, hr, .tuple _ _ rfl (fun i hi => absurd hi (by simp))⟩
  · rcases hs with ⟨e, _⟩ | ⟨o, ex, e, g1, g2, g3⟩
    · subst e; simp at h0
    have hown : (h.get o).owned = true := by rw [g3]; rfl
    refine ⟨h.put o (.cells ((sortZ xs).map (.int .i64)) true ex 1), ?_, .inr ⟨o, ex, by simpa using e, g1, g2, by simp [Hp.put]⟩, rfl, ?_, ?_⟩
    · intro E base w args' hr h1 h2
      have h3 := h2 0 (by simp)
      rw [one h1]
      have hform : ∃ sl, args'.getD 0 undef = .slice (some ⟨E.blk o, E.off o, none⟩) xs.length sl ∧ E.D o := by
        simp only [e, Array.getD_eq_getD_getElem?] at h3
        simp only [Array.getD_eq_getD_getElem?]
        generalize (args'[0]?).getD undef = u at h3
        simp at h3
        cases h3 with
        | slice o i n c a hD hn ha =>
          rcases ha with ha | ha
          · omega
          · subst ha; exact ⟨_, rfl, hD⟩
      obtain ⟨sl, e2, hD⟩ := hform
      rw [e2]
      have ho := hr.obj o hD
      rw [g3] at ho
      obtain ⟨C, ty, fz, c1, c2, c3, c4, c5, c6⟩ := ho
      obtain ⟨c5, c7⟩ := c5 rfl
      subst c5
      have hblk : E.blk o < w.heap.size := (Array.getElem?_eq_some_iff.1 c1).1
      simp only [List.length_map] at c2 c3
      have cell : ∀ (d : List Int), d.length = xs.length → ∀ j (hj : j < d.length), (Go.Sort.putCells (Value.int .i64) (E.off o) d.toArray C)[E.off o + j]? = some (.int .i64 d[j]) := by
        intro d hd j hj
        have hc : E.off o + j < C.size := by omega
        simp only [Go.Sort.putCells, Array.getElem?_mapIdx, Array.getElem?_eq_getElem hc, Option.map_some]
        rw [if_pos ⟨by omega, by simp; omega⟩]
        have : E.off o + j - E.off o = j := by omega
        simp [this, hj]
      have hH : Go.Sort.Holds (Value.int .i64) w (E.blk o) (E.off o) xs.toArray := by
        intro j hj
        have hj' : j < xs.length := by simpa using hj
        have hc : E.off o + j < C.size := by omega
        have h4 := c3 j hj'
        simp [List.getD_eq_getElem?_getD, hj', Array.getD_eq_getD_getElem?, hc] at h4
        refine ⟨?_, ?_⟩
        · simp only [World.cell?, c1]
          rw [Array.getElem?_eq_getElem hc]
          generalize C[E.off o + j] = u at h4
          cases h4
          simp [hj']
        · simp [World.frozen?, c1]
      refine (Any.slices_Sort_int Ly (E.blk o) (E.off o) sl xs w hH hblk (by omega)).mono ?_
      rintro e w' ⟨rfl, m, os, rfl⟩
      have hs1 : ((sortZ xs).toArray).size = xs.length := by simp
      have step1 := step_put (w' := Go.Sort.putRow (Value.int .i64) (Sort.ahead w m) (E.blk o) (E.off o) (sortZ xs).toArray) hr o (.cells ((sortZ xs).map (.int .i64)) true ex 1) hD hown (by simp)
        (fun b hb => by
          simp only [Go.Sort.putRow, Go.Sort.mapBlock, Sort.heap_ahead, Array.getElem?_modify]
          rw [if_neg (fun e => hb e.symm)]) rfl rfl ⟨rfl, by simp [Go.Sort.putRow, Go.Sort.mapBlock, Sort.ahead]⟩
        ⟨Go.Sort.putCells (Value.int .i64) (E.off o) (sortZ xs).toArray C, ty, (0, 0), by simp [Go.Sort.putRow, Go.Sort.mapBlock, Array.getElem?_modify, c1, Go.Sort.onCells], by simp [Go.Sort.putCells]; omega, fun j hj => by
          have hj' : j < (sortZ xs).length := by simpa using hj
          have := cell (sortZ xs) (by simp) j hj'
          simp only [Array.getD_eq_getD_getElem?, this, List.getD_eq_getElem?_getD]
          simp only [sortZ_len] at hj'
          simp [hj']
          exact .int _ _, fun j hj => by
          have hj' : j < xs.length := by simpa using hj
          simp [List.getD_eq_getElem?_getD, hj']; rfl, fun _ => ⟨rfl, c7⟩, c6⟩
      obtain ⟨s1, r1⟩ := step1
      obtain ⟨s2, r2⟩ := step_grow os r1
      exact ⟨E, _, rfl, s1.trans s2, r2, .tuple _ _ rfl (fun i hi => absurd hi (by simp))⟩
    · intro a ha hn
      exact ha.wr (S := fun i => i = o) (Wr.put (S := fun i => i = o) (Wr.refl _ h) (o := o) rfl (fun _ => rfl)) (fun i hi => by omega)
    · intro i hi
      simp [Hp.put, show i ≠ o by omega]
end Go.Eng
namespace Go.Proofs.YtnncipcldbopgaaGreat
set_option linter.unusedSimpArgs false
set_option linter.unusedVariables false
set_option maxHeartbeats 4000000
open Go Go.Eng
attribute [local irreducible] WD RunD PreD Runs CallOK
theorem sort_ok {n : Nat} {h : Hp} {v : Value} {xs : List Int} (hs : IntsA n h v xs) (hl : xs.length < 2 ^ 40) :
    ∃ h', CallOK Tryz.prog 60 #[v] h (.tuple #[]) h' ∧ IntsA n h' v (sortZ xs) ∧ h'.next = h.next ∧ (∀ a, Adds a h → a.next ≤ n → Adds a h') ∧ ∀ o, o < n → h'.get o = h.get o :=
  sortA_ok Sorts.lays189 hs hl
def ownB (n : Nat) (xs : List Nat) (x : Nat) : Bool := extN n xs (ndiff (bit n - 1) x) == ndiff (bit n - 1) x
def ownL (n : Nat) (xs l : List Nat) : List Nat := (l.filter (ownB n xs)).map fun x => ndiff (bit n - 1) x
theorem ownL_snoc (n : Nat) (xs l : List Nat) (a : Nat) : ownL n xs (l ++ [a]) = if ownB n xs a = true then ownL n xs l ++ [ndiff (bit n - 1) a] else ownL n xs l := by
  unfold ownL
  rw [List.filter_append]
  by_cases h : ownB n xs a = true <;> simp [h]
theorem ownL_len (n : Nat) (xs l : List Nat) : (ownL n xs l).length ≤ l.length := by
  unfold ownL
  have := List.length_filter_le (ownB n xs) l
  simpa using this
theorem ndiff_full {n x : Nat} (h : x < bit n) : ndiff (bit n - 1) (ndiff (bit n - 1) x) = x := by
  apply eq_bits
  intro i
  rw [ndiff_bit, ndiff_bit, full_bit]
  by_cases hi : i < n
  · simp [hi]
  · rw [hi_bit h (by omega)]; simp [hi]
theorem ownL_mem {n : Nat} {xs : List Nat} (g : SpGood n xs) (a : Nat) : a ∈ ownL n xs xs ↔ a ∈ freeN n xs := by
  have hb := bit_pos n
  simp only [ownL, freeN, freeK, List.mem_map, List.mem_filter, List.mem_range, ownB, isFreeN, beq_iff_eq, Bool.and_eq_true]
  constructor
  · rintro ⟨x, ⟨hx, h1⟩, rfl⟩
    have hxn := g.lt x hx
    rw [extN_outer g hx] at h1
    refine ⟨ndiff_lt (by omega), ?_, ?_⟩
    · rw [ndiff_full hxn]; simpa [fam] using hx
    · rw [ndiff_full hxn]; exact h1
  · rintro ⟨h1, h2, h3⟩
    have hx : ndiff (bit n - 1) a ∈ xs := by simpa [fam] using h2
    refine ⟨_, ⟨hx, ?_⟩, ndiff_full h1⟩
    rw [extN_outer g hx, ndiff_full h1]; exact h3
theorem nodup_toN {l : List Nat} (h : l.Nodup) : (toN l).Nodup := by
  unfold toN
  exact List.Pairwise.map _ (fun a b hab e => hab (by omega)) h
theorem sort_own {n : Nat} {xs : List Nat} (g : SpGood n xs) : sortZ (toN (ownL n xs xs)) = toN (freeN n xs) := by
  have hf : (freeN n xs).Pairwise (· < ·) := by
    unfold freeN freeK
    exact List.Pairwise.filter _ List.pairwise_lt_range
  have hfn : (freeN n xs).Nodup := hf.imp fun h e => by omega
  have hxn : xs.Nodup := g.srt.imp fun h e => by omega
  have hon : (ownL n xs xs).Nodup := by
    unfold ownL
    refine List.pairwise_map.2 ?_
    have h1 : (xs.filter (ownB n xs)).Nodup := List.Pairwise.filter _ hxn
    refine List.Pairwise.imp_of_mem ?_ h1
    intro a b ha hb hab e
    have ha' := g.lt a (List.mem_filter.1 ha).1
    have hb' := g.lt b (List.mem_filter.1 hb).1
    exact hab (by rw [← ndiff_full ha', ← ndiff_full hb', e])
  have hperm : (toN (ownL n xs xs)).Perm (toN (freeN n xs)) := by
    rw [List.perm_ext_iff_of_nodup (nodup_toN hon) (nodup_toN hfn)]
    intro a
    constructor
    · intro h
      obtain ⟨b, rfl, hb⟩ := mem_toN' h
      exact mem_toN.2 ((ownL_mem g b).1 hb)
    · intro h
      obtain ⟨b, rfl, hb⟩ := mem_toN' h
      exact mem_toN.2 ((ownL_mem g b).2 hb)
  refine List.Perm.eq_of_pairwise (le := fun a b : Int => a ≤ b) (fun a b _ _ h1 h2 => by omega) ?_ ?_ ((List.mergeSort_perm _ _).trans hperm)
  · have := List.pairwise_mergeSort (le := fun x y : Int => decide (x ≤ y)) (fun a b c h1 h2 => by simp at *; omega) (fun a b => by simp; omega) (toN (ownL n xs xs))
    exact this.imp fun h => by simpa using h
  · exact (toN_srt.2 hf).imp fun h => by omega
noncomputable def freeR (N : Int) (X : List Int) : List Int := if spB N X = true then toN (freeN N.toNat (natsOf X)) else []
theorem freeN_len {n : Nat} (hn : n ≤ 7) (xs : List Nat) : (freeN n xs).length ≤ 128 := by
  have h1 := freeK_len n xs (bit n)
  have h2 := bit7 hn
  unfold freeN; omega
theorem implFree_ok (h : Hp) (v : Value) (N : Int) (X : List Int) (hv : Space h v N X) (hl : X.length < 2 ^ 40) :
    ∃ v' h', CallOK Tryz.prog 8 #[v] h v' h' ∧ Adds h h' ∧ ∃ u, v' = .tuple #[u, .bool (spB N X)] ∧ IntsO (Btw h.next h'.next) h' u (freeR N X) := by
  refine callY_L (args := [v]) 36 _ [.tmp 2, .tmp 3] Tryz.func8 rfl rfl rfl ?_
  obtain ⟨b, rfl, hX⟩ := hv
  refine WD_first ?_
  try simp (disch := first | omega | (simp; done) | fail) [wrap64c, if_pos, if_neg, opAnd, opOr, opXor, opDiff, opShr, opBit]
  refine stopK_heap fun h0 q_h0 => ?_
  refine stopK_go ?_
  have g_h0 : h0.get h.next = .cells [.int .i64 N, b] true true 1 := by simp [q_h0]
  have k_h0 : Adds h h0 := by rw [q_h0]; exact (by first | exact aK | exact kK)
  have n_h0 : h.next < h0.next := by simp [q_h0]; try omega
  have hX0 := hX.keep k_h0.1
  have K0 := k_h0.1
  try simp (disch := first | omega | (simp; done) | fail) [wrap64c, if_pos, if_neg, opAnd, opOr, opXor, opDiff, opShr, opBit, g_h0]
  refine callG_c (by simp) (by simp) ?ha (isSpace_ok h0 (.agg #[.int .i64 N, b]) N X (.mk hX0) hl) ?_
  (case ha => simp (disch := first | omega | (simp; done) | fail) [wrap64c, if_pos, if_neg, opAnd, opOr, opXor, opDiff, opShr, opBit, g_h0])
  cases c1 : spB N X
  · try simp (disch := first | omega | (simp; done) | fail) [wrap64c, if_pos, if_neg, opAnd, opOr, opXor, opDiff, opShr, opBit, g_h0, c1]
    refine done_ret rfl ⟨k_h0, _, by simp [c1]; rfl, ?_⟩
    rw [freeR, if_neg (by simp [c1])]
    exact .nil _ _
  · obtain ⟨n, xs, hN, hXe, g⟩ := spB_true c1
    have hNt : N = (n : Int) := hN
    have hX1 : Ints h0 b (toN xs) := hXe ▸ hX0
    have hL := hX1.lenD
    have hgt := toN_get xs
    have hln := toN_length xs
    have hl' := g.len7
    have n7 := g.n7
    have hb7 := bit7 g.n7
    try simp (disch := first | omega | (simp; done) | fail) [wrap64c, if_pos, if_neg, opAnd, opOr, opXor, opDiff, opShr, opBit, g_h0, c1, hNt, hL, hgt]
    refine WD_loopC [1, 13, 14] (fun m tm h' => ∃ j u, m = xs.length - j ∧ tm 4 = u ∧ tm 15 = .int .i64 (j : Int) ∧ (j ≤ xs.length) ∧ (Adds h h') ∧ (Keeps h0 h') ∧ (h'.get h.next = .cells [.int .i64 n, b] true true 1) ∧ (IntsA h0.next h' u (toN (ownL n xs (xs.take j))))) _ ⟨0, _, rfl, (by simp (disch := first | omega | (simp; done) | fail) [wrap64c, if_pos, if_neg, opAnd, opOr, opXor, opDiff, opShr, opBit, g_h0, c1, hNt, hL, hgt]), (by simp (disch := first | omega | (simp; done) | fail) [wrap64c, if_pos, if_neg, opAnd, opOr, opXor, opDiff, opShr, opBit, g_h0, c1, hNt, hL, hgt]), (by first | omega | assumption | (simp (disch := first | omega | (simp; done) | fail) [wrap64c, if_pos, if_neg, opAnd, opOr, opXor, opDiff, opShr, opBit, g_h0, c1, hNt, hL, hgt] <;> omega)), (by first | exact aK | exact kK), (by simp), (by simp [g_h0, hNt, show ¬ h.next = h0.next by omega]), (.lit (ex := true) (Nat.le_refl _) (by simp) (by simp [ownL, toN]))⟩ ?_
    rintro m tm h' hFr ⟨j, u, rfl, e4, e15, hj, ha, ha0, hg, hu⟩
    simp only [FrameL] at hFr
    obtain ⟨f1_0, f13_0, f14_0, -⟩ := hFr
    try simp (disch := first | omega | (simp; done) | fail) [wrap64c, if_pos, if_neg, opAnd, opOr, opXor, opDiff, opShr, opBit, g_h0, c1, hNt, hL, hgt] at f1_0 f13_0 f14_0
    have e1 := f1_0
    have e13 := f13_0
    have e14 := f14_0
    by_cases hlt : j < xs.length
    · have hxj := g.lt _ (List.getElem_mem hlt)
      have hX2 := hX1.keep ha0
      have hd := ndiff128 (a := bit n - 1) (b := xs[j]) (by omega)
      have hs : ownL n xs (xs.take (j + 1)) = if ownB n xs xs[j] = true then ownL n xs (xs.take j) ++ [ndiff (bit n - 1) xs[j]] else ownL n xs (xs.take j) := by rw [List.take_succ_eq_append_getElem hlt]; exact ownL_snoc _ _ _ _
      have hle := ownL_len n xs (xs.take j)
      have hlt2 : (xs.take j).length ≤ 128 := by simp; omega
      obtain ⟨o_x, i_x, c_x, cs_x, own_x, ex_x, es_x, q_x, b_x, g_x, l_x, r_x⟩ := hX2.open ((by omega))
      have z_x : ∀ h2 : i_x < cs_x.length, cs_x[i_x] = _ := fun h2 => r_x 0 ((by omega)) h2
      try simp (disch := first | omega | (simp; done) | fail) [wrap64c, if_pos, if_neg, opAnd, opOr, opXor, opDiff, opShr, opBit, g_h0, c1, hNt, hL, hgt, e1, e4, e13, e14, e15, hg, hlt, q_x, g_x, l_x, r_x, z_x]
      refine callG_c (by simp) (by simp) ?ha (all_ok h' (.agg #[.int .i64 n, b]) n (toN xs) (.mk hX2) (by omega)) ?_
      (case ha => simp (disch := first | omega | (simp; done) | fail) [wrap64c, if_pos, if_neg, opAnd, opOr, opXor, opDiff, opShr, opBit, g_h0, c1, hNt, hL, hgt, e1, e4, e13, e14, e15, hg, hlt, q_x, g_x, l_x, r_x, z_x])
      try simp (disch := first | omega | (simp; done) | fail) [wrap64c, if_pos, if_neg, opAnd, opOr, opXor, opDiff, opShr, opBit, g_h0, c1, hNt, hL, hgt, e1, e4, e13, e14, e15, hg, hlt, q_x, g_x, l_x, r_x, z_x]
      refine callG_c (by simp) (by simp) ?ha (extreme_ok h' (.agg #[.int .i64 n, b]) n xs (ndiff (bit n - 1) xs[j]) (.mk hX2) g.n7 g.lt7 hd (by omega)) ?_
      (case ha => simp (disch := first | omega | (simp; done) | fail) [wrap64c, if_pos, if_neg, opAnd, opOr, opXor, opDiff, opShr, opBit, g_h0, c1, hNt, hL, hgt, e1, e4, e13, e14, e15, hg, hlt, q_x, g_x, l_x, r_x, z_x])
      by_cases hc : extN n xs (ndiff (bit n - 1) xs[j]) = ndiff (bit n - 1) xs[j]
      · have ho : ownB n xs xs[j] = true := by simp [ownB, hc]
        rw [if_pos ho] at hs
        try simp (disch := first | omega | (simp; done) | fail) [wrap64c, if_pos, if_neg, opAnd, opOr, opXor, opDiff, opShr, opBit, g_h0, c1, hNt, hL, hgt, e1, e4, e13, e14, e15, hg, hlt, q_x, g_x, l_x, r_x, z_x, hc]
        obtain ⟨u2, h2, hap, hu2, ha2, hn2, hs2⟩ := appI hu ((ndiff (bit n - 1) xs[j] : Nat) : Int) (by simp; omega) ha0.1 ha (by omega)
        try simp (disch := first | omega | (simp; done) | fail) [wrap64c, if_pos, if_neg, opAnd, opOr, opXor, opDiff, opShr, opBit, g_h0, c1, hNt, hL, hgt, e1, e4, e13, e14, e15, hg, hlt, q_x, g_x, l_x, r_x, z_x, hc, hap]
        refine loopK_next _ ?hm ?hf ⟨j + 1, u2, rfl, (by simp (disch := first | omega | (simp; done) | fail) [wrap64c, if_pos, if_neg, opAnd, opOr, opXor, opDiff, opShr, opBit, g_h0, c1, hNt, hL, hgt, e1, e4, e13, e14, e15, hg, hlt, q_x, g_x, l_x, r_x, z_x, hc] <;> omega), (by simp (disch := first | omega | (simp; done) | fail) [wrap64c, if_pos, if_neg, opAnd, opOr, opXor, opDiff, opShr, opBit, g_h0, c1, hNt, hL, hgt, e1, e4, e13, e14, e15, hg, hlt, q_x, g_x, l_x, r_x, z_x, hc] <;> omega), (by first | omega | assumption | (simp (disch := first | omega | (simp; done) | fail) [wrap64c, if_pos, if_neg, opAnd, opOr, opXor, opDiff, opShr, opBit, g_h0, c1, hNt, hL, hgt, e1, e4, e13, e14, e15, hg, hlt, q_x, g_x, l_x, r_x, z_x, hc] <;> omega)), (by first | omega | assumption | (simp (disch := first | omega | (simp; done) | fail) [wrap64c, if_pos, if_neg, opAnd, opOr, opXor, opDiff, opShr, opBit, g_h0, c1, hNt, hL, hgt, e1, e4, e13, e14, e15, hg, hlt, q_x, g_x, l_x, r_x, z_x, hc] <;> omega)), ⟨by have := ha0.1; omega, fun o ho => (hs2 o (by have := ha0.1; omega) ho).trans (ha0.2 o ho)⟩, ((hs2 h.next (by have := ha0.1; omega) (by omega)).trans hg), (by rw [hs, toN_snoc]; exact hu2)⟩
        (case hm => first | omega | (simp; omega))
        (case hf => simp [FrameL, g_h0, c1, hNt, hL, hgt, e1, e4, e13, e14, e15, hg, hlt, q_x, g_x, l_x, r_x, z_x, hc, f1_0, f13_0, f14_0])
      · have ho : ¬ ownB n xs xs[j] = true := by simp [ownB, hc]
        rw [if_neg ho] at hs
        have hci : ¬ ((extN n xs (ndiff (bit n - 1) xs[j]) : Nat) : Int) = ((ndiff (bit n - 1) xs[j] : Nat) : Int) := by omega
        try simp (disch := first | omega | (simp; done) | fail) [wrap64c, if_pos, if_neg, opAnd, opOr, opXor, opDiff, opShr, opBit, g_h0, c1, hNt, hL, hgt, e1, e4, e13, e14, e15, hg, hlt, q_x, g_x, l_x, r_x, z_x, hc, hci]
        refine loopK_next _ ?hm ?hf ⟨j + 1, u, rfl, (by simp (disch := first | omega | (simp; done) | fail) [wrap64c, if_pos, if_neg, opAnd, opOr, opXor, opDiff, opShr, opBit, g_h0, c1, hNt, hL, hgt, e1, e4, e13, e14, e15, hg, hlt, q_x, g_x, l_x, r_x, z_x, hc, hci] <;> omega), (by simp (disch := first | omega | (simp; done) | fail) [wrap64c, if_pos, if_neg, opAnd, opOr, opXor, opDiff, opShr, opBit, g_h0, c1, hNt, hL, hgt, e1, e4, e13, e14, e15, hg, hlt, q_x, g_x, l_x, r_x, z_x, hc, hci] <;> omega), (by first | omega | assumption | (simp (disch := first | omega | (simp; done) | fail) [wrap64c, if_pos, if_neg, opAnd, opOr, opXor, opDiff, opShr, opBit, g_h0, c1, hNt, hL, hgt, e1, e4, e13, e14, e15, hg, hlt, q_x, g_x, l_x, r_x, z_x, hc, hci] <;> omega)), (by first | omega | assumption | (simp (disch := first | omega | (simp; done) | fail) [wrap64c, if_pos, if_neg, opAnd, opOr, opXor, opDiff, opShr, opBit, g_h0, c1, hNt, hL, hgt, e1, e4, e13, e14, e15, hg, hlt, q_x, g_x, l_x, r_x, z_x, hc, hci] <;> omega)), (by first | omega | assumption | (simp (disch := first | omega | (simp; done) | fail) [wrap64c, if_pos, if_neg, opAnd, opOr, opXor, opDiff, opShr, opBit, g_h0, c1, hNt, hL, hgt, e1, e4, e13, e14, e15, hg, hlt, q_x, g_x, l_x, r_x, z_x, hc, hci] <;> omega)), (by first | omega | assumption | (simp (disch := first | omega | (simp; done) | fail) [wrap64c, if_pos, if_neg, opAnd, opOr, opXor, opDiff, opShr, opBit, g_h0, c1, hNt, hL, hgt, e1, e4, e13, e14, e15, hg, hlt, q_x, g_x, l_x, r_x, z_x, hc, hci] <;> omega)), (by rw [hs]; exact hu)⟩
        (case hm => first | omega | (simp; omega))
        (case hf => simp [FrameL, g_h0, c1, hNt, hL, hgt, e1, e4, e13, e14, e15, hg, hlt, q_x, g_x, l_x, r_x, z_x, hc, hci, f1_0, f13_0, f14_0])
    · try simp (disch := first | omega | (simp; done) | fail) [wrap64c, if_pos, if_neg, opAnd, opOr, opXor, opDiff, opShr, opBit, g_h0, c1, hNt, hL, hgt, e1, e4, e13, e14, e15, hg, hlt]
      rw [List.take_of_length_le (by omega)] at hu
      have hle := ownL_len n xs xs
      obtain ⟨h2, hc2, hu2, hn2, ha2, hs2⟩ := sort_ok hu (by simp; omega)
      refine callG_c (by simp) (by simp) ?ha (hc2) ?_
      (case ha => simp (disch := first | omega | (simp; done) | fail) [wrap64c, if_pos, if_neg, opAnd, opOr, opXor, opDiff, opShr, opBit, g_h0, c1, hNt, hL, hgt, e1, e4, e13, e14, e15, hg, hlt])
      try simp (disch := first | omega | (simp; done) | fail) [wrap64c, if_pos, if_neg, opAnd, opOr, opXor, opDiff, opShr, opBit, g_h0, c1, hNt, hL, hgt, e1, e4, e13, e14, e15, hg, hlt]
      have ha3 := ha2 h ha (by omega)
      rw [sort_own g] at hu2
      have hfl := freeN_len g.n7 xs
      refine done_ret rfl ⟨ha3, _, by simp [c1]; rfl, ?_⟩
      rw [freeR, if_pos c1, hXe, natsOf_toN, hN, Int.toNat_natCast]
      exact (hu2.own (by simp; omega)).sub fun o ho => ⟨by have := ho.1; omega, ho.2⟩
theorem specFree_ok (h : Hp) (v : Value) (N : Int) (X : List Int) (hv : Space h v N X) (hl : X.length < 2 ^ 40) :
    ∃ v' h', CallOK Tryz.prog 9 #[v] h v' h' ∧ Adds h h' ∧ ∃ u, v' = .tuple #[u, .bool (spB N X)] ∧ IntsO (Btw h.next h'.next) h' u (freeR N X) := by
  refine callY_L (args := [v]) 9 _ [.tmp 2, .tmp 3] Tryz.func9 rfl rfl rfl ?_
  obtain ⟨b, rfl, hX⟩ := hv
  refine WD_first ?_
  try simp (disch := first | omega | (simp; done) | fail) [wrap64c, if_pos, if_neg, opAnd, opOr, opXor, opDiff, opShr, opBit]
  refine stopK_heap fun h0 q_h0 => ?_
  refine stopK_go ?_
  have g_h0 : h0.get h.next = .cells [.int .i64 N, b] true true 1 := by simp [q_h0]
  have k_h0 : Adds h h0 := by rw [q_h0]; exact (by first | exact aK | exact kK)
  have n_h0 : h.next < h0.next := by simp [q_h0]; try omega
  have hX0 := hX.keep k_h0.1
  have K0 := k_h0.1
  try simp (disch := first | omega | (simp; done) | fail) [wrap64c, if_pos, if_neg, opAnd, opOr, opXor, opDiff, opShr, opBit, g_h0]
  refine callG_c (by simp) (by simp) ?ha (spGood_ok h0 (.agg #[.int .i64 N, b]) N X (.mk hX0) hl) ?_
  (case ha => simp (disch := first | omega | (simp; done) | fail) [wrap64c, if_pos, if_neg, opAnd, opOr, opXor, opDiff, opShr, opBit, g_h0])
  cases c1 : spB N X
  · try simp (disch := first | omega | (simp; done) | fail) [wrap64c, if_pos, if_neg, opAnd, opOr, opXor, opDiff, opShr, opBit, g_h0, c1]
    refine done_ret rfl ⟨k_h0, _, by simp [c1]; rfl, ?_⟩
    rw [freeR, if_neg (by simp [c1])]
    exact .nil _ _
  · obtain ⟨n, xs, hN, hXe, g⟩ := spB_true c1
    have hNt : N = (n : Int) := hN
    have hX1 : Ints h0 b (toN xs) := hXe ▸ hX0
    have hl' := g.len7
    obtain ⟨u, h1, hc1, ha1, hi1⟩ := alFree_ok h0 (.agg #[.int .i64 n, b]) n xs (.mk hX1) g.n7 (by omega) g.srt
    try simp (disch := first | omega | (simp; done) | fail) [wrap64c, if_pos, if_neg, opAnd, opOr, opXor, opDiff, opShr, opBit, g_h0, c1, hNt]
    refine callG_c (by simp) (by simp) ?ha (hc1) ?_
    (case ha => simp (disch := first | omega | (simp; done) | fail) [wrap64c, if_pos, if_neg, opAnd, opOr, opXor, opDiff, opShr, opBit, g_h0, c1, hNt])
    try simp (disch := first | omega | (simp; done) | fail) [wrap64c, if_pos, if_neg, opAnd, opOr, opXor, opDiff, opShr, opBit, g_h0, c1, hNt]
    refine done_ret rfl ⟨k_h0.trans ha1, _, by simp [c1]; rfl, ?_⟩
    rw [freeR, if_pos c1, hXe, natsOf_toN, hN, Int.toNat_natCast]
    exact hi1.sub fun o ho => ⟨by have := ho.1; omega, ho.2⟩
noncomputable def freeSizesR (N : Int) (X : List Int) : List Int := if spB N X = true then toN (sizesN N.toNat (freeN N.toNat (natsOf X))) else []
theorem implFreeSizes_ok (h : Hp) (v : Value) (N : Int) (X : List Int) (hv : Space h v N X) (hl : X.length < 2 ^ 40) :
    ∃ v' h', CallOK Tryz.prog 10 #[v] h v' h' ∧ Adds h h' ∧ ∃ u, v' = .tuple #[u, .bool (spB N X)] ∧ IntsO (Btw h.next h'.next) h' u (freeSizesR N X) := by
  refine callY_L (args := [v]) 17 _ [.tmp 2, .tmp 3] Tryz.func10 rfl rfl rfl ?_
  obtain ⟨b, rfl, hX⟩ := hv
  refine WD_first ?_
  try simp (disch := first | omega | (simp; done) | fail) [wrap64c, if_pos, if_neg, opAnd, opOr, opXor, opDiff, opShr, opBit]
  refine stopK_heap fun h0 q_h0 => ?_
  refine stopK_go ?_
  have g_h0 : h0.get h.next = .cells [.int .i64 N, b] true true 1 := by simp [q_h0]
  have k_h0 : Adds h h0 := by rw [q_h0]; exact (by first | exact aK | exact kK)
  have n_h0 : h.next < h0.next := by simp [q_h0]; try omega
  have hX0 := hX.keep k_h0.1
  have K0 := k_h0.1
  try simp (disch := first | omega | (simp; done) | fail) [wrap64c, if_pos, if_neg, opAnd, opOr, opXor, opDiff, opShr, opBit, g_h0]
  obtain ⟨v1, h1, hc1, ha1, u1, rfl, hi1⟩ := implFree_ok h0 (.agg #[.int .i64 N, b]) N X (.mk hX0) hl
  refine callG_c (by simp) (by simp) ?ha (hc1) ?_
  (case ha => simp (disch := first | omega | (simp; done) | fail) [wrap64c, if_pos, if_neg, opAnd, opOr, opXor, opDiff, opShr, opBit, g_h0])
  have nt1 := hi1.nt
  have hg1 : h1.get h.next = .cells [.int .i64 N, b] true true 1 := by rw [ha1.1.2 h.next (by omega)]; exact g_h0
  cases c1 : spB N X
  · try simp (disch := first | omega | (simp; done) | fail) [wrap64c, if_pos, if_neg, opAnd, opOr, opXor, opDiff, opShr, opBit, g_h0, nt1, hg1, c1]
    refine done_ret rfl ⟨k_h0.trans ha1, _, by simp [c1]; rfl, ?_⟩
    rw [freeSizesR, if_neg (by simp [c1])]
    exact .nil _ _
  · obtain ⟨n, xs, hN, hXe, g⟩ := spB_true c1
    have hNt : N = (n : Int) := hN
    have hl' := freeN_len g.n7 xs
    have hi2 : IntsO (Btw h0.next h1.next) h1 u1 (toN (freeN n xs)) := by
      rw [freeR, if_pos c1, hXe, natsOf_toN, hN, Int.toNat_natCast] at hi1; exact hi1
    try simp (disch := first | omega | (simp; done) | fail) [wrap64c, if_pos, if_neg, opAnd, opOr, opXor, opDiff, opShr, opBit, g_h0, nt1, hg1, c1, hNt]
    obtain ⟨u, h2, hc2, ha2, hi3⟩ := bySize_ok h1 u1 n (freeN n xs) hi2.ints g.n7 (by omega) (fun x hx => freeN_lt hx)
    refine callG_c (by simp) (by simp) ?ha (hc2) ?_
    (case ha => simp (disch := first | omega | (simp; done) | fail) [wrap64c, if_pos, if_neg, opAnd, opOr, opXor, opDiff, opShr, opBit, g_h0, nt1, hg1, c1, hNt])
    try simp (disch := first | omega | (simp; done) | fail) [wrap64c, if_pos, if_neg, opAnd, opOr, opXor, opDiff, opShr, opBit, g_h0, nt1, hg1, c1, hNt]
    refine done_ret rfl ⟨(k_h0.trans ha1).trans ha2, _, by simp [c1]; rfl, ?_⟩
    rw [freeSizesR, if_pos c1, hXe, natsOf_toN, hN, Int.toNat_natCast]
    exact hi3.sub fun o ho => ⟨by have := ho.1; have := ha1.1.1; omega, ho.2⟩
theorem specFreeSizes_ok (h : Hp) (v : Value) (N : Int) (X : List Int) (hv : Space h v N X) (hl : X.length < 2 ^ 40) :
    ∃ v' h', CallOK Tryz.prog 11 #[v] h v' h' ∧ Adds h h' ∧ ∃ u, v' = .tuple #[u, .bool (spB N X)] ∧ IntsO (Btw h.next h'.next) h' u (freeSizesR N X) := by
  refine callY_L (args := [v]) 30 _ [.tmp 2, .tmp 3] Tryz.func11 rfl rfl rfl ?_
  obtain ⟨b, rfl, hX⟩ := hv
  refine WD_first ?_
  try simp (disch := first | omega | (simp; done) | fail) [wrap64c, if_pos, if_neg, opAnd, opOr, opXor, opDiff, opShr, opBit]
  refine stopK_heap fun h0 q_h0 => ?_
  refine stopK_go ?_
  have g_h0 : h0.get h.next = .cells [.int .i64 N, b] true true 1 := by simp [q_h0]
  have k_h0 : Adds h h0 := by rw [q_h0]; exact (by first | exact aK | exact kK)
  have n_h0 : h.next < h0.next := by simp [q_h0]; try omega
  have hX0 := hX.keep k_h0.1
  have K0 := k_h0.1
  try simp (disch := first | omega | (simp; done) | fail) [wrap64c, if_pos, if_neg, opAnd, opOr, opXor, opDiff, opShr, opBit, g_h0]
  refine callG_c (by simp) (by simp) ?ha (spGood_ok h0 (.agg #[.int .i64 N, b]) N X (.mk hX0) hl) ?_
  (case ha => simp (disch := first | omega | (simp; done) | fail) [wrap64c, if_pos, if_neg, opAnd, opOr, opXor, opDiff, opShr, opBit, g_h0])
  cases c1 : spB N X
  · try simp (disch := first | omega | (simp; done) | fail) [wrap64c, if_pos, if_neg, opAnd, opOr, opXor, opDiff, opShr, opBit, g_h0, c1]
    refine done_ret rfl ⟨k_h0, _, by simp [c1]; rfl, ?_⟩
    rw [freeSizesR, if_neg (by simp [c1])]
    exact .nil _ _
  · obtain ⟨n, xs, hN, hXe, g⟩ := spB_true c1
    have hNt : N = (n : Int) := hN
    have hX1 : Ints h0 b (toN xs) := hXe ▸ hX0
    have n7 := g.n7
    have hb7 := bit7 n7
    have hl' := g.len7
    try simp (disch := first | omega | (simp; done) | fail) [wrap64c, if_pos, if_neg, opAnd, opOr, opXor, opDiff, opShr, opBit, g_h0, c1, hNt]
    first | refine WY_heap fun h1 q_h1 => ?_ | refine callG_heap fun h1 q_h1 => ?_ | refine callP_heap fun h1 q_h1 => ?_ | refine callS_heap fun h1 q_h1 => ?_ | refine RY_heap fun h1 q_h1 => ?_ | refine PY_heap fun h1 q_h1 => ?_ | refine SY_heap fun h1 q_h1 => ?_ | refine doneY_heap fun h1 q_h1 => ?_ | refine loopK_heap fun h1 q_h1 => ?_ | refine thenY_heap fun h1 q_h1 => ?_ | refine thenM_heap fun h1 q_h1 => ?_
    have ha1 : Adds h0 h1 := by rw [q_h1]; exact (by first | exact aK | exact kK)
    have g1 : h1.get h0.next = .cells (sizesC n []) true true 1 := by rw [q_h1]; simp [sizesC_zero]
    have gb : h1.get h.next = .cells [.int .i64 n, b] true true 1 := by rw [ha1.1.2 h.next (by omega), g_h0, hNt]
    have n1 : h1.next = h0.next + 1 := by rw [q_h1]; simp
    try simp (disch := first | omega | (simp; done) | fail) [wrap64c, if_pos, if_neg, opAnd, opOr, opXor, opDiff, opShr, opBit, g_h0, c1, hNt, gb]
    obtain ⟨w, h2, hc2, ha2, hi2⟩ := alFree_ok h1 (.agg #[.int .i64 n, b]) n xs (.mk (hX1.keep ha1.1)) n7 (by omega) g.srt
    refine callG_c (by simp) (by simp) ?ha (hc2) ?_
    (case ha => simp (disch := first | omega | (simp; done) | fail) [wrap64c, if_pos, if_neg, opAnd, opOr, opXor, opDiff, opShr, opBit, g_h0, c1, hNt, gb])
    have hL := hi2.lenD
    have hgt := toN_get (freeN n xs)
    have hln := toN_length (freeN n xs)
    have hfl := freeN_len n7 xs
    have g2 : h2.get h0.next = .cells (sizesC n []) true true 1 := by rw [ha2.1.2 _ (by omega)]; exact g1
    have n2 := ha2.1.1
    have k2 := (k_h0.trans ha1).trans ha2
    try simp (disch := first | omega | (simp; done) | fail) [wrap64c, if_pos, if_neg, opAnd, opOr, opXor, opDiff, opShr, opBit, g_h0, c1, hNt, gb, hL, hgt]
    refine WD_loopC [4, 15, 16] (fun m tm h' => ∃ j, m = (freeN n xs).length - j ∧ tm 17 = .int .i64 (j : Int) ∧ (j ≤ (freeN n xs).length) ∧ (Adds h h') ∧ (Same (Btw h1.next h2.next) h2 h') ∧ (h'.next = h2.next) ∧ (h'.get h0.next = .cells (sizesC n ((freeN n xs).take j)) true true 1)) _ ⟨0, rfl, (by simp (disch := first | omega | (simp; done) | fail) [wrap64c, if_pos, if_neg, opAnd, opOr, opXor, opDiff, opShr, opBit, g_h0, c1, hNt, gb, hL, hgt]), (by first | omega | assumption | (simp (disch := first | omega | (simp; done) | fail) [wrap64c, if_pos, if_neg, opAnd, opOr, opXor, opDiff, opShr, opBit, g_h0, c1, hNt, gb, hL, hgt] <;> omega)), k2, (.refl _ _), rfl, (by simpa using g2)⟩ ?_
    rintro m tm h' hFr ⟨j, rfl, e17, hj, ha, hsm, hn1, hg⟩
    simp only [FrameL] at hFr
    obtain ⟨f4_0, f15_0, f16_0, -⟩ := hFr
    try simp (disch := first | omega | (simp; done) | fail) [wrap64c, if_pos, if_neg, opAnd, opOr, opXor, opDiff, opShr, opBit, g_h0, c1, hNt, gb, hL, hgt] at f4_0 f15_0 f16_0
    have e4 := f4_0
    have e15 := f15_0
    have e16 := f16_0
    by_cases hlt : j < (freeN n xs).length
    · have hxj := freeN_lt (List.getElem_mem hlt)
      have hp := (pcN_lt n7 hxj).1
      have hX3 := (hi2.same hsm).ints
      obtain ⟨o_x, i_x, c_x, cs_x, own_x, ex_x, es_x, q_x, b_x, g_x, l_x, r_x⟩ := hX3.open ((by omega))
      have z_x : ∀ h2 : i_x < cs_x.length, cs_x[i_x] = _ := fun h2 => r_x 0 ((by omega)) h2
      obtain ⟨y, hy1, hy2, hy3, hy4⟩ := sizesC_step hlt hp
      try simp (disch := first | omega | (simp; done) | fail) [wrap64c, if_pos, if_neg, opAnd, opOr, opXor, opDiff, opShr, opBit, g_h0, c1, hNt, gb, hL, hgt, e4, e15, e16, e17, hg, hlt, q_x, g_x, l_x, r_x, z_x, hy2, hy3]
      refine callG_c (by simp) (by simp) ?ha (spCount_ok h' (freeN n xs)[j] (by omega)) ?_
      (case ha => simp (disch := first | omega | (simp; done) | fail) [wrap64c, if_pos, if_neg, opAnd, opOr, opXor, opDiff, opShr, opBit, g_h0, c1, hNt, gb, hL, hgt, e4, e15, e16, e17, hg, hlt, q_x, g_x, l_x, r_x, z_x, hy2, hy3])
      try simp (disch := first | omega | (simp; done) | fail) [wrap64c, if_pos, if_neg, opAnd, opOr, opXor, opDiff, opShr, opBit, g_h0, c1, hNt, gb, hL, hgt, e4, e15, e16, e17, hg, hlt, q_x, g_x, l_x, r_x, z_x, hy2, hy3]
      refine loopK_next _ ?hm ?hf ⟨j + 1, rfl, (by simp (disch := first | omega | (simp; done) | fail) [wrap64c, if_pos, if_neg, opAnd, opOr, opXor, opDiff, opShr, opBit, g_h0, c1, hNt, gb, hL, hgt, e4, e15, e16, e17, hg, hlt, q_x, g_x, l_x, r_x, z_x, hy2, hy3] <;> omega), (by first | omega | assumption | (simp (disch := first | omega | (simp; done) | fail) [wrap64c, if_pos, if_neg, opAnd, opOr, opXor, opDiff, opShr, opBit, g_h0, c1, hNt, gb, hL, hgt, e4, e15, e16, e17, hg, hlt, q_x, g_x, l_x, r_x, z_x, hy2, hy3] <;> omega)), (by first | exact aK | exact kK), (hsm.put (fun e => by have := e.1; omega) _), (by simpa using hn1), (by rw [← hy4]; simp [putCells_one, show pcN (freeN n xs)[j] < n + 1 by omega])⟩
      (case hm => first | omega | (simp; omega))
      (case hf => simp [FrameL, g_h0, c1, hNt, gb, hL, hgt, e4, e15, e16, e17, hg, hlt, q_x, g_x, l_x, r_x, z_x, hy2, hy3, f4_0, f15_0, f16_0])
    · try simp (disch := first | omega | (simp; done) | fail) [wrap64c, if_pos, if_neg, opAnd, opOr, opXor, opDiff, opShr, opBit, g_h0, c1, hNt, gb, hL, hgt, e4, e15, e16, e17, hg, hlt]
      rw [List.take_of_length_le (by omega)] at hg
      refine done_ret rfl ⟨ha, _, by simp [c1]; rfl, ?_⟩
      rw [freeSizesR, if_pos c1, hXe, natsOf_toN, hN, Int.toNat_natCast]
      have := IntsO.mk (S := Btw h.next h'.next) (h := h') (o := h0.next) (xs := toN (sizesN n (freeN n xs))) (ex := true) ⟨by omega, by omega⟩ (by omega) (by simp; omega) hg
      simpa using this
def altF : List Nat → Int → Int
  | [], s => s
  | a :: l, s => altF l (s + (1 - 2 * ((pcN a % 2 : Nat) : Int)))
theorem altF_snoc (a : Nat) : ∀ (l : List Nat) (s : Int), altF (l ++ [a]) s = altF l s + (1 - 2 * ((pcN a % 2 : Nat) : Int))
  | [], s => by simp [altF]
  | x :: l, s => by simp only [List.cons_append, altF, altF_snoc a l]
def altN (l : List Nat) : Int := altF l 0
theorem altN_snoc (l : List Nat) (a : Nat) : altN (l ++ [a]) = altN l + (1 - 2 * ((pcN a % 2 : Nat) : Int)) := altF_snoc a l 0
theorem altF_le : ∀ (l : List Nat) (s : Int), s - l.length ≤ altF l s ∧ altF l s ≤ s + l.length
  | [], s => by simp [altF]
  | a :: l, s => by
    have := altF_le l (s + (1 - 2 * ((pcN a % 2 : Nat) : Int)))
    rw [altF]
    simp only [List.length_cons]
    omega
theorem altN_le (l : List Nat) : -(l.length : Int) ≤ altN l ∧ altN l ≤ l.length := by
  have := altF_le l 0
  unfold altN; omega
theorem tmod_2 (p : Nat) : Int.tmod (p : Int) 2 = ((p % 2 : Nat) : Int) := by
  rw [Int.tmod_eq_emod_of_nonneg (by omega)]; simp
noncomputable def altR (N : Int) (X : List Int) : Int := if spB N X = true then altN (freeN N.toNat (natsOf X)) else 0
theorem implAlt_ok (h : Hp) (v : Value) (N : Int) (X : List Int) (hv : Space h v N X) (hl : X.length < 2 ^ 40) :
    CallOK Tryz.prog 12 #[v] h (.tuple #[.int .i64 (altR N X), .bool (spB N X)]) h := by
  refine callY_P 30 _ [.tmp 2, .tmp 3] Tryz.func12 rfl rfl rfl (by first | rfl | simp) ?_
  obtain ⟨b, rfl, hX⟩ := hv
  refine WD_first ?_
  try simp (disch := first | omega | (simp; done) | fail) [wrap64c, if_pos, if_neg, opAnd, opOr, opXor, opDiff, opShr, opBit]
  refine stopK_heap fun h0 q_h0 => ?_
  refine stopK_go ?_
  have g_h0 : h0.get h.next = .cells [.int .i64 N, b] true true 1 := by simp [q_h0]
  have k_h0 : Adds h h0 := by rw [q_h0]; exact (by first | exact aK | exact kK)
  have n_h0 : h.next < h0.next := by simp [q_h0]; try omega
  have hX0 := hX.keep k_h0.1
  have K0 := k_h0.1
  try simp (disch := first | omega | (simp; done) | fail) [wrap64c, if_pos, if_neg, opAnd, opOr, opXor, opDiff, opShr, opBit, g_h0]
  obtain ⟨v1, h1, hc1, ha1, u1, rfl, hi1⟩ := implFree_ok h0 (.agg #[.int .i64 N, b]) N X (.mk hX0) hl
  refine callG_c (by simp) (by simp) ?ha (hc1) ?_
  (case ha => simp (disch := first | omega | (simp; done) | fail) [wrap64c, if_pos, if_neg, opAnd, opOr, opXor, opDiff, opShr, opBit, g_h0])
  have nt1 := hi1.nt
  obtain ⟨ys, hy1, hy2, hy3, hy4⟩ : ∃ ys : List Nat, freeR N X = toN ys ∧ ys.length ≤ 128 ∧ altR N X = altN ys ∧ ∀ a ∈ ys, a < 128 := by
    cases c1 : spB N X
    · exact ⟨[], by simp [freeR, c1, toN], by simp, by simp [altR, c1, altN, altF], by simp⟩
    · obtain ⟨n, xs, hN, hXe, g⟩ := spB_true c1
      refine ⟨freeN n xs, by rw [freeR, if_pos c1, hXe, natsOf_toN, hN, Int.toNat_natCast], freeN_len g.n7 xs, by rw [altR, if_pos c1, hXe, natsOf_toN, hN, Int.toNat_natCast], fun a ha => ?_⟩
      have h1 := freeN_lt ha
      have h2 := bit7 g.n7
      omega
  rw [hy1] at hi1
  have hL := hi1.lenD
  have hgt := toN_get ys
  have hln := toN_length ys
  try simp (disch := first | omega | (simp; done) | fail) [wrap64c, if_pos, if_neg, opAnd, opOr, opXor, opDiff, opShr, opBit, g_h0, nt1, hL, hgt]
  refine WD_loopC [5, 14, 15] (fun m tm h' => ∃ j, m = ys.length - j ∧ h1 = h' ∧ tm 6 = .int .i64 (altN (ys.take j)) ∧ tm 16 = .int .i64 (j : Int) ∧ (j ≤ ys.length)) _ ⟨0, rfl, rfl, (by simp [altN, altF]), (by simp (disch := first | omega | (simp; done) | fail) [wrap64c, if_pos, if_neg, opAnd, opOr, opXor, opDiff, opShr, opBit, g_h0, nt1, hL, hgt]), (by first | omega | assumption | (simp (disch := first | omega | (simp; done) | fail) [wrap64c, if_pos, if_neg, opAnd, opOr, opXor, opDiff, opShr, opBit, g_h0, nt1, hL, hgt] <;> omega))⟩ ?_
  rintro m tm h' hFr ⟨j, rfl, rfl, e6, e16, hj⟩
  simp only [FrameL] at hFr
  obtain ⟨f5_0, f14_0, f15_0, -⟩ := hFr
  try simp (disch := first | omega | (simp; done) | fail) [wrap64c, if_pos, if_neg, opAnd, opOr, opXor, opDiff, opShr, opBit, g_h0, nt1, hL, hgt] at f5_0 f14_0 f15_0
  have e5 := f5_0
  have e14 := f14_0
  have e15 := f15_0
  by_cases hlt : j < ys.length
  · have hxj := hy4 _ (List.getElem_mem hlt)
    have hs := altN_snoc (ys.take j) ys[j]
    rw [← List.take_succ_eq_append_getElem hlt] at hs
    have hle := altN_le (ys.take j)
    have hlj : (ys.take j).length ≤ 128 := by simp; omega
    have hpc := pcN_le ys[j]
    have ht := tmod_2 (pcN ys[j])
    obtain ⟨o_x, i_x, c_x, cs_x, own_x, ex_x, es_x, q_x, b_x, g_x, l_x, r_x⟩ := hi1.ints.open ((by omega))
    have z_x : ∀ h2 : i_x < cs_x.length, cs_x[i_x] = _ := fun h2 => r_x 0 ((by omega)) h2
    try simp (disch := first | omega | (simp; done) | fail) [wrap64c, if_pos, if_neg, opAnd, opOr, opXor, opDiff, opShr, opBit, g_h0, nt1, hL, hgt, e5, e6, e14, e15, e16, hlt, ht, q_x, g_x, l_x, r_x, z_x]
    refine callG_c (by simp) (by simp) ?ha (count_ok h1 ys[j] hxj) ?_
    (case ha => simp (disch := first | omega | (simp; done) | fail) [wrap64c, if_pos, if_neg, opAnd, opOr, opXor, opDiff, opShr, opBit, g_h0, nt1, hL, hgt, e5, e6, e14, e15, e16, hlt, ht, q_x, g_x, l_x, r_x, z_x])
    try simp (disch := first | omega | (simp; done) | fail) [wrap64c, if_pos, if_neg, opAnd, opOr, opXor, opDiff, opShr, opBit, g_h0, nt1, hL, hgt, e5, e6, e14, e15, e16, hlt, ht, q_x, g_x, l_x, r_x, z_x]
    refine loopK_next _ ?hm ?hf ⟨j + 1, rfl, rfl, (by simp [hs, e6]), (by simp (disch := first | omega | (simp; done) | fail) [wrap64c, if_pos, if_neg, opAnd, opOr, opXor, opDiff, opShr, opBit, g_h0, nt1, hL, hgt, e5, e6, e14, e15, e16, hlt, ht, q_x, g_x, l_x, r_x, z_x] <;> omega), (by first | omega | assumption | (simp (disch := first | omega | (simp; done) | fail) [wrap64c, if_pos, if_neg, opAnd, opOr, opXor, opDiff, opShr, opBit, g_h0, nt1, hL, hgt, e5, e6, e14, e15, e16, hlt, ht, q_x, g_x, l_x, r_x, z_x] <;> omega))⟩
    (case hm => first | omega | (simp; omega))
    (case hf => simp [FrameL, g_h0, nt1, hL, hgt, e5, e6, e14, e15, e16, hlt, ht, q_x, g_x, l_x, r_x, z_x, f5_0, f14_0, f15_0])
  · try simp (disch := first | omega | (simp; done) | fail) [wrap64c, if_pos, if_neg, opAnd, opOr, opXor, opDiff, opShr, opBit, g_h0, nt1, hL, hgt, e5, e6, e14, e15, e16, hlt]
    exact done_ret rfl (by simp [hy3, List.take_of_length_le (show ys.length ≤ j by omega), K0.trans ha1.1])
theorem specAlt_ok (h : Hp) (v : Value) (N : Int) (X : List Int) (hv : Space h v N X) (hl : X.length < 2 ^ 40) :
    CallOK Tryz.prog 13 #[v] h (.tuple #[.int .i64 (altR N X), .bool (spB N X)]) h := by
  refine callY_P 26 _ [.tmp 2, .tmp 3] Tryz.func13 rfl rfl rfl (by first | rfl | simp) ?_
  obtain ⟨b, rfl, hX⟩ := hv
  refine WD_first ?_
  try simp (disch := first | omega | (simp; done) | fail) [wrap64c, if_pos, if_neg, opAnd, opOr, opXor, opDiff, opShr, opBit]
  refine stopK_heap fun h0 q_h0 => ?_
  refine stopK_go ?_
  have g_h0 : h0.get h.next = .cells [.int .i64 N, b] true true 1 := by simp [q_h0]
  have k_h0 : Adds h h0 := by rw [q_h0]; exact (by first | exact aK | exact kK)
  have n_h0 : h.next < h0.next := by simp [q_h0]; try omega
  have hX0 := hX.keep k_h0.1
  have K0 := k_h0.1
  try simp (disch := first | omega | (simp; done) | fail) [wrap64c, if_pos, if_neg, opAnd, opOr, opXor, opDiff, opShr, opBit, g_h0]
  refine callG_c (by simp) (by simp) ?ha (spGood_ok h0 (.agg #[.int .i64 N, b]) N X (.mk hX0) hl) ?_
  (case ha => simp (disch := first | omega | (simp; done) | fail) [wrap64c, if_pos, if_neg, opAnd, opOr, opXor, opDiff, opShr, opBit, g_h0])
  cases c1 : spB N X
  · try simp (disch := first | omega | (simp; done) | fail) [wrap64c, if_pos, if_neg, opAnd, opOr, opXor, opDiff, opShr, opBit, g_h0, c1]
    exact done_ret rfl (by simp [altR, c1, K0])
  · obtain ⟨n, xs, hN, hXe, g⟩ := spB_true c1
    have hNt : N = (n : Int) := hN
    have hX1 : Ints h0 b (toN xs) := hXe ▸ hX0
    have n7 := g.n7
    have hb7 := bit7 n7
    have hl' := g.len7
    have hA : altR N X = altN (freeN n xs) := by rw [altR, if_pos c1, hXe, natsOf_toN, hN, Int.toNat_natCast]
    try simp (disch := first | omega | (simp; done) | fail) [wrap64c, if_pos, if_neg, opAnd, opOr, opXor, opDiff, opShr, opBit, g_h0, c1, hNt]
    obtain ⟨w, h1, hc2, ha2, hi2⟩ := alFree_ok h0 (.agg #[.int .i64 n, b]) n xs (.mk hX1) n7 (by omega) g.srt
    refine callG_c (by simp) (by simp) ?ha (hc2) ?_
    (case ha => simp (disch := first | omega | (simp; done) | fail) [wrap64c, if_pos, if_neg, opAnd, opOr, opXor, opDiff, opShr, opBit, g_h0, c1, hNt])
    have hL := hi2.lenD
    have hgt := toN_get (freeN n xs)
    have hln := toN_length (freeN n xs)
    have hfl := freeN_len n7 xs
    try simp (disch := first | omega | (simp; done) | fail) [wrap64c, if_pos, if_neg, opAnd, opOr, opXor, opDiff, opShr, opBit, g_h0, c1, hNt, hL, hgt]
    refine WD_loopC [11, 12] (fun m tm h' => ∃ j, m = (freeN n xs).length - j ∧ h1 = h' ∧ tm 4 = .int .i64 (altN ((freeN n xs).take j)) ∧ tm 13 = .int .i64 (j : Int) ∧ (j ≤ (freeN n xs).length)) _ ⟨0, rfl, rfl, (by simp [altN, altF]), (by simp (disch := first | omega | (simp; done) | fail) [wrap64c, if_pos, if_neg, opAnd, opOr, opXor, opDiff, opShr, opBit, g_h0, c1, hNt, hL, hgt]), (by first | omega | assumption | (simp (disch := first | omega | (simp; done) | fail) [wrap64c, if_pos, if_neg, opAnd, opOr, opXor, opDiff, opShr, opBit, g_h0, c1, hNt, hL, hgt] <;> omega))⟩ ?_
    rintro m tm h' hFr ⟨j, rfl, rfl, e4, e13, hj⟩
    simp only [FrameL] at hFr
    obtain ⟨f11_0, f12_0, -⟩ := hFr
    try simp (disch := first | omega | (simp; done) | fail) [wrap64c, if_pos, if_neg, opAnd, opOr, opXor, opDiff, opShr, opBit, g_h0, c1, hNt, hL, hgt] at f11_0 f12_0
    have e11 := f11_0
    have e12 := f12_0
    by_cases hlt : j < (freeN n xs).length
    · have hxj := freeN_lt (List.getElem_mem hlt)
      have hs := altN_snoc ((freeN n xs).take j) (freeN n xs)[j]
      rw [← List.take_succ_eq_append_getElem hlt] at hs
      have hle := altN_le ((freeN n xs).take j)
      have hlj : ((freeN n xs).take j).length ≤ 128 := by simp; omega
      have hpc := pcN_le (freeN n xs)[j]
      have ht := tmod_2 (pcN (freeN n xs)[j])
      obtain ⟨o_x, i_x, c_x, cs_x, own_x, ex_x, es_x, q_x, b_x, g_x, l_x, r_x⟩ := hi2.ints.open ((by omega))
      have z_x : ∀ h2 : i_x < cs_x.length, cs_x[i_x] = _ := fun h2 => r_x 0 ((by omega)) h2
      try simp (disch := first | omega | (simp; done) | fail) [wrap64c, if_pos, if_neg, opAnd, opOr, opXor, opDiff, opShr, opBit, g_h0, c1, hNt, hL, hgt, e4, e11, e12, e13, hlt, ht, q_x, g_x, l_x, r_x, z_x]
      refine callG_c (by simp) (by simp) ?ha (spCount_ok h1 (freeN n xs)[j] (by omega)) ?_
      (case ha => simp (disch := first | omega | (simp; done) | fail) [wrap64c, if_pos, if_neg, opAnd, opOr, opXor, opDiff, opShr, opBit, g_h0, c1, hNt, hL, hgt, e4, e11, e12, e13, hlt, ht, q_x, g_x, l_x, r_x, z_x])
      try simp (disch := first | omega | (simp; done) | fail) [wrap64c, if_pos, if_neg, opAnd, opOr, opXor, opDiff, opShr, opBit, g_h0, c1, hNt, hL, hgt, e4, e11, e12, e13, hlt, ht, q_x, g_x, l_x, r_x, z_x]
      refine loopK_next _ ?hm ?hf ⟨j + 1, rfl, rfl, (by simp [hs, e4]), (by simp (disch := first | omega | (simp; done) | fail) [wrap64c, if_pos, if_neg, opAnd, opOr, opXor, opDiff, opShr, opBit, g_h0, c1, hNt, hL, hgt, e4, e11, e12, e13, hlt, ht, q_x, g_x, l_x, r_x, z_x] <;> omega), (by first | omega | assumption | (simp (disch := first | omega | (simp; done) | fail) [wrap64c, if_pos, if_neg, opAnd, opOr, opXor, opDiff, opShr, opBit, g_h0, c1, hNt, hL, hgt, e4, e11, e12, e13, hlt, ht, q_x, g_x, l_x, r_x, z_x] <;> omega))⟩
      (case hm => first | omega | (simp; omega))
      (case hf => simp [FrameL, g_h0, c1, hNt, hL, hgt, e4, e11, e12, e13, hlt, ht, q_x, g_x, l_x, r_x, z_x, f11_0, f12_0])
    · try simp (disch := first | omega | (simp; done) | fail) [wrap64c, if_pos, if_neg, opAnd, opOr, opXor, opDiff, opShr, opBit, g_h0, c1, hNt, hL, hgt, e4, e11, e12, e13, hlt]
      exact done_ret rfl (by simp [hA, c1, List.take_of_length_le (show (freeN n xs).length ≤ j by omega), K0.trans ha2.1])
end Go.Proofs.YtnncipcldbopgaaGreat
namespace Go.Proofs.YtnncipcldbopgaaGreat
set_option linter.unusedSimpArgs false
set_option linter.unusedVariables false
set_option maxHeartbeats 4000000
set_option maxRecDepth 20000
open Go Go.Eng
attribute [local irreducible] WD RunD PreD Runs CallOK
theorem altN_sum (l : List Nat) : altN l = (l.map sgnN).sum := by
  have : ∀ (l : List Nat) (s : Int), altF l s = s + (l.map sgnN).sum := by
    intro l
    induction l with
    | nil => intro s; simp [altF]
    | cons a l ih => intro s; rw [altF, ih, List.map_cons, List.sum_cons, sgnN]; omega
  rw [altN, this]; omega
theorem lawFreeSetsAlternate_ok (h0 : Hp) (v : Value) (xs : List Int) (hv : Bytes h0 v xs) (w : Value) (ys : List Int) (hw : Bytes h0 w ys) : CallOK Tryz.prog 3 #[v, w] h0 (.bool true) h0 := by
  have ntv := hv.nt
  have csv := hv.cs
  have ntw := hw.nt
  have csw := hw.cs
  refine callY_P 290 _ [.tmp 4] Tryz.func3 rfl rfl rfl (by first | rfl | simp) ?_
  try simp (disch := first | omega | (simp; done) | fail) [wrap64c, if_pos, if_neg, opAnd, opOr, opXor, opDiff, opShr, opBit, ntv, csv, ntw, csw]
  refine callG_c (by simp) (by simp) ?ha (big_ok h0 _ _ _ _ hv hw) ?_
  (case ha => simp (disch := first | omega | (simp; done) | fail) [wrap64c, if_pos, if_neg, opAnd, opOr, opXor, opDiff, opShr, opBit, ntv, csv, ntw, csw])
  by_cases hbig : 1048576 < xs.length ∨ 1048576 - (xs.length : Int) < ys.length
  case pos =>
    try simp (disch := first | omega | (simp; done) | fail) [wrap64c, if_pos, if_neg, opAnd, opOr, opXor, opDiff, opShr, opBit, ntv, csv, ntw, csw, hbig]
    exact done_ret rfl (by simp)
  have lxs : xs.length ≤ 1048576 := by omega
  have lys : ys.length ≤ 1048576 := by omega
  try simp (disch := first | omega | (simp; done) | fail) [wrap64c, if_pos, if_neg, opAnd, opOr, opXor, opDiff, opShr, opBit, ntv, csv, ntw, csw, hbig]
  have K0 : Keeps h0 h0 := .refl _
  obtain ⟨_, h1, p1, a1, s1, N, X, rfl, hC, lX⟩ := drawFree_ok h0 v xs (bytes_old hv)
  refine callG_c (by simp) (by simp) ?ha (p1) ?_
  (case ha => simp (disch := first | omega | (simp; done) | fail) [wrap64c, if_pos, if_neg, opAnd, opOr, opXor, opDiff, opShr, opBit, ntv, csv, ntw, csw, hbig])
  have n1 := a1.1.1
  have K1 := K0.trans a1.1
  have hv := hv.keep a1.1
  have hw := hw.keep a1.1
  obtain ⟨sv1, rfl, hsv1⟩ := hC
  have hsv1 := hsv1.ints
  have ntsv1 := hsv1.nt
  have cssv1 := hsv1.cs
  have lnsv1 := hsv1.lenD
  have hC : Space h1 (.agg #[.int .i64 N, sv1]) N X := .mk hsv1
  try simp (disch := first | omega | (simp; done) | fail) [wrap64c, if_pos, if_neg, opAnd, opOr, opXor, opDiff, opShr, opBit, ntv, csv, ntw, csw, hbig, ntsv1, cssv1, lnsv1, putCells]
  first | refine WY_heap fun h2 q_h2 => ?_ | refine callG_heap fun h2 q_h2 => ?_ | refine callP_heap fun h2 q_h2 => ?_ | refine callS_heap fun h2 q_h2 => ?_ | refine RY_heap fun h2 q_h2 => ?_ | refine PY_heap fun h2 q_h2 => ?_ | refine SY_heap fun h2 q_h2 => ?_ | refine doneY_heap fun h2 q_h2 => ?_ | refine loopK_heap fun h2 q_h2 => ?_ | refine thenY_heap fun h2 q_h2 => ?_ | refine thenM_heap fun h2 q_h2 => ?_
  have b2 : Adds h1 h2 := by rw [q_h2]; exact (by first | exact aK | exact kK)
  have n2 := b2.1.1
  have K2 := K1.trans b2.1
  have hv := hv.keep b2.1
  have hw := hw.keep b2.1
  have hC := hC.keep b2.1
  have m2 : h2.next = h1.next + 1 := by simp [q_h2]
  have gs : h2.get h1.next = .cells [.int .i64 N, sv1] true true 1 := by simp [q_h2]
  have lX' : X.length < 2 ^ 40 := by omega
  obtain ⟨_, h3, p3, a3, u1, rfl, hu1⟩ := implFree_ok h2 _ N X hC lX'
  refine callG_c (by simp) (by simp) ?ha (p3) ?_
  (case ha => simp (disch := first | omega | (simp; done) | fail) [wrap64c, if_pos, if_neg, opAnd, opOr, opXor, opDiff, opShr, opBit, ntv, csv, ntw, csw, hbig, ntsv1, cssv1, lnsv1, gs])
  have n3 := a3.1.1
  have K3 := K2.trans a3.1
  have gs : h3.get h1.next = .cells [.int .i64 N, sv1] true true 1 := by rw [a3.1.2 _ (by omega)]; exact gs
  have hv := hv.keep a3.1
  have hw := hw.keep a3.1
  have hC := hC.keep a3.1
  have hu1 := hu1.ints
  have ntu1 := hu1.nt
  have csu1 := hu1.cs
  have lnu1 := hu1.lenD
  try simp (disch := first | omega | (simp; done) | fail) [wrap64c, if_pos, if_neg, opAnd, opOr, opXor, opDiff, opShr, opBit, ntv, csv, ntw, csw, hbig, ntsv1, cssv1, lnsv1, gs, ntu1, csu1, lnu1]
  obtain ⟨_, h4, p4, a4, u2, rfl, hu2⟩ := specFree_ok h3 _ N X hC lX'
  refine callG_c (by simp) (by simp) ?ha (p4) ?_
  (case ha => simp (disch := first | omega | (simp; done) | fail) [wrap64c, if_pos, if_neg, opAnd, opOr, opXor, opDiff, opShr, opBit, ntv, csv, ntw, csw, hbig, ntsv1, cssv1, lnsv1, gs, ntu1, csu1, lnu1])
  have n4 := a4.1.1
  have K4 := K3.trans a4.1
  have gs : h4.get h1.next = .cells [.int .i64 N, sv1] true true 1 := by rw [a4.1.2 _ (by omega)]; exact gs
  have hv := hv.keep a4.1
  have hw := hw.keep a4.1
  have hC := hC.keep a4.1
  have hu1 := hu1.keep a4.1
  have hu2 := hu2.ints
  have ntu2 := hu2.nt
  have csu2 := hu2.cs
  have lnu2 := hu2.lenD
  try simp (disch := first | omega | (simp; done) | fail) [wrap64c, if_pos, if_neg, opAnd, opOr, opXor, opDiff, opShr, opBit, ntv, csv, ntw, csw, hbig, ntsv1, cssv1, lnsv1, gs, ntu1, csu1, lnu1, ntu2, csu2, lnu2]
  obtain ⟨_, h5, p5, a5, u3, rfl, hu3⟩ := implFreeSizes_ok h4 _ N X hC lX'
  refine callG_c (by simp) (by simp) ?ha (p5) ?_
  (case ha => simp (disch := first | omega | (simp; done) | fail) [wrap64c, if_pos, if_neg, opAnd, opOr, opXor, opDiff, opShr, opBit, ntv, csv, ntw, csw, hbig, ntsv1, cssv1, lnsv1, gs, ntu1, csu1, lnu1, ntu2, csu2, lnu2])
  have n5 := a5.1.1
  have K5 := K4.trans a5.1
  have gs : h5.get h1.next = .cells [.int .i64 N, sv1] true true 1 := by rw [a5.1.2 _ (by omega)]; exact gs
  have hv := hv.keep a5.1
  have hw := hw.keep a5.1
  have hC := hC.keep a5.1
  have hu1 := hu1.keep a5.1
  have hu2 := hu2.keep a5.1
  have hu3 := hu3.ints
  have ntu3 := hu3.nt
  have csu3 := hu3.cs
  have lnu3 := hu3.lenD
  try simp (disch := first | omega | (simp; done) | fail) [wrap64c, if_pos, if_neg, opAnd, opOr, opXor, opDiff, opShr, opBit, ntv, csv, ntw, csw, hbig, ntsv1, cssv1, lnsv1, gs, ntu1, csu1, lnu1, ntu2, csu2, lnu2, ntu3, csu3, lnu3]
  obtain ⟨_, h6, p6, a6, u4, rfl, hu4⟩ := specFreeSizes_ok h5 _ N X hC lX'
  refine callG_c (by simp) (by simp) ?ha (p6) ?_
  (case ha => simp (disch := first | omega | (simp; done) | fail) [wrap64c, if_pos, if_neg, opAnd, opOr, opXor, opDiff, opShr, opBit, ntv, csv, ntw, csw, hbig, ntsv1, cssv1, lnsv1, gs, ntu1, csu1, lnu1, ntu2, csu2, lnu2, ntu3, csu3, lnu3])
  have n6 := a6.1.1
  have K6 := K5.trans a6.1
  have gs : h6.get h1.next = .cells [.int .i64 N, sv1] true true 1 := by rw [a6.1.2 _ (by omega)]; exact gs
  have hv := hv.keep a6.1
  have hw := hw.keep a6.1
  have hC := hC.keep a6.1
  have hu1 := hu1.keep a6.1
  have hu2 := hu2.keep a6.1
  have hu3 := hu3.keep a6.1
  have hu4 := hu4.ints
  have ntu4 := hu4.nt
  have csu4 := hu4.cs
  have lnu4 := hu4.lenD
  try simp (disch := first | omega | (simp; done) | fail) [wrap64c, if_pos, if_neg, opAnd, opOr, opXor, opDiff, opShr, opBit, ntv, csv, ntw, csw, hbig, ntsv1, cssv1, lnsv1, gs, ntu1, csu1, lnu1, ntu2, csu2, lnu2, ntu3, csu3, lnu3, ntu4, csu4, lnu4]
  refine callG_c (by simp) (by simp) ?ha (implAlt_ok h6 _ N X hC lX') ?_
  (case ha => simp (disch := first | omega | (simp; done) | fail) [wrap64c, if_pos, if_neg, opAnd, opOr, opXor, opDiff, opShr, opBit, ntv, csv, ntw, csw, hbig, ntsv1, cssv1, lnsv1, gs, ntu1, csu1, lnu1, ntu2, csu2, lnu2, ntu3, csu3, lnu3, ntu4, csu4, lnu4])
  try simp (disch := first | omega | (simp; done) | fail) [wrap64c, if_pos, if_neg, opAnd, opOr, opXor, opDiff, opShr, opBit, ntv, csv, ntw, csw, hbig, ntsv1, cssv1, lnsv1, gs, ntu1, csu1, lnu1, ntu2, csu2, lnu2, ntu3, csu3, lnu3, ntu4, csu4, lnu4]
  refine callG_c (by simp) (by simp) ?ha (specAlt_ok h6 _ N X hC lX') ?_
  (case ha => simp (disch := first | omega | (simp; done) | fail) [wrap64c, if_pos, if_neg, opAnd, opOr, opXor, opDiff, opShr, opBit, ntv, csv, ntw, csw, hbig, ntsv1, cssv1, lnsv1, gs, ntu1, csu1, lnu1, ntu2, csu2, lnu2, ntu3, csu3, lnu3, ntu4, csu4, lnu4])
  try simp (disch := first | omega | (simp; done) | fail) [wrap64c, if_pos, if_neg, opAnd, opOr, opXor, opDiff, opShr, opBit, ntv, csv, ntw, csw, hbig, ntsv1, cssv1, lnsv1, gs, ntu1, csu1, lnu1, ntu2, csu2, lnu2, ntu3, csu3, lnu3, ntu4, csu4, lnu4]
  obtain ⟨_, h7, p7, a7, u5, rfl, hu5⟩ := implSizes_ok h6 _ N X hC lX'
  refine callG_c (by simp) (by simp) ?ha (p7) ?_
  (case ha => simp (disch := first | omega | (simp; done) | fail) [wrap64c, if_pos, if_neg, opAnd, opOr, opXor, opDiff, opShr, opBit, ntv, csv, ntw, csw, hbig, ntsv1, cssv1, lnsv1, gs, ntu1, csu1, lnu1, ntu2, csu2, lnu2, ntu3, csu3, lnu3, ntu4, csu4, lnu4])
  have n7 := a7.1.1
  have K7 := K6.trans a7.1
  have gs : h7.get h1.next = .cells [.int .i64 N, sv1] true true 1 := by rw [a7.1.2 _ (by omega)]; exact gs
  have hv := hv.keep a7.1
  have hw := hw.keep a7.1
  have hC := hC.keep a7.1
  have hu1 := hu1.keep a7.1
  have hu2 := hu2.keep a7.1
  have hu3 := hu3.keep a7.1
  have hu4 := hu4.keep a7.1
  have hu5 := hu5.ints
  have ntu5 := hu5.nt
  have csu5 := hu5.cs
  have lnu5 := hu5.lenD
  try simp (disch := first | omega | (simp; done) | fail) [wrap64c, if_pos, if_neg, opAnd, opOr, opXor, opDiff, opShr, opBit, ntv, csv, ntw, csw, hbig, ntsv1, cssv1, lnsv1, gs, ntu1, csu1, lnu1, ntu2, csu2, lnu2, ntu3, csu3, lnu3, ntu4, csu4, lnu4, ntu5, csu5, lnu5]
  obtain ⟨_, h8, p8, a8, u6, rfl, hu6⟩ := specSizes_ok h7 _ N X hC lX'
  refine callG_c (by simp) (by simp) ?ha (p8) ?_
  (case ha => simp (disch := first | omega | (simp; done) | fail) [wrap64c, if_pos, if_neg, opAnd, opOr, opXor, opDiff, opShr, opBit, ntv, csv, ntw, csw, hbig, ntsv1, cssv1, lnsv1, gs, ntu1, csu1, lnu1, ntu2, csu2, lnu2, ntu3, csu3, lnu3, ntu4, csu4, lnu4, ntu5, csu5, lnu5])
  have n8 := a8.1.1
  have K8 := K7.trans a8.1
  have gs : h8.get h1.next = .cells [.int .i64 N, sv1] true true 1 := by rw [a8.1.2 _ (by omega)]; exact gs
  have hv := hv.keep a8.1
  have hw := hw.keep a8.1
  have hC := hC.keep a8.1
  have hu1 := hu1.keep a8.1
  have hu2 := hu2.keep a8.1
  have hu3 := hu3.keep a8.1
  have hu4 := hu4.keep a8.1
  have hu5 := hu5.keep a8.1
  have hu6 := hu6.ints
  have ntu6 := hu6.nt
  have csu6 := hu6.cs
  have lnu6 := hu6.lenD
  try simp (disch := first | omega | (simp; done) | fail) [wrap64c, if_pos, if_neg, opAnd, opOr, opXor, opDiff, opShr, opBit, ntv, csv, ntw, csw, hbig, ntsv1, cssv1, lnsv1, gs, ntu1, csu1, lnu1, ntu2, csu2, lnu2, ntu3, csu3, lnu3, ntu4, csu4, lnu4, ntu5, csu5, lnu5, ntu6, csu6, lnu6]
  refine callG_c (by simp) (by simp) ?ha (iSame_ok h8 _ _ _ _ hu1 hu2) ?_
  (case ha => simp (disch := first | omega | (simp; done) | fail) [wrap64c, if_pos, if_neg, opAnd, opOr, opXor, opDiff, opShr, opBit, ntv, csv, ntw, csw, hbig, ntsv1, cssv1, lnsv1, gs, ntu1, csu1, lnu1, ntu2, csu2, lnu2, ntu3, csu3, lnu3, ntu4, csu4, lnu4, ntu5, csu5, lnu5, ntu6, csu6, lnu6])
  try simp (disch := first | omega | (simp; done) | fail) [wrap64c, if_pos, if_neg, opAnd, opOr, opXor, opDiff, opShr, opBit, ntv, csv, ntw, csw, hbig, ntsv1, cssv1, lnsv1, gs, ntu1, csu1, lnu1, ntu2, csu2, lnu2, ntu3, csu3, lnu3, ntu4, csu4, lnu4, ntu5, csu5, lnu5, ntu6, csu6, lnu6]
  refine callG_c (by simp) (by simp) ?ha (iSame_ok h8 _ _ _ _ hu3 hu4) ?_
  (case ha => simp (disch := first | omega | (simp; done) | fail) [wrap64c, if_pos, if_neg, opAnd, opOr, opXor, opDiff, opShr, opBit, ntv, csv, ntw, csw, hbig, ntsv1, cssv1, lnsv1, gs, ntu1, csu1, lnu1, ntu2, csu2, lnu2, ntu3, csu3, lnu3, ntu4, csu4, lnu4, ntu5, csu5, lnu5, ntu6, csu6, lnu6])
  try simp (disch := first | omega | (simp; done) | fail) [wrap64c, if_pos, if_neg, opAnd, opOr, opXor, opDiff, opShr, opBit, ntv, csv, ntw, csw, hbig, ntsv1, cssv1, lnsv1, gs, ntu1, csu1, lnu1, ntu2, csu2, lnu2, ntu3, csu3, lnu3, ntu4, csu4, lnu4, ntu5, csu5, lnu5, ntu6, csu6, lnu6]
  refine callG_c (by simp) (by simp) ?ha (iSame_ok h8 _ _ _ _ hu5 hu6) ?_
  (case ha => simp (disch := first | omega | (simp; done) | fail) [wrap64c, if_pos, if_neg, opAnd, opOr, opXor, opDiff, opShr, opBit, ntv, csv, ntw, csw, hbig, ntsv1, cssv1, lnsv1, gs, ntu1, csu1, lnu1, ntu2, csu2, lnu2, ntu3, csu3, lnu3, ntu4, csu4, lnu4, ntu5, csu5, lnu5, ntu6, csu6, lnu6])
  try simp (disch := first | omega | (simp; done) | fail) [wrap64c, if_pos, if_neg, opAnd, opOr, opXor, opDiff, opShr, opBit, ntv, csv, ntw, csw, hbig, ntsv1, cssv1, lnsv1, gs, ntu1, csu1, lnu1, ntu2, csu2, lnu2, ntu3, csu3, lnu3, ntu4, csu4, lnu4, ntu5, csu5, lnu5, ntu6, csu6, lnu6]
  cases c1 : spB N X
  · try simp (disch := first | omega | (simp; done) | fail) [wrap64c, if_pos, if_neg, opAnd, opOr, opXor, opDiff, opShr, opBit, ntv, csv, ntw, csw, hbig, ntsv1, cssv1, lnsv1, gs, ntu1, csu1, lnu1, ntu2, csu2, lnu2, ntu3, csu3, lnu3, ntu4, csu4, lnu4, ntu5, csu5, lnu5, ntu6, csu6, lnu6, c1]
    obtain ⟨g0, hg0⟩ : ∃ x, x = h8 := ⟨_, rfl⟩
    have K0 := K8
    rw [← hg0] at K0
    have hv := hv
    have hw := hw
    rw [← hg0] at hv
    rw [← hg0] at hw
    try rw [← hg0]
    obtain ⟨_, g1, p1, a1, s2, G, Y, z, ch, rfl, hD, lY, hW, lW⟩ := drawWalk_ok g0 w ys (bytes_old hw)
    refine callG_c (by simp) (by simp) ?ha (p1) ?_
    (case ha => simp (disch := first | omega | (simp; done) | fail) [wrap64c, if_pos, if_neg, opAnd, opOr, opXor, opDiff, opShr, opBit, ntv, csv, ntw, csw, hbig, ntsv1, cssv1, lnsv1, gs, ntu1, csu1, lnu1, ntu2, csu2, lnu2, ntu3, csu3, lnu3, ntu4, csu4, lnu4, ntu5, csu5, lnu5, ntu6, csu6, lnu6, c1])
    have n1 := a1.1.1
    have K1 := K0.trans a1.1
    have hv := hv.keep a1.1
    have hw := hw.keep a1.1
    obtain ⟨sv2, rfl, hsv2⟩ := hD
    have hsv2 := hsv2.ints
    have ntsv2 := hsv2.nt
    have cssv2 := hsv2.cs
    have lnsv2 := hsv2.lenD
    have hD : Space g1 (.agg #[.int .i64 G, sv2]) G Y := .mk hsv2
    have ntz := hW.nt
    have csz := hW.cs
    have lnz := hW.lenD
    try simp (disch := first | omega | (simp; done) | fail) [wrap64c, if_pos, if_neg, opAnd, opOr, opXor, opDiff, opShr, opBit, ntv, csv, ntw, csw, hbig, ntsv1, cssv1, lnsv1, gs, ntu1, csu1, lnu1, ntu2, csu2, lnu2, ntu3, csu3, lnu3, ntu4, csu4, lnu4, ntu5, csu5, lnu5, ntu6, csu6, lnu6, c1, ntsv2, cssv2, lnsv2, ntz, csz, lnz, putCells]
    first | refine WY_heap fun g2 q_g2 => ?_ | refine callG_heap fun g2 q_g2 => ?_ | refine callP_heap fun g2 q_g2 => ?_ | refine callS_heap fun g2 q_g2 => ?_ | refine RY_heap fun g2 q_g2 => ?_ | refine PY_heap fun g2 q_g2 => ?_ | refine SY_heap fun g2 q_g2 => ?_ | refine doneY_heap fun g2 q_g2 => ?_ | refine loopK_heap fun g2 q_g2 => ?_ | refine thenY_heap fun g2 q_g2 => ?_ | refine thenM_heap fun g2 q_g2 => ?_
    have b2 : Adds g1 g2 := by rw [q_g2]; exact (by first | exact aK | exact kK)
    have n2 := b2.1.1
    have K2 := K1.trans b2.1
    have hv := hv.keep b2.1
    have hw := hw.keep b2.1
    have hD := hD.keep b2.1
    have hW := hW.keep b2.1
    have m2 : g2.next = g1.next + 1 := by simp [q_g2]
    have gt : g2.get g1.next = .cells [.int .i64 G, sv2] true true 1 := by simp [q_g2]
    have lY' : Y.length < 2 ^ 40 := by omega
    have lW' : ch.length < 2 ^ 40 := by omega
    obtain ⟨tb, htb⟩ : ∃ b : Bool, b = (spB G Y && chB ch 20) := ⟨_, rfl⟩
    obtain ⟨_, g3, p3, a3, y1, rfl, hy1⟩ := implWalk_ok g2 _ z G Y ch hD hW lY' lW'
    rw [← htb] at p3
    refine callG_c (by simp) (by simp) ?ha (p3) ?_
    (case ha => simp (disch := first | omega | (simp; done) | fail) [wrap64c, if_pos, if_neg, opAnd, opOr, opXor, opDiff, opShr, opBit, ntv, csv, ntw, csw, hbig, ntsv1, cssv1, lnsv1, gs, ntu1, csu1, lnu1, ntu2, csu2, lnu2, ntu3, csu3, lnu3, ntu4, csu4, lnu4, ntu5, csu5, lnu5, ntu6, csu6, lnu6, c1, ntsv2, cssv2, lnsv2, ntz, csz, lnz, gt])
    have n3 := a3.1.1
    have K3 := K2.trans a3.1
    have gt : g3.get g1.next = .cells [.int .i64 G, sv2] true true 1 := by rw [a3.1.2 _ (by omega)]; exact gt
    have hv := hv.keep a3.1
    have hw := hw.keep a3.1
    have hD := hD.keep a3.1
    have hW := hW.keep a3.1
    have hy1 := hy1.ints
    have nty1 := hy1.nt
    have csy1 := hy1.cs
    have lny1 := hy1.lenD
    try simp (disch := first | omega | (simp; done) | fail) [wrap64c, if_pos, if_neg, opAnd, opOr, opXor, opDiff, opShr, opBit, ntv, csv, ntw, csw, hbig, ntsv1, cssv1, lnsv1, gs, ntu1, csu1, lnu1, ntu2, csu2, lnu2, ntu3, csu3, lnu3, ntu4, csu4, lnu4, ntu5, csu5, lnu5, ntu6, csu6, lnu6, c1, ntsv2, cssv2, lnsv2, ntz, csz, lnz, gt, nty1, csy1, lny1]
    obtain ⟨_, g4, p4, a4, y2, rfl, hy2⟩ := specWalk_ok g3 _ z G Y ch hD hW lY' lW'
    rw [← htb] at p4
    refine callG_c (by simp) (by simp) ?ha (p4) ?_
    (case ha => simp (disch := first | omega | (simp; done) | fail) [wrap64c, if_pos, if_neg, opAnd, opOr, opXor, opDiff, opShr, opBit, ntv, csv, ntw, csw, hbig, ntsv1, cssv1, lnsv1, gs, ntu1, csu1, lnu1, ntu2, csu2, lnu2, ntu3, csu3, lnu3, ntu4, csu4, lnu4, ntu5, csu5, lnu5, ntu6, csu6, lnu6, c1, ntsv2, cssv2, lnsv2, ntz, csz, lnz, gt, nty1, csy1, lny1])
    have n4 := a4.1.1
    have K4 := K3.trans a4.1
    have gt : g4.get g1.next = .cells [.int .i64 G, sv2] true true 1 := by rw [a4.1.2 _ (by omega)]; exact gt
    have hv := hv.keep a4.1
    have hw := hw.keep a4.1
    have hD := hD.keep a4.1
    have hW := hW.keep a4.1
    have hy1 := hy1.keep a4.1
    have hy2 := hy2.ints
    have nty2 := hy2.nt
    have csy2 := hy2.cs
    have lny2 := hy2.lenD
    try simp (disch := first | omega | (simp; done) | fail) [wrap64c, if_pos, if_neg, opAnd, opOr, opXor, opDiff, opShr, opBit, ntv, csv, ntw, csw, hbig, ntsv1, cssv1, lnsv1, gs, ntu1, csu1, lnu1, ntu2, csu2, lnu2, ntu3, csu3, lnu3, ntu4, csu4, lnu4, ntu5, csu5, lnu5, ntu6, csu6, lnu6, c1, ntsv2, cssv2, lnsv2, ntz, csz, lnz, gt, nty1, csy1, lny1, nty2, csy2, lny2]
    refine callG_c (by simp) (by simp) ?ha (iSame_ok g4 _ _ _ _ hy1 hy2) ?_
    (case ha => simp (disch := first | omega | (simp; done) | fail) [wrap64c, if_pos, if_neg, opAnd, opOr, opXor, opDiff, opShr, opBit, ntv, csv, ntw, csw, hbig, ntsv1, cssv1, lnsv1, gs, ntu1, csu1, lnu1, ntu2, csu2, lnu2, ntu3, csu3, lnu3, ntu4, csu4, lnu4, ntu5, csu5, lnu5, ntu6, csu6, lnu6, c1, ntsv2, cssv2, lnsv2, ntz, csz, lnz, gt, nty1, csy1, lny1, nty2, csy2, lny2])
    try simp (disch := first | omega | (simp; done) | fail) [wrap64c, if_pos, if_neg, opAnd, opOr, opXor, opDiff, opShr, opBit, ntv, csv, ntw, csw, hbig, ntsv1, cssv1, lnsv1, gs, ntu1, csu1, lnu1, ntu2, csu2, lnu2, ntu3, csu3, lnu3, ntu4, csu4, lnu4, ntu5, csu5, lnu5, ntu6, csu6, lnu6, c1, ntsv2, cssv2, lnsv2, ntz, csz, lnz, gt, nty1, csy1, lny1, nty2, csy2, lny2]
    cases d1 : tb
    · try simp (disch := first | omega | (simp; done) | fail) [wrap64c, if_pos, if_neg, opAnd, opOr, opXor, opDiff, opShr, opBit, ntv, csv, ntw, csw, hbig, ntsv1, cssv1, lnsv1, gs, ntu1, csu1, lnu1, ntu2, csu2, lnu2, ntu3, csu3, lnu3, ntu4, csu4, lnu4, ntu5, csu5, lnu5, ntu6, csu6, lnu6, c1, ntsv2, cssv2, lnsv2, ntz, csz, lnz, gt, nty1, csy1, lny1, nty2, csy2, lny2, d1]
      exact done_ret rfl (by simp [K4])
    · have d2 : spB G Y = true := by rw [d1] at htb; have := htb.symm; rw [Bool.and_eq_true] at this; exact this.1
      obtain ⟨m2, ys2, eG, eY, gd2⟩ := spB_true d2
      subst eG eY
      have eF : fullB (m2 : Int) (toN ys2) (walkR (m2 : Int) (toN ys2) ch) = true := by rw [walkR, if_pos (htb.symm.trans d1), natsOf_toN]; exact walk_full gd2 d2 ch
      have q1 := iWord_ok g4 _ y1 (m2 : Int) (toN ys2) _ hD hy1 lY'
      rw [eF] at q1
      try simp (disch := first | omega | (simp; done) | fail) [wrap64c, if_pos, if_neg, opAnd, opOr, opXor, opDiff, opShr, opBit, ntv, csv, ntw, csw, hbig, ntsv1, cssv1, lnsv1, gs, ntu1, csu1, lnu1, ntu2, csu2, lnu2, ntu3, csu3, lnu3, ntu4, csu4, lnu4, ntu5, csu5, lnu5, ntu6, csu6, lnu6, c1, ntsv2, cssv2, lnsv2, ntz, csz, lnz, gt, nty1, csy1, lny1, nty2, csy2, lny2, d1]
      refine callG_c (by simp) (by simp) ?ha (q1) ?_
      (case ha => simp (disch := first | omega | (simp; done) | fail) [wrap64c, if_pos, if_neg, opAnd, opOr, opXor, opDiff, opShr, opBit, ntv, csv, ntw, csw, hbig, ntsv1, cssv1, lnsv1, gs, ntu1, csu1, lnu1, ntu2, csu2, lnu2, ntu3, csu3, lnu3, ntu4, csu4, lnu4, ntu5, csu5, lnu5, ntu6, csu6, lnu6, c1, ntsv2, cssv2, lnsv2, ntz, csz, lnz, gt, nty1, csy1, lny1, nty2, csy2, lny2, d1])
      try simp (disch := first | omega | (simp; done) | fail) [wrap64c, if_pos, if_neg, opAnd, opOr, opXor, opDiff, opShr, opBit, ntv, csv, ntw, csw, hbig, ntsv1, cssv1, lnsv1, gs, ntu1, csu1, lnu1, ntu2, csu2, lnu2, ntu3, csu3, lnu3, ntu4, csu4, lnu4, ntu5, csu5, lnu5, ntu6, csu6, lnu6, c1, ntsv2, cssv2, lnsv2, ntz, csz, lnz, gt, nty1, csy1, lny1, nty2, csy2, lny2, d1]
      exact done_ret rfl (by simp [K4])
  · obtain ⟨n, fs, eN, eX, gd⟩ := spB_true c1
    subst eN eX
    have n7 := gd.n7
    have n1' := gd.n1
    have hbn := bit7 n7
    obtain ⟨F, hF⟩ : ∃ F, F = freeN n fs := ⟨_, rfl⟩
    have lF : F.length ≤ 128 := hF ▸ freeN_len n7 fs
    have eF : freeR (n : Int) (toN fs) = toN F := by rw [freeR, if_pos c1, natsOf_toN, hF]; rfl
    have lnF : (freeR (n : Int) (toN fs)).length = F.length := by rw [eF, toN_length]
    have eZ : freeSizesR (n : Int) (toN fs) = toN (sizesN n F) := by rw [freeSizesR, if_pos c1, natsOf_toN, hF]; rfl
    have lnZ : (freeSizesR (n : Int) (toN fs)).length = n + 1 := by rw [eZ, toN_length, sizesN_length]
    have eQ : sizesR (n : Int) (toN fs) = toN (sizesN n fs) := by rw [sizesR, if_pos c1, natsOf_toN]; rfl
    have eA : altR (n : Int) (toN fs) = 0 := by
      rw [altR, if_pos c1, natsOf_toN]
      have := free_zero gd
      rw [Int.toNat_natCast, altN_sum]
      exact this
    have eA' := eA
    have lnX := toN_length fs
    rw [eF] at hu1
    rw [eZ] at hu3
    rw [eQ] at hu5
    have gtF := toN_get F
    have lnTF := toN_length F
    have gtZ := toN_get (sizesN n F)
    have hFm : ∀ a ∈ F, a < bit n ∧ ndiff (bit n - 1) a ∈ fs ∧ extN n fs a = a := fun a ha => free_mem gd (hF ▸ ha)
    have hsz : ∀ l : List Nat, l.length ≤ 128 → ∀ x ∈ toN (sizesN n l), 0 ≤ x ∧ x ≤ 128 := fun l hl x hx => by
      obtain ⟨a, rfl, ha⟩ := mem_toN' hx
      unfold sizesN at ha
      obtain ⟨q, _, rfl⟩ := List.mem_map.1 ha
      have := List.length_filter_le (fun x => pcN x == q) l
      omega
    have hZb := hsz F lF
    have p1 := iSum_ok h8 u3 _ hu3 (by rw [toN_length, sizesN_length]; omega) (fun x hx => by have := hsz F lF x hx; omega)
    rw [sizes_sum (fun a ha => (pcN_lt n7 (hFm a ha).1).1)] at p1
    have p2 := iSum_ok h8 u5 _ hu5 (by rw [toN_length, sizesN_length]; omega) (fun x hx => by have := hsz fs gd.len7 x hx; omega)
    rw [sizes_sum (fun a ha => (pcN_lt n7 (gd.lt a ha)).1)] at p2
    obtain ⟨b0, hb0⟩ : ∃ b : Bool, b = decide (fs.length = bit n) := ⟨_, rfl⟩
    have eB : freeB (n : Int) (toN fs) = b0 := by
      rw [freeB, c1, Bool.true_and, toN_length, Int.toNat_natCast, hb0, Bool.eq_iff_iff, decide_eq_true_eq, beq_iff_eq]
      omega
    have q1 := implIsFree_ok h8 _ (n : Int) (toN fs) hC lX'
    rw [eB, c1] at q1
    have q2 := specIsFree_ok h8 _ (n : Int) (toN fs) hC lX'
    rw [eB, c1] at q2
    have q3 := iHas_ok h8 u1 (toN F) (((bit n : Nat) : Int) - 1) hu1
    have e3 : decide ((((bit n : Nat) : Int) - 1) ∈ toN F) = b0 := by
      rw [hb0, Bool.eq_iff_iff, decide_eq_true_eq, decide_eq_true_eq, ← free_full gd, ← hF, show (((bit n : Nat) : Int) - 1) = ((bit n - 1 : Nat) : Int) by omega, mem_toN]
    rw [e3] at q3
    have e4 : ((fs.length : Int) == ((bit n : Nat) : Int)) = b0 := by
      rw [hb0, Bool.eq_iff_iff, decide_eq_true_eq, beq_iff_eq]
      omega
    have e4' := e4
    try simp (disch := first | omega | (simp; done) | fail) [wrap64c, if_pos, if_neg, opAnd, opOr, opXor, opDiff, opShr, opBit, ntv, csv, ntw, csw, hbig, ntsv1, cssv1, lnsv1, gs, ntu1, csu1, lnu1, ntu2, csu2, lnu2, ntu3, csu3, lnu3, ntu4, csu4, lnu4, ntu5, csu5, lnu5, ntu6, csu6, lnu6, c1, lnF, lnZ, eA', lnX, gtF, lnTF, gtZ, e4']
    refine WD_loopC [1, 5, 6, 10, 14, 18, 143, 144] (fun m tm h' => ∃ j, m = n + 1 - j ∧ h8 = h' ∧ tm 22 = .int .i64 (sgS (toN (sizesN n F)) j) ∧ tm 145 = .int .i64 (j : Int) ∧ (j ≤ n + 1)) _ ⟨0, rfl, rfl, (by simp [sgS]), (by simp (disch := first | omega | (simp; done) | fail) [wrap64c, if_pos, if_neg, opAnd, opOr, opXor, opDiff, opShr, opBit, ntv, csv, ntw, csw, hbig, ntsv1, cssv1, lnsv1, gs, ntu1, csu1, lnu1, ntu2, csu2, lnu2, ntu3, csu3, lnu3, ntu4, csu4, lnu4, ntu5, csu5, lnu5, ntu6, csu6, lnu6, c1, lnF, lnZ, eA', lnX, gtF, lnTF, gtZ, e4']), (by first | omega | assumption | (simp (disch := first | omega | (simp; done) | fail) [wrap64c, if_pos, if_neg, opAnd, opOr, opXor, opDiff, opShr, opBit, ntv, csv, ntw, csw, hbig, ntsv1, cssv1, lnsv1, gs, ntu1, csu1, lnu1, ntu2, csu2, lnu2, ntu3, csu3, lnu3, ntu4, csu4, lnu4, ntu5, csu5, lnu5, ntu6, csu6, lnu6, c1, lnF, lnZ, eA', lnX, gtF, lnTF, gtZ, e4'] <;> omega))⟩ ?_
    rintro m tm h' hFr ⟨j, rfl, rfl, e22, e145, hj⟩
    simp only [FrameL] at hFr
    obtain ⟨f1_0, f5_0, f6_0, f10_0, f14_0, f18_0, f143_0, f144_0, -⟩ := hFr
    try simp (disch := first | omega | (simp; done) | fail) [wrap64c, if_pos, if_neg, opAnd, opOr, opXor, opDiff, opShr, opBit, ntv, csv, ntw, csw, hbig, ntsv1, cssv1, lnsv1, gs, ntu1, csu1, lnu1, ntu2, csu2, lnu2, ntu3, csu3, lnu3, ntu4, csu4, lnu4, ntu5, csu5, lnu5, ntu6, csu6, lnu6, c1, lnF, lnZ, eA', lnX, gtF, lnTF, gtZ, e4'] at f1_0 f5_0 f6_0 f10_0 f14_0 f18_0 f143_0 f144_0
    have e1 := f1_0
    have e5 := f5_0
    have e6 := f6_0
    have e10 := f10_0
    have e14 := f14_0
    have e18 := f18_0
    have e143 := f143_0
    have e144 := f144_0
    by_cases hlt : j < n + 1
    · have hlt' : (j : Int) < (n : Int) + 1 := by omega
      have hsl : j < (toN (sizesN n F)).length := by rw [toN_length, sizesN_length]; exact hlt
      have hsl2 : j < (sizesN n F).length := by rw [sizesN_length]; exact hlt
      have bd := sgS_le hZb j
      have bx := hZb _ (List.getElem_mem hsl)
      have eG : (toN (sizesN n F)).getD j 0 = (toN (sizesN n F))[j] := by rw [List.getD_eq_getElem?_getD, List.getElem?_eq_getElem hsl]; rfl
      have eS : sgS (toN (sizesN n F)) (j + 1) = sgS (toN (sizesN n F)) j + (toN (sizesN n F))[j] * (1 - 2 * ((j % 2 : Nat) : Int)) := by rw [sgS, eG]
      rw [toN_get] at eS bx
      obtain ⟨o_x, i_x, c_x, cs_x, own_x, ex_x, es_x, q_x, b_x, g_x, l_x, r_x⟩ := hu3.open ((by rw [toN_length, sizesN_length]; omega))
      have z_x : ∀ h2 : i_x < cs_x.length, cs_x[i_x] = _ := fun h2 => r_x 0 ((by rw [toN_length, sizesN_length]; omega)) h2
      have tm2 := tmod_2 j
      rcases Nat.mod_two_eq_zero_or_one j with e | e
      · rw [e] at tm2 eS
        have tm2 := tm2
        have eS2 : sgS (toN (sizesN n F)) (j + 1) = sgS (toN (sizesN n F)) j + ((sizesN n F)[j] : Nat) := by rw [eS]; simp
        have eS3 := eS2
        try simp (disch := first | omega | (simp; done) | fail) [wrap64c, if_pos, if_neg, opAnd, opOr, opXor, opDiff, opShr, opBit, ntv, csv, ntw, csw, hbig, ntsv1, cssv1, lnsv1, gs, ntu1, csu1, lnu1, ntu2, csu2, lnu2, ntu3, csu3, lnu3, ntu4, csu4, lnu4, ntu5, csu5, lnu5, ntu6, csu6, lnu6, c1, lnF, lnZ, eA', lnX, gtF, lnTF, gtZ, e4', e1, e5, e6, e10, e14, e18, e22, e143, e144, e145, hlt', q_x, g_x, l_x, r_x, z_x, tm2, eS3]
        refine loopK_next _ ?hm ?hf ⟨j + 1, rfl, rfl, (by simp (disch := first | omega | (simp; done) | fail) [wrap64c, if_pos, if_neg, opAnd, opOr, opXor, opDiff, opShr, opBit, ntv, csv, ntw, csw, hbig, ntsv1, cssv1, lnsv1, gs, ntu1, csu1, lnu1, ntu2, csu2, lnu2, ntu3, csu3, lnu3, ntu4, csu4, lnu4, ntu5, csu5, lnu5, ntu6, csu6, lnu6, c1, lnF, lnZ, eA', lnX, gtF, lnTF, gtZ, e4', e1, e5, e6, e10, e14, e18, e22, e143, e144, e145, hlt', q_x, g_x, l_x, r_x, z_x, tm2, eS3] <;> omega), (by simp (disch := first | omega | (simp; done) | fail) [wrap64c, if_pos, if_neg, opAnd, opOr, opXor, opDiff, opShr, opBit, ntv, csv, ntw, csw, hbig, ntsv1, cssv1, lnsv1, gs, ntu1, csu1, lnu1, ntu2, csu2, lnu2, ntu3, csu3, lnu3, ntu4, csu4, lnu4, ntu5, csu5, lnu5, ntu6, csu6, lnu6, c1, lnF, lnZ, eA', lnX, gtF, lnTF, gtZ, e4', e1, e5, e6, e10, e14, e18, e22, e143, e144, e145, hlt', q_x, g_x, l_x, r_x, z_x, tm2, eS3] <;> omega), (by first | omega | assumption | (simp (disch := first | omega | (simp; done) | fail) [wrap64c, if_pos, if_neg, opAnd, opOr, opXor, opDiff, opShr, opBit, ntv, csv, ntw, csw, hbig, ntsv1, cssv1, lnsv1, gs, ntu1, csu1, lnu1, ntu2, csu2, lnu2, ntu3, csu3, lnu3, ntu4, csu4, lnu4, ntu5, csu5, lnu5, ntu6, csu6, lnu6, c1, lnF, lnZ, eA', lnX, gtF, lnTF, gtZ, e4', e1, e5, e6, e10, e14, e18, e22, e143, e144, e145, hlt', q_x, g_x, l_x, r_x, z_x, tm2, eS3] <;> omega))⟩
        (case hm => first | omega | (simp; omega))
        (case hf => simp [FrameL, ntv, csv, ntw, csw, hbig, ntsv1, cssv1, lnsv1, gs, ntu1, csu1, lnu1, ntu2, csu2, lnu2, ntu3, csu3, lnu3, ntu4, csu4, lnu4, ntu5, csu5, lnu5, ntu6, csu6, lnu6, c1, lnF, lnZ, eA', lnX, gtF, lnTF, gtZ, e4', e1, e5, e6, e10, e14, e18, e22, e143, e144, e145, hlt', q_x, g_x, l_x, r_x, z_x, tm2, eS3, f1_0, f5_0, f6_0, f10_0, f14_0, f18_0, f143_0, f144_0])
      · rw [e] at tm2 eS
        have tm2 := tm2
        have eS2 : sgS (toN (sizesN n F)) (j + 1) = sgS (toN (sizesN n F)) j + -(((sizesN n F)[j] : Nat) : Int) := by rw [eS]; simp
        have eS3 := eS2
        try simp (disch := first | omega | (simp; done) | fail) [wrap64c, if_pos, if_neg, opAnd, opOr, opXor, opDiff, opShr, opBit, ntv, csv, ntw, csw, hbig, ntsv1, cssv1, lnsv1, gs, ntu1, csu1, lnu1, ntu2, csu2, lnu2, ntu3, csu3, lnu3, ntu4, csu4, lnu4, ntu5, csu5, lnu5, ntu6, csu6, lnu6, c1, lnF, lnZ, eA', lnX, gtF, lnTF, gtZ, e4', e1, e5, e6, e10, e14, e18, e22, e143, e144, e145, hlt', q_x, g_x, l_x, r_x, z_x, tm2, eS3]
        refine loopK_next _ ?hm ?hf ⟨j + 1, rfl, rfl, (by simp (disch := first | omega | (simp; done) | fail) [wrap64c, if_pos, if_neg, opAnd, opOr, opXor, opDiff, opShr, opBit, ntv, csv, ntw, csw, hbig, ntsv1, cssv1, lnsv1, gs, ntu1, csu1, lnu1, ntu2, csu2, lnu2, ntu3, csu3, lnu3, ntu4, csu4, lnu4, ntu5, csu5, lnu5, ntu6, csu6, lnu6, c1, lnF, lnZ, eA', lnX, gtF, lnTF, gtZ, e4', e1, e5, e6, e10, e14, e18, e22, e143, e144, e145, hlt', q_x, g_x, l_x, r_x, z_x, tm2, eS3] <;> omega), (by simp (disch := first | omega | (simp; done) | fail) [wrap64c, if_pos, if_neg, opAnd, opOr, opXor, opDiff, opShr, opBit, ntv, csv, ntw, csw, hbig, ntsv1, cssv1, lnsv1, gs, ntu1, csu1, lnu1, ntu2, csu2, lnu2, ntu3, csu3, lnu3, ntu4, csu4, lnu4, ntu5, csu5, lnu5, ntu6, csu6, lnu6, c1, lnF, lnZ, eA', lnX, gtF, lnTF, gtZ, e4', e1, e5, e6, e10, e14, e18, e22, e143, e144, e145, hlt', q_x, g_x, l_x, r_x, z_x, tm2, eS3] <;> omega), (by first | omega | assumption | (simp (disch := first | omega | (simp; done) | fail) [wrap64c, if_pos, if_neg, opAnd, opOr, opXor, opDiff, opShr, opBit, ntv, csv, ntw, csw, hbig, ntsv1, cssv1, lnsv1, gs, ntu1, csu1, lnu1, ntu2, csu2, lnu2, ntu3, csu3, lnu3, ntu4, csu4, lnu4, ntu5, csu5, lnu5, ntu6, csu6, lnu6, c1, lnF, lnZ, eA', lnX, gtF, lnTF, gtZ, e4', e1, e5, e6, e10, e14, e18, e22, e143, e144, e145, hlt', q_x, g_x, l_x, r_x, z_x, tm2, eS3] <;> omega))⟩
        (case hm => first | omega | (simp; omega))
        (case hf => simp [FrameL, ntv, csv, ntw, csw, hbig, ntsv1, cssv1, lnsv1, gs, ntu1, csu1, lnu1, ntu2, csu2, lnu2, ntu3, csu3, lnu3, ntu4, csu4, lnu4, ntu5, csu5, lnu5, ntu6, csu6, lnu6, c1, lnF, lnZ, eA', lnX, gtF, lnTF, gtZ, e4', e1, e5, e6, e10, e14, e18, e22, e143, e144, e145, hlt', q_x, g_x, l_x, r_x, z_x, tm2, eS3, f1_0, f5_0, f6_0, f10_0, f14_0, f18_0, f143_0, f144_0])
    · have hlt' : ¬ (j : Int) < (n : Int) + 1 := by omega
      have hjn : j = n + 1 := by omega
      rw [hjn, hF, signed_zero gd] at e22
      have e22' := e22
      try simp (disch := first | omega | (simp; done) | fail) [wrap64c, if_pos, if_neg, opAnd, opOr, opXor, opDiff, opShr, opBit, ntv, csv, ntw, csw, hbig, ntsv1, cssv1, lnsv1, gs, ntu1, csu1, lnu1, ntu2, csu2, lnu2, ntu3, csu3, lnu3, ntu4, csu4, lnu4, ntu5, csu5, lnu5, ntu6, csu6, lnu6, c1, lnF, lnZ, eA', lnX, gtF, lnTF, gtZ, e4', e1, e5, e6, e10, e14, e18, e22, e143, e144, e145, hlt', e22']
      refine WD_drawC 19 rfl (by kernel_rfl) ?_
      try simp (disch := first | omega | (simp; done) | fail) [wrap64c, if_pos, if_neg, opAnd, opOr, opXor, opDiff, opShr, opBit, ntv, csv, ntw, csw, hbig, ntsv1, cssv1, lnsv1, gs, ntu1, csu1, lnu1, ntu2, csu2, lnu2, ntu3, csu3, lnu3, ntu4, csu4, lnu4, ntu5, csu5, lnu5, ntu6, csu6, lnu6, c1, lnF, lnZ, eA', lnX, gtF, lnTF, gtZ, e4', e1, e5, e6, e10, e14, e18, e22, e143, e144, e145, hlt', e22']
      refine callP_c (by simp) (by simp) ?ha (p1) ?hadd ?_
      (case ha => simp (disch := first | omega | (simp; done) | fail) [wrap64c, if_pos, if_neg, opAnd, opOr, opXor, opDiff, opShr, opBit, ntv, csv, ntw, csw, hbig, ntsv1, cssv1, lnsv1, gs, ntu1, csu1, lnu1, ntu2, csu2, lnu2, ntu3, csu3, lnu3, ntu4, csu4, lnu4, ntu5, csu5, lnu5, ntu6, csu6, lnu6, c1, lnF, lnZ, eA', lnX, gtF, lnTF, gtZ, e4', e1, e5, e6, e10, e14, e18, e22, e143, e144, e145, hlt', e22'])
      (case hadd => first | assumption | exact adds_self _ | (simp; done))
      try simp (disch := first | omega | (simp; done) | fail) [wrap64c, if_pos, if_neg, opAnd, opOr, opXor, opDiff, opShr, opBit, ntv, csv, ntw, csw, hbig, ntsv1, cssv1, lnsv1, gs, ntu1, csu1, lnu1, ntu2, csu2, lnu2, ntu3, csu3, lnu3, ntu4, csu4, lnu4, ntu5, csu5, lnu5, ntu6, csu6, lnu6, c1, lnF, lnZ, eA', lnX, gtF, lnTF, gtZ, e4', e1, e5, e6, e10, e14, e18, e22, e143, e144, e145, hlt', e22']
      refine callP_c (by simp) (by simp) ?ha (p2) ?hadd ?_
      (case ha => simp (disch := first | omega | (simp; done) | fail) [wrap64c, if_pos, if_neg, opAnd, opOr, opXor, opDiff, opShr, opBit, ntv, csv, ntw, csw, hbig, ntsv1, cssv1, lnsv1, gs, ntu1, csu1, lnu1, ntu2, csu2, lnu2, ntu3, csu3, lnu3, ntu4, csu4, lnu4, ntu5, csu5, lnu5, ntu6, csu6, lnu6, c1, lnF, lnZ, eA', lnX, gtF, lnTF, gtZ, e4', e1, e5, e6, e10, e14, e18, e22, e143, e144, e145, hlt', e22'])
      (case hadd => first | assumption | exact adds_self _ | (simp; done))
      try simp (disch := first | omega | (simp; done) | fail) [wrap64c, if_pos, if_neg, opAnd, opOr, opXor, opDiff, opShr, opBit, ntv, csv, ntw, csw, hbig, ntsv1, cssv1, lnsv1, gs, ntu1, csu1, lnu1, ntu2, csu2, lnu2, ntu3, csu3, lnu3, ntu4, csu4, lnu4, ntu5, csu5, lnu5, ntu6, csu6, lnu6, c1, lnF, lnZ, eA', lnX, gtF, lnTF, gtZ, e4', e1, e5, e6, e10, e14, e18, e22, e143, e144, e145, hlt', e22']
      refine WD_loopC [1, 5, 6, 180, 181] (fun m tm h' => ∃ i, m = F.length - i ∧ h8 = h' ∧ tm 182 = .int .i64 (i : Int) ∧ (i ≤ F.length)) _ ⟨0, rfl, rfl, (by simp (disch := first | omega | (simp; done) | fail) [wrap64c, if_pos, if_neg, opAnd, opOr, opXor, opDiff, opShr, opBit, ntv, csv, ntw, csw, hbig, ntsv1, cssv1, lnsv1, gs, ntu1, csu1, lnu1, ntu2, csu2, lnu2, ntu3, csu3, lnu3, ntu4, csu4, lnu4, ntu5, csu5, lnu5, ntu6, csu6, lnu6, c1, lnF, lnZ, eA', lnX, gtF, lnTF, gtZ, e4', e1, e5, e6, e10, e14, e18, e22, e143, e144, e145, hlt', e22']), (by first | omega | assumption | (simp (disch := first | omega | (simp; done) | fail) [wrap64c, if_pos, if_neg, opAnd, opOr, opXor, opDiff, opShr, opBit, ntv, csv, ntw, csw, hbig, ntsv1, cssv1, lnsv1, gs, ntu1, csu1, lnu1, ntu2, csu2, lnu2, ntu3, csu3, lnu3, ntu4, csu4, lnu4, ntu5, csu5, lnu5, ntu6, csu6, lnu6, c1, lnF, lnZ, eA', lnX, gtF, lnTF, gtZ, e4', e1, e5, e6, e10, e14, e18, e22, e143, e144, e145, hlt', e22'] <;> omega))⟩ ?_
      rintro m tm h' hFr ⟨i, rfl, rfl, e182, hi⟩
      simp only [FrameL] at hFr
      obtain ⟨f1_1, f5_1, f6_1, f180_1, f181_1, -⟩ := hFr
      try simp (disch := first | omega | (simp; done) | fail) [wrap64c, if_pos, if_neg, opAnd, opOr, opXor, opDiff, opShr, opBit, ntv, csv, ntw, csw, hbig, ntsv1, cssv1, lnsv1, gs, ntu1, csu1, lnu1, ntu2, csu2, lnu2, ntu3, csu3, lnu3, ntu4, csu4, lnu4, ntu5, csu5, lnu5, ntu6, csu6, lnu6, c1, lnF, lnZ, eA', lnX, gtF, lnTF, gtZ, e4', e1, e5, e6, e10, e14, e18, e22, e143, e144, e145, hlt', e22'] at f1_1 f5_1 f6_1 f180_1 f181_1
      have e1 := f1_1
      have e5 := f5_1
      have e6 := f6_1
      have e180 := f180_1
      have e181 := f181_1
      by_cases hl2 : i < F.length
      · obtain ⟨f1, f2, f3⟩ := hFm _ (List.getElem_mem hl2)
        obtain ⟨o_x, i_x, c_x, cs_x, own_x, ex_x, es_x, q_x, b_x, g_x, l_x, r_x⟩ := hu1.open ((by rw [toN_length]; omega))
        have z_x : ∀ h2 : i_x < cs_x.length, cs_x[i_x] = _ := fun h2 => r_x 0 ((by rw [toN_length]; omega)) h2
        have r1 := implConvex_ok h8 _ n fs F[i] hC gd f1
        rw [show fam fs (ndiff (bit n - 1) F[i]) = true by unfold fam; exact decide_eq_true f2] at r1
        have r2 := implExtOf_ok h8 _ n fs F[i] hC gd f1
        rw [f3] at r2
        try simp (disch := first | omega | (simp; done) | fail) [wrap64c, if_pos, if_neg, opAnd, opOr, opXor, opDiff, opShr, opBit, ntv, csv, ntw, csw, hbig, ntsv1, cssv1, lnsv1, gs, ntu1, csu1, lnu1, ntu2, csu2, lnu2, ntu3, csu3, lnu3, ntu4, csu4, lnu4, ntu5, csu5, lnu5, ntu6, csu6, lnu6, c1, lnF, lnZ, eA', lnX, gtF, lnTF, gtZ, e4', e1, e5, e6, e10, e14, e18, e22, e143, e144, e145, hlt', e22', e180, e181, e182, hl2, q_x, g_x, l_x, r_x, z_x]
        refine callG_c (by simp) (by simp) ?ha (r1) ?_
        (case ha => simp (disch := first | omega | (simp; done) | fail) [wrap64c, if_pos, if_neg, opAnd, opOr, opXor, opDiff, opShr, opBit, ntv, csv, ntw, csw, hbig, ntsv1, cssv1, lnsv1, gs, ntu1, csu1, lnu1, ntu2, csu2, lnu2, ntu3, csu3, lnu3, ntu4, csu4, lnu4, ntu5, csu5, lnu5, ntu6, csu6, lnu6, c1, lnF, lnZ, eA', lnX, gtF, lnTF, gtZ, e4', e1, e5, e6, e10, e14, e18, e22, e143, e144, e145, hlt', e22', e180, e181, e182, hl2, q_x, g_x, l_x, r_x, z_x])
        try simp (disch := first | omega | (simp; done) | fail) [wrap64c, if_pos, if_neg, opAnd, opOr, opXor, opDiff, opShr, opBit, ntv, csv, ntw, csw, hbig, ntsv1, cssv1, lnsv1, gs, ntu1, csu1, lnu1, ntu2, csu2, lnu2, ntu3, csu3, lnu3, ntu4, csu4, lnu4, ntu5, csu5, lnu5, ntu6, csu6, lnu6, c1, lnF, lnZ, eA', lnX, gtF, lnTF, gtZ, e4', e1, e5, e6, e10, e14, e18, e22, e143, e144, e145, hlt', e22', e180, e181, e182, hl2, q_x, g_x, l_x, r_x, z_x]
        refine callG_c (by simp) (by simp) ?ha (r2) ?_
        (case ha => simp (disch := first | omega | (simp; done) | fail) [wrap64c, if_pos, if_neg, opAnd, opOr, opXor, opDiff, opShr, opBit, ntv, csv, ntw, csw, hbig, ntsv1, cssv1, lnsv1, gs, ntu1, csu1, lnu1, ntu2, csu2, lnu2, ntu3, csu3, lnu3, ntu4, csu4, lnu4, ntu5, csu5, lnu5, ntu6, csu6, lnu6, c1, lnF, lnZ, eA', lnX, gtF, lnTF, gtZ, e4', e1, e5, e6, e10, e14, e18, e22, e143, e144, e145, hlt', e22', e180, e181, e182, hl2, q_x, g_x, l_x, r_x, z_x])
        try simp (disch := first | omega | (simp; done) | fail) [wrap64c, if_pos, if_neg, opAnd, opOr, opXor, opDiff, opShr, opBit, ntv, csv, ntw, csw, hbig, ntsv1, cssv1, lnsv1, gs, ntu1, csu1, lnu1, ntu2, csu2, lnu2, ntu3, csu3, lnu3, ntu4, csu4, lnu4, ntu5, csu5, lnu5, ntu6, csu6, lnu6, c1, lnF, lnZ, eA', lnX, gtF, lnTF, gtZ, e4', e1, e5, e6, e10, e14, e18, e22, e143, e144, e145, hlt', e22', e180, e181, e182, hl2, q_x, g_x, l_x, r_x, z_x]
        refine loopK_next _ ?hm ?hf ⟨i + 1, rfl, rfl, (by simp (disch := first | omega | (simp; done) | fail) [wrap64c, if_pos, if_neg, opAnd, opOr, opXor, opDiff, opShr, opBit, ntv, csv, ntw, csw, hbig, ntsv1, cssv1, lnsv1, gs, ntu1, csu1, lnu1, ntu2, csu2, lnu2, ntu3, csu3, lnu3, ntu4, csu4, lnu4, ntu5, csu5, lnu5, ntu6, csu6, lnu6, c1, lnF, lnZ, eA', lnX, gtF, lnTF, gtZ, e4', e1, e5, e6, e10, e14, e18, e22, e143, e144, e145, hlt', e22', e180, e181, e182, hl2, q_x, g_x, l_x, r_x, z_x] <;> omega), (by first | omega | assumption | (simp (disch := first | omega | (simp; done) | fail) [wrap64c, if_pos, if_neg, opAnd, opOr, opXor, opDiff, opShr, opBit, ntv, csv, ntw, csw, hbig, ntsv1, cssv1, lnsv1, gs, ntu1, csu1, lnu1, ntu2, csu2, lnu2, ntu3, csu3, lnu3, ntu4, csu4, lnu4, ntu5, csu5, lnu5, ntu6, csu6, lnu6, c1, lnF, lnZ, eA', lnX, gtF, lnTF, gtZ, e4', e1, e5, e6, e10, e14, e18, e22, e143, e144, e145, hlt', e22', e180, e181, e182, hl2, q_x, g_x, l_x, r_x, z_x] <;> omega))⟩
        (case hm => first | omega | (simp; omega))
        (case hf => simp [FrameL, ntv, csv, ntw, csw, hbig, ntsv1, cssv1, lnsv1, gs, ntu1, csu1, lnu1, ntu2, csu2, lnu2, ntu3, csu3, lnu3, ntu4, csu4, lnu4, ntu5, csu5, lnu5, ntu6, csu6, lnu6, c1, lnF, lnZ, eA', lnX, gtF, lnTF, gtZ, e4', e1, e5, e6, e10, e14, e18, e22, e143, e144, e145, hlt', e22', e180, e181, e182, hl2, q_x, g_x, l_x, r_x, z_x, f1_1, f5_1, f6_1, f180_1, f181_1])
      · try simp (disch := first | omega | (simp; done) | fail) [wrap64c, if_pos, if_neg, opAnd, opOr, opXor, opDiff, opShr, opBit, ntv, csv, ntw, csw, hbig, ntsv1, cssv1, lnsv1, gs, ntu1, csu1, lnu1, ntu2, csu2, lnu2, ntu3, csu3, lnu3, ntu4, csu4, lnu4, ntu5, csu5, lnu5, ntu6, csu6, lnu6, c1, lnF, lnZ, eA', lnX, gtF, lnTF, gtZ, e4', e1, e5, e6, e10, e14, e18, e22, e143, e144, e145, hlt', e22', e180, e181, e182, hl2]
        refine callG_c (by simp) (by simp) ?ha (q1) ?_
        (case ha => simp (disch := first | omega | (simp; done) | fail) [wrap64c, if_pos, if_neg, opAnd, opOr, opXor, opDiff, opShr, opBit, ntv, csv, ntw, csw, hbig, ntsv1, cssv1, lnsv1, gs, ntu1, csu1, lnu1, ntu2, csu2, lnu2, ntu3, csu3, lnu3, ntu4, csu4, lnu4, ntu5, csu5, lnu5, ntu6, csu6, lnu6, c1, lnF, lnZ, eA', lnX, gtF, lnTF, gtZ, e4', e1, e5, e6, e10, e14, e18, e22, e143, e144, e145, hlt', e22', e180, e181, e182, hl2])
        try simp (disch := first | omega | (simp; done) | fail) [wrap64c, if_pos, if_neg, opAnd, opOr, opXor, opDiff, opShr, opBit, ntv, csv, ntw, csw, hbig, ntsv1, cssv1, lnsv1, gs, ntu1, csu1, lnu1, ntu2, csu2, lnu2, ntu3, csu3, lnu3, ntu4, csu4, lnu4, ntu5, csu5, lnu5, ntu6, csu6, lnu6, c1, lnF, lnZ, eA', lnX, gtF, lnTF, gtZ, e4', e1, e5, e6, e10, e14, e18, e22, e143, e144, e145, hlt', e22', e180, e181, e182, hl2]
        refine callG_c (by simp) (by simp) ?ha (q2) ?_
        (case ha => simp (disch := first | omega | (simp; done) | fail) [wrap64c, if_pos, if_neg, opAnd, opOr, opXor, opDiff, opShr, opBit, ntv, csv, ntw, csw, hbig, ntsv1, cssv1, lnsv1, gs, ntu1, csu1, lnu1, ntu2, csu2, lnu2, ntu3, csu3, lnu3, ntu4, csu4, lnu4, ntu5, csu5, lnu5, ntu6, csu6, lnu6, c1, lnF, lnZ, eA', lnX, gtF, lnTF, gtZ, e4', e1, e5, e6, e10, e14, e18, e22, e143, e144, e145, hlt', e22', e180, e181, e182, hl2])
        try simp (disch := first | omega | (simp; done) | fail) [wrap64c, if_pos, if_neg, opAnd, opOr, opXor, opDiff, opShr, opBit, ntv, csv, ntw, csw, hbig, ntsv1, cssv1, lnsv1, gs, ntu1, csu1, lnu1, ntu2, csu2, lnu2, ntu3, csu3, lnu3, ntu4, csu4, lnu4, ntu5, csu5, lnu5, ntu6, csu6, lnu6, c1, lnF, lnZ, eA', lnX, gtF, lnTF, gtZ, e4', e1, e5, e6, e10, e14, e18, e22, e143, e144, e145, hlt', e22', e180, e181, e182, hl2]
        refine WD_drawC 30 rfl (by kernel_rfl) ?_
        try simp (disch := first | omega | (simp; done) | fail) [wrap64c, if_pos, if_neg, opAnd, opOr, opXor, opDiff, opShr, opBit, ntv, csv, ntw, csw, hbig, ntsv1, cssv1, lnsv1, gs, ntu1, csu1, lnu1, ntu2, csu2, lnu2, ntu3, csu3, lnu3, ntu4, csu4, lnu4, ntu5, csu5, lnu5, ntu6, csu6, lnu6, c1, lnF, lnZ, eA', lnX, gtF, lnTF, gtZ, e4', e1, e5, e6, e10, e14, e18, e22, e143, e144, e145, hlt', e22', e180, e181, e182, hl2]
        refine callP_c (by simp) (by simp) ?ha (q3) ?hadd ?_
        (case ha => simp (disch := first | omega | (simp; done) | fail) [wrap64c, if_pos, if_neg, opAnd, opOr, opXor, opDiff, opShr, opBit, ntv, csv, ntw, csw, hbig, ntsv1, cssv1, lnsv1, gs, ntu1, csu1, lnu1, ntu2, csu2, lnu2, ntu3, csu3, lnu3, ntu4, csu4, lnu4, ntu5, csu5, lnu5, ntu6, csu6, lnu6, c1, lnF, lnZ, eA', lnX, gtF, lnTF, gtZ, e4', e1, e5, e6, e10, e14, e18, e22, e143, e144, e145, hlt', e22', e180, e181, e182, hl2])
        (case hadd => first | assumption | exact adds_self _ | (simp; done))
        try simp (disch := first | omega | (simp; done) | fail) [wrap64c, if_pos, if_neg, opAnd, opOr, opXor, opDiff, opShr, opBit, ntv, csv, ntw, csw, hbig, ntsv1, cssv1, lnsv1, gs, ntu1, csu1, lnu1, ntu2, csu2, lnu2, ntu3, csu3, lnu3, ntu4, csu4, lnu4, ntu5, csu5, lnu5, ntu6, csu6, lnu6, c1, lnF, lnZ, eA', lnX, gtF, lnTF, gtZ, e4', e1, e5, e6, e10, e14, e18, e22, e143, e144, e145, hlt', e22', e180, e181, e182, hl2]
        obtain ⟨g0, hg0⟩ : ∃ x, x = h8 := ⟨_, rfl⟩
        have K0 := K8
        rw [← hg0] at K0
        have hv := hv
        have hw := hw
        rw [← hg0] at hv
        rw [← hg0] at hw
        try rw [← hg0]
        obtain ⟨_, g1, p1, a1, s2, G, Y, z, ch, rfl, hD, lY, hW, lW⟩ := drawWalk_ok g0 w ys (bytes_old hw)
        refine callG_c (by simp) (by simp) ?ha (p1) ?_
        (case ha => simp (disch := first | omega | (simp; done) | fail) [wrap64c, if_pos, if_neg, opAnd, opOr, opXor, opDiff, opShr, opBit, ntv, csv, ntw, csw, hbig, ntsv1, cssv1, lnsv1, gs, ntu1, csu1, lnu1, ntu2, csu2, lnu2, ntu3, csu3, lnu3, ntu4, csu4, lnu4, ntu5, csu5, lnu5, ntu6, csu6, lnu6, c1, lnF, lnZ, eA', lnX, gtF, lnTF, gtZ, e4', e1, e5, e6, e10, e14, e18, e22, e143, e144, e145, hlt', e22', e180, e181, e182, hl2])
        have n1 := a1.1.1
        have K1 := K0.trans a1.1
        have hv := hv.keep a1.1
        have hw := hw.keep a1.1
        obtain ⟨sv2, rfl, hsv2⟩ := hD
        have hsv2 := hsv2.ints
        have ntsv2 := hsv2.nt
        have cssv2 := hsv2.cs
        have lnsv2 := hsv2.lenD
        have hD : Space g1 (.agg #[.int .i64 G, sv2]) G Y := .mk hsv2
        have ntz := hW.nt
        have csz := hW.cs
        have lnz := hW.lenD
        try simp (disch := first | omega | (simp; done) | fail) [wrap64c, if_pos, if_neg, opAnd, opOr, opXor, opDiff, opShr, opBit, ntv, csv, ntw, csw, hbig, ntsv1, cssv1, lnsv1, gs, ntu1, csu1, lnu1, ntu2, csu2, lnu2, ntu3, csu3, lnu3, ntu4, csu4, lnu4, ntu5, csu5, lnu5, ntu6, csu6, lnu6, c1, lnF, lnZ, eA', lnX, gtF, lnTF, gtZ, e4', e1, e5, e6, e10, e14, e18, e22, e143, e144, e145, hlt', e22', e180, e181, e182, hl2, ntsv2, cssv2, lnsv2, ntz, csz, lnz, putCells]
        first | refine WY_heap fun g2 q_g2 => ?_ | refine callG_heap fun g2 q_g2 => ?_ | refine callP_heap fun g2 q_g2 => ?_ | refine callS_heap fun g2 q_g2 => ?_ | refine RY_heap fun g2 q_g2 => ?_ | refine PY_heap fun g2 q_g2 => ?_ | refine SY_heap fun g2 q_g2 => ?_ | refine doneY_heap fun g2 q_g2 => ?_ | refine loopK_heap fun g2 q_g2 => ?_ | refine thenY_heap fun g2 q_g2 => ?_ | refine thenM_heap fun g2 q_g2 => ?_
        have b2 : Adds g1 g2 := by rw [q_g2]; exact (by first | exact aK | exact kK)
        have n2 := b2.1.1
        have K2 := K1.trans b2.1
        have hv := hv.keep b2.1
        have hw := hw.keep b2.1
        have hD := hD.keep b2.1
        have hW := hW.keep b2.1
        have m2 : g2.next = g1.next + 1 := by simp [q_g2]
        have gt : g2.get g1.next = .cells [.int .i64 G, sv2] true true 1 := by simp [q_g2]
        have lY' : Y.length < 2 ^ 40 := by omega
        have lW' : ch.length < 2 ^ 40 := by omega
        obtain ⟨tb, htb⟩ : ∃ b : Bool, b = (spB G Y && chB ch 20) := ⟨_, rfl⟩
        obtain ⟨_, g3, p3, a3, y1, rfl, hy1⟩ := implWalk_ok g2 _ z G Y ch hD hW lY' lW'
        rw [← htb] at p3
        refine callG_c (by simp) (by simp) ?ha (p3) ?_
        (case ha => simp (disch := first | omega | (simp; done) | fail) [wrap64c, if_pos, if_neg, opAnd, opOr, opXor, opDiff, opShr, opBit, ntv, csv, ntw, csw, hbig, ntsv1, cssv1, lnsv1, gs, ntu1, csu1, lnu1, ntu2, csu2, lnu2, ntu3, csu3, lnu3, ntu4, csu4, lnu4, ntu5, csu5, lnu5, ntu6, csu6, lnu6, c1, lnF, lnZ, eA', lnX, gtF, lnTF, gtZ, e4', e1, e5, e6, e10, e14, e18, e22, e143, e144, e145, hlt', e22', e180, e181, e182, hl2, ntsv2, cssv2, lnsv2, ntz, csz, lnz, gt])
        have n3 := a3.1.1
        have K3 := K2.trans a3.1
        have gt : g3.get g1.next = .cells [.int .i64 G, sv2] true true 1 := by rw [a3.1.2 _ (by omega)]; exact gt
        have hv := hv.keep a3.1
        have hw := hw.keep a3.1
        have hD := hD.keep a3.1
        have hW := hW.keep a3.1
        have hy1 := hy1.ints
        have nty1 := hy1.nt
        have csy1 := hy1.cs
        have lny1 := hy1.lenD
        try simp (disch := first | omega | (simp; done) | fail) [wrap64c, if_pos, if_neg, opAnd, opOr, opXor, opDiff, opShr, opBit, ntv, csv, ntw, csw, hbig, ntsv1, cssv1, lnsv1, gs, ntu1, csu1, lnu1, ntu2, csu2, lnu2, ntu3, csu3, lnu3, ntu4, csu4, lnu4, ntu5, csu5, lnu5, ntu6, csu6, lnu6, c1, lnF, lnZ, eA', lnX, gtF, lnTF, gtZ, e4', e1, e5, e6, e10, e14, e18, e22, e143, e144, e145, hlt', e22', e180, e181, e182, hl2, ntsv2, cssv2, lnsv2, ntz, csz, lnz, gt, nty1, csy1, lny1]
        obtain ⟨_, g4, p4, a4, y2, rfl, hy2⟩ := specWalk_ok g3 _ z G Y ch hD hW lY' lW'
        rw [← htb] at p4
        refine callG_c (by simp) (by simp) ?ha (p4) ?_
        (case ha => simp (disch := first | omega | (simp; done) | fail) [wrap64c, if_pos, if_neg, opAnd, opOr, opXor, opDiff, opShr, opBit, ntv, csv, ntw, csw, hbig, ntsv1, cssv1, lnsv1, gs, ntu1, csu1, lnu1, ntu2, csu2, lnu2, ntu3, csu3, lnu3, ntu4, csu4, lnu4, ntu5, csu5, lnu5, ntu6, csu6, lnu6, c1, lnF, lnZ, eA', lnX, gtF, lnTF, gtZ, e4', e1, e5, e6, e10, e14, e18, e22, e143, e144, e145, hlt', e22', e180, e181, e182, hl2, ntsv2, cssv2, lnsv2, ntz, csz, lnz, gt, nty1, csy1, lny1])
        have n4 := a4.1.1
        have K4 := K3.trans a4.1
        have gt : g4.get g1.next = .cells [.int .i64 G, sv2] true true 1 := by rw [a4.1.2 _ (by omega)]; exact gt
        have hv := hv.keep a4.1
        have hw := hw.keep a4.1
        have hD := hD.keep a4.1
        have hW := hW.keep a4.1
        have hy1 := hy1.keep a4.1
        have hy2 := hy2.ints
        have nty2 := hy2.nt
        have csy2 := hy2.cs
        have lny2 := hy2.lenD
        try simp (disch := first | omega | (simp; done) | fail) [wrap64c, if_pos, if_neg, opAnd, opOr, opXor, opDiff, opShr, opBit, ntv, csv, ntw, csw, hbig, ntsv1, cssv1, lnsv1, gs, ntu1, csu1, lnu1, ntu2, csu2, lnu2, ntu3, csu3, lnu3, ntu4, csu4, lnu4, ntu5, csu5, lnu5, ntu6, csu6, lnu6, c1, lnF, lnZ, eA', lnX, gtF, lnTF, gtZ, e4', e1, e5, e6, e10, e14, e18, e22, e143, e144, e145, hlt', e22', e180, e181, e182, hl2, ntsv2, cssv2, lnsv2, ntz, csz, lnz, gt, nty1, csy1, lny1, nty2, csy2, lny2]
        refine callG_c (by simp) (by simp) ?ha (iSame_ok g4 _ _ _ _ hy1 hy2) ?_
        (case ha => simp (disch := first | omega | (simp; done) | fail) [wrap64c, if_pos, if_neg, opAnd, opOr, opXor, opDiff, opShr, opBit, ntv, csv, ntw, csw, hbig, ntsv1, cssv1, lnsv1, gs, ntu1, csu1, lnu1, ntu2, csu2, lnu2, ntu3, csu3, lnu3, ntu4, csu4, lnu4, ntu5, csu5, lnu5, ntu6, csu6, lnu6, c1, lnF, lnZ, eA', lnX, gtF, lnTF, gtZ, e4', e1, e5, e6, e10, e14, e18, e22, e143, e144, e145, hlt', e22', e180, e181, e182, hl2, ntsv2, cssv2, lnsv2, ntz, csz, lnz, gt, nty1, csy1, lny1, nty2, csy2, lny2])
        try simp (disch := first | omega | (simp; done) | fail) [wrap64c, if_pos, if_neg, opAnd, opOr, opXor, opDiff, opShr, opBit, ntv, csv, ntw, csw, hbig, ntsv1, cssv1, lnsv1, gs, ntu1, csu1, lnu1, ntu2, csu2, lnu2, ntu3, csu3, lnu3, ntu4, csu4, lnu4, ntu5, csu5, lnu5, ntu6, csu6, lnu6, c1, lnF, lnZ, eA', lnX, gtF, lnTF, gtZ, e4', e1, e5, e6, e10, e14, e18, e22, e143, e144, e145, hlt', e22', e180, e181, e182, hl2, ntsv2, cssv2, lnsv2, ntz, csz, lnz, gt, nty1, csy1, lny1, nty2, csy2, lny2]
        cases d1 : tb
        · try simp (disch := first | omega | (simp; done) | fail) [wrap64c, if_pos, if_neg, opAnd, opOr, opXor, opDiff, opShr, opBit, ntv, csv, ntw, csw, hbig, ntsv1, cssv1, lnsv1, gs, ntu1, csu1, lnu1, ntu2, csu2, lnu2, ntu3, csu3, lnu3, ntu4, csu4, lnu4, ntu5, csu5, lnu5, ntu6, csu6, lnu6, c1, lnF, lnZ, eA', lnX, gtF, lnTF, gtZ, e4', e1, e5, e6, e10, e14, e18, e22, e143, e144, e145, hlt', e22', e180, e181, e182, hl2, ntsv2, cssv2, lnsv2, ntz, csz, lnz, gt, nty1, csy1, lny1, nty2, csy2, lny2, d1]
          exact done_ret rfl (by simp [K4])
        · have d2 : spB G Y = true := by rw [d1] at htb; have := htb.symm; rw [Bool.and_eq_true] at this; exact this.1
          obtain ⟨m2, ys2, eG, eY, gd2⟩ := spB_true d2
          subst eG eY
          have eF : fullB (m2 : Int) (toN ys2) (walkR (m2 : Int) (toN ys2) ch) = true := by rw [walkR, if_pos (htb.symm.trans d1), natsOf_toN]; exact walk_full gd2 d2 ch
          have q1 := iWord_ok g4 _ y1 (m2 : Int) (toN ys2) _ hD hy1 lY'
          rw [eF] at q1
          try simp (disch := first | omega | (simp; done) | fail) [wrap64c, if_pos, if_neg, opAnd, opOr, opXor, opDiff, opShr, opBit, ntv, csv, ntw, csw, hbig, ntsv1, cssv1, lnsv1, gs, ntu1, csu1, lnu1, ntu2, csu2, lnu2, ntu3, csu3, lnu3, ntu4, csu4, lnu4, ntu5, csu5, lnu5, ntu6, csu6, lnu6, c1, lnF, lnZ, eA', lnX, gtF, lnTF, gtZ, e4', e1, e5, e6, e10, e14, e18, e22, e143, e144, e145, hlt', e22', e180, e181, e182, hl2, ntsv2, cssv2, lnsv2, ntz, csz, lnz, gt, nty1, csy1, lny1, nty2, csy2, lny2, d1]
          refine callG_c (by simp) (by simp) ?ha (q1) ?_
          (case ha => simp (disch := first | omega | (simp; done) | fail) [wrap64c, if_pos, if_neg, opAnd, opOr, opXor, opDiff, opShr, opBit, ntv, csv, ntw, csw, hbig, ntsv1, cssv1, lnsv1, gs, ntu1, csu1, lnu1, ntu2, csu2, lnu2, ntu3, csu3, lnu3, ntu4, csu4, lnu4, ntu5, csu5, lnu5, ntu6, csu6, lnu6, c1, lnF, lnZ, eA', lnX, gtF, lnTF, gtZ, e4', e1, e5, e6, e10, e14, e18, e22, e143, e144, e145, hlt', e22', e180, e181, e182, hl2, ntsv2, cssv2, lnsv2, ntz, csz, lnz, gt, nty1, csy1, lny1, nty2, csy2, lny2, d1])
          try simp (disch := first | omega | (simp; done) | fail) [wrap64c, if_pos, if_neg, opAnd, opOr, opXor, opDiff, opShr, opBit, ntv, csv, ntw, csw, hbig, ntsv1, cssv1, lnsv1, gs, ntu1, csu1, lnu1, ntu2, csu2, lnu2, ntu3, csu3, lnu3, ntu4, csu4, lnu4, ntu5, csu5, lnu5, ntu6, csu6, lnu6, c1, lnF, lnZ, eA', lnX, gtF, lnTF, gtZ, e4', e1, e5, e6, e10, e14, e18, e22, e143, e144, e145, hlt', e22', e180, e181, e182, hl2, ntsv2, cssv2, lnsv2, ntz, csz, lnz, gt, nty1, csy1, lny1, nty2, csy2, lny2, d1]
          exact done_ret rfl (by simp [K4])
end Go.Proofs.YtnncipcldbopgaaGreat
namespace Go.Proofs.YtnncipcldbopgaaGreat
set_option linter.unusedSimpArgs false
set_option linter.unusedVariables false
open Go Go.Eng Go.ChangeShapes Go.WideShapes Go.ChangeAt Go.RowKit Go.Joins
set_option maxRecDepth 100000 in
theorem freeSetsAlternate_lifted (os : Os) (started : os.Started) (H : Type) (enc : TypeId × Value → H) :
    ReturnsInHanded {} Tryz.checked os 3 .any (Rows.fnFreeSetsAlternateSpec.pre6 enc Tryz.prog Tryz.f3 Rows.fnFreeSetsAlternateRow.domain false) (Rows.fnFreeSetsAlternateSpec.post enc Tryz.prog Tryz.f3 false true false false) := by
  refine returnsInHanded_of_change (C := Tryz.checked) own started (by kernel_rfl) Tryz.func3
    (ChangeSpec.witness6 (enc := enc) (C := Tryz.checked) false ⟨#[], #[.slice none 0 0, .slice none 0 0], []⟩ 8 (by kernel_rfl) (by kernel_rfl) (by kernel_rfl) (by kernel_rfl)) ?_
  intro W base args ds gs before hval0 hW hcnd _
  have hval : ∀ (j : Nat) t v, Tryz.f3.params[j]? = some t → args[j]? = some v → Value.okWide Tryz.prog W .any base t v := hval0
  have hW' := hW
  obtain ⟨p, q, hA0, hV, rfl, hfz, hnd⟩ := hW
  have hA : DataW.TrodAll enc Tryz.prog W 0 (fun _ => true) true Tryz.f3.params.toList args.toList ds p := hA0
  rw [Tryz.params3] at hA hval
  obtain ⟨v0, v1, d0, d1, p0, p1, rfl, rfl, rfl, h0, h1⟩ := trodAll_two hA
  obtain ⟨rfl, rfl⟩ := trodVars_none hV
  simp only [List.append_nil] at hW'
  have lt0 : ∀ x ∈ p0, x.block < W.heap.size := by obtain ⟨m, hm⟩ := h0; exact DataW.trod_lt m _ _ _ hm
  have lt1 : ∀ x ∈ p1, x.block < W.heap.size := by obtain ⟨m, hm⟩ := h1; exact DataW.trod_lt m _ _ _ hm
  obtain ⟨E0, hh0, a0, X0, st0, m0, hva0, hc0⟩ := lay_bytes (hval 0 22 v0 rfl rfl) h0 (start0 W)
  obtain ⟨E1, hh1, a1, X1, st1, m1, hva1, hc1⟩ := lay_bytes (hval 1 22 v1 rfl rfl) h1 st0
  replace hva0 := m1.vrel _ _ hva0
  replace hc0 := hc0.keep m1.keep
  refine (law_calls (args := #[a0, a1]) (args' := #[v0, v1]) st1 rfl (fun i hi => ?_) (lawFreeSetsAlternate_ok hh1 a0 X0 hc0 a1 X1 hc1) rfl).mono fun e W' ⟨he, bel⟩ => ?_
  · have : i = 0 ∨ i = 1 := by simp at hi; omega
    rcases this with rfl | rfl
    · exact hva0
    · exact hva1
  · subst he
    exact ⟨_, rfl, _, _, _, [], _, [], hW', trodAll_mk1 (shut_bool Tryz.underlying4 _), trodAll_mk2 (Below.trod laidOut (by kernel_rfl) (of_decide_eq_true (by kernel_rfl)) h0 bel lt0) (Below.trod laidOut (by kernel_rfl) (of_decide_eq_true (by kernel_rfl)) h1 bel lt1), rfl, bel.frame _, fun h => by cases h⟩
theorem freeSetsAlternate_holds : Rows.FnFreeSetsAlternateSaid :=
  OpenClaim.holds_of_wide 3 Tryz.f3 rfl rfl rfl rfl rfl rfl rfl ⟨rfl, rfl, rfl, rfl, rfl⟩ rfl rfl rfl rfl rfl (by kernel_rfl) Tryz.func3 (by kernel_rfl)
    (of_decide_eq_true (by kernel_rfl)) (by unfold Func.isWrapper; first | (rw [if_pos (by decide +kernel)]; kernel_rfl) | (rw [if_neg (by decide +kernel)]; exact ⟨rfl, rfl⟩))
    (fun os started H enc _ => freeSetsAlternate_lifted os started H enc)
end Go.Proofs.YtnncipcldbopgaaGreat
