/- Part 5 of the proof of worstAndTotal_holds: what it uses of the texts that lie in the notes, merged. -/
import Derived.Test.YtnncipcldbopgaaQw4
namespace Go.Proofs.Ytnncipcldbopgaa
set_option linter.unusedSimpArgs false
set_option linter.unusedVariables false
set_option maxHeartbeats 4000000
open Go Go.Eng
attribute [local irreducible] WD RunD PreD Runs CallOK
structure SLn (n : Nat) (L : List Nat) : Prop where
  n7 : n ≤ 7
  srt : L.Pairwise (· < ·)
  lt : ∀ x ∈ L, x < bit n
theorem SLn.has {n : Nat} {L : List Nat} (s : SLn n L) (i : Nat) : SLn n (hasL L i) := ⟨s.n7, s.srt.filter _, fun x hx => s.lt x (List.mem_filter.1 hx).1⟩
theorem SLn.lacks {n : Nat} {L : List Nat} (s : SLn n L) (i : Nat) : SLn n (lacksL L i) := ⟨s.n7, s.srt.filter _, fun x hx => s.lt x (List.mem_filter.1 hx).1⟩
theorem SpGood.sl {n : Nat} {xs : List Nat} (g : SpGood n xs) : SLn n xs := ⟨g.n7, g.srt, g.lt⟩
theorem SLn.open1 {n : Nat} {L : List Nat} (s : SLn n L) : openN L ≠ [] ↔ 1 < L.length := open_ne s.n7 s.srt s.lt
theorem sl_ind {n : Nat} {P : List Nat → Prop} (h1 : ∀ L, SLn n L → L.length ≤ 1 → P L) (h2 : ∀ L, SLn n L → 1 < L.length → (∀ i ∈ openN L, P (hasL L i) ∧ P (lacksL L i)) → P L) : ∀ (k : Nat) (L : List Nat), L.length ≤ k → SLn n L → P L := by
  intro k
  induction k with
  | zero => intro L hl s; exact h1 L s (by omega)
  | succ k ih =>
    intro L hl s
    by_cases hc : L.length ≤ 1
    · exact h1 L s hc
    · refine h2 L s (by omega) fun i hi => ?_
      obtain ⟨g1, g2, _⟩ := has_len (mem_openK.1 hi).2
      exact ⟨ih _ (by omega) (s.has i), ih _ (by omega) (s.lacks i)⟩
theorem minL_mem_le : ∀ {l : List Nat} {x : Nat}, x ∈ l → minL l ≤ x := by
  intro l x hx
  cases l with
  | nil => cases hx
  | cons a l =>
    have : ∀ (l : List Nat) (a : Nat), l.foldl min a ≤ a ∧ ∀ x ∈ l, l.foldl min a ≤ x := by
      intro l
      induction l with
      | nil => intro a; exact ⟨Nat.le_refl _, fun x hx => by cases hx⟩
      | cons c l ih =>
        intro a
        have h := ih (min a c)
        rw [List.foldl_cons]
        refine ⟨by omega, fun x hx => ?_⟩
        rcases List.mem_cons.1 hx with rfl | hx
        · omega
        · exact h.2 x hx
    have h := this l a
    rw [minL]
    rcases List.mem_cons.1 hx with rfl | hx
    · exact h.1
    · exact h.2 x hx
theorem worst_le_ask {L : List Nat} {i : Nat} (hi : i ∈ openN L) : worstN L ≤ askN L i := by
  rw [worstN_eq]
  exact minL_mem_le (List.mem_map_of_mem hi)
theorem worst_none {L : List Nat} (h : openN L = []) : worstN L = 0 := by rw [worstN_eq, h]; rfl
theorem SLn.worst0 {n : Nat} {L : List Nat} (s : SLn n L) : worstN L = 0 ↔ L.length ≤ 1 := by
  constructor
  · intro h
    apply Classical.byContradiction
    intro hn
    obtain ⟨i, _, hi, ha⟩ := bestN_mem (s.open1.2 (by omega))
    rw [h] at ha
    unfold askN at ha
    omega
  · intro h
    apply worst_none
    apply Classical.byContradiction
    intro hn
    have := s.open1.1 hn
    omega
theorem pow_worst {n : Nat} (L : List Nat) (s : SLn n L) : L.length ≤ 2 ^ worstN L := by
  refine sl_ind (P := fun L => L.length ≤ 2 ^ worstN L) (fun L s h => ?_) (fun L s h ih => ?_) _ L (Nat.le_refl _) s
  · have := Nat.one_le_two_pow (n := worstN L)
    omega
  · obtain ⟨i, _, hi, ha⟩ := bestN_mem (s.open1.2 h)
    obtain ⟨h1, h2⟩ := ih i hi
    obtain ⟨_, _, _, _, g5⟩ := has_len (mem_openK.1 hi).2
    rw [← ha, ← g5]
    unfold askN
    have e1 : 2 ^ worstN (hasL L i) ≤ 2 ^ max (worstN (hasL L i)) (worstN (lacksL L i)) := Nat.pow_le_pow_right (by omega) (Nat.le_max_left _ _)
    have e2 : 2 ^ worstN (lacksL L i) ≤ 2 ^ max (worstN (hasL L i)) (worstN (lacksL L i)) := Nat.pow_le_pow_right (by omega) (Nat.le_max_right _ _)
    rw [Nat.pow_add]
    omega
theorem open_filter (L : List Nat) (q : Nat → Bool) : openN (L.filter q) = (openN L).filter (opB (L.filter q)) := by
  unfold openN openK
  rw [List.filter_filter]
  apply List.filter_congr
  intro i _
  cases h : opB (L.filter q) i
  · rfl
  · obtain ⟨⟨x, hx, hb⟩, ⟨y, hy, hc⟩⟩ := opB_iff.1 h
    have : opB L i = true := opB_iff.2 ⟨⟨x, (List.mem_filter.1 hx).1, hb⟩, ⟨y, (List.mem_filter.1 hy).1, hc⟩⟩
    rw [this]; rfl
theorem open_less {L : List Nat} {q : Nat → Bool} {i : Nat} (hi : i ∈ openN L) (hq : opB (L.filter q) i = false) : (openN (L.filter q)).length < (openN L).length := by
  rw [open_filter, List.length_filter_lt_length_iff_exists]
  exact ⟨i, hi, by simp [hq]⟩
theorem op_has (L : List Nat) (i : Nat) : opB (hasL L i) i = false := by
  rw [Bool.eq_false_iff]
  intro h
  obtain ⟨_, ⟨y, hy, hc⟩⟩ := opB_iff.1 h
  have := (List.mem_filter.1 hy).2
  rw [hc] at this; cases this
theorem op_lacks (L : List Nat) (i : Nat) : opB (lacksL L i) i = false := by
  rw [Bool.eq_false_iff]
  intro h
  obtain ⟨⟨y, hy, hc⟩, _⟩ := opB_iff.1 h
  have := (List.mem_filter.1 hy).2
  rw [hc] at this; cases this
theorem worst_open {n : Nat} (L : List Nat) (s : SLn n L) : worstN L ≤ (openN L).length := by
  refine sl_ind (P := fun L => worstN L ≤ (openN L).length) (fun L s h => ?_) (fun L s h ih => ?_) _ L (Nat.le_refl _) s
  · rw [s.worst0.2 h]; exact Nat.zero_le _
  · obtain ⟨i, _, hi, ha⟩ := bestN_mem (s.open1.2 h)
    obtain ⟨h1, h2⟩ := ih i hi
    have e1 : (openN (hasL L i)).length < (openN L).length := open_less hi (op_has L i)
    have e2 : (openN (lacksL L i)).length < (openN L).length := open_less hi (op_lacks L i)
    rw [← ha]
    unfold askN
    omega
theorem worst_items {n : Nat} (L : List Nat) (s : SLn n L) : worstN L ≤ n := by
  have h1 := worst_open L s
  rw [← openK_eq s.n7 s.lt] at h1
  have := openK_len L n
  omega
theorem run_worst (x : Nat) : ∀ (k : Nat) (L : List Nat), (runF bestN x k L).length ≤ worstN L
  | 0, L => Nat.zero_le _
  | k + 1, L => by
    by_cases he : openN L = []
    · rw [runF_nil (by rw [bestN_nil he]; decide)]; exact Nat.zero_le _
    · obtain ⟨i, hb, hi, ha⟩ := bestN_mem he
      rw [runF_cons hb, List.length_cons, ← ha]
      unfold askN
      have h1 := run_worst x k (hasL L i)
      have h2 := run_worst x k (lacksL L i)
      split <;> omega
theorem run_most {n : Nat} : ∀ (k : Nat) (L : List Nat), SLn n L → L.length ≤ k → 0 < L.length → ∃ x ∈ L, (runF bestN x k L).length = worstN L
  | 0, L, s, hk, h0 => by omega
  | k + 1, L, s, hk, h0 => by
    by_cases he : openN L = []
    · obtain ⟨x, hx⟩ := List.exists_mem_of_length_pos h0
      refine ⟨x, hx, ?_⟩
      rw [runF_nil (by rw [bestN_nil he]; decide), worst_none he]; rfl
    · obtain ⟨i, hb, hi, ha⟩ := bestN_mem he
      obtain ⟨g1, g2, g3, g4, g5⟩ := has_len (mem_openK.1 hi).2
      obtain ⟨x, hx, e1⟩ := run_most k (hasL L i) (s.has i) (by omega) g3
      obtain ⟨y, hy, e2⟩ := run_most k (lacksL L i) (s.lacks i) (by omega) g4
      rw [← ha]
      unfold askN
      rcases Nat.le_total (worstN (lacksL L i)) (worstN (hasL L i)) with hc | hc
      · refine ⟨x, (List.mem_filter.1 hx).1, ?_⟩
        rw [runF_cons hb, if_pos (List.mem_filter.1 hx).2, List.length_cons, e1]; omega
      · refine ⟨y, (List.mem_filter.1 hy).1, ?_⟩
        rw [runF_cons hb, if_neg (by simpa using (List.mem_filter.1 hy).2), List.length_cons, e2]; omega
theorem half_most {n : Nat} : ∀ (k : Nat) (L : List Nat), SLn n L → L.length ≤ k → 0 < L.length → ∃ x ∈ L, worstN L ≤ (runF halfN x k L).length
  | 0, L, s, hk, h0 => by omega
  | k + 1, L, s, hk, h0 => by
    by_cases he : openN L = []
    · obtain ⟨x, hx⟩ := List.exists_mem_of_length_pos h0
      refine ⟨x, hx, ?_⟩
      rw [worst_none he]; exact Nat.zero_le _
    · obtain ⟨i, hb, hi⟩ := halfN_mem he
      obtain ⟨g1, g2, g3, g4, g5⟩ := has_len (mem_openK.1 hi).2
      obtain ⟨x, hx, e1⟩ := half_most k (hasL L i) (s.has i) (by omega) g3
      obtain ⟨y, hy, e2⟩ := half_most k (lacksL L i) (s.lacks i) (by omega) g4
      have hw := worst_le_ask hi
      unfold askN at hw
      rcases Nat.le_total (worstN (lacksL L i)) (worstN (hasL L i)) with hc | hc
      · refine ⟨x, (List.mem_filter.1 hx).1, ?_⟩
        rw [runF_cons hb, if_pos (List.mem_filter.1 hx).2, List.length_cons]; omega
      · refine ⟨y, (List.mem_filter.1 hy).1, ?_⟩
        rw [runF_cons hb, if_neg (by simpa using (List.mem_filter.1 hy).2), List.length_cons]; omega
def totF : Nat → List Nat → Nat
  | 0, _ => 0
  | k + 1, L => minL ((openN L).map fun i => L.length + totF k (hasL L i) + totF k (lacksL L i))
def totN (L : List Nat) : Nat := totF L.length L
theorem totF_nil : ∀ k, totF k [] = 0
  | 0 => rfl
  | k + 1 => by rw [totF, open_nil [] rfl]; rfl
theorem totF_same : ∀ (m k : Nat) (L : List Nat), L.length ≤ m → L.length ≤ k → totF m L = totF k L
  | 0, k, L, h1, h2 => by
    have : L = [] := List.length_eq_zero_iff.1 (by omega)
    subst this; rw [totF_nil, totF_nil]
  | m + 1, 0, L, h1, h2 => by
    have : L = [] := List.length_eq_zero_iff.1 (by omega)
    subst this; rw [totF_nil, totF_nil]
  | m + 1, k + 1, L, h1, h2 => by
    rw [totF, totF]
    congr 1
    apply List.map_congr_left
    intro i hi
    obtain ⟨g1, g2, _⟩ := has_len (mem_openK.1 hi).2
    rw [totF_same m k _ (by omega) (by omega), totF_same m k _ (by omega) (by omega)]
def tasN (L : List Nat) (i : Nat) : Nat := L.length + totN (hasL L i) + totN (lacksL L i)
theorem totN_eq (L : List Nat) : totN L = minL ((openN L).map (tasN L)) := by
  unfold totN
  cases hk : L.length with
  | zero =>
    have : L = [] := List.length_eq_zero_iff.1 hk
    subst this; rfl
  | succ k =>
    rw [totF]
    congr 1
    apply List.map_congr_left
    intro i hi
    obtain ⟨g1, g2, _⟩ := has_len (mem_openK.1 hi).2
    unfold tasN totN
    rw [totF_same k _ _ (by omega) (Nat.le_refl _), totF_same k _ (lacksL L i) (by omega) (Nat.le_refl _)]
theorem tot_none {L : List Nat} (h : openN L = []) : totN L = 0 := by rw [totN_eq, h]; rfl
theorem tot_at {L : List Nat} (h : openN L ≠ []) : ∃ i ∈ openN L, totN L = tasN L i := by
  have h1 := minL_mem (l := (openN L).map (tasN L)) (by simpa using h)
  rw [← totN_eq] at h1
  obtain ⟨i, hi, he⟩ := List.mem_map.1 h1
  exact ⟨i, hi, he.symm⟩
theorem totN_le {L : List Nat} {i : Nat} (hi : i ∈ openN L) : totN L ≤ tasN L i := by
  rw [totN_eq]
  exact minL_mem_le (List.mem_map_of_mem hi)
theorem tot_worst {n : Nat} (L : List Nat) (s : SLn n L) : totN L ≤ worstN L * L.length := by
  refine sl_ind (P := fun L => totN L ≤ worstN L * L.length) (fun L s h => ?_) (fun L s h ih => ?_) _ L (Nat.le_refl _) s
  · rw [tot_none (Classical.byContradiction fun hn => by have := s.open1.1 hn; omega)]; exact Nat.zero_le _
  · obtain ⟨i, _, hi, ha⟩ := bestN_mem (s.open1.2 h)
    obtain ⟨h1, h2⟩ := ih i hi
    obtain ⟨_, _, _, _, g5⟩ := has_len (mem_openK.1 hi).2
    have h3 := totN_le hi
    unfold tasN at h3
    rw [← ha]
    unfold askN
    have e1 : worstN (hasL L i) * (hasL L i).length ≤ max (worstN (hasL L i)) (worstN (lacksL L i)) * (hasL L i).length := Nat.mul_le_mul (Nat.le_max_left _ _) (Nat.le_refl _)
    have e2 : worstN (lacksL L i) * (lacksL L i).length ≤ max (worstN (hasL L i)) (worstN (lacksL L i)) * (lacksL L i).length := Nat.mul_le_mul (Nat.le_max_right _ _) (Nat.le_refl _)
    have e3 : max (worstN (hasL L i)) (worstN (lacksL L i)) * L.length = max (worstN (hasL L i)) (worstN (lacksL L i)) * (hasL L i).length + max (worstN (hasL L i)) (worstN (lacksL L i)) * (lacksL L i).length := by rw [← Nat.mul_add, g5]
    rw [Nat.add_mul, Nat.one_mul, e3]
    omega
def nbF (L : List Nat) (x : Nat) : Nat := ((List.range 7).filter fun i => decide (nXor x (bit i) ∈ L)).length
theorem filter_less1 {p q : Nat → Bool} {i : Nat} (h : ∀ j, p j = true → q j = true ∨ j = i) : ∀ l : List Nat, l.Nodup → (l.filter p).length ≤ (l.filter q).length + (if i ∈ l then 1 else 0)
  | [], _ => by simp
  | a :: l, hd => by
    obtain ⟨h1, h2⟩ := List.nodup_cons.1 hd
    have ih := filter_less1 h l h2
    by_cases ha : a = i
    · subst ha
      rw [if_neg h1] at ih
      rw [if_pos (by simp)]
      cases hp : p a <;> cases hq : q a <;> simp [hp, hq] <;> omega
    · have e : (i ∈ a :: l) ↔ i ∈ l := by simp [Ne.symm ha]
      by_cases hc : i ∈ l
      · rw [if_pos hc] at ih
        rw [if_pos (e.2 hc)]
        cases hp : p a
        · cases hq : q a <;> simp [hp, hq] <;> omega
        · have : q a = true := (h a hp).resolve_right ha
          simp [hp, this]; omega
      · rw [if_neg hc] at ih
        rw [if_neg (fun hx => hc (e.1 hx))]
        cases hp : p a
        · cases hq : q a <;> simp [hp, hq] <;> omega
        · have : q a = true := (h a hp).resolve_right ha
          simp [hp, this]; omega
theorem nb_side {L : List Nat} {x i : Nat} {q : Nat → Bool} (hq : ∀ j, j ≠ i → q (nXor x (bit j)) = true) : nbF L x ≤ 1 + nbF (L.filter q) x := by
  have := filter_less1 (p := fun j => decide (nXor x (bit j) ∈ L)) (q := fun j => decide (nXor x (bit j) ∈ L.filter q)) (i := i) (fun j hj => ?_) (List.range 7) List.nodup_range
  · unfold nbF
    split at this <;> omega
  · by_cases he : j = i
    · exact .inr he
    · left
      exact decide_eq_true (List.mem_filter.2 ⟨of_decide_eq_true hj, hq j he⟩)
theorem xor_keep {x i j : Nat} (h : j ≠ i) : (nXor x (bit j)).testBit i = x.testBit i := by
  rw [nXor_bit, bit_bit]; simp [h]
theorem nb_has {L : List Nat} {x i : Nat} (hx : x.testBit i = true) : nbF L x ≤ 1 + nbF (hasL L i) x := nb_side fun j hj => by rw [xor_keep hj]; exact hx
theorem nb_lacks {L : List Nat} {x i : Nat} (hx : x.testBit i = false) : nbF L x ≤ 1 + nbF (lacksL L i) x := nb_side fun j hj => by rw [xor_keep hj, hx]; rfl
theorem nb_one {n : Nat} {L : List Nat} (s : SLn n L) (hl : L.length ≤ 1) {x : Nat} (hx : x ∈ L) : nbF L x = 0 := by
  unfold nbF
  rw [List.length_eq_zero_iff, List.filter_eq_nil_iff]
  intro i _ h
  have hm := of_decide_eq_true h
  have : L = [x] := by
    match L, hl, hx with
    | [y], _, hx => simp at hx; rw [hx]
  rw [this] at hm
  have e := List.mem_singleton.1 hm
  have : (nXor x (bit i)).testBit i = x.testBit i := by rw [e]
  rw [nXor_bit, bit_bit] at this
  cases hb : x.testBit i <;> simp [hb] at this
theorem nb_worst {n : Nat} (L : List Nat) (s : SLn n L) : ∀ x ∈ L, nbF L x ≤ worstN L := by
  refine sl_ind (P := fun L => ∀ x ∈ L, nbF L x ≤ worstN L) (fun L s h => ?_) (fun L s h ih => ?_) _ L (Nat.le_refl _) s
  · intro x hx; rw [nb_one s h hx]; exact Nat.zero_le _
  · intro x hx
    obtain ⟨i, _, hi, ha⟩ := bestN_mem (s.open1.2 h)
    obtain ⟨h1, h2⟩ := ih i hi
    rw [← ha]
    unfold askN
    cases hb : x.testBit i
    · have := h2 x (List.mem_filter.2 ⟨hx, by simp [hb]⟩)
      have := nb_lacks (L := L) hb
      omega
    · have := h1 x (List.mem_filter.2 ⟨hx, hb⟩)
      have := nb_has (L := L) hb
      omega
theorem sum_split (f : Nat → Nat) (i : Nat) : ∀ L : List Nat, (L.map f).sum = ((hasL L i).map f).sum + ((lacksL L i).map f).sum
  | [] => rfl
  | a :: L => by
    have ih := sum_split f i L
    unfold hasL lacksL at ih ⊢
    cases hb : a.testBit i <;> simp [hb, ih] <;> omega
theorem sum_le {f g : Nat → Nat} : ∀ {L : List Nat}, (∀ x ∈ L, f x ≤ 1 + g x) → (L.map f).sum ≤ L.length + (L.map g).sum
  | [], _ => by simp
  | a :: L, h => by
    have ih := sum_le (L := L) fun x hx => h x (by simp [hx])
    have := h a (by simp)
    simp
    omega
theorem nb_tot {n : Nat} (L : List Nat) (s : SLn n L) : (L.map (nbF L)).sum ≤ totN L := by
  refine sl_ind (P := fun L => (L.map (nbF L)).sum ≤ totN L) (fun L s h => ?_) (fun L s h ih => ?_) _ L (Nat.le_refl _) s
  · have : ∀ x ∈ L, nbF L x = 0 := fun x hx => nb_one s h hx
    have : (L.map (nbF L)).sum = 0 := by
      rw [List.map_congr_left this]
      clear s h this
      induction L with
      | nil => rfl
      | cons a L ih => simpa using ih
    omega
  · obtain ⟨i, hi, ha⟩ := tot_at (s.open1.2 h)
    obtain ⟨h1, h2⟩ := ih i hi
    obtain ⟨_, _, _, _, g5⟩ := has_len (mem_openK.1 hi).2
    rw [ha]
    unfold tasN
    rw [sum_split _ i L]
    have e1 := sum_le (f := nbF L) (g := nbF (hasL L i)) (L := hasL L i) fun x hx => nb_has (List.mem_filter.1 hx).2
    have e2 := sum_le (f := nbF L) (g := nbF (lacksL L i)) (L := lacksL L i) fun x hx => nb_lacks (by simpa using (List.mem_filter.1 hx).2)
    omega
theorem pc_items : ∀ a, a < 128 → pcN a = (itemsN a).length := by decide +kernel
theorem filter_two {p q r : Nat → Bool} (h : ∀ i, p i = true → q i = false ∧ r i = true) (h2 : ∀ i, q i = true → r i = true) : ∀ l : List Nat, (l.filter p).length + (l.filter q).length ≤ (l.filter r).length
  | [] => by simp
  | a :: l => by
    have ih := filter_two h h2 l
    cases hp : p a
    · cases hq : q a
      · cases hr : r a <;> simp [hp, hq, hr] <;> omega
      · simp [hp, hq, h2 a hq]; omega
    · obtain ⟨e1, e2⟩ := h a hp
      simp [hp, e1, e2]; omega
theorem fringes_nb {n : Nat} {xs : List Nat} (g : SpGood n xs) (x : Nat) : pcN (innerN (fam xs) x) + pcN (outerN (fam xs) n x) ≤ nbF xs x := by
  have l1 : innerN (fam xs) x < 128 := maskN_lt _ 7
  have l2 : outerN (fam xs) n x < 128 := Nat.lt_of_lt_of_le (maskN_lt _ n) (bit7 g.n7).2
  rw [pc_items _ l1, pc_items _ l2]
  unfold itemsN nbF
  refine filter_two (fun i hi => ?_) (fun i hi => ?_) _
  · unfold innerN at hi
    rw [maskN_bit] at hi
    simp only [Bool.and_eq_true] at hi
    refine ⟨?_, hi.2.2⟩
    unfold outerN
    rw [maskN_bit, hi.2.1]
    simp
  · unfold outerN at hi
    rw [maskN_bit] at hi
    simp only [Bool.and_eq_true] at hi
    have e : nXor x (bit i) = nOr x (bit i) := by
      apply eq_bits
      intro j
      rw [nXor_bit, nOr_bit, bit_bit]
      by_cases hj : i = j
      · subst hj
        have : x.testBit i = false := by simpa using hi.2.1
        simp [this]
      · simp [hj]
    rw [e]
    exact hi.2.2
end Go.Proofs.Ytnncipcldbopgaa
namespace Go.Proofs.Ytnncipcldbopgaa
set_option linter.unusedSimpArgs false
set_option linter.unusedVariables false
set_option maxHeartbeats 4000000
open Go Go.Eng
attribute [local irreducible] WD RunD PreD Runs CallOK
def keyV (y z : Nat) : Value := .agg #[.int .i64 (y : Int), .int .i64 (z : Int)]
theorem keyV_ok (y z : Nat) : isKey 2 (.agg #[.int .i64 (y : Int), .int .i64 (z : Int)]) = true := rfl
def MemOK (xs : List Nat) (es : List (Value × Value)) : Prop := ∀ e ∈ es, ∃ y z : Nat, e.1 = keyV y z ∧ e.2 = .int .i64 ((worstN (leftN xs y z) : Nat) : Int)
theorem MemOK.keys {xs : List Nat} {es : List (Value × Value)} (h : MemOK xs es) : keysOK 2 es = true := by
  unfold keysOK
  rw [List.all_eq_true]
  intro e he
  obtain ⟨y, z, e1, _⟩ := h e he
  rw [e1]; rfl
theorem keyB_key {y z y' z' : Nat} : keyB (keyV y z) (keyV y' z') = true ↔ y = y' ∧ z = z' := by
  unfold keyV
  simp [keyB]
theorem MemOK.get {xs : List Nat} : ∀ {es : List (Value × Value)}, MemOK xs es → ∀ (y z : Nat), mapGet es (keyV y z) = none ∨ mapGet es (keyV y z) = some (.int .i64 ((worstN (leftN xs y z) : Nat) : Int))
  | [], _, y, z => .inl rfl
  | e :: es, h, y, z => by
    obtain ⟨y', z', e1, e2⟩ := h e (by simp)
    rw [mapGet]
    by_cases hk : keyB e.1 (keyV y z) = true
    · rw [if_pos hk]
      right
      rw [e1] at hk
      obtain ⟨rfl, rfl⟩ := keyB_key.1 hk
      rw [e2]
    · rw [if_neg hk]
      exact MemOK.get (fun e he => h e (by simp [he])) y z
theorem MemOK.put {xs : List Nat} : ∀ {es : List (Value × Value)}, MemOK xs es → ∀ (y z : Nat), MemOK xs (mapPut es (keyV y z) (.int .i64 ((worstN (leftN xs y z) : Nat) : Int)))
  | [], _, y, z => by
    intro e he
    simp only [mapPut, List.mem_singleton] at he
    subst he
    exact ⟨y, z, rfl, rfl⟩
  | e :: es, h, y, z => by
    rw [mapPut]
    split
    · intro q hq
      rcases List.mem_cons.1 hq with rfl | hq
      · exact ⟨y, z, rfl, rfl⟩
      · exact h q (by simp [hq])
    · intro q hq
      rcases List.mem_cons.1 hq with rfl | hq
      · exact h q (by simp)
      · exact MemOK.put (fun e he => h e (by simp [he])) y z q hq
structure AskOK (base o p : Nat) (N : Int) (b m2 : Value) (xs : List Nat) (h : Hp) : Prop where
  ob : o < base
  pb : p < base
  ne : o ≠ p
  asker : h.get o = .cells [.int .i64 N, b, .map (some p), m2] true true 1
  ints : IntsF (fun x => x < base ∧ x ≠ p) h b (toN xs)
  mem : ∃ es, h.get p = .map es ∧ MemOK xs es
theorem AskOK.stab {base o p : Nat} {N : Int} {b m2 : Value} {xs : List Nat} {h h' : Hp} (k : AskOK base o p N b m2 xs h) (hn : h.next ≤ h'.next) (hs : ∀ q, q < base → h'.get q = h.get q) : AskOK base o p N b m2 xs h' where
  ob := k.ob
  pb := k.pb
  ne := k.ne
  asker := by rw [hs o k.ob]; exact k.asker
  ints := k.ints.same ⟨hn, fun q hq _ => hs q hq.1⟩
  mem := by obtain ⟨es, h1, h2⟩ := k.mem; exact ⟨es, by rw [hs p k.pb]; exact h1, h2⟩
theorem AskOK.adds {base o p : Nat} {N : Int} {b m2 : Value} {xs : List Nat} {h h' : Hp} (k : AskOK base o p N b m2 xs h) (hb : base ≤ h.next) (a : Adds h h') : AskOK base o p N b m2 xs h' :=
  k.stab a.1.1 fun q hq => a.1.2 q (by omega)
theorem minL_take {L : List Nat} {j : Nat} (hj : j < (openN L).length) : minL (((openN L).take (j + 1)).map (askN L)) = if j = 0 then askN L (openN L)[j] else min (minL (((openN L).take j).map (askN L))) (askN L (openN L)[j]) := by
  rw [List.take_succ_eq_append_getElem hj, List.map_append]
  simp only [List.map_cons, List.map_nil]
  rw [minL_snoc]
  by_cases h0 : j = 0
  · subst h0; simp
  · rw [if_neg h0, if_neg]
    intro he
    have h1 : (((openN L).take j).map (askN L)).length = 0 := by rw [he]; rfl
    rw [List.length_map, List.length_take] at h1
    omega
theorem minL_le_of {L : List Nat} (j : Nat) : minL (((openN L).take j).map (askN L)) ≤ L.length := by
  by_cases h : ((openN L).take j).map (askN L) = []
  · rw [h]; exact Nat.zero_le _
  · refine minL_le h fun x hx => ?_
    obtain ⟨i, hi, rfl⟩ := List.mem_map.1 hx
    exact askN_le (mem_openK.1 (List.mem_of_mem_take hi)).2
theorem least_ok (base o p : Nat) (N : Int) (b m2 : Value) (xs : List Nat) (hx : ∀ x ∈ xs, x < 128) (hl : xs.length < 2 ^ 39) : ∀ (m : Nat) (h : Hp) (y z : Nat), AskOK base o p N b m2 xs h → base ≤ h.next → y < 128 → z < 128 → (leftN xs y z).length < m →
    ∃ v h', CallOK Try.prog 157 #[.pointer (some ⟨o, 0, none⟩), .int .i64 (y : Int), .int .i64 (z : Int)] h v h' ∧ v = .int .i64 ((worstN (leftN xs y z) : Nat) : Int) ∧ Wr (fun q => q = p) h h' ∧ AskOK base o p N b m2 xs h' := by
  intro m
  induction m with
  | zero => intro h y z _ _ _ _ hm; omega
  | succ m ih =>
    intro h y z hA hb hy hz hm
    refine callY_L (args := [.pointer (some ⟨o, 0, none⟩), .int .i64 (y : Int), .int .i64 (z : Int)]) 74 _ [.tmp 6] Try.func157 rfl rfl rfl ?_
    obtain ⟨es, hgp, hM⟩ := hA.mem
    have hkk := keyV_ok y z
    have hob := hA.ob
    have hpb := hA.pb
    have hwL := worstN_le (leftN xs y z)
    have hll := left_len xs y z
    try simp (disch := first | omega | (simp; done) | fail) [wrap64c, if_pos, if_neg, opAnd, opOr, opXor, opDiff, opShr, opBit, hkk, putCells]
    first | refine WY_heap fun h0 q_h0 => ?_ | refine callG_heap fun h0 q_h0 => ?_ | refine callP_heap fun h0 q_h0 => ?_ | refine callS_heap fun h0 q_h0 => ?_ | refine RY_heap fun h0 q_h0 => ?_ | refine PY_heap fun h0 q_h0 => ?_ | refine SY_heap fun h0 q_h0 => ?_ | refine doneY_heap fun h0 q_h0 => ?_ | refine loopK_heap fun h0 q_h0 => ?_ | refine thenY_heap fun h0 q_h0 => ?_ | refine thenM_heap fun h0 q_h0 => ?_
    have k0 : Adds h h0 := by rw [q_h0]; exact (by first | exact aK | exact kK)
    have n0 : h0.next = h.next + 1 := by simp [q_h0]
    have gk : h0.get h.next = .cells [.int .i64 (y : Int), .int .i64 (z : Int)] true true 1 := by simp [q_h0]
    have hA0 := hA.adds hb k0
    have ask0 := hA0.asker
    have gp0 : h0.get p = .map es := by rw [k0.1.2 p (by omega)]; exact hgp
    have hky : keysOK 2 es = true := hM.keys
    refine WD_drawC 10 rfl (by kernel_rfl) ?_
    try simp (disch := first | omega | (simp; done) | fail) [wrap64c, if_pos, if_neg, opAnd, opOr, opXor, opDiff, opShr, opBit, hkk, gk, ask0, gp0, hky]
    rcases hM.get y z with hg | hg
    · unfold keyV at hg
      have hg := hg
      try simp (disch := first | omega | (simp; done) | fail) [wrap64c, if_pos, if_neg, opAnd, opOr, opXor, opDiff, opShr, opBit, hkk, gk, ask0, gp0, hky, hg]
      obtain ⟨v1, h1, hc1, ha1, hi1⟩ := imLeft_ok h0 (.agg #[.int .i64 N, b]) N xs y z (.mk hA0.ints.ints) hx hl hy hz
      refine callG_c (by simp) (by simp) ?ha (hc1) ?_
      (case ha => simp (disch := first | omega | (simp; done) | fail) [wrap64c, if_pos, if_neg, opAnd, opOr, opXor, opDiff, opShr, opBit, hkk, gk, ask0, gp0, hky, hg])
      obtain ⟨L, hLe⟩ : ∃ L, L = leftN xs y z := ⟨_, rfl⟩
      have hLx : ∀ x ∈ L, x < 128 := fun x hm => hx x (left_sub (hLe ▸ hm))
      have hLl : L.length < 2 ^ 39 := by rw [hLe]; omega
      rw [← hLe] at hi1 hm hwL
      try simp (disch := first | omega | (simp; done) | fail) [wrap64c, if_pos, if_neg, opAnd, opOr, opXor, opDiff, opShr, opBit, hkk, gk, ask0, gp0, hky, hg]
      obtain ⟨v2, h2, hc2, ha2, hi2⟩ := open_ok h1 v1 L hi1.ints hLx hLl
      refine callG_c (by simp) (by simp) ?ha (hc2) ?_
      (case ha => simp (disch := first | omega | (simp; done) | fail) [wrap64c, if_pos, if_neg, opAnd, opOr, opXor, opDiff, opShr, opBit, hkk, gk, ask0, gp0, hky, hg])
      have n1 := ha1.1.1
      have n2 := ha2.1.1
      have hA2 := (hA0.adds (by omega) ha1).adds (by omega) ha2
      have hgt := toN_get (openN L)
      have hln := toN_length (openN L)
      have hM2 := hi2.ints.lenD
      have hol : (openN L).length ≤ 7 := openK_len L 7
      have gk2 : h2.get h.next = .cells [.int .i64 (y : Int), .int .i64 (z : Int)] true true 1 := by rw [ha2.1.2 _ (by omega), ha1.1.2 _ (by omega)]; exact gk
      try simp (disch := first | omega | (simp; done) | fail) [wrap64c, if_pos, if_neg, opAnd, opOr, opXor, opDiff, opShr, opBit, hkk, gk, ask0, gp0, hky, hg, hgt, hM2]
      refine WD_loopC [0, 1, 2, 7, 35, 36] (fun m tm h' => ∃ j, m = (openN L).length - j ∧ tm 10 = .int .i64 ((minL (((openN L).take j).map (askN L)) : Nat) : Int) ∧ tm 37 = .int .i64 (j : Int) ∧ (j ≤ (openN L).length) ∧ (Wr (fun q => q = p) h2 h') ∧ (AskOK base o p N b m2 xs h')) _ ⟨0, rfl, (by simp [minL]), (by simp (disch := first | omega | (simp; done) | fail) [wrap64c, if_pos, if_neg, opAnd, opOr, opXor, opDiff, opShr, opBit, hkk, gk, ask0, gp0, hky, hg, hgt, hM2]), (by first | omega | assumption | (simp (disch := first | omega | (simp; done) | fail) [wrap64c, if_pos, if_neg, opAnd, opOr, opXor, opDiff, opShr, opBit, hkk, gk, ask0, gp0, hky, hg, hgt, hM2] <;> omega)), (Wr.refl _ _), hA2⟩ ?_
      rintro m tm h' hFr ⟨j, rfl, e10, e37, hj, hW, hAA⟩
      simp only [FrameL] at hFr
      obtain ⟨f0_0, f1_0, f2_0, f7_0, f35_0, f36_0, -⟩ := hFr
      try simp (disch := first | omega | (simp; done) | fail) [wrap64c, if_pos, if_neg, opAnd, opOr, opXor, opDiff, opShr, opBit, hkk, gk, ask0, gp0, hky, hg, hgt, hM2] at f0_0 f1_0 f2_0 f7_0 f35_0 f36_0
      have e0 := f0_0
      have e1 := f1_0
      have e2 := f2_0
      have e7 := f7_0
      have e35 := f35_0
      have e36 := f36_0
      have hu := hW.upd
      have hv2 := (hi2.same (hu.same fun x hx hx' => by unfold Btw at hx; omega)).ints
      have gk' : h'.get h.next = .cells [.int .i64 (y : Int), .int .i64 (z : Int)] true true 1 := by rw [hu.2 _ (by omega) (by omega)]; exact gk2
      have ask' := hAA.asker
      have n3 := hu.1
      have hml := minL_le_of (L := L) j
      by_cases hlt : j < (openN L).length
      · obtain ⟨o_x, i_x, c_x, cs_x, own_x, ex_x, es_x, q_x, b_x, g_x, l_x, r_x⟩ := hv2.open ((by omega))
        have z_x : ∀ h2 : i_x < cs_x.length, cs_x[i_x] = _ := fun h2 => r_x 0 ((by omega)) h2
        obtain ⟨i, hi⟩ : ∃ i, i = (openN L)[j] := ⟨_, rfl⟩
        have hopi := (mem_openK.1 (List.getElem_mem hlt)).2
        have hi7 : i < 7 := by rw [hi]; exact (mem_openK.1 (List.getElem_mem hlt)).1
        rw [← hi] at hopi
        have hi' := hi.symm
        have hlen := has_len hopi
        have hmt := minL_take (L := L) hlt
        rw [← hi] at hmt
        have hb7 := bit_lt7 hi7
        have hy2 := nOr128 (b := bit i) hy (by omega)
        have hz2 := nOr128 (b := bit i) hz (by omega)
        have hw1 := worstN_le (hasL L i)
        have hw2 := worstN_le (lacksL L i)
        have haq : askN L i = 1 + max (worstN (hasL L i)) (worstN (lacksL L i)) := rfl
        try simp (disch := first | omega | (simp; done) | fail) [wrap64c, if_pos, if_neg, opAnd, opOr, opXor, opDiff, opShr, opBit, hkk, gk, ask0, gp0, hky, hg, hgt, hM2, e0, e1, e2, e7, e10, e35, e36, e37, gk', ask', hlt, q_x, g_x, l_x, r_x, z_x, hi']
        refine WD_chainC rfl (by kernel_rfl) (by kernel_rfl) ?_
        try simp (disch := first | omega | (simp; done) | fail) [wrap64c, if_pos, if_neg, opAnd, opOr, opXor, opDiff, opShr, opBit, hkk, gk, ask0, gp0, hky, hg, hgt, hM2, e0, e1, e2, e7, e10, e35, e36, e37, gk', ask', hlt, q_x, g_x, l_x, r_x, z_x, hi']
        obtain ⟨_, h3, hc3, rfl, W3, A3⟩ := ih h' (nOr y (bit i)) z hAA (by omega) hy2 hz (by rw [left_yes, ← hLe]; omega)
        refine callG_c (by simp) (by simp) ?ha (hc3) ?_
        (case ha => simp (disch := first | omega | (simp; done) | fail) [wrap64c, if_pos, if_neg, opAnd, opOr, opXor, opDiff, opShr, opBit, hkk, gk, ask0, gp0, hky, hg, hgt, hM2, e0, e1, e2, e7, e10, e35, e36, e37, gk', ask', hlt, q_x, g_x, l_x, r_x, z_x, hi'])
        have n4 := W3.upd.1
        rw [left_yes, ← hLe]
        try simp (disch := first | omega | (simp; done) | fail) [wrap64c, if_pos, if_neg, opAnd, opOr, opXor, opDiff, opShr, opBit, hkk, gk, ask0, gp0, hky, hg, hgt, hM2, e0, e1, e2, e7, e10, e35, e36, e37, gk', ask', hlt, q_x, g_x, l_x, r_x, z_x, hi']
        obtain ⟨_, h4, hc4, rfl, W4, A4⟩ := ih h3 y (nOr z (bit i)) A3 (by omega) hy hz2 (by rw [left_no, ← hLe]; omega)
        refine callG_c (by simp) (by simp) ?ha (hc4) ?_
        (case ha => simp (disch := first | omega | (simp; done) | fail) [wrap64c, if_pos, if_neg, opAnd, opOr, opXor, opDiff, opShr, opBit, hkk, gk, ask0, gp0, hky, hg, hgt, hM2, e0, e1, e2, e7, e10, e35, e36, e37, gk', ask', hlt, q_x, g_x, l_x, r_x, z_x, hi'])
        rw [left_no, ← hLe]
        obtain ⟨w1, hw1'⟩ : ∃ w, w = worstN (hasL L i) := ⟨_, rfl⟩
        obtain ⟨w2, hw2'⟩ : ∃ w, w = worstN (lacksL L i) := ⟨_, rfl⟩
        obtain ⟨w0, hw0⟩ : ∃ w, w = minL (((openN L).take j).map (askN L)) := ⟨_, rfl⟩
        rw [← hw1', ← hw2'] at haq
        rw [← hw1'] at hw1
        rw [← hw2'] at hw2
        rw [← hw0] at hmt hml e10
        rw [haq] at hmt
        rw [← hw1', ← hw2']
        by_cases hc12 : w1 < w2
        · try simp (disch := first | omega | (simp; done) | fail) [wrap64c, if_pos, if_neg, opAnd, opOr, opXor, opDiff, opShr, opBit, hkk, gk, ask0, gp0, hky, hg, hgt, hM2, e0, e1, e2, e7, e10, e35, e36, e37, gk', ask', hlt, q_x, g_x, l_x, r_x, z_x, hi', hc12]
          by_cases hj0 : j = 0
          · have hj0' : ((j : Int) == 0) = true := by simp [hj0]
            rw [if_pos hj0] at hmt
            try simp (disch := first | omega | (simp; done) | fail) [wrap64c, if_pos, if_neg, opAnd, opOr, opXor, opDiff, opShr, opBit, hkk, gk, ask0, gp0, hky, hg, hgt, hM2, e0, e1, e2, e7, e10, e35, e36, e37, gk', ask', hlt, q_x, g_x, l_x, r_x, z_x, hi', hc12, hj0']
            refine loopK_next _ ?hm ?hf ⟨j + 1, rfl, (by rw [hmt]; simp; omega), (by simp (disch := first | omega | (simp; done) | fail) [wrap64c, if_pos, if_neg, opAnd, opOr, opXor, opDiff, opShr, opBit, hkk, gk, ask0, gp0, hky, hg, hgt, hM2, e0, e1, e2, e7, e10, e35, e36, e37, gk', ask', hlt, q_x, g_x, l_x, r_x, z_x, hi', hc12, hj0'] <;> omega), (by first | omega | assumption | (simp (disch := first | omega | (simp; done) | fail) [wrap64c, if_pos, if_neg, opAnd, opOr, opXor, opDiff, opShr, opBit, hkk, gk, ask0, gp0, hky, hg, hgt, hM2, e0, e1, e2, e7, e10, e35, e36, e37, gk', ask', hlt, q_x, g_x, l_x, r_x, z_x, hi', hc12, hj0'] <;> omega)), (hW.trans (W3.trans W4)), A4⟩
            (case hm => first | omega | (simp; omega))
            (case hf => simp [FrameL, hkk, gk, ask0, gp0, hky, hg, hgt, hM2, e0, e1, e2, e7, e10, e35, e36, e37, gk', ask', hlt, q_x, g_x, l_x, r_x, z_x, hi', hc12, hj0', f0_0, f1_0, f2_0, f7_0, f35_0, f36_0])
          · have hj0' : ((j : Int) == 0) = false := by simp [hj0]
            rw [if_neg hj0] at hmt
            by_cases hq : 1 + w2 < w0
            · have hq' : (1 + (w2 : Int)) < (w0 : Int) := by omega
              try simp (disch := first | omega | (simp; done) | fail) [wrap64c, if_pos, if_neg, opAnd, opOr, opXor, opDiff, opShr, opBit, hkk, gk, ask0, gp0, hky, hg, hgt, hM2, e0, e1, e2, e7, e10, e35, e36, e37, gk', ask', hlt, q_x, g_x, l_x, r_x, z_x, hi', hc12, hj0', hq, hq']
              refine loopK_next _ ?hm ?hf ⟨j + 1, rfl, (by rw [hmt]; simp; omega), (by simp (disch := first | omega | (simp; done) | fail) [wrap64c, if_pos, if_neg, opAnd, opOr, opXor, opDiff, opShr, opBit, hkk, gk, ask0, gp0, hky, hg, hgt, hM2, e0, e1, e2, e7, e10, e35, e36, e37, gk', ask', hlt, q_x, g_x, l_x, r_x, z_x, hi', hc12, hj0', hq, hq'] <;> omega), (by first | omega | assumption | (simp (disch := first | omega | (simp; done) | fail) [wrap64c, if_pos, if_neg, opAnd, opOr, opXor, opDiff, opShr, opBit, hkk, gk, ask0, gp0, hky, hg, hgt, hM2, e0, e1, e2, e7, e10, e35, e36, e37, gk', ask', hlt, q_x, g_x, l_x, r_x, z_x, hi', hc12, hj0', hq, hq'] <;> omega)), (hW.trans (W3.trans W4)), A4⟩
              (case hm => first | omega | (simp; omega))
              (case hf => simp [FrameL, hkk, gk, ask0, gp0, hky, hg, hgt, hM2, e0, e1, e2, e7, e10, e35, e36, e37, gk', ask', hlt, q_x, g_x, l_x, r_x, z_x, hi', hc12, hj0', hq, hq', f0_0, f1_0, f2_0, f7_0, f35_0, f36_0])
            · have hq' : ¬ (1 + (w2 : Int)) < (w0 : Int) := by omega
              try simp (disch := first | omega | (simp; done) | fail) [wrap64c, if_pos, if_neg, opAnd, opOr, opXor, opDiff, opShr, opBit, hkk, gk, ask0, gp0, hky, hg, hgt, hM2, e0, e1, e2, e7, e10, e35, e36, e37, gk', ask', hlt, q_x, g_x, l_x, r_x, z_x, hi', hc12, hj0', hq, hq']
              refine loopK_next _ ?hm ?hf ⟨j + 1, rfl, (by rw [hmt]; simp [e10]; omega), (by simp (disch := first | omega | (simp; done) | fail) [wrap64c, if_pos, if_neg, opAnd, opOr, opXor, opDiff, opShr, opBit, hkk, gk, ask0, gp0, hky, hg, hgt, hM2, e0, e1, e2, e7, e10, e35, e36, e37, gk', ask', hlt, q_x, g_x, l_x, r_x, z_x, hi', hc12, hj0', hq, hq'] <;> omega), (by first | omega | assumption | (simp (disch := first | omega | (simp; done) | fail) [wrap64c, if_pos, if_neg, opAnd, opOr, opXor, opDiff, opShr, opBit, hkk, gk, ask0, gp0, hky, hg, hgt, hM2, e0, e1, e2, e7, e10, e35, e36, e37, gk', ask', hlt, q_x, g_x, l_x, r_x, z_x, hi', hc12, hj0', hq, hq'] <;> omega)), (hW.trans (W3.trans W4)), A4⟩
              (case hm => first | omega | (simp; omega))
              (case hf => simp [FrameL, hkk, gk, ask0, gp0, hky, hg, hgt, hM2, e0, e1, e2, e7, e10, e35, e36, e37, gk', ask', hlt, q_x, g_x, l_x, r_x, z_x, hi', hc12, hj0', hq, hq', f0_0, f1_0, f2_0, f7_0, f35_0, f36_0])
        · try simp (disch := first | omega | (simp; done) | fail) [wrap64c, if_pos, if_neg, opAnd, opOr, opXor, opDiff, opShr, opBit, hkk, gk, ask0, gp0, hky, hg, hgt, hM2, e0, e1, e2, e7, e10, e35, e36, e37, gk', ask', hlt, q_x, g_x, l_x, r_x, z_x, hi', hc12]
          by_cases hj0 : j = 0
          · have hj0' : ((j : Int) == 0) = true := by simp [hj0]
            rw [if_pos hj0] at hmt
            try simp (disch := first | omega | (simp; done) | fail) [wrap64c, if_pos, if_neg, opAnd, opOr, opXor, opDiff, opShr, opBit, hkk, gk, ask0, gp0, hky, hg, hgt, hM2, e0, e1, e2, e7, e10, e35, e36, e37, gk', ask', hlt, q_x, g_x, l_x, r_x, z_x, hi', hc12, hj0']
            refine loopK_next _ ?hm ?hf ⟨j + 1, rfl, (by rw [hmt]; simp; omega), (by simp (disch := first | omega | (simp; done) | fail) [wrap64c, if_pos, if_neg, opAnd, opOr, opXor, opDiff, opShr, opBit, hkk, gk, ask0, gp0, hky, hg, hgt, hM2, e0, e1, e2, e7, e10, e35, e36, e37, gk', ask', hlt, q_x, g_x, l_x, r_x, z_x, hi', hc12, hj0'] <;> omega), (by first | omega | assumption | (simp (disch := first | omega | (simp; done) | fail) [wrap64c, if_pos, if_neg, opAnd, opOr, opXor, opDiff, opShr, opBit, hkk, gk, ask0, gp0, hky, hg, hgt, hM2, e0, e1, e2, e7, e10, e35, e36, e37, gk', ask', hlt, q_x, g_x, l_x, r_x, z_x, hi', hc12, hj0'] <;> omega)), (hW.trans (W3.trans W4)), A4⟩
            (case hm => first | omega | (simp; omega))
            (case hf => simp [FrameL, hkk, gk, ask0, gp0, hky, hg, hgt, hM2, e0, e1, e2, e7, e10, e35, e36, e37, gk', ask', hlt, q_x, g_x, l_x, r_x, z_x, hi', hc12, hj0', f0_0, f1_0, f2_0, f7_0, f35_0, f36_0])
          · have hj0' : ((j : Int) == 0) = false := by simp [hj0]
            rw [if_neg hj0] at hmt
            by_cases hq : 1 + w1 < w0
            · have hq' : (1 + (w1 : Int)) < (w0 : Int) := by omega
              try simp (disch := first | omega | (simp; done) | fail) [wrap64c, if_pos, if_neg, opAnd, opOr, opXor, opDiff, opShr, opBit, hkk, gk, ask0, gp0, hky, hg, hgt, hM2, e0, e1, e2, e7, e10, e35, e36, e37, gk', ask', hlt, q_x, g_x, l_x, r_x, z_x, hi', hc12, hj0', hq, hq']
              refine loopK_next _ ?hm ?hf ⟨j + 1, rfl, (by rw [hmt]; simp; omega), (by simp (disch := first | omega | (simp; done) | fail) [wrap64c, if_pos, if_neg, opAnd, opOr, opXor, opDiff, opShr, opBit, hkk, gk, ask0, gp0, hky, hg, hgt, hM2, e0, e1, e2, e7, e10, e35, e36, e37, gk', ask', hlt, q_x, g_x, l_x, r_x, z_x, hi', hc12, hj0', hq, hq'] <;> omega), (by first | omega | assumption | (simp (disch := first | omega | (simp; done) | fail) [wrap64c, if_pos, if_neg, opAnd, opOr, opXor, opDiff, opShr, opBit, hkk, gk, ask0, gp0, hky, hg, hgt, hM2, e0, e1, e2, e7, e10, e35, e36, e37, gk', ask', hlt, q_x, g_x, l_x, r_x, z_x, hi', hc12, hj0', hq, hq'] <;> omega)), (hW.trans (W3.trans W4)), A4⟩
              (case hm => first | omega | (simp; omega))
              (case hf => simp [FrameL, hkk, gk, ask0, gp0, hky, hg, hgt, hM2, e0, e1, e2, e7, e10, e35, e36, e37, gk', ask', hlt, q_x, g_x, l_x, r_x, z_x, hi', hc12, hj0', hq, hq', f0_0, f1_0, f2_0, f7_0, f35_0, f36_0])
            · have hq' : ¬ (1 + (w1 : Int)) < (w0 : Int) := by omega
              try simp (disch := first | omega | (simp; done) | fail) [wrap64c, if_pos, if_neg, opAnd, opOr, opXor, opDiff, opShr, opBit, hkk, gk, ask0, gp0, hky, hg, hgt, hM2, e0, e1, e2, e7, e10, e35, e36, e37, gk', ask', hlt, q_x, g_x, l_x, r_x, z_x, hi', hc12, hj0', hq, hq']
              refine loopK_next _ ?hm ?hf ⟨j + 1, rfl, (by rw [hmt]; simp [e10]; omega), (by simp (disch := first | omega | (simp; done) | fail) [wrap64c, if_pos, if_neg, opAnd, opOr, opXor, opDiff, opShr, opBit, hkk, gk, ask0, gp0, hky, hg, hgt, hM2, e0, e1, e2, e7, e10, e35, e36, e37, gk', ask', hlt, q_x, g_x, l_x, r_x, z_x, hi', hc12, hj0', hq, hq'] <;> omega), (by first | omega | assumption | (simp (disch := first | omega | (simp; done) | fail) [wrap64c, if_pos, if_neg, opAnd, opOr, opXor, opDiff, opShr, opBit, hkk, gk, ask0, gp0, hky, hg, hgt, hM2, e0, e1, e2, e7, e10, e35, e36, e37, gk', ask', hlt, q_x, g_x, l_x, r_x, z_x, hi', hc12, hj0', hq, hq'] <;> omega)), (hW.trans (W3.trans W4)), A4⟩
              (case hm => first | omega | (simp; omega))
              (case hf => simp [FrameL, hkk, gk, ask0, gp0, hky, hg, hgt, hM2, e0, e1, e2, e7, e10, e35, e36, e37, gk', ask', hlt, q_x, g_x, l_x, r_x, z_x, hi', hc12, hj0', hq, hq', f0_0, f1_0, f2_0, f7_0, f35_0, f36_0])
      · have hft : (openN L).take j = openN L := List.take_of_length_le (by omega)
        rw [hft, ← worstN_eq] at e10
        obtain ⟨es', gp', hM'⟩ := hAA.mem
        have gp' := gp'
        have hky' : keysOK 2 es' = true := hM'.keys
        try simp (disch := first | omega | (simp; done) | fail) [wrap64c, if_pos, if_neg, opAnd, opOr, opXor, opDiff, opShr, opBit, hkk, gk, ask0, gp0, hky, hg, hgt, hM2, e0, e1, e2, e7, e10, e35, e36, e37, gk', ask', hlt, gp', hky']
        refine WD_drawC 6 rfl (by kernel_rfl) ?_
        try simp (disch := first | omega | (simp; done) | fail) [wrap64c, if_pos, if_neg, opAnd, opOr, opXor, opDiff, opShr, opBit, hkk, gk, ask0, gp0, hky, hg, hgt, hM2, e0, e1, e2, e7, e10, e35, e36, e37, gk', ask', hlt, gp', hky']
        have WW := ((((Wr.of_adds k0).trans (.of_adds ha1)).trans (.of_adds ha2)).trans hW).put (o := p) (S := fun q => q = p) rfl (x := .map (mapPut es' (keyV y z) (.int .i64 ((worstN L : Nat) : Int)))) (fun _ => rfl)
        refine done_ret rfl ⟨by simp [← hLe], WW, ?_⟩
        refine ⟨hob, hpb, hA.ne, ?_, hAA.ints.same ⟨by simp, fun q hq _ => by simp [hq.2]⟩, ⟨_, by simp; rfl, ?_⟩⟩
        · simp [hA.ne, ask']
        · have := hM'.put y z
          rw [← hLe] at this
          exact this
    · unfold keyV at hg
      have hg := hg
      try simp (disch := first | omega | (simp; done) | fail) [wrap64c, if_pos, if_neg, opAnd, opOr, opXor, opDiff, opShr, opBit, hkk, gk, ask0, gp0, hky, hg]
      exact done_ret rfl ⟨rfl, .of_adds k0, hA0⟩
theorem best_ok (base o p : Nat) (N : Int) (b m2 : Value) (xs : List Nat) (hx : ∀ x ∈ xs, x < 128) (hl : xs.length < 2 ^ 39) (h : Hp) (y z : Nat) (hA : AskOK base o p N b m2 xs h) (hb : base ≤ h.next) (hy : y < 128) (hz : z < 128) :
    ∃ v h', CallOK Try.prog 162 #[.pointer (some ⟨o, 0, none⟩), .int .i64 (y : Int), .int .i64 (z : Int)] h v h' ∧ v = .int .i64 (bestN (leftN xs y z)) ∧ Wr (fun q => q = p) h h' ∧ AskOK base o p N b m2 xs h' := by
  refine callY_L (args := [.pointer (some ⟨o, 0, none⟩), .int .i64 (y : Int), .int .i64 (z : Int)]) 45 _ [.tmp 6] Try.func162 rfl rfl rfl ?_
  have hob := hA.ob
  have hpb := hA.pb
  have hll := left_len xs y z
  have ask0 := hA.asker
  try simp (disch := first | omega | (simp; done) | fail) [wrap64c, if_pos, if_neg, opAnd, opOr, opXor, opDiff, opShr, opBit, ask0]
  obtain ⟨v1, h1, hc1, ha1, hi1⟩ := imLeft_ok h (.agg #[.int .i64 N, b]) N xs y z (.mk hA.ints.ints) hx hl hy hz
  refine callG_c (by simp) (by simp) ?ha (hc1) ?_
  (case ha => simp (disch := first | omega | (simp; done) | fail) [wrap64c, if_pos, if_neg, opAnd, opOr, opXor, opDiff, opShr, opBit, ask0])
  obtain ⟨L, hLe⟩ : ∃ L, L = leftN xs y z := ⟨_, rfl⟩
  have hLx : ∀ x ∈ L, x < 128 := fun x hm => hx x (left_sub (hLe ▸ hm))
  have hLl : L.length < 2 ^ 39 := by rw [hLe]; omega
  rw [← hLe] at hi1
  try simp (disch := first | omega | (simp; done) | fail) [wrap64c, if_pos, if_neg, opAnd, opOr, opXor, opDiff, opShr, opBit, ask0]
  obtain ⟨v2, h2, hc2, ha2, hi2⟩ := open_ok h1 v1 L hi1.ints hLx hLl
  refine callG_c (by simp) (by simp) ?ha (hc2) ?_
  (case ha => simp (disch := first | omega | (simp; done) | fail) [wrap64c, if_pos, if_neg, opAnd, opOr, opXor, opDiff, opShr, opBit, ask0])
  have n1 := ha1.1.1
  have n2 := ha2.1.1
  have hA2 := (hA.adds (by omega) ha1).adds (by omega) ha2
  have hgt := toN_get (openN L)
  have hln := toN_length (openN L)
  have hM2 := hi2.ints.lenD
  have hol : (openN L).length ≤ 7 := openK_len L 7
  have W2 : Wr (fun q => q = p) h h2 := (Wr.of_adds ha1).trans (.of_adds ha2)
  try simp (disch := first | omega | (simp; done) | fail) [wrap64c, if_pos, if_neg, opAnd, opOr, opXor, opDiff, opShr, opBit, ask0, hgt, hM2]
  refine WD_loopC [0, 1, 2, 16, 17] (fun m tm h' => ∃ j, m = (openN L).length - j ∧ tm 18 = .int .i64 (j : Int) ∧ (j ≤ (openN L).length) ∧ (Wr (fun q => q = p) h2 h') ∧ (AskOK base o p N b m2 xs h') ∧ (∀ k (hk : k < (openN L).length), k < j → askN L (openN L)[k] ≠ worstN L)) _ ⟨0, rfl, (by simp (disch := first | omega | (simp; done) | fail) [wrap64c, if_pos, if_neg, opAnd, opOr, opXor, opDiff, opShr, opBit, ask0, hgt, hM2]), (by first | omega | assumption | (simp (disch := first | omega | (simp; done) | fail) [wrap64c, if_pos, if_neg, opAnd, opOr, opXor, opDiff, opShr, opBit, ask0, hgt, hM2] <;> omega)), (Wr.refl _ _), hA2, (by intro k h1 h0; omega)⟩ ?_
  rintro m tm h' hFr ⟨j, rfl, e18, hj, hW, hAA, hn1⟩
  simp only [FrameL] at hFr
  obtain ⟨f0_0, f1_0, f2_0, f16_0, f17_0, -⟩ := hFr
  try simp (disch := first | omega | (simp; done) | fail) [wrap64c, if_pos, if_neg, opAnd, opOr, opXor, opDiff, opShr, opBit, ask0, hgt, hM2] at f0_0 f1_0 f2_0 f16_0 f17_0
  have e0 := f0_0
  have e1 := f1_0
  have e2 := f2_0
  have e16 := f16_0
  have e17 := f17_0
  have hu := hW.upd
  have hv2 := (hi2.same (hu.same fun x hx hx' => by unfold Btw at hx; omega)).ints
  have n3 := hu.1
  by_cases hlt : j < (openN L).length
  · obtain ⟨o_x, i_x, c_x, cs_x, own_x, ex_x, es_x, q_x, b_x, g_x, l_x, r_x⟩ := hv2.open ((by omega))
    have z_x : ∀ h2 : i_x < cs_x.length, cs_x[i_x] = _ := fun h2 => r_x 0 ((by omega)) h2
    obtain ⟨i, hi⟩ : ∃ i, i = (openN L)[j] := ⟨_, rfl⟩
    have hopi := (mem_openK.1 (List.getElem_mem hlt)).2
    have hi7 : i < 7 := by rw [hi]; exact (mem_openK.1 (List.getElem_mem hlt)).1
    rw [← hi] at hopi
    have hi' := hi.symm
    have hlen := has_len hopi
    have hb7 := bit_lt7 hi7
    have hy2 := nOr128 (b := bit i) hy (by omega)
    have hz2 := nOr128 (b := bit i) hz (by omega)
    have hw1 := worstN_le (hasL L i)
    have hw2 := worstN_le (lacksL L i)
    have hw3 := worstN_le L
    have haq : askN L i = 1 + max (worstN (hasL L i)) (worstN (lacksL L i)) := rfl
    try simp (disch := first | omega | (simp; done) | fail) [wrap64c, if_pos, if_neg, opAnd, opOr, opXor, opDiff, opShr, opBit, ask0, hgt, hM2, e0, e1, e2, e16, e17, e18, hlt, q_x, g_x, l_x, r_x, z_x, hi']
    refine WD_chainC rfl (by kernel_rfl) (by kernel_rfl) ?_
    try simp (disch := first | omega | (simp; done) | fail) [wrap64c, if_pos, if_neg, opAnd, opOr, opXor, opDiff, opShr, opBit, ask0, hgt, hM2, e0, e1, e2, e16, e17, e18, hlt, q_x, g_x, l_x, r_x, z_x, hi']
    obtain ⟨_, h3, hc3, rfl, W3, A3⟩ := least_ok base o p N b m2 xs hx hl (L.length + 1) h' (nOr y (bit i)) z hAA (by omega) hy2 hz (by rw [left_yes, ← hLe]; omega)
    refine callG_c (by simp) (by simp) ?ha (hc3) ?_
    (case ha => simp (disch := first | omega | (simp; done) | fail) [wrap64c, if_pos, if_neg, opAnd, opOr, opXor, opDiff, opShr, opBit, ask0, hgt, hM2, e0, e1, e2, e16, e17, e18, hlt, q_x, g_x, l_x, r_x, z_x, hi'])
    have n4 := W3.upd.1
    rw [left_yes, ← hLe]
    try simp (disch := first | omega | (simp; done) | fail) [wrap64c, if_pos, if_neg, opAnd, opOr, opXor, opDiff, opShr, opBit, ask0, hgt, hM2, e0, e1, e2, e16, e17, e18, hlt, q_x, g_x, l_x, r_x, z_x, hi']
    obtain ⟨_, h4, hc4, rfl, W4, A4⟩ := least_ok base o p N b m2 xs hx hl (L.length + 1) h3 y (nOr z (bit i)) A3 (by omega) hy hz2 (by rw [left_no, ← hLe]; omega)
    refine callG_c (by simp) (by simp) ?ha (hc4) ?_
    (case ha => simp (disch := first | omega | (simp; done) | fail) [wrap64c, if_pos, if_neg, opAnd, opOr, opXor, opDiff, opShr, opBit, ask0, hgt, hM2, e0, e1, e2, e16, e17, e18, hlt, q_x, g_x, l_x, r_x, z_x, hi'])
    have n5 := W4.upd.1
    rw [left_no, ← hLe]
    obtain ⟨_, h5, hc5, rfl, W5, A5⟩ := least_ok base o p N b m2 xs hx hl (L.length + 1) h4 y z A4 (by omega) hy hz (by rw [← hLe]; omega)
    obtain ⟨w1, hw1'⟩ : ∃ w, w = worstN (hasL L i) := ⟨_, rfl⟩
    obtain ⟨w2, hw2'⟩ : ∃ w, w = worstN (lacksL L i) := ⟨_, rfl⟩
    obtain ⟨w3, hw3'⟩ : ∃ w, w = worstN L := ⟨_, rfl⟩
    rw [← hw1', ← hw2'] at haq
    rw [← hw1'] at hw1
    rw [← hw2'] at hw2
    rw [← hw3'] at hw3
    rw [← hw1', ← hw2']
    rw [← hLe, ← hw3'] at hc5
    by_cases hc12 : w1 < w2
    · try simp (disch := first | omega | (simp; done) | fail) [wrap64c, if_pos, if_neg, opAnd, opOr, opXor, opDiff, opShr, opBit, ask0, hgt, hM2, e0, e1, e2, e16, e17, e18, hlt, q_x, g_x, l_x, r_x, z_x, hi', hc12]
      refine callG_c (by simp) (by simp) ?ha (hc5) ?_
      (case ha => simp (disch := first | omega | (simp; done) | fail) [wrap64c, if_pos, if_neg, opAnd, opOr, opXor, opDiff, opShr, opBit, ask0, hgt, hM2, e0, e1, e2, e16, e17, e18, hlt, q_x, g_x, l_x, r_x, z_x, hi', hc12])
      by_cases hq : 1 + w2 = w3
      · have hq' : (1 + (w2 : Int)) = (w3 : Int) := by omega
        try simp (disch := first | omega | (simp; done) | fail) [wrap64c, if_pos, if_neg, opAnd, opOr, opXor, opDiff, opShr, opBit, ask0, hgt, hM2, e0, e1, e2, e16, e17, e18, hlt, q_x, g_x, l_x, r_x, z_x, hi', hc12, hq']
        refine done_ret rfl ⟨?_, W2.trans (hW.trans (W3.trans (W4.trans W5))), A5⟩
        (try rw [← hLe]); rw [bestN_at hlt hn1 (by rw [← hi]; omega), ← hi]; simp
      · have hq' : ¬ (1 + (w2 : Int)) = (w3 : Int) := by omega
        try simp (disch := first | omega | (simp; done) | fail) [wrap64c, if_pos, if_neg, opAnd, opOr, opXor, opDiff, opShr, opBit, ask0, hgt, hM2, e0, e1, e2, e16, e17, e18, hlt, q_x, g_x, l_x, r_x, z_x, hi', hc12, hq']
        refine loopK_next _ ?hm ?hf ⟨j + 1, rfl, (by simp (disch := first | omega | (simp; done) | fail) [wrap64c, if_pos, if_neg, opAnd, opOr, opXor, opDiff, opShr, opBit, ask0, hgt, hM2, e0, e1, e2, e16, e17, e18, hlt, q_x, g_x, l_x, r_x, z_x, hi', hc12, hq'] <;> omega), (by first | omega | assumption | (simp (disch := first | omega | (simp; done) | fail) [wrap64c, if_pos, if_neg, opAnd, opOr, opXor, opDiff, opShr, opBit, ask0, hgt, hM2, e0, e1, e2, e16, e17, e18, hlt, q_x, g_x, l_x, r_x, z_x, hi', hc12, hq'] <;> omega)), (hW.trans (W3.trans (W4.trans W5))), A5, ?c_hn1⟩
        (case hm => first | omega | (simp; omega))
        (case hf => simp [FrameL, ask0, hgt, hM2, e0, e1, e2, e16, e17, e18, hlt, q_x, g_x, l_x, r_x, z_x, hi', hc12, hq', f0_0, f1_0, f2_0, f16_0, f17_0])
        case c_hn1 =>
          exact (fun k hk hkj => by
            by_cases e : k = j
            · subst e; rw [← hi]; omega
            · exact hn1 k hk (by omega))
    · try simp (disch := first | omega | (simp; done) | fail) [wrap64c, if_pos, if_neg, opAnd, opOr, opXor, opDiff, opShr, opBit, ask0, hgt, hM2, e0, e1, e2, e16, e17, e18, hlt, q_x, g_x, l_x, r_x, z_x, hi', hc12]
      refine callG_c (by simp) (by simp) ?ha (hc5) ?_
      (case ha => simp (disch := first | omega | (simp; done) | fail) [wrap64c, if_pos, if_neg, opAnd, opOr, opXor, opDiff, opShr, opBit, ask0, hgt, hM2, e0, e1, e2, e16, e17, e18, hlt, q_x, g_x, l_x, r_x, z_x, hi', hc12])
      by_cases hq : 1 + w1 = w3
      · have hq' : (1 + (w1 : Int)) = (w3 : Int) := by omega
        try simp (disch := first | omega | (simp; done) | fail) [wrap64c, if_pos, if_neg, opAnd, opOr, opXor, opDiff, opShr, opBit, ask0, hgt, hM2, e0, e1, e2, e16, e17, e18, hlt, q_x, g_x, l_x, r_x, z_x, hi', hc12, hq']
        refine done_ret rfl ⟨?_, W2.trans (hW.trans (W3.trans (W4.trans W5))), A5⟩
        (try rw [← hLe]); rw [bestN_at hlt hn1 (by rw [← hi]; omega), ← hi]; simp
      · have hq' : ¬ (1 + (w1 : Int)) = (w3 : Int) := by omega
        try simp (disch := first | omega | (simp; done) | fail) [wrap64c, if_pos, if_neg, opAnd, opOr, opXor, opDiff, opShr, opBit, ask0, hgt, hM2, e0, e1, e2, e16, e17, e18, hlt, q_x, g_x, l_x, r_x, z_x, hi', hc12, hq']
        refine loopK_next _ ?hm ?hf ⟨j + 1, rfl, (by simp (disch := first | omega | (simp; done) | fail) [wrap64c, if_pos, if_neg, opAnd, opOr, opXor, opDiff, opShr, opBit, ask0, hgt, hM2, e0, e1, e2, e16, e17, e18, hlt, q_x, g_x, l_x, r_x, z_x, hi', hc12, hq'] <;> omega), (by first | omega | assumption | (simp (disch := first | omega | (simp; done) | fail) [wrap64c, if_pos, if_neg, opAnd, opOr, opXor, opDiff, opShr, opBit, ask0, hgt, hM2, e0, e1, e2, e16, e17, e18, hlt, q_x, g_x, l_x, r_x, z_x, hi', hc12, hq'] <;> omega)), (hW.trans (W3.trans (W4.trans W5))), A5, ?c_hn1⟩
        (case hm => first | omega | (simp; omega))
        (case hf => simp [FrameL, ask0, hgt, hM2, e0, e1, e2, e16, e17, e18, hlt, q_x, g_x, l_x, r_x, z_x, hi', hc12, hq', f0_0, f1_0, f2_0, f16_0, f17_0])
        case c_hn1 =>
          exact (fun k hk hkj => by
            by_cases e : k = j
            · subst e; rw [← hi]; omega
            · exact hn1 k hk (by omega))
  · try simp (disch := first | omega | (simp; done) | fail) [wrap64c, if_pos, if_neg, opAnd, opOr, opXor, opDiff, opShr, opBit, ask0, hgt, hM2, e0, e1, e2, e16, e17, e18, hlt]
    refine done_ret rfl ⟨?_, W2.trans hW, hAA⟩
    rw [← hLe, bestN_none fun k hk => hn1 k hk (by omega)]; simp
end Go.Proofs.Ytnncipcldbopgaa
namespace Go.Proofs.Ytnncipcldbopgaa
set_option linter.unusedSimpArgs false
set_option linter.unusedVariables false
set_option maxHeartbeats 4000000
open Go Go.Eng
attribute [local irreducible] WD RunD PreD Runs CallOK
def nShl (a i : Nat) : Nat := a <<< i
theorem opShl (x y : Int) (hx : 0 ≤ x) (hx2 : x < 1048576) (hy : 0 ≤ y) (hy2 : y < 40) : bShl .i64 x y = ((nShl x.toNat y.toNat : Nat) : Int) := bShl_nat x y hx hx2 hy hy2
theorem place_eq {a b n : Nat} (hb : b < bit n) : nOr (nShl a n) b = a * bit n + b := by
  unfold nOr nShl bit
  rw [← Nat.shiftLeft_add_eq_or_of_lt hb, Nat.shiftLeft_eq]
theorem bit_add (a b : Nat) : bit (a + b) = bit a * bit b := Nat.pow_add 2 a b
theorem place_lt {a b n m : Nat} (hm : m = 2 * n) (ha : a < bit n) (hb : b < bit n) : a * bit n + b < bit m := by
  rw [hm, show 2 * n = n + n by omega, bit_add]
  calc a * bit n + b < a * bit n + bit n := by omega
    _ = (a + 1) * bit n := by rw [Nat.add_mul, Nat.one_mul]
    _ ≤ bit n * bit n := Nat.mul_le_mul (by omega) (Nat.le_refl _)
theorem place_div {a b n : Nat} (hb : b < bit n) : (a * bit n + b) / bit n = a ∧ (a * bit n + b) % bit n = b := by
  have hp := bit_pos n
  constructor
  · rw [Nat.mul_comm, Nat.mul_add_div (by omega), Nat.div_eq_of_lt hb]; omega
  · rw [Nat.mul_comm, Nat.mul_add_mod, Nat.mod_eq_of_lt hb]
def inS (n : Nat) (L : List Nat) : Nat := L.foldl nAnd (bit n - 1)
def outS (n : Nat) (L : List Nat) : Nat := L.foldl ndiff (bit n - 1)
theorem inS_lt (n : Nat) (L : List Nat) : inS n L < bit n := by
  have := foldAnd_le L (bit n - 1)
  have := bit_pos n
  unfold inS; omega
theorem outS_lt (n : Nat) (L : List Nat) : outS n L < bit n := by
  have : ∀ (L : List Nat) (a : Nat), a < bit n → L.foldl ndiff a < bit n := by
    intro L
    induction L with
    | nil => intro a ha; exact ha
    | cons x L ih => intro a ha; exact ih _ (ndiff_lt ha)
  exact this L _ (by have := bit_pos n; omega)
theorem closed_left {n : Nat} {xs : List Nat} (hx : ∀ x ∈ xs, x < bit n) {y z : Nat} (hne : leftN xs y z ≠ []) : leftN xs (inS n (leftN xs y z)) (outS n (leftN xs y z)) = leftN xs y z := by
  obtain ⟨w, hw⟩ := List.exists_mem_of_ne_nil _ hne
  conv => lhs; unfold leftN
  conv => rhs; unfold leftN
  apply List.filter_congr
  intro x hxm
  rw [Bool.eq_iff_iff, leftB_iff, leftB_iff]
  have hwb := leftB_iff.1 (List.mem_filter.1 hw).2
  have hwn := hx w (left_sub hw)
  constructor
  · rintro ⟨h1, h2⟩
    refine ⟨fun i hi => ?_, fun i hi => ?_⟩
    · have hin : i < n := by
        apply Classical.byContradiction
        intro hn
        have := hwb.1 i hi
        rw [hi_bit hwn (by omega)] at this; cases this
      apply h1 i
      unfold inS
      rw [foldAnd_bit, full_bit]
      simp only [hin, decide_true, Bool.true_and, List.all_eq_true]
      intro q hq
      exact (leftB_iff.1 (List.mem_filter.1 hq).2).1 i hi
    · by_cases hin : i < n
      · apply h2 i
        unfold outS
        rw [foldDiff_bit, full_bit]
        simp only [hin, decide_true, Bool.true_and, List.all_eq_true, Bool.not_eq_true']
        intro q hq
        exact (leftB_iff.1 (List.mem_filter.1 hq).2).2 i hi
      · exact hi_bit (hx x hxm) (by omega)
  · intro hxb
    have hxl : x ∈ leftN xs y z := List.mem_filter.2 ⟨hxm, leftB_iff.2 hxb⟩
    refine ⟨fun i hi => ?_, fun i hi => ?_⟩
    · unfold inS at hi
      rw [foldAnd_bit, Bool.and_eq_true, List.all_eq_true] at hi
      exact hi.2 x hxl
    · unfold outS at hi
      rw [foldDiff_bit, Bool.and_eq_true, List.all_eq_true] at hi
      have := hi.2 x hxl
      simpa using this
theorem worst_one {L : List Nat} (h : L.length = 1) : worstN L = 0 := by
  rw [worstN_eq]
  have : openN L = [] := by
    apply Classical.byContradiction
    intro hn
    obtain ⟨i, hi⟩ := List.exists_mem_of_ne_nil _ hn
    have := has_len (mem_openK.1 hi).2
    omega
  rw [this]; rfl
def minW (l : List Nat) : Nat := l.foldl min 1073741824
theorem minW_snoc (l : List Nat) (a : Nat) : minW (l ++ [a]) = min (minW l) a := by simp [minW, List.foldl_append]
theorem minW_le (l : List Nat) : minW l ≤ 1073741824 := by
  have : ∀ (l : List Nat) (b : Nat), l.foldl min b ≤ b := by
    intro l
    induction l with
    | nil => intro b; exact Nat.le_refl _
    | cons a l ih => intro b; have := ih (min b a); simp only [List.foldl_cons]; omega
  exact this l _
theorem minW_eq {l : List Nat} (hne : l ≠ []) (h : ∀ x ∈ l, x ≤ 1073741824) : minW l = minL l := by
  cases l with
  | nil => exact absurd rfl hne
  | cons a l =>
    have ha := h a (by simp)
    rw [minW, minL, List.foldl_cons, Nat.min_eq_right ha]
def cellsN (W : List Nat) : List Value := (toN W).map (.int .i64)
@[simp] theorem cellsN_length (W : List Nat) : (cellsN W).length = W.length := by simp [cellsN]
theorem cellsN_at (W : List Nat) (i : Nat) (h : i < (cellsN W).length) : (cellsN W)[i] = .int .i64 (((W[i]'(by simpa using h) : Nat)) : Int) := by
  simp only [cellsN, List.getElem_map, toN_get]
theorem cellsN_getD (W : List Nat) (i : Nat) (h : i < W.length) : (cellsN W)[i]?.getD undef = .int .i64 ((W[i] : Nat) : Int) := by
  rw [List.getElem?_eq_getElem (by simpa using h), cellsN_at]; rfl
theorem cellsN_set (W : List Nat) (i x : Nat) : (cellsN W).set i (.int .i64 (x : Int)) = cellsN (W.set i x) := by
  simp [cellsN, toN, List.map_set]
theorem cellsN_zero (n : Nat) : List.replicate n (Value.int .i64 0) = cellsN (List.replicate n 0) := by simp [cellsN, toN]
structure TabOK (base ot o1 o2 n m : Nat) (b : Value) (xs : List Nat) (h : Hp) : Prop where
  tb : ot < base
  b1 : o1 < base
  b2 : o2 < base
  n1 : ot ≠ o1
  n2 : ot ≠ o2
  n12 : o1 ≠ o2
  tab : h.get ot = .cells [.int .i64 (n : Int), b, .slice (some ⟨o1, 0, none⟩) (bit m) (bit m), .slice (some ⟨o2, 0, none⟩) (bit m) (bit m)] true true 1
  ints : IntsF (fun x => x < base ∧ x ≠ o1 ∧ x ≠ o2) h b (toN xs)
  ent : ∃ W T : List Nat, W.length = bit m ∧ T.length = bit m ∧ h.get o1 = .cells (cellsN W) true true 1 ∧ h.get o2 = .cells (cellsN T) true true 1 ∧
    ∀ i (h1 : i < W.length) (h2 : i < T.length), 0 < W[i] → W[i] = 1 + worstN (leftN xs (i / bit n) (i % bit n)) ∧ 1 ≤ T[i] ∧ T[i] ≤ 1 + (leftN xs (i / bit n) (i % bit n)).length * (leftN xs (i / bit n) (i % bit n)).length ∧ T[i] = 1 + totN (leftN xs (i / bit n) (i % bit n))
theorem TabOK.adds {base ot o1 o2 n m : Nat} {b : Value} {xs : List Nat} {h h' : Hp} (k : TabOK base ot o1 o2 n m b xs h) (hb : base ≤ h.next) (a : Adds h h') : TabOK base ot o1 o2 n m b xs h' where
  tb := k.tb
  b1 := k.b1
  b2 := k.b2
  n1 := k.n1
  n2 := k.n2
  n12 := k.n12
  tab := by rw [a.1.2 _ (by have := k.tb; omega)]; exact k.tab
  ints := k.ints.keep a.1
  ent := by
    obtain ⟨W, T, e1, e2, e3, e4, e5⟩ := k.ent
    exact ⟨W, T, e1, e2, by rw [a.1.2 _ (by have := k.b1; omega)]; exact e3, by rw [a.1.2 _ (by have := k.b2; omega)]; exact e4, e5⟩
theorem l1Least_ok (h : Hp) (a b : Int) : CallOK Try.prog 194 #[.int .i64 a, .int .i64 b] h (.int .i64 (if a < b then a else b)) h := by
  refine callY_P 10 _ [.tmp 4] Try.func194 rfl rfl rfl (by first | rfl | simp) ?_
  by_cases hc : a < b
  · try simp (disch := first | omega | (simp; done) | fail) [wrap64c, if_pos, if_neg, opAnd, opOr, opXor, opDiff, opShr, opBit, hc]
    exact done_ret rfl (by simp [hc])
  · try simp (disch := first | omega | (simp; done) | fail) [wrap64c, if_pos, if_neg, opAnd, opOr, opXor, opDiff, opShr, opBit, hc]
    exact done_ret rfl (by simp [hc])
theorem l1MostN_ok (h : Hp) (a b : Nat) : CallOK Try.prog 173 #[.int .i64 (a : Int), .int .i64 (b : Int)] h (.int .i64 ((max a b : Nat) : Int)) h := by
  have := l1Most_ok h a b
  have e : (if (b : Int) < a then (a : Int) else b) = ((max a b : Nat) : Int) := by split <;> omega
  rw [e] at this; exact this
theorem l1LeastN_ok (h : Hp) (a b : Nat) : CallOK Try.prog 194 #[.int .i64 (a : Int), .int .i64 (b : Int)] h (.int .i64 ((min a b : Nat) : Int)) h := by
  have := l1Least_ok h a b
  have e : (if (a : Int) < b then (a : Int) else b) = ((min a b : Nat) : Int) := by split <;> omega
  rw [e] at this; exact this
theorem asNew_ok (h : Hp) (v : Value) (n : Nat) (xs : List Nat) (hv : Space h v n (toN xs)) (hn : n ≤ 7) : ∃ v' h', CallOK Try.prog 159 #[v] h v' h' ∧ ∃ ot o1 o2 b, v' = .pointer (some ⟨ot, 0, none⟩) ∧ Adds h h' ∧
    (h.next ≤ ot ∧ h.next ≤ o1 ∧ h.next ≤ o2) ∧ TabOK h'.next ot o1 o2 n (2 * n) b xs h' := by
  refine callY_L (args := [v]) 16 _ [.tmp 2] Try.func159 rfl rfl rfl ?_
  obtain ⟨b, rfl, hX⟩ := hv
  have nt := hX.nt
  have cs := hX.cs
  obtain ⟨m, hm⟩ : ∃ m, m = 2 * n := ⟨_, rfl⟩
  have hm2 : 2 * (n : Int) = (m : Int) := by omega
  have hb := bit20 (i := m) (by omega)
  try simp (disch := first | omega | (simp; done) | fail) [wrap64c, if_pos, if_neg, opAnd, opOr, opXor, opDiff, opShr, opBit, nt, cs, hm2]
  refine WD_drawC 13 rfl (by kernel_rfl) ?_
  try simp (disch := first | omega | (simp; done) | fail) [wrap64c, if_pos, if_neg, opAnd, opOr, opXor, opDiff, opShr, opBit, nt, cs, hm2, (by omega : ((bit m : Nat) : Int) < 140737488355328), (by omega : (8 : Int) * (bit m : Nat) ≤ 281474976710656)]
  first | refine WY_heap fun h1 q_h1 => ?_ | refine callG_heap fun h1 q_h1 => ?_ | refine callP_heap fun h1 q_h1 => ?_ | refine callS_heap fun h1 q_h1 => ?_ | refine RY_heap fun h1 q_h1 => ?_ | refine PY_heap fun h1 q_h1 => ?_ | refine SY_heap fun h1 q_h1 => ?_ | refine doneY_heap fun h1 q_h1 => ?_ | refine loopK_heap fun h1 q_h1 => ?_ | refine thenY_heap fun h1 q_h1 => ?_ | refine thenM_heap fun h1 q_h1 => ?_
  have k1 : Adds h h1 := by rw [q_h1]; exact (by first | exact aK | exact kK)
  have hn1 : h1.next = h.next + 4 := by simp [q_h1]
  refine done_ret rfl ⟨h.next + 3, h.next + 1, h.next + 2, b, by simp, k1, ⟨by omega, by omega, by omega⟩, ⟨by omega, by omega, by omega, by omega, by omega, by omega, ?_, ?_, ?_⟩⟩
  · rw [← hm]; simp [q_h1]
  · exact (hX.old.keep k1.1).sub fun q hq => by omega
  · rw [← hm]
    refine ⟨List.replicate (bit m) 0, List.replicate (bit m) 0, by simp, by simp, ?_, ?_, fun i h1 h2 h3 => ?_⟩
    · rw [← cellsN_zero]; simp [q_h1]
    · rw [← cellsN_zero]; simp [q_h1]
    · simp at h3
theorem closed_ok (h : Hp) (base ot o1 o2 n m : Nat) (b : Value) (xs : List Nat) (y z : Nat) (hT : TabOK base ot o1 o2 n m b xs h) (hb : base ≤ h.next) (hn : n ≤ 7) (hx : ∀ x ∈ xs, x < 128) (hl : xs.length ≤ 128) (hy : y < 128) (hz : z < 128) :
    ∃ v' h', CallOK Try.prog 236 #[.pointer (some ⟨ot, 0, none⟩), .int .i64 (y : Int), .int .i64 (z : Int)] h v' h' ∧ Adds h h' ∧
      ∃ u, v' = .tuple #[u, .int .i64 ((inS n (leftN xs y z) : Nat) : Int), .int .i64 ((outS n (leftN xs y z) : Nat) : Int)] ∧ IntsO (Btw h.next h'.next) h' u (toN (leftN xs y z)) := by
  refine callY_L (args := [.pointer (some ⟨ot, 0, none⟩), .int .i64 (y : Int), .int .i64 (z : Int)]) 31 _ [.tmp 6, .tmp 7, .tmp 8] Try.func236 rfl rfl rfl ?_
  have htb := hT.tb
  have ht0 := hT.tab
  try simp (disch := first | omega | (simp; done) | fail) [wrap64c, if_pos, if_neg, opAnd, opOr, opXor, opDiff, opShr, opBit, ht0]
  obtain ⟨v1, h1, hc1, ha1, hi1⟩ := spLeft_ok h (.agg #[.int .i64 (n : Int), b]) n xs y z (.mk hT.ints.ints) hx (by omega) hy hz
  refine callG_c (by simp) (by simp) ?ha (hc1) ?_
  (case ha => simp (disch := first | omega | (simp; done) | fail) [wrap64c, if_pos, if_neg, opAnd, opOr, opXor, opDiff, opShr, opBit, ht0])
  have hT1 := hT.adds hb ha1
  have ht1 := hT1.tab
  try simp (disch := first | omega | (simp; done) | fail) [wrap64c, if_pos, if_neg, opAnd, opOr, opXor, opDiff, opShr, opBit, ht0, ht1]
  refine callG_c (by simp) (by simp) ?ha (asKnown_ok h1 (.agg #[.int .i64 (n : Int), b]) v1 n _ (leftN xs y z) (.mk hT1.ints.ints) hi1.ints hn (fun x hm => hx x (left_sub hm)) (by have := left_len xs y z; omega)) ?_
  (case ha => simp (disch := first | omega | (simp; done) | fail) [wrap64c, if_pos, if_neg, opAnd, opOr, opXor, opDiff, opShr, opBit, ht0, ht1])
  try simp (disch := first | omega | (simp; done) | fail) [wrap64c, if_pos, if_neg, opAnd, opOr, opXor, opDiff, opShr, opBit, ht0, ht1]
  exact done_ret rfl ⟨ha1, v1, rfl, hi1⟩
end Go.Proofs.Ytnncipcldbopgaa
namespace Go.Proofs.Ytnncipcldbopgaa
set_option linter.unusedSimpArgs false
set_option linter.unusedVariables false
set_option maxHeartbeats 4000000
open Go Go.Eng
attribute [local irreducible] WD RunD PreD Runs CallOK
def tellP (x : Nat) : List Nat → Nat → Nat
  | [], p => p
  | i :: l, p => tellP x l (if x.testBit i = true then nOr p (bit i) else p)
def tellQ (x : Nat) : List Nat → Nat → Nat
  | [], q => q
  | i :: l, q => tellQ x l (if x.testBit i = true then q else nOr q (bit i))
end Go.Proofs.Ytnncipcldbopgaa
namespace Go.Proofs.Ytnncipcldbopgaa
set_option linter.unusedSimpArgs false
set_option linter.unusedVariables false
set_option maxHeartbeats 4000000
open Go Go.Eng
attribute [local irreducible] WD RunD PreD Runs CallOK
noncomputable def ansB (N : Int) (X : List Int) (y z : Int) : Bool := spB N X && (setB N.toNat y && (setB N.toNat z && decide (nAnd y.toNat z.toNat = 0)))
noncomputable def goB (N : Int) (X : List Int) (y z : Int) : Bool := ansB N X y z && decide (leftN (natsOf X) y.toNat z.toNat ≠ [])
theorem ansB_true {N : Int} {X : List Int} {y z : Int} (h : ansB N X y z = true) : ∃ n xs a b, N = (n : Nat) ∧ X = toN xs ∧ y = (a : Nat) ∧ z = (b : Nat) ∧ SpGood n xs ∧ a < bit n ∧ b < bit n ∧ nAnd a b = 0 := by
  unfold ansB at h
  simp only [Bool.and_eq_true, decide_eq_true_iff] at h
  obtain ⟨h1, h2, h3, h4⟩ := h
  obtain ⟨n, xs, rfl, rfl, g⟩ := spB_true h1
  obtain ⟨a, rfl, ha⟩ := setB_true h2
  obtain ⟨b, rfl, hb⟩ := setB_true h3
  exact ⟨n, xs, a, b, rfl, rfl, rfl, rfl, g, ha, hb, h4⟩
theorem ansB_of {n : Nat} {xs : List Nat} (g : SpGood n xs) {a b : Nat} (ha : a < bit n) (hb : b < bit n) (hab : nAnd a b = 0) : ansB (n : Int) (toN xs) (a : Int) (b : Int) = true := by
  simp [ansB, spB_of g, setB_of ha, setB_of hb, hab]
theorem goB_true {N : Int} {X : List Int} {y z : Int} (h : goB N X y z = true) : ∃ n xs a b, N = (n : Nat) ∧ X = toN xs ∧ y = (a : Nat) ∧ z = (b : Nat) ∧ SpGood n xs ∧ a < bit n ∧ b < bit n ∧ nAnd a b = 0 ∧ leftN xs a b ≠ [] := by
  unfold goB at h
  simp only [Bool.and_eq_true, decide_eq_true_iff] at h
  obtain ⟨h1, h2⟩ := h
  obtain ⟨n, xs, a, b, rfl, rfl, rfl, rfl, g, ha, hb, hab⟩ := ansB_true h1
  exact ⟨n, xs, a, b, rfl, rfl, rfl, rfl, g, ha, hb, hab, by simpa using h2⟩
theorem goB_of {n : Nat} {xs : List Nat} (g : SpGood n xs) {a b : Nat} (ha : a < bit n) (hb : b < bit n) (hab : nAnd a b = 0) (hne : leftN xs a b ≠ []) : goB (n : Int) (toN xs) (a : Int) (b : Int) = true := by
  simp [goB, ansB_of g ha hb hab, hne]
theorem areAns_ok (h : Hp) (v : Value) (N : Int) (X : List Int) (y z : Int) (hv : Space h v N X) (hl : X.length < 2 ^ 40) : CallOK Try.prog 168 #[v, .int .i64 y, .int .i64 z] h (.bool (ansB N X y z)) h := by
  refine callY_P 22 _ [.tmp 6] Try.func168 rfl rfl rfl (by first | rfl | simp) ?_
  obtain ⟨b, rfl, hX⟩ := hv
  refine WD_first ?_
  try simp (disch := first | omega | (simp; done) | fail) [wrap64c, if_pos, if_neg, opAnd, opOr, opXor, opDiff, opShr, opBit]
  refine stopK_heap fun h0 q_h0 => ?_
  refine stopK_go ?_
  have g_h0 : h0.get h.next = .cells [.int .i64 N, b] true true 1 := by simp [q_h0]
  have k_h0 : Adds h h0 := by rw [q_h0]; exact (by first | exact aK | exact kK)
  have n_h0 : h.next < h0.next := by simp [q_h0]; try omega
  have hX0 := hX.keep k_h0.1
  have K0 := k_h0.1
  have p0 : CallOK Try.prog 122 #[.agg #[.int .i64 N, b], .int .i64 y] h0 (.bool (inB N X y)) h0 := hasSet_ok h0 (.agg #[.int .i64 N, b]) N X y (.mk hX0) hl
  try simp (disch := first | omega | (simp; done) | fail) [wrap64c, if_pos, if_neg, opAnd, opOr, opXor, opDiff, opShr, opBit, g_h0]
  refine callG_c (by simp) (by simp) ?ha (p0) ?_
  (case ha => simp (disch := first | omega | (simp; done) | fail) [wrap64c, if_pos, if_neg, opAnd, opOr, opXor, opDiff, opShr, opBit, g_h0])
  cases c1 : inB N X y
  · try simp (disch := first | omega | (simp; done) | fail) [wrap64c, if_pos, if_neg, opAnd, opOr, opXor, opDiff, opShr, opBit, g_h0, c1]
    have : ansB N X y z = false := by
      unfold inB at c1
      unfold ansB
      revert c1
      cases spB N X <;> cases setB N.toNat y <;> simp
    exact done_ret rfl (by simp [this, K0])
  · obtain ⟨n, xs, x, hN, hXe, ha, g, hx⟩ := inB_true c1
    subst hN hXe ha
    have n7 := g.n7
    have hb7 := bit7 n7
    try simp (disch := first | omega | (simp; done) | fail) [wrap64c, if_pos, if_neg, opAnd, opOr, opXor, opDiff, opShr, opBit, g_h0, c1]
    refine callG_c (by simp) (by simp) ?ha (isSet_ok h0 n z (by omega)) ?_
    (case ha => simp (disch := first | omega | (simp; done) | fail) [wrap64c, if_pos, if_neg, opAnd, opOr, opXor, opDiff, opShr, opBit, g_h0, c1])
    cases c2 : setB n z
    · try simp (disch := first | omega | (simp; done) | fail) [wrap64c, if_pos, if_neg, opAnd, opOr, opXor, opDiff, opShr, opBit, g_h0, c1, c2]
      exact done_ret rfl (by simp [ansB, c2, K0])
    · obtain ⟨w, rfl, hw⟩ := setB_true c2
      try simp (disch := first | omega | (simp; done) | fail) [wrap64c, if_pos, if_neg, opAnd, opOr, opXor, opDiff, opShr, opBit, g_h0, c1, c2]
      refine done_ret rfl ⟨?_, K0⟩
      by_cases hz : nAnd x w = 0 <;> simp [ansB, spB_of g, setB_of hx, setB_of hw, hz]
theorem goOn_ok (h : Hp) (v : Value) (N : Int) (X : List Int) (y z : Int) (hv : Space h v N X) (hl : X.length < 2 ^ 39) : CallOK Try.prog 155 #[v, .int .i64 y, .int .i64 z] h (.bool (goB N X y z)) h := by
  refine callY_P 19 _ [.tmp 6] Try.func155 rfl rfl rfl (by first | rfl | simp) ?_
  obtain ⟨b, rfl, hX⟩ := hv
  refine WD_first ?_
  try simp (disch := first | omega | (simp; done) | fail) [wrap64c, if_pos, if_neg, opAnd, opOr, opXor, opDiff, opShr, opBit]
  refine stopK_heap fun h0 q_h0 => ?_
  refine stopK_go ?_
  have g_h0 : h0.get h.next = .cells [.int .i64 N, b] true true 1 := by simp [q_h0]
  have k_h0 : Adds h h0 := by rw [q_h0]; exact (by first | exact aK | exact kK)
  have n_h0 : h.next < h0.next := by simp [q_h0]; try omega
  have hX0 := hX.keep k_h0.1
  have K0 := k_h0.1
  try simp (disch := first | omega | (simp; done) | fail) [wrap64c, if_pos, if_neg, opAnd, opOr, opXor, opDiff, opShr, opBit, g_h0]
  refine callG_c (by simp) (by simp) ?ha (areAns_ok h0 (.agg #[.int .i64 N, b]) N X y z (.mk hX0) (by omega)) ?_
  (case ha => simp (disch := first | omega | (simp; done) | fail) [wrap64c, if_pos, if_neg, opAnd, opOr, opXor, opDiff, opShr, opBit, g_h0])
  cases c1 : ansB N X y z
  · try simp (disch := first | omega | (simp; done) | fail) [wrap64c, if_pos, if_neg, opAnd, opOr, opXor, opDiff, opShr, opBit, g_h0, c1]
    exact done_ret rfl (by simp [goB, c1, K0])
  · obtain ⟨n, xs, a, c, hN, hXe, ha, hc, g, hx, hy, hac⟩ := ansB_true c1
    subst hN hXe ha hc
    have hb7 := bit7 g.n7
    have hl7 := g.len7
    obtain ⟨u, h1, p1, a1, i1⟩ := imLeft_ok h0 (.agg #[.int .i64 n, b]) n xs a c (.mk hX0) g.lt7 (by omega) (by omega) (by omega)
    have K1 := K0.trans a1.1
    have hlu := i1.ints.lenD
    have hln := toN_length (leftN xs a c)
    have hll := left_len xs a c
    try simp (disch := first | omega | (simp; done) | fail) [wrap64c, if_pos, if_neg, opAnd, opOr, opXor, opDiff, opShr, opBit, g_h0, c1, hlu]
    refine callG_c (by simp) (by simp) ?ha (p1) ?_
    (case ha => simp (disch := first | omega | (simp; done) | fail) [wrap64c, if_pos, if_neg, opAnd, opOr, opXor, opDiff, opShr, opBit, g_h0, c1, hlu])
    try simp (disch := first | omega | (simp; done) | fail) [wrap64c, if_pos, if_neg, opAnd, opOr, opXor, opDiff, opShr, opBit, g_h0, c1, hlu]
    refine done_ret rfl ⟨?_, K1⟩
    have : goB (n : Int) (toN xs) (a : Int) (c : Int) = decide (0 < (leftN xs a c).length) := by
      rw [goB, c1, Bool.true_and, natsOf_toN, decide_eq_decide, Int.toNat_natCast, Int.toNat_natCast, List.length_pos_iff]
    simp [this]
noncomputable def leftR (N : Int) (X : List Int) (y z : Int) : List Int := if goB N X y z = true then toN (leftN (natsOf X) y.toNat z.toNat) else []
noncomputable def inR (N : Int) (X : List Int) (y z : Int) : Int := if goB N X y z = true then ((inS N.toNat (leftN (natsOf X) y.toNat z.toNat) : Nat) : Int) else 0
noncomputable def outR (N : Int) (X : List Int) (y z : Int) : Int := if goB N X y z = true then ((outS N.toNat (leftN (natsOf X) y.toNat z.toNat) : Nat) : Int) else 0
end Go.Proofs.Ytnncipcldbopgaa
namespace Go.Proofs.Ytnncipcldbopgaa
set_option linter.unusedSimpArgs false
set_option linter.unusedVariables false
set_option maxHeartbeats 4000000
open Go Go.Eng
attribute [local irreducible] WD RunD PreD Runs CallOK
theorem ask_le {L : List Nat} (hl : L.length ≤ 128) : ∀ x ∈ (openN L).map (askN L), x ≤ 1073741824 := by
  intro x hx
  obtain ⟨i, hi, rfl⟩ := List.mem_map.1 hx
  have := askN_le (mem_openK.1 hi).2
  omega
theorem tot_bound {a b c : Nat} (h : a + b = c) (ha : 0 < a) (hb : 0 < b) : c + a * a + b * b ≤ c * c := by
  subst h
  have h1 : a * 1 ≤ a * b := Nat.mul_le_mul (Nat.le_refl _) hb
  have h2 : 1 * b ≤ a * b := Nat.mul_le_mul ha (Nat.le_refl _)
  have h3 : (a + b) * (a + b) = a * a + a * b + (a * b + b * b) := by rw [Nat.add_mul, Nat.mul_add, Nat.mul_add, Nat.mul_comm b a]
  omega
theorem sq_le {a : Nat} (h : a ≤ 128) : a * a ≤ 16384 := Nat.mul_le_mul h h
theorem tot_sq : ∀ (k : Nat) (L : List Nat), L.length ≤ k → totN L ≤ L.length * L.length
  | 0, L, hk => by
    have : L = [] := List.length_eq_zero_iff.1 (by omega)
    subst this; rw [tot_none (open_nil [] rfl)]; exact Nat.zero_le _
  | k + 1, L, hk => by
    by_cases he : openN L = []
    · rw [tot_none he]; exact Nat.zero_le _
    · obtain ⟨i, hi, ha⟩ := tot_at he
      have hlen := has_len (mem_openK.1 hi).2
      have h1 := tot_sq k (hasL L i) (by omega)
      have h2 := tot_sq k (lacksL L i) (by omega)
      have := tot_bound hlen.2.2.2.2 hlen.2.2.1 hlen.2.2.2.1
      rw [ha]
      unfold tasN
      omega
theorem tas_le {L : List Nat} (hl : L.length ≤ 128) : ∀ x ∈ (openN L).map (tasN L), x ≤ 1073741824 := by
  intro x hx
  obtain ⟨i, hi, rfl⟩ := List.mem_map.1 hx
  have hlen := has_len (mem_openK.1 hi).2
  have h1 := tot_sq _ (hasL L i) (Nat.le_refl _)
  have h2 := tot_sq _ (lacksL L i) (Nat.le_refl _)
  have := tot_bound hlen.2.2.2.2 hlen.2.2.1 hlen.2.2.2.1
  have := sq_le hl
  unfold tasN
  omega
theorem spLeast_ok (base ot o1 o2 n wd : Nat) (b : Value) (xs : List Nat) (g : SpGood n xs) (hm2 : wd = 2 * n) : ∀ (d : Nat) (h : Hp) (y z : Nat), TabOK base ot o1 o2 n wd b xs h → base ≤ h.next → y < 128 → z < 128 → (leftN xs y z) ≠ [] → (leftN xs y z).length < d →
    ∃ v h', CallOK Try.prog 160 #[.pointer (some ⟨ot, 0, none⟩), .int .i64 (y : Int), .int .i64 (z : Int)] h v h' ∧
      (∃ t : Nat, v = .tuple #[.int .i64 ((worstN (leftN xs y z) : Nat) : Int), .int .i64 (t : Int)] ∧ t ≤ (leftN xs y z).length * (leftN xs y z).length ∧ t = totN (leftN xs y z)) ∧ Wr (fun q => q = o1 ∨ q = o2) h h' ∧ TabOK base ot o1 o2 n wd b xs h' := by
  intro d
  induction d with
  | zero => intro h y z _ _ _ _ _ hd; omega
  | succ d ih =>
    intro h y z hT hb hy hz hne hd
    refine callY_L (args := [.pointer (some ⟨ot, 0, none⟩), .int .i64 (y : Int), .int .i64 (z : Int)]) 129 _ [.tmp 6, .tmp 7] Try.func160 rfl rfl rfl ?_
    have n7 := g.n7
    have hl7 := g.len7
    have htb := hT.tb
    have hb1 := hT.b1
    have hb2 := hT.b2
    try simp (disch := first | omega | (simp; done) | fail) [wrap64c, if_pos, if_neg, opAnd, opOr, opXor, opDiff, opShr, opBit]
    obtain ⟨_, h1, hc1, ha1, u, rfl, hi1⟩ := closed_ok h base ot o1 o2 n wd b xs y z hT hb n7 g.lt7 hl7 hy hz
    refine callG_c (by simp) (by simp) ?ha (hc1) ?_
    (case ha => simp (disch := first | omega | (simp; done) | fail) [wrap64c, if_pos, if_neg, opAnd, opOr, opXor, opDiff, opShr, opBit])
    have hcl := closed_left g.lt hne
    have hT1 := hT.adds hb ha1
    have hn1 := ha1.1.1
    obtain ⟨L, hLe⟩ : ∃ L, L = leftN xs y z := ⟨_, rfl⟩
    have hLn : ∀ x ∈ L, x < bit n := fun x hm => g.lt x (left_sub (hLe ▸ hm))
    have hLl : L.length ≤ 128 := by have := left_len xs y z; rw [hLe]; omega
    rw [← hLe] at hi1 hcl hne hd
    have hLe' := hLe.symm
    have hM1 := hi1.ints.lenD
    have hln1 := toN_length L
    have hi2 := inS_lt n L
    have ho2 := outS_lt n L
    have hbn := bit7 n7
    by_cases hone : L.length = 1
    · try simp (disch := first | omega | (simp; done) | fail) [wrap64c, if_pos, if_neg, opAnd, opOr, opXor, opDiff, opShr, opBit, hLe', hM1, hln1, hone]
      have hoe : openN L = [] := Classical.byContradiction fun hn => by
        obtain ⟨i, hi⟩ := List.exists_mem_of_ne_nil _ hn
        have := has_len (mem_openK.1 hi).2
        omega
      exact done_ret rfl ⟨⟨0, by rw [← hLe, worst_one hone]; rfl, by omega, by rw [← hLe, tot_none hoe]⟩, .of_adds ha1, hT1⟩
    · have hL0 : 0 < L.length := List.length_pos_iff.2 hne
      obtain ⟨iN, hiN⟩ : ∃ x, x = inS n L := ⟨_, rfl⟩
      obtain ⟨oN, hoN⟩ : ∃ x, x = outS n L := ⟨_, rfl⟩
      rw [← hiN, ← hoN] at hcl
      rw [← hiN] at hi2
      rw [← hoN] at ho2
      have hiN' := hiN.symm
      have hoN' := hoN.symm
      have hpe := place_eq (a := iN) ho2
      have hpl := place_lt hm2 hi2 ho2
      have hpd := place_div (a := iN) ho2
      obtain ⟨at', hat⟩ : ∃ x, x = iN * bit n + oN := ⟨_, rfl⟩
      rw [← hat] at hpe hpl hpd
      have hpe' := hpe
      have hshl := opShl (iN : Int) (n : Int) (by omega) (by omega) (by omega) (by omega)
      simp only [Int.toNat_natCast] at hshl
      have hshl := hshl
      have hwl := worstN_le L
      have hsh : nShl iN n ≤ 16384 := by
        have : nShl iN n = iN * bit n := by unfold nShl bit; rw [Nat.shiftLeft_eq]
        have h2 : iN * bit n ≤ 128 * 128 := Nat.mul_le_mul (by omega) (by omega)
        omega
      have hbm := bit_mono (i := wd) (j := 14) (by omega)
      have hb14 : bit 14 = 16384 := rfl
      obtain ⟨W, T, eW, eT, gW, gT, hWT⟩ := hT1.ent
      have ht1 := hT1.tab
      have gW := gW
      have gT := gT
      have hcW := cellsN_getD W
      have hcT := cellsN_getD T
      have eW := eW
      have eT := eT
      have haW : at' < W.length := by rw [eW]; omega
      have haT : at' < T.length := by rw [eT]; omega
      by_cases hpos : 0 < W[at']
      · obtain ⟨q1, q2, q3, q4⟩ := hWT at' haW haT hpos
        rw [hpd.1, hpd.2, hcl] at q1 q3 q4
        have hsq := sq_le hLl
        try simp (disch := first | omega | (simp; done) | fail) [wrap64c, if_pos, if_neg, opAnd, opOr, opXor, opDiff, opShr, opBit, hLe', hM1, hln1, hone, hiN', hoN', hpe', hshl, ht1, gW, gT, hcW, hcT, eW, eT, hpos]
        refine WD_drawC 17 rfl (by kernel_rfl) ?_
        try simp (disch := first | omega | (simp; done) | fail) [wrap64c, if_pos, if_neg, opAnd, opOr, opXor, opDiff, opShr, opBit, hLe', hM1, hln1, hone, hiN', hoN', hpe', hshl, ht1, gW, gT, hcW, hcT, eW, eT, hpos]
        refine done_ret rfl ⟨⟨T[at'] - 1, ?_, by rw [← hLe]; omega, by rw [← hLe]; omega⟩, .of_adds ha1, hT1⟩
        simp [← hLe]; omega
      · try simp (disch := first | omega | (simp; done) | fail) [wrap64c, if_pos, if_neg, opAnd, opOr, opXor, opDiff, opShr, opBit, hLe', hM1, hln1, hone, hiN', hoN', hpe', hshl, ht1, gW, gT, hcW, hcT, eW, eT, hpos]
        refine WD_loopC [0, 8, 9, 10, 11] (fun m tm h' => ∃ i t, m = n - i + 0 * t ∧ tm 12 = .int .i64 ((minW ((openK L i).map (askN L)) : Nat) : Int) ∧ tm 13 = .int .i64 (t : Int) ∧ tm 14 = .int .i64 (i : Int) ∧ (i ≤ n) ∧ ((openK L i = [] ∧ t = 1073741824) ∨ t ≤ L.length * L.length) ∧ (t = minW ((openK L i).map (tasN L))) ∧ (Wr (fun q => q = o1 ∨ q = o2) h1 h') ∧ (TabOK base ot o1 o2 n wd b xs h')) _ ⟨0, 1073741824, rfl, (by simp [minW, openK]), (by simp (disch := first | omega | (simp; done) | fail) [wrap64c, if_pos, if_neg, opAnd, opOr, opXor, opDiff, opShr, opBit, hLe', hM1, hln1, hone, hiN', hoN', hpe', hshl, ht1, gW, gT, hcW, hcT, eW, eT, hpos]), (by simp (disch := first | omega | (simp; done) | fail) [wrap64c, if_pos, if_neg, opAnd, opOr, opXor, opDiff, opShr, opBit, hLe', hM1, hln1, hone, hiN', hoN', hpe', hshl, ht1, gW, gT, hcW, hcT, eW, eT, hpos]), (by first | omega | assumption | (simp (disch := first | omega | (simp; done) | fail) [wrap64c, if_pos, if_neg, opAnd, opOr, opXor, opDiff, opShr, opBit, hLe', hM1, hln1, hone, hiN', hoN', hpe', hshl, ht1, gW, gT, hcW, hcT, eW, eT, hpos] <;> omega)), (.inl ⟨rfl, rfl⟩), (by simp [minW, openK]), (Wr.refl _ _), hT1⟩ ?_
        rintro m tm h' hFr ⟨i, t, rfl, e12, e13, e14, hi, ht, hte, hW, hTT⟩
        simp only [FrameL] at hFr
        obtain ⟨f0_0, f8_0, f9_0, f10_0, f11_0, -⟩ := hFr
        try simp (disch := first | omega | (simp; done) | fail) [wrap64c, if_pos, if_neg, opAnd, opOr, opXor, opDiff, opShr, opBit, hLe', hM1, hln1, hone, hiN', hoN', hpe', hshl, ht1, gW, gT, hcW, hcT, eW, eT, hpos] at f0_0 f8_0 f9_0 f10_0 f11_0
        have e0 := f0_0
        have e8 := f8_0
        have e9 := f9_0
        have e10 := f10_0
        have e11 := f11_0
        have ht' := hTT.tab
        have hn2 := hW.upd.1
        have hsq := sq_le hLl
        have hmw := minW_le ((openK L i).map (askN L))
        by_cases hlt : i < n
        · have hkb := known_bit (n := n) hne hlt
          have hkb1 : (nOr iN oN).testBit i = !opB L i := by rw [hiN, hoN]; exact hkb
          have hor := nOr128 (a := iN) (b := oN) (by omega) (by omega)
          have hos := openK_succ L i
          try simp (disch := first | omega | (simp; done) | fail) [wrap64c, if_pos, if_neg, opAnd, opOr, opXor, opDiff, opShr, opBit, hLe', hM1, hln1, hone, hiN', hoN', hpe', hshl, ht1, gW, gT, hcW, hcT, eW, eT, hpos, e0, e8, e9, e10, e11, e12, e13, e14, ht', hlt]
          refine callG_c (by simp) (by simp) ?ha (spIn_ok h' (nOr iN oN) i (by omega) (by omega)) ?_
          (case ha => simp (disch := first | omega | (simp; done) | fail) [wrap64c, if_pos, if_neg, opAnd, opOr, opXor, opDiff, opShr, opBit, hLe', hM1, hln1, hone, hiN', hoN', hpe', hshl, ht1, gW, gT, hcW, hcT, eW, eT, hpos, e0, e8, e9, e10, e11, e12, e13, e14, ht', hlt])
          cases hop : opB L i
          · rw [hop] at hkb1 hos
            have hkb1 := hkb1
            have hos' : openK L (i + 1) = openK L i := hos
            try simp (disch := first | omega | (simp; done) | fail) [wrap64c, if_pos, if_neg, opAnd, opOr, opXor, opDiff, opShr, opBit, hLe', hM1, hln1, hone, hiN', hoN', hpe', hshl, ht1, gW, gT, hcW, hcT, eW, eT, hpos, e0, e8, e9, e10, e11, e12, e13, e14, ht', hlt, hkb1]
            refine loopK_next _ ?hm ?hf ⟨i + 1, t, rfl, (by simp [hos', e12]), (by simp (disch := first | omega | (simp; done) | fail) [wrap64c, if_pos, if_neg, opAnd, opOr, opXor, opDiff, opShr, opBit, hLe', hM1, hln1, hone, hiN', hoN', hpe', hshl, ht1, gW, gT, hcW, hcT, eW, eT, hpos, e0, e8, e9, e10, e11, e12, e13, e14, ht', hlt, hkb1] <;> omega), (by simp (disch := first | omega | (simp; done) | fail) [wrap64c, if_pos, if_neg, opAnd, opOr, opXor, opDiff, opShr, opBit, hLe', hM1, hln1, hone, hiN', hoN', hpe', hshl, ht1, gW, gT, hcW, hcT, eW, eT, hpos, e0, e8, e9, e10, e11, e12, e13, e14, ht', hlt, hkb1] <;> omega), (by first | omega | assumption | (simp (disch := first | omega | (simp; done) | fail) [wrap64c, if_pos, if_neg, opAnd, opOr, opXor, opDiff, opShr, opBit, hLe', hM1, hln1, hone, hiN', hoN', hpe', hshl, ht1, gW, gT, hcW, hcT, eW, eT, hpos, e0, e8, e9, e10, e11, e12, e13, e14, ht', hlt, hkb1] <;> omega)), (by rw [hos']; exact ht), (by rw [hos']; exact hte), (by first | omega | assumption | (simp (disch := first | omega | (simp; done) | fail) [wrap64c, if_pos, if_neg, opAnd, opOr, opXor, opDiff, opShr, opBit, hLe', hM1, hln1, hone, hiN', hoN', hpe', hshl, ht1, gW, gT, hcW, hcT, eW, eT, hpos, e0, e8, e9, e10, e11, e12, e13, e14, ht', hlt, hkb1] <;> omega)), (by first | omega | assumption | (simp (disch := first | omega | (simp; done) | fail) [wrap64c, if_pos, if_neg, opAnd, opOr, opXor, opDiff, opShr, opBit, hLe', hM1, hln1, hone, hiN', hoN', hpe', hshl, ht1, gW, gT, hcW, hcT, eW, eT, hpos, e0, e8, e9, e10, e11, e12, e13, e14, ht', hlt, hkb1] <;> omega))⟩
            (case hm => first | omega | (simp; omega))
            (case hf => simp [FrameL, hLe', hM1, hln1, hone, hiN', hoN', hpe', hshl, ht1, gW, gT, hcW, hcT, eW, eT, hpos, e0, e8, e9, e10, e11, e12, e13, e14, ht', hlt, hkb1, f0_0, f8_0, f9_0, f10_0, f11_0])
          · rw [hop] at hkb1 hos
            have hkb1 := hkb1
            have hos' : openK L (i + 1) = openK L i ++ [i] := by rw [hos, if_pos rfl]
            have hlen := has_len hop
            have hb7 := bit_lt7 (i := i) (by omega)
            have hy2 := nOr128 (a := iN) (b := bit i) (by omega) (by omega)
            have hz2 := nOr128 (a := oN) (b := bit i) (by omega) (by omega)
            have hly := left_yes xs iN oN i
            have hlz := left_no xs iN oN i
            rw [hcl] at hly hlz
            try simp (disch := first | omega | (simp; done) | fail) [wrap64c, if_pos, if_neg, opAnd, opOr, opXor, opDiff, opShr, opBit, hLe', hM1, hln1, hone, hiN', hoN', hpe', hshl, ht1, gW, gT, hcW, hcT, eW, eT, hpos, e0, e8, e9, e10, e11, e12, e13, e14, ht', hlt, hkb1]
            obtain ⟨_, h3, hc3, ⟨t1, rfl, ht1', hu1⟩, W3, A3⟩ := ih h' (nOr iN (bit i)) oN hTT (by omega) hy2 (by omega) (by rw [hly]; exact List.length_pos_iff.1 hlen.2.2.1) (by rw [hly]; omega)
            rw [hly] at hc3 ht1' hu1
            refine callG_c (by simp) (by simp) ?ha (hc3) ?_
            (case ha => simp (disch := first | omega | (simp; done) | fail) [wrap64c, if_pos, if_neg, opAnd, opOr, opXor, opDiff, opShr, opBit, hLe', hM1, hln1, hone, hiN', hoN', hpe', hshl, ht1, gW, gT, hcW, hcT, eW, eT, hpos, e0, e8, e9, e10, e11, e12, e13, e14, ht', hlt, hkb1])
            have n4 := W3.upd.1
            try simp (disch := first | omega | (simp; done) | fail) [wrap64c, if_pos, if_neg, opAnd, opOr, opXor, opDiff, opShr, opBit, hLe', hM1, hln1, hone, hiN', hoN', hpe', hshl, ht1, gW, gT, hcW, hcT, eW, eT, hpos, e0, e8, e9, e10, e11, e12, e13, e14, ht', hlt, hkb1]
            obtain ⟨_, h4, hc4, ⟨t2, rfl, ht2', hu2⟩, W4, A4⟩ := ih h3 iN (nOr oN (bit i)) A3 (by omega) (by omega) hz2 (by rw [hlz]; exact List.length_pos_iff.1 hlen.2.2.2.1) (by rw [hlz]; omega)
            rw [hlz] at hc4 ht2' hu2
            refine callG_c (by simp) (by simp) ?ha (hc4) ?_
            (case ha => simp (disch := first | omega | (simp; done) | fail) [wrap64c, if_pos, if_neg, opAnd, opOr, opXor, opDiff, opShr, opBit, hLe', hM1, hln1, hone, hiN', hoN', hpe', hshl, ht1, gW, gT, hcW, hcT, eW, eT, hpos, e0, e8, e9, e10, e11, e12, e13, e14, ht', hlt, hkb1])
            obtain ⟨w1, hw1'⟩ : ∃ w, w = worstN (hasL L i) := ⟨_, rfl⟩
            obtain ⟨w2, hw2'⟩ : ∃ w, w = worstN (lacksL L i) := ⟨_, rfl⟩
            have haq : askN L i = 1 + max (worstN (hasL L i)) (worstN (lacksL L i)) := rfl
            have hwb1 := worstN_le (hasL L i)
            have hwb2 := worstN_le (lacksL L i)
            rw [← hw1', ← hw2'] at haq
            rw [← hw1'] at hwb1
            rw [← hw2'] at hwb2
            have hsn : minW ((openK L (i + 1)).map (askN L)) = min (minW ((openK L i).map (askN L))) (1 + max w1 w2) := by
              rw [hos', List.map_append, List.map_cons, List.map_nil, minW_snoc, haq]
            obtain ⟨w0, hw0⟩ : ∃ w, w = minW ((openK L i).map (askN L)) := ⟨_, rfl⟩
            rw [← hw0] at hsn hmw e12
            rw [← hw1', ← hw2']
            have htb := tot_bound hlen.2.2.2.2 hlen.2.2.1 hlen.2.2.2.1
            have hs1 := sq_le (a := (hasL L i).length) (by omega)
            have hs2 := sq_le (a := (lacksL L i).length) (by omega)
            obtain ⟨q, hq⟩ : ∃ q, q = max w1 w2 := ⟨_, rfl⟩
            have hmc := l1MostN_ok h4 w1 w2
            rw [← hq] at hmc hsn
            obtain ⟨r, hr⟩ : ∃ r, r = min w0 (1 + q) := ⟨_, rfl⟩
            have hlc := l1LeastN_ok h4 w0 (1 + q)
            rw [← hr] at hlc hsn
            obtain ⟨t3, ht3⟩ : ∃ r, r = min t (L.length + t1 + t2) := ⟨_, rfl⟩
            have hlt3 := l1LeastN_ok h4 t (L.length + t1 + t2)
            rw [← ht3] at hlt3
            try simp (disch := first | omega | (simp; done) | fail) [wrap64c, if_pos, if_neg, opAnd, opOr, opXor, opDiff, opShr, opBit, hLe', hM1, hln1, hone, hiN', hoN', hpe', hshl, ht1, gW, gT, hcW, hcT, eW, eT, hpos, e0, e8, e9, e10, e11, e12, e13, e14, ht', hlt, hkb1]
            refine callG_c (by simp) (by simp) ?ha (hmc) ?_
            (case ha => simp (disch := first | omega | (simp; done) | fail) [wrap64c, if_pos, if_neg, opAnd, opOr, opXor, opDiff, opShr, opBit, hLe', hM1, hln1, hone, hiN', hoN', hpe', hshl, ht1, gW, gT, hcW, hcT, eW, eT, hpos, e0, e8, e9, e10, e11, e12, e13, e14, ht', hlt, hkb1])
            try simp (disch := first | omega | (simp; done) | fail) [wrap64c, if_pos, if_neg, opAnd, opOr, opXor, opDiff, opShr, opBit, hLe', hM1, hln1, hone, hiN', hoN', hpe', hshl, ht1, gW, gT, hcW, hcT, eW, eT, hpos, e0, e8, e9, e10, e11, e12, e13, e14, ht', hlt, hkb1]
            refine callG_c (by simp) (by simp) ?ha (hlc) ?_
            (case ha => simp (disch := first | omega | (simp; done) | fail) [wrap64c, if_pos, if_neg, opAnd, opOr, opXor, opDiff, opShr, opBit, hLe', hM1, hln1, hone, hiN', hoN', hpe', hshl, ht1, gW, gT, hcW, hcT, eW, eT, hpos, e0, e8, e9, e10, e11, e12, e13, e14, ht', hlt, hkb1])
            try simp (disch := first | omega | (simp; done) | fail) [wrap64c, if_pos, if_neg, opAnd, opOr, opXor, opDiff, opShr, opBit, hLe', hM1, hln1, hone, hiN', hoN', hpe', hshl, ht1, gW, gT, hcW, hcT, eW, eT, hpos, e0, e8, e9, e10, e11, e12, e13, e14, ht', hlt, hkb1]
            refine callG_c (by simp) (by simp) ?ha (hlt3) ?_
            (case ha => simp (disch := first | omega | (simp; done) | fail) [wrap64c, if_pos, if_neg, opAnd, opOr, opXor, opDiff, opShr, opBit, hLe', hM1, hln1, hone, hiN', hoN', hpe', hshl, ht1, gW, gT, hcW, hcT, eW, eT, hpos, e0, e8, e9, e10, e11, e12, e13, e14, ht', hlt, hkb1])
            try simp (disch := first | omega | (simp; done) | fail) [wrap64c, if_pos, if_neg, opAnd, opOr, opXor, opDiff, opShr, opBit, hLe', hM1, hln1, hone, hiN', hoN', hpe', hshl, ht1, gW, gT, hcW, hcT, eW, eT, hpos, e0, e8, e9, e10, e11, e12, e13, e14, ht', hlt, hkb1]
            refine loopK_next _ ?hm ?hf ⟨i + 1, t3, rfl, (by simp [hsn]), (by simp (disch := first | omega | (simp; done) | fail) [wrap64c, if_pos, if_neg, opAnd, opOr, opXor, opDiff, opShr, opBit, hLe', hM1, hln1, hone, hiN', hoN', hpe', hshl, ht1, gW, gT, hcW, hcT, eW, eT, hpos, e0, e8, e9, e10, e11, e12, e13, e14, ht', hlt, hkb1] <;> omega), (by simp (disch := first | omega | (simp; done) | fail) [wrap64c, if_pos, if_neg, opAnd, opOr, opXor, opDiff, opShr, opBit, hLe', hM1, hln1, hone, hiN', hoN', hpe', hshl, ht1, gW, gT, hcW, hcT, eW, eT, hpos, e0, e8, e9, e10, e11, e12, e13, e14, ht', hlt, hkb1] <;> omega), (by first | omega | assumption | (simp (disch := first | omega | (simp; done) | fail) [wrap64c, if_pos, if_neg, opAnd, opOr, opXor, opDiff, opShr, opBit, hLe', hM1, hln1, hone, hiN', hoN', hpe', hshl, ht1, gW, gT, hcW, hcT, eW, eT, hpos, e0, e8, e9, e10, e11, e12, e13, e14, ht', hlt, hkb1] <;> omega)), (.inr (by omega)), (by rw [hos', List.map_append, List.map_cons, List.map_nil, minW_snoc, ← hte, ht3, hu1, hu2]; rfl), (hW.trans (W3.trans W4)), A4⟩
            (case hm => first | omega | (simp; omega))
            (case hf => simp [FrameL, hLe', hM1, hln1, hone, hiN', hoN', hpe', hshl, ht1, gW, gT, hcW, hcT, eW, eT, hpos, e0, e8, e9, e10, e11, e12, e13, e14, ht', hlt, hkb1, f0_0, f8_0, f9_0, f10_0, f11_0])
        · have hie : i = n := by omega
          have hLs : L.Pairwise (· < ·) := hLe ▸ left_srt g.srt y z
          have hon := (open_ne n7 hLs hLn).2 (by omega)
          rw [hie, openK_eq n7 hLn] at ht e12 hte
          rw [minW_eq (by simpa using hon) (tas_le hLl), ← totN_eq] at hte
          rw [minW_eq (by simpa using hon) (ask_le hLl), ← worstN_eq] at e12
          have htb : t ≤ L.length * L.length := by
            rcases ht with ⟨h1, _⟩ | h1
            · exact absurd h1 hon
            · exact h1
          obtain ⟨W2, T2, eW2, eT2, gW2, gT2, hWT2⟩ := hTT.ent
          have gW2 := gW2
          have gT2 := gT2
          have eW2 := eW2
          have eT2 := eT2
          have hq1 := hT.n1
          have hq2 := hT.n2
          have hq3 := hT.n12.symm
          have haW2 : at' < W2.length := by rw [eW2]; omega
          have haT2 : at' < T2.length := by rw [eT2]; omega
          try simp (disch := first | omega | (simp; done) | fail) [wrap64c, if_pos, if_neg, opAnd, opOr, opXor, opDiff, opShr, opBit, hLe', hM1, hln1, hone, hiN', hoN', hpe', hshl, ht1, gW, gT, hcW, hcT, eW, eT, hpos, e0, e8, e9, e10, e11, e12, e13, e14, ht', hlt, gW2, gT2, eW2, eT2, hq1, hq2, hq3]
          have WW := (((Wr.of_adds (S := fun q => q = o1 ∨ q = o2) ha1).trans hW).put (o := o1) (.inl rfl) (x := .cells (putCells (cellsN W2) at' [.int .i64 ((worstN L : Int) + 1)]) true true 1) (fun _ => rfl)).put (o := o2) (.inr rfl) (x := .cells (putCells (cellsN T2) at' [.int .i64 ((t : Int) + 1)]) true true 1) (fun _ => rfl)
          refine done_ret rfl ⟨⟨t, by simp [← hLe], by rw [← hLe]; exact htb, by rw [← hLe]; exact hte⟩, WW, ?_⟩
          have hpW : putCells (cellsN W2) at' [.int .i64 ((worstN L : Int) + 1)] = cellsN (W2.set at' (worstN L + 1)) := by
            rw [putCells_one (by simpa using haW2), ← cellsN_set]; simp
          have hpT : putCells (cellsN T2) at' [.int .i64 ((t : Int) + 1)] = cellsN (T2.set at' (t + 1)) := by
            rw [putCells_one (by simpa using haT2), ← cellsN_set]; simp
          rw [hpW, hpT]
          refine ⟨hT.tb, hT.b1, hT.b2, hT.n1, hT.n2, hT.n12, ?_, hTT.ints.same ⟨by simp, fun q hq _ => by simp [hq.2.1, hq.2.2]⟩, W2.set at' (worstN L + 1), T2.set at' (t + 1), by simpa using eW2, by simpa using eT2, ?_, ?_, ?_⟩
          · simp [hT.n1, hT.n2, ht']
          · simp [hT.n12]
          · simp
          · intro k h1 h2 h3
            rw [List.length_set] at h1 h2
            rw [List.getElem_set] at h3 ⊢
            rw [List.getElem_set]
            by_cases e : at' = k
            · rw [if_pos e] at h3 ⊢
              rw [if_pos e, ← e, hpd.1, hpd.2, hcl]
              exact ⟨by omega, by omega, by omega, by omega⟩
            · rw [if_neg e] at h3 ⊢
              rw [if_neg e]
              exact hWT2 k h1 h2 h3
end Go.Proofs.Ytnncipcldbopgaa
namespace Go.Proofs.Ytnncipcldbopgaa
set_option linter.unusedSimpArgs false
set_option linter.unusedVariables false
set_option maxHeartbeats 4000000
open Go Go.Eng
attribute [local irreducible] WD RunD PreD Runs CallOK
theorem openK_srt (L : List Nat) (k : Nat) : (openK L k).Pairwise (· < ·) := List.pairwise_lt_range.filter _
theorem bestN_before {L : List Nat} {i0 : Nat} (h : bestN L = (i0 : Nat)) : ∀ k, k ∈ openN L → k < i0 → askN L k ≠ worstN L := by
  unfold bestN at h
  cases hf : (openN L).find? (fun i => askN L i == worstN L) with
  | none => rw [hf] at h; exact absurd h (by simp only; omega)
  | some q =>
    rw [hf] at h
    have hq : q = i0 := by simpa using h
    subst hq
    rw [List.find?_eq_some_iff_getElem] at hf
    obtain ⟨_, idx, hidx, e, hbef⟩ := hf
    intro k hk hlt
    obtain ⟨j, hj, rfl⟩ := List.getElem_of_mem hk
    have hji : j < idx := by
      apply Classical.byContradiction
      intro hn
      by_cases ej : idx = j
      · subst ej; omega
      · have := (List.pairwise_iff_getElem.1 (openK_srt L 7)) idx j hidx hj (by omega)
        have e' : (openK L 7)[idx] = q := e
        have e'' : (openN L)[j] = (openK L 7)[j] := rfl
        omega
    have := hbef j hji
    simpa using this
theorem spBest_ok (base ot o1 o2 n wd : Nat) (b : Value) (xs : List Nat) (g : SpGood n xs) (hm2 : wd = 2 * n) (h : Hp) (y z : Nat) (hT : TabOK base ot o1 o2 n wd b xs h) (hb : base ≤ h.next) (hy : y < 128) (hz : z < 128) (hop1 : 1 < (leftN xs y z).length) :
    ∃ v h', CallOK Try.prog 164 #[.pointer (some ⟨ot, 0, none⟩), .int .i64 (y : Int), .int .i64 (z : Int)] h v h' ∧
      v = .int .i64 (bestN (leftN xs y z)) ∧ Wr (fun q => q = o1 ∨ q = o2) h h' ∧ TabOK base ot o1 o2 n wd b xs h' := by
  refine callY_L (args := [.pointer (some ⟨ot, 0, none⟩), .int .i64 (y : Int), .int .i64 (z : Int)]) 66 _ [.tmp 6] Try.func164 rfl rfl rfl ?_
  have n7 := g.n7
  have hl7 := g.len7
  have htb := hT.tb
  try simp (disch := first | omega | (simp; done) | fail) [wrap64c, if_pos, if_neg, opAnd, opOr, opXor, opDiff, opShr, opBit]
  obtain ⟨_, h1, hc1, ha1, u, rfl, hi1⟩ := closed_ok h base ot o1 o2 n wd b xs y z hT hb n7 g.lt7 hl7 hy hz
  refine callG_c (by simp) (by simp) ?ha (hc1) ?_
  (case ha => simp (disch := first | omega | (simp; done) | fail) [wrap64c, if_pos, if_neg, opAnd, opOr, opXor, opDiff, opShr, opBit])
  have hne : leftN xs y z ≠ [] := by intro e; rw [e] at hop1; simp at hop1
  have hcl := closed_left g.lt hne
  have hT1 := hT.adds hb ha1
  have hn1 := ha1.1.1
  obtain ⟨_, h2, hc2, ⟨t0, rfl, ht0⟩, W2, T2⟩ := spLeast_ok base ot o1 o2 n wd b xs g hm2 ((leftN xs y z).length + 1) h1 y z hT1 (by omega) hy hz hne (by omega)
  obtain ⟨L, hLe⟩ : ∃ L, L = leftN xs y z := ⟨_, rfl⟩
  have hLn : ∀ x ∈ L, x < bit n := fun x hm => g.lt x (left_sub (hLe ▸ hm))
  have hLs : L.Pairwise (· < ·) := hLe ▸ left_srt g.srt y z
  have hLl : L.length ≤ 128 := by have := left_len xs y z; rw [hLe]; omega
  rw [← hLe] at hi1 hcl hne hop1 hc2 ht0
  have hLe' := hLe.symm
  have hn2 := W2.upd.1
  try simp (disch := first | omega | (simp; done) | fail) [wrap64c, if_pos, if_neg, opAnd, opOr, opXor, opDiff, opShr, opBit, hLe']
  refine callG_c (by simp) (by simp) ?ha (hc2) ?_
  (case ha => simp (disch := first | omega | (simp; done) | fail) [wrap64c, if_pos, if_neg, opAnd, opOr, opXor, opDiff, opShr, opBit, hLe'])
  have hi2 := inS_lt n L
  have ho2 := outS_lt n L
  have hbn := bit7 n7
  obtain ⟨iN, hiN⟩ : ∃ x, x = inS n L := ⟨_, rfl⟩
  obtain ⟨oN, hoN⟩ : ∃ x, x = outS n L := ⟨_, rfl⟩
  rw [← hiN, ← hoN] at hcl
  rw [← hiN] at hi2
  rw [← hoN] at ho2
  have hiN' := hiN.symm
  have hoN' := hoN.symm
  have hon := (open_ne n7 hLs hLn).2 hop1
  obtain ⟨i0, hb0, hi0, ha0⟩ := bestN_mem hon
  have hi07 := (mem_openK.1 hi0).1
  have hi0n : i0 < n := by
    have := hi0
    rw [← openK_eq n7 hLn] at this
    exact (mem_openK.1 this).1
  have hbef := bestN_before hb0
  have WA : Wr (fun q => q = o1 ∨ q = o2) h h2 := (Wr.of_adds ha1).trans W2
  have hwL := worstN_le L
  try simp (disch := first | omega | (simp; done) | fail) [wrap64c, if_pos, if_neg, opAnd, opOr, opXor, opDiff, opShr, opBit, hLe', hiN', hoN']
  refine WD_loopC [0, 8, 9, 10] (fun m tm h' => ∃ i, m = 7 - i ∧ tm 12 = .int .i64 (i : Int) ∧ (i ≤ i0) ∧ (Wr (fun q => q = o1 ∨ q = o2) h2 h') ∧ (TabOK base ot o1 o2 n wd b xs h')) _ ⟨0, rfl, (by simp (disch := first | omega | (simp; done) | fail) [wrap64c, if_pos, if_neg, opAnd, opOr, opXor, opDiff, opShr, opBit, hLe', hiN', hoN']), (by first | omega | assumption | (simp (disch := first | omega | (simp; done) | fail) [wrap64c, if_pos, if_neg, opAnd, opOr, opXor, opDiff, opShr, opBit, hLe', hiN', hoN'] <;> omega)), (Wr.refl _ _), T2⟩ ?_
  rintro m tm h' hFr ⟨i, rfl, e12, hi, hW, hTT⟩
  simp only [FrameL] at hFr
  obtain ⟨f0_0, f8_0, f9_0, f10_0, -⟩ := hFr
  try simp (disch := first | omega | (simp; done) | fail) [wrap64c, if_pos, if_neg, opAnd, opOr, opXor, opDiff, opShr, opBit, hLe', hiN', hoN'] at f0_0 f8_0 f9_0 f10_0
  have e0 := f0_0
  have e8 := f8_0
  have e9 := f9_0
  have e10 := f10_0
  have hn3 := hW.upd.1
  have hkb := known_bit (n := n) (i := i) hne (by omega)
  have hkb1 : (nOr iN oN).testBit i = !opB L i := by rw [hiN, hoN]; exact hkb
  have hor := nOr128 (a := iN) (b := oN) (by omega) (by omega)
  try simp (disch := first | omega | (simp; done) | fail) [wrap64c, if_pos, if_neg, opAnd, opOr, opXor, opDiff, opShr, opBit, hLe', hiN', hoN', e0, e8, e9, e10, e12]
  refine callG_c (by simp) (by simp) ?ha (spIn_ok h' (nOr iN oN) i (by omega) (by omega)) ?_
  (case ha => simp (disch := first | omega | (simp; done) | fail) [wrap64c, if_pos, if_neg, opAnd, opOr, opXor, opDiff, opShr, opBit, hLe', hiN', hoN', e0, e8, e9, e10, e12])
  cases hop : opB L i
  · rw [hop] at hkb1
    have hkb1 := hkb1
    have hne0 : i ≠ i0 := by rintro rfl; rw [(mem_openK.1 hi0).2] at hop; cases hop
    try simp (disch := first | omega | (simp; done) | fail) [wrap64c, if_pos, if_neg, opAnd, opOr, opXor, opDiff, opShr, opBit, hLe', hiN', hoN', e0, e8, e9, e10, e12, hkb1]
    refine loopK_next _ ?hm ?hf ⟨i + 1, rfl, (by simp (disch := first | omega | (simp; done) | fail) [wrap64c, if_pos, if_neg, opAnd, opOr, opXor, opDiff, opShr, opBit, hLe', hiN', hoN', e0, e8, e9, e10, e12, hkb1] <;> omega), (by first | omega | assumption | (simp (disch := first | omega | (simp; done) | fail) [wrap64c, if_pos, if_neg, opAnd, opOr, opXor, opDiff, opShr, opBit, hLe', hiN', hoN', e0, e8, e9, e10, e12, hkb1] <;> omega)), (by first | omega | assumption | (simp (disch := first | omega | (simp; done) | fail) [wrap64c, if_pos, if_neg, opAnd, opOr, opXor, opDiff, opShr, opBit, hLe', hiN', hoN', e0, e8, e9, e10, e12, hkb1] <;> omega)), (by first | omega | assumption | (simp (disch := first | omega | (simp; done) | fail) [wrap64c, if_pos, if_neg, opAnd, opOr, opXor, opDiff, opShr, opBit, hLe', hiN', hoN', e0, e8, e9, e10, e12, hkb1] <;> omega))⟩
    (case hm => first | omega | (simp; omega))
    (case hf => simp [FrameL, hLe', hiN', hoN', e0, e8, e9, e10, e12, hkb1, f0_0, f8_0, f9_0, f10_0])
  · rw [hop] at hkb1
    have hkb1 := hkb1
    have him : i ∈ openN L := mem_openK.2 ⟨by omega, hop⟩
    have hlen := has_len hop
    have hb7 := bit_lt7 (i := i) (by omega)
    have hy2 := nOr128 (a := iN) (b := bit i) (by omega) (by omega)
    have hz2 := nOr128 (a := oN) (b := bit i) (by omega) (by omega)
    have hly := left_yes xs iN oN i
    have hlz := left_no xs iN oN i
    rw [hcl] at hly hlz
    try simp (disch := first | omega | (simp; done) | fail) [wrap64c, if_pos, if_neg, opAnd, opOr, opXor, opDiff, opShr, opBit, hLe', hiN', hoN', e0, e8, e9, e10, e12, hkb1]
    obtain ⟨_, h3, hc3, ⟨t1, rfl, ht1'⟩, W3, A3⟩ := spLeast_ok base ot o1 o2 n wd b xs g hm2 (L.length + 1) h' (nOr iN (bit i)) oN hTT (by omega) hy2 (by omega) (by rw [hly]; exact List.length_pos_iff.1 hlen.2.2.1) (by rw [hly]; omega)
    rw [hly] at hc3
    refine callG_c (by simp) (by simp) ?ha (hc3) ?_
    (case ha => simp (disch := first | omega | (simp; done) | fail) [wrap64c, if_pos, if_neg, opAnd, opOr, opXor, opDiff, opShr, opBit, hLe', hiN', hoN', e0, e8, e9, e10, e12, hkb1])
    have n4 := W3.upd.1
    try simp (disch := first | omega | (simp; done) | fail) [wrap64c, if_pos, if_neg, opAnd, opOr, opXor, opDiff, opShr, opBit, hLe', hiN', hoN', e0, e8, e9, e10, e12, hkb1]
    obtain ⟨_, h4, hc4, ⟨t2, rfl, ht2'⟩, W4, A4⟩ := spLeast_ok base ot o1 o2 n wd b xs g hm2 (L.length + 1) h3 iN (nOr oN (bit i)) A3 (by omega) (by omega) hz2 (by rw [hlz]; exact List.length_pos_iff.1 hlen.2.2.2.1) (by rw [hlz]; omega)
    rw [hlz] at hc4
    refine callG_c (by simp) (by simp) ?ha (hc4) ?_
    (case ha => simp (disch := first | omega | (simp; done) | fail) [wrap64c, if_pos, if_neg, opAnd, opOr, opXor, opDiff, opShr, opBit, hLe', hiN', hoN', e0, e8, e9, e10, e12, hkb1])
    have haq : askN L i = 1 + max (worstN (hasL L i)) (worstN (lacksL L i)) := rfl
    have hwb1 := worstN_le (hasL L i)
    have hwb2 := worstN_le (lacksL L i)
    obtain ⟨q, hq⟩ : ∃ q, q = max (worstN (hasL L i)) (worstN (lacksL L i)) := ⟨_, rfl⟩
    have hmc := l1MostN_ok h4 (worstN (hasL L i)) (worstN (lacksL L i))
    rw [← hq] at hmc haq
    try simp (disch := first | omega | (simp; done) | fail) [wrap64c, if_pos, if_neg, opAnd, opOr, opXor, opDiff, opShr, opBit, hLe', hiN', hoN', e0, e8, e9, e10, e12, hkb1]
    refine callG_c (by simp) (by simp) ?ha (hmc) ?_
    (case ha => simp (disch := first | omega | (simp; done) | fail) [wrap64c, if_pos, if_neg, opAnd, opOr, opXor, opDiff, opShr, opBit, hLe', hiN', hoN', e0, e8, e9, e10, e12, hkb1])
    by_cases heq : 1 + q = worstN L
    · have heq' : (1 + (q : Int)) = ((worstN L : Nat) : Int) := by omega
      have hii : i = i0 := by
        apply Classical.byContradiction
        intro hn
        exact hbef i him (by omega) (by omega)
      try simp (disch := first | omega | (simp; done) | fail) [wrap64c, if_pos, if_neg, opAnd, opOr, opXor, opDiff, opShr, opBit, hLe', hiN', hoN', e0, e8, e9, e10, e12, hkb1, heq']
      refine done_ret rfl ⟨?_, WA.trans (hW.trans (W3.trans W4)), A4⟩
      rw [← hLe, hb0, ← hii]; simp
    · have heq' : ¬ (1 + (q : Int)) = ((worstN L : Nat) : Int) := by omega
      have hne0 : i ≠ i0 := by rintro rfl; omega
      try simp (disch := first | omega | (simp; done) | fail) [wrap64c, if_pos, if_neg, opAnd, opOr, opXor, opDiff, opShr, opBit, hLe', hiN', hoN', e0, e8, e9, e10, e12, hkb1, heq']
      refine loopK_next _ ?hm ?hf ⟨i + 1, rfl, (by simp (disch := first | omega | (simp; done) | fail) [wrap64c, if_pos, if_neg, opAnd, opOr, opXor, opDiff, opShr, opBit, hLe', hiN', hoN', e0, e8, e9, e10, e12, hkb1, heq'] <;> omega), (by first | omega | assumption | (simp (disch := first | omega | (simp; done) | fail) [wrap64c, if_pos, if_neg, opAnd, opOr, opXor, opDiff, opShr, opBit, hLe', hiN', hoN', e0, e8, e9, e10, e12, hkb1, heq'] <;> omega)), (hW.trans (W3.trans W4)), A4⟩
      (case hm => first | omega | (simp; omega))
      (case hf => simp [FrameL, hLe', hiN', hoN', e0, e8, e9, e10, e12, hkb1, heq', f0_0, f8_0, f9_0, f10_0])
theorem wr_mid1 {S : Nat → Prop} {h h' : Hp} {n : Nat} (k : Wr S h h') (hn : h.next ≤ n) (hn' : n ≤ h'.next) : Adds ⟨h'.get, n⟩ h' := ⟨⟨hn', fun _ _ => rfl⟩, fun o h1 h2 hl => k.new o (Nat.le_trans hn h1) h2 hl⟩
theorem wr_app1 {S : Nat → Prop} {h h' h2 : Hp} {n : Nat} (k : Wr S h h') (hn : h.next ≤ n) (hn' : n ≤ h'.next) (a : Adds ⟨h'.get, n⟩ h2) : Wr S h h2 where
  upd := ⟨Nat.le_trans hn a.1.1, fun o ho hs => (a.1.2 o (Nat.lt_of_lt_of_le ho hn)).trans (k.upd.2 o ho hs)⟩
  own o ho hs hl := by
    have e : h2.get o = h'.get o := a.1.2 o (Nat.lt_of_lt_of_le ho hn)
    rw [e] at hl ⊢
    exact k.own o ho hs hl
  new o h1 h2' hl := by
    by_cases e : o < n
    · have e2 : h2.get o = h'.get o := a.1.2 o e
      rw [e2] at hl ⊢
      exact k.new o h1 (by omega) hl
    · exact a.2 o (Nat.le_of_not_lt e) h2' hl
theorem asRunT_ok (base ot o1 o2 n wd : Nat) (bt : Value) (xs : List Nat) (g : SpGood n xs) (hm2 : wd = 2 * n) (h : Hp) (v : Value) (set : Nat) (hT : TabOK base ot o1 o2 n wd bt xs h) (hb : base ≤ h.next) (hv : Space h v n (toN xs)) (hF : ∃ b, v = .agg #[.int .i64 (n : Int), b] ∧ IntsF (fun x => x < h.next ∧ x ≠ o1 ∧ x ≠ o2) h b (toN xs)) (hset : set ∈ xs) :
    ∃ v' h', CallOK Try.prog 166 #[v, .pointer (some ⟨ot, 0, none⟩), .int .i64 (set : Int), .bool false] h v' h' ∧ Wr (fun q => q = o1 ∨ q = o2) h h' ∧ TabOK base ot o1 o2 n wd bt xs h' ∧ IntsO (Btw h.next h'.next) h' v' (toN (runF bestN set xs.length xs)) := by
  refine callY_L (args := [v, .pointer (some ⟨ot, 0, none⟩), .int .i64 (set : Int), .bool false]) 44 _ [.tmp 8] Try.func166 rfl rfl rfl ?_
  obtain ⟨b, rfl, hX⟩ := hF
  have hXi := hX.ints
  have nt := hXi.nt
  have cs := hXi.cs
  refine WD_first ?_
  try simp (disch := first | omega | (simp; done) | fail) [wrap64c, if_pos, if_neg, opAnd, opOr, opXor, opDiff, opShr, opBit, nt, cs]
  refine stopK_heap fun h0 q_h0 => ?_
  refine stopK_go ?_
  have g_h0 : h0.get h.next = .cells [.int .i64 (n : Int), b] true true 1 := by simp [q_h0]
  have k_h0 : Adds h h0 := by rw [q_h0]; exact (by first | exact aK | exact kK)
  have n_h0 : h.next < h0.next := by simp [q_h0]; try omega
  have hX0 := hX.keep k_h0.1
  have n7 := g.n7
  have hl7 := g.len7
  have hset7 := g.lt7 _ hset
  have hb1 := hT.b1
  have hb2 := hT.b2
  try simp (disch := first | omega | (simp; done) | fail) [wrap64c, if_pos, if_neg, opAnd, opOr, opXor, opDiff, opShr, opBit, nt, cs, g_h0]
  refine WD_loopC [1, 2, 3, 4] (fun m tm h' => ∃ k y z acc u, m = k + 0 * (leftN xs y z).length ∧ tm 9 = u ∧ tm 10 = .int .i64 (y : Int) ∧ tm 11 = .int .i64 (z : Int) ∧ (y < 128 ∧ z < 128) ∧ (Wr (fun q => q = o1 ∨ q = o2) h h') ∧ (h'.get h.next = .cells [.int .i64 (n : Int), b] true true 1) ∧ (h.next < h'.next) ∧ (IntsF (fun x => x < h.next ∧ x ≠ o1 ∧ x ≠ o2) h' b (toN xs)) ∧ (TabOK base ot o1 o2 n wd bt xs h') ∧ (IntsA (h.next + 1) h' u (toN acc)) ∧ ((leftN xs y z).length ≤ k) ∧ (acc.length + k = xs.length) ∧ (set ∈ leftN xs y z) ∧ (runF bestN set xs.length xs = acc ++ runF bestN set k (leftN xs y z))) _ ⟨xs.length, 0, 0, [], _, rfl, (by simp (disch := first | omega | (simp; done) | fail) [wrap64c, if_pos, if_neg, opAnd, opOr, opXor, opDiff, opShr, opBit, nt, cs, g_h0]), (by simp (disch := first | omega | (simp; done) | fail) [wrap64c, if_pos, if_neg, opAnd, opOr, opXor, opDiff, opShr, opBit, nt, cs, g_h0]), (by simp (disch := first | omega | (simp; done) | fail) [wrap64c, if_pos, if_neg, opAnd, opOr, opXor, opDiff, opShr, opBit, nt, cs, g_h0]), (by first | omega | assumption | (simp (disch := first | omega | (simp; done) | fail) [wrap64c, if_pos, if_neg, opAnd, opOr, opXor, opDiff, opShr, opBit, nt, cs, g_h0] <;> omega)), (Wr.of_adds k_h0), g_h0, n_h0, hX0, (hT.adds hb k_h0), (.nil _ _), (by rw [left_zero]; exact Nat.le_refl _), (by simp), (by rw [left_zero]; exact hset), (by rw [left_zero]; rfl)⟩ ?_
  rintro m tm h' hFr ⟨k, y, z, acc, u, rfl, e9, e10, e11, hyz, hW, hg1, hnx, hX1, hTT, hu, hk, hak, hin, hr⟩
  simp only [FrameL] at hFr
  obtain ⟨f1_0, f2_0, f3_0, f4_0, -⟩ := hFr
  try simp (disch := first | omega | (simp; done) | fail) [wrap64c, if_pos, if_neg, opAnd, opOr, opXor, opDiff, opShr, opBit, nt, cs, g_h0] at f1_0 f2_0 f3_0 f4_0
  have e1 := f1_0
  have e2 := f2_0
  have e3 := f3_0
  have e4 := f4_0
  have hg1 := hg1
  try simp (disch := first | omega | (simp; done) | fail) [wrap64c, if_pos, if_neg, opAnd, opOr, opXor, opDiff, opShr, opBit, nt, cs, g_h0, e1, e2, e3, e4, e9, e10, e11, hg1]
  obtain ⟨v1, h1, hc1, ha1, hi1⟩ := spLeft_ok h' (.agg #[.int .i64 (n : Int), b]) n xs y z (.mk hX1.ints) g.lt7 (by omega) hyz.1 hyz.2
  refine callG_c (by simp) (by simp) ?ha (hc1) ?_
  (case ha => simp (disch := first | omega | (simp; done) | fail) [wrap64c, if_pos, if_neg, opAnd, opOr, opXor, opDiff, opShr, opBit, nt, cs, g_h0, e1, e2, e3, e4, e9, e10, e11, hg1])
  obtain ⟨L, hLe⟩ : ∃ L, L = leftN xs y z := ⟨_, rfl⟩
  have hLn : ∀ x ∈ L, x < bit n := fun x hm => g.lt x (left_sub (hLe ▸ hm))
  have hLs : L.Pairwise (· < ·) := hLe ▸ left_srt g.srt y z
  have hLl : L.length ≤ 128 := by have := left_len xs y z; rw [hLe]; omega
  have hop := open_ne n7 hLs hLn
  rw [← hLe] at hi1 hk hin hr
  have hM1 := hi1.ints.lenD
  have hln1 := toN_length L
  have hg2 : h1.get h.next = .cells [.int .i64 (n : Int), b] true true 1 := by rw [ha1.1.2 _ hnx]; exact hg1
  have hu1 := hu.keep ha1.1
  have W1 := hW.trans (.of_adds ha1)
  have T1 := hTT.adds (by omega) ha1
  have hn1 := ha1.1.1
  have hX2 := hX1.keep ha1.1
  by_cases h1L : 1 < L.length
  · obtain ⟨i, hi1', hi2, _⟩ := bestN_mem (hop.2 h1L)
    have hi7 : i < 7 := (mem_openK.1 hi2).1
    have hlen := has_len (mem_openK.1 hi2).2
    obtain ⟨k1, hk1⟩ : ∃ q, k = q + 1 := ⟨k - 1, by omega⟩
    rw [hk1, runF_cons hi1'] at hr
    have hb7 := bit_lt7 hi7
    have hy2 := nOr128 (b := bit i) hyz.1 (by omega)
    have hz2 := nOr128 (b := bit i) hyz.2 (by omega)
    try simp (disch := first | omega | (simp; done) | fail) [wrap64c, if_pos, if_neg, opAnd, opOr, opXor, opDiff, opShr, opBit, nt, cs, g_h0, e1, e2, e3, e4, e9, e10, e11, hg1, hM1, hln1, h1L]
    obtain ⟨_, h2, hc2, rfl, W2, T2⟩ := spBest_ok base ot o1 o2 n wd bt xs g hm2 h1 y z T1 (by omega) hyz.1 hyz.2 (by rw [← hLe]; exact h1L)
    rw [← hLe, hi1'] at hc2
    refine callG_c (by simp) (by simp) ?ha (hc2) ?_
    (case ha => simp (disch := first | omega | (simp; done) | fail) [wrap64c, if_pos, if_neg, opAnd, opOr, opXor, opDiff, opShr, opBit, nt, cs, g_h0, e1, e2, e3, e4, e9, e10, e11, hg1, hM1, hln1, h1L])
    have WW := W1.trans W2
    have hn2 := W2.upd.1
    have hu2 := ia_upd hu1 W2.upd (fun o ho => by rcases ho with rfl | rfl <;> omega)
    have hg3 : h2.get h.next = .cells [.int .i64 (n : Int), b] true true 1 := by rw [W2.upd.2 _ (by omega) (by omega)]; exact hg2
    have hX3 := hX2.same (W2.upd.same fun x hx hx' => by rcases hx' with rfl | rfl <;> simp at hx)
    try simp (disch := first | omega | (simp; done) | fail) [wrap64c, if_pos, if_neg, opAnd, opOr, opXor, opDiff, opShr, opBit, nt, cs, g_h0, e1, e2, e3, e4, e9, e10, e11, hg1, hM1, hln1, h1L]
    obtain ⟨u3, h3, hap, hu3, ha3, hn3, hs3⟩ := appI hu2 (i : Int) (by simp; omega) (by omega) (wr_mid1 (n := h.next + 1) WW (by omega) (by omega)) (Nat.le_refl _)
    have hsm : ∀ q, q < h.next + 1 → h3.get q = h2.get q := fun q hq => ha3.1.2 q hq
    have W3 := wr_app1 WW (by omega) (by omega) ha3
    have T3 : TabOK base ot o1 o2 n wd bt xs h3 := by
      obtain ⟨W', T', q1, q2, q3, q4, q5⟩ := T2.ent
      have htb := T2.tb
      exact ⟨T2.tb, T2.b1, T2.b2, T2.n1, T2.n2, T2.n12, by rw [hsm _ (by omega)]; exact T2.tab, T2.ints.same ⟨by omega, fun q hq _ => hsm q (by omega)⟩, W', T', q1, q2, by rw [hsm _ (by omega)]; exact q3, by rw [hsm _ (by omega)]; exact q4, q5⟩
    have hg4 : h3.get h.next = .cells [.int .i64 (n : Int), b] true true 1 := by rw [hsm _ (by omega)]; exact hg3
    have hX4 : IntsF (fun x => x < h.next ∧ x ≠ o1 ∧ x ≠ o2) h3 b (toN xs) := hX3.same ⟨by omega, fun q hq _ => hsm q (by omega)⟩
    try simp (disch := first | omega | (simp; done) | fail) [wrap64c, if_pos, if_neg, opAnd, opOr, opXor, opDiff, opShr, opBit, nt, cs, g_h0, e1, e2, e3, e4, e9, e10, e11, hg1, hM1, hln1, h1L, hap]
    refine callG_c (by simp) (by simp) ?ha (spIn_ok h3 set i (by omega) (by omega)) ?_
    (case ha => simp (disch := first | omega | (simp; done) | fail) [wrap64c, if_pos, if_neg, opAnd, opOr, opXor, opDiff, opShr, opBit, nt, cs, g_h0, e1, e2, e3, e4, e9, e10, e11, hg1, hM1, hln1, h1L])
    cases hsb : set.testBit i
    · rw [hsb] at hr
      have hin' : set ∈ lacksL L i := List.mem_filter.2 ⟨hin, by simp [hsb]⟩
      try simp (disch := first | omega | (simp; done) | fail) [wrap64c, if_pos, if_neg, opAnd, opOr, opXor, opDiff, opShr, opBit, nt, cs, g_h0, e1, e2, e3, e4, e9, e10, e11, hg1, hM1, hln1, h1L, hsb]
      refine loopK_next _ ?hm ?hf ⟨k1, y, nOr z (bit i), acc ++ [i], u3, rfl, (by simp (disch := first | omega | (simp; done) | fail) [wrap64c, if_pos, if_neg, opAnd, opOr, opXor, opDiff, opShr, opBit, nt, cs, g_h0, e1, e2, e3, e4, e9, e10, e11, hg1, hM1, hln1, h1L, hsb] <;> omega), (by simp (disch := first | omega | (simp; done) | fail) [wrap64c, if_pos, if_neg, opAnd, opOr, opXor, opDiff, opShr, opBit, nt, cs, g_h0, e1, e2, e3, e4, e9, e10, e11, hg1, hM1, hln1, h1L, hsb] <;> omega), (by simp (disch := first | omega | (simp; done) | fail) [wrap64c, if_pos, if_neg, opAnd, opOr, opXor, opDiff, opShr, opBit, nt, cs, g_h0, e1, e2, e3, e4, e9, e10, e11, hg1, hM1, hln1, h1L, hsb] <;> omega), (by first | omega | assumption | (simp (disch := first | omega | (simp; done) | fail) [wrap64c, if_pos, if_neg, opAnd, opOr, opXor, opDiff, opShr, opBit, nt, cs, g_h0, e1, e2, e3, e4, e9, e10, e11, hg1, hM1, hln1, h1L, hsb] <;> omega)), W3, hg4, (by first | omega | assumption | (simp (disch := first | omega | (simp; done) | fail) [wrap64c, if_pos, if_neg, opAnd, opOr, opXor, opDiff, opShr, opBit, nt, cs, g_h0, e1, e2, e3, e4, e9, e10, e11, hg1, hM1, hln1, h1L, hsb] <;> omega)), hX4, T3, (by rw [toN_snoc]; exact hu3), (by rw [left_no, ← hLe]; omega), (by simp; omega), (by rw [left_no, ← hLe]; exact hin'), (by rw [left_no, ← hLe, hr]; simp)⟩
      (case hm => first | omega | (simp; omega))
      (case hf => simp [FrameL, nt, cs, g_h0, e1, e2, e3, e4, e9, e10, e11, hg1, hM1, hln1, h1L, hsb, f1_0, f2_0, f3_0, f4_0])
    · rw [hsb] at hr
      have hin' : set ∈ hasL L i := List.mem_filter.2 ⟨hin, hsb⟩
      try simp (disch := first | omega | (simp; done) | fail) [wrap64c, if_pos, if_neg, opAnd, opOr, opXor, opDiff, opShr, opBit, nt, cs, g_h0, e1, e2, e3, e4, e9, e10, e11, hg1, hM1, hln1, h1L, hsb]
      refine loopK_next _ ?hm ?hf ⟨k1, nOr y (bit i), z, acc ++ [i], u3, rfl, (by simp (disch := first | omega | (simp; done) | fail) [wrap64c, if_pos, if_neg, opAnd, opOr, opXor, opDiff, opShr, opBit, nt, cs, g_h0, e1, e2, e3, e4, e9, e10, e11, hg1, hM1, hln1, h1L, hsb] <;> omega), (by simp (disch := first | omega | (simp; done) | fail) [wrap64c, if_pos, if_neg, opAnd, opOr, opXor, opDiff, opShr, opBit, nt, cs, g_h0, e1, e2, e3, e4, e9, e10, e11, hg1, hM1, hln1, h1L, hsb] <;> omega), (by simp (disch := first | omega | (simp; done) | fail) [wrap64c, if_pos, if_neg, opAnd, opOr, opXor, opDiff, opShr, opBit, nt, cs, g_h0, e1, e2, e3, e4, e9, e10, e11, hg1, hM1, hln1, h1L, hsb] <;> omega), (by first | omega | assumption | (simp (disch := first | omega | (simp; done) | fail) [wrap64c, if_pos, if_neg, opAnd, opOr, opXor, opDiff, opShr, opBit, nt, cs, g_h0, e1, e2, e3, e4, e9, e10, e11, hg1, hM1, hln1, h1L, hsb] <;> omega)), W3, hg4, (by first | omega | assumption | (simp (disch := first | omega | (simp; done) | fail) [wrap64c, if_pos, if_neg, opAnd, opOr, opXor, opDiff, opShr, opBit, nt, cs, g_h0, e1, e2, e3, e4, e9, e10, e11, hg1, hM1, hln1, h1L, hsb] <;> omega)), hX4, T3, (by rw [toN_snoc]; exact hu3), (by rw [left_yes, ← hLe]; omega), (by simp; omega), (by rw [left_yes, ← hLe]; exact hin'), (by rw [left_yes, ← hLe, hr]; simp)⟩
      (case hm => first | omega | (simp; omega))
      (case hf => simp [FrameL, nt, cs, g_h0, e1, e2, e3, e4, e9, e10, e11, hg1, hM1, hln1, h1L, hsb, f1_0, f2_0, f3_0, f4_0])
  · have hon : openN L = [] := by
      apply Classical.byContradiction
      intro hn
      exact h1L (hop.1 hn)
    rw [runF_nil (L := L) (by rw [bestN_nil hon]; omega), List.append_nil] at hr
    try simp (disch := first | omega | (simp; done) | fail) [wrap64c, if_pos, if_neg, opAnd, opOr, opXor, opDiff, opShr, opBit, nt, cs, g_h0, e1, e2, e3, e4, e9, e10, e11, hg1, hM1, hln1, h1L]
    refine done_ret rfl ⟨W1, T1, ?_⟩
    rw [hr]
    exact (hu1.own (by simp; omega)).sub fun o ho => ⟨by have := ho.1; omega, ho.2⟩
noncomputable def askR (N : Int) (X : List Int) (a : Int) : List Int := if oneB N X a = true then toN (runF bestN a.toNat X.length (natsOf X)) else []
theorem askBest (L : List Nat) : bestN L < 0 ∨ ∃ i, bestN L = (i : Nat) ∧ i ∈ openN L := by
  by_cases he : openN L = []
  · left; rw [bestN_nil he]; omega
  · right
    obtain ⟨i, h1, h2, _⟩ := bestN_mem he
    exact ⟨i, h1, h2⟩
theorem runBest_ok (base o p : Nat) (N : Int) (b m2 : Value) (xs : List Nat) (hx : ∀ x ∈ xs, x < 128) (hl : xs.length < 2 ^ 39) (h : Hp) (hA : AskOK base o p N b m2 xs h) (hb : base ≤ h.next) (set : Nat) (hset : set < 128) :
    ∃ v' h', CallOK Try.prog 165 #[.int .i64 (set : Int), .func (.func 162) #[.pointer (some ⟨o, 0, none⟩)] #[]] h v' h' ∧ Wr (fun q => q = p) h h' ∧ AskOK base o p N b m2 xs h' ∧ IntsO (Btw h.next h'.next) h' v' (toN (runF bestN set xs.length xs)) :=
  run_ok bestN askBest 162 (.pointer (some ⟨o, 0, none⟩)) (fun q => q = p) (AskOK base o p N b m2 xs) base xs
    (fun h h' hp _ h2 hs => hp.stab h2 hs) (fun h y z hp hb hy hz => best_ok base o p N b m2 xs hx hl h y z hp hb hy hz) (fun o ho => by have := hA.pb; omega) (by simp) h hA hb set hset hl
theorem implAsk_ok (h : Hp) (v : Value) (N : Int) (X : List Int) (a : Int) (hv : Space h v N X) (hl : X.length < 2 ^ 40) :
    ∃ v' h', CallOK Try.prog 51 #[v, .int .i64 a] h v' h' ∧ Adds h h' ∧ ∃ u, v' = .tuple #[u, .bool (oneB N X a)] ∧ IntsO (Btw h.next h'.next) h' u (askR N X a) := by
  refine callY_L (args := [v, .int .i64 a]) 15 _ [.tmp 4, .tmp 5] Try.func51 rfl rfl rfl ?_
  obtain ⟨b, rfl, hX⟩ := hv
  refine WD_first ?_
  try simp (disch := first | omega | (simp; done) | fail) [wrap64c, if_pos, if_neg, opAnd, opOr, opXor, opDiff, opShr, opBit]
  refine stopK_heap fun h0 q_h0 => ?_
  refine stopK_go ?_
  have g_h0 : h0.get h.next = .cells [.int .i64 N, b] true true 1 := by simp [q_h0]
  have k_h0 : Adds h h0 := by rw [q_h0]; exact (by first | exact aK | exact kK)
  have n_h0 : h.next < h0.next := by simp [q_h0]; try omega
  have hX0 := hX.keep k_h0.1
  try simp (disch := first | omega | (simp; done) | fail) [wrap64c, if_pos, if_neg, opAnd, opOr, opXor, opDiff, opShr, opBit, g_h0]
  refine callG_c (by simp) (by simp) ?ha (isKnown_ok h0 (.agg #[.int .i64 N, b]) N X a (.mk hX0) hl) ?_
  (case ha => simp (disch := first | omega | (simp; done) | fail) [wrap64c, if_pos, if_neg, opAnd, opOr, opXor, opDiff, opShr, opBit, g_h0])
  cases c1 : oneB N X a
  · try simp (disch := first | omega | (simp; done) | fail) [wrap64c, if_pos, if_neg, opAnd, opOr, opXor, opDiff, opShr, opBit, g_h0, c1]
    refine done_ret rfl ⟨k_h0, _, by simp [c1]; rfl, ?_⟩
    rw [askR, if_neg (by simp [c1])]
    exact .nil _ _
  · obtain ⟨n, xs, x, hN, hXe, hae, g, hx⟩ := oneB_true c1
    have hNt : N = (n : Int) := hN
    have hat : a = (x : Int) := hae
    have hX1 : Ints h0 b (toN xs) := hXe ▸ hX0
    have hl7 := g.len7
    try simp (disch := first | omega | (simp; done) | fail) [wrap64c, if_pos, if_neg, opAnd, opOr, opXor, opDiff, opShr, opBit, g_h0, c1, hNt, hat]
    obtain ⟨_, h1, hc1, o, p, q, b1, rfl, ha1, hopq, hgo, hgp, hgq, hb1⟩ := newAsker_ok h0 (.agg #[.int .i64 (n : Int), b]) n (toN xs) (.mk hX1)
    refine callG_c (by simp) (by simp) ?ha (hc1) ?_
    (case ha => simp (disch := first | omega | (simp; done) | fail) [wrap64c, if_pos, if_neg, opAnd, opOr, opXor, opDiff, opShr, opBit, g_h0, c1, hNt, hat])
    try simp (disch := first | omega | (simp; done) | fail) [wrap64c, if_pos, if_neg, opAnd, opOr, opXor, opDiff, opShr, opBit, g_h0, c1, hNt, hat]
    have hA : AskOK h1.next o p n b1 (.map (some q)) xs h1 := ⟨by omega, by omega, by omega, hgo, hb1.sub fun x hx => by omega, [], hgp, fun e he => by cases he⟩
    obtain ⟨u, h2, hc2, W2, A2, hi2⟩ := runBest_ok h1.next o p n b1 (.map (some q)) xs g.lt7 (by omega) h1 hA (Nat.le_refl _) x (g.lt7 _ hx)
    refine callG_c (by simp) (by simp) ?ha (hc2) ?_
    (case ha => simp (disch := first | omega | (simp; done) | fail) [wrap64c, if_pos, if_neg, opAnd, opOr, opXor, opDiff, opShr, opBit, g_h0, c1, hNt, hat])
    try simp (disch := first | omega | (simp; done) | fail) [wrap64c, if_pos, if_neg, opAnd, opOr, opXor, opDiff, opShr, opBit, g_h0, c1, hNt, hat]
    have AA : Adds h0 h2 := ha1.wr W2 fun o ho => by omega
    refine done_ret rfl ⟨k_h0.trans AA, _, by simp [c1]; rfl, ?_⟩
    rw [askR, if_pos c1, hXe, hae, natsOf_toN, toN_length, Int.toNat_natCast]
    exact hi2.sub fun o ho => ⟨by have := ho.1; have := ha1.1.1; omega, ho.2⟩
def runLen (xs : List Nat) (x : Nat) : Nat := (runF bestN x xs.length xs).length
def wsS (xs l : List Nat) : Nat × Int := l.foldl (fun s x => if (runLen xs x : Int) > s.2 then (x, (runLen xs x : Int)) else s) (0, -1)
theorem wsS_take {xs : List Nat} {j : Nat} (hj : j < xs.length) : wsS xs (xs.take (j + 1)) = if (runLen xs xs[j] : Int) > (wsS xs (xs.take j)).2 then (xs[j], (runLen xs xs[j] : Int)) else wsS xs (xs.take j) := by
  rw [List.take_succ_eq_append_getElem hj, wsS, List.foldl_append]; rfl
noncomputable def worstR (N : Int) (X : List Int) : Int := if spB N X = true then (((wsS (natsOf X) (natsOf X)).1 : Nat) : Int) else 0
theorem implWorst_ok (h : Hp) (v : Value) (N : Int) (X : List Int) (hv : Space h v N X) (hl : X.length < 2 ^ 40) :
    CallOK Try.prog 72 #[v] h (.tuple #[.int .i64 (worstR N X), .bool (spB N X)]) h := by
  refine callY_P 34 _ [.tmp 2, .tmp 3] Try.func72 rfl rfl rfl (by first | rfl | simp) ?_
  obtain ⟨b, rfl, hX⟩ := hv
  refine WD_first ?_
  try simp (disch := first | omega | (simp; done) | fail) [wrap64c, if_pos, if_neg, opAnd, opOr, opXor, opDiff, opShr, opBit]
  refine stopK_heap fun h0 q_h0 => ?_
  refine stopK_go ?_
  have g_h0 : h0.get h.next = .cells [.int .i64 N, b] true true 1 := by simp [q_h0]
  have k_h0 : Adds h h0 := by rw [q_h0]; exact (by first | exact aK | exact kK)
  have n_h0 : h.next < h0.next := by simp [q_h0]; try omega
  have hX0 := hX.keep k_h0.1
  have K0 := k_h0.1
  try simp (disch := first | omega | (simp; done) | fail) [wrap64c, if_pos, if_neg, opAnd, opOr, opXor, opDiff, opShr, opBit, g_h0]
  refine callG_c (by simp) (by simp) ?ha (isSpace_ok h0 (.agg #[.int .i64 N, b]) N X (.mk hX0) hl) ?_
  (case ha => simp (disch := first | omega | (simp; done) | fail) [wrap64c, if_pos, if_neg, opAnd, opOr, opXor, opDiff, opShr, opBit, g_h0])
  cases c1 : spB N X
  · try simp (disch := first | omega | (simp; done) | fail) [wrap64c, if_pos, if_neg, opAnd, opOr, opXor, opDiff, opShr, opBit, g_h0, c1]
    exact done_ret rfl (by simp [worstR, c1, K0])
  · obtain ⟨n, xs, hN, hXe, g⟩ := spB_true c1
    have hNt : N = (n : Int) := hN
    have hX1 : Ints h0 b (toN xs) := hXe ▸ hX0
    have hl7 := g.len7
    have hgt := toN_get xs
    have hln := toN_length xs
    have hM0 := hX1.lenD
    try simp (disch := first | omega | (simp; done) | fail) [wrap64c, if_pos, if_neg, opAnd, opOr, opXor, opDiff, opShr, opBit, g_h0, c1, hNt, hgt, hM0]
    obtain ⟨_, h1, hc1, o, p, q, b1, rfl, ha1, hopq, hgo, hgp, hgq, hb1⟩ := newAsker_ok h0 (.agg #[.int .i64 (n : Int), b]) n (toN xs) (.mk hX1)
    refine callG_c (by simp) (by simp) ?ha (hc1) ?_
    (case ha => simp (disch := first | omega | (simp; done) | fail) [wrap64c, if_pos, if_neg, opAnd, opOr, opXor, opDiff, opShr, opBit, g_h0, c1, hNt, hgt, hM0])
    have g1 : h1.get h.next = .cells [.int .i64 N, b] true true 1 := by rw [ha1.1.2 _ (by omega)]; exact g_h0
    have hA : AskOK h1.next o p n b1 (.map (some q)) xs h1 := ⟨by omega, by omega, by omega, hgo, hb1.sub fun x hx => by omega, [], hgp, fun e he => by cases he⟩
    have hF1 : IntsF (fun x => x < h0.next) h1 b (toN xs) := hX1.old.keep ha1.1
    have hn1 := ha1.1.1
    try simp (disch := first | omega | (simp; done) | fail) [wrap64c, if_pos, if_neg, opAnd, opOr, opXor, opDiff, opShr, opBit, g_h0, c1, hNt, hgt, hM0, g1]
    refine WD_loopC [4, 16, 17] (fun m tm h' => ∃ j, m = xs.length - j ∧ tm 5 = .int .i64 (((wsS xs (xs.take j)).1 : Nat) : Int) ∧ tm 6 = .int .i64 (wsS xs (xs.take j)).2 ∧ tm 18 = .int .i64 (j : Int) ∧ (j ≤ xs.length) ∧ (Wr (fun q => q = p) h1 h') ∧ (AskOK h1.next o p n b1 (.map (some q)) xs h')) _ ⟨0, rfl, (by simp [wsS]), (by simp [wsS]), (by simp (disch := first | omega | (simp; done) | fail) [wrap64c, if_pos, if_neg, opAnd, opOr, opXor, opDiff, opShr, opBit, g_h0, c1, hNt, hgt, hM0, g1]), (by first | omega | assumption | (simp (disch := first | omega | (simp; done) | fail) [wrap64c, if_pos, if_neg, opAnd, opOr, opXor, opDiff, opShr, opBit, g_h0, c1, hNt, hgt, hM0, g1] <;> omega)), (Wr.refl _ _), hA⟩ ?_
    rintro m tm h' hFr ⟨j, rfl, e5, e6, e18, hj, hW, hAA⟩
    simp only [FrameL] at hFr
    obtain ⟨f4_0, f16_0, f17_0, -⟩ := hFr
    try simp (disch := first | omega | (simp; done) | fail) [wrap64c, if_pos, if_neg, opAnd, opOr, opXor, opDiff, opShr, opBit, g_h0, c1, hNt, hgt, hM0, g1] at f4_0 f16_0 f17_0
    have e4 := f4_0
    have e16 := f16_0
    have e17 := f17_0
    have hn2 := hW.upd.1
    have hF := (hF1.same (hW.upd.same fun x hx hx' => by omega)).ints
    by_cases hlt : j < xs.length
    · obtain ⟨o_x, i_x, c_x, cs_x, own_x, ex_x, es_x, q_x, b_x, g_x, l_x, r_x⟩ := hF.open ((by omega))
      have z_x : ∀ h2 : i_x < cs_x.length, cs_x[i_x] = _ := fun h2 => r_x 0 ((by omega)) h2
      have hx7 := g.lt7 _ (List.getElem_mem hlt)
      have hst := wsS_take hlt
      obtain ⟨s2, hs2⟩ : ∃ s2, s2 = (wsS xs (xs.take j)).2 := ⟨_, rfl⟩
      rw [← hs2] at hst e6
      try simp (disch := first | omega | (simp; done) | fail) [wrap64c, if_pos, if_neg, opAnd, opOr, opXor, opDiff, opShr, opBit, g_h0, c1, hNt, hgt, hM0, g1, e4, e5, e6, e16, e17, e18, hlt, q_x, g_x, l_x, r_x, z_x]
      obtain ⟨u, h2, hc2, W2, A2, hi2⟩ := runBest_ok h1.next o p n b1 (.map (some q)) xs g.lt7 (by omega) h' hAA (by omega) xs[j] hx7
      refine callG_c (by simp) (by simp) ?ha (hc2) ?_
      (case ha => simp (disch := first | omega | (simp; done) | fail) [wrap64c, if_pos, if_neg, opAnd, opOr, opXor, opDiff, opShr, opBit, g_h0, c1, hNt, hgt, hM0, g1, e4, e5, e6, e16, e17, e18, hlt, q_x, g_x, l_x, r_x, z_x])
      have hMu := hi2.ints.lenD
      have hru : (toN (runF bestN xs[j] xs.length xs)).length = runLen xs xs[j] := by rw [toN_length]; rfl
      by_cases hc : (runLen xs xs[j] : Int) > s2
      · rw [if_pos hc] at hst
        have hc' : s2 < (runLen xs xs[j] : Int) := hc
        try simp (disch := first | omega | (simp; done) | fail) [wrap64c, if_pos, if_neg, opAnd, opOr, opXor, opDiff, opShr, opBit, g_h0, c1, hNt, hgt, hM0, g1, e4, e5, e6, e16, e17, e18, hlt, q_x, g_x, l_x, r_x, z_x, hMu, hru, hc']
        refine loopK_next _ ?hm ?hf ⟨j + 1, rfl, (by simp [hst]), (by simp [hst]), (by simp (disch := first | omega | (simp; done) | fail) [wrap64c, if_pos, if_neg, opAnd, opOr, opXor, opDiff, opShr, opBit, g_h0, c1, hNt, hgt, hM0, g1, e4, e5, e6, e16, e17, e18, hlt, q_x, g_x, l_x, r_x, z_x, hMu, hru, hc'] <;> omega), (by first | omega | assumption | (simp (disch := first | omega | (simp; done) | fail) [wrap64c, if_pos, if_neg, opAnd, opOr, opXor, opDiff, opShr, opBit, g_h0, c1, hNt, hgt, hM0, g1, e4, e5, e6, e16, e17, e18, hlt, q_x, g_x, l_x, r_x, z_x, hMu, hru, hc'] <;> omega)), (hW.trans W2), A2⟩
        (case hm => first | omega | (simp; omega))
        (case hf => simp [FrameL, g_h0, c1, hNt, hgt, hM0, g1, e4, e5, e6, e16, e17, e18, hlt, q_x, g_x, l_x, r_x, z_x, hMu, hru, hc', f4_0, f16_0, f17_0])
      · rw [if_neg hc] at hst
        have hc' : ¬ s2 < (runLen xs xs[j] : Int) := hc
        try simp (disch := first | omega | (simp; done) | fail) [wrap64c, if_pos, if_neg, opAnd, opOr, opXor, opDiff, opShr, opBit, g_h0, c1, hNt, hgt, hM0, g1, e4, e5, e6, e16, e17, e18, hlt, q_x, g_x, l_x, r_x, z_x, hMu, hru, hc']
        refine loopK_next _ ?hm ?hf ⟨j + 1, rfl, (by simp [hst, e5]), (by simp [hst, e6, hs2]), (by simp (disch := first | omega | (simp; done) | fail) [wrap64c, if_pos, if_neg, opAnd, opOr, opXor, opDiff, opShr, opBit, g_h0, c1, hNt, hgt, hM0, g1, e4, e5, e6, e16, e17, e18, hlt, q_x, g_x, l_x, r_x, z_x, hMu, hru, hc'] <;> omega), (by first | omega | assumption | (simp (disch := first | omega | (simp; done) | fail) [wrap64c, if_pos, if_neg, opAnd, opOr, opXor, opDiff, opShr, opBit, g_h0, c1, hNt, hgt, hM0, g1, e4, e5, e6, e16, e17, e18, hlt, q_x, g_x, l_x, r_x, z_x, hMu, hru, hc'] <;> omega)), (hW.trans W2), A2⟩
        (case hm => first | omega | (simp; omega))
        (case hf => simp [FrameL, g_h0, c1, hNt, hgt, hM0, g1, e4, e5, e6, e16, e17, e18, hlt, q_x, g_x, l_x, r_x, z_x, hMu, hru, hc', f4_0, f16_0, f17_0])
    · have hft : xs.take j = xs := List.take_of_length_le (by omega)
      try simp (disch := first | omega | (simp; done) | fail) [wrap64c, if_pos, if_neg, opAnd, opOr, opXor, opDiff, opShr, opBit, g_h0, c1, hNt, hgt, hM0, g1, e4, e5, e6, e16, e17, e18, hlt]
      have AA : Adds h0 h' := ha1.wr hW fun o ho => by omega
      have c1' : spB N (toN xs) = true := hXe ▸ c1
      exact done_ret rfl ⟨by simp [worstR, c1', hXe, hft], K0.trans AA.1⟩
theorem specWorst_ok (h : Hp) (v : Value) (N : Int) (X : List Int) (hv : Space h v N X) (hl : X.length < 2 ^ 40) :
    CallOK Try.prog 73 #[v] h (.tuple #[.int .i64 (worstR N X), .bool (spB N X)]) h := by
  refine callY_P 34 _ [.tmp 2, .tmp 3] Try.func73 rfl rfl rfl (by first | rfl | simp) ?_
  obtain ⟨b, rfl, hX⟩ := hv
  refine WD_first ?_
  try simp (disch := first | omega | (simp; done) | fail) [wrap64c, if_pos, if_neg, opAnd, opOr, opXor, opDiff, opShr, opBit]
  refine stopK_heap fun h0 q_h0 => ?_
  refine stopK_go ?_
  have g_h0 : h0.get h.next = .cells [.int .i64 N, b] true true 1 := by simp [q_h0]
  have k_h0 : Adds h h0 := by rw [q_h0]; exact (by first | exact aK | exact kK)
  have n_h0 : h.next < h0.next := by simp [q_h0]; try omega
  have hX0 := hX.keep k_h0.1
  have K0 := k_h0.1
  try simp (disch := first | omega | (simp; done) | fail) [wrap64c, if_pos, if_neg, opAnd, opOr, opXor, opDiff, opShr, opBit, g_h0]
  refine callG_c (by simp) (by simp) ?ha (spGood_ok h0 (.agg #[.int .i64 N, b]) N X (.mk hX0) hl) ?_
  (case ha => simp (disch := first | omega | (simp; done) | fail) [wrap64c, if_pos, if_neg, opAnd, opOr, opXor, opDiff, opShr, opBit, g_h0])
  cases c1 : spB N X
  · try simp (disch := first | omega | (simp; done) | fail) [wrap64c, if_pos, if_neg, opAnd, opOr, opXor, opDiff, opShr, opBit, g_h0, c1]
    exact done_ret rfl (by simp [worstR, c1, K0])
  · obtain ⟨n, xs, hN, hXe, g⟩ := spB_true c1
    have hNt : N = (n : Int) := hN
    have hX1 : Ints h0 b (toN xs) := hXe ▸ hX0
    have hl7 := g.len7
    have hgt := toN_get xs
    have hln := toN_length xs
    have hM0 := hX1.lenD
    try simp (disch := first | omega | (simp; done) | fail) [wrap64c, if_pos, if_neg, opAnd, opOr, opXor, opDiff, opShr, opBit, g_h0, c1, hNt, hgt, hM0]
    obtain ⟨_, h1, hc1, ot, o1, o2, b1, rfl, ha1, hlo, hT⟩ := asNew_ok h0 (.agg #[.int .i64 (n : Int), b]) n xs (.mk hX1) g.n7
    refine callG_c (by simp) (by simp) ?ha (hc1) ?_
    (case ha => simp (disch := first | omega | (simp; done) | fail) [wrap64c, if_pos, if_neg, opAnd, opOr, opXor, opDiff, opShr, opBit, g_h0, c1, hNt, hgt, hM0])
    have g1 : h1.get h.next = .cells [.int .i64 N, b] true true 1 := by rw [ha1.1.2 _ (by omega)]; exact g_h0
    have hF1 : IntsF (fun x => x < h0.next) h1 b (toN xs) := hX1.old.keep ha1.1
    have hn1 := ha1.1.1
    try simp (disch := first | omega | (simp; done) | fail) [wrap64c, if_pos, if_neg, opAnd, opOr, opXor, opDiff, opShr, opBit, g_h0, c1, hNt, hgt, hM0, g1]
    refine WD_loopC [1, 4, 16, 17] (fun m tm h' => ∃ j, m = xs.length - j ∧ tm 5 = .int .i64 (((wsS xs (xs.take j)).1 : Nat) : Int) ∧ tm 6 = .int .i64 (wsS xs (xs.take j)).2 ∧ tm 18 = .int .i64 (j : Int) ∧ (j ≤ xs.length) ∧ (Wr (fun q => q = o1 ∨ q = o2) h1 h') ∧ (TabOK h1.next ot o1 o2 n (2 * n) b1 xs h')) _ ⟨0, rfl, (by simp [wsS]), (by simp [wsS]), (by simp (disch := first | omega | (simp; done) | fail) [wrap64c, if_pos, if_neg, opAnd, opOr, opXor, opDiff, opShr, opBit, g_h0, c1, hNt, hgt, hM0, g1]), (by first | omega | assumption | (simp (disch := first | omega | (simp; done) | fail) [wrap64c, if_pos, if_neg, opAnd, opOr, opXor, opDiff, opShr, opBit, g_h0, c1, hNt, hgt, hM0, g1] <;> omega)), (Wr.refl _ _), hT⟩ ?_
    rintro m tm h' hFr ⟨j, rfl, e5, e6, e18, hj, hW, hTT⟩
    simp only [FrameL] at hFr
    obtain ⟨f1_0, f4_0, f16_0, f17_0, -⟩ := hFr
    try simp (disch := first | omega | (simp; done) | fail) [wrap64c, if_pos, if_neg, opAnd, opOr, opXor, opDiff, opShr, opBit, g_h0, c1, hNt, hgt, hM0, g1] at f1_0 f4_0 f16_0 f17_0
    have e1 := f1_0
    have e4 := f4_0
    have e16 := f16_0
    have e17 := f17_0
    have hn2 := hW.upd.1
    have hF2 := hF1.same (hW.upd.same fun x hx hx' => by rcases hx' with rfl | rfl <;> omega)
    have hF := hF2.ints
    have g2 : h'.get h.next = .cells [.int .i64 N, b] true true 1 := by rw [hW.upd.2 _ (by omega) (by omega)]; exact g1
    by_cases hlt : j < xs.length
    · obtain ⟨o_x, i_x, c_x, cs_x, own_x, ex_x, es_x, q_x, b_x, g_x, l_x, r_x⟩ := hF.open ((by omega))
      have z_x : ∀ h2 : i_x < cs_x.length, cs_x[i_x] = _ := fun h2 => r_x 0 ((by omega)) h2
      have hx7 := g.lt7 _ (List.getElem_mem hlt)
      have hst := wsS_take hlt
      obtain ⟨s2, hs2⟩ : ∃ s2, s2 = (wsS xs (xs.take j)).2 := ⟨_, rfl⟩
      rw [← hs2] at hst e6
      have hF3 : IntsF (fun x => x < h'.next ∧ x ≠ o1 ∧ x ≠ o2) h' b (toN xs) := hF2.sub fun q hq => by omega
      try simp (disch := first | omega | (simp; done) | fail) [wrap64c, if_pos, if_neg, opAnd, opOr, opXor, opDiff, opShr, opBit, g_h0, c1, hNt, hgt, hM0, g1, e1, e4, e5, e6, e16, e17, e18, g2, hlt, q_x, g_x, l_x, r_x, z_x]
      obtain ⟨u, h2, hc2, W2, A2, hi2⟩ := asRunT_ok h1.next ot o1 o2 n (2 * n) b1 xs g rfl h' (.agg #[.int .i64 (n : Int), b]) xs[j] hTT (by omega) (.mk hF) ⟨b, rfl, hF3⟩ (List.getElem_mem hlt)
      refine callG_c (by simp) (by simp) ?ha (hc2) ?_
      (case ha => simp (disch := first | omega | (simp; done) | fail) [wrap64c, if_pos, if_neg, opAnd, opOr, opXor, opDiff, opShr, opBit, g_h0, c1, hNt, hgt, hM0, g1, e1, e4, e5, e6, e16, e17, e18, g2, hlt, q_x, g_x, l_x, r_x, z_x])
      have hMu := hi2.ints.lenD
      have hru : (toN (runF bestN xs[j] xs.length xs)).length = runLen xs xs[j] := by rw [toN_length]; rfl
      by_cases hc : (runLen xs xs[j] : Int) > s2
      · rw [if_pos hc] at hst
        have hc' : s2 < (runLen xs xs[j] : Int) := hc
        try simp (disch := first | omega | (simp; done) | fail) [wrap64c, if_pos, if_neg, opAnd, opOr, opXor, opDiff, opShr, opBit, g_h0, c1, hNt, hgt, hM0, g1, e1, e4, e5, e6, e16, e17, e18, g2, hlt, q_x, g_x, l_x, r_x, z_x, hMu, hru, hc']
        refine loopK_next _ ?hm ?hf ⟨j + 1, rfl, (by simp [hst]), (by simp [hst]), (by simp (disch := first | omega | (simp; done) | fail) [wrap64c, if_pos, if_neg, opAnd, opOr, opXor, opDiff, opShr, opBit, g_h0, c1, hNt, hgt, hM0, g1, e1, e4, e5, e6, e16, e17, e18, g2, hlt, q_x, g_x, l_x, r_x, z_x, hMu, hru, hc'] <;> omega), (by first | omega | assumption | (simp (disch := first | omega | (simp; done) | fail) [wrap64c, if_pos, if_neg, opAnd, opOr, opXor, opDiff, opShr, opBit, g_h0, c1, hNt, hgt, hM0, g1, e1, e4, e5, e6, e16, e17, e18, g2, hlt, q_x, g_x, l_x, r_x, z_x, hMu, hru, hc'] <;> omega)), (hW.trans W2), A2⟩
        (case hm => first | omega | (simp; omega))
        (case hf => simp [FrameL, g_h0, c1, hNt, hgt, hM0, g1, e1, e4, e5, e6, e16, e17, e18, g2, hlt, q_x, g_x, l_x, r_x, z_x, hMu, hru, hc', f1_0, f4_0, f16_0, f17_0])
      · rw [if_neg hc] at hst
        have hc' : ¬ s2 < (runLen xs xs[j] : Int) := hc
        try simp (disch := first | omega | (simp; done) | fail) [wrap64c, if_pos, if_neg, opAnd, opOr, opXor, opDiff, opShr, opBit, g_h0, c1, hNt, hgt, hM0, g1, e1, e4, e5, e6, e16, e17, e18, g2, hlt, q_x, g_x, l_x, r_x, z_x, hMu, hru, hc']
        refine loopK_next _ ?hm ?hf ⟨j + 1, rfl, (by simp [hst, e5]), (by simp [hst, e6, hs2]), (by simp (disch := first | omega | (simp; done) | fail) [wrap64c, if_pos, if_neg, opAnd, opOr, opXor, opDiff, opShr, opBit, g_h0, c1, hNt, hgt, hM0, g1, e1, e4, e5, e6, e16, e17, e18, g2, hlt, q_x, g_x, l_x, r_x, z_x, hMu, hru, hc'] <;> omega), (by first | omega | assumption | (simp (disch := first | omega | (simp; done) | fail) [wrap64c, if_pos, if_neg, opAnd, opOr, opXor, opDiff, opShr, opBit, g_h0, c1, hNt, hgt, hM0, g1, e1, e4, e5, e6, e16, e17, e18, g2, hlt, q_x, g_x, l_x, r_x, z_x, hMu, hru, hc'] <;> omega)), (hW.trans W2), A2⟩
        (case hm => first | omega | (simp; omega))
        (case hf => simp [FrameL, g_h0, c1, hNt, hgt, hM0, g1, e1, e4, e5, e6, e16, e17, e18, g2, hlt, q_x, g_x, l_x, r_x, z_x, hMu, hru, hc', f1_0, f4_0, f16_0, f17_0])
    · have hft : xs.take j = xs := List.take_of_length_le (by omega)
      try simp (disch := first | omega | (simp; done) | fail) [wrap64c, if_pos, if_neg, opAnd, opOr, opXor, opDiff, opShr, opBit, g_h0, c1, hNt, hgt, hM0, g1, e1, e4, e5, e6, e16, e17, e18, g2, hlt]
      have AA : Adds h0 h' := ha1.wr hW fun o ho => by rcases ho with rfl | rfl <;> omega
      have c1' : spB N (toN xs) = true := hXe ▸ c1
      exact done_ret rfl ⟨by simp [worstR, c1', hXe, hft], K0.trans AA.1⟩
end Go.Proofs.Ytnncipcldbopgaa
namespace Go.Proofs.Ytnncipcldbopgaa
set_option linter.unusedSimpArgs false
set_option linter.unusedVariables false
set_option maxHeartbeats 4000000
open Go Go.Eng
attribute [local irreducible] WD RunD PreD Runs CallOK
noncomputable def askB (N : Int) (X : List Int) (y z : Int) : Bool := goB N X y z && !decide ((leftN (natsOf X) y.toNat z.toNat).length = 1)
noncomputable def halfQR (N : Int) (X : List Int) (y z : Int) : Int := if askB N X y z = true then halfN (leftN (natsOf X) y.toNat z.toNat) else 0
noncomputable def worstQR (N : Int) (X : List Int) (y z : Int) : Int := if goB N X y z = true then ((worstN (leftN (natsOf X) y.toNat z.toNat) : Nat) : Int) else 0
noncomputable def bestQR (N : Int) (X : List Int) (y z : Int) : Int := if askB N X y z = true then bestN (leftN (natsOf X) y.toNat z.toNat) else 0
theorem implWorstQ_ok (h : Hp) (v : Value) (N : Int) (X : List Int) (y z : Int) (hv : Space h v N X) (hl : X.length < 2 ^ 39) :
    CallOK Try.prog 45 #[v, .int .i64 y, .int .i64 z] h (.tuple #[.int .i64 (worstQR N X y z), .bool (goB N X y z)]) h := by
  refine callY_P 18 _ [.tmp 6, .tmp 7] Try.func45 rfl rfl rfl (by first | rfl | simp) ?_
  obtain ⟨b, rfl, hX⟩ := hv
  refine WD_first ?_
  try simp (disch := first | omega | (simp; done) | fail) [wrap64c, if_pos, if_neg, opAnd, opOr, opXor, opDiff, opShr, opBit]
  refine stopK_heap fun h0 q_h0 => ?_
  refine stopK_go ?_
  have g_h0 : h0.get h.next = .cells [.int .i64 N, b] true true 1 := by simp [q_h0]
  have k_h0 : Adds h h0 := by rw [q_h0]; exact (by first | exact aK | exact kK)
  have n_h0 : h.next < h0.next := by simp [q_h0]; try omega
  have hX0 := hX.keep k_h0.1
  have K0 := k_h0.1
  try simp (disch := first | omega | (simp; done) | fail) [wrap64c, if_pos, if_neg, opAnd, opOr, opXor, opDiff, opShr, opBit, g_h0]
  refine callG_c (by simp) (by simp) ?ha (goOn_ok h0 (.agg #[.int .i64 N, b]) N X y z (.mk hX0) hl) ?_
  (case ha => simp (disch := first | omega | (simp; done) | fail) [wrap64c, if_pos, if_neg, opAnd, opOr, opXor, opDiff, opShr, opBit, g_h0])
  cases c1 : goB N X y z
  · try simp (disch := first | omega | (simp; done) | fail) [wrap64c, if_pos, if_neg, opAnd, opOr, opXor, opDiff, opShr, opBit, g_h0, c1]
    exact done_ret rfl (by simp [worstQR, c1, K0])
  · obtain ⟨n, xs, a, c, hN, hXe, ha, hc, g, hx, hy, hac, hne⟩ := goB_true c1
    subst hN hXe ha hc
    have hb7 := bit7 g.n7
    have hl7 := g.len7
    obtain ⟨_, h1, p1, o, p, q, b1, rfl, a1, hopq, hgo, hgp, hgq, hb1⟩ := newAsker_ok h0 (.agg #[.int .i64 (n : Int), b]) n (toN xs) (.mk hX0)
    have hA : AskOK h1.next o p n b1 (.map (some q)) xs h1 := ⟨by omega, by omega, by omega, hgo, hb1.sub fun x hx => by omega, [], hgp, fun e he => by cases he⟩
    obtain ⟨_, h2, p2, rfl, W2, A2⟩ := least_ok h1.next o p n b1 (.map (some q)) xs g.lt7 (by omega) _ h1 a c hA (Nat.le_refl _) (by omega) (by omega) (Nat.lt_succ_self _)
    have K2 : Keeps h h2 := ⟨by have := a1.1.1; have := W2.upd.1; omega, fun r hr => by rw [W2.upd.2 r (by have := a1.1.1; omega) (by omega), a1.1.2 r (by omega)]; exact K0.2 r hr⟩
    try simp (disch := first | omega | (simp; done) | fail) [wrap64c, if_pos, if_neg, opAnd, opOr, opXor, opDiff, opShr, opBit, g_h0, c1]
    refine callG_c (by simp) (by simp) ?ha (p1) ?_
    (case ha => simp (disch := first | omega | (simp; done) | fail) [wrap64c, if_pos, if_neg, opAnd, opOr, opXor, opDiff, opShr, opBit, g_h0, c1])
    try simp (disch := first | omega | (simp; done) | fail) [wrap64c, if_pos, if_neg, opAnd, opOr, opXor, opDiff, opShr, opBit, g_h0, c1]
    refine callG_c (by simp) (by simp) ?ha (p2) ?_
    (case ha => simp (disch := first | omega | (simp; done) | fail) [wrap64c, if_pos, if_neg, opAnd, opOr, opXor, opDiff, opShr, opBit, g_h0, c1])
    try simp (disch := first | omega | (simp; done) | fail) [wrap64c, if_pos, if_neg, opAnd, opOr, opXor, opDiff, opShr, opBit, g_h0, c1]
    exact done_ret rfl (by simp [worstQR, c1, K2])
end Go.Proofs.Ytnncipcldbopgaa
namespace Go.Proofs.Ytnncipcldbopgaa
set_option linter.unusedSimpArgs false
set_option linter.unusedVariables false
set_option maxHeartbeats 4000000
open Go Go.Eng
attribute [local irreducible] WD RunD PreD Runs CallOK
theorem go_none {n : Nat} {fs : List Nat} (gd : SpGood n fs) : goB (n : Int) (toN fs) 0 0 = true ∧ worstQR (n : Int) (toN fs) 0 0 = ((worstN fs : Nat) : Int) := by
  have hb := bit_pos n
  have g : goB (n : Int) (toN fs) ((0 : Nat) : Int) ((0 : Nat) : Int) = true := goB_of gd (by omega) (by omega) rfl (by rw [left_zero]; exact List.ne_nil_of_mem gd.zero)
  have g' : goB (n : Int) (toN fs) 0 0 = true := g
  refine ⟨g', ?_⟩
  rw [worstQR, if_pos g', natsOf_toN]
  show ((worstN (leftN fs 0 0) : Nat) : Int) = _
  rw [left_zero]
end Go.Proofs.Ytnncipcldbopgaa
namespace Go.Proofs.Ytnncipcldbopgaa
set_option linter.unusedSimpArgs false
set_option linter.unusedVariables false
set_option maxHeartbeats 4000000
open Go Go.Eng
attribute [local irreducible] WD RunD PreD Runs CallOK
theorem implProofOf_ok (h : Hp) (v : Value) (N : Int) (X : List Int) (a : Int) (hv : Space h v N X) (hl : X.length < 2 ^ 40) : CallOK Try.prog 66 #[v, .int .i64 a] h (.tuple #[.int .i64 (innerR N X a), .int .i64 (outerR N X a), .bool (oneB N X a)]) h := by
  refine callY_P 20 _ [.tmp 4, .tmp 5, .tmp 6] Try.func66 rfl rfl rfl (by first | rfl | simp) ?_
  obtain ⟨b, rfl, hX⟩ := hv
  refine WD_first ?_
  try simp (disch := first | omega | (simp; done) | fail) [wrap64c, if_pos, if_neg, opAnd, opOr, opXor, opDiff, opShr, opBit]
  refine stopK_heap fun h0 q_h0 => ?_
  refine stopK_go ?_
  have g_h0 : h0.get h.next = .cells [.int .i64 N, b] true true 1 := by simp [q_h0]
  have k_h0 : Adds h h0 := by rw [q_h0]; exact (by first | exact aK | exact kK)
  have n_h0 : h.next < h0.next := by simp [q_h0]; try omega
  have hX0 := hX.keep k_h0.1
  have K0 := k_h0.1
  try simp (disch := first | omega | (simp; done) | fail) [wrap64c, if_pos, if_neg, opAnd, opOr, opXor, opDiff, opShr, opBit, g_h0]
  refine callG_c (by simp) (by simp) ?ha (isKnown_ok h0 (.agg #[.int .i64 N, b]) N X a (.mk hX0) hl) ?_
  (case ha => simp (disch := first | omega | (simp; done) | fail) [wrap64c, if_pos, if_neg, opAnd, opOr, opXor, opDiff, opShr, opBit, g_h0])
  cases c1 : oneB N X a
  · try simp (disch := first | omega | (simp; done) | fail) [wrap64c, if_pos, if_neg, opAnd, opOr, opXor, opDiff, opShr, opBit, g_h0, c1]
    exact done_ret rfl (by simp [innerR, outerR, c1, K0])
  · obtain ⟨n, xs, x, hN, hXe, ha, g, hx⟩ := oneB_true c1
    subst hN hXe ha
    have x128 := g.l128 x hx
    obtain ⟨_, h1, p1, o1, rfl, a1, b1, b2, q1⟩ := family_ok h0 (.agg #[.int .i64 n, b]) n xs (.mk hX0) g.l128 (by simpa using hl)
    have K1 := K0.trans a1.1
    try simp (disch := first | omega | (simp; done) | fail) [wrap64c, if_pos, if_neg, opAnd, opOr, opXor, opDiff, opShr, opBit, g_h0, c1]
    refine callG_c (by simp) (by simp) ?ha (p1) ?_
    (case ha => simp (disch := first | omega | (simp; done) | fail) [wrap64c, if_pos, if_neg, opAnd, opOr, opXor, opDiff, opShr, opBit, g_h0, c1])
    try simp (disch := first | omega | (simp; done) | fail) [wrap64c, if_pos, if_neg, opAnd, opOr, opXor, opDiff, opShr, opBit, g_h0, c1]
    refine callG_c (by simp) (by simp) ?ha (imInner_ok h1 o1 (fam xs) _ _ _ x b2 q1 x128) ?_
    (case ha => simp (disch := first | omega | (simp; done) | fail) [wrap64c, if_pos, if_neg, opAnd, opOr, opXor, opDiff, opShr, opBit, g_h0, c1])
    try simp (disch := first | omega | (simp; done) | fail) [wrap64c, if_pos, if_neg, opAnd, opOr, opXor, opDiff, opShr, opBit, g_h0, c1]
    refine callG_c (by simp) (by simp) ?ha (imOuter_ok h1 o1 (fam xs) _ _ _ x b2 q1 x128) ?_
    (case ha => simp (disch := first | omega | (simp; done) | fail) [wrap64c, if_pos, if_neg, opAnd, opOr, opXor, opDiff, opShr, opBit, g_h0, c1])
    try simp (disch := first | omega | (simp; done) | fail) [wrap64c, if_pos, if_neg, opAnd, opOr, opXor, opDiff, opShr, opBit, g_h0, c1]
    exact done_ret rfl (by simp [innerR, outerR, c1, K1, g.outer7])
noncomputable def prfOK (N : Int) (X : List Int) (a y z : Int) : Bool := oneB N X a && ansB N X y z
noncomputable def prfB (N : Int) (X : List Int) (a y z : Int) : Bool := prfOK N X a y z && decide (leftN (natsOf X) y.toNat z.toNat = [a.toNat])
def lpN (n : Nat) (xs l : List Nat) : Nat := l.foldl (fun m x => max m (pcN (innerN (fam xs) x) + pcN (outerN (fam xs) n x))) 0
noncomputable def lpR (N : Int) (X : List Int) : Int := if spB N X = true then ((lpN N.toNat (natsOf X) (natsOf X) : Nat) : Int) else 0
theorem lpN_take {n : Nat} {xs : List Nat} {j : Nat} (hj : j < xs.length) : lpN n xs (xs.take (j + 1)) = max (lpN n xs (xs.take j)) (pcN (innerN (fam xs) xs[j]) + pcN (outerN (fam xs) n xs[j])) := by
  rw [List.take_succ_eq_append_getElem hj, lpN, List.foldl_append]; rfl
theorem lpN_le {n : Nat} {xs : List Nat} {b : Nat} : ∀ (l : List Nat) (m : Nat), m ≤ b → (∀ x ∈ l, pcN (innerN (fam xs) x) + pcN (outerN (fam xs) n x) ≤ b) → l.foldl (fun m x => max m (pcN (innerN (fam xs) x) + pcN (outerN (fam xs) n x))) m ≤ b
  | [], m, h, _ => h
  | x :: l, m, h, hl => lpN_le l _ (Nat.max_le.2 ⟨h, hl x (by simp)⟩) fun y hy => hl y (by simp [hy])
theorem implLongest_ok (h : Hp) (v : Value) (N : Int) (X : List Int) (hv : Space h v N X) (hl : X.length < 2 ^ 39) : CallOK Try.prog 69 #[v] h (.tuple #[.int .i64 (lpR N X), .bool (spB N X)]) h := by
  refine callY_P 33 _ [.tmp 2, .tmp 3] Try.func69 rfl rfl rfl (by first | rfl | simp) ?_
  obtain ⟨b, rfl, hX⟩ := hv
  refine WD_first ?_
  try simp (disch := first | omega | (simp; done) | fail) [wrap64c, if_pos, if_neg, opAnd, opOr, opXor, opDiff, opShr, opBit]
  refine stopK_heap fun h0 q_h0 => ?_
  refine stopK_go ?_
  have g_h0 : h0.get h.next = .cells [.int .i64 N, b] true true 1 := by simp [q_h0]
  have k_h0 : Adds h h0 := by rw [q_h0]; exact (by first | exact aK | exact kK)
  have n_h0 : h.next < h0.next := by simp [q_h0]; try omega
  have hX0 := hX.keep k_h0.1
  have K0 := k_h0.1
  try simp (disch := first | omega | (simp; done) | fail) [wrap64c, if_pos, if_neg, opAnd, opOr, opXor, opDiff, opShr, opBit, g_h0]
  refine callG_c (by simp) (by simp) ?ha (isSpace_ok h0 (.agg #[.int .i64 N, b]) N X (.mk hX0) (by omega)) ?_
  (case ha => simp (disch := first | omega | (simp; done) | fail) [wrap64c, if_pos, if_neg, opAnd, opOr, opXor, opDiff, opShr, opBit, g_h0])
  cases c1 : spB N X
  · try simp (disch := first | omega | (simp; done) | fail) [wrap64c, if_pos, if_neg, opAnd, opOr, opXor, opDiff, opShr, opBit, g_h0, c1]
    exact done_ret rfl (by simp [lpR, c1, K0])
  · obtain ⟨n, xs, hN, hXe, g⟩ := spB_true c1
    subst hN hXe
    have n7 := g.n7
    have hgt := toN_get xs
    have hln := toN_length xs
    obtain ⟨_, h1, p1, o1, rfl, a1, b1, b2, q1⟩ := family_ok h0 (.agg #[.int .i64 n, b]) n xs (.mk hX0) g.l128 (by simp; omega)
    have K1 := K0.trans a1.1
    have hX1 := hX0.keep a1.1
    have hL := hX1.lenD
    have gb : h1.get h.next = .cells [.int .i64 n, b] true true 1 := by rw [a1.1.2 _ (by omega)]; exact g_h0
    try simp (disch := first | omega | (simp; done) | fail) [wrap64c, if_pos, if_neg, opAnd, opOr, opXor, opDiff, opShr, opBit, g_h0, c1, hgt, hL, gb]
    refine callG_c (by simp) (by simp) ?ha (p1) ?_
    (case ha => simp (disch := first | omega | (simp; done) | fail) [wrap64c, if_pos, if_neg, opAnd, opOr, opXor, opDiff, opShr, opBit, g_h0, c1, hgt, hL, gb])
    try simp (disch := first | omega | (simp; done) | fail) [wrap64c, if_pos, if_neg, opAnd, opOr, opXor, opDiff, opShr, opBit, g_h0, c1, hgt, hL, gb]
    refine WD_loopC [4, 14, 15] (fun m tm h' => ∃ j, m = xs.length - j ∧ h1 = h' ∧ tm 5 = .int .i64 ((lpN n xs (xs.take j) : Nat) : Int) ∧ tm 16 = .int .i64 (j : Int) ∧ (j ≤ xs.length)) _ ⟨0, rfl, rfl, (by simp [lpN]), (by simp (disch := first | omega | (simp; done) | fail) [wrap64c, if_pos, if_neg, opAnd, opOr, opXor, opDiff, opShr, opBit, g_h0, c1, hgt, hL, gb]), (by first | omega | assumption | (simp (disch := first | omega | (simp; done) | fail) [wrap64c, if_pos, if_neg, opAnd, opOr, opXor, opDiff, opShr, opBit, g_h0, c1, hgt, hL, gb] <;> omega))⟩ ?_
    rintro m tm h' hFr ⟨j, rfl, rfl, e5, e16, hj⟩
    simp only [FrameL] at hFr
    obtain ⟨f4_0, f14_0, f15_0, -⟩ := hFr
    try simp (disch := first | omega | (simp; done) | fail) [wrap64c, if_pos, if_neg, opAnd, opOr, opXor, opDiff, opShr, opBit, g_h0, c1, hgt, hL, gb] at f4_0 f14_0 f15_0
    have e4 := f4_0
    have e14 := f14_0
    have e15 := f15_0
    have hb14 : lpN n xs (xs.take j) ≤ 14 := lpN_le _ 0 (by omega) fun x hx => by have := pcN_le (innerN (fam xs) x); have := pcN_le (outerN (fam xs) n x); omega
    by_cases hlt : j < xs.length
    · have hxj := g.l128 _ (List.getElem_mem hlt)
      have hlt128 : innerN (fam xs) xs[j] < 128 := maskN_lt _ 7
      have hlo128 : outerN (fam xs) n xs[j] < 128 := Nat.lt_of_lt_of_le (maskN_lt _ n) (bit7 g.n7).2
      have ho7 := g.outer7 xs[j]
      have hp1 := pcN_le (innerN (fam xs) xs[j])
      have hp2 := pcN_le (outerN (fam xs) n xs[j])
      have ht := lpN_take (n := n) hlt
      obtain ⟨w0, hw0⟩ : ∃ w, w = lpN n xs (xs.take j) := ⟨_, rfl⟩
      obtain ⟨w1, hw1⟩ : ∃ w, w = pcN (innerN (fam xs) xs[j]) := ⟨_, rfl⟩
      obtain ⟨w2, hw2⟩ : ∃ w, w = pcN (outerN (fam xs) n xs[j]) := ⟨_, rfl⟩
      have pc1 := count_ok h1 (innerN (fam xs) xs[j]) hlt128
      have pc2 := count_ok h1 (outerN (fam xs) n xs[j]) hlo128
      rw [← hw0] at ht hb14 e5
      rw [← hw1] at pc1 hp1 ht
      rw [← hw2] at pc2 hp2 ht
      obtain ⟨o_z, i_z, c_z, cs_z, own_z, ex_z, es_z, q_z, b_z, g_z, l_z, r_z⟩ := hX1.open ((by simp; omega))
      have z_z : ∀ h2 : i_z < cs_z.length, cs_z[i_z] = _ := fun h2 => r_z 0 ((by simp; omega)) h2
      try simp (disch := first | omega | (simp; done) | fail) [wrap64c, if_pos, if_neg, opAnd, opOr, opXor, opDiff, opShr, opBit, g_h0, c1, hgt, hL, gb, e4, e5, e14, e15, e16, hlt, ho7, q_z, g_z, l_z, r_z, z_z]
      refine callG_c (by simp) (by simp) ?ha (imInner_ok h1 o1 (fam xs) _ _ _ xs[j] b2 q1 hxj) ?_
      (case ha => simp (disch := first | omega | (simp; done) | fail) [wrap64c, if_pos, if_neg, opAnd, opOr, opXor, opDiff, opShr, opBit, g_h0, c1, hgt, hL, gb, e4, e5, e14, e15, e16, hlt, ho7, q_z, g_z, l_z, r_z, z_z])
      try simp (disch := first | omega | (simp; done) | fail) [wrap64c, if_pos, if_neg, opAnd, opOr, opXor, opDiff, opShr, opBit, g_h0, c1, hgt, hL, gb, e4, e5, e14, e15, e16, hlt, ho7, q_z, g_z, l_z, r_z, z_z]
      refine callG_c (by simp) (by simp) ?ha (pc1) ?_
      (case ha => simp (disch := first | omega | (simp; done) | fail) [wrap64c, if_pos, if_neg, opAnd, opOr, opXor, opDiff, opShr, opBit, g_h0, c1, hgt, hL, gb, e4, e5, e14, e15, e16, hlt, ho7, q_z, g_z, l_z, r_z, z_z])
      try simp (disch := first | omega | (simp; done) | fail) [wrap64c, if_pos, if_neg, opAnd, opOr, opXor, opDiff, opShr, opBit, g_h0, c1, hgt, hL, gb, e4, e5, e14, e15, e16, hlt, ho7, q_z, g_z, l_z, r_z, z_z]
      refine callG_c (by simp) (by simp) ?ha (imOuter_ok h1 o1 (fam xs) _ _ _ xs[j] b2 q1 hxj) ?_
      (case ha => simp (disch := first | omega | (simp; done) | fail) [wrap64c, if_pos, if_neg, opAnd, opOr, opXor, opDiff, opShr, opBit, g_h0, c1, hgt, hL, gb, e4, e5, e14, e15, e16, hlt, ho7, q_z, g_z, l_z, r_z, z_z])
      try simp (disch := first | omega | (simp; done) | fail) [wrap64c, if_pos, if_neg, opAnd, opOr, opXor, opDiff, opShr, opBit, g_h0, c1, hgt, hL, gb, e4, e5, e14, e15, e16, hlt, ho7, q_z, g_z, l_z, r_z, z_z]
      refine callG_c (by simp) (by simp) ?ha (pc2) ?_
      (case ha => simp (disch := first | omega | (simp; done) | fail) [wrap64c, if_pos, if_neg, opAnd, opOr, opXor, opDiff, opShr, opBit, g_h0, c1, hgt, hL, gb, e4, e5, e14, e15, e16, hlt, ho7, q_z, g_z, l_z, r_z, z_z])
      by_cases hc : w0 < w1 + w2
      · have hc' : (w0 : Int) < (w1 : Int) + (w2 : Int) := by omega
        try simp (disch := first | omega | (simp; done) | fail) [wrap64c, if_pos, if_neg, opAnd, opOr, opXor, opDiff, opShr, opBit, g_h0, c1, hgt, hL, gb, e4, e5, e14, e15, e16, hlt, ho7, q_z, g_z, l_z, r_z, z_z, hc']
        refine loopK_next _ ?hm ?hf ⟨j + 1, rfl, rfl, (by rw [ht]; simp; omega), (by simp (disch := first | omega | (simp; done) | fail) [wrap64c, if_pos, if_neg, opAnd, opOr, opXor, opDiff, opShr, opBit, g_h0, c1, hgt, hL, gb, e4, e5, e14, e15, e16, hlt, ho7, q_z, g_z, l_z, r_z, z_z, hc'] <;> omega), (by first | omega | assumption | (simp (disch := first | omega | (simp; done) | fail) [wrap64c, if_pos, if_neg, opAnd, opOr, opXor, opDiff, opShr, opBit, g_h0, c1, hgt, hL, gb, e4, e5, e14, e15, e16, hlt, ho7, q_z, g_z, l_z, r_z, z_z, hc'] <;> omega))⟩
        (case hm => first | omega | (simp; omega))
        (case hf => simp [FrameL, g_h0, c1, hgt, hL, gb, e4, e5, e14, e15, e16, hlt, ho7, q_z, g_z, l_z, r_z, z_z, hc', f4_0, f14_0, f15_0])
      · have hc' : ¬ (w0 : Int) < (w1 : Int) + (w2 : Int) := by omega
        try simp (disch := first | omega | (simp; done) | fail) [wrap64c, if_pos, if_neg, opAnd, opOr, opXor, opDiff, opShr, opBit, g_h0, c1, hgt, hL, gb, e4, e5, e14, e15, e16, hlt, ho7, q_z, g_z, l_z, r_z, z_z, hc']
        refine loopK_next _ ?hm ?hf ⟨j + 1, rfl, rfl, (by rw [ht]; simp [e5]; omega), (by simp (disch := first | omega | (simp; done) | fail) [wrap64c, if_pos, if_neg, opAnd, opOr, opXor, opDiff, opShr, opBit, g_h0, c1, hgt, hL, gb, e4, e5, e14, e15, e16, hlt, ho7, q_z, g_z, l_z, r_z, z_z, hc'] <;> omega), (by first | omega | assumption | (simp (disch := first | omega | (simp; done) | fail) [wrap64c, if_pos, if_neg, opAnd, opOr, opXor, opDiff, opShr, opBit, g_h0, c1, hgt, hL, gb, e4, e5, e14, e15, e16, hlt, ho7, q_z, g_z, l_z, r_z, z_z, hc'] <;> omega))⟩
        (case hm => first | omega | (simp; omega))
        (case hf => simp [FrameL, g_h0, c1, hgt, hL, gb, e4, e5, e14, e15, e16, hlt, ho7, q_z, g_z, l_z, r_z, z_z, hc', f4_0, f14_0, f15_0])
    · have hft : xs.take j = xs := List.take_of_length_le (by omega)
      try simp (disch := first | omega | (simp; done) | fail) [wrap64c, if_pos, if_neg, opAnd, opOr, opXor, opDiff, opShr, opBit, g_h0, c1, hgt, hL, gb, e4, e5, e14, e15, e16, hlt]
      exact done_ret rfl (by simp [lpR, c1, K1, hft])
end Go.Proofs.Ytnncipcldbopgaa
namespace Go.Proofs.Ytnncipcldbopgaa
set_option linter.unusedSimpArgs false
set_option linter.unusedVariables false
set_option maxHeartbeats 4000000
open Go Go.Eng
attribute [local irreducible] WD RunD PreD Runs CallOK
def MemT (xs : List Nat) (es : List (Value × Value)) : Prop := ∀ e ∈ es, ∃ y z : Nat, e.1 = keyV y z ∧ e.2 = .int .i64 ((totN (leftN xs y z) : Nat) : Int)
theorem MemT.keys {xs : List Nat} {es : List (Value × Value)} (h : MemT xs es) : keysOK 2 es = true := by
  unfold keysOK
  rw [List.all_eq_true]
  intro e he
  obtain ⟨y, z, e1, _⟩ := h e he
  rw [e1]; rfl
theorem MemT.get {xs : List Nat} : ∀ {es : List (Value × Value)}, MemT xs es → ∀ (y z : Nat), mapGet es (keyV y z) = none ∨ mapGet es (keyV y z) = some (.int .i64 ((totN (leftN xs y z) : Nat) : Int))
  | [], _, y, z => .inl rfl
  | e :: es, h, y, z => by
    obtain ⟨y', z', e1, e2⟩ := h e (by simp)
    rw [mapGet]
    by_cases hk : keyB e.1 (keyV y z) = true
    · rw [if_pos hk]
      right
      rw [e1] at hk
      obtain ⟨rfl, rfl⟩ := keyB_key.1 hk
      rw [e2]
    · rw [if_neg hk]
      exact MemT.get (fun e he => h e (by simp [he])) y z
theorem MemT.put {xs : List Nat} : ∀ {es : List (Value × Value)}, MemT xs es → ∀ (y z : Nat), MemT xs (mapPut es (keyV y z) (.int .i64 ((totN (leftN xs y z) : Nat) : Int)))
  | [], _, y, z => by
    intro e he
    simp only [mapPut, List.mem_singleton] at he
    subst he
    exact ⟨y, z, rfl, rfl⟩
  | e :: es, h, y, z => by
    rw [mapPut]
    split
    · intro q hq
      rcases List.mem_cons.1 hq with rfl | hq
      · exact ⟨y, z, rfl, rfl⟩
      · exact h q (by simp [hq])
    · intro q hq
      rcases List.mem_cons.1 hq with rfl | hq
      · exact h q (by simp)
      · exact MemT.put (fun e he => h e (by simp [he])) y z q hq
structure TotOK (base o p : Nat) (N : Int) (b m1 : Value) (xs : List Nat) (h : Hp) : Prop where
  ob : o < base
  pb : p < base
  ne : o ≠ p
  asker : h.get o = .cells [.int .i64 N, b, m1, .map (some p)] true true 1
  ints : IntsF (fun x => x < base ∧ x ≠ p) h b (toN xs)
  mem : ∃ es, h.get p = .map es ∧ MemT xs es
theorem TotOK.stab {base o p : Nat} {N : Int} {b m1 : Value} {xs : List Nat} {h h' : Hp} (k : TotOK base o p N b m1 xs h) (hn : h.next ≤ h'.next) (hs : ∀ q, q < base → h'.get q = h.get q) : TotOK base o p N b m1 xs h' where
  ob := k.ob
  pb := k.pb
  ne := k.ne
  asker := by rw [hs o k.ob]; exact k.asker
  ints := k.ints.same ⟨hn, fun q hq _ => hs q hq.1⟩
  mem := by obtain ⟨es, h1, h2⟩ := k.mem; exact ⟨es, by rw [hs p k.pb]; exact h1, h2⟩
theorem TotOK.adds {base o p : Nat} {N : Int} {b m1 : Value} {xs : List Nat} {h h' : Hp} (k : TotOK base o p N b m1 xs h) (hb : base ≤ h.next) (a : Adds h h') : TotOK base o p N b m1 xs h' :=
  k.stab a.1.1 fun q hq => a.1.2 q (by omega)
theorem minT_take {L : List Nat} {j : Nat} (hj : j < (openN L).length) : minL (((openN L).take (j + 1)).map (tasN L)) = if j = 0 then tasN L (openN L)[j] else min (minL (((openN L).take j).map (tasN L))) (tasN L (openN L)[j]) := by
  rw [List.take_succ_eq_append_getElem hj, List.map_append]
  simp only [List.map_cons, List.map_nil]
  rw [minL_snoc]
  by_cases h0 : j = 0
  · subst h0; simp
  · rw [if_neg h0, if_neg]
    intro he
    have h1 : (((openN L).take j).map (tasN L)).length = 0 := by rw [he]; rfl
    rw [List.length_map, List.length_take] at h1
    omega
theorem minT_le_of {L : List Nat} (hl : L.length ≤ 128) (j : Nat) : minL (((openN L).take j).map (tasN L)) ≤ 16384 := by
  by_cases h : ((openN L).take j).map (tasN L) = []
  · rw [h]; exact Nat.zero_le _
  · refine minL_le h fun x hx => ?_
    obtain ⟨i, hi, rfl⟩ := List.mem_map.1 hx
    have hlen := has_len (mem_openK.1 (List.mem_of_mem_take hi)).2
    have h1 := tot_sq _ (hasL L i) (Nat.le_refl _)
    have h2 := tot_sq _ (lacksL L i) (Nat.le_refl _)
    have := tot_bound hlen.2.2.2.2 hlen.2.2.1 hlen.2.2.2.1
    have := sq_le hl
    unfold tasN
    omega
theorem sum_ok (base o p : Nat) (N : Int) (b m1 : Value) (xs : List Nat) (hx : ∀ x ∈ xs, x < 128) (hl : xs.length ≤ 128) : ∀ (m : Nat) (h : Hp) (y z : Nat), TotOK base o p N b m1 xs h → base ≤ h.next → y < 128 → z < 128 → (leftN xs y z).length < m →
    ∃ v h', CallOK Try.prog 175 #[.pointer (some ⟨o, 0, none⟩), .int .i64 (y : Int), .int .i64 (z : Int)] h v h' ∧ v = .int .i64 ((totN (leftN xs y z) : Nat) : Int) ∧ Wr (fun q => q = p) h h' ∧ TotOK base o p N b m1 xs h' := by
  intro m
  induction m with
  | zero => intro h y z _ _ _ _ hm; omega
  | succ m ih =>
    intro h y z hA hb hy hz hm
    refine callY_L (args := [.pointer (some ⟨o, 0, none⟩), .int .i64 (y : Int), .int .i64 (z : Int)]) 78 _ [.tmp 6] Try.func175 rfl rfl rfl ?_
    obtain ⟨es, hgp, hM⟩ := hA.mem
    have hkk := keyV_ok y z
    have hob := hA.ob
    have hpb := hA.pb
    have hll := left_len xs y z
    try simp (disch := first | omega | (simp; done) | fail) [wrap64c, if_pos, if_neg, opAnd, opOr, opXor, opDiff, opShr, opBit, hkk, putCells]
    first | refine WY_heap fun h0 q_h0 => ?_ | refine callG_heap fun h0 q_h0 => ?_ | refine callP_heap fun h0 q_h0 => ?_ | refine callS_heap fun h0 q_h0 => ?_ | refine RY_heap fun h0 q_h0 => ?_ | refine PY_heap fun h0 q_h0 => ?_ | refine SY_heap fun h0 q_h0 => ?_ | refine doneY_heap fun h0 q_h0 => ?_ | refine loopK_heap fun h0 q_h0 => ?_ | refine thenY_heap fun h0 q_h0 => ?_ | refine thenM_heap fun h0 q_h0 => ?_
    have k0 : Adds h h0 := by rw [q_h0]; exact (by first | exact aK | exact kK)
    have n0 : h0.next = h.next + 1 := by simp [q_h0]
    have gk : h0.get h.next = .cells [.int .i64 (y : Int), .int .i64 (z : Int)] true true 1 := by simp [q_h0]
    have hA0 := hA.adds hb k0
    have ask0 := hA0.asker
    have gp0 : h0.get p = .map es := by rw [k0.1.2 p (by omega)]; exact hgp
    have hky : keysOK 2 es = true := hM.keys
    refine WD_drawC 10 rfl (by kernel_rfl) ?_
    try simp (disch := first | omega | (simp; done) | fail) [wrap64c, if_pos, if_neg, opAnd, opOr, opXor, opDiff, opShr, opBit, hkk, gk, ask0, gp0, hky]
    rcases hM.get y z with hg | hg
    · unfold keyV at hg
      have hg := hg
      try simp (disch := first | omega | (simp; done) | fail) [wrap64c, if_pos, if_neg, opAnd, opOr, opXor, opDiff, opShr, opBit, hkk, gk, ask0, gp0, hky, hg]
      obtain ⟨v1, h1, hc1, ha1, hi1⟩ := imLeft_ok h0 (.agg #[.int .i64 N, b]) N xs y z (.mk hA0.ints.ints) hx (by omega) hy hz
      refine callG_c (by simp) (by simp) ?ha (hc1) ?_
      (case ha => simp (disch := first | omega | (simp; done) | fail) [wrap64c, if_pos, if_neg, opAnd, opOr, opXor, opDiff, opShr, opBit, hkk, gk, ask0, gp0, hky, hg])
      obtain ⟨L, hLe⟩ : ∃ L, L = leftN xs y z := ⟨_, rfl⟩
      have hLx : ∀ x ∈ L, x < 128 := fun x hm => hx x (left_sub (hLe ▸ hm))
      have hLl : L.length ≤ 128 := by rw [hLe]; omega
      rw [← hLe] at hi1 hm
      have hM1 := hi1.ints.lenD
      have hlnL := toN_length L
      try simp (disch := first | omega | (simp; done) | fail) [wrap64c, if_pos, if_neg, opAnd, opOr, opXor, opDiff, opShr, opBit, hkk, gk, ask0, gp0, hky, hg, hM1, hlnL]
      obtain ⟨v2, h2, hc2, ha2, hi2⟩ := open_ok h1 v1 L hi1.ints hLx (by omega)
      refine callG_c (by simp) (by simp) ?ha (hc2) ?_
      (case ha => simp (disch := first | omega | (simp; done) | fail) [wrap64c, if_pos, if_neg, opAnd, opOr, opXor, opDiff, opShr, opBit, hkk, gk, ask0, gp0, hky, hg, hM1, hlnL])
      have n1 := ha1.1.1
      have n2 := ha2.1.1
      have hA2 := (hA0.adds (by omega) ha1).adds (by omega) ha2
      have hgt := toN_get (openN L)
      have hln := toN_length (openN L)
      have hM2 := hi2.ints.lenD
      have hol : (openN L).length ≤ 7 := openK_len L 7
      have gk2 : h2.get h.next = .cells [.int .i64 (y : Int), .int .i64 (z : Int)] true true 1 := by rw [ha2.1.2 _ (by omega), ha1.1.2 _ (by omega)]; exact gk
      try simp (disch := first | omega | (simp; done) | fail) [wrap64c, if_pos, if_neg, opAnd, opOr, opXor, opDiff, opShr, opBit, hkk, gk, ask0, gp0, hky, hg, hM1, hlnL, hgt, hM2]
      refine WD_loopC [0, 1, 2, 7, 10, 37, 38] (fun m tm h' => ∃ j, m = (openN L).length - j ∧ tm 11 = .int .i64 ((minL (((openN L).take j).map (tasN L)) : Nat) : Int) ∧ tm 39 = .int .i64 (j : Int) ∧ (j ≤ (openN L).length) ∧ (Wr (fun q => q = p) h2 h') ∧ (TotOK base o p N b m1 xs h')) _ ⟨0, rfl, (by simp [minL]), (by simp (disch := first | omega | (simp; done) | fail) [wrap64c, if_pos, if_neg, opAnd, opOr, opXor, opDiff, opShr, opBit, hkk, gk, ask0, gp0, hky, hg, hM1, hlnL, hgt, hM2]), (by first | omega | assumption | (simp (disch := first | omega | (simp; done) | fail) [wrap64c, if_pos, if_neg, opAnd, opOr, opXor, opDiff, opShr, opBit, hkk, gk, ask0, gp0, hky, hg, hM1, hlnL, hgt, hM2] <;> omega)), (Wr.refl _ _), hA2⟩ ?_
      rintro m tm h' hFr ⟨j, rfl, e11, e39, hj, hW, hAA⟩
      simp only [FrameL] at hFr
      obtain ⟨f0_0, f1_0, f2_0, f7_0, f10_0, f37_0, f38_0, -⟩ := hFr
      try simp (disch := first | omega | (simp; done) | fail) [wrap64c, if_pos, if_neg, opAnd, opOr, opXor, opDiff, opShr, opBit, hkk, gk, ask0, gp0, hky, hg, hM1, hlnL, hgt, hM2] at f0_0 f1_0 f2_0 f7_0 f10_0 f37_0 f38_0
      have e0 := f0_0
      have e1 := f1_0
      have e2 := f2_0
      have e7 := f7_0
      have e10 := f10_0
      have e37 := f37_0
      have e38 := f38_0
      have hu := hW.upd
      have hv2 := (hi2.same (hu.same fun x hx hx' => by unfold Btw at hx; omega)).ints
      have gk' : h'.get h.next = .cells [.int .i64 (y : Int), .int .i64 (z : Int)] true true 1 := by rw [hu.2 _ (by omega) (by omega)]; exact gk2
      have ask' := hAA.asker
      have n3 := hu.1
      have hml := minT_le_of hLl j
      by_cases hlt : j < (openN L).length
      · obtain ⟨o_x, i_x, c_x, cs_x, own_x, ex_x, es_x, q_x, b_x, g_x, l_x, r_x⟩ := hv2.open ((by omega))
        have z_x : ∀ h2 : i_x < cs_x.length, cs_x[i_x] = _ := fun h2 => r_x 0 ((by omega)) h2
        obtain ⟨i, hi⟩ : ∃ i, i = (openN L)[j] := ⟨_, rfl⟩
        have hopi := (mem_openK.1 (List.getElem_mem hlt)).2
        have hi7 : i < 7 := by rw [hi]; exact (mem_openK.1 (List.getElem_mem hlt)).1
        rw [← hi] at hopi
        have hi' := hi.symm
        have hlen := has_len hopi
        have hmt := minT_take (L := L) hlt
        rw [← hi] at hmt
        have hb7 := bit_lt7 hi7
        have hy2 := nOr128 (b := bit i) hy (by omega)
        have hz2 := nOr128 (b := bit i) hz (by omega)
        have hs1 := tot_sq _ (hasL L i) (Nat.le_refl _)
        have hs2 := tot_sq _ (lacksL L i) (Nat.le_refl _)
        have hs3 := sq_le (a := (hasL L i).length) (by omega)
        have hs4 := sq_le (a := (lacksL L i).length) (by omega)
        have haq : tasN L i = L.length + totN (hasL L i) + totN (lacksL L i) := rfl
        try simp (disch := first | omega | (simp; done) | fail) [wrap64c, if_pos, if_neg, opAnd, opOr, opXor, opDiff, opShr, opBit, hkk, gk, ask0, gp0, hky, hg, hM1, hlnL, hgt, hM2, e0, e1, e2, e7, e10, e11, e37, e38, e39, gk', ask', hlt, q_x, g_x, l_x, r_x, z_x, hi']
        refine WD_chainC rfl (by kernel_rfl) (by kernel_rfl) ?_
        try simp (disch := first | omega | (simp; done) | fail) [wrap64c, if_pos, if_neg, opAnd, opOr, opXor, opDiff, opShr, opBit, hkk, gk, ask0, gp0, hky, hg, hM1, hlnL, hgt, hM2, e0, e1, e2, e7, e10, e11, e37, e38, e39, gk', ask', hlt, q_x, g_x, l_x, r_x, z_x, hi']
        obtain ⟨_, h3, hc3, rfl, W3, A3⟩ := ih h' (nOr y (bit i)) z hAA (by omega) hy2 hz (by rw [left_yes, ← hLe]; omega)
        refine callG_c (by simp) (by simp) ?ha (hc3) ?_
        (case ha => simp (disch := first | omega | (simp; done) | fail) [wrap64c, if_pos, if_neg, opAnd, opOr, opXor, opDiff, opShr, opBit, hkk, gk, ask0, gp0, hky, hg, hM1, hlnL, hgt, hM2, e0, e1, e2, e7, e10, e11, e37, e38, e39, gk', ask', hlt, q_x, g_x, l_x, r_x, z_x, hi'])
        have n4 := W3.upd.1
        rw [left_yes, ← hLe]
        obtain ⟨w1, hw1'⟩ : ∃ w, w = totN (hasL L i) := ⟨_, rfl⟩
        obtain ⟨w2, hw2'⟩ : ∃ w, w = totN (lacksL L i) := ⟨_, rfl⟩
        obtain ⟨w0, hw0⟩ : ∃ w, w = minL (((openN L).take j).map (tasN L)) := ⟨_, rfl⟩
        rw [← hw1', ← hw2'] at haq
        rw [← hw1'] at hs1
        rw [← hw2'] at hs2
        rw [← hw0] at hmt hml e11
        rw [haq] at hmt
        rw [← hw1']
        try simp (disch := first | omega | (simp; done) | fail) [wrap64c, if_pos, if_neg, opAnd, opOr, opXor, opDiff, opShr, opBit, hkk, gk, ask0, gp0, hky, hg, hM1, hlnL, hgt, hM2, e0, e1, e2, e7, e10, e11, e37, e38, e39, gk', ask', hlt, q_x, g_x, l_x, r_x, z_x, hi']
        obtain ⟨_, h4, hc4, rfl, W4, A4⟩ := ih h3 y (nOr z (bit i)) A3 (by omega) hy hz2 (by rw [left_no, ← hLe]; omega)
        refine callG_c (by simp) (by simp) ?ha (hc4) ?_
        (case ha => simp (disch := first | omega | (simp; done) | fail) [wrap64c, if_pos, if_neg, opAnd, opOr, opXor, opDiff, opShr, opBit, hkk, gk, ask0, gp0, hky, hg, hM1, hlnL, hgt, hM2, e0, e1, e2, e7, e10, e11, e37, e38, e39, gk', ask', hlt, q_x, g_x, l_x, r_x, z_x, hi'])
        rw [left_no, ← hLe]
        rw [← hw2']
        by_cases hj0 : j = 0
        · have hj0' : ((j : Int) == 0) = true := by simp [hj0]
          rw [if_pos hj0] at hmt
          try simp (disch := first | omega | (simp; done) | fail) [wrap64c, if_pos, if_neg, opAnd, opOr, opXor, opDiff, opShr, opBit, hkk, gk, ask0, gp0, hky, hg, hM1, hlnL, hgt, hM2, e0, e1, e2, e7, e10, e11, e37, e38, e39, gk', ask', hlt, q_x, g_x, l_x, r_x, z_x, hi', hj0']
          refine loopK_next _ ?hm ?hf ⟨j + 1, rfl, (by rw [hmt]; simp), (by simp (disch := first | omega | (simp; done) | fail) [wrap64c, if_pos, if_neg, opAnd, opOr, opXor, opDiff, opShr, opBit, hkk, gk, ask0, gp0, hky, hg, hM1, hlnL, hgt, hM2, e0, e1, e2, e7, e10, e11, e37, e38, e39, gk', ask', hlt, q_x, g_x, l_x, r_x, z_x, hi', hj0'] <;> omega), (by first | omega | assumption | (simp (disch := first | omega | (simp; done) | fail) [wrap64c, if_pos, if_neg, opAnd, opOr, opXor, opDiff, opShr, opBit, hkk, gk, ask0, gp0, hky, hg, hM1, hlnL, hgt, hM2, e0, e1, e2, e7, e10, e11, e37, e38, e39, gk', ask', hlt, q_x, g_x, l_x, r_x, z_x, hi', hj0'] <;> omega)), (hW.trans (W3.trans W4)), A4⟩
          (case hm => first | omega | (simp; omega))
          (case hf => simp [FrameL, hkk, gk, ask0, gp0, hky, hg, hM1, hlnL, hgt, hM2, e0, e1, e2, e7, e10, e11, e37, e38, e39, gk', ask', hlt, q_x, g_x, l_x, r_x, z_x, hi', hj0', f0_0, f1_0, f2_0, f7_0, f10_0, f37_0, f38_0])
        · have hj0' : ((j : Int) == 0) = false := by simp [hj0]
          rw [if_neg hj0] at hmt
          by_cases hq : L.length + w1 + w2 < w0
          · have hq' : (L.length : Int) + (w1 : Int) + (w2 : Int) < (w0 : Int) := by omega
            try simp (disch := first | omega | (simp; done) | fail) [wrap64c, if_pos, if_neg, opAnd, opOr, opXor, opDiff, opShr, opBit, hkk, gk, ask0, gp0, hky, hg, hM1, hlnL, hgt, hM2, e0, e1, e2, e7, e10, e11, e37, e38, e39, gk', ask', hlt, q_x, g_x, l_x, r_x, z_x, hi', hj0', hq']
            refine loopK_next _ ?hm ?hf ⟨j + 1, rfl, (by rw [hmt]; simp; omega), (by simp (disch := first | omega | (simp; done) | fail) [wrap64c, if_pos, if_neg, opAnd, opOr, opXor, opDiff, opShr, opBit, hkk, gk, ask0, gp0, hky, hg, hM1, hlnL, hgt, hM2, e0, e1, e2, e7, e10, e11, e37, e38, e39, gk', ask', hlt, q_x, g_x, l_x, r_x, z_x, hi', hj0', hq'] <;> omega), (by first | omega | assumption | (simp (disch := first | omega | (simp; done) | fail) [wrap64c, if_pos, if_neg, opAnd, opOr, opXor, opDiff, opShr, opBit, hkk, gk, ask0, gp0, hky, hg, hM1, hlnL, hgt, hM2, e0, e1, e2, e7, e10, e11, e37, e38, e39, gk', ask', hlt, q_x, g_x, l_x, r_x, z_x, hi', hj0', hq'] <;> omega)), (hW.trans (W3.trans W4)), A4⟩
            (case hm => first | omega | (simp; omega))
            (case hf => simp [FrameL, hkk, gk, ask0, gp0, hky, hg, hM1, hlnL, hgt, hM2, e0, e1, e2, e7, e10, e11, e37, e38, e39, gk', ask', hlt, q_x, g_x, l_x, r_x, z_x, hi', hj0', hq', f0_0, f1_0, f2_0, f7_0, f10_0, f37_0, f38_0])
          · have hq' : ¬ (L.length : Int) + (w1 : Int) + (w2 : Int) < (w0 : Int) := by omega
            try simp (disch := first | omega | (simp; done) | fail) [wrap64c, if_pos, if_neg, opAnd, opOr, opXor, opDiff, opShr, opBit, hkk, gk, ask0, gp0, hky, hg, hM1, hlnL, hgt, hM2, e0, e1, e2, e7, e10, e11, e37, e38, e39, gk', ask', hlt, q_x, g_x, l_x, r_x, z_x, hi', hj0', hq']
            refine loopK_next _ ?hm ?hf ⟨j + 1, rfl, (by rw [hmt]; simp [e11]; omega), (by simp (disch := first | omega | (simp; done) | fail) [wrap64c, if_pos, if_neg, opAnd, opOr, opXor, opDiff, opShr, opBit, hkk, gk, ask0, gp0, hky, hg, hM1, hlnL, hgt, hM2, e0, e1, e2, e7, e10, e11, e37, e38, e39, gk', ask', hlt, q_x, g_x, l_x, r_x, z_x, hi', hj0', hq'] <;> omega), (by first | omega | assumption | (simp (disch := first | omega | (simp; done) | fail) [wrap64c, if_pos, if_neg, opAnd, opOr, opXor, opDiff, opShr, opBit, hkk, gk, ask0, gp0, hky, hg, hM1, hlnL, hgt, hM2, e0, e1, e2, e7, e10, e11, e37, e38, e39, gk', ask', hlt, q_x, g_x, l_x, r_x, z_x, hi', hj0', hq'] <;> omega)), (hW.trans (W3.trans W4)), A4⟩
            (case hm => first | omega | (simp; omega))
            (case hf => simp [FrameL, hkk, gk, ask0, gp0, hky, hg, hM1, hlnL, hgt, hM2, e0, e1, e2, e7, e10, e11, e37, e38, e39, gk', ask', hlt, q_x, g_x, l_x, r_x, z_x, hi', hj0', hq', f0_0, f1_0, f2_0, f7_0, f10_0, f37_0, f38_0])
      · have hft : (openN L).take j = openN L := List.take_of_length_le (by omega)
        rw [hft, ← totN_eq] at e11
        obtain ⟨es', gp', hM'⟩ := hAA.mem
        have gp' := gp'
        have hky' : keysOK 2 es' = true := hM'.keys
        try simp (disch := first | omega | (simp; done) | fail) [wrap64c, if_pos, if_neg, opAnd, opOr, opXor, opDiff, opShr, opBit, hkk, gk, ask0, gp0, hky, hg, hM1, hlnL, hgt, hM2, e0, e1, e2, e7, e10, e11, e37, e38, e39, gk', ask', hlt, gp', hky']
        refine WD_drawC 6 rfl (by kernel_rfl) ?_
        try simp (disch := first | omega | (simp; done) | fail) [wrap64c, if_pos, if_neg, opAnd, opOr, opXor, opDiff, opShr, opBit, hkk, gk, ask0, gp0, hky, hg, hM1, hlnL, hgt, hM2, e0, e1, e2, e7, e10, e11, e37, e38, e39, gk', ask', hlt, gp', hky']
        have WW := ((((Wr.of_adds k0).trans (.of_adds ha1)).trans (.of_adds ha2)).trans hW).put (o := p) (S := fun q => q = p) rfl (x := .map (mapPut es' (keyV y z) (.int .i64 ((totN L : Nat) : Int)))) (fun _ => rfl)
        refine done_ret rfl ⟨by simp [← hLe], WW, ?_⟩
        refine ⟨hob, hpb, hA.ne, ?_, hAA.ints.same ⟨by simp, fun q hq _ => by simp [hq.2]⟩, ⟨_, by simp; rfl, ?_⟩⟩
        · simp [hA.ne, ask']
        · have := hM'.put y z
          rw [← hLe] at this
          exact this
    · unfold keyV at hg
      have hg := hg
      try simp (disch := first | omega | (simp; done) | fail) [wrap64c, if_pos, if_neg, opAnd, opOr, opXor, opDiff, opShr, opBit, hkk, gk, ask0, gp0, hky, hg]
      exact done_ret rfl ⟨rfl, .of_adds k0, hA0⟩
noncomputable def totR (N : Int) (X : List Int) : Int := if spB N X = true then ((totN (natsOf X) : Nat) : Int) else 0
theorem implTotal_ok (h : Hp) (v : Value) (N : Int) (X : List Int) (hv : Space h v N X) (hl : X.length < 2 ^ 39) : CallOK Try.prog 77 #[v] h (.tuple #[.int .i64 (totR N X), .bool (spB N X)]) h := by
  refine callY_P 10 _ [.tmp 2, .tmp 3] Try.func77 rfl rfl rfl (by first | rfl | simp) ?_
  obtain ⟨b, rfl, hX⟩ := hv
  refine WD_first ?_
  try simp (disch := first | omega | (simp; done) | fail) [wrap64c, if_pos, if_neg, opAnd, opOr, opXor, opDiff, opShr, opBit]
  refine stopK_heap fun h0 q_h0 => ?_
  refine stopK_go ?_
  have g_h0 : h0.get h.next = .cells [.int .i64 N, b] true true 1 := by simp [q_h0]
  have k_h0 : Adds h h0 := by rw [q_h0]; exact (by first | exact aK | exact kK)
  have n_h0 : h.next < h0.next := by simp [q_h0]; try omega
  have hX0 := hX.keep k_h0.1
  have K0 := k_h0.1
  try simp (disch := first | omega | (simp; done) | fail) [wrap64c, if_pos, if_neg, opAnd, opOr, opXor, opDiff, opShr, opBit, g_h0]
  refine callG_c (by simp) (by simp) ?ha (isSpace_ok h0 (.agg #[.int .i64 N, b]) N X (.mk hX0) (by omega)) ?_
  (case ha => simp (disch := first | omega | (simp; done) | fail) [wrap64c, if_pos, if_neg, opAnd, opOr, opXor, opDiff, opShr, opBit, g_h0])
  cases c1 : spB N X
  · try simp (disch := first | omega | (simp; done) | fail) [wrap64c, if_pos, if_neg, opAnd, opOr, opXor, opDiff, opShr, opBit, g_h0, c1]
    exact done_ret rfl (by simp [totR, c1, K0])
  · obtain ⟨n, xs, hN, hXe, g⟩ := spB_true c1
    subst hN hXe
    obtain ⟨_, h1, p1, o, p, q, b1, rfl, a1, hopq, hgo, hgp, hgq, hb1⟩ := newAsker_ok h0 (.agg #[.int .i64 (n : Int), b]) n (toN xs) (.mk hX0)
    have hA : TotOK h1.next o q n b1 (.map (some p)) xs h1 := ⟨by omega, by omega, by omega, hgo, hb1.sub fun x hx => by omega, [], hgq, fun e he => by cases he⟩
    obtain ⟨_, h2, p2, rfl, W2, A2⟩ := sum_ok h1.next o q n b1 (.map (some p)) xs g.lt7 g.len7 _ h1 0 0 hA (Nat.le_refl _) (by omega) (by omega) (Nat.lt_succ_self _)
    rw [left_zero] at p2
    have K2 : Keeps h h2 := ⟨by have := a1.1.1; have := W2.upd.1; omega, fun r hr => by rw [W2.upd.2 r (by have := a1.1.1; omega) (by omega), a1.1.2 r (by omega)]; exact K0.2 r hr⟩
    try simp (disch := first | omega | (simp; done) | fail) [wrap64c, if_pos, if_neg, opAnd, opOr, opXor, opDiff, opShr, opBit, g_h0, c1]
    refine callG_c (by simp) (by simp) ?ha (p1) ?_
    (case ha => simp (disch := first | omega | (simp; done) | fail) [wrap64c, if_pos, if_neg, opAnd, opOr, opXor, opDiff, opShr, opBit, g_h0, c1])
    try simp (disch := first | omega | (simp; done) | fail) [wrap64c, if_pos, if_neg, opAnd, opOr, opXor, opDiff, opShr, opBit, g_h0, c1]
    refine callG_c (by simp) (by simp) ?ha (p2) ?_
    (case ha => simp (disch := first | omega | (simp; done) | fail) [wrap64c, if_pos, if_neg, opAnd, opOr, opXor, opDiff, opShr, opBit, g_h0, c1])
    try simp (disch := first | omega | (simp; done) | fail) [wrap64c, if_pos, if_neg, opAnd, opOr, opXor, opDiff, opShr, opBit, g_h0, c1]
    exact done_ret rfl (by simp [totR, c1, K2])
theorem specTotal_ok (h : Hp) (v : Value) (N : Int) (X : List Int) (hv : Space h v N X) (hl : X.length < 2 ^ 39) : CallOK Try.prog 79 #[v] h (.tuple #[.int .i64 (totR N X), .bool (spB N X)]) h := by
  refine callY_P 16 _ [.tmp 2, .tmp 3] Try.func79 rfl rfl rfl (by first | rfl | simp) ?_
  obtain ⟨b, rfl, hX⟩ := hv
  refine WD_first ?_
  try simp (disch := first | omega | (simp; done) | fail) [wrap64c, if_pos, if_neg, opAnd, opOr, opXor, opDiff, opShr, opBit]
  refine stopK_heap fun h0 q_h0 => ?_
  refine stopK_go ?_
  have g_h0 : h0.get h.next = .cells [.int .i64 N, b] true true 1 := by simp [q_h0]
  have k_h0 : Adds h h0 := by rw [q_h0]; exact (by first | exact aK | exact kK)
  have n_h0 : h.next < h0.next := by simp [q_h0]; try omega
  have hX0 := hX.keep k_h0.1
  have K0 := k_h0.1
  try simp (disch := first | omega | (simp; done) | fail) [wrap64c, if_pos, if_neg, opAnd, opOr, opXor, opDiff, opShr, opBit, g_h0]
  refine callG_c (by simp) (by simp) ?ha (spGood_ok h0 (.agg #[.int .i64 N, b]) N X (.mk hX0) (by omega)) ?_
  (case ha => simp (disch := first | omega | (simp; done) | fail) [wrap64c, if_pos, if_neg, opAnd, opOr, opXor, opDiff, opShr, opBit, g_h0])
  cases c1 : spB N X
  · try simp (disch := first | omega | (simp; done) | fail) [wrap64c, if_pos, if_neg, opAnd, opOr, opXor, opDiff, opShr, opBit, g_h0, c1]
    exact done_ret rfl (by simp [totR, c1, K0])
  · obtain ⟨n, xs, hN, hXe, g⟩ := spB_true c1
    subst hN hXe
    obtain ⟨_, h1, p1, ot, o1, o2, b1, rfl, a1, hlo, hT⟩ := asNew_ok h0 (.agg #[.int .i64 (n : Int), b]) n xs (.mk hX0) g.n7
    obtain ⟨_, h2, p2, ⟨t0, rfl, ht0, ht1⟩, W2, T2⟩ := spLeast_ok h1.next ot o1 o2 n (2 * n) b1 xs g rfl _ h1 0 0 hT (Nat.le_refl _) (by omega) (by omega) (by rw [left_zero]; exact List.ne_nil_of_mem g.zero) (Nat.lt_succ_self _)
    rw [left_zero] at p2 ht1
    have K2 : Keeps h h2 := ⟨by have := a1.1.1; have := W2.upd.1; omega, fun r hr => by rw [W2.upd.2 r (by have := a1.1.1; omega) (by omega), a1.1.2 r (by omega)]; exact K0.2 r hr⟩
    try simp (disch := first | omega | (simp; done) | fail) [wrap64c, if_pos, if_neg, opAnd, opOr, opXor, opDiff, opShr, opBit, g_h0, c1]
    refine callG_c (by simp) (by simp) ?ha (p1) ?_
    (case ha => simp (disch := first | omega | (simp; done) | fail) [wrap64c, if_pos, if_neg, opAnd, opOr, opXor, opDiff, opShr, opBit, g_h0, c1])
    try simp (disch := first | omega | (simp; done) | fail) [wrap64c, if_pos, if_neg, opAnd, opOr, opXor, opDiff, opShr, opBit, g_h0, c1]
    refine callG_c (by simp) (by simp) ?ha (p2) ?_
    (case ha => simp (disch := first | omega | (simp; done) | fail) [wrap64c, if_pos, if_neg, opAnd, opOr, opXor, opDiff, opShr, opBit, g_h0, c1])
    try simp (disch := first | omega | (simp; done) | fail) [wrap64c, if_pos, if_neg, opAnd, opOr, opXor, opDiff, opShr, opBit, g_h0, c1]
    exact done_ret rfl (by simp [totR, c1, K2, ht1])
def bndF (m : Nat) : Nat → Nat → Nat
  | 0, k => k
  | d + 1, k => if bit k < m then bndF m d (k + 1) else k
def bndN (m : Nat) : Nat := bndF m 8 0
noncomputable def bndR (N : Int) (X : List Int) : Int := if spB N X = true then ((bndN X.length : Nat) : Int) else 0
theorem bndF_le {m w : Nat} (hw : m ≤ bit w) : ∀ d k, k ≤ w → bndF m d k ≤ w
  | 0, k, h => h
  | d + 1, k, h => by
    rw [bndF]
    split
    · rename_i hlt
      refine bndF_le hw d (k + 1) ?_
      apply Classical.byContradiction
      intro hn
      have : k = w := by omega
      subst this; omega
    · exact h
theorem bndN_le {m w : Nat} (hw : m ≤ 2 ^ w) : bndN m ≤ w := bndF_le hw 8 0 (Nat.zero_le _)
theorem specBound_ok (h : Hp) (v : Value) (N : Int) (X : List Int) (hv : Space h v N X) (hl : X.length < 2 ^ 39) : CallOK Try.prog 80 #[v] h (.tuple #[.int .i64 (bndR N X), .bool (spB N X)]) h := by
  refine callY_P 17 _ [.tmp 2, .tmp 3] Try.func80 rfl rfl rfl (by first | rfl | simp) ?_
  obtain ⟨b, rfl, hX⟩ := hv
  refine WD_first ?_
  try simp (disch := first | omega | (simp; done) | fail) [wrap64c, if_pos, if_neg, opAnd, opOr, opXor, opDiff, opShr, opBit]
  refine stopK_heap fun h0 q_h0 => ?_
  refine stopK_go ?_
  have g_h0 : h0.get h.next = .cells [.int .i64 N, b] true true 1 := by simp [q_h0]
  have k_h0 : Adds h h0 := by rw [q_h0]; exact (by first | exact aK | exact kK)
  have n_h0 : h.next < h0.next := by simp [q_h0]; try omega
  have hX0 := hX.keep k_h0.1
  have hL := hX0.lenD
  have K0 := k_h0.1
  try simp (disch := first | omega | (simp; done) | fail) [wrap64c, if_pos, if_neg, opAnd, opOr, opXor, opDiff, opShr, opBit, g_h0, hL]
  refine callG_c (by simp) (by simp) ?ha (spGood_ok h0 (.agg #[.int .i64 N, b]) N X (.mk hX0) (by omega)) ?_
  (case ha => simp (disch := first | omega | (simp; done) | fail) [wrap64c, if_pos, if_neg, opAnd, opOr, opXor, opDiff, opShr, opBit, g_h0, hL])
  cases c1 : spB N X
  · try simp (disch := first | omega | (simp; done) | fail) [wrap64c, if_pos, if_neg, opAnd, opOr, opXor, opDiff, opShr, opBit, g_h0, hL, c1]
    exact done_ret rfl (by simp [bndR, c1, K0])
  · obtain ⟨n, xs, hN, hXe, g⟩ := spB_true c1
    subst hN hXe
    have hl7 := g.len7
    have hln := toN_length xs
    try simp (disch := first | omega | (simp; done) | fail) [wrap64c, if_pos, if_neg, opAnd, opOr, opXor, opDiff, opShr, opBit, g_h0, hL, c1, hln]
    refine WD_loopC [1] (fun m tm h' => ∃ k d, m = d + 0 * k ∧ h0 = h' ∧ tm 4 = .int .i64 (k : Int) ∧ (k + d = 8) ∧ (bndF xs.length d k = bndN xs.length)) _ ⟨0, 8, rfl, rfl, (by simp (disch := first | omega | (simp; done) | fail) [wrap64c, if_pos, if_neg, opAnd, opOr, opXor, opDiff, opShr, opBit, g_h0, hL, c1, hln]), (by first | omega | assumption | (simp (disch := first | omega | (simp; done) | fail) [wrap64c, if_pos, if_neg, opAnd, opOr, opXor, opDiff, opShr, opBit, g_h0, hL, c1, hln] <;> omega)), rfl⟩ ?_
    rintro m tm h' hFr ⟨k, d, rfl, rfl, e4, hk, hb⟩
    simp only [FrameL] at hFr
    obtain ⟨f1_0, -⟩ := hFr
    try simp (disch := first | omega | (simp; done) | fail) [wrap64c, if_pos, if_neg, opAnd, opOr, opXor, opDiff, opShr, opBit, g_h0, hL, c1, hln] at f1_0
    have e1 := f1_0
    by_cases hlt : bit k < xs.length
    · have hk7 : k < 7 := by
        apply Classical.byContradiction
        intro hn
        have : bit 7 ≤ bit k := bit_mono (by omega)
        have h128 : bit 7 = 128 := rfl
        omega
      have hbk := bit7 (i := k) (by omega)
      have hlt' : ((bit k : Nat) : Int) < (xs.length : Int) := by omega
      obtain ⟨d, rfl⟩ : ∃ q, d = q + 1 := ⟨d - 1, by omega⟩
      rw [bndF, if_pos hlt] at hb
      try simp (disch := first | omega | (simp; done) | fail) [wrap64c, if_pos, if_neg, opAnd, opOr, opXor, opDiff, opShr, opBit, g_h0, hL, c1, hln, e1, e4, hlt']
      refine WD_chainC rfl (by kernel_rfl) (by kernel_rfl) ?_
      try simp (disch := first | omega | (simp; done) | fail) [wrap64c, if_pos, if_neg, opAnd, opOr, opXor, opDiff, opShr, opBit, g_h0, hL, c1, hln, e1, e4, hlt']
      refine loopK_next _ ?hm ?hf ⟨k + 1, d, rfl, rfl, (by simp (disch := first | omega | (simp; done) | fail) [wrap64c, if_pos, if_neg, opAnd, opOr, opXor, opDiff, opShr, opBit, g_h0, hL, c1, hln, e1, e4, hlt'] <;> omega), (by first | omega | assumption | (simp (disch := first | omega | (simp; done) | fail) [wrap64c, if_pos, if_neg, opAnd, opOr, opXor, opDiff, opShr, opBit, g_h0, hL, c1, hln, e1, e4, hlt'] <;> omega)), hb⟩
      (case hm => first | omega | (simp; omega))
      (case hf => simp [FrameL, g_h0, hL, c1, hln, e1, e4, hlt', f1_0])
    · have hlt' : ¬ ((bit k : Nat) : Int) < (xs.length : Int) := by omega
      have hk8 : bndN xs.length = k := by
        rw [← hb]
        cases d with
        | zero => rfl
        | succ d => rw [bndF, if_neg hlt]
      try simp (disch := first | omega | (simp; done) | fail) [wrap64c, if_pos, if_neg, opAnd, opOr, opXor, opDiff, opShr, opBit, g_h0, hL, c1, hln, e1, e4, hlt']
      refine WD_chainC rfl (by kernel_rfl) (by kernel_rfl) ?_
      try simp (disch := first | omega | (simp; done) | fail) [wrap64c, if_pos, if_neg, opAnd, opOr, opXor, opDiff, opShr, opBit, g_h0, hL, c1, hln, e1, e4, hlt']
      exact done_ret rfl (by simp [bndR, c1, K0, hk8])
theorem implBound_ok (h : Hp) (v : Value) (N : Int) (X : List Int) (hv : Space h v N X) (hl : X.length < 2 ^ 39) : CallOK Try.prog 76 #[v] h (.tuple #[.int .i64 (bndR N X), .bool (spB N X)]) h := by
  refine callY_P 17 _ [.tmp 2, .tmp 3] Try.func76 rfl rfl rfl (by first | rfl | simp) ?_
  obtain ⟨b, rfl, hX⟩ := hv
  refine WD_first ?_
  try simp (disch := first | omega | (simp; done) | fail) [wrap64c, if_pos, if_neg, opAnd, opOr, opXor, opDiff, opShr, opBit]
  refine stopK_heap fun h0 q_h0 => ?_
  refine stopK_go ?_
  have g_h0 : h0.get h.next = .cells [.int .i64 N, b] true true 1 := by simp [q_h0]
  have k_h0 : Adds h h0 := by rw [q_h0]; exact (by first | exact aK | exact kK)
  have n_h0 : h.next < h0.next := by simp [q_h0]; try omega
  have hX0 := hX.keep k_h0.1
  have hL := hX0.lenD
  have K0 := k_h0.1
  try simp (disch := first | omega | (simp; done) | fail) [wrap64c, if_pos, if_neg, opAnd, opOr, opXor, opDiff, opShr, opBit, g_h0, hL]
  refine callG_c (by simp) (by simp) ?ha (isSpace_ok h0 (.agg #[.int .i64 N, b]) N X (.mk hX0) (by omega)) ?_
  (case ha => simp (disch := first | omega | (simp; done) | fail) [wrap64c, if_pos, if_neg, opAnd, opOr, opXor, opDiff, opShr, opBit, g_h0, hL])
  cases c1 : spB N X
  · try simp (disch := first | omega | (simp; done) | fail) [wrap64c, if_pos, if_neg, opAnd, opOr, opXor, opDiff, opShr, opBit, g_h0, hL, c1]
    exact done_ret rfl (by simp [bndR, c1, K0])
  · obtain ⟨n, xs, hN, hXe, g⟩ := spB_true c1
    subst hN hXe
    have hl7 := g.len7
    have hln := toN_length xs
    try simp (disch := first | omega | (simp; done) | fail) [wrap64c, if_pos, if_neg, opAnd, opOr, opXor, opDiff, opShr, opBit, g_h0, hL, c1, hln]
    refine WD_loopC [1] (fun m tm h' => ∃ k d, m = d + 0 * k ∧ h0 = h' ∧ tm 4 = .int .i64 (k : Int) ∧ (k + d = 8) ∧ (bndF xs.length d k = bndN xs.length)) _ ⟨0, 8, rfl, rfl, (by simp (disch := first | omega | (simp; done) | fail) [wrap64c, if_pos, if_neg, opAnd, opOr, opXor, opDiff, opShr, opBit, g_h0, hL, c1, hln]), (by first | omega | assumption | (simp (disch := first | omega | (simp; done) | fail) [wrap64c, if_pos, if_neg, opAnd, opOr, opXor, opDiff, opShr, opBit, g_h0, hL, c1, hln] <;> omega)), rfl⟩ ?_
    rintro m tm h' hFr ⟨k, d, rfl, rfl, e4, hk, hb⟩
    simp only [FrameL] at hFr
    obtain ⟨f1_0, -⟩ := hFr
    try simp (disch := first | omega | (simp; done) | fail) [wrap64c, if_pos, if_neg, opAnd, opOr, opXor, opDiff, opShr, opBit, g_h0, hL, c1, hln] at f1_0
    have e1 := f1_0
    by_cases hlt : bit k < xs.length
    · have hk7 : k < 7 := by
        apply Classical.byContradiction
        intro hn
        have : bit 7 ≤ bit k := bit_mono (by omega)
        have h128 : bit 7 = 128 := rfl
        omega
      have hbk := bit7 (i := k) (by omega)
      have hlt' : ((bit k : Nat) : Int) < (xs.length : Int) := by omega
      obtain ⟨d, rfl⟩ : ∃ q, d = q + 1 := ⟨d - 1, by omega⟩
      rw [bndF, if_pos hlt] at hb
      try simp (disch := first | omega | (simp; done) | fail) [wrap64c, if_pos, if_neg, opAnd, opOr, opXor, opDiff, opShr, opBit, g_h0, hL, c1, hln, e1, e4, hlt']
      refine WD_chainC rfl (by kernel_rfl) (by kernel_rfl) ?_
      try simp (disch := first | omega | (simp; done) | fail) [wrap64c, if_pos, if_neg, opAnd, opOr, opXor, opDiff, opShr, opBit, g_h0, hL, c1, hln, e1, e4, hlt']
      refine loopK_next _ ?hm ?hf ⟨k + 1, d, rfl, rfl, (by simp (disch := first | omega | (simp; done) | fail) [wrap64c, if_pos, if_neg, opAnd, opOr, opXor, opDiff, opShr, opBit, g_h0, hL, c1, hln, e1, e4, hlt'] <;> omega), (by first | omega | assumption | (simp (disch := first | omega | (simp; done) | fail) [wrap64c, if_pos, if_neg, opAnd, opOr, opXor, opDiff, opShr, opBit, g_h0, hL, c1, hln, e1, e4, hlt'] <;> omega)), hb⟩
      (case hm => first | omega | (simp; omega))
      (case hf => simp [FrameL, g_h0, hL, c1, hln, e1, e4, hlt', f1_0])
    · have hlt' : ¬ ((bit k : Nat) : Int) < (xs.length : Int) := by omega
      have hk8 : bndN xs.length = k := by
        rw [← hb]
        cases d with
        | zero => rfl
        | succ d => rw [bndF, if_neg hlt]
      try simp (disch := first | omega | (simp; done) | fail) [wrap64c, if_pos, if_neg, opAnd, opOr, opXor, opDiff, opShr, opBit, g_h0, hL, c1, hln, e1, e4, hlt']
      refine WD_chainC rfl (by kernel_rfl) (by kernel_rfl) ?_
      try simp (disch := first | omega | (simp; done) | fail) [wrap64c, if_pos, if_neg, opAnd, opOr, opXor, opDiff, opShr, opBit, g_h0, hL, c1, hln, e1, e4, hlt']
      exact done_ret rfl (by simp [bndR, c1, K0, hk8])
def hrunL (xs : List Nat) (x : Nat) : Nat := (runF halfN x xs.length xs).length
def hwN (xs l : List Nat) : Nat := l.foldl (fun m x => max m (hrunL xs x)) 0
noncomputable def hwR (N : Int) (X : List Int) : Int := if spB N X = true then ((hwN (natsOf X) (natsOf X) : Nat) : Int) else 0
theorem hwN_take {xs : List Nat} {j : Nat} (hj : j < xs.length) : hwN xs (xs.take (j + 1)) = max (hwN xs (xs.take j)) (hrunL xs xs[j]) := by
  rw [List.take_succ_eq_append_getElem hj, hwN, List.foldl_append]; rfl
theorem hwN_le (xs : List Nat) : ∀ (l : List Nat) (m : Nat), m ≤ xs.length → l.foldl (fun m x => max m (hrunL xs x)) m ≤ xs.length
  | [], m, h => h
  | x :: l, m, h => hwN_le xs l _ (Nat.max_le.2 ⟨h, runF_len _ _ _ _⟩)
theorem specHW_ok (h : Hp) (v : Value) (N : Int) (X : List Int) (hv : Space h v N X) (hl : X.length < 2 ^ 39) : CallOK Try.prog 75 #[v] h (.tuple #[.int .i64 (hwR N X), .bool (spB N X)]) h := by
  refine callY_P 25 _ [.tmp 2, .tmp 3] Try.func75 rfl rfl rfl (by first | rfl | simp) ?_
  obtain ⟨b, rfl, hX⟩ := hv
  refine WD_first ?_
  try simp (disch := first | omega | (simp; done) | fail) [wrap64c, if_pos, if_neg, opAnd, opOr, opXor, opDiff, opShr, opBit]
  refine stopK_heap fun h0 q_h0 => ?_
  refine stopK_go ?_
  have g_h0 : h0.get h.next = .cells [.int .i64 N, b] true true 1 := by simp [q_h0]
  have k_h0 : Adds h h0 := by rw [q_h0]; exact (by first | exact aK | exact kK)
  have n_h0 : h.next < h0.next := by simp [q_h0]; try omega
  have hX0 := hX.keep k_h0.1
  have hL := hX0.lenD
  have K0 := k_h0.1
  try simp (disch := first | omega | (simp; done) | fail) [wrap64c, if_pos, if_neg, opAnd, opOr, opXor, opDiff, opShr, opBit, g_h0, hL]
  refine callG_c (by simp) (by simp) ?ha (spGood_ok h0 (.agg #[.int .i64 N, b]) N X (.mk hX0) (by omega)) ?_
  (case ha => simp (disch := first | omega | (simp; done) | fail) [wrap64c, if_pos, if_neg, opAnd, opOr, opXor, opDiff, opShr, opBit, g_h0, hL])
  cases c1 : spB N X
  · try simp (disch := first | omega | (simp; done) | fail) [wrap64c, if_pos, if_neg, opAnd, opOr, opXor, opDiff, opShr, opBit, g_h0, hL, c1]
    exact done_ret rfl (by simp [hwR, c1, K0])
  · obtain ⟨n, xs, hN, hXe, g⟩ := spB_true c1
    subst hN hXe
    have hl7 := g.len7
    have hgt := toN_get xs
    have hln := toN_length xs
    try simp (disch := first | omega | (simp; done) | fail) [wrap64c, if_pos, if_neg, opAnd, opOr, opXor, opDiff, opShr, opBit, g_h0, hL, c1, hgt]
    refine WD_loopC [1, 11, 12] (fun m tm h' => ∃ j, m = xs.length - j ∧ tm 4 = .int .i64 ((hwN xs (xs.take j) : Nat) : Int) ∧ tm 13 = .int .i64 (j : Int) ∧ (j ≤ xs.length) ∧ (Adds h0 h')) _ ⟨0, rfl, (by simp [hwN]), (by simp (disch := first | omega | (simp; done) | fail) [wrap64c, if_pos, if_neg, opAnd, opOr, opXor, opDiff, opShr, opBit, g_h0, hL, c1, hgt]), (by first | omega | assumption | (simp (disch := first | omega | (simp; done) | fail) [wrap64c, if_pos, if_neg, opAnd, opOr, opXor, opDiff, opShr, opBit, g_h0, hL, c1, hgt] <;> omega)), (adds_self _)⟩ ?_
    rintro m tm h' hFr ⟨j, rfl, e4, e13, hj, hd⟩
    simp only [FrameL] at hFr
    obtain ⟨f1_0, f11_0, f12_0, -⟩ := hFr
    try simp (disch := first | omega | (simp; done) | fail) [wrap64c, if_pos, if_neg, opAnd, opOr, opXor, opDiff, opShr, opBit, g_h0, hL, c1, hgt] at f1_0 f11_0 f12_0
    have e1 := f1_0
    have e11 := f11_0
    have e12 := f12_0
    have hwb : hwN xs (xs.take j) ≤ xs.length := hwN_le xs _ 0 (Nat.zero_le _)
    have gb' : h'.get h.next = .cells [.int .i64 n, b] true true 1 := by rw [hd.1.2 _ (by omega)]; exact g_h0
    have hX1 := hX0.keep hd.1
    by_cases hlt : j < xs.length
    · obtain ⟨u, h1, p1, a1, i1⟩ := asRunH_ok h' (.agg #[.int .i64 (n : Int), b]) n xs xs[j] (.mk hX1) g (List.getElem_mem hlt)
      have ht := hwN_take hlt
      have hrl : hrunL xs xs[j] ≤ xs.length := runF_len _ _ _ _
      have hlu := i1.ints.lenD
      have hlr : (toN (runF halfN xs[j] xs.length xs)).length = hrunL xs xs[j] := toN_length _
      rw [hlr] at hlu
      have hlu := hlu
      have hmx := l1MostN_ok h1 (hwN xs (xs.take j)) (hrunL xs xs[j])
      obtain ⟨o_z, i_z, c_z, cs_z, own_z, ex_z, es_z, q_z, b_z, g_z, l_z, r_z⟩ := hX1.open ((by simp; omega))
      have z_z : ∀ h2 : i_z < cs_z.length, cs_z[i_z] = _ := fun h2 => r_z 0 ((by simp; omega)) h2
      try simp (disch := first | omega | (simp; done) | fail) [wrap64c, if_pos, if_neg, opAnd, opOr, opXor, opDiff, opShr, opBit, g_h0, hL, c1, hgt, e1, e4, e11, e12, e13, gb', hlt, hlu, q_z, g_z, l_z, r_z, z_z]
      refine callG_c (by simp) (by simp) ?ha (p1) ?_
      (case ha => simp (disch := first | omega | (simp; done) | fail) [wrap64c, if_pos, if_neg, opAnd, opOr, opXor, opDiff, opShr, opBit, g_h0, hL, c1, hgt, e1, e4, e11, e12, e13, gb', hlt, hlu, q_z, g_z, l_z, r_z, z_z])
      try simp (disch := first | omega | (simp; done) | fail) [wrap64c, if_pos, if_neg, opAnd, opOr, opXor, opDiff, opShr, opBit, g_h0, hL, c1, hgt, e1, e4, e11, e12, e13, gb', hlt, hlu, q_z, g_z, l_z, r_z, z_z]
      refine callG_c (by simp) (by simp) ?ha (hmx) ?_
      (case ha => simp (disch := first | omega | (simp; done) | fail) [wrap64c, if_pos, if_neg, opAnd, opOr, opXor, opDiff, opShr, opBit, g_h0, hL, c1, hgt, e1, e4, e11, e12, e13, gb', hlt, hlu, q_z, g_z, l_z, r_z, z_z])
      try simp (disch := first | omega | (simp; done) | fail) [wrap64c, if_pos, if_neg, opAnd, opOr, opXor, opDiff, opShr, opBit, g_h0, hL, c1, hgt, e1, e4, e11, e12, e13, gb', hlt, hlu, q_z, g_z, l_z, r_z, z_z]
      refine loopK_next _ ?hm ?hf ⟨j + 1, rfl, (by rw [ht]; simp), (by simp (disch := first | omega | (simp; done) | fail) [wrap64c, if_pos, if_neg, opAnd, opOr, opXor, opDiff, opShr, opBit, g_h0, hL, c1, hgt, e1, e4, e11, e12, e13, gb', hlt, hlu, q_z, g_z, l_z, r_z, z_z] <;> omega), (by first | omega | assumption | (simp (disch := first | omega | (simp; done) | fail) [wrap64c, if_pos, if_neg, opAnd, opOr, opXor, opDiff, opShr, opBit, g_h0, hL, c1, hgt, e1, e4, e11, e12, e13, gb', hlt, hlu, q_z, g_z, l_z, r_z, z_z] <;> omega)), (hd.trans a1)⟩
      (case hm => first | omega | (simp; omega))
      (case hf => simp [FrameL, g_h0, hL, c1, hgt, e1, e4, e11, e12, e13, gb', hlt, hlu, q_z, g_z, l_z, r_z, z_z, f1_0, f11_0, f12_0])
    · have hft : xs.take j = xs := List.take_of_length_le (by omega)
      try simp (disch := first | omega | (simp; done) | fail) [wrap64c, if_pos, if_neg, opAnd, opOr, opXor, opDiff, opShr, opBit, g_h0, hL, c1, hgt, e1, e4, e11, e12, e13, gb', hlt]
      exact done_ret rfl (by simp [hwR, c1, K0.trans hd.1, hft])
theorem implHW_ok (h : Hp) (v : Value) (N : Int) (X : List Int) (hv : Space h v N X) (hl : X.length < 2 ^ 39) : CallOK Try.prog 74 #[v] h (.tuple #[.int .i64 (hwR N X), .bool (spB N X)]) h := by
  refine callY_P 29 _ [.tmp 2, .tmp 3] Try.func74 rfl rfl rfl (by first | rfl | simp) ?_
  obtain ⟨b, rfl, hX⟩ := hv
  refine WD_first ?_
  try simp (disch := first | omega | (simp; done) | fail) [wrap64c, if_pos, if_neg, opAnd, opOr, opXor, opDiff, opShr, opBit]
  refine stopK_heap fun h0 q_h0 => ?_
  refine stopK_go ?_
  have g_h0 : h0.get h.next = .cells [.int .i64 N, b] true true 1 := by simp [q_h0]
  have k_h0 : Adds h h0 := by rw [q_h0]; exact (by first | exact aK | exact kK)
  have n_h0 : h.next < h0.next := by simp [q_h0]; try omega
  have hX0 := hX.keep k_h0.1
  have K0 := k_h0.1
  try simp (disch := first | omega | (simp; done) | fail) [wrap64c, if_pos, if_neg, opAnd, opOr, opXor, opDiff, opShr, opBit, g_h0]
  refine callG_c (by simp) (by simp) ?ha (isSpace_ok h0 (.agg #[.int .i64 N, b]) N X (.mk hX0) (by omega)) ?_
  (case ha => simp (disch := first | omega | (simp; done) | fail) [wrap64c, if_pos, if_neg, opAnd, opOr, opXor, opDiff, opShr, opBit, g_h0])
  cases c1 : spB N X
  · try simp (disch := first | omega | (simp; done) | fail) [wrap64c, if_pos, if_neg, opAnd, opOr, opXor, opDiff, opShr, opBit, g_h0, c1]
    exact done_ret rfl (by simp [hwR, c1, K0])
  · obtain ⟨n, xs, hN, hXe, g⟩ := spB_true c1
    subst hN hXe
    have hl7 := g.len7
    have hgt := toN_get xs
    have hln := toN_length xs
    obtain ⟨_, h1, p1, o, p, q, b1, rfl, a1, hopq, hgo, hgp, hgq, hb1⟩ := newAsker_ok h0 (.agg #[.int .i64 (n : Int), b]) n (toN xs) (.mk hX0)
    have hX1 := hX0.keep a1.1
    have hL := hX1.lenD
    have gb1 : h1.get h.next = .cells [.int .i64 n, b] true true 1 := by rw [a1.1.2 _ (by omega)]; exact g_h0
    have hask : ∀ L : List Nat, halfN L < 0 ∨ ∃ i, halfN L = (i : Nat) ∧ i ∈ openN L := fun L => by
      by_cases he : openN L = []
      · left; rw [halfN_nil he]; omega
      · right; exact halfN_mem he
    try simp (disch := first | omega | (simp; done) | fail) [wrap64c, if_pos, if_neg, opAnd, opOr, opXor, opDiff, opShr, opBit, g_h0, c1, hgt, hL, gb1]
    refine callG_c (by simp) (by simp) ?ha (p1) ?_
    (case ha => simp (disch := first | omega | (simp; done) | fail) [wrap64c, if_pos, if_neg, opAnd, opOr, opXor, opDiff, opShr, opBit, g_h0, c1, hgt, hL, gb1])
    try simp (disch := first | omega | (simp; done) | fail) [wrap64c, if_pos, if_neg, opAnd, opOr, opXor, opDiff, opShr, opBit, g_h0, c1, hgt, hL, gb1]
    refine WD_loopC [4, 14, 15] (fun m tm h' => ∃ j, m = xs.length - j ∧ tm 5 = .int .i64 ((hwN xs (xs.take j) : Nat) : Int) ∧ tm 16 = .int .i64 (j : Int) ∧ (j ≤ xs.length) ∧ (Adds h1 h')) _ ⟨0, rfl, (by simp [hwN]), (by simp (disch := first | omega | (simp; done) | fail) [wrap64c, if_pos, if_neg, opAnd, opOr, opXor, opDiff, opShr, opBit, g_h0, c1, hgt, hL, gb1]), (by first | omega | assumption | (simp (disch := first | omega | (simp; done) | fail) [wrap64c, if_pos, if_neg, opAnd, opOr, opXor, opDiff, opShr, opBit, g_h0, c1, hgt, hL, gb1] <;> omega)), (adds_self _)⟩ ?_
    rintro m tm h' hFr ⟨j, rfl, e5, e16, hj, hd⟩
    simp only [FrameL] at hFr
    obtain ⟨f4_0, f14_0, f15_0, -⟩ := hFr
    try simp (disch := first | omega | (simp; done) | fail) [wrap64c, if_pos, if_neg, opAnd, opOr, opXor, opDiff, opShr, opBit, g_h0, c1, hgt, hL, gb1] at f4_0 f14_0 f15_0
    have e4 := f4_0
    have e14 := f14_0
    have e15 := f15_0
    have hwb : hwN xs (xs.take j) ≤ xs.length := hwN_le xs _ 0 (Nat.zero_le _)
    have hX2 := hX1.keep hd.1
    have nd := hd.1.1
    by_cases hlt : j < xs.length
    · obtain ⟨u, h2, hc2, W2, P2, hi2⟩ := run_ok halfN hask 167 (.pointer (some ⟨o, 0, none⟩)) (fun _ => False) (fun h' => h'.get o = .cells [.int .i64 (n : Int), b1, .map (some p), .map (some q)] true true 1 ∧ IntsF (fun x => x < h1.next) h' b1 (toN xs)) h1.next xs
        (fun h' h'' hp hb1' hb2 hs => ⟨by rw [hs o hopq.2.2.2]; exact hp.1, hp.2.same ⟨hb2, fun q hq _ => hs q hq⟩⟩)
        (fun h' y z hp hb hy hz => ⟨_, h', half_ok h' o n b1 (.map (some p)) (.map (some q)) true true 1 xs y z (by omega) hp.1 hp.2.ints g.lt7 (by omega) hy hz, rfl, Wr.refl _ _, hp⟩)
        (fun _ hf => hf.elim) (by simp) h' ⟨by rw [hd.1.2 _ (by omega)]; exact hgo, (hb1.sub fun x hx => by omega).keep hd.1⟩ nd xs[j] (g.lt7 _ (List.getElem_mem hlt)) (by omega)
      have A2 : Adds h' h2 := ⟨⟨W2.upd.1, fun o ho => W2.upd.2 o ho (fun hf => hf)⟩, W2.new⟩
      have ht := hwN_take hlt
      have hrl : hrunL xs xs[j] ≤ xs.length := runF_len _ _ _ _
      have hlu := hi2.ints.lenD
      have hlr : (toN (runF halfN xs[j] xs.length xs)).length = hrunL xs xs[j] := toN_length _
      rw [hlr] at hlu
      have hlu := hlu
      obtain ⟨w0, hw0⟩ : ∃ w, w = hwN xs (xs.take j) := ⟨_, rfl⟩
      obtain ⟨w1, hw1⟩ : ∃ w, w = hrunL xs xs[j] := ⟨_, rfl⟩
      rw [← hw0] at ht hwb e5
      rw [← hw1] at ht hrl hlu
      obtain ⟨o_z, i_z, c_z, cs_z, own_z, ex_z, es_z, q_z, b_z, g_z, l_z, r_z⟩ := hX2.open ((by simp; omega))
      have z_z : ∀ h2 : i_z < cs_z.length, cs_z[i_z] = _ := fun h2 => r_z 0 ((by simp; omega)) h2
      try simp (disch := first | omega | (simp; done) | fail) [wrap64c, if_pos, if_neg, opAnd, opOr, opXor, opDiff, opShr, opBit, g_h0, c1, hgt, hL, gb1, e4, e5, e14, e15, e16, hlt, hlu, q_z, g_z, l_z, r_z, z_z]
      refine callG_c (by simp) (by simp) ?ha (hc2) ?_
      (case ha => simp (disch := first | omega | (simp; done) | fail) [wrap64c, if_pos, if_neg, opAnd, opOr, opXor, opDiff, opShr, opBit, g_h0, c1, hgt, hL, gb1, e4, e5, e14, e15, e16, hlt, hlu, q_z, g_z, l_z, r_z, z_z])
      by_cases hc : w0 < w1
      · have hc' : (w0 : Int) < (w1 : Int) := by omega
        try simp (disch := first | omega | (simp; done) | fail) [wrap64c, if_pos, if_neg, opAnd, opOr, opXor, opDiff, opShr, opBit, g_h0, c1, hgt, hL, gb1, e4, e5, e14, e15, e16, hlt, hlu, q_z, g_z, l_z, r_z, z_z, hc']
        refine loopK_next _ ?hm ?hf ⟨j + 1, rfl, (by rw [ht]; simp; omega), (by simp (disch := first | omega | (simp; done) | fail) [wrap64c, if_pos, if_neg, opAnd, opOr, opXor, opDiff, opShr, opBit, g_h0, c1, hgt, hL, gb1, e4, e5, e14, e15, e16, hlt, hlu, q_z, g_z, l_z, r_z, z_z, hc'] <;> omega), (by first | omega | assumption | (simp (disch := first | omega | (simp; done) | fail) [wrap64c, if_pos, if_neg, opAnd, opOr, opXor, opDiff, opShr, opBit, g_h0, c1, hgt, hL, gb1, e4, e5, e14, e15, e16, hlt, hlu, q_z, g_z, l_z, r_z, z_z, hc'] <;> omega)), (hd.trans A2)⟩
        (case hm => first | omega | (simp; omega))
        (case hf => simp [FrameL, g_h0, c1, hgt, hL, gb1, e4, e5, e14, e15, e16, hlt, hlu, q_z, g_z, l_z, r_z, z_z, hc', f4_0, f14_0, f15_0])
      · have hc' : ¬ (w0 : Int) < (w1 : Int) := by omega
        try simp (disch := first | omega | (simp; done) | fail) [wrap64c, if_pos, if_neg, opAnd, opOr, opXor, opDiff, opShr, opBit, g_h0, c1, hgt, hL, gb1, e4, e5, e14, e15, e16, hlt, hlu, q_z, g_z, l_z, r_z, z_z, hc']
        refine loopK_next _ ?hm ?hf ⟨j + 1, rfl, (by rw [ht]; simp [e5]; omega), (by simp (disch := first | omega | (simp; done) | fail) [wrap64c, if_pos, if_neg, opAnd, opOr, opXor, opDiff, opShr, opBit, g_h0, c1, hgt, hL, gb1, e4, e5, e14, e15, e16, hlt, hlu, q_z, g_z, l_z, r_z, z_z, hc'] <;> omega), (by first | omega | assumption | (simp (disch := first | omega | (simp; done) | fail) [wrap64c, if_pos, if_neg, opAnd, opOr, opXor, opDiff, opShr, opBit, g_h0, c1, hgt, hL, gb1, e4, e5, e14, e15, e16, hlt, hlu, q_z, g_z, l_z, r_z, z_z, hc'] <;> omega)), (hd.trans A2)⟩
        (case hm => first | omega | (simp; omega))
        (case hf => simp [FrameL, g_h0, c1, hgt, hL, gb1, e4, e5, e14, e15, e16, hlt, hlu, q_z, g_z, l_z, r_z, z_z, hc', f4_0, f14_0, f15_0])
    · have hft : xs.take j = xs := List.take_of_length_le (by omega)
      try simp (disch := first | omega | (simp; done) | fail) [wrap64c, if_pos, if_neg, opAnd, opOr, opXor, opDiff, opShr, opBit, g_h0, c1, hgt, hL, gb1, e4, e5, e14, e15, e16, hlt]
      exact done_ret rfl (by simp [hwR, c1, (K0.trans a1.1).trans hd.1, hft])
end Go.Proofs.Ytnncipcldbopgaa
namespace Go.Proofs.Ytnncipcldbopgaa
set_option linter.unusedSimpArgs false
set_option linter.unusedVariables false
set_option maxHeartbeats 4000000
open Go Go.Eng
attribute [local irreducible] WD RunD PreD Runs CallOK
theorem wsS_most {n : Nat} {xs : List Nat} : ∀ (l : List Nat) (s : Nat × Int), (∀ x ∈ l, x ∈ xs) → (s.2 = -1 ∨ s.2 = (runLen xs s.1 : Int) ∧ s.1 ∈ xs) → l ≠ [] ∨ s.2 ≠ -1 →
    ∃ r : Nat × Int, l.foldl (fun s x => if (runLen xs x : Int) > s.2 then (x, (runLen xs x : Int)) else s) s = r ∧ r.2 = (runLen xs r.1 : Int) ∧ r.1 ∈ xs ∧ s.2 ≤ r.2 ∧ ∀ x ∈ l, (runLen xs x : Int) ≤ r.2
  | [], s, _, h1, h2 => by
    have h3 : s.2 ≠ -1 := h2.resolve_left fun h => h rfl
    rcases h1 with h | ⟨h, hm⟩
    · exact absurd h h3
    · exact ⟨s, rfl, h, hm, Int.le_refl _, fun x hx => by cases hx⟩
  | a :: l, s, hl, h1, h2 => by
    rw [List.foldl_cons]
    by_cases hc : (runLen xs a : Int) > s.2
    · rw [if_pos hc]
      obtain ⟨r, e1, e2, e3, e4, e5⟩ := wsS_most (n := n) l (a, (runLen xs a : Int)) (fun x hx => hl x (by simp [hx])) (.inr ⟨rfl, hl a (by simp)⟩) (.inr (show (runLen xs a : Int) ≠ -1 by omega))
      refine ⟨r, e1, e2, e3, ?_, fun x hx => ?_⟩
      · simp at e4; omega
      · rcases List.mem_cons.1 hx with rfl | hx
        · exact e4
        · exact e5 x hx
    · rw [if_neg hc]
      have hs : s.2 ≠ -1 := by omega
      obtain ⟨r, e1, e2, e3, e4, e5⟩ := wsS_most (n := n) l s (fun x hx => hl x (by simp [hx])) h1 (.inr hs)
      refine ⟨r, e1, e2, e3, e4, fun x hx => ?_⟩
      rcases List.mem_cons.1 hx with rfl | hx
      · omega
      · exact e5 x hx
theorem worst_set {n : Nat} {xs : List Nat} (g : SpGood n xs) : (wsS xs xs).1 ∈ xs ∧ runLen xs (wsS xs xs).1 = worstN xs := by
  obtain ⟨r, e1, e2, e3, e4, e5⟩ := wsS_most (n := n) xs (0, -1) (fun x hx => hx) (.inl rfl) (.inl (List.ne_nil_of_mem g.zero))
  have e : wsS xs xs = r := e1
  rw [e]
  refine ⟨e3, ?_⟩
  obtain ⟨x, hx, hm⟩ := run_most xs.length xs g.sl (Nat.le_refl _) (List.length_pos_of_mem g.zero)
  have h1 := e5 x hx
  have h2 : runLen xs x = worstN xs := hm
  have h3 : runLen xs r.1 ≤ worstN xs := run_worst r.1 xs.length xs
  omega
theorem hw_mem (xs : List Nat) : ∀ (l : List Nat) (m : Nat), ∀ x ∈ l, hrunL xs x ≤ l.foldl (fun m x => max m (hrunL xs x)) m
  | a :: l, m, x, hx => by
    rw [List.foldl_cons]
    rcases List.mem_cons.1 hx with rfl | hx
    · have : ∀ (l : List Nat) (m : Nat), m ≤ l.foldl (fun m x => max m (hrunL xs x)) m := by
        intro l
        induction l with
        | nil => intro m; exact Nat.le_refl _
        | cons b l ih => intro m; rw [List.foldl_cons]; exact Nat.le_trans (Nat.le_max_left _ _) (ih _)
      exact Nat.le_trans (Nat.le_max_right _ _) (this l _)
    · exact hw_mem xs l _ x hx
theorem half_worst {n : Nat} {xs : List Nat} (g : SpGood n xs) : worstN xs ≤ hwN xs xs := by
  obtain ⟨x, hx, hm⟩ := half_most xs.length xs g.sl (Nat.le_refl _) (List.length_pos_of_mem g.zero)
  exact Nat.le_trans hm (hw_mem xs xs 0 x hx)
theorem bound_worst {n : Nat} {xs : List Nat} (g : SpGood n xs) : bndN xs.length ≤ worstN xs := bndN_le (pow_worst xs g.sl)
theorem longest_worst {n : Nat} {xs : List Nat} (g : SpGood n xs) : lpN n xs xs ≤ worstN xs := lpN_le xs 0 (Nat.zero_le _) fun x hx => Nat.le_trans (fringes_nb g x) (nb_worst xs g.sl x hx)
def frSum (n : Nat) (xs l : List Nat) : Nat := (l.map fun x => pcN (innerN (fam xs) x) + pcN (outerN (fam xs) n x)).sum
theorem sum_mono {f g : Nat → Nat} : ∀ {l : List Nat}, (∀ x ∈ l, f x ≤ g x) → (l.map f).sum ≤ (l.map g).sum
  | [], _ => Nat.le_refl _
  | a :: l, h => by
    have := h a (by simp)
    have := sum_mono (l := l) fun x hx => h x (by simp [hx])
    simp; omega
theorem fringes_total {n : Nat} {xs : List Nat} (g : SpGood n xs) : frSum n xs xs ≤ totN xs := Nat.le_trans (sum_mono fun x _ => fringes_nb g x) (nb_tot xs g.sl)
theorem total_items {n : Nat} {xs : List Nat} (g : SpGood n xs) : totN xs ≤ n * xs.length := Nat.le_trans (tot_worst xs g.sl) (Nat.mul_le_mul (worst_items xs g.sl) (Nat.le_refl _))
theorem frSum_take {n : Nat} {xs l : List Nat} {j : Nat} (hj : j < l.length) : frSum n xs (l.take (j + 1)) = frSum n xs (l.take j) + (pcN (innerN (fam xs) l[j]) + pcN (outerN (fam xs) n l[j])) := by
  rw [List.take_succ_eq_append_getElem hj]
  unfold frSum
  rw [List.map_append, List.sum_append]
  simp
theorem frSum_le {n : Nat} {xs : List Nat} : ∀ l : List Nat, frSum n xs l ≤ 14 * l.length
  | [] => by simp [frSum]
  | a :: l => by
    have := frSum_le (n := n) (xs := xs) l
    have := pcN_le (innerN (fam xs) a)
    have := pcN_le (outerN (fam xs) n a)
    unfold frSum at *
    simp
    omega
end Go.Proofs.Ytnncipcldbopgaa
namespace Go.Proofs.Ytnncipcldbopgaa
set_option linter.unusedSimpArgs false
set_option linter.unusedVariables false
set_option maxHeartbeats 4000000
open Go Go.Eng
attribute [local irreducible] WD RunD PreD Runs CallOK
def frP (n : Nat) (xs : List Nat) (i o : Int) (x : Nat) : Bool := ((innerN (fam xs) x : Nat) : Int) == i && ((outerN (fam xs) n x : Nat) : Int) == o
noncomputable def frR (N : Int) (X : List Int) (i o : Int) : Option Nat := if (inB N X i && setB N.toNat o) = true then (natsOf X).find? (frP N.toNat (natsOf X) i o) else none
noncomputable def frV (N : Int) (X : List Int) (i o : Int) : Int := match frR N X i o with | some x => (x : Int) | none => 0
end Go.Proofs.Ytnncipcldbopgaa
namespace Go.Proofs.Ytnncipcldbopgaa
set_option linter.unusedSimpArgs false
set_option linter.unusedVariables false
set_option maxHeartbeats 4000000
open Go Go.Eng
attribute [local irreducible] WD RunD PreD Runs CallOK
def kle (a b : Nat) : Prop := pcN a < pcN b ∨ pcN a = pcN b ∧ a ≤ b
def lasI (a o x : Nat) : Nat := if ndiff a x = 0 ∧ (pcN x < pcN o ∨ pcN x = pcN o ∧ x < o) then x else o
def lasS (a o x : Nat) : Nat := if ndiff a x = 0 ∧ pcN x ≤ pcN o then x else o
structure LeastOf (a f : Nat) (l : List Nat) (o : Nat) : Prop where
  mem : o ∈ l ∨ o = f
  abv : ndiff a o = 0
  top : kle o f
  low : ∀ x ∈ l, ndiff a x = 0 → kle o x
def aboveF (a f : Nat) (l : List Nat) : Nat := l.foldl (lasI a) f
def aboveB (a f : Nat) (l : List Nat) : Nat := l.foldr (fun x o => lasS a o x) f
noncomputable def aboveR (N : Int) (X : List Int) (a : Int) : Int := if inB N X a = true then ((aboveF a.toNat (bit N.toNat - 1) (natsOf X) : Nat) : Int) else 0
end Go.Proofs.Ytnncipcldbopgaa
namespace Go.Proofs.Ytnncipcldbopgaa
set_option linter.unusedSimpArgs false
set_option linter.unusedVariables false
set_option maxHeartbeats 4000000
open Go Go.Eng
attribute [local irreducible] WD RunD PreD Runs CallOK
theorem jCount_ok (h : Hp) (a : Nat) (ha : a < 128) : CallOK Try.prog 25 #[.int .i64 (a : Int)] h (.int .i64 ((pcN a : Nat) : Int)) h := by
  refine callY_P 13 _ [.tmp 2] Try.func25 rfl rfl rfl (by first | rfl | simp) ?_
  try simp (disch := first | omega | (simp; done) | fail) [wrap64c, if_pos, if_neg, opAnd, opOr, opXor, opDiff, opShr, opBit]
  refine WD_loopC [] (fun m tm h' => ∃ r c k, m = 2 * r + 0 * c ∧ h = h' ∧ tm 0 = .int .i64 (r : Int) ∧ tm 3 = .int .i64 (c : Int) ∧ (r < 2 ^ k) ∧ (k ≤ 7 ∧ c ≤ 7) ∧ (c + pcF k r = pcN a)) _ ⟨a, 0, 7, rfl, rfl, (by simp (disch := first | omega | (simp; done) | fail) [wrap64c, if_pos, if_neg, opAnd, opOr, opXor, opDiff, opShr, opBit]), (by simp (disch := first | omega | (simp; done) | fail) [wrap64c, if_pos, if_neg, opAnd, opOr, opXor, opDiff, opShr, opBit]), (by first | omega | assumption | (simp (disch := first | omega | (simp; done) | fail) [wrap64c, if_pos, if_neg, opAnd, opOr, opXor, opDiff, opShr, opBit] <;> omega)), (by first | omega | assumption | (simp (disch := first | omega | (simp; done) | fail) [wrap64c, if_pos, if_neg, opAnd, opOr, opXor, opDiff, opShr, opBit] <;> omega)), (by simp [pcN])⟩ ?_
  rintro m tm h' hFr ⟨r, c, k, rfl, rfl, e0, e3, hr, hk, hc⟩
  clear hFr
  by_cases hlt : 0 < r
  · have hk0 : k ≠ 0 := by rintro rfl; simp at hr; omega
    obtain ⟨k, rfl⟩ : ∃ q, k = q + 1 := ⟨k - 1, by omega⟩
    have h2 : Int.tmod (r : Int) 2 = ((r % 2 : Nat) : Int) := by rw [Int.tmod_eq_emod_of_nonneg (by omega)]; omega
    obtain ⟨q, hq⟩ : ∃ q, q = r % 2 := ⟨_, rfl⟩
    rw [← hq] at h2
    have h2 := h2
    have hr7 : r < 128 := Nat.lt_of_lt_of_le hr (Nat.pow_le_pow_right (by omega) (show k + 1 ≤ 7 by omega))
    simp only [pcF] at hc
    have := pcF_le k (r / 2)
    obtain ⟨s, hs⟩ : ∃ s, s = r / 2 := ⟨_, rfl⟩
    rw [← hs] at hc
    have hd1 : (r : Int) / 2 = (s : Int) := by omega
    have hd2 : Int.tdiv (r : Int) 2 = (s : Int) := by rw [Int.tdiv_eq_ediv_of_nonneg (by omega)]; omega
    have hpc := pcN_le a
    try simp (disch := first | omega | (simp; done) | fail) [wrap64c, if_pos, if_neg, opAnd, opOr, opXor, opDiff, opShr, opBit, e0, e3, hlt, h2, hd1, hd2]
    refine loopK_next _ ?hm ?hf ⟨s, c + q, k, rfl, rfl, (by simp (disch := first | omega | (simp; done) | fail) [wrap64c, if_pos, if_neg, opAnd, opOr, opXor, opDiff, opShr, opBit, e0, e3, hlt, h2, hd1, hd2] <;> omega), (by simp (disch := first | omega | (simp; done) | fail) [wrap64c, if_pos, if_neg, opAnd, opOr, opXor, opDiff, opShr, opBit, e0, e3, hlt, h2, hd1, hd2] <;> omega), (by rw [Nat.pow_succ] at hr; omega), (by first | omega | assumption | (simp (disch := first | omega | (simp; done) | fail) [wrap64c, if_pos, if_neg, opAnd, opOr, opXor, opDiff, opShr, opBit, e0, e3, hlt, h2, hd1, hd2] <;> omega)), (by omega)⟩
    (case hm => first | omega | (simp; omega))
    (case hf => simp [FrameL, e0, e3, hlt, h2, hd1, hd2])
  · try simp (disch := first | omega | (simp; done) | fail) [wrap64c, if_pos, if_neg, opAnd, opOr, opXor, opDiff, opShr, opBit, e0, e3, hlt]
    have : r = 0 := by omega
    subst this
    rw [pcF_zero] at hc
    exact done_ret rfl (by simp [← hc])
end Go.Proofs.Ytnncipcldbopgaa
