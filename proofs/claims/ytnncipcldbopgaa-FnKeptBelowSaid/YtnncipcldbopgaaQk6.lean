/- Part 6 of the proof of keptBelow_holds: what it uses of the texts that lie in the notes, merged. -/
import Derived.Test.YtnncipcldbopgaaQk5
namespace Go.Proofs.Ytnncipcldbopgaa
set_option linter.unusedSimpArgs false
set_option linter.unusedVariables false
set_option maxHeartbeats 4000000
open Go Go.Eng
attribute [local irreducible] WD RunD PreD Runs CallOK
theorem put_prefix {ys : List Int} {i L : Nat} (hl : ys.length = L) (hi : i ≤ L) : putCells (ys.map (.int .i64)) i (List.replicate (L - i) (.int .i64 0)) = ((ys.take i ++ List.replicate (L - i) 0).map (.int .i64)) := by
  unfold putCells
  rw [List.drop_of_length_le (by simp; omega), List.append_nil, List.map_append, List.map_take, List.map_replicate]
theorem delete_ok (h : Hp) (o : Nat) (ex : Bool) (xs : List Int) (p : Int → Bool) (f : Nat) (fst cap : Array Value) (ho : o < h.next) (hg : h.get o = .cells (xs.map (.int .i64)) true ex 1) (hl : xs.length ≤ 1000) (hf : fnOK Try.prog f = true)
    (hp : ∀ h' x, h'.next = h.next → (∀ q, q < h.next → q ≠ o → h'.get q = h.get q) → x ∈ xs → CallOK Try.prog f (fst ++ #[.int .i64 x] ++ cap) h' (.bool (p x)) h') :
    ∃ v' h', CallOK Try.prog 179 #[.slice (some ⟨o, 0, none⟩) xs.length xs.length, .func (.func f) fst cap] h v' h' ∧ Wr (fun q => q = o) h h' ∧ h'.next = h.next ∧ Ints h' v' (xs.filter fun x => !p x) := by
  refine callY_L (args := [.slice (some ⟨o, 0, none⟩) xs.length xs.length, .func (.func f) fst cap]) 42 _ [.tmp 4] Try.func179 rfl rfl rfl ?_
  have hf1 := hf
  have hv : Ints h (.slice (some ⟨o, 0, none⟩) xs.length xs.length) xs := (IntsA.own (n := 0) (.inr ⟨o, ex, rfl, Nat.zero_le _, ho, hg⟩) (by omega)).ints
  have pi := indexFunc_ok h _ xs p f fst cap hv hf (fun x hx => hp h x rfl (fun _ _ _ => rfl) hx)
  try simp (disch := first | omega | (simp; done) | fail) [wrap64c, if_pos, if_neg, opAnd, opOr, opXor, opDiff, opShr, opBit, hf1]
  refine callG_c (by simp) (by simp) ?ha (pi) ?_
  (case ha => simp (disch := first | omega | (simp; done) | fail) [wrap64c, if_pos, if_neg, opAnd, opOr, opXor, opDiff, opShr, opBit, hf1])
  cases hfi : xs.findIdx? p with
  | none =>
    have e1 : idxI p xs = -1 := by unfold idxI; rw [hfi]
    have e2 : xs.filter (fun x => !p x) = xs := by
      rw [List.filter_eq_self]
      intro x hx
      rw [List.findIdx?_eq_none_iff] at hfi
      simp [hfi x hx]
    have e1' := e1
    try simp (disch := first | omega | (simp; done) | fail) [wrap64c, if_pos, if_neg, opAnd, opOr, opXor, opDiff, opShr, opBit, hf1, e1']
    rw [e2]
    exact done_ret rfl ⟨Wr.refl _ _, rfl, hv⟩
  | some i0 =>
    rw [List.findIdx?_eq_some_iff_getElem] at hfi
    obtain ⟨hi0, hp0, hn0⟩ := hfi
    have e1 : idxI p xs = (i0 : Int) := idxI_at (fun i h1 h2 => by simpa using hn0 i h2) hi0 hp0
    have hne : ¬ (i0 : Int) = -1 := by omega
    have e1' := e1
    have hk0 : (xs.take (i0 + 1)).filter (fun x => !p x) = xs.take i0 := by
      rw [List.take_succ_eq_append_getElem hi0, List.filter_append]
      have : (xs.take i0).filter (fun x => !p x) = xs.take i0 := by
        rw [List.filter_eq_self]
        intro x hx
        obtain ⟨k, hk, rfl⟩ := List.getElem_of_mem hx
        rw [List.length_take] at hk
        have := hn0 k (by omega)
        simp at this ⊢
        exact this
      rw [this]; simp [hp0]
    try simp (disch := first | omega | (simp; done) | fail) [wrap64c, if_pos, if_neg, opAnd, opOr, opXor, opDiff, opShr, opBit, hf1, hne, e1']
    refine WD_loopC [0, 1] (fun m tm h' => ∃ i j ys, m = xs.length - j + 0 * i + 0 * ys.length ∧ tm 5 = .int .i64 (i : Int) ∧ tm 6 = .int .i64 (j : Int) ∧ (i < j ∧ j ≤ xs.length) ∧ (ys.length = xs.length ∧ ys.take i = (xs.take j).filter (fun x => !p x) ∧ ys.drop j = xs.drop j) ∧ (Wr (fun q => q = o) h h') ∧ (h'.next = h.next) ∧ (∀ q, q < h.next → q ≠ o → h'.get q = h.get q) ∧ (h'.get o = .cells (ys.map (.int .i64)) true ex 1)) _ ⟨i0, i0 + 1, xs, rfl, (by simp (disch := first | omega | (simp; done) | fail) [wrap64c, if_pos, if_neg, opAnd, opOr, opXor, opDiff, opShr, opBit, hf1, hne, e1']), (by simp), (by first | omega | assumption | (simp (disch := first | omega | (simp; done) | fail) [wrap64c, if_pos, if_neg, opAnd, opOr, opXor, opDiff, opShr, opBit, hf1, hne, e1'] <;> omega)), ⟨rfl, by rw [hk0], rfl⟩, (Wr.refl _ _), rfl, (fun _ _ _ => rfl), hg⟩ ?_
    rintro m tm h' hFr ⟨i, j, ys, rfl, e5, e6, hj, hy, hW, hn, hs, hg'⟩
    simp only [FrameL] at hFr
    obtain ⟨f0_0, f1_0, -⟩ := hFr
    try simp (disch := first | omega | (simp; done) | fail) [wrap64c, if_pos, if_neg, opAnd, opOr, opXor, opDiff, opShr, opBit, hf1, hne, e1'] at f0_0 f1_0
    have e0 := f0_0
    have e1 := f1_0
    obtain ⟨y1, y2, y3⟩ := hy
    have y1' := y1
    by_cases hlt : j < xs.length
    · have hjy : j < ys.length := by omega
      have hyj : ys[j] = xs[j] := by
        have := congrArg (fun l => l[0]?) y3
        simp only [List.getElem?_drop, Nat.add_zero] at this
        rw [List.getElem?_eq_getElem hjy, List.getElem?_eq_getElem hlt] at this
        exact Option.some.inj this
      have hyj' : ∀ h1 : j < (ys.map (Value.int .i64)).length, (ys.map (Value.int .i64))[j] = .int .i64 xs[j] := fun h1 => by simp [hyj]
      have hyl : (ys.map (Value.int .i64)).length = xs.length := by simp [y1]
      have pc := hp h' xs[j] hn hs (List.getElem_mem hlt)
      have hij : i < xs.length := by omega
      have htk : (xs.take (j + 1)).filter (fun x => !p x) = (xs.take j).filter (fun x => !p x) ++ (if p xs[j] = true then [] else [xs[j]]) := by
        rw [List.take_succ_eq_append_getElem hlt, List.filter_append]
        cases hpx : p xs[j] <;> simp [hpx]
      have hdr : ys.drop (j + 1) = xs.drop (j + 1) := by
        have := congrArg (List.drop 1) y3
        rw [List.drop_drop, List.drop_drop] at this
        exact this
      try simp (disch := first | omega | (simp; done) | fail) [wrap64c, if_pos, if_neg, opAnd, opOr, opXor, opDiff, opShr, opBit, hf1, hne, e1', e0, e1, e5, e6, hg', y1', hlt, hyj', hyl, hij]
      refine callG_f (fst := fst) (cap := cap) (by simp) (by simp) ?hf ?hk ?ha (pc) ?_
      (case hf => simp (disch := first | omega | (simp; done) | fail) [wrap64c, if_pos, if_neg, opAnd, opOr, opXor, opDiff, opShr, opBit, hf1, hne, e1', e0, e1, e5, e6, hg', y1', hlt, hyj', hyl, hij]; try rfl)
      (case hk => simp (disch := first | omega | (simp; done) | fail) [wrap64c, if_pos, if_neg, opAnd, opOr, opXor, opDiff, opShr, opBit, hf1, hne, e1', e0, e1, e5, e6, hg', y1', hlt, hyj', hyl, hij])
      (case ha => simp (disch := first | omega | (simp; done) | fail) [wrap64c, if_pos, if_neg, opAnd, opOr, opXor, opDiff, opShr, opBit, hf1, hne, e1', e0, e1, e5, e6, hg', y1', hlt, hyj', hyl, hij])
      cases hc : p xs[j]
      · rw [hc] at htk
        have hps : putCells (ys.map (Value.int .i64)) i [.int .i64 xs[j]] = (ys.set i xs[j]).map (.int .i64) := by
          rw [putCells_one (by simp; omega), List.map_set]
        have hps' := hps
        try simp (disch := first | omega | (simp; done) | fail) [wrap64c, if_pos, if_neg, opAnd, opOr, opXor, opDiff, opShr, opBit, hf1, hne, e1', e0, e1, e5, e6, hg', y1', hlt, hyj', hyl, hij, hps']
        refine loopK_next _ ?hm ?hf ⟨i + 1, j + 1, ys.set i xs[j], rfl, (by simp), (by simp (disch := first | omega | (simp; done) | fail) [wrap64c, if_pos, if_neg, opAnd, opOr, opXor, opDiff, opShr, opBit, hf1, hne, e1', e0, e1, e5, e6, hg', y1', hlt, hyj', hyl, hij, hps'] <;> omega), (by first | omega | assumption | (simp (disch := first | omega | (simp; done) | fail) [wrap64c, if_pos, if_neg, opAnd, opOr, opXor, opDiff, opShr, opBit, hf1, hne, e1', e0, e1, e5, e6, hg', y1', hlt, hyj', hyl, hij, hps'] <;> omega)), ?c_hy, (hW.put (o := o) rfl fun _ => rfl), (by simpa using hn), (fun q h1 h2 => by simp [h2]; exact hs q h1 h2), (by simp)⟩
        (case hm => first | omega | (simp; omega))
        (case hf => simp [FrameL, hf1, hne, e1', e0, e1, e5, e6, hg', y1', hlt, hyj', hyl, hij, hps', f0_0, f1_0])
        case c_hy =>
          exact ⟨by simp [y1], by
            rw [List.take_succ_eq_append_getElem (by simp; omega), List.take_set_of_le (Nat.le_refl _), y2, List.getElem_set_self, htk]; simp, by
            rw [List.drop_set_of_lt (by omega)]; exact hdr⟩
      · rw [hc] at htk
        try simp (disch := first | omega | (simp; done) | fail) [wrap64c, if_pos, if_neg, opAnd, opOr, opXor, opDiff, opShr, opBit, hf1, hne, e1', e0, e1, e5, e6, hg', y1', hlt, hyj', hyl, hij]
        refine loopK_next _ ?hm ?hf ⟨i, j + 1, ys, rfl, (by simp [e5]), (by simp (disch := first | omega | (simp; done) | fail) [wrap64c, if_pos, if_neg, opAnd, opOr, opXor, opDiff, opShr, opBit, hf1, hne, e1', e0, e1, e5, e6, hg', y1', hlt, hyj', hyl, hij] <;> omega), (by first | omega | assumption | (simp (disch := first | omega | (simp; done) | fail) [wrap64c, if_pos, if_neg, opAnd, opOr, opXor, opDiff, opShr, opBit, hf1, hne, e1', e0, e1, e5, e6, hg', y1', hlt, hyj', hyl, hij] <;> omega)), ⟨y1, by rw [y2, htk]; simp, hdr⟩, (by first | omega | assumption | (simp (disch := first | omega | (simp; done) | fail) [wrap64c, if_pos, if_neg, opAnd, opOr, opXor, opDiff, opShr, opBit, hf1, hne, e1', e0, e1, e5, e6, hg', y1', hlt, hyj', hyl, hij] <;> omega)), (by first | omega | assumption | (simp (disch := first | omega | (simp; done) | fail) [wrap64c, if_pos, if_neg, opAnd, opOr, opXor, opDiff, opShr, opBit, hf1, hne, e1', e0, e1, e5, e6, hg', y1', hlt, hyj', hyl, hij] <;> omega)), (by first | omega | assumption | (simp (disch := first | omega | (simp; done) | fail) [wrap64c, if_pos, if_neg, opAnd, opOr, opXor, opDiff, opShr, opBit, hf1, hne, e1', e0, e1, e5, e6, hg', y1', hlt, hyj', hyl, hij] <;> omega)), (by first | omega | assumption | (simp (disch := first | omega | (simp; done) | fail) [wrap64c, if_pos, if_neg, opAnd, opOr, opXor, opDiff, opShr, opBit, hf1, hne, e1', e0, e1, e5, e6, hg', y1', hlt, hyj', hyl, hij] <;> omega))⟩
        (case hm => first | omega | (simp; omega))
        (case hf => simp [FrameL, hf1, hne, e1', e0, e1, e5, e6, hg', y1', hlt, hyj', hyl, hij, f0_0, f1_0])
    · have hje : j = xs.length := by omega
      subst hje
      rw [List.take_length] at y2
      have hil : i ≤ xs.length := by omega
      have hps := put_prefix y1 hil
      have hps' := hps
      have hyl : (ys.map (Value.int .i64)).length = xs.length := by simp [y1]
      have hli : 0 < xs.length - i := by omega
      try simp (disch := first | omega | (simp; done) | fail) [wrap64c, if_pos, if_neg, opAnd, opOr, opXor, opDiff, opShr, opBit, hf1, hne, e1', e0, e1, e5, e6, hg', y1', hlt, hil, hps', hyl]
      have hful : Ints (h'.put o (.cells (List.take i (List.map (Value.int IntKind.i64) ys) ++ List.replicate (xs.length - i) (Value.int IntKind.i64 0)) true ex 1)) (.slice (some ⟨o, 0, none⟩) xs.length xs.length) (ys.take i ++ List.replicate (xs.length - i) 0) := by
        have hlen : (ys.take i ++ List.replicate (xs.length - i) (0 : Int)).length = xs.length := by simp; omega
        have := (IntsA.own (n := 0) (h := h'.put o (.cells (List.take i (List.map (Value.int IntKind.i64) ys) ++ List.replicate (xs.length - i) (Value.int IntKind.i64 0)) true ex 1)) (v := .slice (some ⟨o, 0, none⟩) xs.length xs.length) (xs := ys.take i ++ List.replicate (xs.length - i) 0) (.inr ⟨o, ex, by rw [hlen], Nat.zero_le _, by simp; omega, by simp [List.map_take]⟩) (by omega)).ints
        exact this
      have hres := ints_take hful rfl (k := i) (by simp; omega)
      have htt : (ys.take i ++ List.replicate (xs.length - i) (0 : Int)).take i = xs.filter fun x => !p x := by
        rw [List.take_append_of_le_length (by simp; omega), List.take_take, Nat.min_self, y2]
      rw [htt] at hres
      exact done_ret rfl ⟨hW.put (o := o) rfl fun _ => rfl, by simpa using hn, hres⟩
theorem delete_nil (h : Hp) (f : Nat) (fst cap : Array Value) (hf : fnOK Try.prog f = true) : CallOK Try.prog 179 #[.slice none 0 0, .func (.func f) fst cap] h (.slice none 0 0) h := by
  refine callY_P 42 _ [.tmp 4] Try.func179 rfl rfl rfl (by first | rfl | simp) ?_
  have hf1 := hf
  try simp (disch := first | omega | (simp; done) | fail) [wrap64c, if_pos, if_neg, opAnd, opOr, opXor, opDiff, opShr, opBit, hf1]
  refine callG_c (by simp) (by simp) ?ha (indexFunc_ok h (.slice none 0 0) [] (fun _ => false) f fst cap ((IntsA.nil 0 h).own (by simp) |>.ints) hf (fun x hx => by cases hx)) ?_
  (case ha => simp (disch := first | omega | (simp; done) | fail) [wrap64c, if_pos, if_neg, opAnd, opOr, opXor, opDiff, opShr, opBit, hf1])
  have e1 : idxI (fun _ => false) [] = -1 := rfl
  try simp (disch := first | omega | (simp; done) | fail) [wrap64c, if_pos, if_neg, opAnd, opOr, opXor, opDiff, opShr, opBit, hf1, e1]
  exact done_ret rfl (by simp)
def cheapN (c : Nat → Nat → Int) (lim : Int) (M : Nat → Bool) (n s : Nat) : List Nat := (itemsN (outerN M n s)).filter fun i => decide (c s i ≤ lim)
def belowF (c : Nat → Nat → Int) (lim : Int) (M : Nat → Bool) (n : Nat) (ch : List Int) : Nat → Nat → Nat → Nat
  | 0, _, s => s
  | k + 1, t, s => if cheapN c lim M n s = [] then s else belowF c lim M n ch k (t + 1) (nOr s (bit (pickN ch t (cheapN c lim M n s))))
def belowN (c : Nat → Nat → Int) (lim : Int) (xs : List Nat) (n : Nat) (ch : List Int) : Nat := belowF c lim (fam xs) n ch n 0 0
noncomputable def blB (N : Int) (X : List Int) (L : List Job) (lim : Int) (ch : List Int) : Bool := gvB N X L && (decide (-10000 ≤ lim ∧ lim ≤ 10000) && chB ch 20)
noncomputable def blR (N : Int) (X : List Int) (L : List Job) (lim : Int) (ch : List Int) : Int := if blB N X L lim ch = true then ((belowN (costN L) lim (natsOf X) N.toNat ch : Nat) : Int) else 0
theorem cheap_mem {n : Nat} {xs : List Nat} (g : SpGood n xs) {c : Nat → Nat → Int} {lim : Int} {s i : Nat} (h : i ∈ cheapN c lim (fam xs) n s) : (i < n ∧ s.testBit i = false ∧ nOr s (bit i) ∈ xs) ∧ c s i ≤ lim := by
  obtain ⟨h1, h2⟩ := List.mem_filter.1 h
  exact ⟨g.learn h1, of_decide_eq_true h2⟩
theorem cheap_len (c : Nat → Nat → Int) (lim : Int) (M : Nat → Bool) (n s : Nat) : (cheapN c lim M n s).length ≤ 7 := Nat.le_trans (List.length_filter_le _ _) (items_len _)
theorem cheap_full {n : Nat} (n7 : n ≤ 7) (c : Nat → Nat → Int) (lim : Int) (M : Nat → Bool) : cheapN c lim M n (bit n - 1) = [] := by
  unfold cheapN
  have : itemsN (outerN M n (bit n - 1)) = [] := by
    rw [List.eq_nil_iff_forall_not_mem]
    intro i hi
    have := (mem_items.1 hi).2
    rw [outerN_bit, full_bit] at this
    by_cases h : i < n <;> simp [h] at this
  rw [this]; rfl
theorem belowClo_ok (h : Hp) (oT oS oM : Nat) (v : Value) (L : List Job) (s i : Nat) (lim : Int) (gT : h.get oT = .cells [v] true true 1) (gS : h.get oS = .cells [.int .i64 (s : Int)] true true 1) (gM : h.get oM = .cells [.int .i64 lim] true true 1) (hv : Jobs h v L) (g : JobsOK L) (hs : s < 128) (hi : i < L.length) :
    CallOK Try.prog 181 #[.int .i64 (i : Int), .pointer (some ⟨oT, 0, none⟩), .pointer (some ⟨oS, 0, none⟩), .pointer (some ⟨oM, 0, none⟩)] h (.bool (!decide (costN L s i ≤ lim))) h := by
  refine callY_P 12 _ [.tmp 5] Try.func181 rfl rfl rfl (by first | rfl | simp) ?_
  have gT' := gT
  try simp (disch := first | omega | (simp; done) | fail) [wrap64c, if_pos, if_neg, opAnd, opOr, opXor, opDiff, opShr, opBit, gT', gS, gM]
  refine WD_drawC 5 rfl (by kernel_rfl) ?_
  try simp (disch := first | omega | (simp; done) | fail) [wrap64c, if_pos, if_neg, opAnd, opOr, opXor, opDiff, opShr, opBit, gT', gS, gM]
  refine callP_c (by simp) (by simp) ?ha (cost_ok h v L s i hv g hs hi) ?hadd ?_
  (case ha => simp (disch := first | omega | (simp; done) | fail) [wrap64c, if_pos, if_neg, opAnd, opOr, opXor, opDiff, opShr, opBit, gT', gS, gM])
  (case hadd => first | assumption | exact adds_self _ | (simp; done))
  by_cases hc : costN L s i ≤ lim
  · have hc' : ¬ lim < costN L s i := by omega
    try simp (disch := first | omega | (simp; done) | fail) [wrap64c, if_pos, if_neg, opAnd, opOr, opXor, opDiff, opShr, opBit, gT', gS, gM, hc']
    exact done_ret rfl (by simp [hc])
  · have hc' : lim < costN L s i := by omega
    try simp (disch := first | omega | (simp; done) | fail) [wrap64c, if_pos, if_neg, opAnd, opOr, opXor, opDiff, opShr, opBit, gT', gS, gM, hc']
    exact done_ret rfl (by simp [hc])
theorem implBelow_ok (h : Hp) (v w y : Value) (N : Int) (X : List Int) (L : List Job) (lim : Int) (ch : List Int) (hv : Space h v N X) (hw : Jobs h w L) (hy : Ints h y ch) (hl : X.length < 2 ^ 40) :
    ∃ v' h', CallOK Try.prog 82 #[v, w, .int .i64 lim, y] h v' h' ∧ Adds h h' ∧ v' = .tuple #[.int .i64 (blR N X L lim ch), .bool (blB N X L lim ch)] := by
  refine callY_L (args := [v, w, .int .i64 lim, y]) 49 _ [.tmp 8, .tmp 9] Try.func82 rfl rfl rfl ?_
  obtain ⟨b, rfl, hX⟩ := hv
  have ntw := hw.nt
  have csw := hw.cs
  have nty := hy.nt
  have csy := hy.cs
  refine WD_first ?_
  try simp (disch := first | omega | (simp; done) | fail) [wrap64c, if_pos, if_neg, opAnd, opOr, opXor, opDiff, opShr, opBit, ntw, csw, nty, csy]
  refine stopK_heap fun h0 q_h0 => ?_
  refine stopK_go ?_
  have k0 : Adds h h0 := by rw [q_h0]; exact (by first | exact aK | exact kK)
  have n0 : h0.next = h.next + 3 := by simp [q_h0]
  have gs0 : h0.get h.next = .cells [.int .i64 N, b] true true 1 := by simp [q_h0]
  have gw0 : h0.get (h.next + 1) = .cells [w] true true 1 := by simp [q_h0]
  have gm0 : h0.get (h.next + 2) = .cells [.int .i64 lim] true true 1 := by simp [q_h0]
  have hX0 := hX.keep k0.1
  have hw0 := hw.keep k0.1
  have hy0 := hy.keep k0.1
  have pt : CallOK Try.prog 177 #[.agg #[.int .i64 N, b], w] h0 (.bool (gvB N X L)) h0 := together_ok h0 (.agg #[.int .i64 N, b]) w N X L (.mk hX0) hw0 hl
  try simp (disch := first | omega | (simp; done) | fail) [wrap64c, if_pos, if_neg, opAnd, opOr, opXor, opDiff, opShr, opBit, ntw, csw, nty, csy, gs0, gw0, gm0]
  refine callG_c (by simp) (by simp) ?ha (pt) ?_
  (case ha => simp (disch := first | omega | (simp; done) | fail) [wrap64c, if_pos, if_neg, opAnd, opOr, opXor, opDiff, opShr, opBit, ntw, csw, nty, csy, gs0, gw0, gm0])
  cases c1 : gvB N X L
  · try simp (disch := first | omega | (simp; done) | fail) [wrap64c, if_pos, if_neg, opAnd, opOr, opXor, opDiff, opShr, opBit, ntw, csw, nty, csy, gs0, gw0, gm0, c1]
    exact done_ret rfl ⟨k0, by simp [blR, blB, c1]⟩
  · try simp (disch := first | omega | (simp; done) | fail) [wrap64c, if_pos, if_neg, opAnd, opOr, opXor, opDiff, opShr, opBit, ntw, csw, nty, csy, gs0, gw0, gm0, c1]
    refine callG_c (by simp) (by simp) ?ha (within_ok h0 lim (-10000) 10000) ?_
    (case ha => simp (disch := first | omega | (simp; done) | fail) [wrap64c, if_pos, if_neg, opAnd, opOr, opXor, opDiff, opShr, opBit, ntw, csw, nty, csy, gs0, gw0, gm0, c1])
    by_cases c2 : -10000 ≤ lim ∧ lim ≤ 10000
    case neg =>
      have c2' : decide (-10000 ≤ lim ∧ lim ≤ 10000) = false := decide_eq_false c2
      try simp (disch := first | omega | (simp; done) | fail) [wrap64c, if_pos, if_neg, opAnd, opOr, opXor, opDiff, opShr, opBit, ntw, csw, nty, csy, gs0, gw0, gm0, c1, c2']
      have r1 : blB N X L lim ch = false := by simp only [blB, c1, c2', Bool.false_and, Bool.and_false]
      have r2 : blR N X L lim ch = 0 := by unfold blR; rw [if_neg (by rw [r1]; simp)]
      exact done_ret rfl ⟨k0, by simp [r1, r2]⟩
    have c2' : decide (-10000 ≤ lim ∧ lim ≤ 10000) = true := decide_eq_true c2
    try simp (disch := first | omega | (simp; done) | fail) [wrap64c, if_pos, if_neg, opAnd, opOr, opXor, opDiff, opShr, opBit, ntw, csw, nty, csy, gs0, gw0, gm0, c1, c2']
    refine callG_c (by simp) (by simp) ?ha (areChoices_ok h0 y ch 20 hy0) ?_
    (case ha => simp (disch := first | omega | (simp; done) | fail) [wrap64c, if_pos, if_neg, opAnd, opOr, opXor, opDiff, opShr, opBit, ntw, csw, nty, csy, gs0, gw0, gm0, c1, c2'])
    cases c3 : chB ch 20
    · try simp (disch := first | omega | (simp; done) | fail) [wrap64c, if_pos, if_neg, opAnd, opOr, opXor, opDiff, opShr, opBit, ntw, csw, nty, csy, gs0, gw0, gm0, c1, c2', c3]
      have r1 : blB N X L lim ch = false := by simp only [blB, c1, c2', c3, Bool.and_false]
      have r2 : blR N X L lim ch = 0 := by unfold blR; rw [if_neg (by rw [r1]; simp)]
      exact done_ret rfl ⟨k0, by simp [r1, r2]⟩
    · obtain ⟨hc20, hcp⟩ := chB_pos c3
      obtain ⟨n, xs, hN, hXe, g, gj, hLn⟩ := gvB_true c1
      subst hN hXe
      have n7 := g.n7
      have n1 := g.n1
      have hb7 := bit7 n7
      have hBB : blB (n : Int) (toN xs) L lim ch = true := by simp only [blB, c1, c2', c3, Bool.and_self]
      obtain ⟨_, h1, p1, fo, rfl, a1, f1, f2, f3⟩ := family_ok h0 (.agg #[.int .i64 n, b]) n xs (.mk hX0) g.lt7 (by simpa using hl)
      have gw1 : h1.get (h.next + 1) = .cells [w] true true 1 := by rw [a1.1.2 _ (by omega)]; exact gw0
      have gm1 : h1.get (h.next + 2) = .cells [.int .i64 lim] true true 1 := by rw [a1.1.2 _ (by omega)]; exact gm0
      try simp (disch := first | omega | (simp; done) | fail) [wrap64c, if_pos, if_neg, opAnd, opOr, opXor, opDiff, opShr, opBit, ntw, csw, nty, csy, gs0, gw0, gm0, c1, c2', c3]
      refine callG_c (by simp) (by simp) ?ha (p1) ?_
      (case ha => simp (disch := first | omega | (simp; done) | fail) [wrap64c, if_pos, if_neg, opAnd, opOr, opXor, opDiff, opShr, opBit, ntw, csw, nty, csy, gs0, gw0, gm0, c1, c2', c3])
      try simp (disch := first | omega | (simp; done) | fail) [wrap64c, if_pos, if_neg, opAnd, opOr, opXor, opDiff, opShr, opBit, ntw, csw, nty, csy, gs0, gw0, gm0, c1, c2', c3, putCells]
      first | refine WY_heap fun h2 q_h2 => ?_ | refine callG_heap fun h2 q_h2 => ?_ | refine callP_heap fun h2 q_h2 => ?_ | refine callS_heap fun h2 q_h2 => ?_ | refine RY_heap fun h2 q_h2 => ?_ | refine PY_heap fun h2 q_h2 => ?_ | refine SY_heap fun h2 q_h2 => ?_ | refine doneY_heap fun h2 q_h2 => ?_ | refine loopK_heap fun h2 q_h2 => ?_ | refine thenY_heap fun h2 q_h2 => ?_ | refine thenM_heap fun h2 q_h2 => ?_
      have k2 : Adds h1 h2 := by rw [q_h2]; exact (by first | exact aK | exact kK)
      have m2 : h2.next = h1.next + 1 := by simp [q_h2]
      have n01 := a1.1.1
      have A2 := (k0.trans a1).trans k2
      have go2 : h2.get h1.next = .cells [.int .i64 0] true true 1 := by simp [q_h2]
      try simp (disch := first | omega | (simp; done) | fail) [wrap64c, if_pos, if_neg, opAnd, opOr, opXor, opDiff, opShr, opBit, ntw, csw, nty, csy, gs0, gw0, gm0, c1, c2', c3]
      refine WD_loopC [3, 5, 6, 10, 11] (fun m tm h' => ∃ t s, m = n - t + 0 * s ∧ tm 12 = .int .i64 (t : Int) ∧ (t ≤ n) ∧ ((s ∈ xs ∧ pcN s = t) ∧ belowN (costN L) lim xs n ch = belowF (costN L) lim (fam xs) n ch (n - t) t s) ∧ (Wr (fun q => q = h1.next) h2 h') ∧ (h'.get h1.next = .cells [.int .i64 (s : Int)] true true 1)) _ ⟨0, 0, rfl, (by simp (disch := first | omega | (simp; done) | fail) [wrap64c, if_pos, if_neg, opAnd, opOr, opXor, opDiff, opShr, opBit, ntw, csw, nty, csy, gs0, gw0, gm0, c1, c2', c3]), (by first | omega | assumption | (simp (disch := first | omega | (simp; done) | fail) [wrap64c, if_pos, if_neg, opAnd, opOr, opXor, opDiff, opShr, opBit, ntw, csw, nty, csy, gs0, gw0, gm0, c1, c2', c3] <;> omega)), ⟨⟨g.zero, rfl⟩, rfl⟩, (Wr.refl _ _), go2⟩ ?_
      rintro m tm h' hFr ⟨t, s, rfl, e12, ht, hs, hW, hg⟩
      simp only [FrameL] at hFr
      obtain ⟨f3_0, f5_0, f6_0, f10_0, f11_0, -⟩ := hFr
      try simp (disch := first | omega | (simp; done) | fail) [wrap64c, if_pos, if_neg, opAnd, opOr, opXor, opDiff, opShr, opBit, ntw, csw, nty, csy, gs0, gw0, gm0, c1, c2', c3] at f3_0 f5_0 f6_0 f10_0 f11_0
      have e3 := f3_0
      have e5 := f5_0
      have e6 := f6_0
      have e10 := f10_0
      have e11 := f11_0
      rename Hp => hq
      obtain ⟨⟨hsx, hst⟩, hsb⟩ := hs
      have hs128 := g.lt7 s hsx
      have nu := hW.upd.1
      have old : ∀ q, q < h2.next → q ≠ h1.next → hq.get q = h2.get q := fun q h1 h2 => hW.upd.2 q h1 h2
      have gF : hq.get fo = .cells (famC (fam xs)) true true 1 := by rw [old _ (by omega) (by omega), k2.1.2 _ (by omega)]; exact f3
      have gW : hq.get (h.next + 1) = .cells [w] true true 1 := by rw [old _ (by omega) (by omega), k2.1.2 _ (by omega)]; exact gw1
      have gM : hq.get (h.next + 2) = .cells [.int .i64 lim] true true 1 := by rw [old _ (by omega) (by omega), k2.1.2 _ (by omega)]; exact gm1
      have KB : Keeps h hq := ⟨by have := A2.1.1; omega, fun q hq' => by rw [old q (by have := A2.1.1; omega) (by have := k0.1.1; omega)]; exact A2.1.2 q hq'⟩
      have hwq := hw.keep KB
      have hyq := hy.keep KB
      have hout := outerN_lt (fam xs) n s
      obtain ⟨u, h3, hc3, a3, i3, j3⟩ := items_ok hq (outerN (fam xs) n s) (by omega)
      have po := imOuter_ok hq fo (fam xs) true true 1 s (by omega) gF hs128
      rw [g.outer7 s] at po
      have n3 := a3.1.1
      have gS3 : h3.get h1.next = .cells [.int .i64 (s : Int)] true true 1 := by rw [a3.1.2 _ (by omega)]; exact hg
      try simp (disch := first | omega | (simp; done) | fail) [wrap64c, if_pos, if_neg, opAnd, opOr, opXor, opDiff, opShr, opBit, ntw, csw, nty, csy, gs0, gw0, gm0, c1, c2', c3, e3, e5, e6, e10, e11, e12, hg, gS3]
      refine callG_c (by simp) (by simp) ?ha (po) ?_
      (case ha => simp (disch := first | omega | (simp; done) | fail) [wrap64c, if_pos, if_neg, opAnd, opOr, opXor, opDiff, opShr, opBit, ntw, csw, nty, csy, gs0, gw0, gm0, c1, c2', c3, e3, e5, e6, e10, e11, e12, hg, gS3])
      try simp (disch := first | omega | (simp; done) | fail) [wrap64c, if_pos, if_neg, opAnd, opOr, opXor, opDiff, opShr, opBit, ntw, csw, nty, csy, gs0, gw0, gm0, c1, c2', c3, e3, e5, e6, e10, e11, e12, hg, gS3]
      refine callG_c (by simp) (by simp) ?ha (hc3) ?_
      (case ha => simp (disch := first | omega | (simp; done) | fail) [wrap64c, if_pos, if_neg, opAnd, opOr, opXor, opDiff, opShr, opBit, ntw, csw, nty, csy, gs0, gw0, gm0, c1, c2', c3, e3, e5, e6, e10, e11, e12, hg, gS3])
      obtain ⟨I, hI⟩ : ∃ I, I = itemsN (outerN (fam xs) n s) := ⟨_, rfl⟩
      rw [← hI] at i3 j3
      have hIl : I.length ≤ 7 := by rw [hI]; exact items_len _
      have hcf : cheapN (costN L) lim (fam xs) n s = I.filter fun i => decide (costN L s i ≤ lim) := by unfold cheapN; rw [← hI]
      have hff : (toN I).filter (fun x => !(!decide (costN L s x.toNat ≤ lim))) = toN (cheapN (costN L) lim (fam xs) n s) := by
        rw [hcf]; unfold toN; rw [List.filter_map]
        congr 1
        apply List.filter_congr
        intro x _
        simp
      obtain ⟨vd, h4, hc4, W4, n4, i4⟩ : ∃ vd h4, CallOK Try.prog 179 #[u, .func (.func 181) #[] #[.pointer (some ⟨h.next + 1, 0, none⟩), .pointer (some ⟨h1.next, 0, none⟩), .pointer (some ⟨h.next + 2, 0, none⟩)]] h3 vd h4 ∧ Wr (fun q => hq.next ≤ q) h3 h4 ∧ h4.next = h3.next ∧ Ints h4 vd (toN (cheapN (costN L) lim (fam xs) n s)) := by
        rcases j3 with ⟨e1, rfl⟩ | ⟨o, ex, rfl, o1, o2, o3⟩
        · have hIe : I = [] := by
            cases I with
            | nil => rfl
            | cons a l => simp [toN] at e1
          refine ⟨_, h3, delete_nil h3 181 #[] #[.pointer (some ⟨h.next + 1, 0, none⟩), .pointer (some ⟨h1.next, 0, none⟩), .pointer (some ⟨h.next + 2, 0, none⟩)] (by simp), .of_adds (adds_self _), rfl, ?_⟩
          rw [hcf, hIe]
          exact (IntsA.nil 0 h3).own (by simp) |>.ints
        · obtain ⟨vd, h4, q1, q2, q3, q4⟩ := delete_ok h3 o ex (toN I) (fun x => !decide (costN L s x.toNat ≤ lim)) 181 #[] #[.pointer (some ⟨h.next + 1, 0, none⟩), .pointer (some ⟨h1.next, 0, none⟩), .pointer (some ⟨h.next + 2, 0, none⟩)] o2 o3 (by simp; omega) (by simp) (fun h' x hn' hs' hx => by
            obtain ⟨i, rfl, hi⟩ := mem_toN' hx
            have hin : i < n := by rw [hI] at hi; exact (g.learn hi).1
            have K3 : Keeps h h' := ⟨by have := KB.1; omega, fun q hq' => by have := KB.1; rw [hs' q (by omega) (by omega), a3.1.2 q (by omega)]; exact KB.2 q hq'⟩
            have := belowClo_ok h' (h.next + 1) h1.next (h.next + 2) w L s i lim (by rw [hs' _ (by omega) (by omega), a3.1.2 _ (by omega)]; exact gW) (by rw [hs' _ (by omega) (by omega)]; exact gS3) (by rw [hs' _ (by omega) (by omega), a3.1.2 _ (by omega)]; exact gM) (hw.keep K3) gj hs128 (by omega)
            rw [Int.toNat_natCast]
            exact this)
          rw [hff] at q4
          exact ⟨vd, h4, q1, q2.mono fun q _ e => by subst e; exact o1, q3, q4⟩
      try simp (disch := first | omega | (simp; done) | fail) [wrap64c, if_pos, if_neg, opAnd, opOr, opXor, opDiff, opShr, opBit, ntw, csw, nty, csy, gs0, gw0, gm0, c1, c2', c3, e3, e5, e6, e10, e11, e12, hg, gS3]
      refine callG_c (by simp) (by simp) ?ha (hc4) ?_
      (case ha => simp (disch := first | omega | (simp; done) | fail) [wrap64c, if_pos, if_neg, opAnd, opOr, opXor, opDiff, opShr, opBit, ntw, csw, nty, csy, gs0, gw0, gm0, c1, c2', c3, e3, e5, e6, e10, e11, e12, hg, gS3])
      have gS4 : h4.get h1.next = .cells [.int .i64 (s : Int)] true true 1 := by rw [W4.upd.2 _ (by omega) (by omega)]; exact gS3
      have hld := i4.lenD
      have hlt := toN_length (cheapN (costN L) lim (fam xs) n s)
      have ntd := i4.nt
      obtain ⟨C, hC⟩ : ∃ C, C = cheapN (costN L) lim (fam xs) n s := ⟨_, rfl⟩
      rw [← hC] at i4 hld hlt
      have AA : Adds h h4 := (A2.wr hW fun o ho => by omega).trans a3 |>.wr W4 fun o ho => by have := KB.1; omega
      by_cases hCe : C = []
      · have hz : ((C.length : Nat) : Int) == 0 := by simp [hCe]
        have hz' : (((C.length : Nat) : Int) == 0) = true := hz
        have hres : belowN (costN L) lim xs n ch = s := by
          rw [hsb]
          cases hk : n - t with
          | zero => rfl
          | succ k => rw [belowF, if_pos (by rw [← hC]; exact hCe)]
        try simp (disch := first | omega | (simp; done) | fail) [wrap64c, if_pos, if_neg, opAnd, opOr, opXor, opDiff, opShr, opBit, ntw, csw, nty, csy, gs0, gw0, gm0, c1, c2', c3, e3, e5, e6, e10, e11, e12, hg, gS3, gS4, hld, hlt, ntd, hz']
        exact done_ret rfl ⟨AA, by simp [blR, hBB, hres]⟩
      · have hcl : C.length ≤ 7 := by rw [hC]; exact cheap_len _ _ _ _ _
        have hz' : (((C.length : Nat) : Int) == 0) = false := beq_false_of_ne (by have := List.length_pos_iff.2 hCe; omega)
        obtain ⟨q, hqe⟩ : ∃ q, q = pickN ch t C := ⟨_, rfl⟩
        have hqm : q ∈ C := hqe ▸ pickN_mem hCe
        rw [hC] at hqm
        obtain ⟨⟨q1, q2, q3⟩, q4⟩ := cheap_mem g hqm
        have hbq := bit_lt7 (i := q) (by omega)
        have hor := g.lt7 _ q3
        have hpq := pcN_or hs128 (by omega) q2
        have htn : t < n := by
          have := pcN_lt n7 (g.lt _ q3)
          omega
        have K4 : Keeps h h4 := AA.1
        have pch := chosen_ok h4 vd y C ch t i4 (hy.keep K4) hCe (by omega) hcp
        rw [← hqe] at pch
        try simp (disch := first | omega | (simp; done) | fail) [wrap64c, if_pos, if_neg, opAnd, opOr, opXor, opDiff, opShr, opBit, ntw, csw, nty, csy, gs0, gw0, gm0, c1, c2', c3, e3, e5, e6, e10, e11, e12, hg, gS3, gS4, hld, hlt, ntd, hz']
        refine WD_drawC 6 rfl (by kernel_rfl) ?_
        try simp (disch := first | omega | (simp; done) | fail) [wrap64c, if_pos, if_neg, opAnd, opOr, opXor, opDiff, opShr, opBit, ntw, csw, nty, csy, gs0, gw0, gm0, c1, c2', c3, e3, e5, e6, e10, e11, e12, hg, gS3, gS4, hld, hlt, ntd, hz']
        refine callP_c (by simp) (by simp) ?ha (pch) ?hadd ?_
        (case ha => simp (disch := first | omega | (simp; done) | fail) [wrap64c, if_pos, if_neg, opAnd, opOr, opXor, opDiff, opShr, opBit, ntw, csw, nty, csy, gs0, gw0, gm0, c1, c2', c3, e3, e5, e6, e10, e11, e12, hg, gS3, gS4, hld, hlt, ntd, hz'])
        (case hadd => first | assumption | exact adds_self _ | (simp; done))
        try simp (disch := first | omega | (simp; done) | fail) [wrap64c, if_pos, if_neg, opAnd, opOr, opXor, opDiff, opShr, opBit, ntw, csw, nty, csy, gs0, gw0, gm0, c1, c2', c3, e3, e5, e6, e10, e11, e12, hg, gS3, gS4, hld, hlt, ntd, hz', putCells]
        refine loopK_next _ ?hm ?hf ⟨t + 1, nOr s (bit q), rfl, (by simp (disch := first | omega | (simp; done) | fail) [wrap64c, if_pos, if_neg, opAnd, opOr, opXor, opDiff, opShr, opBit, ntw, csw, nty, csy, gs0, gw0, gm0, c1, c2', c3, e3, e5, e6, e10, e11, e12, hg, gS3, gS4, hld, hlt, ntd, hz'] <;> omega), (by first | omega | assumption | (simp (disch := first | omega | (simp; done) | fail) [wrap64c, if_pos, if_neg, opAnd, opOr, opXor, opDiff, opShr, opBit, ntw, csw, nty, csy, gs0, gw0, gm0, c1, c2', c3, e3, e5, e6, e10, e11, e12, hg, gS3, gS4, hld, hlt, ntd, hz'] <;> omega)), ?c_hs, ((wr_trans2 (hW.trans (.of_adds a3)) W4 (fun o ho e => by omega)).put rfl fun _ => rfl), (by simp)⟩
        (case hm => first | omega | (simp; omega))
        (case hf => simp [FrameL, ntw, csw, nty, csy, gs0, gw0, gm0, c1, c2', c3, e3, e5, e6, e10, e11, e12, hg, gS3, gS4, hld, hlt, ntd, hz', f3_0, f5_0, f6_0, f10_0, f11_0])
        case c_hs =>
          exact ⟨⟨q3, by omega⟩, by
            rw [hsb, show n - t = (n - (t + 1)) + 1 by omega, belowF, if_neg (by rw [← hC]; exact hCe), ← hC, ← hqe]⟩
end Go.Proofs.Ytnncipcldbopgaa
namespace Go.Proofs.Ytnncipcldbopgaa
set_option linter.unusedSimpArgs false
set_option linter.unusedVariables false
open Go Go.Eng
theorem pick_in {ch : List Int} {t : Nat} {l : List Nat} (hl : l ≠ []) : pickN ch t l ∈ l := pickN_mem hl
theorem below_keep {n : Nat} {xs : List Nat} (g : SpGood n xs) (c : Nat → Nat → Int) (lim : Int) (ch : List Int) : ∀ (k t s : Nat), s ∈ xs → pcN s + k = n → belowF c lim (fam xs) n ch k t s ∈ xs ∧ cheapN c lim (fam xs) n (belowF c lim (fam xs) n ch k t s) = []
  | 0, t, s, hs, hk => by
    have hf : s = bit n - 1 := (pcN_lt g.n7 (g.lt s hs)).2 (by omega)
    subst hf
    exact ⟨hs, cheap_full g.n7 c lim _⟩
  | k + 1, t, s, hs, hk => by
    rw [belowF]
    by_cases h0 : cheapN c lim (fam xs) n s = []
    · rw [if_pos h0]; exact ⟨hs, h0⟩
    · rw [if_neg h0]
      obtain ⟨⟨a1, a2, a3⟩, _⟩ := cheap_mem g (pick_in (ch := ch) (t := t) h0)
      exact below_keep g c lim ch k (t + 1) _ a3 (by rw [pcN_or (by have := g.lt s hs; have := bit7 g.n7; omega) (by have := g.n7; omega) a2]; omega)
theorem below_in {n : Nat} {xs : List Nat} (g : SpGood n xs) (c : Nat → Nat → Int) (lim : Int) (ch : List Int) : belowN c lim xs n ch ∈ xs ∧ cheapN c lim (fam xs) n (belowN c lim xs n ch) = [] :=
  below_keep g c lim ch n 0 0 g.zero (by rw [show pcN 0 = 0 by decide]; omega)
theorem below_sub {n : Nat} {xs : List Nat} (g : SpGood n xs) {c : Nat → Nat → Int} (hc : ∀ T G i, (∀ k, T.testBit k = true → G.testBit k = true) → i < n → c G i ≤ c T i) {lim : Int} {G : Nat} (hG : G ∈ xs) (h0 : cheapN c lim (fam xs) n G = []) (ch : List Int) :
    ∀ (k t T : Nat), T ∈ xs → (∀ b, T.testBit b = true → G.testBit b = true) → ∀ b, (belowF c lim (fam xs) n ch k t T).testBit b = true → G.testBit b = true
  | 0, t, T, hT, hs => hs
  | k + 1, t, T, hT, hs => by
    rw [belowF]
    by_cases h1 : cheapN c lim (fam xs) n T = []
    · rw [if_pos h1]; exact hs
    · rw [if_neg h1]
      obtain ⟨⟨a1, a2, a3⟩, a4⟩ := cheap_mem g (pick_in (ch := ch) (t := t) h1)
      generalize pickN ch t (cheapN c lim (fam xs) n T) = i at *
      refine below_sub g hc hG h0 ch k _ _ a3 fun b hb => ?_
      rw [nOr_bit, Bool.or_eq_true] at hb
      rcases hb with hb | hb
      · exact hs b hb
      · rw [bit_bit] at hb
        have hib : i = b := by simpa using hb
        subst hib
        cases hGi : G.testBit i
        · exfalso
          have : i ∈ cheapN c lim (fam xs) n G := by
            refine List.mem_filter.2 ⟨mem_items.2 ⟨by have := g.n7; omega, ?_⟩, decide_eq_true (Int.le_trans (hc T G i hs a1) a4)⟩
            rw [outerN_bit, decide_eq_true a1, hGi]
            have hu := g.uni G hG _ a3
            have e : nOr G (nOr T (bit i)) = nOr G (bit i) := by
              apply Nat.eq_of_testBit_eq
              intro b
              rw [nOr_bit, nOr_bit, nOr_bit]
              have := hs b
              cases h1 : T.testBit b <;> simp_all
            rw [e] at hu
            simpa [fam] using hu
          rw [h0] at this
          cases this
        · rfl
theorem below_same {n : Nat} {xs : List Nat} (g : SpGood n xs) {c : Nat → Nat → Int} (hc : ∀ T G i, (∀ k, T.testBit k = true → G.testBit k = true) → i < n → c G i ≤ c T i) (lim : Int) (ch ch' : List Int) : belowN c lim xs n ch = belowN c lim xs n ch' := by
  obtain ⟨a1, a2⟩ := below_in g c lim ch
  obtain ⟨b1, b2⟩ := below_in g c lim ch'
  have s1 := below_sub g hc b1 b2 ch n 0 0 g.zero (fun b hb => by simp at hb)
  have s2 := below_sub g hc a1 a2 ch' n 0 0 g.zero (fun b hb => by simp at hb)
  apply Nat.eq_of_testBit_eq
  intro b
  rw [Bool.eq_iff_iff]
  exact ⟨s1 b, s2 b⟩
theorem crit_least {n : Nat} {xs : List Nat} {L : List Job} (g : SpGood n xs) (gj : JobsOK L) (hn : L.length = n) : ∃ S i, S = setW ((greedN (costN L) xs n).take (critJ (costN L) (greedN (costN L) xs n))) 0 ∧ i = (greedN (costN L) xs n).getD (critJ (costN L) (greedN (costN L) xs n)) 0 ∧
    S ∈ xs ∧ S ≠ bit n - 1 ∧ i ∈ itemsN (outerN (fam xs) n S) ∧ costN L S i = topN (costN L) (greedN (costN L) xs n) ∧ ∀ j ∈ itemsN (outerN (fam xs) n S), topN (costN L) (greedN (costN L) xs n) ≤ costN L S j := by
  have hn1 := g.n1
  obtain ⟨_, h1⟩ := greedN_costs g gj hn
  obtain ⟨q1, q2, _⟩ := critJ_ok (costN L) (greedN (costN L) xs n) h1 (by rw [greedN, greed_len]; omega)
  generalize hj : critJ (costN L) (greedN (costN L) xs n) = j at q1 q2
  have hjn : j < n := by rw [greedN, greed_len] at q1; exact q1
  have eS : setW ((greedN (costN L) xs n).take j) 0 = (greedS (costN L) (fam xs) n j).2 := by
    show setW ((greedS (costN L) (fam xs) n n).1.take j) 0 = _
    rw [greed_take (costN L) (fam xs) n j n (by omega), greed_set]
  have eI : (greedN (costN L) xs n).getD j 0 = nextG (costN L) (fam xs) n (greedS (costN L) (fam xs) n j).2 := greed_at (costN L) (fam xs) n j hjn
  obtain ⟨m1, m2⟩ := nextG_mem (costN L) (greed_ne g (costN L) hjn)
  have hi := greed_inv g (costN L) j (by omega)
  rw [costW, eS, eI] at q2
  refine ⟨_, _, rfl, rfl, ?_⟩
  rw [eS, eI]
  exact ⟨hi.1, fun e => by have := (greed_end g (costN L) (k := j) (by omega)).1 e; omega, m2, q2, fun k hk => by have := (leastO_min _ _ _ _ m1).1 k hk; omega⟩
theorem below_full {n : Nat} {xs : List Nat} {L : List Job} (g : SpGood n xs) (gj : JobsOK L) (hn : L.length = n) (lim : Int) (hl : -10000 ≤ lim) (ch : List Int) : belowN (costN L) lim xs n ch = bit n - 1 ↔ topN (costN L) (greedN (costN L) xs n) ≤ lim := by
  have hc : ∀ T G i, (∀ k, T.testBit k = true → G.testBit k = true) → i < n → costN L G i ≤ costN L T i := fun T G i h hi => costN_mono gj T G i h (by omega)
  obtain ⟨b1, b2⟩ := below_in g (costN L) lim ch
  constructor
  · intro hf
    rcases Int.lt_or_le lim (topN (costN L) (greedN (costN L) xs n)) with hlt | hle
    case inr => exact hle
    exfalso
    obtain ⟨S, i, _, _, s1, s2, s3, s4, s5⟩ := crit_least g gj hn
    have h0 : cheapN (costN L) lim (fam xs) n S = [] := by
      rw [cheapN, List.filter_eq_nil_iff]
      intro a ha
      have := s5 a ha
      simp; omega
    have hs := below_sub g hc s1 h0 ch n 0 0 g.zero (fun b hb => by simp at hb)
    apply s2
    apply Nat.eq_of_testBit_eq
    intro b
    rw [full_bit]
    by_cases hbn : b < n
    · rw [decide_eq_true hbn]
      refine hs b ?_
      show (belowN (costN L) lim xs n ch).testBit b = true
      rw [hf, full_bit, decide_eq_true hbn]
    · rw [decide_eq_false hbn]
      exact Nat.testBit_lt_two_pow (Nat.lt_of_lt_of_le (show S < 2 ^ n from g.lt S s1) (Nat.pow_le_pow_right (by omega) (by omega)))
  · intro ht
    rcases Decidable.em (belowN (costN L) lim xs n ch = bit n - 1) with h | h
    · exact h
    exfalso
    have hok := ((topW_le (costN L) lim (greedN (costN L) xs n) 0 (-10000)).1 (by exact ht)).2
    obtain ⟨i, hi1, hi2⟩ := chain_meets g hc b1 h n 0 _ g.zero (by rw [show pcN 0 = 0 by decide]; omega) (fun b hb => by simp at hb) (greed_ch g (costN L)) hok
    have : i ∈ cheapN (costN L) lim (fam xs) n (belowN (costN L) lim xs n ch) := List.mem_filter.2 ⟨hi1, decide_eq_true hi2⟩
    rw [b2] at this
    cases this
theorem ch_set {n : Nat} {xs : List Nat} (g : SpGood n xs) : ∀ (k s : Nat) (w : List Nat), w ∈ chF (fam xs) n k s → (setF (fam xs) n (toN w) s).isSome = true ∧ w.length = k
  | 0, s, w, hw => by
    simp [chF] at hw
    subst hw
    exact ⟨rfl, rfl⟩
  | k + 1, s, w, hw => by
    rw [chF, List.mem_flatMap] at hw
    obtain ⟨j, hj, hw⟩ := hw
    obtain ⟨t, ht, rfl⟩ := List.mem_map.1 hw
    obtain ⟨a1, a2, a3⟩ := g.learn hj
    obtain ⟨b1, b2⟩ := ch_set g k _ t ht
    refine ⟨?_, by simp [b2]⟩
    have e : stepW (fam xs) n s ((j : Nat) : Int) = some (nOr s (bit j)) := by
      rw [stepW, if_pos ⟨by omega, by omega, by simpa using a2, by simpa [fam] using a3⟩]
      simp
    show (match stepW (fam xs) n s ((j : Nat) : Int) with | some t' => setF (fam xs) n (toN t) t' | none => none).isSome = true
    rw [e]
    exact b1
theorem greed_full {n : Nat} {xs : List Nat} (g : SpGood n xs) (hs : spB (n : Int) (toN xs) = true) (c : Nat → Nat → Int) : fullB (n : Int) (toN xs) (toN (greedN c xs n)) = true := by
  obtain ⟨a, b⟩ := ch_set g n 0 _ (greed_ch g c)
  rw [fullB, wordB, hs, natsOf_toN]
  simp [a, toN_length, b]
end Go.Proofs.Ytnncipcldbopgaa
namespace Go.Proofs.Ytnncipcldbopgaa
set_option linter.unusedSimpArgs false
set_option linter.unusedVariables false
set_option maxHeartbeats 4000000
open Go Go.Eng
attribute [local irreducible] WD RunD PreD Runs CallOK
theorem implKB_ok (h : Hp) (v w : Value) (N : Int) (X : List Int) (L : List Job) (lim : Int) (hv : Space h v N X) (hw : Jobs h w L) (hl : X.length < 2 ^ 40) :
    ∃ v' h', CallOK Try.prog 84 #[v, w, .int .i64 lim] h v' h' ∧ Adds h h' ∧ v' = .tuple #[.int .i64 (blR N X L lim []), .bool (blB N X L lim [])] := by
  refine callY_L (args := [v, w, .int .i64 lim]) 14 _ [.tmp 6, .tmp 7] Try.func84 rfl rfl rfl ?_
  obtain ⟨b, rfl, hX⟩ := hv
  have ntw := hw.nt
  have csw := hw.cs
  refine WD_first ?_
  try simp (disch := first | omega | (simp; done) | fail) [wrap64c, if_pos, if_neg, opAnd, opOr, opXor, opDiff, opShr, opBit, ntw, csw]
  refine stopK_heap fun h0 q_h0 => ?_
  refine stopK_go ?_
  have g_h0 : h0.get h.next = .cells [.int .i64 N, b] true true 1 := by simp [q_h0]
  have k_h0 : Adds h h0 := by rw [q_h0]; exact (by first | exact aK | exact kK)
  have n_h0 : h.next < h0.next := by simp [q_h0]; try omega
  obtain ⟨_, h1, p1, a1, rfl⟩ := implBelow_ok h0 (.agg #[.int .i64 N, b]) w (.slice none 0 0) N X L lim [] (.mk (hX.keep k_h0.1)) (hw.keep k_h0.1) ((IntsA.nil 0 h0).own (by simp) |>.ints) hl
  try simp (disch := first | omega | (simp; done) | fail) [wrap64c, if_pos, if_neg, opAnd, opOr, opXor, opDiff, opShr, opBit, ntw, csw, g_h0]
  refine callG_c (by simp) (by simp) ?ha (p1) ?_
  (case ha => simp (disch := first | omega | (simp; done) | fail) [wrap64c, if_pos, if_neg, opAnd, opOr, opXor, opDiff, opShr, opBit, ntw, csw, g_h0])
  try simp (disch := first | omega | (simp; done) | fail) [wrap64c, if_pos, if_neg, opAnd, opOr, opXor, opDiff, opShr, opBit, ntw, csw, g_h0]
  exact done_ret rfl ⟨k_h0.trans a1, by simp⟩
theorem cheap_part {n : Nat} (hn : n ≤ 7) (c : Nat → Nat → Int) (lim : Int) (M : Nat → Bool) (s : Nat) : cheapN c lim M n s = (itemsK (outerN M n s) n).filter fun i => decide (c s i ≤ lim) := by
  unfold cheapN
  rw [itemsK_eq (outerN_lt M n s) hn]
theorem grCheap_ok (h : Hp) (v w : Value) (n : Nat) (xs : List Nat) (L : List Job) (s : Nat) (lim : Int) (hv : Space h v n (toN xs)) (hw : Jobs h w L) (g : SpGood n xs) (gj : JobsOK L) (hn : L.length = n) (hs : s < 128) :
    ∃ v' h', CallOK Try.prog 242 #[v, w, .int .i64 (s : Int), .int .i64 lim] h v' h' ∧ Adds h h' ∧ Ints h' v' (toN (cheapN (costN L) lim (fam xs) n s)) := by
  refine callY_L (args := [v, w, .int .i64 (s : Int), .int .i64 lim]) 37 _ [.tmp 8] Try.func242 rfl rfl rfl ?_
  obtain ⟨b, rfl, hX⟩ := hv
  have ntw := hw.nt
  have csw := hw.cs
  refine WD_first ?_
  try simp (disch := first | omega | (simp; done) | fail) [wrap64c, if_pos, if_neg, opAnd, opOr, opXor, opDiff, opShr, opBit, ntw, csw]
  refine stopK_heap fun h0 q_h0 => ?_
  refine stopK_go ?_
  have g_h0 : h0.get h.next = .cells [.int .i64 n, b] true true 1 := by simp [q_h0]
  have k_h0 : Adds h h0 := by rw [q_h0]; exact (by first | exact aK | exact kK)
  have n_h0 : h.next < h0.next := by simp [q_h0]; try omega
  have hX0 := hX.keep k_h0.1
  have hw0 := hw.keep k_h0.1
  have n7 := g.n7
  have hb7 := bit7 n7
  have hlx := g.len7
  have hLw := hw0.lenD
  have hout := outerN_lt (fam xs) n s
  have hLn : (L.length : Int) = (n : Int) := by omega
  try simp (disch := first | omega | (simp; done) | fail) [wrap64c, if_pos, if_neg, opAnd, opOr, opXor, opDiff, opShr, opBit, ntw, csw, g_h0, hLw, hLn]
  refine callG_c (by simp) (by simp) ?ha (spOuter_ok h0 (.agg #[.int .i64 n, b]) n xs s (.mk hX0) n7 (by simp; omega) g.srt hs) ?_
  (case ha => simp (disch := first | omega | (simp; done) | fail) [wrap64c, if_pos, if_neg, opAnd, opOr, opXor, opDiff, opShr, opBit, ntw, csw, g_h0, hLw, hLn])
  try simp (disch := first | omega | (simp; done) | fail) [wrap64c, if_pos, if_neg, opAnd, opOr, opXor, opDiff, opShr, opBit, ntw, csw, g_h0, hLw, hLn]
  refine WD_loopC [1, 2, 3, 10, 16] (fun m tm h' => ∃ j u, m = n - j ∧ tm 9 = u ∧ tm 17 = .int .i64 (j : Int) ∧ (j ≤ n) ∧ (Adds h0 h') ∧ (IntsA h0.next h' u (toN ((itemsK (outerN (fam xs) n s) j).filter fun i => decide (costN L s i ≤ lim))))) _ ⟨0, .slice none 0 0, rfl, (by simp (disch := first | omega | (simp; done) | fail) [wrap64c, if_pos, if_neg, opAnd, opOr, opXor, opDiff, opShr, opBit, ntw, csw, g_h0, hLw, hLn]), (by simp (disch := first | omega | (simp; done) | fail) [wrap64c, if_pos, if_neg, opAnd, opOr, opXor, opDiff, opShr, opBit, ntw, csw, g_h0, hLw, hLn]), (by first | omega | assumption | (simp (disch := first | omega | (simp; done) | fail) [wrap64c, if_pos, if_neg, opAnd, opOr, opXor, opDiff, opShr, opBit, ntw, csw, g_h0, hLw, hLn] <;> omega)), (adds_self _), (by simp [itemsK, toN]; exact IntsA.nil _ _)⟩ ?_
  rintro m tm h' hFr ⟨j, u, rfl, e9, e17, hj, ha, hu⟩
  simp only [FrameL] at hFr
  obtain ⟨f1_0, f2_0, f3_0, f10_0, f16_0, -⟩ := hFr
  try simp (disch := first | omega | (simp; done) | fail) [wrap64c, if_pos, if_neg, opAnd, opOr, opXor, opDiff, opShr, opBit, ntw, csw, g_h0, hLw, hLn] at f1_0 f2_0 f3_0 f10_0 f16_0
  have e1 := f1_0
  have e2 := f2_0
  have e3 := f3_0
  have e10 := f10_0
  have e16 := f16_0
  rename Hp => hA
  have hn2 := ha.1.1
  by_cases hlt : j < n
  · have hjL : j < L.length := by omega
    have hks := itemsK_succ (outerN (fam xs) n s) j
    have hkl := itemsK_len (outerN (fam xs) n s) j
    have hfl := List.length_filter_le (fun i => decide (costN L s i ≤ lim)) (itemsK (outerN (fam xs) n s) j)
    try simp (disch := first | omega | (simp; done) | fail) [wrap64c, if_pos, if_neg, opAnd, opOr, opXor, opDiff, opShr, opBit, ntw, csw, g_h0, hLw, hLn, e1, e2, e3, e9, e10, e16, e17, hlt, hjL]
    refine callG_c (by simp) (by simp) ?ha (spIn_ok hA (outerN (fam xs) n s) j (by omega) (by omega)) ?_
    (case ha => simp (disch := first | omega | (simp; done) | fail) [wrap64c, if_pos, if_neg, opAnd, opOr, opXor, opDiff, opShr, opBit, ntw, csw, g_h0, hLw, hLn, e1, e2, e3, e9, e10, e16, e17, hlt, hjL])
    cases hb : (outerN (fam xs) n s).testBit j
    · rw [hb, if_neg (by simp)] at hks
      try simp (disch := first | omega | (simp; done) | fail) [wrap64c, if_pos, if_neg, opAnd, opOr, opXor, opDiff, opShr, opBit, ntw, csw, g_h0, hLw, hLn, e1, e2, e3, e9, e10, e16, e17, hlt, hjL, hb]
      refine loopK_next _ ?hm ?hf ⟨j + 1, u, rfl, (by simp (disch := first | omega | (simp; done) | fail) [wrap64c, if_pos, if_neg, opAnd, opOr, opXor, opDiff, opShr, opBit, ntw, csw, g_h0, hLw, hLn, e1, e2, e3, e9, e10, e16, e17, hlt, hjL, hb] <;> omega), (by simp (disch := first | omega | (simp; done) | fail) [wrap64c, if_pos, if_neg, opAnd, opOr, opXor, opDiff, opShr, opBit, ntw, csw, g_h0, hLw, hLn, e1, e2, e3, e9, e10, e16, e17, hlt, hjL, hb] <;> omega), (by first | omega | assumption | (simp (disch := first | omega | (simp; done) | fail) [wrap64c, if_pos, if_neg, opAnd, opOr, opXor, opDiff, opShr, opBit, ntw, csw, g_h0, hLw, hLn, e1, e2, e3, e9, e10, e16, e17, hlt, hjL, hb] <;> omega)), (by first | omega | assumption | (simp (disch := first | omega | (simp; done) | fail) [wrap64c, if_pos, if_neg, opAnd, opOr, opXor, opDiff, opShr, opBit, ntw, csw, g_h0, hLw, hLn, e1, e2, e3, e9, e10, e16, e17, hlt, hjL, hb] <;> omega)), (by rw [hks]; exact hu)⟩
      (case hm => first | omega | (simp; omega))
      (case hf => simp [FrameL, ntw, csw, g_h0, hLw, hLn, e1, e2, e3, e9, e10, e16, e17, hlt, hjL, hb, f1_0, f2_0, f3_0, f10_0, f16_0])
    · rw [hb, if_pos rfl] at hks
      try simp (disch := first | omega | (simp; done) | fail) [wrap64c, if_pos, if_neg, opAnd, opOr, opXor, opDiff, opShr, opBit, ntw, csw, g_h0, hLw, hLn, e1, e2, e3, e9, e10, e16, e17, hlt, hjL, hb]
      refine callG_c (by simp) (by simp) ?ha (grCost_ok hA w L s j (hw0.keep ha.1) gj hs hjL) ?_
      (case ha => simp (disch := first | omega | (simp; done) | fail) [wrap64c, if_pos, if_neg, opAnd, opOr, opXor, opDiff, opShr, opBit, ntw, csw, g_h0, hLw, hLn, e1, e2, e3, e9, e10, e16, e17, hlt, hjL, hb])
      by_cases hc : costN L s j ≤ lim
      · try simp (disch := first | omega | (simp; done) | fail) [wrap64c, if_pos, if_neg, opAnd, opOr, opXor, opDiff, opShr, opBit, ntw, csw, g_h0, hLw, hLn, e1, e2, e3, e9, e10, e16, e17, hlt, hjL, hb, hc]
        obtain ⟨u2, h2, hap, hu2, ha2, hn3, hs2⟩ := appI hu (j : Int) (by simp; omega) (by omega) ha (Nat.le_refl _)
        try simp (disch := first | omega | (simp; done) | fail) [wrap64c, if_pos, if_neg, opAnd, opOr, opXor, opDiff, opShr, opBit, ntw, csw, g_h0, hLw, hLn, e1, e2, e3, e9, e10, e16, e17, hlt, hjL, hb, hc, hap]
        refine loopK_next _ ?hm ?hf ⟨j + 1, u2, rfl, (by simp (disch := first | omega | (simp; done) | fail) [wrap64c, if_pos, if_neg, opAnd, opOr, opXor, opDiff, opShr, opBit, ntw, csw, g_h0, hLw, hLn, e1, e2, e3, e9, e10, e16, e17, hlt, hjL, hb, hc] <;> omega), (by simp (disch := first | omega | (simp; done) | fail) [wrap64c, if_pos, if_neg, opAnd, opOr, opXor, opDiff, opShr, opBit, ntw, csw, g_h0, hLw, hLn, e1, e2, e3, e9, e10, e16, e17, hlt, hjL, hb, hc] <;> omega), (by first | omega | assumption | (simp (disch := first | omega | (simp; done) | fail) [wrap64c, if_pos, if_neg, opAnd, opOr, opXor, opDiff, opShr, opBit, ntw, csw, g_h0, hLw, hLn, e1, e2, e3, e9, e10, e16, e17, hlt, hjL, hb, hc] <;> omega)), (by first | omega | assumption | (simp (disch := first | omega | (simp; done) | fail) [wrap64c, if_pos, if_neg, opAnd, opOr, opXor, opDiff, opShr, opBit, ntw, csw, g_h0, hLw, hLn, e1, e2, e3, e9, e10, e16, e17, hlt, hjL, hb, hc] <;> omega)), (by rw [hks, List.filter_append]; simp only [List.filter_cons, hc, decide_true, if_true, List.filter_nil]; rw [toN_snoc]; exact hu2)⟩
        (case hm => first | omega | (simp; omega))
        (case hf => simp [FrameL, ntw, csw, g_h0, hLw, hLn, e1, e2, e3, e9, e10, e16, e17, hlt, hjL, hb, hc, f1_0, f2_0, f3_0, f10_0, f16_0])
      · try simp (disch := first | omega | (simp; done) | fail) [wrap64c, if_pos, if_neg, opAnd, opOr, opXor, opDiff, opShr, opBit, ntw, csw, g_h0, hLw, hLn, e1, e2, e3, e9, e10, e16, e17, hlt, hjL, hb, hc]
        refine loopK_next _ ?hm ?hf ⟨j + 1, u, rfl, (by simp (disch := first | omega | (simp; done) | fail) [wrap64c, if_pos, if_neg, opAnd, opOr, opXor, opDiff, opShr, opBit, ntw, csw, g_h0, hLw, hLn, e1, e2, e3, e9, e10, e16, e17, hlt, hjL, hb, hc] <;> omega), (by simp (disch := first | omega | (simp; done) | fail) [wrap64c, if_pos, if_neg, opAnd, opOr, opXor, opDiff, opShr, opBit, ntw, csw, g_h0, hLw, hLn, e1, e2, e3, e9, e10, e16, e17, hlt, hjL, hb, hc] <;> omega), (by first | omega | assumption | (simp (disch := first | omega | (simp; done) | fail) [wrap64c, if_pos, if_neg, opAnd, opOr, opXor, opDiff, opShr, opBit, ntw, csw, g_h0, hLw, hLn, e1, e2, e3, e9, e10, e16, e17, hlt, hjL, hb, hc] <;> omega)), (by first | omega | assumption | (simp (disch := first | omega | (simp; done) | fail) [wrap64c, if_pos, if_neg, opAnd, opOr, opXor, opDiff, opShr, opBit, ntw, csw, g_h0, hLw, hLn, e1, e2, e3, e9, e10, e16, e17, hlt, hjL, hb, hc] <;> omega)), (by rw [hks, List.filter_append]; simp only [List.filter_cons, hc, decide_false, Bool.false_eq_true, if_false, List.filter_nil, List.append_nil]; exact hu)⟩
        (case hm => first | omega | (simp; omega))
        (case hf => simp [FrameL, ntw, csw, g_h0, hLw, hLn, e1, e2, e3, e9, e10, e16, e17, hlt, hjL, hb, hc, f1_0, f2_0, f3_0, f10_0, f16_0])
  · have hjn : j = n := by omega
    rw [hjn, ← cheap_part n7] at hu
    have hcl := cheap_len (costN L) lim (fam xs) n s
    try simp (disch := first | omega | (simp; done) | fail) [wrap64c, if_pos, if_neg, opAnd, opOr, opXor, opDiff, opShr, opBit, ntw, csw, g_h0, hLw, hLn, e1, e2, e3, e9, e10, e16, e17, hlt]
    exact done_ret rfl ⟨k_h0.trans ha, (hu.own (by simp; omega)).ints⟩
theorem grRun_ok (h : Hp) (v w y : Value) (n : Nat) (xs : List Nat) (L : List Job) (lim : Int) (ch : List Int) (hv : Space h v n (toN xs)) (hw : Jobs h w L) (hy : Ints h y ch) (g : SpGood n xs) (gj : JobsOK L) (hn : L.length = n) (hp : ∀ x ∈ ch, 0 ≤ x) :
    ∃ v' h', CallOK Try.prog 186 #[v, w, .int .i64 lim, y] h v' h' ∧ Adds h h' ∧ v' = .int .i64 ((belowN (costN L) lim xs n ch : Nat) : Int) := by
  refine callY_L (args := [v, w, .int .i64 lim, y]) 46 _ [.tmp 8] Try.func186 rfl rfl rfl ?_
  obtain ⟨b, rfl, hX⟩ := hv
  have ntw := hw.nt
  have csw := hw.cs
  have nty := hy.nt
  have csy := hy.cs
  refine WD_first ?_
  try simp (disch := first | omega | (simp; done) | fail) [wrap64c, if_pos, if_neg, opAnd, opOr, opXor, opDiff, opShr, opBit, ntw, csw, nty, csy]
  refine stopK_heap fun h0 q_h0 => ?_
  refine stopK_go ?_
  have g_h0 : h0.get h.next = .cells [.int .i64 n, b] true true 1 := by simp [q_h0]
  have k_h0 : Adds h h0 := by rw [q_h0]; exact (by first | exact aK | exact kK)
  have n_h0 : h.next < h0.next := by simp [q_h0]; try omega
  have hX0 := hX.keep k_h0.1
  have hw0 := hw.keep k_h0.1
  have hy0 := hy.keep k_h0.1
  have n7 := g.n7
  have hLy := hy0.lenD
  try simp (disch := first | omega | (simp; done) | fail) [wrap64c, if_pos, if_neg, opAnd, opOr, opXor, opDiff, opShr, opBit, ntw, csw, nty, csy, g_h0, hLy]
  refine WD_loopC [1, 2, 3, 4] (fun m tm h' => ∃ t s, m = n - t + 0 * s ∧ tm 9 = .int .i64 (s : Int) ∧ tm 10 = .int .i64 (t : Int) ∧ (t ≤ n) ∧ ((s ∈ xs ∧ pcN s = t) ∧ belowN (costN L) lim xs n ch = belowF (costN L) lim (fam xs) n ch (n - t) t s) ∧ (Adds h0 h')) _ ⟨0, 0, rfl, (by simp (disch := first | omega | (simp; done) | fail) [wrap64c, if_pos, if_neg, opAnd, opOr, opXor, opDiff, opShr, opBit, ntw, csw, nty, csy, g_h0, hLy]), (by simp (disch := first | omega | (simp; done) | fail) [wrap64c, if_pos, if_neg, opAnd, opOr, opXor, opDiff, opShr, opBit, ntw, csw, nty, csy, g_h0, hLy]), (by first | omega | assumption | (simp (disch := first | omega | (simp; done) | fail) [wrap64c, if_pos, if_neg, opAnd, opOr, opXor, opDiff, opShr, opBit, ntw, csw, nty, csy, g_h0, hLy] <;> omega)), ⟨⟨g.zero, rfl⟩, rfl⟩, (adds_self _)⟩ ?_
  rintro m tm h' hFr ⟨t, s, rfl, e9, e10, ht, hs, ha⟩
  simp only [FrameL] at hFr
  obtain ⟨f1_0, f2_0, f3_0, f4_0, -⟩ := hFr
  try simp (disch := first | omega | (simp; done) | fail) [wrap64c, if_pos, if_neg, opAnd, opOr, opXor, opDiff, opShr, opBit, ntw, csw, nty, csy, g_h0, hLy] at f1_0 f2_0 f3_0 f4_0
  have e1 := f1_0
  have e2 := f2_0
  have e3 := f3_0
  have e4 := f4_0
  rename Hp => hA
  obtain ⟨⟨hsx, hst⟩, hsb⟩ := hs
  have hs128 := g.lt7 s hsx
  have n2 := ha.1.1
  have g1' : hA.get h.next = .cells [.int .i64 n, b] true true 1 := by rw [ha.1.2 _ (by omega)]; exact g_h0
  by_cases hlt : t < n
  · obtain ⟨vd, h4, hc4, a4, i4⟩ := grCheap_ok hA (.agg #[.int .i64 n, b]) w n xs L s lim (.mk (hX0.keep ha.1)) (hw0.keep ha.1) g gj hn hs128
    have hld := i4.lenD
    have hltN := toN_length (cheapN (costN L) lim (fam xs) n s)
    have hgtN := toN_get (cheapN (costN L) lim (fam xs) n s)
    have ntd := i4.nt
    obtain ⟨C, hC⟩ : ∃ C, C = cheapN (costN L) lim (fam xs) n s := ⟨_, rfl⟩
    rw [← hC] at i4 hld hltN hgtN
    try simp (disch := first | omega | (simp; done) | fail) [wrap64c, if_pos, if_neg, opAnd, opOr, opXor, opDiff, opShr, opBit, ntw, csw, nty, csy, g_h0, hLy, e1, e2, e3, e4, e9, e10, g1', hlt, hld, hltN, hgtN, ntd]
    refine callG_c (by simp) (by simp) ?ha (hc4) ?_
    (case ha => simp (disch := first | omega | (simp; done) | fail) [wrap64c, if_pos, if_neg, opAnd, opOr, opXor, opDiff, opShr, opBit, ntw, csw, nty, csy, g_h0, hLy, e1, e2, e3, e4, e9, e10, g1', hlt, hld, hltN, hgtN, ntd])
    by_cases hCe : C = []
    · have hz' : (((C.length : Nat) : Int) == 0) = true := by simp [hCe]
      have hres : belowN (costN L) lim xs n ch = s := by
        rw [hsb, show n - t = (n - t - 1) + 1 by omega, belowF, if_pos (by rw [← hC]; exact hCe)]
      try simp (disch := first | omega | (simp; done) | fail) [wrap64c, if_pos, if_neg, opAnd, opOr, opXor, opDiff, opShr, opBit, ntw, csw, nty, csy, g_h0, hLy, e1, e2, e3, e4, e9, e10, g1', hlt, hld, hltN, hgtN, ntd, hz']
      exact done_ret rfl ⟨(k_h0.trans ha).trans a4, by simp [hres]⟩
    · have hcl : C.length ≤ 7 := by rw [hC]; exact cheap_len _ _ _ _ _
      have hc0 := List.length_pos_iff.2 hCe
      have hz' : (((C.length : Nat) : Int) == 0) = false := beq_false_of_ne (by omega)
      obtain ⟨q, hqe⟩ : ∃ q, q = pickN ch t C := ⟨_, rfl⟩
      have hqm : q ∈ C := hqe ▸ pickN_mem hCe
      rw [hC] at hqm
      obtain ⟨⟨q1, q2, q3⟩, q4⟩ := cheap_mem g hqm
      have hbq := bit_lt7 (i := q) (by omega)
      have hor := g.lt7 _ q3
      have hpq := pcN_or hs128 (by omega) q2
      have hy4 := (hy0.keep ha.1).keep a4.1
      obtain ⟨o_x, i_x, c_x, cs_x, own_x, ex_x, es_x, q_x, b_x, g_x, l_x, r_x⟩ := i4.open ((by simp; omega))
      have z_x : ∀ h2 : i_x < cs_x.length, cs_x[i_x] = _ := fun h2 => r_x 0 ((by simp; omega)) h2
      by_cases hk : t < ch.length
      · obtain ⟨o_z, i_z, c_z, cs_z, own_z, ex_z, es_z, q_z, b_z, g_z, l_z, r_z⟩ := hy4.open ((by omega))
        have z_z : ∀ h2 : i_z < cs_z.length, cs_z[i_z] = _ := fun h2 => r_z 0 ((by omega)) h2
        obtain ⟨r0, hr0⟩ : ∃ r : Nat, ch[t] = r := ⟨ch[t].toNat, by have := hp _ (List.getElem_mem hk); omega⟩
        have hml := Nat.mod_lt r0 hc0
        obtain ⟨r, hr⟩ : ∃ r, r = r0 % C.length := ⟨_, rfl⟩
        rw [← hr] at hml
        have hml' := hml
        have hmd : Int.tmod (r0 : Int) (C.length : Int) = r := by rw [Int.tmod_eq_emod_of_nonneg (by omega), hr]; rfl
        have hne0 : ¬ ((C.length : Int) = 0) := by omega
        have hpk : C[r] = q := by
          rw [hqe]; unfold pickN
          rw [dif_pos hk, hr0, Int.toNat_natCast, ← hr, List.getD_eq_getElem?_getD, List.getElem?_eq_getElem hml]; rfl
        have hpk' := hpk
        try simp (disch := first | omega | (simp; done) | fail) [wrap64c, if_pos, if_neg, opAnd, opOr, opXor, opDiff, opShr, opBit, ntw, csw, nty, csy, g_h0, hLy, e1, e2, e3, e4, e9, e10, g1', hlt, hld, hltN, hgtN, ntd, hz', q_x, g_x, l_x, r_x, z_x, hk, q_z, g_z, l_z, r_z, z_z, hr0, hml', hmd, hne0, hpk']
        refine loopK_next _ ?hm ?hf ⟨t + 1, nOr s (bit q), rfl, (by simp (disch := first | omega | (simp; done) | fail) [wrap64c, if_pos, if_neg, opAnd, opOr, opXor, opDiff, opShr, opBit, ntw, csw, nty, csy, g_h0, hLy, e1, e2, e3, e4, e9, e10, g1', hlt, hld, hltN, hgtN, ntd, hz', q_x, g_x, l_x, r_x, z_x, hk, q_z, g_z, l_z, r_z, z_z, hr0, hml', hmd, hne0, hpk'] <;> omega), (by simp (disch := first | omega | (simp; done) | fail) [wrap64c, if_pos, if_neg, opAnd, opOr, opXor, opDiff, opShr, opBit, ntw, csw, nty, csy, g_h0, hLy, e1, e2, e3, e4, e9, e10, g1', hlt, hld, hltN, hgtN, ntd, hz', q_x, g_x, l_x, r_x, z_x, hk, q_z, g_z, l_z, r_z, z_z, hr0, hml', hmd, hne0, hpk'] <;> omega), (by first | omega | assumption | (simp (disch := first | omega | (simp; done) | fail) [wrap64c, if_pos, if_neg, opAnd, opOr, opXor, opDiff, opShr, opBit, ntw, csw, nty, csy, g_h0, hLy, e1, e2, e3, e4, e9, e10, g1', hlt, hld, hltN, hgtN, ntd, hz', q_x, g_x, l_x, r_x, z_x, hk, q_z, g_z, l_z, r_z, z_z, hr0, hml', hmd, hne0, hpk'] <;> omega)), ⟨⟨q3, by omega⟩, by rw [hsb, show n - t = (n - (t + 1)) + 1 by omega, belowF, if_neg (by rw [← hC]; exact hCe), ← hC, ← hqe]⟩, (ha.trans a4)⟩
        (case hm => first | omega | (simp; omega))
        (case hf => simp [FrameL, ntw, csw, nty, csy, g_h0, hLy, e1, e2, e3, e4, e9, e10, g1', hlt, hld, hltN, hgtN, ntd, hz', q_x, g_x, l_x, r_x, z_x, hk, q_z, g_z, l_z, r_z, z_z, hr0, hml', hmd, hne0, hpk', f1_0, f2_0, f3_0, f4_0])
      · have hpk : C[0] = q := by
          rw [hqe]; unfold pickN
          rw [dif_neg hk, List.getD_eq_getElem?_getD, List.getElem?_eq_getElem hc0]; rfl
        have hpk' := hpk
        try simp (disch := first | omega | (simp; done) | fail) [wrap64c, if_pos, if_neg, opAnd, opOr, opXor, opDiff, opShr, opBit, ntw, csw, nty, csy, g_h0, hLy, e1, e2, e3, e4, e9, e10, g1', hlt, hld, hltN, hgtN, ntd, hz', q_x, g_x, l_x, r_x, z_x, hk, hpk']
        refine loopK_next _ ?hm ?hf ⟨t + 1, nOr s (bit q), rfl, (by simp (disch := first | omega | (simp; done) | fail) [wrap64c, if_pos, if_neg, opAnd, opOr, opXor, opDiff, opShr, opBit, ntw, csw, nty, csy, g_h0, hLy, e1, e2, e3, e4, e9, e10, g1', hlt, hld, hltN, hgtN, ntd, hz', q_x, g_x, l_x, r_x, z_x, hk, hpk'] <;> omega), (by simp (disch := first | omega | (simp; done) | fail) [wrap64c, if_pos, if_neg, opAnd, opOr, opXor, opDiff, opShr, opBit, ntw, csw, nty, csy, g_h0, hLy, e1, e2, e3, e4, e9, e10, g1', hlt, hld, hltN, hgtN, ntd, hz', q_x, g_x, l_x, r_x, z_x, hk, hpk'] <;> omega), (by first | omega | assumption | (simp (disch := first | omega | (simp; done) | fail) [wrap64c, if_pos, if_neg, opAnd, opOr, opXor, opDiff, opShr, opBit, ntw, csw, nty, csy, g_h0, hLy, e1, e2, e3, e4, e9, e10, g1', hlt, hld, hltN, hgtN, ntd, hz', q_x, g_x, l_x, r_x, z_x, hk, hpk'] <;> omega)), ⟨⟨q3, by omega⟩, by rw [hsb, show n - t = (n - (t + 1)) + 1 by omega, belowF, if_neg (by rw [← hC]; exact hCe), ← hC, ← hqe]⟩, (ha.trans a4)⟩
        (case hm => first | omega | (simp; omega))
        (case hf => simp [FrameL, ntw, csw, nty, csy, g_h0, hLy, e1, e2, e3, e4, e9, e10, g1', hlt, hld, hltN, hgtN, ntd, hz', q_x, g_x, l_x, r_x, z_x, hk, hpk', f1_0, f2_0, f3_0, f4_0])
  · have htn : n - t = 0 := by omega
    rw [htn, belowF] at hsb
    try simp (disch := first | omega | (simp; done) | fail) [wrap64c, if_pos, if_neg, opAnd, opOr, opXor, opDiff, opShr, opBit, ntw, csw, nty, csy, g_h0, hLy, e1, e2, e3, e4, e9, e10, g1', hlt]
    exact done_ret rfl ⟨k_h0.trans ha, by simp [hsb]⟩
theorem grCosts_ok (h : Hp) (lim : Int) : CallOK Try.prog 185 #[.int .i64 lim] h (.bool (decide (-10000 ≤ lim ∧ lim ≤ 10000))) h := by
  refine callY_P 5 _ [.tmp 2] Try.func185 rfl rfl rfl (by first | rfl | simp) ?_
  try simp (disch := first | omega | (simp; done) | fail) [wrap64c, if_pos, if_neg, opAnd, opOr, opXor, opDiff, opShr, opBit]
  refine callG_c (by simp) (by simp) ?ha (l1In_ok h lim (-10000) 10000) ?_
  (case ha => simp (disch := first | omega | (simp; done) | fail) [wrap64c, if_pos, if_neg, opAnd, opOr, opXor, opDiff, opShr, opBit])
  try simp (disch := first | omega | (simp; done) | fail) [wrap64c, if_pos, if_neg, opAnd, opOr, opXor, opDiff, opShr, opBit]
  exact done_ret rfl (by simp)
theorem specBelow_ok (h : Hp) (v w y : Value) (N : Int) (X : List Int) (L : List Job) (lim : Int) (ch : List Int) (hv : Space h v N X) (hw : Jobs h w L) (hy : Ints h y ch) (hl : X.length < 2 ^ 40) :
    ∃ v' h', CallOK Try.prog 83 #[v, w, .int .i64 lim, y] h v' h' ∧ Adds h h' ∧ v' = .tuple #[.int .i64 (blR N X L lim ch), .bool (blB N X L lim ch)] := by
  refine callY_L (args := [v, w, .int .i64 lim, y]) 40 _ [.tmp 8, .tmp 9] Try.func83 rfl rfl rfl ?_
  obtain ⟨b, rfl, hX⟩ := hv
  have ntw := hw.nt
  have csw := hw.cs
  have nty := hy.nt
  have csy := hy.cs
  refine WD_first ?_
  try simp (disch := first | omega | (simp; done) | fail) [wrap64c, if_pos, if_neg, opAnd, opOr, opXor, opDiff, opShr, opBit, ntw, csw, nty, csy]
  refine stopK_heap fun h0 q_h0 => ?_
  refine stopK_go ?_
  have g_h0 : h0.get h.next = .cells [.int .i64 N, b] true true 1 := by simp [q_h0]
  have k_h0 : Adds h h0 := by rw [q_h0]; exact (by first | exact aK | exact kK)
  have n_h0 : h.next < h0.next := by simp [q_h0]; try omega
  have hX0 := hX.keep k_h0.1
  have hw0 := hw.keep k_h0.1
  have hy0 := hy.keep k_h0.1
  have hLy := hy0.lenD
  have pt : CallOK Try.prog 184 #[.agg #[.int .i64 N, b], w] h0 (.bool (gvB N X L)) h0 := grGiven_ok h0 (.agg #[.int .i64 N, b]) w N X L (.mk hX0) hw0 hl
  have pg := grCosts_ok h0 lim
  try simp (disch := first | omega | (simp; done) | fail) [wrap64c, if_pos, if_neg, opAnd, opOr, opXor, opDiff, opShr, opBit, ntw, csw, nty, csy, g_h0, hLy]
  refine callG_c (by simp) (by simp) ?ha (pt) ?_
  (case ha => simp (disch := first | omega | (simp; done) | fail) [wrap64c, if_pos, if_neg, opAnd, opOr, opXor, opDiff, opShr, opBit, ntw, csw, nty, csy, g_h0, hLy])
  cases c1 : gvB N X L
  · try simp (disch := first | omega | (simp; done) | fail) [wrap64c, if_pos, if_neg, opAnd, opOr, opXor, opDiff, opShr, opBit, ntw, csw, nty, csy, g_h0, hLy, c1]
    exact done_ret rfl ⟨k_h0, by simp [blR, blB, c1]⟩
  · try simp (disch := first | omega | (simp; done) | fail) [wrap64c, if_pos, if_neg, opAnd, opOr, opXor, opDiff, opShr, opBit, ntw, csw, nty, csy, g_h0, hLy, c1]
    refine callG_c (by simp) (by simp) ?ha (pg) ?_
    (case ha => simp (disch := first | omega | (simp; done) | fail) [wrap64c, if_pos, if_neg, opAnd, opOr, opXor, opDiff, opShr, opBit, ntw, csw, nty, csy, g_h0, hLy, c1])
    by_cases c2 : -10000 ≤ lim ∧ lim ≤ 10000
    case neg =>
      have c2' : decide (-10000 ≤ lim ∧ lim ≤ 10000) = false := decide_eq_false c2
      try simp (disch := first | omega | (simp; done) | fail) [wrap64c, if_pos, if_neg, opAnd, opOr, opXor, opDiff, opShr, opBit, ntw, csw, nty, csy, g_h0, hLy, c1, c2']
      have r1 : blB N X L lim ch = false := by simp only [blB, c1, c2', Bool.false_and, Bool.and_false]
      have r2 : blR N X L lim ch = 0 := by unfold blR; rw [if_neg (by rw [r1]; simp)]
      exact done_ret rfl ⟨k_h0, by simp [r1, r2]⟩
    have c2' : decide (-10000 ≤ lim ∧ lim ≤ 10000) = true := decide_eq_true c2
    by_cases c4 : (20 : Int) < (ch.length : Int)
    · have c4' := c4
      try simp (disch := first | omega | (simp; done) | fail) [wrap64c, if_pos, if_neg, opAnd, opOr, opXor, opDiff, opShr, opBit, ntw, csw, nty, csy, g_h0, hLy, c1, c2', c4']
      have c3 : chB ch 20 = false := by unfold chB; rw [decide_eq_false (by omega)]; rfl
      have r1 : blB N X L lim ch = false := by simp only [blB, c1, c2', c3, Bool.and_false]
      have r2 : blR N X L lim ch = 0 := by unfold blR; rw [if_neg (by rw [r1]; simp)]
      exact done_ret rfl ⟨k_h0, by simp [r1, r2]⟩
    · have c4' : ¬ 20 < (ch.length : Int) := c4
      have c4n : ¬ 20 < ch.length := by omega
      try simp (disch := first | omega | (simp; done) | fail) [wrap64c, if_pos, if_neg, opAnd, opOr, opXor, opDiff, opShr, opBit, ntw, csw, nty, csy, g_h0, hLy, c1, c2', c4', c4n]
      refine WD_loopC [1, 2, 3, 4, 26, 27] (fun m tm h' => ∃ j, m = ch.length - j ∧ h0 = h' ∧ tm 28 = .int .i64 (j : Int) ∧ (j ≤ ch.length) ∧ (∀ i (h1 : i < ch.length), i < j → 0 ≤ ch[i])) _ ⟨0, rfl, rfl, (by simp (disch := first | omega | (simp; done) | fail) [wrap64c, if_pos, if_neg, opAnd, opOr, opXor, opDiff, opShr, opBit, ntw, csw, nty, csy, g_h0, hLy, c1, c2', c4', c4n]), (by first | omega | assumption | (simp (disch := first | omega | (simp; done) | fail) [wrap64c, if_pos, if_neg, opAnd, opOr, opXor, opDiff, opShr, opBit, ntw, csw, nty, csy, g_h0, hLy, c1, c2', c4', c4n] <;> omega)), (by intro i h1 h0; omega)⟩ ?_
      rintro m tm h' hFr ⟨j, rfl, rfl, e28, hj, hx⟩
      simp only [FrameL] at hFr
      obtain ⟨f1_0, f2_0, f3_0, f4_0, f26_0, f27_0, -⟩ := hFr
      try simp (disch := first | omega | (simp; done) | fail) [wrap64c, if_pos, if_neg, opAnd, opOr, opXor, opDiff, opShr, opBit, ntw, csw, nty, csy, g_h0, hLy, c1, c2', c4', c4n] at f1_0 f2_0 f3_0 f4_0 f26_0 f27_0
      have e1 := f1_0
      have e2 := f2_0
      have e3 := f3_0
      have e4 := f4_0
      have e26 := f26_0
      have e27 := f27_0
      by_cases hlt : j < ch.length
      · obtain ⟨o_x, i_x, c_x, cs_x, own_x, ex_x, es_x, q_x, b_x, g_x, l_x, r_x⟩ := hy0.open ((by omega))
        have z_x : ∀ h2 : i_x < cs_x.length, cs_x[i_x] = _ := fun h2 => r_x 0 ((by omega)) h2
        by_cases hc : ch[j] < 0
        · try simp (disch := first | omega | (simp; done) | fail) [wrap64c, if_pos, if_neg, opAnd, opOr, opXor, opDiff, opShr, opBit, ntw, csw, nty, csy, g_h0, hLy, c1, c2', c4', c4n, e1, e2, e3, e4, e26, e27, e28, hlt, q_x, g_x, l_x, r_x, z_x, hc]
          have c3 : chB ch 20 = false := by
            rw [Bool.eq_false_iff]
            intro hcc
            have := (chB_pos hcc).2 _ (List.getElem_mem hlt)
            omega
          have r1 : blB N X L lim ch = false := by simp only [blB, c1, c2', c3, Bool.and_false]
          have r2 : blR N X L lim ch = 0 := by unfold blR; rw [if_neg (by rw [r1]; simp)]
          exact done_ret rfl ⟨k_h0, by simp [r1, r2]⟩
        · try simp (disch := first | omega | (simp; done) | fail) [wrap64c, if_pos, if_neg, opAnd, opOr, opXor, opDiff, opShr, opBit, ntw, csw, nty, csy, g_h0, hLy, c1, c2', c4', c4n, e1, e2, e3, e4, e26, e27, e28, hlt, q_x, g_x, l_x, r_x, z_x, hc]
          refine loopK_next _ ?hm ?hf ⟨j + 1, rfl, rfl, (by simp (disch := first | omega | (simp; done) | fail) [wrap64c, if_pos, if_neg, opAnd, opOr, opXor, opDiff, opShr, opBit, ntw, csw, nty, csy, g_h0, hLy, c1, c2', c4', c4n, e1, e2, e3, e4, e26, e27, e28, hlt, q_x, g_x, l_x, r_x, z_x, hc] <;> omega), (by first | omega | assumption | (simp (disch := first | omega | (simp; done) | fail) [wrap64c, if_pos, if_neg, opAnd, opOr, opXor, opDiff, opShr, opBit, ntw, csw, nty, csy, g_h0, hLy, c1, c2', c4', c4n, e1, e2, e3, e4, e26, e27, e28, hlt, q_x, g_x, l_x, r_x, z_x, hc] <;> omega)), ?c_hx⟩
          (case hm => first | omega | (simp; omega))
          (case hf => simp [FrameL, ntw, csw, nty, csy, g_h0, hLy, c1, c2', c4', c4n, e1, e2, e3, e4, e26, e27, e28, hlt, q_x, g_x, l_x, r_x, z_x, hc, f1_0, f2_0, f3_0, f4_0, f26_0, f27_0])
          case c_hx =>
            exact (fun i h1 hi => by
              by_cases e : i = j
              · subst e; omega
              · exact hx i h1 (by omega))
      · obtain ⟨n, xs, hN, hXe, g, gj, hLn⟩ := gvB_true c1
        subst hN hXe
        have hpos : ∀ x ∈ ch, 0 ≤ x := fun x hm => by
          obtain ⟨i, hi, rfl⟩ := List.getElem_of_mem hm
          exact hx i hi (by omega)
        have c3 : chB ch 20 = true := by
          unfold chB
          rw [decide_eq_true (by omega), Bool.true_and, Bool.not_eq_true', List.any_eq_false]
          intro x hm
          have := hpos x hm
          simp; omega
        have r1 : blB (n : Int) (toN xs) L lim ch = true := by simp only [blB, c1, c2', c3, Bool.and_self]
        obtain ⟨_, h1, p1, a1, rfl⟩ := grRun_ok h0 (.agg #[.int .i64 n, b]) w y n xs L lim ch (.mk hX0) hw0 hy0 g gj hLn hpos
        try simp (disch := first | omega | (simp; done) | fail) [wrap64c, if_pos, if_neg, opAnd, opOr, opXor, opDiff, opShr, opBit, ntw, csw, nty, csy, g_h0, hLy, c1, c2', c4', c4n, e1, e2, e3, e4, e26, e27, e28, hlt]
        refine callG_c (by simp) (by simp) ?ha (p1) ?_
        (case ha => simp (disch := first | omega | (simp; done) | fail) [wrap64c, if_pos, if_neg, opAnd, opOr, opXor, opDiff, opShr, opBit, ntw, csw, nty, csy, g_h0, hLy, c1, c2', c4', c4n, e1, e2, e3, e4, e26, e27, e28, hlt])
        try simp (disch := first | omega | (simp; done) | fail) [wrap64c, if_pos, if_neg, opAnd, opOr, opXor, opDiff, opShr, opBit, ntw, csw, nty, csy, g_h0, hLy, c1, c2', c4', c4n, e1, e2, e3, e4, e26, e27, e28, hlt]
        exact done_ret rfl ⟨k_h0.trans a1, by simp [blR, r1]⟩
theorem specKB_ok (h : Hp) (v w : Value) (N : Int) (X : List Int) (L : List Job) (lim : Int) (hv : Space h v N X) (hw : Jobs h w L) (hl : X.length < 2 ^ 40) :
    ∃ v' h', CallOK Try.prog 85 #[v, w, .int .i64 lim] h v' h' ∧ Adds h h' ∧ v' = .tuple #[.int .i64 (blR N X L lim []), .bool (blB N X L lim [])] := by
  refine callY_L (args := [v, w, .int .i64 lim]) 21 _ [.tmp 6, .tmp 7] Try.func85 rfl rfl rfl ?_
  obtain ⟨b, rfl, hX⟩ := hv
  have ntw := hw.nt
  have csw := hw.cs
  refine WD_first ?_
  try simp (disch := first | omega | (simp; done) | fail) [wrap64c, if_pos, if_neg, opAnd, opOr, opXor, opDiff, opShr, opBit, ntw, csw]
  refine stopK_heap fun h0 q_h0 => ?_
  refine stopK_go ?_
  have g_h0 : h0.get h.next = .cells [.int .i64 N, b] true true 1 := by simp [q_h0]
  have k_h0 : Adds h h0 := by rw [q_h0]; exact (by first | exact aK | exact kK)
  have n_h0 : h.next < h0.next := by simp [q_h0]; try omega
  have hX0 := hX.keep k_h0.1
  have hw0 := hw.keep k_h0.1
  have pt : CallOK Try.prog 184 #[.agg #[.int .i64 N, b], w] h0 (.bool (gvB N X L)) h0 := grGiven_ok h0 (.agg #[.int .i64 N, b]) w N X L (.mk hX0) hw0 hl
  have pg := grCosts_ok h0 lim
  have c3 : chB [] 20 = true := rfl
  try simp (disch := first | omega | (simp; done) | fail) [wrap64c, if_pos, if_neg, opAnd, opOr, opXor, opDiff, opShr, opBit, ntw, csw, g_h0]
  refine callG_c (by simp) (by simp) ?ha (pt) ?_
  (case ha => simp (disch := first | omega | (simp; done) | fail) [wrap64c, if_pos, if_neg, opAnd, opOr, opXor, opDiff, opShr, opBit, ntw, csw, g_h0])
  cases c1 : gvB N X L
  · try simp (disch := first | omega | (simp; done) | fail) [wrap64c, if_pos, if_neg, opAnd, opOr, opXor, opDiff, opShr, opBit, ntw, csw, g_h0, c1]
    exact done_ret rfl ⟨k_h0, by simp [blR, blB, c1]⟩
  · try simp (disch := first | omega | (simp; done) | fail) [wrap64c, if_pos, if_neg, opAnd, opOr, opXor, opDiff, opShr, opBit, ntw, csw, g_h0, c1]
    refine callG_c (by simp) (by simp) ?ha (pg) ?_
    (case ha => simp (disch := first | omega | (simp; done) | fail) [wrap64c, if_pos, if_neg, opAnd, opOr, opXor, opDiff, opShr, opBit, ntw, csw, g_h0, c1])
    by_cases c2 : -10000 ≤ lim ∧ lim ≤ 10000
    case neg =>
      have c2' : decide (-10000 ≤ lim ∧ lim ≤ 10000) = false := decide_eq_false c2
      try simp (disch := first | omega | (simp; done) | fail) [wrap64c, if_pos, if_neg, opAnd, opOr, opXor, opDiff, opShr, opBit, ntw, csw, g_h0, c1, c2']
      have r1 : blB N X L lim [] = false := by simp only [blB, c1, c2', Bool.false_and, Bool.and_false]
      have r2 : blR N X L lim [] = 0 := by unfold blR; rw [if_neg (by rw [r1]; simp)]
      exact done_ret rfl ⟨k_h0, by simp [r1, r2]⟩
    have c2' : decide (-10000 ≤ lim ∧ lim ≤ 10000) = true := decide_eq_true c2
    obtain ⟨n, xs, hN, hXe, g, gj, hLn⟩ := gvB_true c1
    subst hN hXe
    have r1 : blB (n : Int) (toN xs) L lim [] = true := by simp only [blB, c1, c2', c3, Bool.and_self]
    obtain ⟨_, h1, p1, a1, rfl⟩ := grRun_ok h0 (.agg #[.int .i64 n, b]) w (.slice none 0 0) n xs L lim [] (.mk hX0) hw0 ((IntsA.nil 0 h0).own (by simp) |>.ints) g gj hLn (fun x hx => by cases hx)
    try simp (disch := first | omega | (simp; done) | fail) [wrap64c, if_pos, if_neg, opAnd, opOr, opXor, opDiff, opShr, opBit, ntw, csw, g_h0, c1, c2']
    refine callG_c (by simp) (by simp) ?ha (p1) ?_
    (case ha => simp (disch := first | omega | (simp; done) | fail) [wrap64c, if_pos, if_neg, opAnd, opOr, opXor, opDiff, opShr, opBit, ntw, csw, g_h0, c1, c2'])
    try simp (disch := first | omega | (simp; done) | fail) [wrap64c, if_pos, if_neg, opAnd, opOr, opXor, opDiff, opShr, opBit, ntw, csw, g_h0, c1, c2']
    exact done_ret rfl ⟨k_h0.trans a1, by simp [blR, r1]⟩
end Go.Proofs.Ytnncipcldbopgaa
namespace Go.Proofs.Ytnncipcldbopgaa
set_option linter.unusedSimpArgs false
set_option linter.unusedVariables false
set_option maxHeartbeats 4000000
set_option maxRecDepth 20000
open Go Go.Eng
attribute [local irreducible] WD RunD PreD Runs CallOK
theorem lawKeptBelow_ok (h0 : Hp) (v : Value) (xs : List Int) (hv : Bytes h0 v xs) (w : Value) (ys : List Int) (hw : Bytes h0 w ys) : CallOK Try.prog 8 #[v, w] h0 (.bool true) h0 := by
  have ntv := hv.nt
  have csv := hv.cs
  have ntw := hw.nt
  have csw := hw.cs
  refine callY_P 221 _ [.tmp 4] Try.func8 rfl rfl rfl (by first | rfl | simp) ?_
  try simp (disch := first | omega | (simp; done) | fail) [wrap64c, if_pos, if_neg, opAnd, opOr, opXor, opDiff, opShr, opBit, ntv, csv, ntw, csw]
  refine callG_c (by simp) (by simp) ?ha (big_ok h0 _ _ _ _ hv hw) ?_
  (case ha => simp (disch := first | omega | (simp; done) | fail) [wrap64c, if_pos, if_neg, opAnd, opOr, opXor, opDiff, opShr, opBit, ntv, csv, ntw, csw])
  by_cases hbig : 1048576 < xs.length ∨ 1048576 - (xs.length : Int) < ys.length
  case pos =>
    try simp (disch := first | omega | (simp; done) | fail) [wrap64c, if_pos, if_neg, opAnd, opOr, opXor, opDiff, opShr, opBit, ntv, csv, ntw, csw, hbig]
    exact done_ret rfl (by simp)
  have lxs : xs.length ≤ 1048576 := by omega
  have lys : ys.length ≤ 1048576 := by omega
  try simp (disch := first | omega | (simp; done) | fail) [wrap64c, if_pos, if_neg, opAnd, opOr, opXor, opDiff, opShr, opBit, ntv, csv, ntw, csw, hbig]
  have K0 : Keeps h0 h0 := .refl _
  obtain ⟨_, h1, p1, a1, s1, N, X, u, L, y, ch, c, rfl, hC, lX, hJ, lL, hy, lch⟩ := drawRunBelow_ok h0 v xs (bytes_old hv)
  refine callG_c (by simp) (by simp) ?ha (p1) ?_
  (case ha => simp (disch := first | omega | (simp; done) | fail) [wrap64c, if_pos, if_neg, opAnd, opOr, opXor, opDiff, opShr, opBit, ntv, csv, ntw, csw, hbig])
  have n1 := a1.1.1
  have K1 := K0.trans a1.1
  have hv := hv.keep a1.1
  have hw := hw.keep a1.1
  obtain ⟨sv1, rfl, hsv1⟩ := hC
  have hsv1 := hsv1.ints
  have ntsv1 := hsv1.nt
  have cssv1 := hsv1.cs
  have hC : Space h1 (.agg #[.int .i64 N, sv1]) N X := .mk hsv1
  have hJ := jobs_of hJ (by omega)
  have ntu := hJ.nt
  have csu := hJ.cs
  have lnu := hJ.lenD
  have nty := hy.nt
  have csy := hy.cs
  have lny := hy.lenD
  try simp (disch := first | omega | (simp; done) | fail) [wrap64c, if_pos, if_neg, opAnd, opOr, opXor, opDiff, opShr, opBit, ntv, csv, ntw, csw, hbig, ntsv1, cssv1, ntu, csu, lnu, nty, csy, lny, putCells]
  first | refine WY_heap fun h2 q_h2 => ?_ | refine callG_heap fun h2 q_h2 => ?_ | refine callP_heap fun h2 q_h2 => ?_ | refine callS_heap fun h2 q_h2 => ?_ | refine RY_heap fun h2 q_h2 => ?_ | refine PY_heap fun h2 q_h2 => ?_ | refine SY_heap fun h2 q_h2 => ?_ | refine doneY_heap fun h2 q_h2 => ?_ | refine loopK_heap fun h2 q_h2 => ?_ | refine thenY_heap fun h2 q_h2 => ?_ | refine thenM_heap fun h2 q_h2 => ?_
  have b2 : Adds h1 h2 := by rw [q_h2]; exact (by first | exact aK | exact kK)
  have n2 := b2.1.1
  have K2 := K1.trans b2.1
  have hv := hv.keep b2.1
  have hw := hw.keep b2.1
  have hC := hC.keep b2.1
  have hJ := hJ.keep b2.1
  have hy := hy.keep b2.1
  have m2 : h2.next = h1.next + 1 := by simp [q_h2]
  have gs : h2.get h1.next = .cells [.int .i64 N, sv1] true true 1 := by simp [q_h2]
  have lX' : X.length < 2 ^ 40 := by omega
  obtain ⟨_, h3, p3, a3, rfl⟩ := implBelow_ok h2 _ u y N X L c ch hC hJ hy lX'
  refine callG_c (by simp) (by simp) ?ha (p3) ?_
  (case ha => simp (disch := first | omega | (simp; done) | fail) [wrap64c, if_pos, if_neg, opAnd, opOr, opXor, opDiff, opShr, opBit, ntv, csv, ntw, csw, hbig, ntsv1, cssv1, ntu, csu, lnu, nty, csy, lny, gs])
  have n3 := a3.1.1
  have K3 := K2.trans a3.1
  have gs : h3.get h1.next = .cells [.int .i64 N, sv1] true true 1 := by rw [a3.1.2 _ (by omega)]; exact gs
  have hv := hv.keep a3.1
  have hw := hw.keep a3.1
  have hC := hC.keep a3.1
  have hJ := hJ.keep a3.1
  have hy := hy.keep a3.1
  try simp (disch := first | omega | (simp; done) | fail) [wrap64c, if_pos, if_neg, opAnd, opOr, opXor, opDiff, opShr, opBit, ntv, csv, ntw, csw, hbig, ntsv1, cssv1, ntu, csu, lnu, nty, csy, lny, gs]
  obtain ⟨_, h4, p4, a4, rfl⟩ := specBelow_ok h3 _ u y N X L c ch hC hJ hy lX'
  refine callG_c (by simp) (by simp) ?ha (p4) ?_
  (case ha => simp (disch := first | omega | (simp; done) | fail) [wrap64c, if_pos, if_neg, opAnd, opOr, opXor, opDiff, opShr, opBit, ntv, csv, ntw, csw, hbig, ntsv1, cssv1, ntu, csu, lnu, nty, csy, lny, gs])
  have n4 := a4.1.1
  have K4 := K3.trans a4.1
  have gs : h4.get h1.next = .cells [.int .i64 N, sv1] true true 1 := by rw [a4.1.2 _ (by omega)]; exact gs
  have hv := hv.keep a4.1
  have hw := hw.keep a4.1
  have hC := hC.keep a4.1
  have hJ := hJ.keep a4.1
  have hy := hy.keep a4.1
  try simp (disch := first | omega | (simp; done) | fail) [wrap64c, if_pos, if_neg, opAnd, opOr, opXor, opDiff, opShr, opBit, ntv, csv, ntw, csw, hbig, ntsv1, cssv1, ntu, csu, lnu, nty, csy, lny, gs]
  obtain ⟨_, h5, p5, a5, rfl⟩ := implKB_ok h4 _ u N X L c hC hJ lX'
  refine callG_c (by simp) (by simp) ?ha (p5) ?_
  (case ha => simp (disch := first | omega | (simp; done) | fail) [wrap64c, if_pos, if_neg, opAnd, opOr, opXor, opDiff, opShr, opBit, ntv, csv, ntw, csw, hbig, ntsv1, cssv1, ntu, csu, lnu, nty, csy, lny, gs])
  have n5 := a5.1.1
  have K5 := K4.trans a5.1
  have gs : h5.get h1.next = .cells [.int .i64 N, sv1] true true 1 := by rw [a5.1.2 _ (by omega)]; exact gs
  have hv := hv.keep a5.1
  have hw := hw.keep a5.1
  have hC := hC.keep a5.1
  have hJ := hJ.keep a5.1
  have hy := hy.keep a5.1
  try simp (disch := first | omega | (simp; done) | fail) [wrap64c, if_pos, if_neg, opAnd, opOr, opXor, opDiff, opShr, opBit, ntv, csv, ntw, csw, hbig, ntsv1, cssv1, ntu, csu, lnu, nty, csy, lny, gs]
  obtain ⟨_, h6, p6, a6, rfl⟩ := specKB_ok h5 _ u N X L c hC hJ lX'
  refine callG_c (by simp) (by simp) ?ha (p6) ?_
  (case ha => simp (disch := first | omega | (simp; done) | fail) [wrap64c, if_pos, if_neg, opAnd, opOr, opXor, opDiff, opShr, opBit, ntv, csv, ntw, csw, hbig, ntsv1, cssv1, ntu, csu, lnu, nty, csy, lny, gs])
  have n6 := a6.1.1
  have K6 := K5.trans a6.1
  have gs : h6.get h1.next = .cells [.int .i64 N, sv1] true true 1 := by rw [a6.1.2 _ (by omega)]; exact gs
  have hv := hv.keep a6.1
  have hw := hw.keep a6.1
  have hC := hC.keep a6.1
  have hJ := hJ.keep a6.1
  have hy := hy.keep a6.1
  try simp (disch := first | omega | (simp; done) | fail) [wrap64c, if_pos, if_neg, opAnd, opOr, opXor, opDiff, opShr, opBit, ntv, csv, ntw, csw, hbig, ntsv1, cssv1, ntu, csu, lnu, nty, csy, lny, gs]
  cases c2 : blB N X L c []
  · have c1 : blB N X L c ch = false := by
      have ce : chB [] 20 = true := by simp [chB]
      simp only [blB, ce, Bool.and_true] at c2
      rw [blB, ← Bool.and_assoc, c2, Bool.false_and]
    have c1' := c1
    have r1 : blR N X L c ch = 0 := by rw [blR, c1]; rfl
    have r2 : blR N X L c [] = 0 := by rw [blR, c2]; rfl
    try simp (disch := first | omega | (simp; done) | fail) [wrap64c, if_pos, if_neg, opAnd, opOr, opXor, opDiff, opShr, opBit, ntv, csv, ntw, csw, hbig, ntsv1, cssv1, ntu, csu, lnu, nty, csy, lny, gs, c2, c1', r1, r2]
    obtain ⟨g0, hg0⟩ : ∃ x, x = h6 := ⟨_, rfl⟩
    have K0 := K6
    rw [← hg0] at K0
    have hv := hv
    have hw := hw
    rw [← hg0] at hv
    rw [← hg0] at hw
    try rw [← hg0]
    obtain ⟨_, g1, p1, a1, z, J, nn, rfl, hT, lJ⟩ := drawAreTasks_ok g0 w ys (bytes_old hw)
    refine callG_c (by simp) (by simp) ?ha (p1) ?_
    (case ha => simp (disch := first | omega | (simp; done) | fail) [wrap64c, if_pos, if_neg, opAnd, opOr, opXor, opDiff, opShr, opBit, ntv, csv, ntw, csw, hbig, ntsv1, cssv1, ntu, csu, lnu, nty, csy, lny, gs, c2, c1', r1, r2])
    have n1 := a1.1.1
    have K1 := K0.trans a1.1
    have hv := hv.keep a1.1
    have hw := hw.keep a1.1
    have hT := jobs_of hT (by omega)
    have ntz := hT.nt
    have csz := hT.cs
    have lnz := hT.lenD
    try simp (disch := first | omega | (simp; done) | fail) [wrap64c, if_pos, if_neg, opAnd, opOr, opXor, opDiff, opShr, opBit, ntv, csv, ntw, csw, hbig, ntsv1, cssv1, ntu, csu, lnu, nty, csy, lny, gs, c2, c1', r1, r2, ntz, csz, lnz]
    refine callG_c (by simp) (by simp) ?ha (areTasks_ok g1 z J nn hT) ?_
    (case ha => simp (disch := first | omega | (simp; done) | fail) [wrap64c, if_pos, if_neg, opAnd, opOr, opXor, opDiff, opShr, opBit, ntv, csv, ntw, csw, hbig, ntsv1, cssv1, ntu, csu, lnu, nty, csy, lny, gs, c2, c1', r1, r2, ntz, csz, lnz])
    try simp (disch := first | omega | (simp; done) | fail) [wrap64c, if_pos, if_neg, opAnd, opOr, opXor, opDiff, opShr, opBit, ntv, csv, ntw, csw, hbig, ntsv1, cssv1, ntu, csu, lnu, nty, csy, lny, gs, c2, c1', r1, r2, ntz, csz, lnz]
    refine callG_c (by simp) (by simp) ?ha (specAreTasks_ok g1 z J nn hT) ?_
    (case ha => simp (disch := first | omega | (simp; done) | fail) [wrap64c, if_pos, if_neg, opAnd, opOr, opXor, opDiff, opShr, opBit, ntv, csv, ntw, csw, hbig, ntsv1, cssv1, ntu, csu, lnu, nty, csy, lny, gs, c2, c1', r1, r2, ntz, csz, lnz])
    try simp (disch := first | omega | (simp; done) | fail) [wrap64c, if_pos, if_neg, opAnd, opOr, opXor, opDiff, opShr, opBit, ntv, csv, ntw, csw, hbig, ntsv1, cssv1, ntu, csu, lnu, nty, csy, lny, gs, c2, c1', r1, r2, ntz, csz, lnz]
    obtain ⟨_, g2, p2, a2, s2, G, Y, rk, R, rfl, hD, lY, hR, lR⟩ := drawFirst_ok g1 w ys (bytes_old hw)
    refine callG_c (by simp) (by simp) ?ha (p2) ?_
    (case ha => simp (disch := first | omega | (simp; done) | fail) [wrap64c, if_pos, if_neg, opAnd, opOr, opXor, opDiff, opShr, opBit, ntv, csv, ntw, csw, hbig, ntsv1, cssv1, ntu, csu, lnu, nty, csy, lny, gs, c2, c1', r1, r2, ntz, csz, lnz])
    have n2 := a2.1.1
    have K2 := K1.trans a2.1
    have hv := hv.keep a2.1
    have hw := hw.keep a2.1
    have hT := hT.keep a2.1
    obtain ⟨sv2, rfl, hsv2⟩ := hD
    have hsv2 := hsv2.ints
    have ntsv2 := hsv2.nt
    have cssv2 := hsv2.cs
    have hD : Space g2 (.agg #[.int .i64 G, sv2]) G Y := .mk hsv2
    have ntrk := hR.nt
    have csrk := hR.cs
    have lnrk := hR.lenD
    try simp (disch := first | omega | (simp; done) | fail) [wrap64c, if_pos, if_neg, opAnd, opOr, opXor, opDiff, opShr, opBit, ntv, csv, ntw, csw, hbig, ntsv1, cssv1, ntu, csu, lnu, nty, csy, lny, gs, c2, c1', r1, r2, ntz, csz, lnz, ntsv2, cssv2, ntrk, csrk, lnrk, putCells]
    first | refine WY_heap fun g3 q_g3 => ?_ | refine callG_heap fun g3 q_g3 => ?_ | refine callP_heap fun g3 q_g3 => ?_ | refine callS_heap fun g3 q_g3 => ?_ | refine RY_heap fun g3 q_g3 => ?_ | refine PY_heap fun g3 q_g3 => ?_ | refine SY_heap fun g3 q_g3 => ?_ | refine doneY_heap fun g3 q_g3 => ?_ | refine loopK_heap fun g3 q_g3 => ?_ | refine thenY_heap fun g3 q_g3 => ?_ | refine thenM_heap fun g3 q_g3 => ?_
    have b3 : Adds g2 g3 := by rw [q_g3]; exact (by first | exact aK | exact kK)
    have n3 := b3.1.1
    have K3 := K2.trans b3.1
    have hv := hv.keep b3.1
    have hw := hw.keep b3.1
    have hT := hT.keep b3.1
    have hD := hD.keep b3.1
    have hR := hR.keep b3.1
    have m3 : g3.next = g2.next + 1 := by simp [q_g3]
    have gt : g3.get g2.next = .cells [.int .i64 G, sv2] true true 1 := by simp [q_g3]
    have lY' : Y.length < 2 ^ 40 := by omega
    obtain ⟨_, g4, p4, a4, u1, rfl, hu1⟩ := implFirst_ok g3 _ rk G Y R hD hR lY'
    refine callG_c (by simp) (by simp) ?ha (p4) ?_
    (case ha => simp (disch := first | omega | (simp; done) | fail) [wrap64c, if_pos, if_neg, opAnd, opOr, opXor, opDiff, opShr, opBit, ntv, csv, ntw, csw, hbig, ntsv1, cssv1, ntu, csu, lnu, nty, csy, lny, gs, c2, c1', r1, r2, ntz, csz, lnz, ntsv2, cssv2, ntrk, csrk, lnrk, gt])
    have n4 := a4.1.1
    have K4 := K3.trans a4.1
    have gt : g4.get g2.next = .cells [.int .i64 G, sv2] true true 1 := by rw [a4.1.2 _ (by omega)]; exact gt
    have hv := hv.keep a4.1
    have hw := hw.keep a4.1
    have hT := hT.keep a4.1
    have hD := hD.keep a4.1
    have hR := hR.keep a4.1
    have hu1 := hu1.ints
    have ntu1 := hu1.nt
    have csu1 := hu1.cs
    have lnu1 := hu1.lenD
    try simp (disch := first | omega | (simp; done) | fail) [wrap64c, if_pos, if_neg, opAnd, opOr, opXor, opDiff, opShr, opBit, ntv, csv, ntw, csw, hbig, ntsv1, cssv1, ntu, csu, lnu, nty, csy, lny, gs, c2, c1', r1, r2, ntz, csz, lnz, ntsv2, cssv2, ntrk, csrk, lnrk, gt, ntu1, csu1, lnu1]
    obtain ⟨_, g5, p5, a5, u2, rfl, hu2⟩ := specFirst_ok g4 _ rk G Y R hD hR lY'
    refine callG_c (by simp) (by simp) ?ha (p5) ?_
    (case ha => simp (disch := first | omega | (simp; done) | fail) [wrap64c, if_pos, if_neg, opAnd, opOr, opXor, opDiff, opShr, opBit, ntv, csv, ntw, csw, hbig, ntsv1, cssv1, ntu, csu, lnu, nty, csy, lny, gs, c2, c1', r1, r2, ntz, csz, lnz, ntsv2, cssv2, ntrk, csrk, lnrk, gt, ntu1, csu1, lnu1])
    have n5 := a5.1.1
    have K5 := K4.trans a5.1
    have gt : g5.get g2.next = .cells [.int .i64 G, sv2] true true 1 := by rw [a5.1.2 _ (by omega)]; exact gt
    have hv := hv.keep a5.1
    have hw := hw.keep a5.1
    have hT := hT.keep a5.1
    have hD := hD.keep a5.1
    have hR := hR.keep a5.1
    have hu1 := hu1.keep a5.1
    have hu2 := hu2.ints
    have ntu2 := hu2.nt
    have csu2 := hu2.cs
    have lnu2 := hu2.lenD
    try simp (disch := first | omega | (simp; done) | fail) [wrap64c, if_pos, if_neg, opAnd, opOr, opXor, opDiff, opShr, opBit, ntv, csv, ntw, csw, hbig, ntsv1, cssv1, ntu, csu, lnu, nty, csy, lny, gs, c2, c1', r1, r2, ntz, csz, lnz, ntsv2, cssv2, ntrk, csrk, lnrk, gt, ntu1, csu1, lnu1, ntu2, csu2, lnu2]
    refine callG_c (by simp) (by simp) ?ha (iSame_ok g5 _ _ _ _ hu1 hu2) ?_
    (case ha => simp (disch := first | omega | (simp; done) | fail) [wrap64c, if_pos, if_neg, opAnd, opOr, opXor, opDiff, opShr, opBit, ntv, csv, ntw, csw, hbig, ntsv1, cssv1, ntu, csu, lnu, nty, csy, lny, gs, c2, c1', r1, r2, ntz, csz, lnz, ntsv2, cssv2, ntrk, csrk, lnrk, gt, ntu1, csu1, lnu1, ntu2, csu2, lnu2])
    try simp (disch := first | omega | (simp; done) | fail) [wrap64c, if_pos, if_neg, opAnd, opOr, opXor, opDiff, opShr, opBit, ntv, csv, ntw, csw, hbig, ntsv1, cssv1, ntu, csu, lnu, nty, csy, lny, gs, c2, c1', r1, r2, ntz, csz, lnz, ntsv2, cssv2, ntrk, csrk, lnrk, gt, ntu1, csu1, lnu1, ntu2, csu2, lnu2]
    cases d1 : fwB G Y R
    · try simp (disch := first | omega | (simp; done) | fail) [wrap64c, if_pos, if_neg, opAnd, opOr, opXor, opDiff, opShr, opBit, ntv, csv, ntw, csw, hbig, ntsv1, cssv1, ntu, csu, lnu, nty, csy, lny, gs, c2, c1', r1, r2, ntz, csz, lnz, ntsv2, cssv2, ntrk, csrk, lnrk, gt, ntu1, csu1, lnu1, ntu2, csu2, lnu2, d1]
      exact done_ret rfl (by simp [K5])
    · obtain ⟨m2, ys2, eG, eY, gd2, lR2, hR2⟩ := fwB_true d1
      subst eG eY
      have eF : fullB (m2 : Int) (toN ys2) (fwR (m2 : Int) (toN ys2) R) = true := by rw [fwR, if_pos d1, natsOf_toN]; exact greed_full gd2 (spB_of gd2) _
      have q1 := iWord_ok g5 _ u1 (m2 : Int) (toN ys2) _ hD hu1 lY'
      rw [eF] at q1
      try simp (disch := first | omega | (simp; done) | fail) [wrap64c, if_pos, if_neg, opAnd, opOr, opXor, opDiff, opShr, opBit, ntv, csv, ntw, csw, hbig, ntsv1, cssv1, ntu, csu, lnu, nty, csy, lny, gs, c2, c1', r1, r2, ntz, csz, lnz, ntsv2, cssv2, ntrk, csrk, lnrk, gt, ntu1, csu1, lnu1, ntu2, csu2, lnu2, d1]
      refine callG_c (by simp) (by simp) ?ha (q1) ?_
      (case ha => simp (disch := first | omega | (simp; done) | fail) [wrap64c, if_pos, if_neg, opAnd, opOr, opXor, opDiff, opShr, opBit, ntv, csv, ntw, csw, hbig, ntsv1, cssv1, ntu, csu, lnu, nty, csy, lny, gs, c2, c1', r1, r2, ntz, csz, lnz, ntsv2, cssv2, ntrk, csrk, lnrk, gt, ntu1, csu1, lnu1, ntu2, csu2, lnu2, d1])
      try simp (disch := first | omega | (simp; done) | fail) [wrap64c, if_pos, if_neg, opAnd, opOr, opXor, opDiff, opShr, opBit, ntv, csv, ntw, csw, hbig, ntsv1, cssv1, ntu, csu, lnu, nty, csy, lny, gs, c2, c1', r1, r2, ntz, csz, lnz, ntsv2, cssv2, ntrk, csrk, lnrk, gt, ntu1, csu1, lnu1, ntu2, csu2, lnu2, d1]
      exact done_ret rfl (by simp [K5])
  · have c3 : gvB N X L = true ∧ (-10000 ≤ c ∧ c ≤ 10000) := by
      simp only [blB, Bool.and_eq_true, decide_eq_true_eq] at c2
      exact ⟨c2.1, c2.2.1⟩
    obtain ⟨n, fs, eN, eX, gd, gj, hLn⟩ := gvB_true c3.1
    subst eN eX
    have n7 := gd.n7
    have hbn := bit7 n7
    have hmono : ∀ T G i, (∀ k, T.testBit k = true → G.testBit k = true) → i < n → costN L G i ≤ costN L T i := fun T G i h hi => costN_mono gj T G i h (by omega)
    obtain ⟨kN, hkN⟩ : ∃ q, q = belowN (costN L) c fs n [] := ⟨_, rfl⟩
    obtain ⟨kin, knil⟩ := below_in gd (costN L) c []
    rw [← hkN] at kin knil
    have kfull := below_full gd gj hLn c c3.2.1 []
    rw [← hkN] at kfull
    have klt := gd.lt kN kin
    have k128 : kN < 128 := by omega
    have r2 : blR (n : Int) (toN fs) L c [] = (kN : Int) := by rw [blR, if_pos c2, natsOf_toN, hkN]; rfl
    have r1 : blB (n : Int) (toN fs) L c ch = true → blR (n : Int) (toN fs) L c ch = (kN : Int) := fun h => by rw [blR, if_pos h, natsOf_toN, hkN, Int.toNat_natCast, below_same gd hmono c ch []]
    have spg : spB (n : Int) (toN fs) = true := spB_of gd
    have gvt : gvB (n : Int) (toN fs) L = true := c3.1
    have gvt' : (spB (n : Int) (toN fs) && jobsB L (n : Int)) = true := gvt
    have one1 : oneB (n : Int) (toN fs) (kN : Int) = true := by simp [oneB, spg, kin, mem_toN]
    obtain ⟨tp, htp⟩ : ∃ q, q = topN (costN L) (greedN (costN L) fs n) := ⟨_, rfl⟩
    rw [← htp] at kfull
    obtain ⟨o, ho⟩ : ∃ q, q = outerN (fam fs) n kN := ⟨_, rfl⟩
    have olt : o < bit n := ho ▸ outerN_lt _ _ _
    have q1 := bestCost_ok h6 _ u (n : Int) (toN fs) L hC hJ lX'
    rw [gvt', show bestC (n : Int) (toN fs) L = tp by rw [bestC, if_pos gvt', natsOf_toN, htp]; rfl] at q1
    have q2 := implHas_ok h6 _ (n : Int) (toN fs) (kN : Int) hC lX'
    rw [one1, oneB_in one1] at q2
    have q3 := implOuter_ok h6 _ (n : Int) (toN fs) (kN : Int) hC lX'
    rw [one1, show outerR (n : Int) (toN fs) (kN : Int) = (o : Int) by rw [outerR, if_pos one1, natsOf_toN, ho]; rfl] at q3
    cases c1 : blB (n : Int) (toN fs) L c ch
    · have r0 : blR (n : Int) (toN fs) L c ch = 0 := by rw [blR, c1]; rfl
      try simp (disch := first | omega | (simp; done) | fail) [wrap64c, if_pos, if_neg, opAnd, opOr, opXor, opDiff, opShr, opBit, ntv, csv, ntw, csw, hbig, ntsv1, cssv1, ntu, csu, lnu, nty, csy, lny, gs, c2, r2, c1, r0]
      have hqq : decide ((kN : Int) = ((bit n : Nat) : Int) - 1) = decide (tp ≤ c) := by
        rw [Bool.eq_iff_iff, decide_eq_true_eq, decide_eq_true_eq, ← kfull]
        omega
      try simp (disch := first | omega | (simp; done) | fail) [wrap64c, if_pos, if_neg, opAnd, opOr, opXor, opDiff, opShr, opBit, ntv, csv, ntw, csw, hbig, ntsv1, cssv1, ntu, csu, lnu, nty, csy, lny, gs, c2, r2, c1, r0]
      refine callG_c (by simp) (by simp) ?ha (q1) ?_
      (case ha => simp (disch := first | omega | (simp; done) | fail) [wrap64c, if_pos, if_neg, opAnd, opOr, opXor, opDiff, opShr, opBit, ntv, csv, ntw, csw, hbig, ntsv1, cssv1, ntu, csu, lnu, nty, csy, lny, gs, c2, r2, c1, r0])
      try simp (disch := first | omega | (simp; done) | fail) [wrap64c, if_pos, if_neg, opAnd, opOr, opXor, opDiff, opShr, opBit, ntv, csv, ntw, csw, hbig, ntsv1, cssv1, ntu, csu, lnu, nty, csy, lny, gs, c2, r2, c1, r0]
      refine callG_c (by simp) (by simp) ?ha (q2) ?_
      (case ha => simp (disch := first | omega | (simp; done) | fail) [wrap64c, if_pos, if_neg, opAnd, opOr, opXor, opDiff, opShr, opBit, ntv, csv, ntw, csw, hbig, ntsv1, cssv1, ntu, csu, lnu, nty, csy, lny, gs, c2, r2, c1, r0])
      try simp (disch := first | omega | (simp; done) | fail) [wrap64c, if_pos, if_neg, opAnd, opOr, opXor, opDiff, opShr, opBit, ntv, csv, ntw, csw, hbig, ntsv1, cssv1, ntu, csu, lnu, nty, csy, lny, gs, c2, r2, c1, r0]
      refine callG_c (by simp) (by simp) ?ha (q3) ?_
      (case ha => simp (disch := first | omega | (simp; done) | fail) [wrap64c, if_pos, if_neg, opAnd, opOr, opXor, opDiff, opShr, opBit, ntv, csv, ntw, csw, hbig, ntsv1, cssv1, ntu, csu, lnu, nty, csy, lny, gs, c2, r2, c1, r0])
      try simp (disch := first | omega | (simp; done) | fail) [wrap64c, if_pos, if_neg, opAnd, opOr, opXor, opDiff, opShr, opBit, ntv, csv, ntw, csw, hbig, ntsv1, cssv1, ntu, csu, lnu, nty, csy, lny, gs, c2, r2, c1, r0]
      refine WD_loopC [1, 5, 6, 7, 13, 21] (fun m tm h' => ∃ j, m = n - j ∧ h6 = h' ∧ tm 23 = .int .i64 (j : Int) ∧ (j ≤ n)) _ ⟨0, rfl, rfl, (by simp (disch := first | omega | (simp; done) | fail) [wrap64c, if_pos, if_neg, opAnd, opOr, opXor, opDiff, opShr, opBit, ntv, csv, ntw, csw, hbig, ntsv1, cssv1, ntu, csu, lnu, nty, csy, lny, gs, c2, r2, c1, r0]), (by first | omega | assumption | (simp (disch := first | omega | (simp; done) | fail) [wrap64c, if_pos, if_neg, opAnd, opOr, opXor, opDiff, opShr, opBit, ntv, csv, ntw, csw, hbig, ntsv1, cssv1, ntu, csu, lnu, nty, csy, lny, gs, c2, r2, c1, r0] <;> omega))⟩ ?_
      rintro m tm h' hFr ⟨j, rfl, rfl, e23, hj⟩
      simp only [FrameL] at hFr
      obtain ⟨f1_0, f5_0, f6_0, f7_0, f13_0, f21_0, -⟩ := hFr
      try simp (disch := first | omega | (simp; done) | fail) [wrap64c, if_pos, if_neg, opAnd, opOr, opXor, opDiff, opShr, opBit, ntv, csv, ntw, csw, hbig, ntsv1, cssv1, ntu, csu, lnu, nty, csy, lny, gs, c2, r2, c1, r0] at f1_0 f5_0 f6_0 f7_0 f13_0 f21_0
      have e1 := f1_0
      have e5 := f5_0
      have e6 := f6_0
      have e7 := f7_0
      have e13 := f13_0
      have e21 := f21_0
      by_cases hlt : j < n
      · have tx := shrMod o j
        have hor : nShr o j ≤ o := nShr_le _ _
        cases xb : o.testBit j
        · rw [xb] at tx
          have tx := tx
          try simp (disch := first | omega | (simp; done) | fail) [wrap64c, if_pos, if_neg, opAnd, opOr, opXor, opDiff, opShr, opBit, ntv, csv, ntw, csw, hbig, ntsv1, cssv1, ntu, csu, lnu, nty, csy, lny, gs, c2, r2, c1, r0, e1, e5, e6, e7, e13, e21, e23, hlt, tx]
          refine loopK_next _ ?hm ?hf ⟨j + 1, rfl, rfl, (by simp (disch := first | omega | (simp; done) | fail) [wrap64c, if_pos, if_neg, opAnd, opOr, opXor, opDiff, opShr, opBit, ntv, csv, ntw, csw, hbig, ntsv1, cssv1, ntu, csu, lnu, nty, csy, lny, gs, c2, r2, c1, r0, e1, e5, e6, e7, e13, e21, e23, hlt, tx] <;> omega), (by first | omega | assumption | (simp (disch := first | omega | (simp; done) | fail) [wrap64c, if_pos, if_neg, opAnd, opOr, opXor, opDiff, opShr, opBit, ntv, csv, ntw, csw, hbig, ntsv1, cssv1, ntu, csu, lnu, nty, csy, lny, gs, c2, r2, c1, r0, e1, e5, e6, e7, e13, e21, e23, hlt, tx] <;> omega))⟩
          (case hm => first | omega | (simp; omega))
          (case hf => simp [FrameL, ntv, csv, ntw, csw, hbig, ntsv1, cssv1, ntu, csu, lnu, nty, csy, lny, gs, c2, r2, c1, r0, e1, e5, e6, e7, e13, e21, e23, hlt, tx, f1_0, f5_0, f6_0, f7_0, f13_0, f21_0])
        · rw [xb] at tx
          have tx := tx
          have hmi : j ∈ itemsN (outerN (fam fs) n kN) := mem_items.2 ⟨by omega, ho ▸ xb⟩
          have hcl : c < costN L kN j := by
            rcases Int.lt_or_le c (costN L kN j) with h | h
            · exact h
            · exfalso
              have : j ∈ cheapN (costN L) c (fam fs) n kN := List.mem_filter.2 ⟨hmi, decide_eq_true h⟩
              rw [knil] at this
              cases this
          have hok : atOK (n : Int) (toN fs) L (kN : Int) (j : Int) = true := by
            rw [atOK, gvt, one1, natsOf_toN, Int.toNat_natCast, Int.toNat_natCast, Int.toNat_natCast, ← ho, xb]
            simp; omega
          have q4 := implAtC_ok h6 _ u (n : Int) (toN fs) L (kN : Int) (j : Int) hC hJ lX'
          rw [hok, show atC (n : Int) (toN fs) L (kN : Int) (j : Int) = costN L kN j by rw [atC, if_pos hok]; rfl] at q4
          have hng : ¬ costN L kN j ≤ c := by omega
          try simp (disch := first | omega | (simp; done) | fail) [wrap64c, if_pos, if_neg, opAnd, opOr, opXor, opDiff, opShr, opBit, ntv, csv, ntw, csw, hbig, ntsv1, cssv1, ntu, csu, lnu, nty, csy, lny, gs, c2, r2, c1, r0, e1, e5, e6, e7, e13, e21, e23, hlt, tx, hng]
          refine callG_c (by simp) (by simp) ?ha (q4) ?_
          (case ha => simp (disch := first | omega | (simp; done) | fail) [wrap64c, if_pos, if_neg, opAnd, opOr, opXor, opDiff, opShr, opBit, ntv, csv, ntw, csw, hbig, ntsv1, cssv1, ntu, csu, lnu, nty, csy, lny, gs, c2, r2, c1, r0, e1, e5, e6, e7, e13, e21, e23, hlt, tx, hng])
          try simp (disch := first | omega | (simp; done) | fail) [wrap64c, if_pos, if_neg, opAnd, opOr, opXor, opDiff, opShr, opBit, ntv, csv, ntw, csw, hbig, ntsv1, cssv1, ntu, csu, lnu, nty, csy, lny, gs, c2, r2, c1, r0, e1, e5, e6, e7, e13, e21, e23, hlt, tx, hng]
          refine loopK_next _ ?hm ?hf ⟨j + 1, rfl, rfl, (by simp (disch := first | omega | (simp; done) | fail) [wrap64c, if_pos, if_neg, opAnd, opOr, opXor, opDiff, opShr, opBit, ntv, csv, ntw, csw, hbig, ntsv1, cssv1, ntu, csu, lnu, nty, csy, lny, gs, c2, r2, c1, r0, e1, e5, e6, e7, e13, e21, e23, hlt, tx, hng] <;> omega), (by first | omega | assumption | (simp (disch := first | omega | (simp; done) | fail) [wrap64c, if_pos, if_neg, opAnd, opOr, opXor, opDiff, opShr, opBit, ntv, csv, ntw, csw, hbig, ntsv1, cssv1, ntu, csu, lnu, nty, csy, lny, gs, c2, r2, c1, r0, e1, e5, e6, e7, e13, e21, e23, hlt, tx, hng] <;> omega))⟩
          (case hm => first | omega | (simp; omega))
          (case hf => simp [FrameL, ntv, csv, ntw, csw, hbig, ntsv1, cssv1, ntu, csu, lnu, nty, csy, lny, gs, c2, r2, c1, r0, e1, e5, e6, e7, e13, e21, e23, hlt, tx, hng, f1_0, f5_0, f6_0, f7_0, f13_0, f21_0])
      · try simp (disch := first | omega | (simp; done) | fail) [wrap64c, if_pos, if_neg, opAnd, opOr, opXor, opDiff, opShr, opBit, ntv, csv, ntw, csw, hbig, ntsv1, cssv1, ntu, csu, lnu, nty, csy, lny, gs, c2, r2, c1, r0, e1, e5, e6, e7, e13, e21, e23, hlt]
        obtain ⟨g0, hg0⟩ : ∃ x, x = h6 := ⟨_, rfl⟩
        have K0 := K6
        rw [← hg0] at K0
        have hv := hv
        have hw := hw
        rw [← hg0] at hv
        rw [← hg0] at hw
        try rw [← hg0]
        obtain ⟨_, g1, p1, a1, z, J, nn, rfl, hT, lJ⟩ := drawAreTasks_ok g0 w ys (bytes_old hw)
        refine callG_c (by simp) (by simp) ?ha (p1) ?_
        (case ha => simp (disch := first | omega | (simp; done) | fail) [wrap64c, if_pos, if_neg, opAnd, opOr, opXor, opDiff, opShr, opBit, ntv, csv, ntw, csw, hbig, ntsv1, cssv1, ntu, csu, lnu, nty, csy, lny, gs, c2, r2, c1, r0, e1, e5, e6, e7, e13, e21, e23, hlt])
        have n1 := a1.1.1
        have K1 := K0.trans a1.1
        have hv := hv.keep a1.1
        have hw := hw.keep a1.1
        have hT := jobs_of hT (by omega)
        have ntz := hT.nt
        have csz := hT.cs
        have lnz := hT.lenD
        try simp (disch := first | omega | (simp; done) | fail) [wrap64c, if_pos, if_neg, opAnd, opOr, opXor, opDiff, opShr, opBit, ntv, csv, ntw, csw, hbig, ntsv1, cssv1, ntu, csu, lnu, nty, csy, lny, gs, c2, r2, c1, r0, e1, e5, e6, e7, e13, e21, e23, hlt, ntz, csz, lnz]
        refine callG_c (by simp) (by simp) ?ha (areTasks_ok g1 z J nn hT) ?_
        (case ha => simp (disch := first | omega | (simp; done) | fail) [wrap64c, if_pos, if_neg, opAnd, opOr, opXor, opDiff, opShr, opBit, ntv, csv, ntw, csw, hbig, ntsv1, cssv1, ntu, csu, lnu, nty, csy, lny, gs, c2, r2, c1, r0, e1, e5, e6, e7, e13, e21, e23, hlt, ntz, csz, lnz])
        try simp (disch := first | omega | (simp; done) | fail) [wrap64c, if_pos, if_neg, opAnd, opOr, opXor, opDiff, opShr, opBit, ntv, csv, ntw, csw, hbig, ntsv1, cssv1, ntu, csu, lnu, nty, csy, lny, gs, c2, r2, c1, r0, e1, e5, e6, e7, e13, e21, e23, hlt, ntz, csz, lnz]
        refine callG_c (by simp) (by simp) ?ha (specAreTasks_ok g1 z J nn hT) ?_
        (case ha => simp (disch := first | omega | (simp; done) | fail) [wrap64c, if_pos, if_neg, opAnd, opOr, opXor, opDiff, opShr, opBit, ntv, csv, ntw, csw, hbig, ntsv1, cssv1, ntu, csu, lnu, nty, csy, lny, gs, c2, r2, c1, r0, e1, e5, e6, e7, e13, e21, e23, hlt, ntz, csz, lnz])
        try simp (disch := first | omega | (simp; done) | fail) [wrap64c, if_pos, if_neg, opAnd, opOr, opXor, opDiff, opShr, opBit, ntv, csv, ntw, csw, hbig, ntsv1, cssv1, ntu, csu, lnu, nty, csy, lny, gs, c2, r2, c1, r0, e1, e5, e6, e7, e13, e21, e23, hlt, ntz, csz, lnz]
        obtain ⟨_, g2, p2, a2, s2, G, Y, rk, R, rfl, hD, lY, hR, lR⟩ := drawFirst_ok g1 w ys (bytes_old hw)
        refine callG_c (by simp) (by simp) ?ha (p2) ?_
        (case ha => simp (disch := first | omega | (simp; done) | fail) [wrap64c, if_pos, if_neg, opAnd, opOr, opXor, opDiff, opShr, opBit, ntv, csv, ntw, csw, hbig, ntsv1, cssv1, ntu, csu, lnu, nty, csy, lny, gs, c2, r2, c1, r0, e1, e5, e6, e7, e13, e21, e23, hlt, ntz, csz, lnz])
        have n2 := a2.1.1
        have K2 := K1.trans a2.1
        have hv := hv.keep a2.1
        have hw := hw.keep a2.1
        have hT := hT.keep a2.1
        obtain ⟨sv2, rfl, hsv2⟩ := hD
        have hsv2 := hsv2.ints
        have ntsv2 := hsv2.nt
        have cssv2 := hsv2.cs
        have hD : Space g2 (.agg #[.int .i64 G, sv2]) G Y := .mk hsv2
        have ntrk := hR.nt
        have csrk := hR.cs
        have lnrk := hR.lenD
        try simp (disch := first | omega | (simp; done) | fail) [wrap64c, if_pos, if_neg, opAnd, opOr, opXor, opDiff, opShr, opBit, ntv, csv, ntw, csw, hbig, ntsv1, cssv1, ntu, csu, lnu, nty, csy, lny, gs, c2, r2, c1, r0, e1, e5, e6, e7, e13, e21, e23, hlt, ntz, csz, lnz, ntsv2, cssv2, ntrk, csrk, lnrk, putCells]
        first | refine WY_heap fun g3 q_g3 => ?_ | refine callG_heap fun g3 q_g3 => ?_ | refine callP_heap fun g3 q_g3 => ?_ | refine callS_heap fun g3 q_g3 => ?_ | refine RY_heap fun g3 q_g3 => ?_ | refine PY_heap fun g3 q_g3 => ?_ | refine SY_heap fun g3 q_g3 => ?_ | refine doneY_heap fun g3 q_g3 => ?_ | refine loopK_heap fun g3 q_g3 => ?_ | refine thenY_heap fun g3 q_g3 => ?_ | refine thenM_heap fun g3 q_g3 => ?_
        have b3 : Adds g2 g3 := by rw [q_g3]; exact (by first | exact aK | exact kK)
        have n3 := b3.1.1
        have K3 := K2.trans b3.1
        have hv := hv.keep b3.1
        have hw := hw.keep b3.1
        have hT := hT.keep b3.1
        have hD := hD.keep b3.1
        have hR := hR.keep b3.1
        have m3 : g3.next = g2.next + 1 := by simp [q_g3]
        have gt : g3.get g2.next = .cells [.int .i64 G, sv2] true true 1 := by simp [q_g3]
        have lY' : Y.length < 2 ^ 40 := by omega
        obtain ⟨_, g4, p4, a4, u1, rfl, hu1⟩ := implFirst_ok g3 _ rk G Y R hD hR lY'
        refine callG_c (by simp) (by simp) ?ha (p4) ?_
        (case ha => simp (disch := first | omega | (simp; done) | fail) [wrap64c, if_pos, if_neg, opAnd, opOr, opXor, opDiff, opShr, opBit, ntv, csv, ntw, csw, hbig, ntsv1, cssv1, ntu, csu, lnu, nty, csy, lny, gs, c2, r2, c1, r0, e1, e5, e6, e7, e13, e21, e23, hlt, ntz, csz, lnz, ntsv2, cssv2, ntrk, csrk, lnrk, gt])
        have n4 := a4.1.1
        have K4 := K3.trans a4.1
        have gt : g4.get g2.next = .cells [.int .i64 G, sv2] true true 1 := by rw [a4.1.2 _ (by omega)]; exact gt
        have hv := hv.keep a4.1
        have hw := hw.keep a4.1
        have hT := hT.keep a4.1
        have hD := hD.keep a4.1
        have hR := hR.keep a4.1
        have hu1 := hu1.ints
        have ntu1 := hu1.nt
        have csu1 := hu1.cs
        have lnu1 := hu1.lenD
        try simp (disch := first | omega | (simp; done) | fail) [wrap64c, if_pos, if_neg, opAnd, opOr, opXor, opDiff, opShr, opBit, ntv, csv, ntw, csw, hbig, ntsv1, cssv1, ntu, csu, lnu, nty, csy, lny, gs, c2, r2, c1, r0, e1, e5, e6, e7, e13, e21, e23, hlt, ntz, csz, lnz, ntsv2, cssv2, ntrk, csrk, lnrk, gt, ntu1, csu1, lnu1]
        obtain ⟨_, g5, p5, a5, u2, rfl, hu2⟩ := specFirst_ok g4 _ rk G Y R hD hR lY'
        refine callG_c (by simp) (by simp) ?ha (p5) ?_
        (case ha => simp (disch := first | omega | (simp; done) | fail) [wrap64c, if_pos, if_neg, opAnd, opOr, opXor, opDiff, opShr, opBit, ntv, csv, ntw, csw, hbig, ntsv1, cssv1, ntu, csu, lnu, nty, csy, lny, gs, c2, r2, c1, r0, e1, e5, e6, e7, e13, e21, e23, hlt, ntz, csz, lnz, ntsv2, cssv2, ntrk, csrk, lnrk, gt, ntu1, csu1, lnu1])
        have n5 := a5.1.1
        have K5 := K4.trans a5.1
        have gt : g5.get g2.next = .cells [.int .i64 G, sv2] true true 1 := by rw [a5.1.2 _ (by omega)]; exact gt
        have hv := hv.keep a5.1
        have hw := hw.keep a5.1
        have hT := hT.keep a5.1
        have hD := hD.keep a5.1
        have hR := hR.keep a5.1
        have hu1 := hu1.keep a5.1
        have hu2 := hu2.ints
        have ntu2 := hu2.nt
        have csu2 := hu2.cs
        have lnu2 := hu2.lenD
        try simp (disch := first | omega | (simp; done) | fail) [wrap64c, if_pos, if_neg, opAnd, opOr, opXor, opDiff, opShr, opBit, ntv, csv, ntw, csw, hbig, ntsv1, cssv1, ntu, csu, lnu, nty, csy, lny, gs, c2, r2, c1, r0, e1, e5, e6, e7, e13, e21, e23, hlt, ntz, csz, lnz, ntsv2, cssv2, ntrk, csrk, lnrk, gt, ntu1, csu1, lnu1, ntu2, csu2, lnu2]
        refine callG_c (by simp) (by simp) ?ha (iSame_ok g5 _ _ _ _ hu1 hu2) ?_
        (case ha => simp (disch := first | omega | (simp; done) | fail) [wrap64c, if_pos, if_neg, opAnd, opOr, opXor, opDiff, opShr, opBit, ntv, csv, ntw, csw, hbig, ntsv1, cssv1, ntu, csu, lnu, nty, csy, lny, gs, c2, r2, c1, r0, e1, e5, e6, e7, e13, e21, e23, hlt, ntz, csz, lnz, ntsv2, cssv2, ntrk, csrk, lnrk, gt, ntu1, csu1, lnu1, ntu2, csu2, lnu2])
        try simp (disch := first | omega | (simp; done) | fail) [wrap64c, if_pos, if_neg, opAnd, opOr, opXor, opDiff, opShr, opBit, ntv, csv, ntw, csw, hbig, ntsv1, cssv1, ntu, csu, lnu, nty, csy, lny, gs, c2, r2, c1, r0, e1, e5, e6, e7, e13, e21, e23, hlt, ntz, csz, lnz, ntsv2, cssv2, ntrk, csrk, lnrk, gt, ntu1, csu1, lnu1, ntu2, csu2, lnu2]
        cases d1 : fwB G Y R
        · try simp (disch := first | omega | (simp; done) | fail) [wrap64c, if_pos, if_neg, opAnd, opOr, opXor, opDiff, opShr, opBit, ntv, csv, ntw, csw, hbig, ntsv1, cssv1, ntu, csu, lnu, nty, csy, lny, gs, c2, r2, c1, r0, e1, e5, e6, e7, e13, e21, e23, hlt, ntz, csz, lnz, ntsv2, cssv2, ntrk, csrk, lnrk, gt, ntu1, csu1, lnu1, ntu2, csu2, lnu2, d1]
          exact done_ret rfl (by simp [K5])
        · obtain ⟨m2, ys2, eG, eY, gd2, lR2, hR2⟩ := fwB_true d1
          subst eG eY
          have eF : fullB (m2 : Int) (toN ys2) (fwR (m2 : Int) (toN ys2) R) = true := by rw [fwR, if_pos d1, natsOf_toN]; exact greed_full gd2 (spB_of gd2) _
          have q1 := iWord_ok g5 _ u1 (m2 : Int) (toN ys2) _ hD hu1 lY'
          rw [eF] at q1
          try simp (disch := first | omega | (simp; done) | fail) [wrap64c, if_pos, if_neg, opAnd, opOr, opXor, opDiff, opShr, opBit, ntv, csv, ntw, csw, hbig, ntsv1, cssv1, ntu, csu, lnu, nty, csy, lny, gs, c2, r2, c1, r0, e1, e5, e6, e7, e13, e21, e23, hlt, ntz, csz, lnz, ntsv2, cssv2, ntrk, csrk, lnrk, gt, ntu1, csu1, lnu1, ntu2, csu2, lnu2, d1]
          refine callG_c (by simp) (by simp) ?ha (q1) ?_
          (case ha => simp (disch := first | omega | (simp; done) | fail) [wrap64c, if_pos, if_neg, opAnd, opOr, opXor, opDiff, opShr, opBit, ntv, csv, ntw, csw, hbig, ntsv1, cssv1, ntu, csu, lnu, nty, csy, lny, gs, c2, r2, c1, r0, e1, e5, e6, e7, e13, e21, e23, hlt, ntz, csz, lnz, ntsv2, cssv2, ntrk, csrk, lnrk, gt, ntu1, csu1, lnu1, ntu2, csu2, lnu2, d1])
          try simp (disch := first | omega | (simp; done) | fail) [wrap64c, if_pos, if_neg, opAnd, opOr, opXor, opDiff, opShr, opBit, ntv, csv, ntw, csw, hbig, ntsv1, cssv1, ntu, csu, lnu, nty, csy, lny, gs, c2, r2, c1, r0, e1, e5, e6, e7, e13, e21, e23, hlt, ntz, csz, lnz, ntsv2, cssv2, ntrk, csrk, lnrk, gt, ntu1, csu1, lnu1, ntu2, csu2, lnu2, d1]
          exact done_ret rfl (by simp [K5])
    · have r3 := r1 c1
      try simp (disch := first | omega | (simp; done) | fail) [wrap64c, if_pos, if_neg, opAnd, opOr, opXor, opDiff, opShr, opBit, ntv, csv, ntw, csw, hbig, ntsv1, cssv1, ntu, csu, lnu, nty, csy, lny, gs, c2, r2, c1, r3]
      have hqq : decide ((kN : Int) = ((bit n : Nat) : Int) - 1) = decide (tp ≤ c) := by
        rw [Bool.eq_iff_iff, decide_eq_true_eq, decide_eq_true_eq, ← kfull]
        omega
      try simp (disch := first | omega | (simp; done) | fail) [wrap64c, if_pos, if_neg, opAnd, opOr, opXor, opDiff, opShr, opBit, ntv, csv, ntw, csw, hbig, ntsv1, cssv1, ntu, csu, lnu, nty, csy, lny, gs, c2, r2, c1, r3]
      refine callG_c (by simp) (by simp) ?ha (q1) ?_
      (case ha => simp (disch := first | omega | (simp; done) | fail) [wrap64c, if_pos, if_neg, opAnd, opOr, opXor, opDiff, opShr, opBit, ntv, csv, ntw, csw, hbig, ntsv1, cssv1, ntu, csu, lnu, nty, csy, lny, gs, c2, r2, c1, r3])
      try simp (disch := first | omega | (simp; done) | fail) [wrap64c, if_pos, if_neg, opAnd, opOr, opXor, opDiff, opShr, opBit, ntv, csv, ntw, csw, hbig, ntsv1, cssv1, ntu, csu, lnu, nty, csy, lny, gs, c2, r2, c1, r3]
      refine callG_c (by simp) (by simp) ?ha (q2) ?_
      (case ha => simp (disch := first | omega | (simp; done) | fail) [wrap64c, if_pos, if_neg, opAnd, opOr, opXor, opDiff, opShr, opBit, ntv, csv, ntw, csw, hbig, ntsv1, cssv1, ntu, csu, lnu, nty, csy, lny, gs, c2, r2, c1, r3])
      try simp (disch := first | omega | (simp; done) | fail) [wrap64c, if_pos, if_neg, opAnd, opOr, opXor, opDiff, opShr, opBit, ntv, csv, ntw, csw, hbig, ntsv1, cssv1, ntu, csu, lnu, nty, csy, lny, gs, c2, r2, c1, r3]
      refine callG_c (by simp) (by simp) ?ha (q3) ?_
      (case ha => simp (disch := first | omega | (simp; done) | fail) [wrap64c, if_pos, if_neg, opAnd, opOr, opXor, opDiff, opShr, opBit, ntv, csv, ntw, csw, hbig, ntsv1, cssv1, ntu, csu, lnu, nty, csy, lny, gs, c2, r2, c1, r3])
      try simp (disch := first | omega | (simp; done) | fail) [wrap64c, if_pos, if_neg, opAnd, opOr, opXor, opDiff, opShr, opBit, ntv, csv, ntw, csw, hbig, ntsv1, cssv1, ntu, csu, lnu, nty, csy, lny, gs, c2, r2, c1, r3]
      refine WD_loopC [1, 5, 6, 7, 13, 21] (fun m tm h' => ∃ j, m = n - j ∧ h6 = h' ∧ tm 23 = .int .i64 (j : Int) ∧ (j ≤ n)) _ ⟨0, rfl, rfl, (by simp (disch := first | omega | (simp; done) | fail) [wrap64c, if_pos, if_neg, opAnd, opOr, opXor, opDiff, opShr, opBit, ntv, csv, ntw, csw, hbig, ntsv1, cssv1, ntu, csu, lnu, nty, csy, lny, gs, c2, r2, c1, r3]), (by first | omega | assumption | (simp (disch := first | omega | (simp; done) | fail) [wrap64c, if_pos, if_neg, opAnd, opOr, opXor, opDiff, opShr, opBit, ntv, csv, ntw, csw, hbig, ntsv1, cssv1, ntu, csu, lnu, nty, csy, lny, gs, c2, r2, c1, r3] <;> omega))⟩ ?_
      rintro m tm h' hFr ⟨j, rfl, rfl, e23, hj⟩
      simp only [FrameL] at hFr
      obtain ⟨f1_1, f5_1, f6_1, f7_1, f13_1, f21_1, -⟩ := hFr
      try simp (disch := first | omega | (simp; done) | fail) [wrap64c, if_pos, if_neg, opAnd, opOr, opXor, opDiff, opShr, opBit, ntv, csv, ntw, csw, hbig, ntsv1, cssv1, ntu, csu, lnu, nty, csy, lny, gs, c2, r2, c1, r3] at f1_1 f5_1 f6_1 f7_1 f13_1 f21_1
      have e1 := f1_1
      have e5 := f5_1
      have e6 := f6_1
      have e7 := f7_1
      have e13 := f13_1
      have e21 := f21_1
      by_cases hlt : j < n
      · have tx := shrMod o j
        have hor : nShr o j ≤ o := nShr_le _ _
        cases xb : o.testBit j
        · rw [xb] at tx
          have tx := tx
          try simp (disch := first | omega | (simp; done) | fail) [wrap64c, if_pos, if_neg, opAnd, opOr, opXor, opDiff, opShr, opBit, ntv, csv, ntw, csw, hbig, ntsv1, cssv1, ntu, csu, lnu, nty, csy, lny, gs, c2, r2, c1, r3, e1, e5, e6, e7, e13, e21, e23, hlt, tx]
          refine loopK_next _ ?hm ?hf ⟨j + 1, rfl, rfl, (by simp (disch := first | omega | (simp; done) | fail) [wrap64c, if_pos, if_neg, opAnd, opOr, opXor, opDiff, opShr, opBit, ntv, csv, ntw, csw, hbig, ntsv1, cssv1, ntu, csu, lnu, nty, csy, lny, gs, c2, r2, c1, r3, e1, e5, e6, e7, e13, e21, e23, hlt, tx] <;> omega), (by first | omega | assumption | (simp (disch := first | omega | (simp; done) | fail) [wrap64c, if_pos, if_neg, opAnd, opOr, opXor, opDiff, opShr, opBit, ntv, csv, ntw, csw, hbig, ntsv1, cssv1, ntu, csu, lnu, nty, csy, lny, gs, c2, r2, c1, r3, e1, e5, e6, e7, e13, e21, e23, hlt, tx] <;> omega))⟩
          (case hm => first | omega | (simp; omega))
          (case hf => simp [FrameL, ntv, csv, ntw, csw, hbig, ntsv1, cssv1, ntu, csu, lnu, nty, csy, lny, gs, c2, r2, c1, r3, e1, e5, e6, e7, e13, e21, e23, hlt, tx, f1_1, f5_1, f6_1, f7_1, f13_1, f21_1])
        · rw [xb] at tx
          have tx := tx
          have hmi : j ∈ itemsN (outerN (fam fs) n kN) := mem_items.2 ⟨by omega, ho ▸ xb⟩
          have hcl : c < costN L kN j := by
            rcases Int.lt_or_le c (costN L kN j) with h | h
            · exact h
            · exfalso
              have : j ∈ cheapN (costN L) c (fam fs) n kN := List.mem_filter.2 ⟨hmi, decide_eq_true h⟩
              rw [knil] at this
              cases this
          have hok : atOK (n : Int) (toN fs) L (kN : Int) (j : Int) = true := by
            rw [atOK, gvt, one1, natsOf_toN, Int.toNat_natCast, Int.toNat_natCast, Int.toNat_natCast, ← ho, xb]
            simp; omega
          have q4 := implAtC_ok h6 _ u (n : Int) (toN fs) L (kN : Int) (j : Int) hC hJ lX'
          rw [hok, show atC (n : Int) (toN fs) L (kN : Int) (j : Int) = costN L kN j by rw [atC, if_pos hok]; rfl] at q4
          have hng : ¬ costN L kN j ≤ c := by omega
          try simp (disch := first | omega | (simp; done) | fail) [wrap64c, if_pos, if_neg, opAnd, opOr, opXor, opDiff, opShr, opBit, ntv, csv, ntw, csw, hbig, ntsv1, cssv1, ntu, csu, lnu, nty, csy, lny, gs, c2, r2, c1, r3, e1, e5, e6, e7, e13, e21, e23, hlt, tx, hng]
          refine callG_c (by simp) (by simp) ?ha (q4) ?_
          (case ha => simp (disch := first | omega | (simp; done) | fail) [wrap64c, if_pos, if_neg, opAnd, opOr, opXor, opDiff, opShr, opBit, ntv, csv, ntw, csw, hbig, ntsv1, cssv1, ntu, csu, lnu, nty, csy, lny, gs, c2, r2, c1, r3, e1, e5, e6, e7, e13, e21, e23, hlt, tx, hng])
          try simp (disch := first | omega | (simp; done) | fail) [wrap64c, if_pos, if_neg, opAnd, opOr, opXor, opDiff, opShr, opBit, ntv, csv, ntw, csw, hbig, ntsv1, cssv1, ntu, csu, lnu, nty, csy, lny, gs, c2, r2, c1, r3, e1, e5, e6, e7, e13, e21, e23, hlt, tx, hng]
          refine loopK_next _ ?hm ?hf ⟨j + 1, rfl, rfl, (by simp (disch := first | omega | (simp; done) | fail) [wrap64c, if_pos, if_neg, opAnd, opOr, opXor, opDiff, opShr, opBit, ntv, csv, ntw, csw, hbig, ntsv1, cssv1, ntu, csu, lnu, nty, csy, lny, gs, c2, r2, c1, r3, e1, e5, e6, e7, e13, e21, e23, hlt, tx, hng] <;> omega), (by first | omega | assumption | (simp (disch := first | omega | (simp; done) | fail) [wrap64c, if_pos, if_neg, opAnd, opOr, opXor, opDiff, opShr, opBit, ntv, csv, ntw, csw, hbig, ntsv1, cssv1, ntu, csu, lnu, nty, csy, lny, gs, c2, r2, c1, r3, e1, e5, e6, e7, e13, e21, e23, hlt, tx, hng] <;> omega))⟩
          (case hm => first | omega | (simp; omega))
          (case hf => simp [FrameL, ntv, csv, ntw, csw, hbig, ntsv1, cssv1, ntu, csu, lnu, nty, csy, lny, gs, c2, r2, c1, r3, e1, e5, e6, e7, e13, e21, e23, hlt, tx, hng, f1_1, f5_1, f6_1, f7_1, f13_1, f21_1])
      · try simp (disch := first | omega | (simp; done) | fail) [wrap64c, if_pos, if_neg, opAnd, opOr, opXor, opDiff, opShr, opBit, ntv, csv, ntw, csw, hbig, ntsv1, cssv1, ntu, csu, lnu, nty, csy, lny, gs, c2, r2, c1, r3, e1, e5, e6, e7, e13, e21, e23, hlt]
        obtain ⟨g0, hg0⟩ : ∃ x, x = h6 := ⟨_, rfl⟩
        have K0 := K6
        rw [← hg0] at K0
        have hv := hv
        have hw := hw
        rw [← hg0] at hv
        rw [← hg0] at hw
        try rw [← hg0]
        obtain ⟨_, g1, p1, a1, z, J, nn, rfl, hT, lJ⟩ := drawAreTasks_ok g0 w ys (bytes_old hw)
        refine callG_c (by simp) (by simp) ?ha (p1) ?_
        (case ha => simp (disch := first | omega | (simp; done) | fail) [wrap64c, if_pos, if_neg, opAnd, opOr, opXor, opDiff, opShr, opBit, ntv, csv, ntw, csw, hbig, ntsv1, cssv1, ntu, csu, lnu, nty, csy, lny, gs, c2, r2, c1, r3, e1, e5, e6, e7, e13, e21, e23, hlt])
        have n1 := a1.1.1
        have K1 := K0.trans a1.1
        have hv := hv.keep a1.1
        have hw := hw.keep a1.1
        have hT := jobs_of hT (by omega)
        have ntz := hT.nt
        have csz := hT.cs
        have lnz := hT.lenD
        try simp (disch := first | omega | (simp; done) | fail) [wrap64c, if_pos, if_neg, opAnd, opOr, opXor, opDiff, opShr, opBit, ntv, csv, ntw, csw, hbig, ntsv1, cssv1, ntu, csu, lnu, nty, csy, lny, gs, c2, r2, c1, r3, e1, e5, e6, e7, e13, e21, e23, hlt, ntz, csz, lnz]
        refine callG_c (by simp) (by simp) ?ha (areTasks_ok g1 z J nn hT) ?_
        (case ha => simp (disch := first | omega | (simp; done) | fail) [wrap64c, if_pos, if_neg, opAnd, opOr, opXor, opDiff, opShr, opBit, ntv, csv, ntw, csw, hbig, ntsv1, cssv1, ntu, csu, lnu, nty, csy, lny, gs, c2, r2, c1, r3, e1, e5, e6, e7, e13, e21, e23, hlt, ntz, csz, lnz])
        try simp (disch := first | omega | (simp; done) | fail) [wrap64c, if_pos, if_neg, opAnd, opOr, opXor, opDiff, opShr, opBit, ntv, csv, ntw, csw, hbig, ntsv1, cssv1, ntu, csu, lnu, nty, csy, lny, gs, c2, r2, c1, r3, e1, e5, e6, e7, e13, e21, e23, hlt, ntz, csz, lnz]
        refine callG_c (by simp) (by simp) ?ha (specAreTasks_ok g1 z J nn hT) ?_
        (case ha => simp (disch := first | omega | (simp; done) | fail) [wrap64c, if_pos, if_neg, opAnd, opOr, opXor, opDiff, opShr, opBit, ntv, csv, ntw, csw, hbig, ntsv1, cssv1, ntu, csu, lnu, nty, csy, lny, gs, c2, r2, c1, r3, e1, e5, e6, e7, e13, e21, e23, hlt, ntz, csz, lnz])
        try simp (disch := first | omega | (simp; done) | fail) [wrap64c, if_pos, if_neg, opAnd, opOr, opXor, opDiff, opShr, opBit, ntv, csv, ntw, csw, hbig, ntsv1, cssv1, ntu, csu, lnu, nty, csy, lny, gs, c2, r2, c1, r3, e1, e5, e6, e7, e13, e21, e23, hlt, ntz, csz, lnz]
        obtain ⟨_, g2, p2, a2, s2, G, Y, rk, R, rfl, hD, lY, hR, lR⟩ := drawFirst_ok g1 w ys (bytes_old hw)
        refine callG_c (by simp) (by simp) ?ha (p2) ?_
        (case ha => simp (disch := first | omega | (simp; done) | fail) [wrap64c, if_pos, if_neg, opAnd, opOr, opXor, opDiff, opShr, opBit, ntv, csv, ntw, csw, hbig, ntsv1, cssv1, ntu, csu, lnu, nty, csy, lny, gs, c2, r2, c1, r3, e1, e5, e6, e7, e13, e21, e23, hlt, ntz, csz, lnz])
        have n2 := a2.1.1
        have K2 := K1.trans a2.1
        have hv := hv.keep a2.1
        have hw := hw.keep a2.1
        have hT := hT.keep a2.1
        obtain ⟨sv2, rfl, hsv2⟩ := hD
        have hsv2 := hsv2.ints
        have ntsv2 := hsv2.nt
        have cssv2 := hsv2.cs
        have hD : Space g2 (.agg #[.int .i64 G, sv2]) G Y := .mk hsv2
        have ntrk := hR.nt
        have csrk := hR.cs
        have lnrk := hR.lenD
        try simp (disch := first | omega | (simp; done) | fail) [wrap64c, if_pos, if_neg, opAnd, opOr, opXor, opDiff, opShr, opBit, ntv, csv, ntw, csw, hbig, ntsv1, cssv1, ntu, csu, lnu, nty, csy, lny, gs, c2, r2, c1, r3, e1, e5, e6, e7, e13, e21, e23, hlt, ntz, csz, lnz, ntsv2, cssv2, ntrk, csrk, lnrk, putCells]
        first | refine WY_heap fun g3 q_g3 => ?_ | refine callG_heap fun g3 q_g3 => ?_ | refine callP_heap fun g3 q_g3 => ?_ | refine callS_heap fun g3 q_g3 => ?_ | refine RY_heap fun g3 q_g3 => ?_ | refine PY_heap fun g3 q_g3 => ?_ | refine SY_heap fun g3 q_g3 => ?_ | refine doneY_heap fun g3 q_g3 => ?_ | refine loopK_heap fun g3 q_g3 => ?_ | refine thenY_heap fun g3 q_g3 => ?_ | refine thenM_heap fun g3 q_g3 => ?_
        have b3 : Adds g2 g3 := by rw [q_g3]; exact (by first | exact aK | exact kK)
        have n3 := b3.1.1
        have K3 := K2.trans b3.1
        have hv := hv.keep b3.1
        have hw := hw.keep b3.1
        have hT := hT.keep b3.1
        have hD := hD.keep b3.1
        have hR := hR.keep b3.1
        have m3 : g3.next = g2.next + 1 := by simp [q_g3]
        have gt : g3.get g2.next = .cells [.int .i64 G, sv2] true true 1 := by simp [q_g3]
        have lY' : Y.length < 2 ^ 40 := by omega
        obtain ⟨_, g4, p4, a4, u1, rfl, hu1⟩ := implFirst_ok g3 _ rk G Y R hD hR lY'
        refine callG_c (by simp) (by simp) ?ha (p4) ?_
        (case ha => simp (disch := first | omega | (simp; done) | fail) [wrap64c, if_pos, if_neg, opAnd, opOr, opXor, opDiff, opShr, opBit, ntv, csv, ntw, csw, hbig, ntsv1, cssv1, ntu, csu, lnu, nty, csy, lny, gs, c2, r2, c1, r3, e1, e5, e6, e7, e13, e21, e23, hlt, ntz, csz, lnz, ntsv2, cssv2, ntrk, csrk, lnrk, gt])
        have n4 := a4.1.1
        have K4 := K3.trans a4.1
        have gt : g4.get g2.next = .cells [.int .i64 G, sv2] true true 1 := by rw [a4.1.2 _ (by omega)]; exact gt
        have hv := hv.keep a4.1
        have hw := hw.keep a4.1
        have hT := hT.keep a4.1
        have hD := hD.keep a4.1
        have hR := hR.keep a4.1
        have hu1 := hu1.ints
        have ntu1 := hu1.nt
        have csu1 := hu1.cs
        have lnu1 := hu1.lenD
        try simp (disch := first | omega | (simp; done) | fail) [wrap64c, if_pos, if_neg, opAnd, opOr, opXor, opDiff, opShr, opBit, ntv, csv, ntw, csw, hbig, ntsv1, cssv1, ntu, csu, lnu, nty, csy, lny, gs, c2, r2, c1, r3, e1, e5, e6, e7, e13, e21, e23, hlt, ntz, csz, lnz, ntsv2, cssv2, ntrk, csrk, lnrk, gt, ntu1, csu1, lnu1]
        obtain ⟨_, g5, p5, a5, u2, rfl, hu2⟩ := specFirst_ok g4 _ rk G Y R hD hR lY'
        refine callG_c (by simp) (by simp) ?ha (p5) ?_
        (case ha => simp (disch := first | omega | (simp; done) | fail) [wrap64c, if_pos, if_neg, opAnd, opOr, opXor, opDiff, opShr, opBit, ntv, csv, ntw, csw, hbig, ntsv1, cssv1, ntu, csu, lnu, nty, csy, lny, gs, c2, r2, c1, r3, e1, e5, e6, e7, e13, e21, e23, hlt, ntz, csz, lnz, ntsv2, cssv2, ntrk, csrk, lnrk, gt, ntu1, csu1, lnu1])
        have n5 := a5.1.1
        have K5 := K4.trans a5.1
        have gt : g5.get g2.next = .cells [.int .i64 G, sv2] true true 1 := by rw [a5.1.2 _ (by omega)]; exact gt
        have hv := hv.keep a5.1
        have hw := hw.keep a5.1
        have hT := hT.keep a5.1
        have hD := hD.keep a5.1
        have hR := hR.keep a5.1
        have hu1 := hu1.keep a5.1
        have hu2 := hu2.ints
        have ntu2 := hu2.nt
        have csu2 := hu2.cs
        have lnu2 := hu2.lenD
        try simp (disch := first | omega | (simp; done) | fail) [wrap64c, if_pos, if_neg, opAnd, opOr, opXor, opDiff, opShr, opBit, ntv, csv, ntw, csw, hbig, ntsv1, cssv1, ntu, csu, lnu, nty, csy, lny, gs, c2, r2, c1, r3, e1, e5, e6, e7, e13, e21, e23, hlt, ntz, csz, lnz, ntsv2, cssv2, ntrk, csrk, lnrk, gt, ntu1, csu1, lnu1, ntu2, csu2, lnu2]
        refine callG_c (by simp) (by simp) ?ha (iSame_ok g5 _ _ _ _ hu1 hu2) ?_
        (case ha => simp (disch := first | omega | (simp; done) | fail) [wrap64c, if_pos, if_neg, opAnd, opOr, opXor, opDiff, opShr, opBit, ntv, csv, ntw, csw, hbig, ntsv1, cssv1, ntu, csu, lnu, nty, csy, lny, gs, c2, r2, c1, r3, e1, e5, e6, e7, e13, e21, e23, hlt, ntz, csz, lnz, ntsv2, cssv2, ntrk, csrk, lnrk, gt, ntu1, csu1, lnu1, ntu2, csu2, lnu2])
        try simp (disch := first | omega | (simp; done) | fail) [wrap64c, if_pos, if_neg, opAnd, opOr, opXor, opDiff, opShr, opBit, ntv, csv, ntw, csw, hbig, ntsv1, cssv1, ntu, csu, lnu, nty, csy, lny, gs, c2, r2, c1, r3, e1, e5, e6, e7, e13, e21, e23, hlt, ntz, csz, lnz, ntsv2, cssv2, ntrk, csrk, lnrk, gt, ntu1, csu1, lnu1, ntu2, csu2, lnu2]
        cases d1 : fwB G Y R
        · try simp (disch := first | omega | (simp; done) | fail) [wrap64c, if_pos, if_neg, opAnd, opOr, opXor, opDiff, opShr, opBit, ntv, csv, ntw, csw, hbig, ntsv1, cssv1, ntu, csu, lnu, nty, csy, lny, gs, c2, r2, c1, r3, e1, e5, e6, e7, e13, e21, e23, hlt, ntz, csz, lnz, ntsv2, cssv2, ntrk, csrk, lnrk, gt, ntu1, csu1, lnu1, ntu2, csu2, lnu2, d1]
          exact done_ret rfl (by simp [K5])
        · obtain ⟨m2, ys2, eG, eY, gd2, lR2, hR2⟩ := fwB_true d1
          subst eG eY
          have eF : fullB (m2 : Int) (toN ys2) (fwR (m2 : Int) (toN ys2) R) = true := by rw [fwR, if_pos d1, natsOf_toN]; exact greed_full gd2 (spB_of gd2) _
          have q1 := iWord_ok g5 _ u1 (m2 : Int) (toN ys2) _ hD hu1 lY'
          rw [eF] at q1
          try simp (disch := first | omega | (simp; done) | fail) [wrap64c, if_pos, if_neg, opAnd, opOr, opXor, opDiff, opShr, opBit, ntv, csv, ntw, csw, hbig, ntsv1, cssv1, ntu, csu, lnu, nty, csy, lny, gs, c2, r2, c1, r3, e1, e5, e6, e7, e13, e21, e23, hlt, ntz, csz, lnz, ntsv2, cssv2, ntrk, csrk, lnrk, gt, ntu1, csu1, lnu1, ntu2, csu2, lnu2, d1]
          refine callG_c (by simp) (by simp) ?ha (q1) ?_
          (case ha => simp (disch := first | omega | (simp; done) | fail) [wrap64c, if_pos, if_neg, opAnd, opOr, opXor, opDiff, opShr, opBit, ntv, csv, ntw, csw, hbig, ntsv1, cssv1, ntu, csu, lnu, nty, csy, lny, gs, c2, r2, c1, r3, e1, e5, e6, e7, e13, e21, e23, hlt, ntz, csz, lnz, ntsv2, cssv2, ntrk, csrk, lnrk, gt, ntu1, csu1, lnu1, ntu2, csu2, lnu2, d1])
          try simp (disch := first | omega | (simp; done) | fail) [wrap64c, if_pos, if_neg, opAnd, opOr, opXor, opDiff, opShr, opBit, ntv, csv, ntw, csw, hbig, ntsv1, cssv1, ntu, csu, lnu, nty, csy, lny, gs, c2, r2, c1, r3, e1, e5, e6, e7, e13, e21, e23, hlt, ntz, csz, lnz, ntsv2, cssv2, ntrk, csrk, lnrk, gt, ntu1, csu1, lnu1, ntu2, csu2, lnu2, d1]
          exact done_ret rfl (by simp [K5])
end Go.Proofs.Ytnncipcldbopgaa
namespace Go.Proofs.Ytnncipcldbopgaa
set_option linter.unusedSimpArgs false
set_option linter.unusedVariables false
open Go Go.Eng Go.ChangeShapes Go.WideShapes Go.ChangeAt Go.RowKit Go.Joins
set_option maxRecDepth 100000 in
theorem keptBelow_lifted (os : Os) (started : os.Started) (H : Type) (enc : TypeId × Value → H) :
    ReturnsInHanded {} Try.checked os 8 .any (Rows.fnKeptBelowSpec.pre6 enc Try.prog Try.f8 Rows.fnKeptBelowRow.domain false) (Rows.fnKeptBelowSpec.post enc Try.prog Try.f8 false true false false) := by
  refine returnsInHanded_of_change (C := Try.checked) own started (by kernel_rfl) Try.func8
    (ChangeSpec.witness6 (enc := enc) (C := Try.checked) false ⟨#[], #[.slice none 0 0, .slice none 0 0], []⟩ 8 (by kernel_rfl) (by kernel_rfl) (by kernel_rfl) (by kernel_rfl)) ?_
  intro W base args ds gs before hval0 hW hcnd _
  have hval : ∀ (j : Nat) t v, Try.f8.params[j]? = some t → args[j]? = some v → Value.okWide Try.prog W .any base t v := hval0
  have hW' := hW
  obtain ⟨p, q, hA0, hV, rfl, hfz, hnd⟩ := hW
  have hA : DataW.TrodAll enc Try.prog W 0 (fun _ => true) true Try.f8.params.toList args.toList ds p := hA0
  rw [Try.params8] at hA hval
  obtain ⟨v0, v1, d0, d1, p0, p1, rfl, rfl, rfl, h0, h1⟩ := trodAll_two hA
  obtain ⟨rfl, rfl⟩ := trodVars_none hV
  simp only [List.append_nil] at hW'
  have lt0 : ∀ x ∈ p0, x.block < W.heap.size := by obtain ⟨m, hm⟩ := h0; exact DataW.trod_lt m _ _ _ hm
  have lt1 : ∀ x ∈ p1, x.block < W.heap.size := by obtain ⟨m, hm⟩ := h1; exact DataW.trod_lt m _ _ _ hm
  obtain ⟨E0, hh0, a0, X0, st0, m0, hva0, hc0⟩ := lay_bytes (hval 0 22 v0 rfl rfl) h0 (start0 W)
  obtain ⟨E1, hh1, a1, X1, st1, m1, hva1, hc1⟩ := lay_bytes (hval 1 22 v1 rfl rfl) h1 st0
  replace hva0 := m1.vrel _ _ hva0
  replace hc0 := hc0.keep m1.keep
  refine (law_calls (args := #[a0, a1]) (args' := #[v0, v1]) st1 rfl (fun i hi => ?_) (lawKeptBelow_ok hh1 a0 X0 hc0 a1 X1 hc1) rfl).mono fun e W' ⟨he, bel⟩ => ?_
  · have : i = 0 ∨ i = 1 := by simp at hi; omega
    rcases this with rfl | rfl
    · exact hva0
    · exact hva1
  · subst he
    exact ⟨_, rfl, _, _, _, [], _, [], hW', trodAll_mk1 (shut_bool Try.underlying4 _), trodAll_mk2 (Below.trod laidOut (by kernel_rfl) (of_decide_eq_true (by kernel_rfl)) h0 bel lt0) (Below.trod laidOut (by kernel_rfl) (of_decide_eq_true (by kernel_rfl)) h1 bel lt1), rfl, bel.frame _, fun h => by cases h⟩
theorem keptBelow_holds : Rows.FnKeptBelowSaid :=
  OpenClaim.holds_of_wide 8 Try.f8 rfl rfl rfl rfl rfl rfl rfl ⟨rfl, rfl, rfl, rfl, rfl⟩ rfl rfl rfl rfl rfl (by kernel_rfl) Try.func8 (by kernel_rfl)
    (of_decide_eq_true (by kernel_rfl)) (by unfold Func.isWrapper; first | (rw [if_pos (by decide +kernel)]; kernel_rfl) | (rw [if_neg (by decide +kernel)]; exact ⟨rfl, rfl⟩))
    (fun os started H enc _ => keptBelow_lifted os started H enc)
end Go.Proofs.Ytnncipcldbopgaa
