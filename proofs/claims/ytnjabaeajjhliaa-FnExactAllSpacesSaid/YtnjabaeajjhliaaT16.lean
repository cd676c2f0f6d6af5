/- All spaces, by the program. -/
import Derived.Test.YtnjabaeajjhliaaT15
import Derived.Test.YtnjabaeajjhliaaS0f
namespace Go.Proofs.Ytnjabaeajjhliaa
set_option linter.unusedSimpArgs false
set_option linter.unusedVariables false
set_option maxHeartbeats 4000000
open Go Go.Eng
attribute [local irreducible] WD RunD PreD Runs CallOK

theorem appI3 {n : Nat} {h0 h : Hp} {v : Value} {xs : List Int} (hs : IntsA n h v xs) (x : Int) (hl : xs.length < 2 ^ 40) (hn : n ≤ h.next) (hA : Adds h0 h) (h0n : h0.next ≤ n) :
    ∃ v' h', appendD Try.prog 30 30 v (.slice (some ⟨h.next, 0, none⟩) 1 1) (h.alloc (.cells [.int .i64 x] true true 1)) = some (v', h') ∧ IntsA n h' v' (xs ++ [x]) ∧ Adds h0 h' ∧ h.next < h'.next ∧
      (∀ F : Nat → Prop, (∀ o, F o → o < h.next) → OffF F v → Same F h h' ∧ OffF F v') := by
  obtain ⟨v', h', g1, g2, g3, g4, g5, g6⟩ := append_one2 (P := Try.prog) (t := 30) (t' := 30) (x := x) (q := h.next) (h := h.alloc (.cells [.int .i64 x] true true 1)) (qx := true) (n := n) (v := v) (xs := xs) (by
    rcases hs with ⟨a, b⟩ | ⟨o, ex, a, b, c, d⟩
    · exact .inl ⟨a, b⟩
    · exact .inr ⟨o, ex, a, b, Nat.lt_succ_of_lt c, by simp [Nat.ne_of_lt c, d]⟩) ty_elT_30 ty_szT_3 ty_zeroT_3 ty_byT_3 (by decide) (by decide) (by simp) (by simp) hl (by simp; omega) (show Adds h0 _ from (by first | exact aK | exact kK)) h0n
  refine ⟨v', h', g1, g2, g3, Nat.lt_of_le_of_lt (by simp) g4, fun F hF hO => ⟨?_, g6 F fun o ho => Nat.lt_succ_of_lt (hF o ho)⟩⟩
  have := g5 F hO
  exact ⟨Nat.le_trans (Nat.le_succ _) this.1, fun o ho ho' => by rw [this.2 o ho (Nat.lt_succ_of_lt ho')]; simp [Nat.ne_of_lt ho']⟩

/-- A space of n items as an element of a list. -/
def spO (n : Nat) (F : Nat → Prop) (h : Hp) (u : List Value) (x : List Nat) : Prop := ∃ w, u = [.int .i64 (n : Int), w] ∧ IntsO F h w (toN x)
def spF (n : Nat) (F : Nat → Prop) (h : Hp) (u : List Value) (x : List Nat) : Prop := ∃ w, u = [.int .i64 (n : Int), w] ∧ IntsF F h w (toN x)
theorem intsO_low {F : Nat → Prop} {h : Hp} {v : Value} {xs : List Int} (hs : IntsO F h v xs) : IntsO (fun o => F o ∧ o < h.next) h v xs := by
  obtain ⟨s, c, e, h1, h2, h3⟩ := hs
  refine ⟨s, c, e, h1, h2, ?_⟩
  rcases h3 with h3 | ⟨o, i, cs, ex, g1, g2, g3, g4⟩
  · exact .inl h3
  · exact .inr ⟨o, i, cs, ex, g1, ⟨g2, g3⟩, g3, g4⟩
theorem spO_steady (n : Nat) : Steady (spO n) where
  mono F G h h' u x := by
    rintro ⟨w, rfl, hw⟩ hfg hk
    exact ⟨w, rfl, (hw.same hk).sub hfg⟩
  low F h u x := by
    rintro ⟨w, rfl, hw⟩
    exact ⟨w, rfl, intsO_low hw⟩
theorem intsF_ro {F : Nat → Prop} {h : Hp} {o : Nat} {v : Value} {xs : List Int} (hs : IntsF F h v xs) (hF : ∀ p, F p → p ≠ o) : IntsF F (roHp o h) v xs := by
  obtain ⟨s, c, e, h1, h2, h3⟩ := hs
  refine ⟨s, c, e, h1, h2, fun k x hk => ?_⟩
  obtain ⟨p, i, cs, own, ex, es, g1, g2, g3, g4, g5, g6⟩ := h3 k x hk
  exact ⟨p, i, cs, false, ex, es, g1, g2, g3, by simp [roHp, hF p g2, g4, roObj], g5, g6⟩
theorem spO_ro (n : Nat) (h : Hp) (F : Nat → Prop) (o : Nat) (u : List Value) (x : List Nat) (hs : spO n F h u x) (hF : ∀ p, F p → p ≠ o) : spF n F (roHp o h) u x := by
  obtain ⟨w, rfl, hw⟩ := hs
  exact ⟨w, rfl, intsF_ro hw.read hF⟩
theorem spF_cmp (n : Nat) (h : Hp) (F : Nat → Prop) (a b : List Value) (x y : List Nat) (hx : spF n F h a x) (hy : spF n F h b y) : CallOK Try.prog 74 #[.agg a.toArray, .agg b.toArray] h (.int .i64 (cmpN x y)) h := by
  obtain ⟨w, rfl, hw⟩ := hx
  obtain ⟨w2, rfl, hw2⟩ := hy
  exact compare_ok h _ _ n n _ _ (.mk hw.ints) (.mk hw2.ints)
theorem opBitU (y : Int) (hy : 0 ≤ y) (hy2 : y < 40) : bShl .u64 1 y = ((bit y.toNat : Nat) : Int) := by
  obtain ⟨k, rfl⟩ := Int.eq_ofNat_of_zero_le hy
  have hk : k < 40 := by omega
  have : ∀ k : Nat, k < 40 → bShl .u64 1 (k : Int) = ((bit k : Nat) : Int) := by decide +kernel
  simpa using this k hk
theorem wrapU64 (x : Int) (h1 : 0 ≤ x) (h2 : x < 18446744073709551616) : IntKind.wrap .u64 x = x := by
  have e : IntKind.wrap .u64 x = x % 18446744073709551616 := rfl
  rw [e]; omega
@[simp] theorem zarrZ (z : Array Value) : zarr z 0 = #[] := by unfold zarr; apply Array.ext <;> simp

@[simp] theorem zarr2_2 (a b : Value) : zarr #[a, b] 2 = #[a, b] := by
  unfold zarr
  apply Array.ext
  · simp
  · intro i h1 h2
    have : i < 2 := by simpa using h2
    rcases Nat.lt_or_ge i 1 with h | h
    · have : i = 0 := by omega
      subst this; simp
    · have : i = 1 := by omega
      subst this; simp
@[simp] theorem famS_zero (m : Nat) : famS m 0 = [] := rfl
theorem ia_putoff {n o : Nat} {h : Hp} {v : Value} {xs : List Int} (hs : IntsA n h v xs) (ho : OffF (fun p => p = o) v) (x : AObj) : IntsA n (h.put o x) v xs := by
  rcases hs with ⟨a, b⟩ | ⟨p, ex, rfl, b, c, d⟩
  · exact .inl ⟨a, b⟩
  · exact .inr ⟨p, ex, rfl, b, c, by simp [show p ≠ o from fun e => ho p 0 _ _ rfl e, d]⟩
theorem appS {n B : Nat} {h0 hq h : Hp} {v w : Value} {L : List (List Nat)} {xs : List Nat} (hs : GL 2 (spO n) B hq v L) (hk : Keeps hq h) (hw : IntsO (fun o => hq.next ≤ o) h w (toN xs)) (hl : L.length < 2 ^ 39) (hB : B ≤ hq.next) (hA : Adds h0 h) (h0n : h0.next ≤ B) :
    ∃ v' h', appendD Try.prog 25 25 v (.slice (some ⟨h.next, 0, none⟩) 1 1) (h.alloc (.cells [.int .i64 (n : Int), w] true true 2)) = some (v', h') ∧ GL 2 (spO n) B h' v' (L ++ [xs]) ∧ Adds h0 h' ∧ h.next < h'.next := by
  have k2 : Adds h (h.alloc (.cells [.int .i64 (n : Int), w] true true 2)) := (by first | exact aK | exact kK)
  obtain ⟨v', h', g1, g2, g3, g4, g5⟩ := GL.append (P := Try.prog) (t := 25) (t' := 25) (z := .agg #[.int .i64 0, .slice none 0 0]) (b := 32) (e := 32) (K := [xs]) (ys := [.int .i64 (n : Int), w]) (F := fun x => hq.next ≤ x ∧ x < h.next) (y := .slice (some ⟨h.next, 0, none⟩) 1 1) (h0 := h0) (spO_steady n)
    (hs.keep (spO_steady n) (hk.trans k2.1)) (by simp [srcV, srcW]) rfl (fun k hk' => by
      have : k = 0 := by simp at hk'; exact hk'
      subst this
      exact ⟨w, rfl, ((intsO_low hw).sub fun o ho => ⟨ho.1, ho.2⟩).keep k2.1⟩)
    (fun x hx => ⟨by omega, by simp; omega, fun hob => by have := (hs.obj hob).2; omega⟩) (by simp) (by simp) (by simp) rfl (by simp) (by decide) (by decide) (by simp) (by simp; omega) (by simp; have := hk.1; omega) (hA.trans k2) h0n
  exact ⟨v', h', g1, g2, g3, by simp at g4; omega⟩

theorem nodup_ix {α : Type} {L : List α} (hn : L.Nodup) {i j : Nat} (hi : i < L.length) (hj : j < L.length) (h : L[i] = L[j]) : i = j := by
  rcases Nat.lt_trichotomy i j with h1 | h1 | h1
  · exact absurd h (List.pairwise_iff_getElem.1 hn i j hi hj h1)
  · exact h1
  · exact absurd h.symm (List.pairwise_iff_getElem.1 hn j i hj hi h1)
theorem famL_free {n : Nat} (hn : 1 ≤ n) : famL n (2 ^ (bit n - 2) - 1) = List.range (bit n) := by
  have hb : 2 ≤ bit n := bit_mono (i := 1) hn
  refine srt_ext (famL_srt hn) List.pairwise_lt_range fun x => ?_
  constructor
  · intro hx; simpa using famL_lt hn x hx
  · intro hx
    have hx' : x < bit n := by simpa using hx
    simp only [famL, List.mem_cons, List.mem_append, List.not_mem_nil, or_false]
    by_cases h0 : x = 0
    · exact .inl h0
    · by_cases h1 : x = bit n - 1
      · exact .inr (.inr h1)
      · exact .inr (.inl (mem_famS.2 ⟨x - 1, by omega, by omega, by rw [Nat.testBit_two_pow_sub_one]; simp; omega⟩))
theorem candK_ne {n : Nat} (h1 : 1 ≤ n) (h7 : n ≤ 7) : candK n (2 ^ (bit n - 2)) ≠ [] := fun e => by
  have hm : List.range (bit n) ∈ candK n (2 ^ (bit n - 2)) := candK_mem.2 ⟨⟨2 ^ (bit n - 2) - 1, by have := Nat.two_pow_pos (bit n - 2); omega, famL_free h1⟩, spB_of (free_good h1 h7)⟩
  rw [e] at hm; cases hm
theorem spaces_ok (h : Hp) (n : Nat) (p1 : 1 ≤ n) (p4 : n ≤ 4) :
    ∃ v' h', CallOK Try.prog 65 #[.int .i64 (n : Int)] h v' h' ∧ Adds h h' ∧ GL 2 (spO n) h.next h' v' (spacesL n) := by
  refine callY_L (args := [.int .i64 (n : Int)]) 55 _ [.tmp 2] Try.func65 rfl rfl rfl ?_
  have hb16 : 2 ≤ bit n ∧ bit n ≤ 16 := ⟨bit_mono (i := 1) p1, bit_mono (j := 4) p4⟩
  have hbb : bit (bit n - 2) ≤ 16384 := bit_mono (j := 14) (by omega)
  have hbp := bit_pos (bit n - 2)
  have hu1 : IntKind.wrap .u64 (((bit n : Nat) : Int) - 2) = ((bit n - 2 : Nat) : Int) := by rw [wrapU64 _ (by omega) (by omega)]; omega
  have hu2 : IntKind.wrap .i64 (((bit n : Nat) : Int) - 1) = ((bit n - 1 : Nat) : Int) := by rw [wrap64c _ (by omega) (by omega)]; omega
  try simp (disch := first | omega | (simp; done) | fail) [wrap64c, if_pos, if_neg, opAnd, opOr, opXor, opDiff, opShr, opBit, hu1, hu2]
  refine WD_drawC 5 rfl (by kernel_rfl) ?_
  try simp (disch := first | omega | (simp; done) | fail) [wrap64c, if_pos, if_neg, opAnd, opOr, opXor, opDiff, opShr, opBit, hu1, hu2, opBitU]
  refine WD_loopC [0, 4, 15] (fun m tm h' => ∃ f u, m = bit (bit n - 2) - f ∧ tm 3 = u ∧ tm 16 = .int .i64 (f : Int) ∧ (f ≤ bit (bit n - 2)) ∧ (Adds h h') ∧ (GL 2 (spO n) h.next h' u (candK n f))) _ ⟨0, _, rfl, (by simp (disch := first | omega | (simp; done) | fail) [wrap64c, if_pos, if_neg, opAnd, opOr, opXor, opDiff, opShr, opBit, hu1, hu2]), (by simp (disch := first | omega | (simp; done) | fail) [wrap64c, if_pos, if_neg, opAnd, opOr, opXor, opDiff, opShr, opBit, hu1, hu2]), (by first | omega | assumption | (simp (disch := first | omega | (simp; done) | fail) [wrap64c, if_pos, if_neg, opAnd, opOr, opXor, opDiff, opShr, opBit, hu1, hu2] <;> omega)), (by first | exact aK | exact kK), (.lit (ex := true) (Nat.le_refl _) (by simp) (by simp))⟩ ?_
  rintro m tm h' hFr ⟨f, u, rfl, e3, e16, hm, ha, hu⟩
  simp only [FrameL] at hFr
  obtain ⟨f0_0, f4_0, f15_0, -⟩ := hFr
  try simp (disch := first | omega | (simp; done) | fail) [wrap64c, if_pos, if_neg, opAnd, opOr, opXor, opDiff, opShr, opBit, hu1, hu2] at f0_0 f4_0 f15_0
  have e0 := f0_0
  have e4 := f4_0
  have e15 := f15_0
  by_cases hlt : f < bit (bit n - 2)
  · have hcl := candK_len n f
    have hcs := candK_succ n f
    rename Hp => hq
    try simp (disch := first | omega | (simp; done) | fail) [wrap64c, if_pos, if_neg, opAnd, opOr, opXor, opDiff, opShr, opBit, hu1, hu2, e0, e3, e4, e15, e16, hlt, putCells]
    first | refine WY_heap fun h1 q_h1 => ?_ | refine callG_heap fun h1 q_h1 => ?_ | refine callP_heap fun h1 q_h1 => ?_ | refine RY_heap fun h1 q_h1 => ?_ | refine PY_heap fun h1 q_h1 => ?_ | refine doneY_heap fun h1 q_h1 => ?_ | refine loopK_heap fun h1 q_h1 => ?_ | refine thenY_heap fun h1 q_h1 => ?_ | refine thenM_heap fun h1 q_h1 => ?_
    have k1 : Adds hq h1 := by rw [q_h1]; exact (by first | exact aK | exact kK)
    have n1 : h1.next = hq.next + 2 := by simp [q_h1]
    have gb1 : h1.get (hq.next + 1) = .cells [.int .i64 (n : Int), .slice (some ⟨hq.next, 0, none⟩) 1 1] true true 1 := by simp [q_h1]
    have gl1 : h1.get hq.next = .cells [.int .i64 0] true true 1 := by simp [q_h1]
    refine WD_loopC [0, 3, 4, 5, 6, 15, 16] (fun m tm h' => ∃ x w, m = bit n - 1 - x ∧ tm 7 = .int .i64 (x : Int) ∧ (x ≤ bit n - 1 ∧ 1 ≤ x) ∧ (Adds hq h') ∧ (IntsA hq.next h' w (toN (0 :: famS f (x - 1)))) ∧ (h'.get (hq.next + 1) = .cells [.int .i64 (n : Int), w] true true 1) ∧ (OffF (fun o => o = hq.next + 1) w) ∧ (hq.next + 1 < h'.next)) _ ⟨1, .slice (some ⟨hq.next, 0, none⟩) 1 1, rfl, (by simp (disch := first | omega | (simp; done) | fail) [wrap64c, if_pos, if_neg, opAnd, opOr, opXor, opDiff, opShr, opBit, hu1, hu2, e0, e3, e4, e15, e16, hlt]), (by first | omega | assumption | (simp (disch := first | omega | (simp; done) | fail) [wrap64c, if_pos, if_neg, opAnd, opOr, opXor, opDiff, opShr, opBit, hu1, hu2, e0, e3, e4, e15, e16, hlt] <;> omega)), k1, (.inr ⟨hq.next, true, by simp, Nat.le_refl _, by omega, by simp [gl1, toN]⟩), gb1, (.mk (by omega)), (by omega)⟩ ?_
    rintro m tm h' hFr ⟨x, w, rfl, e7, hx, ha2, hw, hg, ho, hnn⟩
    simp only [FrameL] at hFr
    obtain ⟨f0_1, f3_1, f4_1, f5_1, f6_1, f15_1, f16_1, -⟩ := hFr
    try simp (disch := first | omega | (simp; done) | fail) [wrap64c, if_pos, if_neg, opAnd, opOr, opXor, opDiff, opShr, opBit, hu1, hu2, e0, e3, e4, e15, e16, hlt] at f0_1 f3_1 f4_1 f5_1 f6_1 f15_1 f16_1
    have e0 := f0_1
    have e3 := f3_1
    have e4 := f4_1
    have e5 := f5_1
    have e6 := f6_1
    have e15 := f15_1
    have e16 := f16_1
    have hfl := famS_len f (x - 1)
    by_cases hlx : x < bit n - 1
    · have hlx' : (x : Int) < ((bit n - 1 : Nat) : Int) := by omega
      have hx1 : IntKind.wrap .i64 ((x : Int) - 1) = ((x - 1 : Nat) : Int) := by rw [wrap64c _ (by omega) (by omega)]; omega
      have hfs := famS_succ f (x - 1)
      rw [show x - 1 + 1 = x by omega] at hfs
      have h01 := nShr_and01 f (x - 1)
      have hsl := nShr_le f (x - 1)
      cases hc : f.testBit (x - 1)
      · rw [hc] at h01 hfs
        have h01 := h01
        try simp (disch := first | omega | (simp; done) | fail) [wrap64c, if_pos, if_neg, opAnd, opOr, opXor, opDiff, opShr, opBit, hu1, hu2, e0, e3, e4, e15, e16, hlt, e5, e6, e7, hg, hlx', hx1, h01]
        refine loopK_next _ ?hm ?hf ⟨x + 1, w, rfl, (by simp (disch := first | omega | (simp; done) | fail) [wrap64c, if_pos, if_neg, opAnd, opOr, opXor, opDiff, opShr, opBit, hu1, hu2, e0, e3, e4, e15, e16, hlt, e5, e6, e7, hg, hlx', hx1, h01] <;> omega), (by first | omega | assumption | (simp (disch := first | omega | (simp; done) | fail) [wrap64c, if_pos, if_neg, opAnd, opOr, opXor, opDiff, opShr, opBit, hu1, hu2, e0, e3, e4, e15, e16, hlt, e5, e6, e7, hg, hlx', hx1, h01] <;> omega)), (by first | omega | assumption | (simp (disch := first | omega | (simp; done) | fail) [wrap64c, if_pos, if_neg, opAnd, opOr, opXor, opDiff, opShr, opBit, hu1, hu2, e0, e3, e4, e15, e16, hlt, e5, e6, e7, hg, hlx', hx1, h01] <;> omega)), (by rw [show x + 1 - 1 = x by omega, hfs]; exact hw), (by first | omega | assumption | (simp (disch := first | omega | (simp; done) | fail) [wrap64c, if_pos, if_neg, opAnd, opOr, opXor, opDiff, opShr, opBit, hu1, hu2, e0, e3, e4, e15, e16, hlt, e5, e6, e7, hg, hlx', hx1, h01] <;> omega)), (by first | omega | assumption | (simp (disch := first | omega | (simp; done) | fail) [wrap64c, if_pos, if_neg, opAnd, opOr, opXor, opDiff, opShr, opBit, hu1, hu2, e0, e3, e4, e15, e16, hlt, e5, e6, e7, hg, hlx', hx1, h01] <;> omega)), (by first | omega | assumption | (simp (disch := first | omega | (simp; done) | fail) [wrap64c, if_pos, if_neg, opAnd, opOr, opXor, opDiff, opShr, opBit, hu1, hu2, e0, e3, e4, e15, e16, hlt, e5, e6, e7, hg, hlx', hx1, h01] <;> omega))⟩
        (case hm => first | omega | (simp; omega))
        (case hf => simp [FrameL, hu1, hu2, e0, e3, e4, e15, e16, hlt, e5, e6, e7, hg, hlx', hx1, h01, f0_1, f3_1, f4_1, f5_1, f6_1, f15_1, f16_1])
      · rw [hc] at h01 hfs
        have h01 := h01
        have ntw := (hw.own (by simp; omega)).nt
        have csw := (hw.own (by simp; omega)).cs
        try simp (disch := first | omega | (simp; done) | fail) [wrap64c, if_pos, if_neg, opAnd, opOr, opXor, opDiff, opShr, opBit, hu1, hu2, e0, e3, e4, e15, e16, hlt, e5, e6, e7, hg, hlx', hx1, h01, ntw, csw]
        obtain ⟨w2, h2, hap, hw2, ha3, hn3, hs3⟩ := appI3 hw (x : Int) (by simp; omega) ha2.1.1 ha2 (Nat.le_refl _)
        obtain ⟨hsm, ho2⟩ := hs3 (fun o => o = hq.next + 1) (fun o e => by omega) ho
        have gb2 : h2.get (hq.next + 1) = .cells [.int .i64 (n : Int), w] true true 1 := by rw [hsm.2 _ rfl hnn]; exact hg
        have ntw2 := (hw2.own (by simp; omega)).nt
        have csw2 := (hw2.own (by simp; omega)).cs
        try simp (disch := first | omega | (simp; done) | fail) [wrap64c, if_pos, if_neg, opAnd, opOr, opXor, opDiff, opShr, opBit, hu1, hu2, e0, e3, e4, e15, e16, hlt, e5, e6, e7, hg, hlx', hx1, h01, ntw, csw, gb2, ntw2, csw2, hap, putCells]
        refine loopK_next _ ?hm ?hf ⟨x + 1, w2, rfl, (by simp (disch := first | omega | (simp; done) | fail) [wrap64c, if_pos, if_neg, opAnd, opOr, opXor, opDiff, opShr, opBit, hu1, hu2, e0, e3, e4, e15, e16, hlt, e5, e6, e7, hg, hlx', hx1, h01, ntw, csw, gb2, ntw2, csw2] <;> omega), (by first | omega | assumption | (simp (disch := first | omega | (simp; done) | fail) [wrap64c, if_pos, if_neg, opAnd, opOr, opXor, opDiff, opShr, opBit, hu1, hu2, e0, e3, e4, e15, e16, hlt, e5, e6, e7, hg, hlx', hx1, h01, ntw, csw, gb2, ntw2, csw2] <;> omega)), (by first | exact aK | exact kK), ?c_hw, (by simp), ho2, (by simp; omega)⟩
        (case hm => first | omega | (simp; omega))
        (case hf => simp [FrameL, hu1, hu2, e0, e3, e4, e15, e16, hlt, e5, e6, e7, hg, hlx', hx1, h01, ntw, csw, gb2, ntw2, csw2, f0_1, f3_1, f4_1, f5_1, f6_1, f15_1, f16_1])
        case c_hw =>
          exact (by
            rw [show x + 1 - 1 = x by omega, hfs, if_pos rfl, show (0 :: (famS f (x - 1) ++ [x])) = (0 :: famS f (x - 1)) ++ [x] from rfl, toN_snoc]
            exact ia_putoff hw2 ho2 _)
    · have hxe : x = bit n - 1 := by omega
      have hlx' : ¬ (x : Int) < ((bit n - 1 : Nat) : Int) := by omega
      rw [show x - 1 = bit n - 2 by omega] at hw hfl
      have ntw := (hw.own (by simp; omega)).nt
      have csw := (hw.own (by simp; omega)).cs
      try simp (disch := first | omega | (simp; done) | fail) [wrap64c, if_pos, if_neg, opAnd, opOr, opXor, opDiff, opShr, opBit, hu1, hu2, e0, e3, e4, e15, e16, hlt, e5, e6, e7, hg, hlx', ntw, csw]
      obtain ⟨w2, h2, hap, hw2, ha3, hn3, hs3⟩ := appI3 hw ((bit n - 1 : Nat) : Int) (by simp; omega) ha2.1.1 ha2 (Nat.le_refl _)
      obtain ⟨hsm, ho2⟩ := hs3 (fun o => o = hq.next + 1) (fun o e => by omega) ho
      have gb2 : h2.get (hq.next + 1) = .cells [.int .i64 (n : Int), w] true true 1 := by rw [hsm.2 _ rfl hnn]; exact hg
      rw [← toN_snoc] at hw2
      have hfe : 0 :: famS f (bit n - 2) ++ [bit n - 1] = famL n f := rfl
      rw [hfe] at hw2
      have hfll := famL_len n f p1
      have ntw2 := (hw2.own (by simp; omega)).nt
      have csw2 := (hw2.own (by simp; omega)).cs
      try simp (disch := first | omega | (simp; done) | fail) [wrap64c, if_pos, if_neg, opAnd, opOr, opXor, opDiff, opShr, opBit, hu1, hu2, e0, e3, e4, e15, e16, hlt, e5, e6, e7, hg, hlx', ntw, csw, gb2, ntw2, csw2, hap, putCells]
      first | refine WY_heap fun h3 q_h3 => ?_ | refine callG_heap fun h3 q_h3 => ?_ | refine callP_heap fun h3 q_h3 => ?_ | refine RY_heap fun h3 q_h3 => ?_ | refine PY_heap fun h3 q_h3 => ?_ | refine doneY_heap fun h3 q_h3 => ?_ | refine loopK_heap fun h3 q_h3 => ?_ | refine thenY_heap fun h3 q_h3 => ?_ | refine thenM_heap fun h3 q_h3 => ?_
      have k3 : Adds hq h3 := by rw [q_h3]; exact (by first | exact aK | exact kK)
      have n3 : h3.next = h2.next := by simp [q_h3]
      have gb3 : h3.get (hq.next + 1) = .cells [.int .i64 (n : Int), w2] true true 1 := by simp [q_h3]
      have hw3 : IntsA hq.next h3 w2 (toN (famL n f)) := by rw [q_h3]; exact ia_putoff hw2 ho2 _
      have hO3 := hw3.own (by simp; omega)
      refine callG_c (by simp) (by simp) ?ha (isSpace_ok h3 (.agg #[.int .i64 (n : Int), w2]) n (toN (famL n f)) (.mk hO3.ints) (by simp; omega)) ?_
      (case ha => simp (disch := first | omega | (simp; done) | fail) [wrap64c, if_pos, if_neg, opAnd, opOr, opXor, opDiff, opShr, opBit, hu1, hu2, e0, e3, e4, e15, e16, hlt, e5, e6, e7, hg, hlx', ntw, csw, gb2, ntw2, csw2, gb3])
      cases hc : spB n (toN (famL n f))
      · rw [hc] at hcs
        try simp (disch := first | omega | (simp; done) | fail) [wrap64c, if_pos, if_neg, opAnd, opOr, opXor, opDiff, opShr, opBit, hu1, hu2, e0, e3, e4, e15, e16, hlt, e5, e6, e7, hg, hlx', ntw, csw, gb2, ntw2, csw2, gb3, hc]
        refine loopK_next _ ?hm ?hf ⟨f + 1, u, rfl, (by simp (disch := first | omega | (simp; done) | fail) [wrap64c, if_pos, if_neg, opAnd, opOr, opXor, opDiff, opShr, opBit, hu1, hu2, e0, e3, e4, e15, e16, hlt, e5, e6, e7, hg, hlx', ntw, csw, gb2, ntw2, csw2, gb3, hc] <;> omega), (by simp (disch := first | omega | (simp; done) | fail) [wrap64c, if_pos, if_neg, opAnd, opOr, opXor, opDiff, opShr, opBit, hu1, hu2, e0, e3, e4, e15, e16, hlt, e5, e6, e7, hg, hlx', ntw, csw, gb2, ntw2, csw2, gb3, hc] <;> omega), (by first | omega | assumption | (simp (disch := first | omega | (simp; done) | fail) [wrap64c, if_pos, if_neg, opAnd, opOr, opXor, opDiff, opShr, opBit, hu1, hu2, e0, e3, e4, e15, e16, hlt, e5, e6, e7, hg, hlx', ntw, csw, gb2, ntw2, csw2, gb3, hc] <;> omega)), (ha.trans k3), (by rw [hcs]; exact hu.keep (spO_steady n) k3.1)⟩
        (case hm => first | omega | (simp; omega))
        (case hf => simp [FrameL, hu1, hu2, e0, e3, e4, e15, e16, hlt, e5, e6, e7, hg, hlx', ntw, csw, gb2, ntw2, csw2, gb3, hc, f0_0, f4_0, f15_0])
      · rw [hc] at hcs
        try simp (disch := first | omega | (simp; done) | fail) [wrap64c, if_pos, if_neg, opAnd, opOr, opXor, opDiff, opShr, opBit, hu1, hu2, e0, e3, e4, e15, e16, hlt, e5, e6, e7, hg, hlx', ntw, csw, gb2, ntw2, csw2, gb3, hc]
        obtain ⟨u4, h4, hap4, hu4, ha4, hn4⟩ := appS hu k3.1 (hO3.sub fun o ho => ho.1) (by omega) ha.1.1 (ha.trans k3) (Nat.le_refl _)
        try simp (disch := first | omega | (simp; done) | fail) [wrap64c, if_pos, if_neg, opAnd, opOr, opXor, opDiff, opShr, opBit, hu1, hu2, e0, e3, e4, e15, e16, hlt, e5, e6, e7, hg, hlx', ntw, csw, gb2, ntw2, csw2, gb3, hc, hap4]
        refine loopK_next _ ?hm ?hf ⟨f + 1, u4, rfl, (by simp (disch := first | omega | (simp; done) | fail) [wrap64c, if_pos, if_neg, opAnd, opOr, opXor, opDiff, opShr, opBit, hu1, hu2, e0, e3, e4, e15, e16, hlt, e5, e6, e7, hg, hlx', ntw, csw, gb2, ntw2, csw2, gb3, hc] <;> omega), (by simp (disch := first | omega | (simp; done) | fail) [wrap64c, if_pos, if_neg, opAnd, opOr, opXor, opDiff, opShr, opBit, hu1, hu2, e0, e3, e4, e15, e16, hlt, e5, e6, e7, hg, hlx', ntw, csw, gb2, ntw2, csw2, gb3, hc] <;> omega), (by first | omega | assumption | (simp (disch := first | omega | (simp; done) | fail) [wrap64c, if_pos, if_neg, opAnd, opOr, opXor, opDiff, opShr, opBit, hu1, hu2, e0, e3, e4, e15, e16, hlt, e5, e6, e7, hg, hlx', ntw, csw, gb2, ntw2, csw2, gb3, hc] <;> omega)), ha4, (by rw [hcs]; exact hu4)⟩
        (case hm => first | omega | (simp; omega))
        (case hf => simp [FrameL, hu1, hu2, e0, e3, e4, e15, e16, hlt, e5, e6, e7, hg, hlx', ntw, csw, gb2, ntw2, csw2, gb3, hc, f0_0, f4_0, f15_0])
  · have hfe : f = bit (bit n - 2) := by omega
    rw [hfe] at hu
    have hcl := candK_len n (bit (bit n - 2))
    have hne : candK n (bit (bit n - 2)) ≠ [] := candK_ne p1 (by omega)
    try simp (disch := first | omega | (simp; done) | fail) [wrap64c, if_pos, if_neg, opAnd, opOr, opXor, opDiff, opShr, opBit, hu1, hu2, e0, e3, e4, e15, e16, hlt]
    obtain ⟨h2, hc2, hu2, hn2, ha2, hs2⟩ := sortF_ok (P := Try.prog) Go.Proofs.Srtf.lay6 (fun w => run_aggT ty_aggT_32) (fun w => run_szT ty_szT_32) (g := 74) (enters_of Try.func74 (by kernel_rfl) rfl) (spO_steady n) (R' := spF n) cmpN cmpN_swo hu hne (by omega)
      (fun F o u x => spO_ro n _ F o u x) (fun h' F a b x y hx hy => spF_cmp n h' F a b x y hx hy) (fun i j hi hj h1 h2 => by
        simp only [Go.Proofs.ltOf, decide_eq_false_iff_not] at h1 h2
        exact nodup_ix (candK_nodup p1 (Nat.le_refl _)) hi hj (cmpN_total h1 h2))
    refine callG_c (by simp) (by simp) ?ha (hc2) ?_
    (case ha => simp (disch := first | omega | (simp; done) | fail) [wrap64c, if_pos, if_neg, opAnd, opOr, opXor, opDiff, opShr, opBit, hu1, hu2, e0, e3, e4, e15, e16, hlt])
    try simp (disch := first | omega | (simp; done) | fail) [wrap64c, if_pos, if_neg, opAnd, opOr, opXor, opDiff, opShr, opBit, hu1, hu2, e0, e3, e4, e15, e16, hlt]
    exact done_ret rfl ⟨ha2 _ ha (Nat.le_refl _), hu2⟩
end Go.Proofs.Ytnjabaeajjhliaa
