/- The words of a space, one after the other, each handed to a function that goes on. -/
import Derived.Test.YtnjabaeajjhliaaT6
namespace Go.Proofs.Ytnjabaeajjhliaa
set_option linter.unusedSimpArgs false
set_option linter.unusedVariables false
set_option maxHeartbeats 4000000
open Go Go.Eng
attribute [local irreducible] WD RunD PreD Runs CallOK

/-- The objects of a walk over words. -/
structure WA where
  os : Nat
  od : Nat
  fo : Nat
  oF : Nat
  ow : Nat
  og : Nat
  on : Nat
  B : Nat
def pt (o : Nat) : Value := .pointer (some ⟨o, 0, none⟩)
def WA.cap (A : WA) : Array Value := #[.pointer (some ⟨A.os, 0, none⟩), .pointer (some ⟨A.od, 0, none⟩), .pointer (some ⟨A.ow, 0, none⟩), .pointer (some ⟨A.og, 0, none⟩), .pointer (some ⟨A.oF, 0, none⟩), .pointer (some ⟨A.on, 0, none⟩)]
structure WSt (base : Nat) (S : Nat → Prop) (A : WA) (n : Nat) (M : Nat → Bool) (b : Value) (X : List Int) (dv : Value) (h : Hp) (W : List Nat) (v : Value) : Prop where
  ord : base ≤ A.os ∧ A.os < A.od ∧ A.od < A.fo ∧ A.fo < A.oF ∧ A.oF < A.ow ∧ A.ow < A.og ∧ A.og < A.on ∧ A.on < A.B ∧ A.B ≤ h.next
  gs : h.get A.os = .cells [.int .i64 (n : Int), b] true true 1
  ib : IntsF (fun x => x < base ∧ ¬ S x) h b X
  gd : h.get A.od = .cells [dv] true true 1
  gF : h.get A.fo = .cells (famC M) true true 1
  gf : h.get A.oF = .cells [.pointer (some ⟨A.fo, 0, none⟩)] true true 1
  gw : h.get A.ow = .cells [v] true true 1
  gg : h.get A.og = .cells [.bool true] true true 1
  gn : h.get A.on = .cells [.func (.func 141) #[] #[.pointer (some ⟨A.os, 0, none⟩), .pointer (some ⟨A.od, 0, none⟩), .pointer (some ⟨A.ow, 0, none⟩), .pointer (some ⟨A.og, 0, none⟩), .pointer (some ⟨A.oF, 0, none⟩), .pointer (some ⟨A.on, 0, none⟩)]] true true 1
  ws : WS A.B h v W

theorem WSt.keep {base : Nat} {S : Nat → Prop} {A : WA} {n : Nat} {M : Nat → Bool} {b : Value} {X : List Int} {dv : Value} {h h' : Hp} {W : List Nat} {v : Value} (k : WSt base S A n M b X dv h W v) (hS : ∀ o, S o → o < base) {T : Nat → Prop} (hT : ∀ o, T o → A.B ≤ o ∧ objOf v ≠ some o) (w : Wr (fun o => S o ∨ T o) h h') : WSt base S A n M b X dv h' W v := by
  obtain ⟨o1, o2, o3, o4, o5, o6, o7, o8, o9⟩ := k.ord
  have hn := w.upd.1
  have hg : ∀ o, base ≤ o → o < A.B → h'.get o = h.get o := fun o h1 h2 => w.upd.2 o (by omega) fun hs => by
    rcases hs with hs | hs
    · have := hS o hs; omega
    · have := hT o hs; omega
  exact {
    ord := ⟨o1, o2, o3, o4, o5, o6, o7, o8, by omega⟩
    gs := by rw [hg _ (by omega) (by omega)]; exact k.gs
    ib := k.ib.same ⟨hn, fun q hq hl => w.upd.2 q hl fun hs => by
      rcases hs with hs | hs
      · exact hq.2 hs
      · have := hT q hs; have := hq.1; omega⟩
    gd := by rw [hg _ (by omega) (by omega)]; exact k.gd
    gF := by rw [hg _ (by omega) (by omega)]; exact k.gF
    gf := by rw [hg _ (by omega) (by omega)]; exact k.gf
    gw := by rw [hg _ (by omega) (by omega)]; exact k.gw
    gg := by rw [hg _ (by omega) (by omega)]; exact k.gg
    gn := by rw [hg _ (by omega) (by omega)]; exact k.gn
    ws := k.ws.keep hn fun o ho => w.upd.2 o (k.ws.obj ho).2 fun hs => by
      rcases hs with hs | hs
      · have := hS o hs; have := (k.ws.obj ho).1; omega
      · exact (hT o hs).2 ho }

/-- The word's box and the word are changed. -/
theorem WSt.put {base : Nat} {S : Nat → Prop} {A : WA} {n : Nat} {M : Nat → Bool} {b : Value} {X : List Int} {dv : Value} {h h' h2 : Hp} {W W' : List Nat} {v v' : Value} (k : WSt base S A n M b X dv h W v) (hS : ∀ o, S o → o < base)
    (w : Wr (fun o => objOf v = some o) h h') (hw : WS A.B h' v' W') (he : h2 = h'.put A.ow (.cells [v'] true true 1)) : WSt base S A n M b X dv h2 W' v' := by
  subst he
  obtain ⟨o1, o2, o3, o4, o5, o6, o7, o8, o9⟩ := k.ord
  have hn := w.upd.1
  have hg : ∀ o, o < A.B → o ≠ A.ow → (h'.put A.ow (.cells [v'] true true 1)).get o = h.get o := fun o h1 h2 => by
    simp [h2]
    exact w.upd.2 o (by omega) fun hs => by have := (k.ws.obj hs).1; omega
  exact {
    ord := ⟨o1, o2, o3, o4, o5, o6, o7, o8, by simp; omega⟩
    gs := by rw [hg _ (by omega) (by omega)]; exact k.gs
    ib := k.ib.same ⟨by simp; exact hn, fun q hq hl => hg q (by omega) (by omega)⟩
    gd := by rw [hg _ (by omega) (by omega)]; exact k.gd
    gF := by rw [hg _ (by omega) (by omega)]; exact k.gF
    gf := by rw [hg _ (by omega) (by omega)]; exact k.gf
    gw := by simp
    gg := by rw [hg _ (by omega) (by omega)]; exact k.gg
    gn := by rw [hg _ (by omega) (by omega)]; exact k.gn
    ws := hw.keep (by simp) fun o ho => by simp [show o ≠ A.ow by have := (hw.obj ho).1; omega] }
theorem WSt.putG {base : Nat} {S : Nat → Prop} {A : WA} {n : Nat} {M : Nat → Bool} {b : Value} {X : List Int} {dv : Value} {h h2 : Hp} {W : List Nat} {v : Value} (k : WSt base S A n M b X dv h W v)
    (he : h2 = h.put A.og (.cells [.bool true] true true 1)) : WSt base S A n M b X dv h2 W v := by
  subst he
  obtain ⟨o1, o2, o3, o4, o5, o6, o7, o8, o9⟩ := k.ord
  have hg : ∀ o, o ≠ A.og → (h.put A.og (.cells [.bool true] true true 1)).get o = h.get o := fun o h2 => by simp [h2]
  exact {
    ord := ⟨o1, o2, o3, o4, o5, o6, o7, o8, by simp; omega⟩
    gs := by rw [hg _ (by omega)]; exact k.gs
    ib := k.ib.same ⟨by simp, fun q hq hl => hg q (by omega)⟩
    gd := by rw [hg _ (by omega)]; exact k.gd
    gF := by rw [hg _ (by omega)]; exact k.gF
    gf := by rw [hg _ (by omega)]; exact k.gf
    gw := by rw [hg _ (by omega)]; exact k.gw
    gg := by simp
    gn := by rw [hg _ (by omega)]; exact k.gn
    ws := k.ws.keep (by simp) fun o ho => by simp [show o ≠ A.og by have := (k.ws.obj ho).1; omega] }

section
variable {σ : Type} (P : σ → (Nat → Prop) → Hp → Prop) (step : σ → List Nat → σ) (Good : List Nat → Prop) (base : Nat) (S : Nat → Prop) (fid : Nat) (dc : Array Value)
/-- What the function that gets the words does; T are the objects that it has made and keeps. -/
structure Doer : Prop where
  stab : ∀ s T h h', P s T h → base ≤ h.next → h.next ≤ h'.next → (∀ o, o < h.next → (o < base ∨ T o) → h'.get o = h.get o) → P s T h'
  run : ∀ s T h w v, P s T h → base ≤ h.next → Ints h v (toN w) → Good w → ∃ h', CallOK Try.prog fid (#[v] ++ dc) h (.bool true) h' ∧ Wr (fun o => S o ∨ T o) h h' ∧ ∃ T', P (step s w) T' h' ∧ ∀ o, T' o → (T o ∨ h.next ≤ o) ∧ o < h'.next
  low : ∀ o, S o → o < base
  fn : fnOK Try.prog fid = true
end

theorem next_ok {σ : Type} (P : σ → (Nat → Prop) → Hp → Prop) (step : σ → List Nat → σ) (Good : List Nat → Prop) (base : Nat) (S : Nat → Prop) (fid : Nat) (dc : Array Value) (D : Doer P step Good base S fid dc) (A : WA) (n : Nat) (xs : List Nat) (g : SpGood n xs) (b : Value) (X : List Int) :
    ∀ (k : Nat) (h : Hp) (W : List Nat) (set : Nat) (v : Value) (s : σ) (T : Nat → Prop), WSt base S A n (fam xs) b X (.func (.func fid) #[] dc) h W v → P s T h → (∀ o, T o → (A.B ≤ o ∧ o < h.next) ∧ objOf v ≠ some o) → set ∈ xs → pcN set + k = n → W.length + k = n → (∀ w ∈ wordsF (fam xs) n k W set, Good w) →
    ∃ u h', CallOK Try.prog 141 #[.int .i64 (set : Int), .pointer (some ⟨A.os, 0, none⟩), .pointer (some ⟨A.od, 0, none⟩), .pointer (some ⟨A.ow, 0, none⟩), .pointer (some ⟨A.og, 0, none⟩), .pointer (some ⟨A.oF, 0, none⟩), .pointer (some ⟨A.on, 0, none⟩)] h u h' ∧ ∃ v' T',
      WSt base S A n (fam xs) b X (.func (.func fid) #[] dc) h' W v' ∧ P ((wordsF (fam xs) n k W set).foldl step s) T' h' ∧ (∀ o, T' o → (A.B ≤ o ∧ o < h'.next) ∧ objOf v' ≠ some o) ∧ (∀ o, T' o → T o ∨ h.next ≤ o) ∧ Wr (fun o => S o ∨ T o ∨ o = A.ow ∨ o = A.og ∨ objOf v = some o) h h' ∧ (objOf v' = objOf v ∨ ∃ p, objOf v' = some p ∧ h.next ≤ p) := by
  intro k
  induction k with
  | zero =>
    intro h W set v s T hw hP hT hset hk hWk hgood
    refine callY_L (args := [.int .i64 (set : Int), .pointer (some ⟨A.os, 0, none⟩), .pointer (some ⟨A.od, 0, none⟩), .pointer (some ⟨A.ow, 0, none⟩), .pointer (some ⟨A.og, 0, none⟩), .pointer (some ⟨A.oF, 0, none⟩), .pointer (some ⟨A.on, 0, none⟩)]) 44 _ [] Try.func141 rfl rfl rfl ?_
    have hsa : set = bit n - 1 := (pcN_lt g.n7 (g.lt set hset)).2 (by omega)
    have hgs := hw.gs
    have hgd := hw.gd
    have hgw := hw.gw
    have hfn := D.fn
    have n7 := g.n7
    try simp (disch := first | omega | (simp; done) | fail) [wrap64c, if_pos, if_neg, opAnd, opOr, opXor, opDiff, opShr, opBit, hgs, hgd, hgw, hfn]
    refine callG_c (by simp) (by simp) ?ha (all_ok h (.agg #[.int .i64 (n : Int), b]) n X (.mk hw.ib.ints) (by omega)) ?_
    (case ha => simp (disch := first | omega | (simp; done) | fail) [wrap64c, if_pos, if_neg, opAnd, opOr, opXor, opDiff, opShr, opBit, hgs, hgd, hgw, hfn])
    have hn := hw.ord
    try simp (disch := first | omega | (simp; done) | fail) [wrap64c, if_pos, if_neg, opAnd, opOr, opXor, opDiff, opShr, opBit, hgs, hgd, hgw, hfn, hsa]
    obtain ⟨h1, hc1, W1, T1, P1, hT1⟩ := D.run s T h W v hP (by omega) hw.ws.ints (hgood W (by simp [wordsF]))
    refine callG_f (fst := #[]) (cap := dc) (by simp) (by simp) ?hf ?hk ?ha (hc1) ?_
    (case hf => simp (disch := first | omega | (simp; done) | fail) [wrap64c, if_pos, if_neg, opAnd, opOr, opXor, opDiff, opShr, opBit, hgs, hgd, hgw, hfn]; try rfl)
    (case hk => simp (disch := first | omega | (simp; done) | fail) [wrap64c, if_pos, if_neg, opAnd, opOr, opXor, opDiff, opShr, opBit, hgs, hgd, hgw, hfn])
    (case ha => simp (disch := first | omega | (simp; done) | fail) [wrap64c, if_pos, if_neg, opAnd, opOr, opXor, opDiff, opShr, opBit, hgs, hgd, hgw, hfn])
    have hw1 := hw.keep D.low (fun o ho => ⟨(hT o ho).1.1, (hT o ho).2⟩) W1
    have hgg := hw1.gg
    try simp (disch := first | omega | (simp; done) | fail) [wrap64c, if_pos, if_neg, opAnd, opOr, opXor, opDiff, opShr, opBit, hgs, hgd, hgw, hfn, hgg, putCells]
    have hw2 := hw1.putG (h2 := h1.put A.og (.cells [.bool true] true true 1)) rfl
    have hT2 : ∀ o, T1 o → A.B ≤ o := fun o ho => by
      rcases (hT1 o ho).1 with h1 | h1
      · exact (hT o h1).1.1
      · omega
    refine done_ret rfl ⟨v, T1, hw2, ?_, fun o ho => ⟨⟨hT2 o ho, (hT1 o ho).2⟩, fun e => ?_⟩, fun o ho => (hT1 o ho).1, ?_, .inl rfl⟩
    · exact D.stab _ T1 h1 _ P1 (by have := W1.upd.1; omega) (by simp) fun o _ ho => by
        have : o ≠ A.og := by
          rcases ho with ho | ho
          · omega
          · have := hT2 o ho; omega
        simp [this]
    · rcases (hT1 o ho).1 with h1 | h1
      · exact (hT o h1).2 e
      · have := (hw.ws.obj e).2; omega
    · exact (W1.mono fun o _ hs => hs.elim .inl fun h => .inr (.inl h)).put (.inr (.inr (.inr (.inl rfl)))) (fun _ => rfl)
  | succ k ih =>
    intro h W set v s T hw hP hT hset hk hWk hgood
    refine callY_L (args := [.int .i64 (set : Int), .pointer (some ⟨A.os, 0, none⟩), .pointer (some ⟨A.od, 0, none⟩), .pointer (some ⟨A.ow, 0, none⟩), .pointer (some ⟨A.og, 0, none⟩), .pointer (some ⟨A.oF, 0, none⟩), .pointer (some ⟨A.on, 0, none⟩)]) 44 _ [] Try.func141 rfl rfl rfl ?_
    have hsa : set ≠ bit n - 1 := fun e => by have := pcN_full g.n7; rw [← e] at this; omega
    have hs7 := g.lt7 set hset
    have hn := hw.ord
    have hgs := hw.gs
    have hgf := hw.gf
    have n7 := g.n7
    have hbn := bit7 n7
    have hsb : ((set : Int) == ((bit n - 1 : Nat) : Int)) = false := by simp; omega
    try simp (disch := first | omega | (simp; done) | fail) [wrap64c, if_pos, if_neg, opAnd, opOr, opXor, opDiff, opShr, opBit, hgs, hgf, hsb]
    refine callG_c (by simp) (by simp) ?ha (all_ok h (.agg #[.int .i64 (n : Int), b]) n X (.mk hw.ib.ints) (by omega)) ?_
    (case ha => simp (disch := first | omega | (simp; done) | fail) [wrap64c, if_pos, if_neg, opAnd, opOr, opXor, opDiff, opShr, opBit, hgs, hgf, hsb])
    try simp (disch := first | omega | (simp; done) | fail) [wrap64c, if_pos, if_neg, opAnd, opOr, opXor, opDiff, opShr, opBit, hgs, hgf, hsb]
    refine callG_c (by simp) (by simp) ?ha (imOuter_ok h A.fo (fam xs) true true 1 set (by omega) hw.gF hs7) ?_
    (case ha => simp (disch := first | omega | (simp; done) | fail) [wrap64c, if_pos, if_neg, opAnd, opOr, opXor, opDiff, opShr, opBit, hgs, hgf, hsb])
    rw [g.outer7 set]
    have hol := outerN_lt (fam xs) n set
    obtain ⟨q, h2, hc2, ha2, hi2, _⟩ := items_ok h (outerN (fam xs) n set) (by omega)
    try simp (disch := first | omega | (simp; done) | fail) [wrap64c, if_pos, if_neg, opAnd, opOr, opXor, opDiff, opShr, opBit, hgs, hgf, hsb]
    refine callG_c (by simp) (by simp) ?ha (hc2) ?_
    (case ha => simp (disch := first | omega | (simp; done) | fail) [wrap64c, if_pos, if_neg, opAnd, opOr, opXor, opDiff, opShr, opBit, hgs, hgf, hsb])
    obtain ⟨I, hI⟩ : ∃ I, I = itemsN (outerN (fam xs) n set) := ⟨_, rfl⟩
    have hIl : I.length ≤ 7 := by rw [hI]; exact items_len _
    rw [← hI] at hi2
    have hM2 := hi2.ints.lenD
    have hgt := toN_get I
    have hln := toN_length I
    have n2 := ha2.1.1
    have W2 : Wr (fun o => S o ∨ T o) h h2 := .of_adds ha2
    have hw2 := hw.keep D.low (fun o ho => ⟨(hT o ho).1.1, (hT o ho).2⟩) W2
    have P2 := D.stab _ T h h2 hP (by omega) ha2.1.1 fun o ho _ => ha2.1.2 o ho
    try simp (disch := first | omega | (simp; done) | fail) [wrap64c, if_pos, if_neg, opAnd, opOr, opXor, opDiff, opShr, opBit, hgs, hgf, hsb, hM2, hgt]
    refine WD_loopC [0, 3, 4, 6, 20, 21] (fun m tm h' => ∃ j u s1 T1, m = I.length - j ∧ tm 22 = .int .i64 (j : Int) ∧ (j ≤ I.length) ∧ (WSt base S A n (fam xs) b X (.func (.func fid) #[] dc) h' W u) ∧ (P s1 T1 h') ∧ (∀ o, T1 o → (A.B ≤ o ∧ o < h'.next) ∧ objOf u ≠ some o) ∧ (∀ o, T1 o → T o ∨ h2.next ≤ o) ∧ (s1 = ((I.take j).flatMap fun i => wordsF (fam xs) n k (W ++ [i]) (nOr set (bit i))).foldl step s) ∧ (Wr (fun o => S o ∨ T o ∨ o = A.ow ∨ o = A.og ∨ objOf v = some o) h2 h') ∧ (objOf u = objOf v ∨ ∃ p, objOf u = some p ∧ h2.next ≤ p)) _ ⟨0, v, s, T, rfl, (by simp (disch := first | omega | (simp; done) | fail) [wrap64c, if_pos, if_neg, opAnd, opOr, opXor, opDiff, opShr, opBit, hgs, hgf, hsb, hM2, hgt]), (by first | omega | assumption | (simp (disch := first | omega | (simp; done) | fail) [wrap64c, if_pos, if_neg, opAnd, opOr, opXor, opDiff, opShr, opBit, hgs, hgf, hsb, hM2, hgt] <;> omega)), hw2, P2, (fun o ho => ⟨⟨(hT o ho).1.1, by have := (hT o ho).1.2; omega⟩, (hT o ho).2⟩), (fun o ho => .inl ho), rfl, (Wr.refl _ _), (.inl rfl)⟩ ?_
    rintro m tm h' hFr ⟨j, u, s1, T1, rfl, e22, hj, hww, hPP, hT1, hT2, hs1, hWr, ho⟩
    simp only [FrameL] at hFr
    obtain ⟨f0_0, f3_0, f4_0, f6_0, f20_0, f21_0, -⟩ := hFr
    try simp (disch := first | omega | (simp; done) | fail) [wrap64c, if_pos, if_neg, opAnd, opOr, opXor, opDiff, opShr, opBit, hgs, hgf, hsb, hM2, hgt] at f0_0 f3_0 f4_0 f6_0 f20_0 f21_0
    have e0 := f0_0
    have e3 := f3_0
    have e4 := f4_0
    have e6 := f6_0
    have e20 := f20_0
    have e21 := f21_0
    have hn3 := hWr.upd.1
    by_cases hlt : j < I.length
    · have hvI : Ints h' q (toN I) := (hi2.same (hWr.upd.same fun x hx hx' => by
        unfold Btw at hx
        rcases hx' with hx' | hx' | hx' | hx' | hx'
        · have := D.low x hx'; omega
        · have := (hT x hx').1.2; omega
        · omega
        · omega
        · have := (hw.ws.obj hx').2; omega)).ints
      obtain ⟨o_x, i_x, c_x, cs_x, own_x, ex_x, es_x, q_x, b_x, g_x, l_x, r_x⟩ := hvI.open ((by omega))
      have z_x : ∀ h2 : i_x < cs_x.length, cs_x[i_x] = _ := fun h2 => r_x 0 ((by omega)) h2
      obtain ⟨i, hi⟩ : ∃ i, i = I[j] := ⟨_, rfl⟩
      have hi' := hi.symm
      have hmi : i ∈ itemsN (outerN (fam xs) n set) := by rw [← hI, hi]; exact List.getElem_mem hlt
      obtain ⟨hin, hib, hix⟩ := g.learn hmi
      have hb7 := bit_lt7 (show i < 7 by omega)
      have hor := nOr128 (b := bit i) hs7 (by omega)
      have hgg := hww.gg
      have hgw := hww.gw
      have hgn := hww.gn
      have hn4 := hww.ord
      have htk : (I.take (j + 1)).flatMap (fun i => wordsF (fam xs) n k (W ++ [i]) (nOr set (bit i))) = ((I.take j).flatMap fun i => wordsF (fam xs) n k (W ++ [i]) (nOr set (bit i))) ++ wordsF (fam xs) n k (W ++ [i]) (nOr set (bit i)) := by
        rw [List.take_succ_eq_append_getElem hlt, List.flatMap_append, ← hi]; simp
      obtain ⟨u3, h3, hap, hws3, W3, hn5, ho3⟩ := appW hww.ws i (by omega) (by omega)
      have nt3 := hws3.nt
      have cs3 := hws3.cs
      have g3w : h3.get A.ow = .cells [u] true true 1 := by rw [W3.upd.2 _ (by omega) (fun e => by have := (hww.ws.obj e).1; omega)]; exact hww.gw
      try simp (disch := first | omega | (simp; done) | fail) [wrap64c, if_pos, if_neg, opAnd, opOr, opXor, opDiff, opShr, opBit, hgs, hgf, hsb, hM2, hgt, e0, e3, e4, e6, e20, e21, e22, hlt, q_x, g_x, l_x, r_x, z_x, hi', hgg, hgw, hgn, nt3, cs3, hap, putCells, g3w]
      have hw4 := hww.put D.low W3 hws3 (h2 := h3.put A.ow (.cells [u3] true true 1)) rfl
      have W4 : Wr (fun o => S o ∨ T o ∨ o = A.ow ∨ o = A.og ∨ objOf u = some o) h' (h3.put A.ow (.cells [u3] true true 1)) := (W3.mono fun o _ e => .inr (.inr (.inr (.inr e)))).put (.inr (.inr (.inl rfl))) fun _ => rfl
      have P4 := D.stab _ T1 h' (h3.put A.ow (.cells [u3] true true 1)) hPP (by omega) (by simp; omega) fun o hlo ho => by
        have h1 : o ≠ A.ow ∧ objOf u ≠ some o := by
          rcases ho with ho | ho
          · exact ⟨by omega, fun e => by have := (hww.ws.obj e).1; omega⟩
          · exact ⟨by have := (hT1 o ho).1.1; omega, (hT1 o ho).2⟩
        simp [h1.1]
        exact W3.upd.2 _ hlo h1.2
      obtain ⟨h4, hh4⟩ : ∃ h4, h4 = h3.put A.ow (.cells [u3] true true 1) := ⟨_, rfl⟩
      rw [← hh4] at hw4 W4 P4
      have hn6 : h4.next = h3.next := by rw [hh4]; simp
      rw [← hh4]
      have hgn4 := hw4.gn
      refine WD_drawC 5 rfl (by kernel_rfl) ?_
      try simp (disch := first | omega | (simp; done) | fail) [wrap64c, if_pos, if_neg, opAnd, opOr, opXor, opDiff, opShr, opBit, hgs, hgf, hsb, hM2, hgt, e0, e3, e4, e6, e20, e21, e22, hlt, q_x, g_x, l_x, r_x, z_x, hi', hgg, hgw, hgn, nt3, cs3, hgn4]
      have hT4 : ∀ o, T1 o → (A.B ≤ o ∧ o < h4.next) ∧ objOf u3 ≠ some o := fun o ho => by
        refine ⟨⟨(hT1 o ho).1.1, by have := (hT1 o ho).1.2; omega⟩, fun e => ?_⟩
        rcases ho3 with ho3 | ⟨p, ho3, hp⟩
        · exact (hT1 o ho).2 (ho3 ▸ e)
        · rw [ho3] at e; cases e; have := (hT1 o ho).1.2; omega
      obtain ⟨_, h5, hc5, u5, T5, hw5, P5, hT5, hT6, W5, ho5⟩ := ih h4 (W ++ [i]) (nOr set (bit i)) u3 s1 T1 hw4 P4 hT4 hix (by rw [pcN_or hs7 (by omega) hib]; omega) (by simp; omega) (fun w hm => hgood w (by
        rw [wordsF, List.mem_flatMap]; exact ⟨i, hmi, hm⟩))
      refine callG_f (fst := #[]) (cap := #[.pointer (some ⟨A.os, 0, none⟩), .pointer (some ⟨A.od, 0, none⟩), .pointer (some ⟨A.ow, 0, none⟩), .pointer (some ⟨A.og, 0, none⟩), .pointer (some ⟨A.oF, 0, none⟩), .pointer (some ⟨A.on, 0, none⟩)]) (by simp) (by simp) ?hf ?hk ?ha (hc5) ?_
      (case hf => simp (disch := first | omega | (simp; done) | fail) [wrap64c, if_pos, if_neg, opAnd, opOr, opXor, opDiff, opShr, opBit, hgs, hgf, hsb, hM2, hgt, e0, e3, e4, e6, e20, e21, e22, hlt, q_x, g_x, l_x, r_x, z_x, hi', hgg, hgw, hgn, nt3, cs3, hgn4]; try rfl)
      (case hk => simp (disch := first | omega | (simp; done) | fail) [wrap64c, if_pos, if_neg, opAnd, opOr, opXor, opDiff, opShr, opBit, hgs, hgf, hsb, hM2, hgt, e0, e3, e4, e6, e20, e21, e22, hlt, q_x, g_x, l_x, r_x, z_x, hi', hgg, hgw, hgn, nt3, cs3, hgn4])
      (case ha => simp (disch := first | omega | (simp; done) | fail) [wrap64c, if_pos, if_neg, opAnd, opOr, opXor, opDiff, opShr, opBit, hgs, hgf, hsb, hM2, hgt, e0, e3, e4, e6, e20, e21, e22, hlt, q_x, g_x, l_x, r_x, z_x, hi', hgg, hgw, hgn, nt3, cs3, hgn4])
      have hgw5 := hw5.gw
      rcases hw5.ws with ⟨_, e⟩ | ⟨p5, c5, x5, e5, q1, q2, q3, q4, q5⟩
      · simp at e
      · have hl5 : (W ++ [i]).length = W.length + 1 := by simp
        rw [hl5] at e5 q4 q5
        subst e5
        have n8 := W5.upd.1
        have hw7 : WS A.B h5 (.slice (some ⟨p5, 0, none⟩) W.length c5.length) W := .inr ⟨p5, c5, x5, rfl, q1, q2, q3, by omega, by
          have := congrArg (List.take W.length) q5
          rw [List.take_take, show min W.length (W.length + 1) = W.length by omega, toN_snoc, List.map_append, List.take_left' (by simp [toN])] at this
          exact this⟩
        have hw8 := hw5.put D.low (Wr.refl _ _) hw7 (h2 := h5.put A.ow (.cells [.slice (some ⟨p5, 0, none⟩) W.length c5.length] true true 1)) rfl
        have hle5 := q4.1
        have n9 := hw5.ord
        try simp (disch := first | omega | (simp; done) | fail) [wrap64c, if_pos, if_neg, opAnd, opOr, opXor, opDiff, opShr, opBit, hgs, hgf, hsb, hM2, hgt, e0, e3, e4, e6, e20, e21, e22, hlt, q_x, g_x, l_x, r_x, z_x, hi', hgg, hgw, hgn, nt3, cs3, hgn4, hgw5, putCells]
        refine loopK_next _ ?hm ?hf ⟨j + 1, .slice (some ⟨p5, 0, none⟩) W.length c5.length, (wordsF (fam xs) n k (W ++ [i]) (nOr set (bit i))).foldl step s1, T5, rfl, (by simp (disch := first | omega | (simp; done) | fail) [wrap64c, if_pos, if_neg, opAnd, opOr, opXor, opDiff, opShr, opBit, hgs, hgf, hsb, hM2, hgt, e0, e3, e4, e6, e20, e21, e22, hlt, q_x, g_x, l_x, r_x, z_x, hi', hgg, hgw, hgn, nt3, cs3, hgn4, hgw5] <;> omega), (by first | omega | assumption | (simp (disch := first | omega | (simp; done) | fail) [wrap64c, if_pos, if_neg, opAnd, opOr, opXor, opDiff, opShr, opBit, hgs, hgf, hsb, hM2, hgt, e0, e3, e4, e6, e20, e21, e22, hlt, q_x, g_x, l_x, r_x, z_x, hi', hgg, hgw, hgn, nt3, cs3, hgn4, hgw5] <;> omega)), hw8, ?c_hPP, (fun o ho => ⟨⟨(hT5 o ho).1.1, by simp; exact (hT5 o ho).1.2⟩, (hT5 o ho).2⟩), ?c_hT2, (by rw [htk, List.foldl_append, hs1]), ?c_hWr, ?c_ho⟩
        (case hm => first | omega | (simp; omega))
        (case hf => simp [FrameL, hgs, hgf, hsb, hM2, hgt, e0, e3, e4, e6, e20, e21, e22, hlt, q_x, g_x, l_x, r_x, z_x, hi', hgg, hgw, hgn, nt3, cs3, hgn4, hgw5, f0_0, f3_0, f4_0, f6_0, f20_0, f21_0])
        case c_hPP =>
          exact (D.stab _ T5 h5 _ P5 (by omega) (by simp) fun o _ ho => by
            have : o ≠ A.ow := by
              rcases ho with ho | ho
              · omega
              · have := (hT5 o ho).1.1; omega
            simp [this])
        case c_hT2 =>
          exact (fun o ho => by
            rcases hT6 o ho with h1 | h1
            · exact hT2 o h1
            · exact .inr (by omega))
        case c_hWr =>
          exact (by
            refine ((wr_trans2 (wr_trans2 hWr W4 ?_) W5 ?_)).put (.inr (.inr (.inl rfl))) fun _ => rfl
            · rintro o ho1 (e | e | e | e | e)
              · exact .inl e
              · exact .inr (.inl e)
              · exact .inr (.inr (.inl e))
              · exact .inr (.inr (.inr (.inl e)))
              · rcases ho with ho | ⟨p, ho, hp⟩
                · exact .inr (.inr (.inr (.inr (ho ▸ e))))
                · rw [ho] at e; cases e; omega
            · rintro o ho1 (e | e | e | e | e)
              · exact .inl e
              · rcases hT2 o e with h1 | h1
                · exact .inr (.inl h1)
                · omega
              · exact .inr (.inr (.inl e))
              · exact .inr (.inr (.inr (.inl e)))
              · rcases ho3 with ho3 | ⟨p, ho3, hp⟩
                · rw [ho3] at e
                  rcases ho with ho | ⟨p, ho, hp⟩
                  · exact .inr (.inr (.inr (.inr (ho ▸ e))))
                  · rw [ho] at e; cases e; omega
                · rw [ho3] at e; cases e; omega)
        case c_ho =>
          exact (by
            show some p5 = _ ∨ ∃ p, some p5 = some p ∧ _
            rcases ho5 with ho5 | ⟨p, ho5, hp⟩
            · rw [objOf_mk] at ho5
              rw [ho5]
              rcases ho3 with ho3 | ⟨p, ho3, hp⟩
              · rw [ho3]; exact ho
              · exact .inr ⟨p, ho3, by omega⟩
            · rw [objOf_mk] at ho5
              exact .inr ⟨p, ho5, by omega⟩)
    · have hje : I.take j = I := List.take_of_length_le (by omega)
      rw [hje] at hs1
      try simp (disch := first | omega | (simp; done) | fail) [wrap64c, if_pos, if_neg, opAnd, opOr, opXor, opDiff, opShr, opBit, hgs, hgf, hsb, hM2, hgt, e0, e3, e4, e6, e20, e21, e22, hlt]
      refine done_end rfl ⟨u, T1, hww, ?_, hT1, fun o ho => ?_, ?_, ?_⟩
      · rw [hs1, hI] at hPP
        exact hPP
      · rcases hT2 o ho with h1 | h1
        · exact .inl h1
        · exact .inr (by omega)
      · exact (W2.mono fun o _ hs => hs.elim .inl fun h => .inr (.inl h)).trans hWr
      · rcases ho with ho | ⟨p, ho, hp⟩
        · exact .inl ho
        · exact .inr ⟨p, ho, by omega⟩
end Go.Proofs.Ytnjabaeajjhliaa
