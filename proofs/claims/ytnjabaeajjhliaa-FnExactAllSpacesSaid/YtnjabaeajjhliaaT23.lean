/- Lists of spaces compared, marked and held; AllSpaces. -/
import Derived.Test.YtnjabaeajjhliaaT22
import Derived.Test.YtnjabaeajjhliaaT20
namespace Go.Proofs.Ytnjabaeajjhliaa
set_option linter.unusedSimpArgs false
set_option linter.unusedVariables false
set_option maxHeartbeats 4000000
open Go Go.Eng
attribute [local irreducible] WD RunD PreD Runs CallOK

theorem GL.mapR {α β : Type} {m n : Nat} {R : (Nat → Prop) → Hp → List Value → α → Prop} {R' : (Nat → Prop) → Hp → List Value → β → Prop} {h : Hp} {v : Value} {L : List α} (f : α → β) (hs : GL m R n h v L) (hf : ∀ F u x, R F h u x → R' F h u (f x)) : GL m R' n h v (L.map f) := by
  rcases hs with ⟨rfl, rfl⟩ | ⟨o, ex, cs, rfl, h1, h2, h3, h4, h5⟩
  · exact .inl ⟨rfl, rfl⟩
  · exact .inr ⟨o, ex, cs, by simp, h1, h2, h3, by simpa using h4, fun k hk => by
      rw [List.getElem_map]; exact hf _ _ _ (h5 k (by simpa using hk))⟩
theorem chunk2_iff {cs : List Value} {k : Nat} {a b : Value} : chunk 2 cs k = [a, b] ↔ cs[k * 2]? = some a ∧ cs[k * 2 + 1]? = some b := by
  unfold chunk
  constructor
  · intro e
    have h0 : ((cs.drop (k * 2)).take 2)[0]? = some a := by rw [e]; rfl
    have h1 : ((cs.drop (k * 2)).take 2)[1]? = some b := by rw [e]; rfl
    simp only [List.getElem?_take, List.getElem?_drop] at h0 h1
    exact ⟨by simpa using h0, by simpa using h1⟩
  · rintro ⟨h0, h1⟩
    refine List.ext_getElem? fun i => ?_
    rw [List.getElem?_take, List.getElem?_drop]
    match i with
    | 0 => simpa using h0
    | 1 => simpa using h1
    | i + 2 => simp; omega

/-- A space as an element of a list that may be marked. -/
def spQ (F : Nat → Prop) (h : Hp) (u : List Value) (q : Int × Nat × List Int) : Prop := (∃ w, u = [.int .i64 q.1, w] ∧ IntsO (fun x => x = q.2.1) h w q.2.2) ∧ F q.2.1 ∧ q.2.1 < h.next
theorem spQ_steady : Steady spQ where
  mono F G h h' u p := by
    rintro ⟨⟨w, rfl, hw⟩, hF, hl⟩ hfg hk
    exact ⟨⟨w, rfl, hw.same ⟨hk.1, fun o ho hl => hk.2 o (by rw [show o = p.2.1 from ho]; exact hF) hl⟩⟩, hfg _ hF, Nat.lt_of_lt_of_le hl hk.1⟩
  low F h u p := by
    rintro ⟨hw, hF, hl⟩
    exact ⟨hw, ⟨hF, hl⟩, hl⟩
theorem spP.spQ {n : Nat} {F : Nat → Prop} {h : Hp} {u : List Value} {p : Nat × List Nat} (hs : spP n F h u p) : spQ F h u ((n : Int), p.1, toN p.2) := hs

theorem spQ_at {n : Nat} {h : Hp} {v : Value} {L : List (Int × Nat × List Int)} (hs : GL 2 spQ n h v L) {k : Nat} (hk : k < L.length) :
    ∃ o cs ex w, v = .slice (some ⟨o, 0, none⟩) L.length L.length ∧ (n ≤ o ∧ o < h.next) ∧ h.get o = .cells cs true ex 2 ∧ cs.length = L.length * 2 ∧ cs[k * 2]? = some (.int .i64 L[k].1) ∧ cs[k * 2 + 1]? = some w ∧
      IntsO (fun x => x = L[k].2.1) h w L[k].2.2 ∧ (n ≤ L[k].2.1 ∧ L[k].2.1 ≠ o) ∧ L[k].2.1 < h.next ∧ ∀ i (hi : i < L.length), spQ (fun x => n ≤ x ∧ x ≠ o) h (chunk 2 cs i) L[i] := by
  rcases hs with ⟨rfl, _⟩ | ⟨o, ex, cs, e, h1, h2, h3, h4, h5⟩
  · simp at hk
  · obtain ⟨⟨w, hw, hI⟩, hF, hl⟩ := h5 k hk
    have := chunk2_iff.1 hw
    exact ⟨o, cs, ex, w, e, ⟨h1, h2⟩, h3, h4, this.1, this.2, hI, hF, hl, h5⟩
/-- One element marked. -/
theorem spQ_set {n o : Nat} {h h2 : Hp} {v w : Value} {L : List (Int × Nat × List Int)} {cs : List Value} {ex : Bool} {k : Nat} {it : Int} {X : List Int} (hk : k < L.length) (hnd : (L.map (·.2.1)).Nodup)
    (hv : v = .slice (some ⟨o, 0, none⟩) L.length L.length) (ho : n ≤ o ∧ o < h.next) (hc : cs.length = L.length * 2) (hR : ∀ i (hi : i < L.length), spQ (fun x => n ≤ x ∧ x ≠ o) h (chunk 2 cs i) L[i]) (hw : cs[k * 2 + 1]? = some w)
    (hn : h2.next = h.next) (hg : h2.get o = .cells (cs.set (k * 2) (.int .i64 it)) true ex 2) (hs : ∀ x, x < h.next → x ≠ o → x ≠ L[k].2.1 → h2.get x = h.get x) (hI : IntsO (fun x => x = L[k].2.1) h2 w X) :
    GL 2 spQ n h2 v (L.set k (it, L[k].2.1, X)) := by
  refine .inr ⟨o, ex, cs.set (k * 2) (.int .i64 it), by simpa using hv, ho.1, by omega, hg, by simpa using hc, fun i hi => ?_⟩
  have hi' : i < L.length := by simpa using hi
  rw [List.getElem_set]
  by_cases e : k = i
  · subst e
    rw [if_pos rfl]
    refine ⟨⟨w, chunk2_iff.2 ⟨?_, ?_⟩, hI⟩, (hR k hk).2.1, by have := (hR k hk).2.2; show L[k].2.1 < _; omega⟩
    · rw [List.getElem?_set]; simp; omega
    · rw [List.getElem?_set_ne (by omega)]; exact hw
  · rw [if_neg e]
    obtain ⟨⟨w2, hw2, hI2⟩, hF, hl⟩ := hR i hi'
    have hne : L[i].2.1 ≠ L[k].2.1 := fun q => e (nodup_ix hnd (by simpa using hk) (by simpa using hi') (by simpa using q.symm))
    refine ⟨⟨w2, ?_, hI2.same ⟨by omega, fun x hx hx' => ?_⟩⟩, hF, by omega⟩
    · have := chunk2_iff.1 hw2
      exact chunk2_iff.2 ⟨by rw [List.getElem?_set_ne (by omega)]; exact this.1, by rw [List.getElem?_set_ne (by omega)]; exact this.2⟩
    · have hx2 : x = L[i].2.1 := hx
      subst hx2
      exact hs _ hx' hF.2 hne

/-- Marks, space by space. -/
def mkS : Int → List (Int × Nat × List Int) → List (Int × Nat × List Int)
  | _, [] => []
  | k, q :: L => (k, q.2.1, mkL (k + 1) q.2.2.length) :: mkS (k + 1 + q.2.2.length) L
def totS : List (Int × Nat × List Int) → Nat
  | [] => 0
  | q :: L => 1 + q.2.2.length + totS L
@[simp] theorem mkS_length : ∀ (L : List (Int × Nat × List Int)) (k : Int), (mkS k L).length = L.length
  | [], _ => rfl
  | _ :: L, k => by simp [mkS, mkS_length L]
theorem totS_take_succ : ∀ (L : List (Int × Nat × List Int)) (j : Nat) (h : j < L.length), totS (L.take (j + 1)) = totS (L.take j) + 1 + L[j].2.2.length
  | r :: L, 0, h => by simp [totS]
  | r :: L, j + 1, h => by simp [totS, totS_take_succ L j (by simpa using h)]; omega
theorem mkS_get : ∀ (L : List (Int × Nat × List Int)) (k : Int) (j : Nat) (h : j < L.length) (h' : j < (mkS k L).length), (mkS k L)[j] = (k + totS (L.take j), L[j].2.1, mkL (k + totS (L.take j) + 1) L[j].2.2.length)
  | r :: L, k, 0, h, _ => by simp [mkS, totS]
  | r :: L, k, j + 1, h, h' => by
    simp only [mkS, List.getElem_cons_succ, List.take_succ_cons, totS]
    rw [mkS_get L (k + 1 + r.2.2.length) j (by simpa using h) (by simpa using h)]
    have e : k + 1 + (r.2.2.length : Int) + (totS (L.take j) : Int) = k + ((1 + r.2.2.length + totS (L.take j) : Nat) : Int) := by push_cast; omega
    rw [e]
theorem totS_le : ∀ (L : List (Int × Nat × List Int)) (j : Nat), totS (L.take j) ≤ totS L
  | [], j => by simp [totS]
  | r :: L, 0 => by simp [totS]
  | r :: L, j + 1 => by simp [totS]; exact totS_le L j
theorem lenS_le : ∀ (L : List (Int × Nat × List Int)) (j : Nat) (h : j < L.length), L[j].2.2.length ≤ totS L
  | r :: L, 0, h => by simp [totS]; omega
  | r :: L, j + 1, h => by simp [totS]; have := lenS_le L j (by simpa using h); omega
theorem totS_len : ∀ (L : List (Int × Nat × List Int)), L.length ≤ totS L
  | [] => by simp [totS]
  | r :: L => by simp [totS]; have := totS_len L; omega

theorem eqSpaceS_ok (h : Hp) (v w : Value) (n B C : Nat) (L : List (List Nat)) (hv : GL 2 (spO n) B h v L) (hw : GL 2 (spO n) C h w L) (hl : L.length < 2 ^ 40) : CallOK Try.prog 19 #[v, w] h (.bool true) h := by
  refine callY_P 27 _ [.tmp 4] Try.func19 rfl rfl rfl (by first | rfl | simp) ?_
  have hL := hv.lenD
  have hM := hw.lenD
  try simp (disch := first | omega | (simp; done) | fail) [wrap64c, if_pos, if_neg, opAnd, opOr, opXor, opDiff, opShr, opBit, hL, hM]
  refine WD_loopC [0, 1] (fun m tm h' => ∃ j, m = L.length - j ∧ h = h' ∧ tm 5 = .int .i64 (j : Int) ∧ (j ≤ L.length)) _ ⟨0, rfl, rfl, (by simp (disch := first | omega | (simp; done) | fail) [wrap64c, if_pos, if_neg, opAnd, opOr, opXor, opDiff, opShr, opBit, hL, hM]), (by first | omega | assumption | (simp (disch := first | omega | (simp; done) | fail) [wrap64c, if_pos, if_neg, opAnd, opOr, opXor, opDiff, opShr, opBit, hL, hM] <;> omega))⟩ ?_
  rintro m tm h' hFr ⟨j, rfl, rfl, e5, hj⟩
  simp only [FrameL] at hFr
  obtain ⟨f0_0, f1_0, -⟩ := hFr
  try simp (disch := first | omega | (simp; done) | fail) [wrap64c, if_pos, if_neg, opAnd, opOr, opXor, opDiff, opShr, opBit, hL, hM] at f0_0 f1_0
  have e0 := f0_0
  have e1 := f1_0
  by_cases hlt : j < L.length
  · obtain ⟨o, cs, ex, w1, y1, y2, y3, y4, y5, y6⟩ := spG_at hv hlt
    obtain ⟨p, ds, ex2, w2, z1, z2, z3, z4, z5, z6⟩ := spG_at hw hlt
    have y1' := y1
    have z1' := z1
    try simp (disch := first | omega | (simp; done) | fail) [wrap64c, if_pos, if_neg, opAnd, opOr, opXor, opDiff, opShr, opBit, hL, hM, e0, e1, e5, hlt, y1', y3, y4, y5, z1', z3, z4, z5]
    refine WD_drawC 8 rfl (by kernel_rfl) ?_
    try simp (disch := first | omega | (simp; done) | fail) [wrap64c, if_pos, if_neg, opAnd, opOr, opXor, opDiff, opShr, opBit, hL, hM, e0, e1, e5, hlt, y1', y3, y4, y5, z1', z3, z4, z5]
    refine callG_c (by simp) (by simp) ?ha (eqSpace_ok h (.agg #[.int .i64 (n : Int), w1]) (.agg #[.int .i64 (n : Int), w2]) n n (toN L[j]) (toN L[j]) (.mk y6.ints) (.mk z6.ints)) ?_
    (case ha => simp (disch := first | omega | (simp; done) | fail) [wrap64c, if_pos, if_neg, opAnd, opOr, opXor, opDiff, opShr, opBit, hL, hM, e0, e1, e5, hlt, y1', y3, y4, y5, z1', z3, z4, z5])
    try simp (disch := first | omega | (simp; done) | fail) [wrap64c, if_pos, if_neg, opAnd, opOr, opXor, opDiff, opShr, opBit, hL, hM, e0, e1, e5, hlt, y1', y3, y4, y5, z1', z3, z4, z5]
    refine loopK_next _ ?hm ?hf ⟨j + 1, rfl, rfl, (by simp (disch := first | omega | (simp; done) | fail) [wrap64c, if_pos, if_neg, opAnd, opOr, opXor, opDiff, opShr, opBit, hL, hM, e0, e1, e5, hlt, y1', y3, y4, y5, z1', z3, z4, z5] <;> omega), (by first | omega | assumption | (simp (disch := first | omega | (simp; done) | fail) [wrap64c, if_pos, if_neg, opAnd, opOr, opXor, opDiff, opShr, opBit, hL, hM, e0, e1, e5, hlt, y1', y3, y4, y5, z1', z3, z4, z5] <;> omega))⟩
    (case hm => first | omega | (simp; omega))
    (case hf => simp [FrameL, hL, hM, e0, e1, e5, hlt, y1', y3, y4, y5, z1', z3, z4, z5, f0_0, f1_0])
  · try simp (disch := first | omega | (simp; done) | fail) [wrap64c, if_pos, if_neg, opAnd, opOr, opXor, opDiff, opShr, opBit, hL, hM, e0, e1, e5, hlt]
    exact done_ret rfl (by simp)

theorem markSpaceS_ok (B : Nat) (h : Hp) (v : Value) (L : List (Int × Nat × List Int)) (k : Int) (hv : GL 2 spQ B h v L) (hnd : (L.map (·.2.1)).Nodup) (h0 : 0 ≤ k) (h1 : k < 2 ^ 49) (ht : totS L < 2 ^ 49) :
    ∃ v' h', CallOK Try.prog 20 #[v, .int .i64 k] h v' h' ∧ v' = .int .i64 (k + totS L) ∧ h'.next = h.next ∧ Upd (fun x => B ≤ x) h h' ∧ GL 2 spQ B h' v (mkS k L) := by
  have hlt0 := totS_len L
  refine callY_L (args := [v, .int .i64 k]) 27 _ [.tmp 4] Try.func20 rfl rfl rfl ?_
  try simp (disch := first | omega | (simp; done) | fail) [wrap64c, if_pos, if_neg, opAnd, opOr, opXor, opDiff, opShr, opBit]
  refine WD_loopC [0] (fun m tm h' => ∃ j M, m = L.length - j ∧ tm 1 = .int .i64 (k + (totS (L.take j) : Int)) ∧ tm 5 = .int .i64 (j : Int) ∧ (j ≤ L.length) ∧ (h'.next = h.next) ∧ (Upd (fun x => B ≤ x) h h') ∧ (GL 2 spQ B h' v M) ∧ (M.length = L.length) ∧ (M.map (·.2.1) = L.map (·.2.1)) ∧ (∀ i (hi : i < M.length) (hi' : i < L.length), (i < j → M[i] = (k + totS (L.take i), L[i].2.1, mkL (k + totS (L.take i) + 1) L[i].2.2.length)) ∧ (j ≤ i → M[i] = L[i]))) _ ⟨0, L, rfl, (by simp [totS]), (by simp (disch := first | omega | (simp; done) | fail) [wrap64c, if_pos, if_neg, opAnd, opOr, opXor, opDiff, opShr, opBit]), (by first | omega | assumption | (simp (disch := first | omega | (simp; done) | fail) [wrap64c, if_pos, if_neg, opAnd, opOr, opXor, opDiff, opShr, opBit] <;> omega)), (by first | omega | assumption | (simp (disch := first | omega | (simp; done) | fail) [wrap64c, if_pos, if_neg, opAnd, opOr, opXor, opDiff, opShr, opBit] <;> omega)), (Upd.refl _ h), hv, rfl, rfl, (fun i hi _ => ⟨fun q => absurd q (by omega), fun _ => rfl⟩)⟩ ?_
  rintro m tm h' hFr ⟨j, M, rfl, e1, e5, hj, hn, hu, hy, hyl, hmo, hx⟩
  simp only [FrameL] at hFr
  obtain ⟨f0_0, -⟩ := hFr
  try simp (disch := first | omega | (simp; done) | fail) [wrap64c, if_pos, if_neg, opAnd, opOr, opXor, opDiff, opShr, opBit] at f0_0
  have e0 := f0_0
  have hL := hy.lenD
  by_cases hlt : j < L.length
  · rename Hp => hq
    obtain ⟨o, cs, ex, w, y1, y2, y3, y4, y5, y6, y7, y8, y9, y10⟩ := spQ_at hy (show j < M.length by omega)
    have hxj := (hx j (by omega) hlt).2 (Nat.le_refl _)
    have hb1 := totS_le L j
    have hb2 := lenS_le L j hlt
    have hb3 := totS_take_succ L j hlt
    have hb4 := totS_le L (j + 1)
    have y1' := y1
    have hj2 : j * 2 < cs.length := by omega
    have hj3 : j * 2 + 1 < cs.length := by omega
    have g6 : ∀ h2 : j * 2 + 1 < cs.length, cs[j * 2 + 1] = w := fun h2 => (List.getElem?_eq_some_iff.1 y6).2
    have hpc : ∀ x, putCells cs (j * 2) [x] = cs.set (j * 2) x := fun x => by rw [List.set_eq_take_append_cons_drop, if_pos hj2]; simp [putCells]
    try simp (disch := first | omega | (simp; done) | fail) [wrap64c, if_pos, if_neg, opAnd, opOr, opXor, opDiff, opShr, opBit, e0, e1, e5, hL, hlt, y1', y3, y4, y5, y6, hj2, hj3, g6, hpc, hyl]
    generalize hq1 : hq.put o (.cells (cs.set (j * 2) (.int .i64 (k + (totS (L.take j) : Int)))) true ex 2) = h1
    have n1 : h1.next = hq.next := by rw [← hq1]; simp
    have g1 : h1.get o = .cells (cs.set (j * 2) (.int .i64 (k + (totS (L.take j) : Int)))) true ex 2 := by rw [← hq1]; simp
    have s1 : ∀ x, x ≠ o → h1.get x = hq.get x := fun x hx => by rw [← hq1]; simp [hx]
    obtain ⟨v1, h2, hc2, rfl, hn2, hu2, hi2⟩ := markIntS_ok (fun x => x = M[j].2.1) h1 w M[j].2.2 (k + totS (L.take j) + 1) (y7.same ⟨by omega, fun x hx hx' => s1 x (by rw [show x = M[j].2.1 from hx]; exact y8.2)⟩) (by omega) (by omega) (by rw [hxj]; omega)
    refine callG_c (by simp) (by simp) ?ha (hc2) ?_
    (case ha => simp (disch := first | omega | (simp; done) | fail) [wrap64c, if_pos, if_neg, opAnd, opOr, opXor, opDiff, opShr, opBit, e0, e1, e5, hL, hlt, y1', y3, y4, y5, y6, hj2, hj3, g6, hpc])
    try simp (disch := first | omega | (simp; done) | fail) [wrap64c, if_pos, if_neg, opAnd, opOr, opXor, opDiff, opShr, opBit, e0, e1, e5, hL, hlt, y1', y3, y4, y5, y6, hj2, hj3, g6, hpc]
    refine loopK_next _ ?hm ?hf ⟨j + 1, M.set j (k + totS (L.take j), M[j].2.1, mkL (k + totS (L.take j) + 1) M[j].2.2.length), rfl, (by simp [hxj, hb3]; omega), (by simp (disch := first | omega | (simp; done) | fail) [wrap64c, if_pos, if_neg, opAnd, opOr, opXor, opDiff, opShr, opBit, e0, e1, e5, hL, hlt, y1', y3, y4, y5, y6, hj2, hj3, g6, hpc] <;> omega), (by first | omega | assumption | (simp (disch := first | omega | (simp; done) | fail) [wrap64c, if_pos, if_neg, opAnd, opOr, opXor, opDiff, opShr, opBit, e0, e1, e5, hL, hlt, y1', y3, y4, y5, y6, hj2, hj3, g6, hpc] <;> omega)), (by omega), (hu.trans ⟨by omega, fun x hx hxB => by rw [hu2.2 x (by omega) (fun e => hxB (by rw [show x = M[j].2.1 from e]; exact y8.1)), s1 x (fun e => hxB (by rw [e]; exact y2.1))]⟩), (spQ_set (by omega) (by rw [hmo]; exact hnd) y1 y2 y4 y10 y6 (by omega) (by rw [hu2.2 o (by omega) (fun e => y8.2 e.symm)]; exact g1) (fun x hx hxo hxj => by rw [hu2.2 x (by omega) hxj, s1 x hxo]) hi2), (by simpa using hyl), (by rw [List.map_set, ← hmo]; exact List.ext_getElem (by simp) fun i h1 h2 => by rw [List.getElem_set]; split <;> simp_all), ?c_hx⟩
    (case hm => first | omega | (simp; omega))
    (case hf => simp [FrameL, e0, e1, e5, hL, hlt, y1', y3, y4, y5, y6, hj2, hj3, g6, hpc, f0_0])
    case c_hx =>
      exact (fun i hi hi' => by
        rw [List.getElem_set]
        by_cases e : j = i
        · subst e; rw [if_pos rfl, hxj]; exact ⟨fun _ => rfl, fun q => absurd q (by omega)⟩
        · rw [if_neg e]
          have := hx i (by simpa using hi) hi'
          exact ⟨fun q => this.1 (by omega), fun q => this.2 (by omega)⟩)
  · try simp (disch := first | omega | (simp; done) | fail) [wrap64c, if_pos, if_neg, opAnd, opOr, opXor, opDiff, opShr, opBit, e0, e1, e5, hL, hlt, hyl]
    have hj' : j = L.length := by omega
    have e : M = mkS k L := List.ext_getElem (by simp [hyl]) fun i h1 h2 => by
      have hi : i < L.length := by omega
      rw [mkS_get L k i hi h2]; exact (hx i h1 hi).1 (by omega)
    exact done_ret rfl ⟨by simp [hj'], hn, hu, e ▸ hy⟩

theorem heldSpaceS_ok (B : Nat) (h : Hp) (v : Value) (L : List (Int × Nat × List Int)) (k : Int) (hv : GL 2 spQ B h v (mkS k L)) (h0 : 0 ≤ k) (h1 : k < 2 ^ 49) (ht : totS L < 2 ^ 49) :
    CallOK Try.prog 21 #[v, .int .i64 k] h (.int .i64 (k + totS L)) h := by
  have hlt0 := totS_len L
  refine callY_P 31 _ [.tmp 4] Try.func21 rfl rfl rfl (by first | rfl | simp) ?_
  have hL := hv.lenD
  have hm := mkS_length L k
  try simp (disch := first | omega | (simp; done) | fail) [wrap64c, if_pos, if_neg, opAnd, opOr, opXor, opDiff, opShr, opBit, hL, hm]
  refine WD_loopC [0] (fun m tm h' => ∃ j, m = L.length - j ∧ h = h' ∧ tm 1 = .int .i64 (k + (totS (L.take j) : Int)) ∧ tm 5 = .int .i64 (j : Int) ∧ (j ≤ L.length)) _ ⟨0, rfl, rfl, (by simp [totS]), (by simp (disch := first | omega | (simp; done) | fail) [wrap64c, if_pos, if_neg, opAnd, opOr, opXor, opDiff, opShr, opBit, hL, hm]), (by first | omega | assumption | (simp (disch := first | omega | (simp; done) | fail) [wrap64c, if_pos, if_neg, opAnd, opOr, opXor, opDiff, opShr, opBit, hL, hm] <;> omega))⟩ ?_
  rintro m tm h' hFr ⟨j, rfl, rfl, e1, e5, hj⟩
  simp only [FrameL] at hFr
  obtain ⟨f0_0, -⟩ := hFr
  try simp (disch := first | omega | (simp; done) | fail) [wrap64c, if_pos, if_neg, opAnd, opOr, opXor, opDiff, opShr, opBit, hL, hm] at f0_0
  have e0 := f0_0
  by_cases hlt : j < L.length
  · obtain ⟨o, cs, ex, w, y1, y2, y3, y4, y5, y6, y7, y8, y9, y10⟩ := spQ_at hv (show j < (mkS k L).length by simpa using hlt)
    rw [mkS_get L k j hlt] at y5 y7
    have hb1 := totS_le L j
    have hb2 := lenS_le L j hlt
    have hb3 := totS_take_succ L j hlt
    have hb4 := totS_le L (j + 1)
    have y1' := y1
    have hj2 : j * 2 < cs.length := by rw [y4, hm]; omega
    have hj3 : j * 2 + 1 < cs.length := by rw [y4, hm]; omega
    have g5 : ∀ h2 : j * 2 < cs.length, cs[j * 2] = .int .i64 (k + (totS (L.take j) : Int)) := fun h2 => (List.getElem?_eq_some_iff.1 y5).2
    have g6 : ∀ h2 : j * 2 + 1 < cs.length, cs[j * 2 + 1] = w := fun h2 => (List.getElem?_eq_some_iff.1 y6).2
    try simp (disch := first | omega | (simp; done) | fail) [wrap64c, if_pos, if_neg, opAnd, opOr, opXor, opDiff, opShr, opBit, hL, hm, e0, e1, e5, hlt, y1', y3, y4, y5, y6, hj2, hj3, g5, g6]
    refine callG_c (by simp) (by simp) ?ha (heldIntS_ok h w L[j].2.2.length (k + totS (L.take j) + 1) y7.ints (by omega) (by omega) (by omega)) ?_
    (case ha => simp (disch := first | omega | (simp; done) | fail) [wrap64c, if_pos, if_neg, opAnd, opOr, opXor, opDiff, opShr, opBit, hL, hm, e0, e1, e5, hlt, y1', y3, y4, y5, y6, hj2, hj3, g5, g6])
    have hz : ¬ k + (totS (L.take j) : Int) + 1 + (L[j].2.2.length : Int) < 0 := by omega
    try simp (disch := first | omega | (simp; done) | fail) [wrap64c, if_pos, if_neg, opAnd, opOr, opXor, opDiff, opShr, opBit, hL, hm, e0, e1, e5, hlt, y1', y3, y4, y5, y6, hj2, hj3, g5, g6, hz]
    refine loopK_next _ ?hm ?hf ⟨j + 1, rfl, rfl, (by simp [hb3]; omega), (by simp (disch := first | omega | (simp; done) | fail) [wrap64c, if_pos, if_neg, opAnd, opOr, opXor, opDiff, opShr, opBit, hL, hm, e0, e1, e5, hlt, y1', y3, y4, y5, y6, hj2, hj3, g5, g6, hz] <;> omega), (by first | omega | assumption | (simp (disch := first | omega | (simp; done) | fail) [wrap64c, if_pos, if_neg, opAnd, opOr, opXor, opDiff, opShr, opBit, hL, hm, e0, e1, e5, hlt, y1', y3, y4, y5, y6, hj2, hj3, g5, g6, hz] <;> omega))⟩
    (case hm => first | omega | (simp; omega))
    (case hf => simp [FrameL, hL, hm, e0, e1, e5, hlt, y1', y3, y4, y5, y6, hj2, hj3, g5, g6, hz, f0_0])
  · try simp (disch := first | omega | (simp; done) | fail) [wrap64c, if_pos, if_neg, opAnd, opOr, opXor, opDiff, opShr, opBit, hL, hm, e0, e1, e5, hlt]
    exact done_ret rfl (by simp [show j = L.length by omega])

theorem totS_bound {c : Nat} : ∀ (L : List (Int × Nat × List Int)), (∀ q ∈ L, q.2.2.length ≤ c) → totS L ≤ L.length * (1 + c)
  | [], _ => by simp [totS]
  | r :: L, h => by
    have h1 := totS_bound L fun q hq => h q (List.mem_cons_of_mem _ hq)
    have h2 := h r List.mem_cons_self
    have e : (r :: L).length * (1 + c) = L.length * (1 + c) + (1 + c) := by rw [List.length_cons, Nat.add_mul, Nat.one_mul]
    rw [e]
    simp only [totS]; omega
noncomputable def allR (N : Int) : List (List Nat) := if 1 ≤ N ∧ N ≤ 3 then spacesL N.toNat else []
theorem allR_len (N : Int) : (allR N).length ≤ 16384 := by
  unfold allR
  split
  · rename_i h; exact spacesL_le (by omega) (by omega)
  · simp
theorem allR_row {N : Int} {xs : List Nat} (h : xs ∈ allR N) : xs.length ≤ 128 := by
  unfold allR at h
  split at h
  · exact (spacesL_good h).len7
  · cases h
theorem allR_tot {N : Int} {L : List (Nat × List Nat)} (h : L.map (·.2) = allR N) : totS (L.map fun p => ((N.toNat : Int), p.1, toN p.2)) < 2 ^ 49 := by
  have h1 := totS_bound (c := 128) (L.map fun p => ((N.toNat : Int), p.1, toN p.2)) fun q hq => by
    obtain ⟨p, hp, rfl⟩ := List.mem_map.1 hq
    have : p.2 ∈ allR N := by rw [← h]; exact List.mem_map_of_mem hp
    simpa using allR_row this
  have h2 := allR_len N
  rw [← h, List.length_map] at h2
  rw [List.length_map] at h1
  omega
theorem implAll_ok (h : Hp) (N : Int) :
    ∃ v' h', CallOK Try.prog 18 #[.int .i64 N] h v' h' ∧ Adds h h' ∧ ∃ u, v' = .tuple #[u, .bool (decide (1 ≤ N ∧ N ≤ 3))] ∧ ∃ Lp : List (Nat × List Nat), GL 2 (spP N.toNat) h.next h' u Lp ∧ Lp.map (·.2) = allR N ∧ (Lp.map (·.1)).Nodup := by
  by_cases c1 : 1 ≤ N ∧ N ≤ 3
  · obtain ⟨n, rfl⟩ := Int.eq_ofNat_of_zero_le (show 0 ≤ N by omega)
    refine callY_L (args := [.int .i64 ((n : Nat) : Int)]) 9 _ [.tmp 2, .tmp 3] Try.func18 rfl rfl rfl ?_
    have hd : decide (1 ≤ (n : Int) ∧ (n : Int) ≤ 3) = true := by simpa using c1
    try simp (disch := first | omega | (simp; done) | fail) [wrap64c, if_pos, if_neg, opAnd, opOr, opXor, opDiff, opShr, opBit, hd]
    refine callG_c (by simp) (by simp) ?ha (within_ok h n 1 3) ?_
    (case ha => simp (disch := first | omega | (simp; done) | fail) [wrap64c, if_pos, if_neg, opAnd, opOr, opXor, opDiff, opShr, opBit, hd])
    try simp (disch := first | omega | (simp; done) | fail) [wrap64c, if_pos, if_neg, opAnd, opOr, opXor, opDiff, opShr, opBit, hd]
    obtain ⟨v', h', hc, ha, Lp, hG, hm, hn⟩ := spaces2_ok h n (by omega) (by omega)
    refine callG_c (by simp) (by simp) ?ha (hc) ?_
    (case ha => simp (disch := first | omega | (simp; done) | fail) [wrap64c, if_pos, if_neg, opAnd, opOr, opXor, opDiff, opShr, opBit, hd])
    try simp (disch := first | omega | (simp; done) | fail) [wrap64c, if_pos, if_neg, opAnd, opOr, opXor, opDiff, opShr, opBit, hd]
    exact done_ret rfl ⟨ha, v', by simp [hd], Lp, hG, by rw [hm, allR, if_pos c1]; rfl, hn⟩
  · refine callY_L (args := [.int .i64 N]) 9 _ [.tmp 2, .tmp 3] Try.func18 rfl rfl rfl ?_
    have hd : decide (1 ≤ N ∧ N ≤ 3) = false := by simpa using c1
    try simp (disch := first | omega | (simp; done) | fail) [wrap64c, if_pos, if_neg, opAnd, opOr, opXor, opDiff, opShr, opBit, hd]
    refine callG_c (by simp) (by simp) ?ha (within_ok h N 1 3) ?_
    (case ha => simp (disch := first | omega | (simp; done) | fail) [wrap64c, if_pos, if_neg, opAnd, opOr, opXor, opDiff, opShr, opBit, hd])
    try simp (disch := first | omega | (simp; done) | fail) [wrap64c, if_pos, if_neg, opAnd, opOr, opXor, opDiff, opShr, opBit, hd]
    exact done_ret rfl ⟨adds_self _, .slice none 0 0, by simp [hd], [], .nil _ _, by rw [allR, if_neg c1]; rfl, by simp⟩
theorem specAll_ok (h : Hp) (N : Int) :
    ∃ v' h', CallOK Try.prog 17 #[.int .i64 N] h v' h' ∧ Adds h h' ∧ ∃ u, v' = .tuple #[u, .bool (decide (1 ≤ N ∧ N ≤ 3))] ∧ GL 2 (spO N.toNat) h.next h' u (allR N) := by
  by_cases c1 : 1 ≤ N ∧ N ≤ 3
  · obtain ⟨n, rfl⟩ := Int.eq_ofNat_of_zero_le (show 0 ≤ N by omega)
    refine callY_L (args := [.int .i64 ((n : Nat) : Int)]) 9 _ [.tmp 2, .tmp 3] Try.func17 rfl rfl rfl ?_
    have hd : decide (1 ≤ (n : Int) ∧ (n : Int) ≤ 3) = true := by simpa using c1
    try simp (disch := first | omega | (simp; done) | fail) [wrap64c, if_pos, if_neg, opAnd, opOr, opXor, opDiff, opShr, opBit, hd]
    refine callG_c (by simp) (by simp) ?ha (alListed_ok h n) ?_
    (case ha => simp (disch := first | omega | (simp; done) | fail) [wrap64c, if_pos, if_neg, opAnd, opOr, opXor, opDiff, opShr, opBit, hd])
    try simp (disch := first | omega | (simp; done) | fail) [wrap64c, if_pos, if_neg, opAnd, opOr, opXor, opDiff, opShr, opBit, hd]
    obtain ⟨v', h', hc, ha, hG⟩ := alSpaces_ok h n (by omega) (by omega)
    refine callG_c (by simp) (by simp) ?ha (hc) ?_
    (case ha => simp (disch := first | omega | (simp; done) | fail) [wrap64c, if_pos, if_neg, opAnd, opOr, opXor, opDiff, opShr, opBit, hd])
    try simp (disch := first | omega | (simp; done) | fail) [wrap64c, if_pos, if_neg, opAnd, opOr, opXor, opDiff, opShr, opBit, hd]
    exact done_ret rfl ⟨ha, v', by simp [hd], by rw [allR, if_pos c1]; exact hG⟩
  · refine callY_L (args := [.int .i64 N]) 9 _ [.tmp 2, .tmp 3] Try.func17 rfl rfl rfl ?_
    have hd : decide (1 ≤ N ∧ N ≤ 3) = false := by simpa using c1
    try simp (disch := first | omega | (simp; done) | fail) [wrap64c, if_pos, if_neg, opAnd, opOr, opXor, opDiff, opShr, opBit, hd]
    refine callG_c (by simp) (by simp) ?ha (alListed_ok h N) ?_
    (case ha => simp (disch := first | omega | (simp; done) | fail) [wrap64c, if_pos, if_neg, opAnd, opOr, opXor, opDiff, opShr, opBit, hd])
    try simp (disch := first | omega | (simp; done) | fail) [wrap64c, if_pos, if_neg, opAnd, opOr, opXor, opDiff, opShr, opBit, hd]
    exact done_ret rfl ⟨adds_self _, .slice none 0 0, by simp [hd], by rw [allR, if_neg c1]; exact .nil _ _⟩
end Go.Proofs.Ytnjabaeajjhliaa
