/- Lists of states that grow and are written: how they are read; how many states there may be. -/
import Derived.Test.YtnjabaeajjhliaaT36
import Derived.Test.YtnjabaeajjhliaaEngZe
namespace Go.Proofs.Ytnjabaeajjhliaa
set_option linter.unusedSimpArgs false
set_option linter.unusedVariables false
set_option maxHeartbeats 4000000
open Go Go.Eng
attribute [local irreducible] WD RunD PreD Runs CallOK

theorem nodup_len {α : Type} [DecidableEq α] : ∀ {l m : List α}, l.Nodup → (∀ x ∈ l, x ∈ m) → l.length ≤ m.length
  | [], m, _, _ => Nat.zero_le _
  | a :: l, m, hn, hs => by
    have ha := hs a (by simp)
    have h1 := nodup_len (l := l) (m := m.erase a) (List.nodup_cons.1 hn).2 fun x hx => (List.mem_erase_of_ne (fun e => by subst e; exact (List.nodup_cons.1 hn).1 hx)).2 (hs x (by simp [hx]))
    rw [List.length_erase_of_mem ha] at h1
    have := List.length_pos_of_mem ha
    simp; omega
def vecs : Nat → List (List Int)
  | 0 => [[]]
  | n + 1 => (List.range 61).flatMap fun (a : Nat) => (vecs n).map fun l => (a : Int) :: l
theorem vecs_len : ∀ n, (vecs n).length = 61 ^ n
  | 0 => rfl
  | n + 1 => by
    rw [vecs, List.length_flatMap]
    have : (List.range 61).map (fun (a : Nat) => ((vecs n).map fun l => (a : Int) :: l).length) = List.replicate 61 (61 ^ n) := by
      refine List.ext_getElem (by simp) fun i h1 h2 => ?_
      rw [List.getElem_map, List.getElem_replicate, List.length_map, vecs_len n]
    rw [this, List.sum_replicate_nat, Nat.pow_succ, Nat.mul_comm]
theorem vecs_mem : ∀ {x : List Int}, (∀ y ∈ x, 0 ≤ y ∧ y ≤ 60) → x ∈ vecs x.length
  | [], _ => by simp [vecs]
  | a :: x, h => by
    have h1 := h a (by simp)
    refine List.mem_flatMap.2 ⟨a.toNat, by simp; omega, List.mem_map.2 ⟨x, vecs_mem fun y hy => h y (by simp [hy]), ?_⟩⟩
    congr 1; omega
theorem nn_list {x : List Int} (h : ∀ i, 0 ≤ x.getD i 0) : ∀ y ∈ x, 0 ≤ y := fun y hy => by
  obtain ⟨i, hi, rfl⟩ := List.getElem_of_mem hy
  have := h i
  rwa [getD_at hi] at this
theorem Rn.small {L : List (List Int)} {A x B : List Int} (h : Rn L A x B) (hx : x.sum ≤ 60) : ∀ y ∈ x, 0 ≤ y ∧ y ≤ 60 := fun y hy => by
  have h1 := nn_list h.nn
  exact ⟨h1 y hy, by have := le_sum h1 hy; omega⟩
theorem StI.small {L : List (List Int)} {A : List Int} {k : Nat} {S : List RSt} (h : StI L A k S) (hs : Shape L A.length) (hk : k ≤ 60) : S.length ≤ 844596301 := by
  have h1 := nodup_len h.nd (m := vecs A.length) fun x hx => by
    obtain ⟨s, hm, rfl⟩ := List.mem_map.1 hx
    obtain ⟨hr, he⟩ := h.rn s hm
    have := vecs_mem (hr.small (by omega))
    rwa [hr.len.2] at this
  rw [List.length_map, vecs_len] at h1
  have h2 : 61 ^ A.length ≤ 61 ^ 5 := Nat.pow_le_pow_right (by decide) hs.le
  have : 61 ^ 5 = 844596301 := by decide
  omega

/-- A state as an element of a growing list. -/
def stR (F : Nat → Prop) (h : Hp) (u : List Value) (s : RSt) : Prop := ∃ v w, u = [v, w, .int .i64 ((capN s.w : Nat) : Int)] ∧ IntsF F h v s.x ∧ IntsF F h w s.b
theorem stR_steady : Steady stR where
  mono F G h h' u s := by
    rintro ⟨v, w, rfl, hv, hw⟩ hfg hk
    exact ⟨v, w, rfl, (hv.same hk).sub hfg, (hw.same hk).sub hfg⟩
  low F h u s := by
    rintro ⟨v, w, rfl, hv, hw⟩
    exact ⟨v, w, rfl, hv.low, hw.low⟩
theorem chunk3_iff {cs : List Value} {k : Nat} {a b c : Value} : chunk 3 cs k = [a, b, c] ↔ cs[k * 3]? = some a ∧ cs[k * 3 + 1]? = some b ∧ cs[k * 3 + 2]? = some c := by
  unfold chunk
  constructor
  · intro e
    have h0 : ((cs.drop (k * 3)).take 3)[0]? = some a := by rw [e]; rfl
    have h1 : ((cs.drop (k * 3)).take 3)[1]? = some b := by rw [e]; rfl
    have h2 : ((cs.drop (k * 3)).take 3)[2]? = some c := by rw [e]; rfl
    simp only [List.getElem?_take, List.getElem?_drop] at h0 h1 h2
    exact ⟨by simpa using h0, by simpa using h1, by simpa using h2⟩
  · rintro ⟨h0, h1, h2⟩
    refine List.ext_getElem? fun i => ?_
    rw [List.getElem?_take, List.getElem?_drop]
    match i with
    | 0 => simpa using h0
    | 1 => simpa using h1
    | 2 => simpa using h2
    | i + 3 => simp; omega
theorem stG_at {n : Nat} {h : Hp} {v : Value} {S : List RSt} (hs : GL 3 stR n h v S) {k : Nat} (hk : k < S.length) :
    ∃ o cs ex y z, v = .slice (some ⟨o, 0, none⟩) S.length S.length ∧ (n ≤ o ∧ o < h.next) ∧ h.get o = .cells cs true ex 3 ∧ cs.length = S.length * 3 ∧ (cs.drop (k * 3)).take 3 = [y, z, .int .i64 ((capN S[k].w : Nat) : Int)] ∧
      (cs[k * 3]? = some y ∧ cs[k * 3 + 1]? = some z ∧ cs[k * 3 + 2]? = some (.int .i64 ((capN S[k].w : Nat) : Int))) ∧ IntsF (fun x => n ≤ x ∧ x ≠ o) h y S[k].x ∧ IntsF (fun x => n ≤ x ∧ x ≠ o) h z S[k].b := by
  rcases hs with ⟨rfl, _⟩ | ⟨o, ex, cs, e, h1, h2, h3, h4, h5⟩
  · simp at hk
  · obtain ⟨y, z, hc, hy, hz⟩ := h5 k hk
    exact ⟨o, cs, ex, y, z, e, ⟨h1, h2⟩, h3, h4, hc, chunk3_iff.1 hc, hy, hz⟩
/-- More ways to one state. -/
theorem stG_add {n o : Nat} {h : Hp} {v : Value} {S : List RSt} {cs : List Value} {ex : Bool} {k w : Nat} (hs : GL 3 stR n h v S) (hk : k < S.length) (hv : v = .slice (some ⟨o, 0, none⟩) S.length S.length) (hg : h.get o = .cells cs true ex 3) :
    GL 3 stR n (h.put o (.cells (cs.set (k * 3 + 2) (.int .i64 ((capN (S[k].w + w) : Nat) : Int))) true ex 3)) v (addS S k w) := by
  rcases hs with ⟨rfl, _⟩ | ⟨o', ex', cs', e, h1, h2, h3, h4, h5⟩
  · simp at hk
  · rw [e] at hv
    cases hv
    rw [h3] at hg
    cases hg
    refine .inr ⟨o, ex, cs.set (k * 3 + 2) (.int .i64 ((capN (S[k].w + w) : Nat) : Int)), by simpa [addS] using e, h1, h2, by simp, by simpa [addS] using h4, fun i hi => ?_⟩
    have hi' : i < S.length := by simpa [addS] using hi
    obtain ⟨y, z, hc, hy, hz⟩ := h5 i hi'
    have hsame : Same (fun x => n ≤ x ∧ x ≠ o) h (h.put o (.cells (cs.set (k * 3 + 2) (.int .i64 ((capN (S[k].w + w) : Nat) : Int))) true ex 3)) := Same.put (Same.refl _ _) (fun e => e.2 rfl) _
    have ⟨c1, c2, c3⟩ := chunk3_iff.1 hc
    by_cases e : k = i
    · subst e
      have ee : (addS S k w)[k] = ⟨S[k].x, S[k].b, S[k].w + w⟩ := by simp [addS, List.getD_eq_getElem?_getD, hk]
      rw [ee]
      refine ⟨y, z, chunk3_iff.2 ⟨by rw [List.getElem?_set_ne (by omega)]; exact c1, by rw [List.getElem?_set_ne (by omega)]; exact c2, ?_⟩, hy.same hsame, hz.same hsame⟩
      rw [List.getElem?_set]; simp; omega
    · have ee : (addS S k w)[i] = S[i] := by simp [addS, List.getElem_set, e]
      rw [ee]
      exact ⟨y, z, chunk3_iff.2 ⟨by rw [List.getElem?_set_ne (by omega)]; exact c1, by rw [List.getElem?_set_ne (by omega)]; exact c2, by rw [List.getElem?_set_ne (by omega)]; exact c3⟩, hy.same hsame, hz.same hsame⟩
/-- One state more, in no way yet. -/
theorem appSt {n c : Nat} {h0 h : Hp} {v y z : Value} {S : List RSt} {x b : List Int} (hs : GL 3 stR n h v S) (hy : IntsF (fun o => c ≤ o) h y x) (hz : IntsF (fun o => c ≤ o) h z b) (hc : n ≤ c ∧ ∀ o, ObjIn v o → o < c) (w : Nat) (hl : S.length < 2 ^ 39) (hA : Adds h0 h) (h0n : h0.next ≤ n) (hn : n ≤ h.next) :
    ∃ v' h', appendD Try.prog 108 108 v (.slice (some ⟨h.next, 0, none⟩) 1 1) (h.alloc (.cells [y, z, .int .i64 ((capN w : Nat) : Int)] true true 3)) = some (v', h') ∧ GL 3 stR n h' v' (S ++ [⟨x, b, w⟩]) ∧ Adds h0 h' ∧ h.next < h'.next ∧ (∀ o, o < h.next → ¬ ObjIn v o → h'.get o = h.get o) ∧ ∀ o, ObjIn v' o → ObjIn v o ∨ h.next ≤ o := by
  have k2 : Adds h (h.alloc (.cells [y, z, .int .i64 ((capN w : Nat) : Int)] true true 3)) := (by first | exact aK | exact kK)
  obtain ⟨v', h', g1, g2, g3, g4, g5, g6⟩ := GL.append2 (P := Try.prog) (t := 108) (t' := 108) (z := .agg #[.slice none 0 0, .slice none 0 0, .int .i64 0]) (b := 56) (K := [⟨x, b, w⟩]) (ys := [y, z, .int .i64 ((capN w : Nat) : Int)]) (F := fun o => c ≤ o ∧ o < h.next) (y := .slice (some ⟨h.next, 0, none⟩) 1 1) (h0 := h0) stR_steady
    (hs.keep stR_steady k2.1) (by simp [srcV, srcW]) rfl (fun k hk => by
      have : k = 0 := by simp at hk; exact hk
      subst this
      exact ⟨y, z, rfl, hy.low.keep k2.1, hz.low.keep k2.1⟩) (fun x hx => ⟨by omega, by simp; omega, fun hob => by have := hc.2 x hob; omega⟩)
    ty_elT_108 (by simp) (by simp) rfl (by simp) (by decide) (by decide) (by simp) (by simp; omega) (by simp; omega) (hA.trans k2) h0n
  exact ⟨v', h', g1, g2, g3, Nat.lt_of_lt_of_le (by simp) g4, fun o ho hon => by rw [g5 o (by simp; omega) hon]; simp [Nat.ne_of_lt ho], fun o ho => (g6 o ho).imp id fun h => Nat.le_of_lt (Nat.lt_of_lt_of_le (by simp) h)⟩

theorem l1SameD_ok (h : Hp) (v w : Value) (X Y : List Int) (hv : Ints h v X) (hw : Ints h w Y) : CallOK Try.prog 70 #[v, w] h (.bool (decide (X = Y))) h := by
  refine callY_P 26 _ [.tmp 4] Try.func70 rfl rfl rfl (by first | rfl | simp) ?_
  have hL := hv.lenD
  have hM := hw.lenD
  have hlx := hv.len
  have hly := hw.len
  by_cases hl : X.length = Y.length
  · have hlb : ((X.length : Int) != (Y.length : Int)) = false := by simp [hl]
    try simp (disch := first | omega | (simp; done) | fail) [wrap64c, if_pos, if_neg, hL, hM, hlb]
    refine WD_loopC [0, 1, 12] (fun m tm h' => ∃ j, m = X.length - j ∧ h = h' ∧ tm 13 = .int .i64 (j : Int) ∧ (j ≤ X.length) ∧ (∀ i (h1 : i < X.length) (h2 : i < Y.length), i < j → X[i] = Y[i])) _ ⟨0, rfl, rfl, (by simp (disch := first | omega | (simp; done) | fail) [wrap64c, if_pos, if_neg, hL, hM, hlb]), (by first | omega | assumption | (simp (disch := first | omega | (simp; done) | fail) [wrap64c, if_pos, if_neg, hL, hM, hlb] <;> omega)), (by intro i h1 h2 h3; omega)⟩ ?_
    rintro m tm h' hFr ⟨j, rfl, rfl, e13, hj, hx⟩
    simp only [FrameL] at hFr
    obtain ⟨f0_0, f1_0, f12_0, -⟩ := hFr
    try simp (disch := first | omega | (simp; done) | fail) [wrap64c, if_pos, if_neg, hL, hM, hlb] at f0_0 f1_0 f12_0
    have e0 := f0_0
    have e1 := f1_0
    have e12 := f12_0
    by_cases hlt : j < X.length
    · have hlt2 : j < Y.length := by omega
      obtain ⟨o_x, i_x, c_x, cs_x, own_x, ex_x, es_x, q_x, b_x, g_x, l_x, r_x⟩ := hv.open ((by omega))
      have z_x : ∀ h2 : i_x < cs_x.length, cs_x[i_x] = _ := fun h2 => r_x 0 ((by omega)) h2
      obtain ⟨o_y, i_y, c_y, cs_y, own_y, ex_y, es_y, q_y, b_y, g_y, l_y, r_y⟩ := hw.open ((by omega))
      have z_y : ∀ h2 : i_y < cs_y.length, cs_y[i_y] = _ := fun h2 => r_y 0 ((by omega)) h2
      try simp (disch := first | omega | (simp; done) | fail) [wrap64c, if_pos, if_neg, hL, hM, hlb, e0, e1, e12, e13, hlt, hlt2, q_x, g_x, l_x, r_x, z_x, q_y, g_y, l_y, r_y, z_y]
      refine WD_drawC 8 rfl (by kernel_rfl) ?_
      by_cases he : X[j] = Y[j]
      · have hb : (X[j] != Y[j]) = false := by simp [he]
        try simp (disch := first | omega | (simp; done) | fail) [wrap64c, if_pos, if_neg, hL, hM, hlb, e0, e1, e12, e13, hlt, hlt2, q_x, g_x, l_x, r_x, z_x, q_y, g_y, l_y, r_y, z_y, hb]
        refine loopK_next _ ?hm ?hf ⟨j + 1, rfl, rfl, (by simp (disch := first | omega | (simp; done) | fail) [wrap64c, if_pos, if_neg, hL, hM, hlb, e0, e1, e12, e13, hlt, hlt2, q_x, g_x, l_x, r_x, z_x, q_y, g_y, l_y, r_y, z_y] <;> omega), (by first | omega | assumption | (simp (disch := first | omega | (simp; done) | fail) [wrap64c, if_pos, if_neg, hL, hM, hlb, e0, e1, e12, e13, hlt, hlt2, q_x, g_x, l_x, r_x, z_x, q_y, g_y, l_y, r_y, z_y] <;> omega)), ?c_hx⟩
        (case hm => first | omega | (simp; omega))
        (case hf => simp [FrameL, hL, hM, hlb, e0, e1, e12, e13, hlt, hlt2, q_x, g_x, l_x, r_x, z_x, q_y, g_y, l_y, r_y, z_y, f0_0, f1_0, f12_0])
        case c_hx =>
          exact (fun i h1 h2 hi => by
            by_cases e : i = j
            · subst e; exact he
            · exact hx i h1 h2 (by omega))
      · have hb : (X[j] != Y[j]) = true := by simp [he]
        have hne : ¬ X = Y := fun e => he (by subst e; rfl)
        try simp (disch := first | omega | (simp; done) | fail) [wrap64c, if_pos, if_neg, hL, hM, hlb, e0, e1, e12, e13, hlt, hlt2, q_x, g_x, l_x, r_x, z_x, q_y, g_y, l_y, r_y, z_y, hb]
        exact done_ret rfl (by simp [hne])
    · try simp (disch := first | omega | (simp; done) | fail) [wrap64c, if_pos, if_neg, hL, hM, hlb, e0, e1, e12, e13, hlt]
      have e : X = Y := List.ext_getElem hl fun i h1 h2 => hx i h1 h2 (by omega)
      exact done_ret rfl (by simp [e])
  · have hlb : ((X.length : Int) != (Y.length : Int)) = true := by simp [hl]
    try simp (disch := first | omega | (simp; done) | fail) [wrap64c, if_pos, if_neg, hL, hM, hlb]
    have hne : ¬ X = Y := fun e => hl (by rw [e])
    exact done_ret rfl (by simp [hne])
theorem l1LeastD_ok (h : Hp) (a b : Int) : CallOK Try.prog 136 #[.int .i64 a, .int .i64 b] h (.int .i64 (if a < b then a else b)) h := by
  refine callY_P 10 _ [.tmp 4] Try.func136 rfl rfl rfl (by first | rfl | simp) ?_
  by_cases hc : a < b
  · try simp (disch := first | omega | (simp; done) | fail) [wrap64c, if_pos, if_neg, hc]
    exact done_ret rfl (by simp [hc])
  · try simp (disch := first | omega | (simp; done) | fail) [wrap64c, if_pos, if_neg, hc]
    exact done_ret rfl (by simp [hc])
end Go.Proofs.Ytnjabaeajjhliaa
