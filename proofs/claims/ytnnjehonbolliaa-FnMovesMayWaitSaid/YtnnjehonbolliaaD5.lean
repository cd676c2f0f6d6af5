/- A run, or nearly one, drawn from bytes. -/
import Derived.Test.YtnnjehonbolliaaD4
import Derived.Test.YtnnjehonbolliaaB9
namespace Go.Proofs.Ytnnjehonbolliaa
set_option linter.unusedSimpArgs false
set_option linter.unusedVariables false
set_option maxHeartbeats 4000000
open Go Go.Eng
attribute [local irreducible] WD RunD PreD Runs CallOK

theorem sliceA {P : Program} {n : Nat} {h : Hp} {v : Value} {xs : List Int} {t e : Nat} (hs : IntsA n h v xs) (h1 : elT P t = some e) (h2 : szT P e = some 1) (hl : xs.length < 2 ^ 63) {k : Nat} (hk : k ≤ xs.length) :
    ∃ v', (∀ tm o, ev tm o = .int .i64 (k : Int) → sliceD P t v none (some o) tm = some v') ∧ IntsF (fun x => n ≤ x) h v' (xs.take k) ∧ notTup v' = true ∧ (v = .slice none 0 0 → v' = .slice none 0 0) ∧ ∀ o, v = .slice (some ⟨o, 0, none⟩) xs.length xs.length → v' = .slice (some ⟨o, 0, none⟩) k xs.length := by
  have hb : ∀ (tm : Nat → Value) (o : Operand) (m : Nat), ev tm o = .int .i64 (k : Int) → bnd tm m (some o) = some k := fun tm o m ho => by simp only [bnd]; rw [ho]; simp
  rcases hs with ⟨rfl, rfl⟩ | ⟨o, ex, rfl, a, b, c⟩
  · have k0 : k = 0 := by simpa using hk
    subst k0
    exact ⟨.slice none 0 0, fun tm o ho => by unfold sliceD; rw [hb _ _ _ ho]; simp [bnd, h1, h2], ⟨none, 0, rfl, Nat.le_refl _, by decide, fun k x hk => by simp at hk⟩, rfl, fun _ => rfl, fun o e => by simp at e⟩
  · refine ⟨.slice (some ⟨o, 0, none⟩) k xs.length, fun tm x ho => by
      have e1 := hb tm x xs.length ho
      have e2 : bnd tm 0 none = some 0 := rfl
      simp only [sliceD, e1, e2, h1, Option.bind_some, h2]
      simp [hk], ⟨some ⟨o, 0, none⟩, xs.length, by simp [Nat.min_eq_left hk], by simp; omega, hl, fun j x hj => ?_⟩, rfl, fun e => by simp at e, fun o' e => by simp at e; subst e; rfl⟩
    have hj' : j < k ∧ xs[j]? = some x := by
      rw [List.getElem?_take] at hj
      split at hj
      · exact ⟨by assumption, hj⟩
      · simp at hj
    obtain ⟨q1, q2⟩ := List.getElem?_eq_some_iff.1 hj'.2
    subst q2
    exact ⟨o, 0, _, true, ex, 1, rfl, a, b, c, by simpa using q1, by simp [isInt, List.getD_eq_getElem?_getD, q1]⟩
theorem intsF_now {F : Nat → Prop} {h h' : Hp} {v : Value} {xs : List Int} (hs : IntsF F h v xs) (hk : Same (fun x => F x ∧ x < h.next) h h') : IntsF F h' v xs := by
  obtain ⟨s, c, e, hc, hc', hx⟩ := hs
  refine ⟨s, c, e, hc, hc', fun k x hk' => ?_⟩
  obtain ⟨o, i, cs, own, ex, es, h1, hf, h2, h3, h4, h5⟩ := hx k x hk'
  exact ⟨o, i, cs, own, ex, es, h1, hf, Nat.lt_of_lt_of_le h2 hk.1, by rw [hk.2 o ⟨hf, h2⟩ h2]; exact h3, h4, h5⟩
theorem rowsF_now {F : Nat → Prop} {h h' : Hp} {v : Value} {xs : List (List Int)} (hs : IRowsF F h v xs) (hk : Same (fun x => F x ∧ x < h.next) h h') : IRowsF F h' v xs := by
  obtain ⟨s, c, e, hc, hc', hx⟩ := hs
  refine ⟨s, c, e, hc, hc', fun k x hk' => ?_⟩
  obtain ⟨o, i, cs, own, ex, es, h1, hf, h2, h3, h4, h5⟩ := hx k x hk'
  exact ⟨o, i, cs, own, ex, es, h1, hf, Nat.lt_of_lt_of_le h2 hk.1, by rw [hk.2 o ⟨hf, h2⟩ h2]; exact h3, h4, intsF_now h5 hk⟩
theorem fin2 {h hh : Hp} {lo : Nat} {a b l : Value} {L : List (List Int)} {A xs : List Int} (hA : Adds h hh) (hlo : h.next < lo) (fa : IRowsF (fun x => lo ≤ x) hh a L) (fb : IntsF (fun x => lo ≤ x) hh b A) (fi : IntsF (fun x => lo ≤ x) hh l xs) (c : List Value) (e : Bool) (n : Nat) :
    Adds h (hh.put h.next (.cells c true e n)) ∧ Chips (hh.put h.next (.cells c true e n)) (.agg #[a, b]) L A ∧ Ints (hh.put h.next (.cells c true e n)) l xs := by
  have hs : Same (fun x => lo ≤ x) hh (hh.put h.next (.cells c true e n)) := ⟨Nat.le_refl _, fun x hx _ => by simp [show x ≠ h.next by omega]⟩
  exact ⟨hA.put (Nat.le_refl _) (fun _ => rfl), ⟨a, b, rfl, (fa.same hs).rows, (fb.same hs).ints⟩, (fi.same hs).ints⟩
theorem drawRun_ok (h : Hp) (v : Value) (bs : List Int) (hb : BytesF h.next h v bs) : ∃ u h', CallOK Try.prog 22 #[v] h u h' ∧ Adds h h' ∧ ∃ c l L A xs, u = .tuple #[c, l] ∧ Chips h' c L A ∧ Ints h' l xs ∧ (L.length ≤ 5 ∧ (∀ x ∈ L, x.length ≤ 4) ∧ A.length ≤ 4) ∧ xs.length ≤ 200 := by
  have ntv := hb.bytes.nt
  have csv := hb.bytes.cs
  refine callY_L (args := [v]) 55 _ [.cell 2 27, .tmp 3] Try.func22 rfl rfl rfl ?_
  try simp (disch := first | omega | (simp; done) | fail) [wrap64c, if_pos, if_neg, ntv, csv]
  first | refine WY_heap fun h0 q_h0 => ?_ | refine callG_heap fun h0 q_h0 => ?_ | refine callP_heap fun h0 q_h0 => ?_ | refine callS_heap fun h0 q_h0 => ?_ | refine RY_heap fun h0 q_h0 => ?_ | refine PY_heap fun h0 q_h0 => ?_ | refine SY_heap fun h0 q_h0 => ?_ | refine doneY_heap fun h0 q_h0 => ?_ | refine loopK_heap fun h0 q_h0 => ?_ | refine thenY_heap fun h0 q_h0 => ?_ | refine thenM_heap fun h0 q_h0 => ?_
  have k0 : Adds h h0 := by rw [q_h0]; exact (by first | exact aK | exact kK)
  have n0 : h0.next = h.next + 2 := by simp [q_h0]
  have g0 : h0.get (h.next + 1) = .cells [v, .int .i64 0, .int .u64 0] true true 1 := by simp [q_h0]
  have gr0 : h0.get h.next = .cells [.slice none 0 0, .slice none 0 0] true true 1 := by simp [q_h0]
  have c0 := cur_mk hb k0.1 ⟨Nat.le_succ _, by omega⟩ g0
  obtain ⟨v1, h1, p1, d1, L, A, f1, sm1⟩ := chips_ok h h0 (h.next + 1) 0 k0 c0 (by decide)
  obtain ⟨a, b, rfl, fa, fb⟩ := f1
  have hp2 : ∀ a b c d : Value, putCells [a, b] 0 [c, d] = [c, d] := fun _ _ _ _ => rfl
  refine callG_c (by simp) (by simp) ?ha (p1) ?_
  (case ha => simp (disch := first | omega | (simp; done) | fail) [wrap64c, if_pos, if_neg, ntv, csv, hp2])
  try simp (disch := first | omega | (simp; done) | fail) [wrap64c, if_pos, if_neg, ntv, csv, hp2]
  first | refine WY_heap fun h2 q_h2 => ?_ | refine callG_heap fun h2 q_h2 => ?_ | refine callP_heap fun h2 q_h2 => ?_ | refine callS_heap fun h2 q_h2 => ?_ | refine RY_heap fun h2 q_h2 => ?_ | refine PY_heap fun h2 q_h2 => ?_ | refine SY_heap fun h2 q_h2 => ?_ | refine doneY_heap fun h2 q_h2 => ?_ | refine loopK_heap fun h2 q_h2 => ?_ | refine thenY_heap fun h2 q_h2 => ?_ | refine thenM_heap fun h2 q_h2 => ?_
  have k2 : Adds h1 h2 := by rw [q_h2]; exact (by first | exact aK | exact kK)
  have n2 : h2.next = h1.next + 1 := by simp [q_h2]
  have d2 := d1.trans (DrW.of_adds d1.add d1.cur k2)
  have nx1 := d1.nx
  have gc2 : h2.get h1.next = .cells [a, b] true true 1 := by simp [q_h2]
  have gr2 : h2.get h.next = .cells [.slice none 0 0, .slice none 0 0] true true 1 := by rw [d2.sm _ (by omega) (by omega)]; exact gr0
  have fa2 := fa.keep k2.1
  have fb2 := fb.keep k2.1
  have hC2 : Chips h2 (.agg #[a, b]) L A := ⟨a, b, rfl, fa2.rows, fb2.ints⟩
  refine callG_c (by simp) (by simp) ?ha (waGood_ok h2 _ L A hC2) ?_
  (case ha => simp (disch := first | omega | (simp; done) | fail) [wrap64c, if_pos, if_neg, ntv, csv, hp2])
  by_cases hg : goodB L A = true
  case neg =>
    have hg' : goodB L A = false := by simpa using hg
    have gc2' := gc2
    try simp (disch := first | omega | (simp; done) | fail) [wrap64c, if_pos, if_neg, ntv, csv, hp2, hg', gc2', gr2]
    first | refine WY_heap fun h3 q_h3 => ?_ | refine callG_heap fun h3 q_h3 => ?_ | refine callP_heap fun h3 q_h3 => ?_ | refine callS_heap fun h3 q_h3 => ?_ | refine RY_heap fun h3 q_h3 => ?_ | refine PY_heap fun h3 q_h3 => ?_ | refine SY_heap fun h3 q_h3 => ?_ | refine doneY_heap fun h3 q_h3 => ?_ | refine loopK_heap fun h3 q_h3 => ?_ | refine thenY_heap fun h3 q_h3 => ?_ | refine thenM_heap fun h3 q_h3 => ?_
    have k3 : Adds h2 (h2.alloc (.cells [.int .i64 0] true true 1)) := Adds.alloc h2 (fun _ => rfl)
    have d3 := d2.trans (DrW.of_adds d2.add d2.cur k3)
    have hs : Same (fun x => h0.next ≤ x) (h2.alloc (.cells [.int .i64 0] true true 1)) h3 := ⟨by simp [q_h3], fun x hx hl => by
      have : x ≠ h.next := by omega
      simp [q_h3, this]⟩
    have hl3 : IntsF (fun x => h0.next ≤ x) h3 (.slice (some ⟨h2.next, 0, none⟩) 1 1) [0] := lit_ints (xs := [0]) (own := true) (ex := true) (es := 1) (by
      have : h2.next ≠ h.next := by omega
      simp [q_h3, this]) (by simp [q_h3]) (by omega) (by simp)
    have gr3 : h3.get h.next = .cells [a, b] true true 1 := by simp [q_h3]
    exact done_ret (vs := [.agg #[a, b], .slice (some ⟨h2.next, 0, none⟩) 1 1]) (by simp [resL, gr3]) ⟨by rw [q_h3]; exact d3.add.put (Nat.le_refl _) (fun _ => rfl), _, _, L, A, [0], rfl, ⟨a, b, rfl, ((fa2.keep k3.1).same hs).rows, ((fb2.keep k3.1).same hs).ints⟩, hl3.ints, sm1, by simp⟩
  have hg' := hg
  have gc2' := gc2
  obtain ⟨v3, h3, p3, d3, cs, i3, lc3, hc3⟩ := choices2_ok h h2 (h.next + 1) 1000 d2.add d2.cur (by decide)
  have nx3 := d3.nx
  have fa3 := fa2.same (d3.same (S := fun x => h0.next ≤ x) (fun p hp => by omega))
  have fb3 := fb2.same (d3.same (S := fun x => h0.next ≤ x) (fun p hp => by omega))
  have hC3 : Chips h3 (.agg #[a, b]) L A := ⟨a, b, rfl, fa3.rows, fb3.ints⟩
  have hI3 : Ints h3 v3 cs := ((i3.own (by omega)).ints)
  have nt3 := i3.nt
  obtain ⟨v4, h4, p4, a4, u1, u2, rfl, hu1, hu2, hu3⟩ := waFullA_ok h3 _ v3 L A cs hC3 hI3 (good_of hg).ok hc3
  have kf1 : KeepF (fun b => b = h1.next ∨ litF [] h2.next b) h2 h3 := fun b hb => by
    rcases hb with rfl | hb
    · exact d3.sm _ (by omega) (by omega)
    · exact hb.elim
  have kf2 : KeepF (fun b => b = h1.next ∨ litF [] h2.next b) h3 h4 := fun b hb => by
    rcases hb with rfl | hb
    · exact a4.1.2 _ (by omega)
    · exact hb.elim
  try simp (disch := first | omega | (simp; done) | fail) [wrap64c, if_pos, if_neg, ntv, csv, hp2, hg', gc2', nt3]
  refine WD_softC [20] [] [] (fun b => b = h1.next) rfl (by kernel_rfl) (by kernel_rfl) rfl ?_
  try simp (disch := first | omega | (simp; done) | fail) [wrap64c, if_pos, if_neg, ntv, csv, hp2, hg', gc2', nt3]
  refine callS_c (by simp) (by simp) ?ha (p3) ?hkf ?_
  (case ha => simp (disch := first | omega | (simp; done) | fail) [wrap64c, if_pos, if_neg, ntv, csv, hp2, hg', gc2', nt3])
  (case hkf => assumption)
  try simp (disch := first | omega | (simp; done) | fail) [wrap64c, if_pos, if_neg, ntv, csv, hp2, hg', gc2', nt3]
  refine callS_c (by simp) (by simp) ?ha (p4) ?hkf ?_
  (case ha => simp (disch := first | omega | (simp; done) | fail) [wrap64c, if_pos, if_neg, ntv, csv, hp2, hg', gc2', nt3])
  (case hkf => assumption)
  try simp (disch := first | omega | (simp; done) | fail) [wrap64c, if_pos, if_neg, ntv, csv, hp2, hg', gc2', nt3]
  have d4 := d3.trans (DrW.of_adds d3.add d3.cur a4)
  have fa4 := fa3.keep a4.1
  have fb4 := fb3.keep a4.1
  have nx4 := a4.1.1
  have gc4 : h4.get h1.next = .cells [a, b] true true 1 := by rw [(d3.trans (DrW.of_adds d3.add d3.cur a4)).sm _ (by omega) (by omega)]; exact gc2
  have gr4 : h4.get h.next = .cells [.slice none 0 0, .slice none 0 0] true true 1 := by rw [(d3.trans (DrW.of_adds d3.add d3.cur a4)).sm _ (by omega) (by omega)]; exact gr2
  have hlf : (fRun (fullA L cs 61 [] A)).length ≤ 60 := by
    cases hq : fullA L cs 61 [] A with
    | none => simp [fRun]
    | some q =>
      have := (fullR_len hc3 (show fullR L A cs = some q by rw [fullR, if_pos hg]; exact hq)).1
      simpa [fRun] using this
  cases hn : (fullA L cs 61 [] A).isSome
  · have hn' := hn
    have hn2 : (fullA L cs 61 [] A).isNone = true := by simpa using hn
    obtain ⟨x0, hx0⟩ : ∃ x : List Int, x = [] := ⟨_, rfl⟩
    have lx0 : x0.length = 0 := by simp [hx0]
    have hrv : IntsA h3.next h4 (.slice none 0 0) x0 := by rw [hx0]; exact .nil _ _
    try simp (disch := first | omega | (simp; done) | fail) [wrap64c, if_pos, if_neg, ntv, csv, hp2, hg', gc2', nt3, hn', hn2, lx0]
    obtain ⟨v5, h5, p5, r5, q5, l5, w5⟩ := pick_ok h.next (h.next + 1) 1030 h4 ((x0.length : Int) + 1) d4.cur (by decide)
    subst q5
    have hr5 := l5 (by omega)
    have d5 := d4.trans (w5.dr d4.add d4.cur)
    have hA5 : IntsA h3.next h5 (.slice none 0 0) x0 := ints_cur hrv (by rw [w5.nx]; exact Nat.le_refl _) (fun p h1 h2 => w5.get p h2 (by omega))
    obtain ⟨rv, hsl, hF5, ntr, hnil, hobj⟩ := sliceA hA5 ty_elT_25 ty_szT_3 (by omega) (show r5 ≤ x0.length by omega)
    have n5 := w5.nx
    obtain rfl := hnil rfl
    refine callG_c (by simp) (by simp) ?ha (p5) ?_
    (case ha => simp (disch := first | omega | (simp; done) | fail) [wrap64c, if_pos, if_neg, ntv, csv, hp2, hg', gc2', nt3, hn', hn2, lx0])
    try simp (disch := first | omega | (simp; done) | fail) [wrap64c, if_pos, if_neg, ntv, csv, hp2, hg', gc2', nt3, hn', hn2, lx0]
    obtain ⟨v6, h6, p6, r6, q6, l6, w6⟩ := pick_ok h.next (h.next + 1) 1032 h5 8 d5.cur (by decide)
    subst q6
    have d6 := d5.trans (w6.dr d5.add d5.cur)
    have hF6 := hF5.same (h' := h6) (w6.same (S := fun x => h3.next ≤ x) (fun p hp => by omega))
    have hr6 := l6 (by omega)
    have n6 := w6.nx
    refine callG_c (by simp) (by simp) ?ha (p6) ?_
    (case ha => simp (disch := first | omega | (simp; done) | fail) [wrap64c, if_pos, if_neg, ntv, csv, hp2, hg', gc2', nt3, hn', hn2, lx0])
    have gc6 : h6.get h1.next = .cells [a, b] true true 1 := by rw [w6.get _ (by omega) (by omega), w5.get _ (by omega) (by omega)]; exact gc4
    have gr6 : h6.get h.next = .cells [.slice none 0 0, .slice none 0 0] true true 1 := by rw [w6.get _ (by omega) (by omega), w5.get _ (by omega) (by omega)]; exact gr4
    have fa6 := (fa4.same (w5.same (S := fun x => h0.next ≤ x) (fun p hp => by omega))).same (w6.same (S := fun x => h0.next ≤ x) (fun p hp => by omega))
    have fb6 := (fb4.same (w5.same (S := fun x => h0.next ≤ x) (fun p hp => by omega))).same (w6.same (S := fun x => h0.next ≤ x) (fun p hp => by omega))
    have lk6 : (x0.take r5).length ≤ 60 := by simp; omega
    by_cases z0 : r6 = 0
    · subst z0
      obtain ⟨v7, h7, p7, a7, o7, i7⟩ := l1Own_ok h6 _ _ hF6.ints (by omega)
      have d7 := d6.trans (DrW.of_adds d6.add d6.cur a7)
      obtain ⟨v8, h8, p8, r8, q8, l8, w8⟩ := pick_ok h.next (h.next + 1) 1034 h7 7 d7.cur (by decide)
      subst q8
      have d8 := d7.trans (w8.dr d7.add d7.cur)
      have n7 := a7.1.1
      have n8 := w8.nx
      have i8 : IntsA h6.next h8 v7 (x0.take r5) := ints_cur i7 (by omega) (fun p h1 h2 => w8.get p h2 (by omega))
      obtain ⟨v9, h9, hap, i9, k9, n9, s9⟩ := appI i8 ((r8 : Int) - 1) (by omega) (by omega) d8.add (by omega)
      have gc9 : h9.get h1.next = .cells [a, b] true true 1 := by rw [s9 _ (by omega) (by omega), w8.get _ (by omega) (by omega), a7.1.2 _ (by omega)]; exact gc6
      have gr9 : h9.get h.next = .cells [.slice none 0 0, .slice none 0 0] true true 1 := by rw [s9 _ (by omega) (by omega), w8.get _ (by omega) (by omega), a7.1.2 _ (by omega)]; exact gr6
      try simp (disch := first | omega | (simp; done) | fail) [wrap64c, if_pos, if_neg, ntv, csv, hp2, hg', gc2', nt3, hn', hn2, lx0, gc9, gr9]
      refine callG_c (by simp) (by simp) ?ha (p7) ?_
      (case ha => simp (disch := first | omega | (simp; done) | fail) [wrap64c, if_pos, if_neg, ntv, csv, hp2, hg', gc2', nt3, hn', hn2, lx0, gc9, gr9])
      try simp (disch := first | omega | (simp; done) | fail) [wrap64c, if_pos, if_neg, ntv, csv, hp2, hg', gc2', nt3, hn', hn2, lx0, gc9, gr9]
      refine callG_c (by simp) (by simp) ?ha (p8) ?_
      (case ha => simp (disch := first | omega | (simp; done) | fail) [wrap64c, if_pos, if_neg, ntv, csv, hp2, hg', gc2', nt3, hn', hn2, lx0, gc9, gr9])
      try simp (disch := first | omega | (simp; done) | fail) [wrap64c, if_pos, if_neg, ntv, csv, hp2, hg', gc2', nt3, hn', hn2, lx0, gc9, gr9, hap]
      have hs9 : Same (fun x => h0.next ≤ x ∧ x < h6.next) h6 h9 := ⟨by omega, fun x hx hl => by rw [s9 _ (by omega) (by omega), w8.get _ (by omega) (by omega), a7.1.2 _ (by omega)]⟩
      have fa9 : IRowsF (fun x => h0.next ≤ x) h9 a L := rowsF_now fa6 hs9
      have fb9 : IntsF (fun x => h0.next ≤ x) h9 b A := intsF_now fb6 hs9
      obtain ⟨z1, z2, z3⟩ := fin2 k9 (by omega) fa9 fb9 (((i9.own (by simp; omega)).read).sub (G := fun x => h0.next ≤ x) (fun x hx => by have := hx.1; omega)) [a, b] true 1
      exact done_ret (vs := [.agg #[a, b], v9]) (by simp [resL]) ⟨z1, _, _, L, A, _, rfl, z2, z3, sm1, by simp; omega⟩
    have z0' : ¬ (r6 : Int) = 0 := by omega
    by_cases z1 : r6 = 1
    · subst z1
      obtain ⟨v7, h7, p7, r7, q7, l7, w7⟩ := pick_ok h.next (h.next + 1) 1034 h6 2 d6.cur (by decide)
      subst q7
      have d7 := d6.trans (w7.dr d6.add d6.cur)
      have n7 := w7.nx
      have hr7 := l7 (by omega)
      have gc7 : h7.get h1.next = .cells [a, b] true true 1 := by rw [w7.get _ (by omega) (by omega)]; exact gc6
      have gr7 : h7.get h.next = .cells [.slice none 0 0, .slice none 0 0] true true 1 := by rw [w7.get _ (by omega) (by omega)]; exact gr6
      have fa7 := fa6.same (w7.same (S := fun x => h0.next ≤ x) (fun p hp => by omega))
      have fb7 := fb6.same (w7.same (S := fun x => h0.next ≤ x) (fun p hp => by omega))
      obtain ⟨m7, hm7⟩ : ∃ m : Nat, m = 120 + r7 := ⟨_, rfl⟩
      have e7 : (120 : Int) + (r7 : Int) = (m7 : Int) := by omega
      try simp (disch := first | omega | (simp; done) | fail) [wrap64c, if_pos, if_neg, ntv, csv, hp2, hg', gc2', nt3, hn', hn2, lx0, z0', gc7, gr7, e7]
      refine callG_c (by simp) (by simp) ?ha (p7) ?_
      (case ha => simp (disch := first | omega | (simp; done) | fail) [wrap64c, if_pos, if_neg, ntv, csv, hp2, hg', gc2', nt3, hn', hn2, lx0, z0', gc7, gr7, e7])
      try simp (disch := first | omega | (simp; done) | fail) [wrap64c, if_pos, if_neg, ntv, csv, hp2, hg', gc2', nt3, hn', hn2, lx0, z0', gc7, gr7, e7]
      have kz : Adds h7 (h7.alloc (.cells (List.replicate m7 (.int .i64 0)) true true 1)) := Adds.alloc h7 (fun _ => rfl)
      have iz := (zeros_o (S := fun x => h0.next ≤ x) (h := h7.alloc (.cells (List.replicate m7 (.int .i64 0)) true true 1)) (p := h7.next) (n := m7) (ex := true) (by simp) (by omega) (by simp) (by omega)).read
      obtain ⟨z1, z2, z3⟩ := fin2 (d7.add.trans kz) (by omega) (fa7.keep kz.1) (fb7.keep kz.1) iz [a, b] true 1
      exact done_ret (vs := [.agg #[a, b], _]) (by simp [resL]) ⟨z1, _, _, L, A, _, rfl, z2, z3, sm1, by simp; omega⟩
    have z1' : ¬ (r6 : Int) = 1 := by omega
    have gc6' := gc6
    try simp (disch := first | omega | (simp; done) | fail) [wrap64c, if_pos, if_neg, ntv, csv, hp2, hg', gc2', nt3, hn', hn2, lx0, z0', z1', gc6', gr6]
    obtain ⟨z1, z2, z3⟩ := fin2 d6.add (by omega) fa6 fb6 (hF6.sub (G := fun x => h0.next ≤ x) (fun x hx => by omega)) [a, b] true 1
    exact done_ret (vs := [.agg #[a, b], .slice none 0 0]) (by simp [resL]) ⟨z1, _, _, L, A, _, rfl, z2, z3, sm1, by omega⟩
  · have hn' := hn
    have hn2 : (fullA L cs 61 [] A).isNone = false := by cases hq : fullA L cs 61 [] A <;> simp_all
    obtain ⟨ru, hru⟩ : ∃ r, r = fRun (fullA L cs 61 [] A) := ⟨_, rfl⟩
    have lru : ru.length ≤ 60 := by rw [hru]; exact hlf
    rw [← hru] at hu3
    rcases hu3 with ⟨e1, e2⟩ | ⟨oq, eq_, e2, z1, z2, z3⟩
    · subst e2
      have lx0 : ru.length = 0 := by simp [e1]
      have hrv : IntsA h3.next h4 (.slice none 0 0) ru := by rw [e1]; exact .nil _ _
      try simp (disch := first | omega | (simp; done) | fail) [wrap64c, if_pos, if_neg, ntv, csv, hp2, hg', gc2', nt3, hn', hn2, lx0]
      obtain ⟨v5, h5, p5, r5, q5, l5, w5⟩ := pick_ok h.next (h.next + 1) 1030 h4 ((ru.length : Int) + 1) d4.cur (by decide)
      subst q5
      have hr5 := l5 (by omega)
      have d5 := d4.trans (w5.dr d4.add d4.cur)
      have hA5 : IntsA h3.next h5 (.slice none 0 0) ru := ints_cur hrv (by rw [w5.nx]; exact Nat.le_refl _) (fun p h1 h2 => w5.get p h2 (by omega))
      obtain ⟨rv, hsl, hF5, ntr, hnil, hobj⟩ := sliceA hA5 ty_elT_25 ty_szT_3 (by omega) (show r5 ≤ ru.length by omega)
      have n5 := w5.nx
      obtain rfl := hnil rfl
      refine callG_c (by simp) (by simp) ?ha (p5) ?_
      (case ha => simp (disch := first | omega | (simp; done) | fail) [wrap64c, if_pos, if_neg, ntv, csv, hp2, hg', gc2', nt3, hn', hn2, lx0])
      try simp (disch := first | omega | (simp; done) | fail) [wrap64c, if_pos, if_neg, ntv, csv, hp2, hg', gc2', nt3, hn', hn2, lx0]
      obtain ⟨v6, h6, p6, r6, q6, l6, w6⟩ := pick_ok h.next (h.next + 1) 1032 h5 8 d5.cur (by decide)
      subst q6
      have d6 := d5.trans (w6.dr d5.add d5.cur)
      have hF6 := hF5.same (h' := h6) (w6.same (S := fun x => h3.next ≤ x) (fun p hp => by omega))
      have hr6 := l6 (by omega)
      have n6 := w6.nx
      refine callG_c (by simp) (by simp) ?ha (p6) ?_
      (case ha => simp (disch := first | omega | (simp; done) | fail) [wrap64c, if_pos, if_neg, ntv, csv, hp2, hg', gc2', nt3, hn', hn2, lx0])
      have gc6 : h6.get h1.next = .cells [a, b] true true 1 := by rw [w6.get _ (by omega) (by omega), w5.get _ (by omega) (by omega)]; exact gc4
      have gr6 : h6.get h.next = .cells [.slice none 0 0, .slice none 0 0] true true 1 := by rw [w6.get _ (by omega) (by omega), w5.get _ (by omega) (by omega)]; exact gr4
      have fa6 := (fa4.same (w5.same (S := fun x => h0.next ≤ x) (fun p hp => by omega))).same (w6.same (S := fun x => h0.next ≤ x) (fun p hp => by omega))
      have fb6 := (fb4.same (w5.same (S := fun x => h0.next ≤ x) (fun p hp => by omega))).same (w6.same (S := fun x => h0.next ≤ x) (fun p hp => by omega))
      have lk6 : (ru.take r5).length ≤ 60 := by simp; omega
      by_cases z0 : r6 = 0
      · subst z0
        obtain ⟨v7, h7, p7, a7, o7, i7⟩ := l1Own_ok h6 _ _ hF6.ints (by omega)
        have d7 := d6.trans (DrW.of_adds d6.add d6.cur a7)
        obtain ⟨v8, h8, p8, r8, q8, l8, w8⟩ := pick_ok h.next (h.next + 1) 1034 h7 7 d7.cur (by decide)
        subst q8
        have d8 := d7.trans (w8.dr d7.add d7.cur)
        have n7 := a7.1.1
        have n8 := w8.nx
        have i8 : IntsA h6.next h8 v7 (ru.take r5) := ints_cur i7 (by omega) (fun p h1 h2 => w8.get p h2 (by omega))
        obtain ⟨v9, h9, hap, i9, k9, n9, s9⟩ := appI i8 ((r8 : Int) - 1) (by omega) (by omega) d8.add (by omega)
        have gc9 : h9.get h1.next = .cells [a, b] true true 1 := by rw [s9 _ (by omega) (by omega), w8.get _ (by omega) (by omega), a7.1.2 _ (by omega)]; exact gc6
        have gr9 : h9.get h.next = .cells [.slice none 0 0, .slice none 0 0] true true 1 := by rw [s9 _ (by omega) (by omega), w8.get _ (by omega) (by omega), a7.1.2 _ (by omega)]; exact gr6
        try simp (disch := first | omega | (simp; done) | fail) [wrap64c, if_pos, if_neg, ntv, csv, hp2, hg', gc2', nt3, hn', hn2, lx0, gc9, gr9]
        refine callG_c (by simp) (by simp) ?ha (p7) ?_
        (case ha => simp (disch := first | omega | (simp; done) | fail) [wrap64c, if_pos, if_neg, ntv, csv, hp2, hg', gc2', nt3, hn', hn2, lx0, gc9, gr9])
        try simp (disch := first | omega | (simp; done) | fail) [wrap64c, if_pos, if_neg, ntv, csv, hp2, hg', gc2', nt3, hn', hn2, lx0, gc9, gr9]
        refine callG_c (by simp) (by simp) ?ha (p8) ?_
        (case ha => simp (disch := first | omega | (simp; done) | fail) [wrap64c, if_pos, if_neg, ntv, csv, hp2, hg', gc2', nt3, hn', hn2, lx0, gc9, gr9])
        try simp (disch := first | omega | (simp; done) | fail) [wrap64c, if_pos, if_neg, ntv, csv, hp2, hg', gc2', nt3, hn', hn2, lx0, gc9, gr9, hap]
        have hs9 : Same (fun x => h0.next ≤ x ∧ x < h6.next) h6 h9 := ⟨by omega, fun x hx hl => by rw [s9 _ (by omega) (by omega), w8.get _ (by omega) (by omega), a7.1.2 _ (by omega)]⟩
        have fa9 : IRowsF (fun x => h0.next ≤ x) h9 a L := rowsF_now fa6 hs9
        have fb9 : IntsF (fun x => h0.next ≤ x) h9 b A := intsF_now fb6 hs9
        obtain ⟨z1, z2, z3⟩ := fin2 k9 (by omega) fa9 fb9 (((i9.own (by simp; omega)).read).sub (G := fun x => h0.next ≤ x) (fun x hx => by have := hx.1; omega)) [a, b] true 1
        exact done_ret (vs := [.agg #[a, b], v9]) (by simp [resL]) ⟨z1, _, _, L, A, _, rfl, z2, z3, sm1, by simp; omega⟩
      have z0' : ¬ (r6 : Int) = 0 := by omega
      by_cases z1 : r6 = 1
      · subst z1
        obtain ⟨v7, h7, p7, r7, q7, l7, w7⟩ := pick_ok h.next (h.next + 1) 1034 h6 2 d6.cur (by decide)
        subst q7
        have d7 := d6.trans (w7.dr d6.add d6.cur)
        have n7 := w7.nx
        have hr7 := l7 (by omega)
        have gc7 : h7.get h1.next = .cells [a, b] true true 1 := by rw [w7.get _ (by omega) (by omega)]; exact gc6
        have gr7 : h7.get h.next = .cells [.slice none 0 0, .slice none 0 0] true true 1 := by rw [w7.get _ (by omega) (by omega)]; exact gr6
        have fa7 := fa6.same (w7.same (S := fun x => h0.next ≤ x) (fun p hp => by omega))
        have fb7 := fb6.same (w7.same (S := fun x => h0.next ≤ x) (fun p hp => by omega))
        obtain ⟨m7, hm7⟩ : ∃ m : Nat, m = 120 + r7 := ⟨_, rfl⟩
        have e7 : (120 : Int) + (r7 : Int) = (m7 : Int) := by omega
        try simp (disch := first | omega | (simp; done) | fail) [wrap64c, if_pos, if_neg, ntv, csv, hp2, hg', gc2', nt3, hn', hn2, lx0, z0', gc7, gr7, e7]
        refine callG_c (by simp) (by simp) ?ha (p7) ?_
        (case ha => simp (disch := first | omega | (simp; done) | fail) [wrap64c, if_pos, if_neg, ntv, csv, hp2, hg', gc2', nt3, hn', hn2, lx0, z0', gc7, gr7, e7])
        try simp (disch := first | omega | (simp; done) | fail) [wrap64c, if_pos, if_neg, ntv, csv, hp2, hg', gc2', nt3, hn', hn2, lx0, z0', gc7, gr7, e7]
        have kz : Adds h7 (h7.alloc (.cells (List.replicate m7 (.int .i64 0)) true true 1)) := Adds.alloc h7 (fun _ => rfl)
        have iz := (zeros_o (S := fun x => h0.next ≤ x) (h := h7.alloc (.cells (List.replicate m7 (.int .i64 0)) true true 1)) (p := h7.next) (n := m7) (ex := true) (by simp) (by omega) (by simp) (by omega)).read
        obtain ⟨z1, z2, z3⟩ := fin2 (d7.add.trans kz) (by omega) (fa7.keep kz.1) (fb7.keep kz.1) iz [a, b] true 1
        exact done_ret (vs := [.agg #[a, b], _]) (by simp [resL]) ⟨z1, _, _, L, A, _, rfl, z2, z3, sm1, by simp; omega⟩
      have z1' : ¬ (r6 : Int) = 1 := by omega
      have gc6' := gc6
      try simp (disch := first | omega | (simp; done) | fail) [wrap64c, if_pos, if_neg, ntv, csv, hp2, hg', gc2', nt3, hn', hn2, lx0, z0', z1', gc6', gr6]
      obtain ⟨z1, z2, z3⟩ := fin2 d6.add (by omega) fa6 fb6 (hF6.sub (G := fun x => h0.next ≤ x) (fun x hx => by omega)) [a, b] true 1
      exact done_ret (vs := [.agg #[a, b], .slice none 0 0]) (by simp [resL]) ⟨z1, _, _, L, A, _, rfl, z2, z3, sm1, by omega⟩
    · have hrv : IntsA h3.next h4 u1 ru := .inr ⟨oq, eq_, e2, z1, z2, z3⟩
      subst e2
      try simp (disch := first | omega | (simp; done) | fail) [wrap64c, if_pos, if_neg, ntv, csv, hp2, hg', gc2', nt3, hn', hn2]
      obtain ⟨v5, h5, p5, r5, q5, l5, w5⟩ := pick_ok h.next (h.next + 1) 1030 h4 ((ru.length : Int) + 1) d4.cur (by decide)
      subst q5
      have hr5 := l5 (by omega)
      have d5 := d4.trans (w5.dr d4.add d4.cur)
      have hA5 : IntsA h3.next h5 (.slice (some ⟨oq, 0, none⟩) ru.length ru.length) ru := ints_cur hrv (by rw [w5.nx]; exact Nat.le_refl _) (fun p h1 h2 => w5.get p h2 (by omega))
      obtain ⟨rv, hsl, hF5, ntr, hnil, hobj⟩ := sliceA hA5 ty_elT_25 ty_szT_3 (by omega) (show r5 ≤ ru.length by omega)
      have n5 := w5.nx
      obtain rfl := hobj _ rfl
      refine callG_c (by simp) (by simp) ?ha (p5) ?_
      (case ha => simp (disch := first | omega | (simp; done) | fail) [wrap64c, if_pos, if_neg, ntv, csv, hp2, hg', gc2', nt3, hn', hn2])
      try simp (disch := first | omega | (simp; done) | fail) [wrap64c, if_pos, if_neg, ntv, csv, hp2, hg', gc2', nt3, hn', hn2]
      obtain ⟨v6, h6, p6, r6, q6, l6, w6⟩ := pick_ok h.next (h.next + 1) 1032 h5 8 d5.cur (by decide)
      subst q6
      have d6 := d5.trans (w6.dr d5.add d5.cur)
      have hF6 := hF5.same (h' := h6) (w6.same (S := fun x => h3.next ≤ x) (fun p hp => by omega))
      have hr6 := l6 (by omega)
      have n6 := w6.nx
      refine callG_c (by simp) (by simp) ?ha (p6) ?_
      (case ha => simp (disch := first | omega | (simp; done) | fail) [wrap64c, if_pos, if_neg, ntv, csv, hp2, hg', gc2', nt3, hn', hn2])
      have gc6 : h6.get h1.next = .cells [a, b] true true 1 := by rw [w6.get _ (by omega) (by omega), w5.get _ (by omega) (by omega)]; exact gc4
      have gr6 : h6.get h.next = .cells [.slice none 0 0, .slice none 0 0] true true 1 := by rw [w6.get _ (by omega) (by omega), w5.get _ (by omega) (by omega)]; exact gr4
      have fa6 := (fa4.same (w5.same (S := fun x => h0.next ≤ x) (fun p hp => by omega))).same (w6.same (S := fun x => h0.next ≤ x) (fun p hp => by omega))
      have fb6 := (fb4.same (w5.same (S := fun x => h0.next ≤ x) (fun p hp => by omega))).same (w6.same (S := fun x => h0.next ≤ x) (fun p hp => by omega))
      have lk6 : (ru.take r5).length ≤ 60 := by simp; omega
      by_cases z0 : r6 = 0
      · subst z0
        obtain ⟨v7, h7, p7, a7, o7, i7⟩ := l1Own_ok h6 _ _ hF6.ints (by omega)
        have d7 := d6.trans (DrW.of_adds d6.add d6.cur a7)
        obtain ⟨v8, h8, p8, r8, q8, l8, w8⟩ := pick_ok h.next (h.next + 1) 1034 h7 7 d7.cur (by decide)
        subst q8
        have d8 := d7.trans (w8.dr d7.add d7.cur)
        have n7 := a7.1.1
        have n8 := w8.nx
        have i8 : IntsA h6.next h8 v7 (ru.take r5) := ints_cur i7 (by omega) (fun p h1 h2 => w8.get p h2 (by omega))
        obtain ⟨v9, h9, hap, i9, k9, n9, s9⟩ := appI i8 ((r8 : Int) - 1) (by omega) (by omega) d8.add (by omega)
        have gc9 : h9.get h1.next = .cells [a, b] true true 1 := by rw [s9 _ (by omega) (by omega), w8.get _ (by omega) (by omega), a7.1.2 _ (by omega)]; exact gc6
        have gr9 : h9.get h.next = .cells [.slice none 0 0, .slice none 0 0] true true 1 := by rw [s9 _ (by omega) (by omega), w8.get _ (by omega) (by omega), a7.1.2 _ (by omega)]; exact gr6
        try simp (disch := first | omega | (simp; done) | fail) [wrap64c, if_pos, if_neg, ntv, csv, hp2, hg', gc2', nt3, hn', hn2, gc9, gr9]
        refine callG_c (by simp) (by simp) ?ha (p7) ?_
        (case ha => simp (disch := first | omega | (simp; done) | fail) [wrap64c, if_pos, if_neg, ntv, csv, hp2, hg', gc2', nt3, hn', hn2, gc9, gr9])
        try simp (disch := first | omega | (simp; done) | fail) [wrap64c, if_pos, if_neg, ntv, csv, hp2, hg', gc2', nt3, hn', hn2, gc9, gr9]
        refine callG_c (by simp) (by simp) ?ha (p8) ?_
        (case ha => simp (disch := first | omega | (simp; done) | fail) [wrap64c, if_pos, if_neg, ntv, csv, hp2, hg', gc2', nt3, hn', hn2, gc9, gr9])
        try simp (disch := first | omega | (simp; done) | fail) [wrap64c, if_pos, if_neg, ntv, csv, hp2, hg', gc2', nt3, hn', hn2, gc9, gr9, hap]
        have hs9 : Same (fun x => h0.next ≤ x ∧ x < h6.next) h6 h9 := ⟨by omega, fun x hx hl => by rw [s9 _ (by omega) (by omega), w8.get _ (by omega) (by omega), a7.1.2 _ (by omega)]⟩
        have fa9 : IRowsF (fun x => h0.next ≤ x) h9 a L := rowsF_now fa6 hs9
        have fb9 : IntsF (fun x => h0.next ≤ x) h9 b A := intsF_now fb6 hs9
        obtain ⟨z1, z2, z3⟩ := fin2 k9 (by omega) fa9 fb9 (((i9.own (by simp; omega)).read).sub (G := fun x => h0.next ≤ x) (fun x hx => by have := hx.1; omega)) [a, b] true 1
        exact done_ret (vs := [.agg #[a, b], v9]) (by simp [resL]) ⟨z1, _, _, L, A, _, rfl, z2, z3, sm1, by simp; omega⟩
      have z0' : ¬ (r6 : Int) = 0 := by omega
      by_cases z1 : r6 = 1
      · subst z1
        obtain ⟨v7, h7, p7, r7, q7, l7, w7⟩ := pick_ok h.next (h.next + 1) 1034 h6 2 d6.cur (by decide)
        subst q7
        have d7 := d6.trans (w7.dr d6.add d6.cur)
        have n7 := w7.nx
        have hr7 := l7 (by omega)
        have gc7 : h7.get h1.next = .cells [a, b] true true 1 := by rw [w7.get _ (by omega) (by omega)]; exact gc6
        have gr7 : h7.get h.next = .cells [.slice none 0 0, .slice none 0 0] true true 1 := by rw [w7.get _ (by omega) (by omega)]; exact gr6
        have fa7 := fa6.same (w7.same (S := fun x => h0.next ≤ x) (fun p hp => by omega))
        have fb7 := fb6.same (w7.same (S := fun x => h0.next ≤ x) (fun p hp => by omega))
        obtain ⟨m7, hm7⟩ : ∃ m : Nat, m = 120 + r7 := ⟨_, rfl⟩
        have e7 : (120 : Int) + (r7 : Int) = (m7 : Int) := by omega
        try simp (disch := first | omega | (simp; done) | fail) [wrap64c, if_pos, if_neg, ntv, csv, hp2, hg', gc2', nt3, hn', hn2, z0', gc7, gr7, e7]
        refine callG_c (by simp) (by simp) ?ha (p7) ?_
        (case ha => simp (disch := first | omega | (simp; done) | fail) [wrap64c, if_pos, if_neg, ntv, csv, hp2, hg', gc2', nt3, hn', hn2, z0', gc7, gr7, e7])
        try simp (disch := first | omega | (simp; done) | fail) [wrap64c, if_pos, if_neg, ntv, csv, hp2, hg', gc2', nt3, hn', hn2, z0', gc7, gr7, e7]
        have kz : Adds h7 (h7.alloc (.cells (List.replicate m7 (.int .i64 0)) true true 1)) := Adds.alloc h7 (fun _ => rfl)
        have iz := (zeros_o (S := fun x => h0.next ≤ x) (h := h7.alloc (.cells (List.replicate m7 (.int .i64 0)) true true 1)) (p := h7.next) (n := m7) (ex := true) (by simp) (by omega) (by simp) (by omega)).read
        obtain ⟨z1, z2, z3⟩ := fin2 (d7.add.trans kz) (by omega) (fa7.keep kz.1) (fb7.keep kz.1) iz [a, b] true 1
        exact done_ret (vs := [.agg #[a, b], _]) (by simp [resL]) ⟨z1, _, _, L, A, _, rfl, z2, z3, sm1, by simp; omega⟩
      have z1' : ¬ (r6 : Int) = 1 := by omega
      have gc6' := gc6
      try simp (disch := first | omega | (simp; done) | fail) [wrap64c, if_pos, if_neg, ntv, csv, hp2, hg', gc2', nt3, hn', hn2, z0', z1', gc6', gr6]
      obtain ⟨z1, z2, z3⟩ := fin2 d6.add (by omega) fa6 fb6 (hF6.sub (G := fun x => h0.next ≤ x) (fun x hx => by omega)) [a, b] true 1
      exact done_ret (vs := [.agg #[a, b], .slice (some ⟨oq, 0, none⟩) r5 ru.length]) (by simp [resL]) ⟨z1, _, _, L, A, _, rfl, z2, z3, sm1, by omega⟩
end Go.Proofs.Ytnnjehonbolliaa
