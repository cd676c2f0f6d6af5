/- Drawing: what it writes, and lists of choices. -/
import Derived.Test.YtnnjehonbolliaaD1
import Derived.Test.YtnnjehonbolliaaA3
import Derived.Test.YtnnjehonbolliaaEngW
namespace Go.Proofs.Ytnnjehonbolliaa
set_option linter.unusedSimpArgs false
set_option linter.unusedVariables false
set_option maxHeartbeats 4000000
open Go Go.Eng
attribute [local irreducible] WD RunD PreD Runs CallOK

/-- What drawing does, seen from the heap ahead of the cursor. -/
structure DrW (hB : Hp) (o k : Nat) (h h' : Hp) : Prop where
  add : Adds hB h'
  nx : h.next ≤ h'.next
  sm : ∀ p, p < h.next → p ≠ o → h'.get p = h.get p
  cur : CurS hB.next o k h'
theorem DrW.refl {hB h : Hp} {o k : Nat} (hA : Adds hB h) (hc : CurS hB.next o k h) : DrW hB o k h h := ⟨hA, Nat.le_refl _, fun _ _ _ => rfl, hc⟩
theorem DrW.trans {hB a b c : Hp} {o k k' : Nat} (x : DrW hB o k a b) (y : DrW hB o k' b c) : DrW hB o k' a c :=
  ⟨y.add, Nat.le_trans x.nx y.nx, fun p hp hne => (y.sm p (Nat.lt_of_lt_of_le hp x.nx) hne).trans (x.sm p hp hne), y.cur⟩
theorem DrW.mono {hB a b : Hp} {o k k' : Nat} (x : DrW hB o k a b) (hk : k ≤ k') : DrW hB o k' a b := ⟨x.add, x.nx, x.sm, x.cur.mono hk⟩
theorem DrW.same {hB a b : Hp} {o k : Nat} (x : DrW hB o k a b) {S : Nat → Prop} (hs : ∀ p, S p → p ≠ o) : Same S a b := ⟨x.nx, fun p hp hl => x.sm p hl (hs p hp)⟩
theorem DrW.keepB {hB a b : Hp} {o k : Nat} (x : DrW hB o k a b) : Keeps hB b := x.add.1
theorem DrW.of_adds {hB a b : Hp} {o k : Nat} (hA : Adds hB a) (hc : CurS hB.next o k a) (hk : Adds a b) : DrW hB o k a b := ⟨hA.trans hk, hk.1.1, fun p hp _ => hk.1.2 p hp, hc.keep hk.1⟩
theorem CurW.dr {hB a b : Hp} {o k k' : Nat} (hA : Adds hB a) (hc : CurS hB.next o k a) (x : CurW hB.next o k' a b) : DrW hB o k' a b :=
  ⟨hA.wr x.wr (fun p hp => by have := hc.bo.1; omega), by rw [x.nx]; exact Nat.le_refl _, fun p hp hne => x.get p hp hne, x.cur⟩
theorem DrW.app {hB a b c : Hp} {o k : Nat} (x : DrW hB o k a b) (hA : Adds hB a) (ho : o < a.next) (k3 : Adds hB c) (n3 : b.next ≤ c.next) (s3 : ∀ p, p < b.next → p < a.next → c.get p = b.get p) : DrW hB o k a c := by
  refine ⟨k3, Nat.le_trans x.nx n3, fun p hp hne => by rw [s3 p (Nat.lt_of_lt_of_le hp x.nx) hp]; exact x.sm p hp hne, ?_⟩
  exact x.cur.same ⟨n3, fun p hp hl => s3 p hl (by have := hA.1.1; omega)⟩
theorem ints_cur {n : Nat} {a b : Hp} {v : Value} {xs : List Int} (hs : IntsA n a v xs) (hn : a.next ≤ b.next) (hg : ∀ p, n ≤ p → p < a.next → b.get p = a.get p) : IntsA n b v xs := by
  rcases hs with ⟨x, y⟩ | ⟨o, ex, x, y, z, w⟩
  · exact .inl ⟨x, y⟩
  · exact .inr ⟨o, ex, x, y, Nat.lt_of_lt_of_le z hn, by rw [hg o y z]; exact w⟩
theorem lit_ints {F : Nat → Prop} {h : Hp} {p : Nat} {xs : List Int} {own ex : Bool} {es : Nat} (hg : h.get p = .cells (xs.map (.int .i64)) own ex es) (hp : p < h.next) (hF : F p) (hl : xs.length < 2 ^ 63) : IntsF F h (.slice (some ⟨p, 0, none⟩) xs.length xs.length) xs := by
  refine ⟨_, _, rfl, Nat.le_refl _, hl, fun k x hk => ⟨p, 0, _, own, ex, es, rfl, hF, hp, hg, ?_, ?_⟩⟩
  · have := (List.getElem?_eq_some_iff.1 hk).1
    simpa using this
  · obtain ⟨h1, h2⟩ := List.getElem?_eq_some_iff.1 hk
    subst h2
    simp [isInt, List.getD_eq_getElem?_getD, h1]
theorem choices2_ok (hB h : Hp) (o k : Nat) (hA : Adds hB h) (hc : CurS hB.next o k h) (hk : k + 100 < 2 ^ 40) : ∃ v h', CallOK Try.prog 56 #[.pointer (some ⟨o, 0, none⟩)] h v h' ∧ DrW hB o (k + 30) h h' ∧ ∃ xs, IntsA h.next h' v xs ∧ xs.length ≤ 12 ∧ ∀ x ∈ xs, 0 ≤ x := by
  obtain ⟨v1, h1, c1, r1, q1, l1, w1⟩ := pick_ok hB.next o k h 12 hc (by omega)
  subst q1
  have d1 := w1.dr hA hc
  have hr1 := l1 (by omega)
  refine callY_L (args := [.pointer (some ⟨o, 0, none⟩)]) 17 _ [.tmp 2] Try.func56 rfl rfl rfl ?_
  try simp (disch := first | omega | (simp; done) | fail) [wrap64c, if_pos, if_neg]
  refine callG_c (by simp) (by simp) ?ha (c1) ?_
  (case ha => simp (disch := first | omega | (simp; done) | fail) [wrap64c, if_pos, if_neg])
  try simp (disch := first | omega | (simp; done) | fail) [wrap64c, if_pos, if_neg]
  refine WD_loopC [0] (fun m tm h' => ∃ v xs j, m = r1 - j ∧ tm 3 = v ∧ tm 4 = .int .i64 ((r1 : Int) - (j : Int)) ∧ (IntsA h.next h' v xs) ∧ (DrW hB o (k + 2 + 2 * j) h h') ∧ (j ≤ r1) ∧ (xs.length = j) ∧ (∀ x ∈ xs, 0 ≤ x)) _ ⟨Value.slice none 0 0, [], 0, rfl, (by simp (disch := first | omega | (simp; done) | fail) [wrap64c, if_pos, if_neg]), (by simp), (.nil _ _), (by simpa using d1), (by first | omega | assumption | (simp (disch := first | omega | (simp; done) | fail) [wrap64c, if_pos, if_neg] <;> omega)), rfl, (by simp)⟩ ?_
  rintro m tm h' hFr ⟨v, xs, j, rfl, e3, e4, hi, hd, hj, hx, hp⟩
  simp only [FrameL] at hFr
  obtain ⟨f0_0, -⟩ := hFr
  try simp (disch := first | omega | (simp; done) | fail) [wrap64c, if_pos, if_neg] at f0_0
  have e0 := f0_0
  have ntv := hi.nt
  by_cases ha : j < r1
  · have ha' : 0 < (r1 : Int) - (j : Int) := by omega
    obtain ⟨v2, h2, c2, r2, q2, l2, w2⟩ := pick_ok hB.next o (k + 2 + 2 * j) h' 7 hd.cur (by omega)
    subst q2
    have d2 := hd.trans (w2.dr hd.add hd.cur)
    have hi2 : IntsA h.next h2 v xs := ints_cur hi (by rw [w2.nx]; exact Nat.le_refl _) (fun p h1 h2 => w2.get p h2 (by have := hc.bo; omega))
    obtain ⟨v3, h3, hap, hi3, k3, n3, s3⟩ := appI hi2 (r2 : Int) (by omega) d2.nx d2.add hA.1.1
    try simp (disch := first | omega | (simp; done) | fail) [wrap64c, if_pos, if_neg, e0, e3, e4, ntv, ha']
    refine callG_c (by simp) (by simp) ?ha (c2) ?_
    (case ha => simp (disch := first | omega | (simp; done) | fail) [wrap64c, if_pos, if_neg, e0, e3, e4, ntv, ha'])
    try simp (disch := first | omega | (simp; done) | fail) [wrap64c, if_pos, if_neg, e0, e3, e4, ntv, ha', hap]
    refine loopK_next _ ?hm ?hf ⟨v3, xs ++ [(r2 : Int)], j + 1, rfl, (by simp (disch := first | omega | (simp; done) | fail) [wrap64c, if_pos, if_neg, e0, e3, e4, ntv, ha'] <;> omega), (by simp; omega), hi3, ((d2.app hA hc.bo.2 k3 (Nat.le_of_lt n3) s3).mono (by omega)), (by omega), (by simp [hx]), ?c_hp⟩
    (case hm => first | omega | (simp; omega))
    (case hf => simp [FrameL, e0, e3, e4, ntv, ha', f0_0])
    case c_hp =>
      exact (fun x hx => by
        rcases List.mem_append.1 hx with h | h
        · exact hp x h
        · simp at h; omega)
  · have ha' : ¬ 0 < (r1 : Int) - (j : Int) := by omega
    try simp (disch := first | omega | (simp; done) | fail) [wrap64c, if_pos, if_neg, e0, e3, e4, ntv, ha']
    exact done_ret rfl (by simp; exact ⟨hd.mono (by omega), xs, hi, by omega, hp⟩)
theorem choices_ok (hB h : Hp) (o k : Nat) (hA : Adds hB h) (hc : CurS hB.next o k h) (hk : k + 100 < 2 ^ 40) : ∃ v h', CallOK Try.prog 43 #[.pointer (some ⟨o, 0, none⟩)] h v h' ∧ DrW hB o (k + 30) h h' ∧ ∃ xs, IntsA h.next h' v xs ∧ xs.length ≤ 13 := by
  obtain ⟨v1, h1, c1, r1, q1, l1, w1⟩ := pick_ok hB.next o k h 12 hc (by omega)
  subst q1
  have d1 := w1.dr hA hc
  have hr1 := l1 (by omega)
  refine callY_L (args := [.pointer (some ⟨o, 0, none⟩)]) 25 _ [.tmp 2] Try.func43 rfl rfl rfl ?_
  try simp (disch := first | omega | (simp; done) | fail) [wrap64c, if_pos, if_neg]
  refine callG_c (by simp) (by simp) ?ha (c1) ?_
  (case ha => simp (disch := first | omega | (simp; done) | fail) [wrap64c, if_pos, if_neg])
  try simp (disch := first | omega | (simp; done) | fail) [wrap64c, if_pos, if_neg]
  refine WD_loopC [0] (fun m tm h' => ∃ v xs j, m = r1 - j ∧ tm 3 = v ∧ tm 4 = .int .i64 ((r1 : Int) - (j : Int)) ∧ (IntsA h.next h' v xs) ∧ (DrW hB o (k + 2 + 2 * j) h h') ∧ (j ≤ r1) ∧ (xs.length = j)) _ ⟨Value.slice none 0 0, [], 0, rfl, (by simp (disch := first | omega | (simp; done) | fail) [wrap64c, if_pos, if_neg]), (by simp), (.nil _ _), (by simpa using d1), (by first | omega | assumption | (simp (disch := first | omega | (simp; done) | fail) [wrap64c, if_pos, if_neg] <;> omega)), rfl⟩ ?_
  rintro m tm h' hFr ⟨v, xs, j, rfl, e3, e4, hi, hd, hj, hx⟩
  simp only [FrameL] at hFr
  obtain ⟨f0_0, -⟩ := hFr
  try simp (disch := first | omega | (simp; done) | fail) [wrap64c, if_pos, if_neg] at f0_0
  have e0 := f0_0
  have ntv := hi.nt
  by_cases ha : j < r1
  · have ha' : 0 < (r1 : Int) - (j : Int) := by omega
    obtain ⟨v2, h2, c2, r2, q2, l2, w2⟩ := pick_ok hB.next o (k + 2 + 2 * j) h' 7 hd.cur (by omega)
    subst q2
    have d2 := hd.trans (w2.dr hd.add hd.cur)
    have hi2 : IntsA h.next h2 v xs := ints_cur hi (by rw [w2.nx]; exact Nat.le_refl _) (fun p h1 h2 => w2.get p h2 (by have := hc.bo; omega))
    obtain ⟨v3, h3, hap, hi3, k3, n3, s3⟩ := appI hi2 (r2 : Int) (by omega) d2.nx d2.add hA.1.1
    try simp (disch := first | omega | (simp; done) | fail) [wrap64c, if_pos, if_neg, e0, e3, e4, ntv, ha']
    refine callG_c (by simp) (by simp) ?ha (c2) ?_
    (case ha => simp (disch := first | omega | (simp; done) | fail) [wrap64c, if_pos, if_neg, e0, e3, e4, ntv, ha'])
    try simp (disch := first | omega | (simp; done) | fail) [wrap64c, if_pos, if_neg, e0, e3, e4, ntv, ha', hap]
    refine loopK_next _ ?hm ?hf ⟨v3, xs ++ [(r2 : Int)], j + 1, rfl, (by simp (disch := first | omega | (simp; done) | fail) [wrap64c, if_pos, if_neg, e0, e3, e4, ntv, ha'] <;> omega), (by simp; omega), hi3, ((d2.app hA hc.bo.2 k3 (Nat.le_of_lt n3) s3).mono (by omega)), (by omega), (by simp [hx])⟩
    (case hm => first | omega | (simp; omega))
    (case hf => simp [FrameL, e0, e3, e4, ntv, ha', f0_0])
  · have ha' : ¬ 0 < (r1 : Int) - (j : Int) := by omega
    obtain ⟨v4, h4, c4, b4, q4, w4⟩ := one_ok hB.next o (k + 2 + 2 * j) h' 14 hd.cur (by omega)
    subst q4
    have d4 := hd.trans (w4.dr hd.add hd.cur)
    have hi4 : IntsA h.next h4 v xs := ints_cur hi (by rw [w4.nx]; exact Nat.le_refl _) (fun p h1 h2 => w4.get p h2 (by have := hc.bo; omega))
    try simp (disch := first | omega | (simp; done) | fail) [wrap64c, if_pos, if_neg, e0, e3, e4, ntv, ha']
    refine callG_c (by simp) (by simp) ?ha (c4) ?_
    (case ha => simp (disch := first | omega | (simp; done) | fail) [wrap64c, if_pos, if_neg, e0, e3, e4, ntv, ha'])
    cases b4
    · try simp (disch := first | omega | (simp; done) | fail) [wrap64c, if_pos, if_neg, e0, e3, e4, ntv, ha']
      exact done_ret rfl (by simp; exact ⟨d4.mono (by omega), xs, hi4, by omega⟩)
    · try simp (disch := first | omega | (simp; done) | fail) [wrap64c, if_pos, if_neg, e0, e3, e4, ntv, ha']
      first | refine WY_heap fun h5 q_h5 => ?_ | refine callG_heap fun h5 q_h5 => ?_ | refine callP_heap fun h5 q_h5 => ?_ | refine callS_heap fun h5 q_h5 => ?_ | refine RY_heap fun h5 q_h5 => ?_ | refine PY_heap fun h5 q_h5 => ?_ | refine SY_heap fun h5 q_h5 => ?_ | refine doneY_heap fun h5 q_h5 => ?_ | refine loopK_heap fun h5 q_h5 => ?_ | refine thenY_heap fun h5 q_h5 => ?_ | refine thenM_heap fun h5 q_h5 => ?_
      have k5 : Adds h4 h5 := by rw [q_h5]; exact (by first | exact aK | exact kK)
      have d5 := d4.trans (DrW.of_adds d4.add d4.cur k5)
      have hi5 : IntsA h.next h5 v xs := hi4.keep k5.1
      have hl5 : IntsF (fun x => x ≠ o) h5 (.slice (some ⟨h4.next, 0, none⟩) 2 2) [-1, 4611686018427387904] := by
        exact lit_ints (xs := [-1, 4611686018427387904]) (own := true) (ex := true) (es := 1) (by simp [q_h5]) (by simp [q_h5]) (by have := hc.bo; have := d4.nx; omega) (by simp)
      obtain ⟨v6, h6, c6, i6, p6, q6, w6⟩ := among_ok hB.next o (k + 2 + 2 * j + 2) h5 _ _ d5.cur (by omega) hl5 (by simp)
      subst q6
      have d6 := d5.trans (w6.dr d5.add d5.cur)
      have hi6 : IntsA h.next h6 v xs := ints_cur hi5 (by rw [w6.nx]; exact Nat.le_refl _) (fun p h1 h2 => w6.get p h2 (by have := hc.bo; omega))
      generalize hx6 : [-1, 4611686018427387904][i6] = x6 at c6
      obtain ⟨v7, h7, hap, hi7, k7, n7, s7⟩ := appI hi6 x6 (by omega) d6.nx d6.add hA.1.1
      refine callG_c (by simp) (by simp) ?ha (c6) ?_
      (case ha => simp (disch := first | omega | (simp; done) | fail) [wrap64c, if_pos, if_neg, e0, e3, e4, ntv, ha'])
      try simp (disch := first | omega | (simp; done) | fail) [wrap64c, if_pos, if_neg, e0, e3, e4, ntv, ha', hap]
      exact done_ret rfl (by simp; exact ⟨(d6.app hA hc.bo.2 k7 (Nat.le_of_lt n7) s7).mono (by omega), _, hi7, by simp; omega⟩)
end Go.Proofs.Ytnnjehonbolliaa
