/- Choices drawn from bytes. -/
import Derived.Test.YtnnjehonbolliaaEngV
import Derived.Test.YtnnjehonbolliaaTy
namespace Go.Proofs.Ytnnjehonbolliaa
set_option linter.unusedSimpArgs false
set_option linter.unusedVariables false
set_option maxHeartbeats 4000000
open Go Go.Eng
attribute [local irreducible] WD RunD PreD Runs CallOK

/-- A cursor that lies at o and has gone at most k on; its bytes lie below a number. -/
structure CurS (base o k : Nat) (h : Hp) : Prop where
  bo : base ≤ o ∧ o < h.next
  st : ∃ v bs at_ seed, h.get o = .cells [v, .int .i64 ((at_ : Nat) : Int), .int .u64 seed] true true 1 ∧ BytesF base h v bs ∧ at_ ≤ k
theorem CurS.mono {base o k k' : Nat} {h : Hp} (c : CurS base o k h) (hk : k ≤ k') : CurS base o k' h := by
  obtain ⟨v, bs, a, s, h1, h2, h3⟩ := c.st
  exact ⟨c.bo, v, bs, a, s, h1, h2, by omega⟩
theorem CurS.same {base o k : Nat} {h h' : Hp} (c : CurS base o k h) (hs : Same (fun x => x < base ∨ x = o) h h') : CurS base o k h' := by
  obtain ⟨v, bs, a, s, h1, h2, h3⟩ := c.st
  have b := c.bo
  exact ⟨⟨b.1, Nat.lt_of_lt_of_le b.2 hs.1⟩, v, bs, a, s, by rw [hs.2 o (.inr rfl) b.2]; exact h1, h2.same ⟨hs.1, fun x hx hl => hs.2 x (.inl hx) hl⟩, h3⟩
theorem CurS.keep {base o k : Nat} {h h' : Hp} (c : CurS base o k h) (hk : Keeps h h') : CurS base o k h' := c.same (.of_keeps hk)

theorem wrapU64 : ∀ n : Nat, n ≤ 255 → IntKind.wrap .u64 (n : Int) = (n : Int) := by
  intro n hn
  exact (show ∀ n : Nat, n < 256 → IntKind.wrap .u64 (n : Int) = (n : Int) by decide +kernel) n (by omega)
theorem and255 (x : Int) : ∃ n : Nat, n ≤ 255 ∧ bAnd .u64 x 255 = (n : Int) := by
  refine ⟨(BitVec.ofInt 64 x &&& BitVec.ofInt 64 255).toNat, ?_, ?_⟩
  · rw [BitVec.toNat_and]
    exact Nat.le_trans Nat.and_le_right (by decide)
  · exact wrapU64 _ (by rw [BitVec.toNat_and]; exact Nat.le_trans Nat.and_le_right (by decide))
theorem cur_put {base o k a : Nat} {h : Hp} {v : Value} {bs : List Int} {s s' : Int} (hc : CurS base o k h) (hb : BytesF base h v bs) (hg : h.get o = .cells [v, .int .i64 (a : Int), .int .u64 s] true true 1) {y : AObj} (ha : (a : Int) + 1 ≤ k + 1) :
    CurS base o (k + 1) ((h.put o y).put o (.cells [v, .int .i64 ((a : Int) + 1), .int .u64 s'] true true 1)) :=
  ⟨hc.bo, v, bs, a + 1, s', by simp, hb.same (h := h) (h' := (h.put o y).put o (.cells [v, .int .i64 ((a : Int) + 1), .int .u64 s'] true true 1)) ⟨Nat.le_refl _, fun x hx _ => by have := hc.bo; simp [show x ≠ o from fun e => by subst e; exact absurd hx (by omega)]⟩, by omega⟩
theorem next_ok (base o k : Nat) (h : Hp) (hc : CurS base o k h) (hk : k < 2 ^ 40) : ∃ v h', CallOK Try.prog 96 #[.pointer (some ⟨o, 0, none⟩)] h v h' ∧ ∃ r : Nat, v = .int .i64 (r : Int) ∧ r ≤ 255 ∧ Wr (fun x => x = o) h h' ∧ h'.next = h.next ∧ CurS base o (k + 1) h' := by
  obtain ⟨v, bs, a, s, h1, h2, h3⟩ := hc.st
  have hB := h2.bytes
  have lB := hB.lenD
  have ntB := hB.nt
  have csB := hB.cs
  have h1' := h1
  have hbl := hB.len
  have hp1 : ∀ x y z t : Value, putCells [x, y, z] 1 [t] = [x, t, z] := fun _ _ _ _ => rfl
  have hp2 : ∀ x y z t : Value, putCells [x, y, z] 2 [t] = [x, y, t] := fun _ _ _ _ => rfl
  refine callY_L (args := [.pointer (some ⟨o, 0, none⟩)]) 62 _ [.tmp 2] Try.func96 rfl rfl rfl ?_
  try simp (disch := first | omega | (simp; done) | fail) [wrap64c, if_pos, if_neg, lB, ntB, csB, h1', hp1, hp2]
  refine WD_drawC 9 rfl (by kernel_rfl) ?_
  try simp (disch := first | omega | (simp; done) | fail) [wrap64c, if_pos, if_neg, lB, ntB, csB, h1', hp1, hp2]
  by_cases c1 : a < bs.length
  · have c1' : (a : Int) < (bs.length : Int) := by omega
    obtain ⟨ob, ib, cb, cs, own, ex, es, qb, bb, gb, lb, rb⟩ := hB.open (by omega)
    obtain ⟨rb1, rb2, rb3⟩ := rb a c1 (by omega)
    have rb1' := rb1
    obtain ⟨b, hb⟩ : ∃ b : Nat, bs[a] = (b : Int) := ⟨bs[a].toNat, by omega⟩
    try simp (disch := first | omega | (simp; done) | fail) [wrap64c, if_pos, if_neg, lB, ntB, csB, h1', hp1, hp2, c1', qb, gb, lb, rb1', hb]
    refine WD_drawC 8 rfl (by kernel_rfl) ?_
    try simp (disch := first | omega | (simp; done) | fail) [wrap64c, if_pos, if_neg, lB, ntB, csB, h1', hp1, hp2, c1', qb, gb, lb, rb1', hb]
    have c2 : ((a : Int) + 1 ≤ (bs.length : Int)) := by omega
    refine WD_drawC 9 rfl (by kernel_rfl) ?_
    try simp (disch := first | omega | (simp; done) | fail) [wrap64c, if_pos, if_neg, lB, ntB, csB, h1', hp1, hp2, c1', qb, gb, lb, rb1', hb, c2]
    exact done_ret rfl (by
      refine ⟨b, by simp, by omega, (Wr.put (S := fun x => x = o) (Wr.put (S := fun x => x = o) (Wr.refl _ h) rfl (fun _ => rfl)) rfl (fun _ => rfl)), rfl, ?_⟩
      rw [← qb]
      exact cur_put hc h2 h1 (by omega))
  · have c1' : ¬ (a : Int) < (bs.length : Int) := by omega
    have c2 : ¬ ((a : Int) + 1 ≤ (bs.length : Int)) := by omega
    try simp (disch := first | omega | (simp; done) | fail) [wrap64c, if_pos, if_neg, lB, ntB, csB, h1', hp1, hp2, c1', c2]
    refine WD_drawC 9 rfl (by kernel_rfl) ?_
    try simp (disch := first | omega | (simp; done) | fail) [wrap64c, if_pos, if_neg, lB, ntB, csB, h1', hp1, hp2, c1', c2]
    obtain ⟨r, hr, hw⟩ := and255 (bShr .u64 (IntKind.u64.wrap (IntKind.u64.wrap (IntKind.u64.wrap (s * 6364136223846793005) + IntKind.u64.wrap 0) + 1442695040888963407)) 40)
    have hx : IntKind.wrap .i64 (r : Int) = (r : Int) := (show ∀ n : Nat, n < 256 → IntKind.wrap .i64 (n : Int) = (n : Int) by decide +kernel) r (by omega)
    exact done_ret rfl (by
      refine ⟨r, by simp [hw, hx], hr, (Wr.put (S := fun x => x = o) (Wr.put (S := fun x => x = o) (Wr.refl _ h) rfl (fun _ => rfl)) rfl (fun _ => rfl)), rfl, ?_⟩
      exact cur_put hc h2 h1 (by omega))
/-- What drawing does: the cursor alone is written. -/
structure CurW (base o k : Nat) (h h' : Hp) : Prop where
  wr : Wr (fun x => x = o) h h'
  nx : h'.next = h.next
  cur : CurS base o k h'
theorem CurW.refl {base o k : Nat} {h : Hp} (c : CurS base o k h) : CurW base o k h h := ⟨Wr.refl _ h, rfl, c⟩
theorem CurW.trans {base o k k' : Nat} {a b c : Hp} (x : CurW base o k a b) (y : CurW base o k' b c) : CurW base o k' a c := ⟨x.wr.trans y.wr, y.nx.trans x.nx, y.cur⟩
theorem CurW.mono {base o k k' : Nat} {a b : Hp} (x : CurW base o k a b) (h : k ≤ k') : CurW base o k' a b := ⟨x.wr, x.nx, x.cur.mono h⟩
theorem CurW.get {base o k : Nat} {a b : Hp} (x : CurW base o k a b) (p : Nat) (hp : p < a.next) (hne : p ≠ o) : b.get p = a.get p := x.wr.upd.2 p hp hne
theorem CurW.same {base o k : Nat} {a b : Hp} (x : CurW base o k a b) {S : Nat → Prop} (hs : ∀ p, S p → p ≠ o) : Same S a b := ⟨by rw [x.nx]; exact Nat.le_refl _, fun p hp hl => x.get p hl (hs p hp)⟩
theorem pick_ok (base o k : Nat) (h : Hp) (n : Int) (hc : CurS base o k h) (hk : k + 2 < 2 ^ 40) : ∃ v h', CallOK Try.prog 57 #[.pointer (some ⟨o, 0, none⟩), .int .i64 n] h v h' ∧ ∃ r : Nat, v = .int .i64 (r : Int) ∧ (1 ≤ n → (r : Int) < n) ∧ CurW base o (k + 2) h h' := by
  by_cases n1 : n ≤ 1
  · have n1' := n1
    refine callY_L (args := [.pointer (some ⟨o, 0, none⟩), .int .i64 n]) 20 _ [.tmp 4] Try.func57 rfl rfl rfl ?_
    try simp (disch := first | omega | (simp; done) | fail) [wrap64c, if_pos, if_neg, n1']
    exact done_ret rfl ⟨0, by simp, fun h => by omega, (CurW.refl hc).mono (by omega)⟩
  · obtain ⟨v1, h1, c1, r1, q1, l1, w1, x1, y1⟩ := next_ok base o k h hc (by omega)
    obtain ⟨v2, h2, c2, r2, q2, l2, w2, x2, y2⟩ := next_ok base o (k + 1) h1 y1 (by omega)
    subst q1; subst q2
    have n1' := n1
    have hm : ∀ r : Nat, ∃ q : Nat, Int.tmod (r : Int) n = (q : Int) ∧ (q : Int) < n := by
      intro r
      obtain ⟨m, rfl⟩ : ∃ m : Nat, n = (m : Int) := ⟨n.toNat, by omega⟩
      refine ⟨r % m, ?_, ?_⟩
      · rw [Int.tmod_eq_emod_of_nonneg (by omega)]
        simp
      · have := Nat.mod_lt r (show m > 0 by omega)
        omega
    obtain ⟨q1, m1, z1⟩ := hm r1
    obtain ⟨q2, m2, z2⟩ := hm (r1 * 256 + r2)
    have m2' : ((r1 : Int) * 256 + (r2 : Int)).tmod n = (q2 : Int) := by simpa using m2
    refine callY_L (args := [.pointer (some ⟨o, 0, none⟩), .int .i64 n]) 20 _ [.tmp 4] Try.func57 rfl rfl rfl ?_
    try simp (disch := first | omega | (simp; done) | fail) [wrap64c, if_pos, if_neg, n1']
    refine callG_c (by simp) (by simp) ?ha (c1) ?_
    (case ha => simp (disch := first | omega | (simp; done) | fail) [wrap64c, if_pos, if_neg, n1'])
    by_cases n2 : n > 200
    · have n2' : 200 < n := n2
      try simp (disch := first | omega | (simp; done) | fail) [wrap64c, if_pos, if_neg, n1', n2']
      refine callG_c (by simp) (by simp) ?ha (c2) ?_
      (case ha => simp (disch := first | omega | (simp; done) | fail) [wrap64c, if_pos, if_neg, n1', n2'])
      try simp (disch := first | omega | (simp; done) | fail) [wrap64c, if_pos, if_neg, n1', n2']
      exact done_ret rfl ⟨q2, by simp [m2'], fun _ => z2, ⟨w1.trans w2, x2.trans x1, y2⟩⟩
    · have n2' : ¬ 200 < n := n2
      try simp (disch := first | omega | (simp; done) | fail) [wrap64c, if_pos, if_neg, n1', n2']
      exact done_ret rfl ⟨q1, by simp [m1], fun _ => z1, ⟨w1, x1, y1.mono (by omega)⟩⟩
theorem one_ok (base o k : Nat) (h : Hp) (n : Int) (hc : CurS base o k h) (hk : k + 2 < 2 ^ 40) : ∃ v h', CallOK Try.prog 65 #[.pointer (some ⟨o, 0, none⟩), .int .i64 n] h v h' ∧ ∃ r : Bool, v = .bool r ∧ CurW base o (k + 2) h h' := by
  obtain ⟨v1, h1, c1, r1, q1, l1, w1⟩ := pick_ok base o k h n hc (by omega)
  subst q1
  refine callY_L (args := [.pointer (some ⟨o, 0, none⟩), .int .i64 n]) 9 _ [.tmp 4] Try.func65 rfl rfl rfl ?_
  try simp (disch := first | omega | (simp; done) | fail) [wrap64c, if_pos, if_neg]
  refine callG_c (by simp) (by simp) ?ha (c1) ?_
  (case ha => simp (disch := first | omega | (simp; done) | fail) [wrap64c, if_pos, if_neg])
  try simp (disch := first | omega | (simp; done) | fail) [wrap64c, if_pos, if_neg]
  exact done_ret rfl ⟨_, by simp; rfl, w1⟩
theorem among_ok (base o k : Nat) (h : Hp) (v : Value) (xs : List Int) (hc : CurS base o k h) (hk : k + 2 < 2 ^ 40) (hx : IntsF (fun x => x ≠ o) h v xs) (hl : 0 < xs.length) : ∃ w h', CallOK Try.prog 66 #[.pointer (some ⟨o, 0, none⟩), v] h w h' ∧ ∃ i : Nat, ∃ hi : i < xs.length, w = .int .i64 xs[i] ∧ CurW base o (k + 2) h h' := by
  have lB := hx.lenD
  have ntB := hx.ints.nt
  have csB := hx.ints.cs
  obtain ⟨v1, h1, c1, r1, q1, l1, w1⟩ := pick_ok base o k h xs.length hc (by omega)
  subst q1
  have hr : r1 < xs.length := by have := l1 (by omega); omega
  have hr' := hr
  have hx1 := hx.same (w1.same fun p hp => hp)
  refine callY_L (args := [.pointer (some ⟨o, 0, none⟩), v]) 12 _ [.tmp 4] Try.func66 rfl rfl rfl ?_
  try simp (disch := first | omega | (simp; done) | fail) [wrap64c, if_pos, if_neg, lB, ntB, csB, hr']
  refine callG_c (by simp) (by simp) ?ha (c1) ?_
  (case ha => simp (disch := first | omega | (simp; done) | fail) [wrap64c, if_pos, if_neg, lB, ntB, csB, hr'])
  obtain ⟨o_x, i_x, c_x, cs_x, own_x, ex_x, es_x, q_x, b_x, g_x, l_x, r_x⟩ := (hx1.ints).open (hl)
  have z_x : ∀ h2 : i_x < cs_x.length, cs_x[i_x] = _ := fun h2 => r_x 0 (hl) h2
  try simp (disch := first | omega | (simp; done) | fail) [wrap64c, if_pos, if_neg, lB, ntB, csB, hr', q_x, g_x, l_x, r_x, z_x]
  exact done_ret rfl ⟨r1, hr, by simp, w1⟩
end Go.Proofs.Ytnnjehonbolliaa
