/- Part 4 of the proof of runsAreWords_holds: what it uses of the texts that lie in the notes, merged. -/
import Derived.Test.YtnnjehonbolliaaQB3
namespace Go.Proofs.Ytnnjehonbolliaa
set_option linter.unusedSimpArgs false
set_option linter.unusedVariables false
set_option maxHeartbeats 4000000
open Go Go.Eng
attribute [local irreducible] WD RunD PreD Runs CallOK
def pickK (ml cs : List Int) (r : Nat) : Nat := if r < cs.length then ((cs.getD r 0).tmod ml.length).toNat else 0
def fullA (L : List (List Int)) (cs : List Int) : Nat → List Int → List Int → Option (List Int × List Int)
  | 0, _, _ => none
  | n + 1, run, A => if movesL L A = [] then some (run, A) else if run.length = 60 then none else
      fullA L cs n (run ++ [(movesL L A).getD (pickK (movesL L A) cs run.length) 0]) (moveA L A ((movesL L A).getD (pickK (movesL L A) cs run.length) 0).toNat)
theorem tmod_nat {x : Int} {n : Nat} (hx : 0 ≤ x) (hn : 0 < n) : x.tmod n = ((x.tmod n).toNat : Int) ∧ (x.tmod n).toNat < n := by
  have h1 : 0 ≤ x.tmod n := Int.tmod_nonneg n hx
  have h2 : x.tmod n < n := Int.tmod_lt_of_pos x (by omega)
  omega
theorem pickK_lt {ml cs : List Int} (hm : 0 < ml.length) (hc : ∀ x ∈ cs, 0 ≤ x) (r : Nat) : pickK ml cs r < ml.length := by
  unfold pickK
  split
  · rename_i h
    have e : cs.getD r 0 = cs[r] := by simp [h]
    rw [e]
    exact (tmod_nat (hc _ (List.getElem_mem h)) hm).2
  · exact hm
theorem movesL_get {L : List (List Int)} {A : List Int} {k : Nat} (hk : k < (movesL L A).length) : ∃ i : Nat, (movesL L A)[k] = (i : Int) ∧ i < A.length ∧ canB L A i = true := by
  have := List.getElem_mem hk
  unfold movesL at this
  obtain ⟨i, hi, e⟩ := List.mem_map.1 this
  obtain ⟨h1, h2⟩ := List.mem_filter.1 hi
  exact ⟨i, e.symm, by simpa using h1, h2⟩
theorem movesL_length (L : List (List Int)) (A : List Int) : (movesL L A).length ≤ A.length := movesT_length L A A.length
theorem appI2 {n : Nat} {h0 h : Hp} {v : Value} {xs : List Int} (hs : IntsA n h v xs) (x : Int) (hl : xs.length < 2 ^ 40) (hn : n ≤ h.next) (hA : Adds h0 h) (h0n : h0.next ≤ n) :
    ∃ v' h', appendD Try.prog 25 25 v (.slice (some ⟨h.next, 0, none⟩) 1 1) (h.alloc (.cells [.int .i64 x] true true 1)) = some (v', h') ∧ IntsA n h' v' (xs ++ [x]) ∧ Adds h0 h' ∧ h.next < h'.next ∧
      (∀ F : Nat → Prop, (∀ o, F o → o < h.next) → OffF F v → Same F h h' ∧ OffF F v') := by
  obtain ⟨v', h', g1, g2, g3, g4, g5, g6⟩ := append_one2 (P := Try.prog) (t := 25) (t' := 25) (x := x) (q := h.next) (h := h.alloc (.cells [.int .i64 x] true true 1)) (qx := true) (n := n) (v := v) (xs := xs) (by
    rcases hs with ⟨a, b⟩ | ⟨o, ex, a, b, c, d⟩
    · exact .inl ⟨a, b⟩
    · exact .inr ⟨o, ex, a, b, Nat.lt_succ_of_lt c, by simp [Nat.ne_of_lt c, d]⟩) ty_elT_25 ty_szT_3 ty_zeroT_3 ty_byT_3 (by decide) (by decide) (by simp) (by simp) hl (by simp; omega) (show Adds h0 _ from (by first | exact aK | exact kK)) h0n
  refine ⟨v', h', g1, g2, g3, Nat.lt_of_le_of_lt (by simp) g4, fun F hF hO => ⟨?_, g6 F fun o ho => Nat.lt_succ_of_lt (hF o ho)⟩⟩
  have := g5 F hO
  exact ⟨Nat.le_trans (Nat.le_succ _) this.1, fun o ho ho' => by rw [this.2 o ho (Nat.lt_succ_of_lt ho')]; simp [Nat.ne_of_lt ho']⟩
def fRun : Option (List Int × List Int) → List Int
  | some q => q.1
  | none => []
def fAt : Option (List Int × List Int) → List Int
  | some q => q.2
  | none => []
theorem waFullA_ok (h : Hp) (v w : Value) (L : List (List Int)) (A cs : List Int) (hv : Chips h v L A) (hw : Ints h w cs) (ho : Ok L A) (hcs : ∀ x ∈ cs, 0 ≤ x) :
    ∃ v' h', CallOK Try.prog 47 #[v, w] h v' h' ∧ Adds h h' ∧ ∃ u1 u2, v' = .tuple #[u1, u2, .bool (fullA L cs 61 [] A).isSome] ∧ IntsO (Btw h.next h'.next) h' u1 (fRun (fullA L cs 61 [] A)) ∧ IntsO (Btw h.next h'.next) h' u2 (fAt (fullA L cs 61 [] A)) ∧ IntsA h.next h' u1 (fRun (fullA L cs 61 [] A)) := by
  refine callY_L (args := [v, w]) 55 _ [.tmp 4, .tmp 5, .tmp 6] Try.func47 rfl rfl rfl ?_
  have hv0 := hv
  obtain ⟨a, b, rfl, hL, hA⟩ := hv
  have hwl := hw.len
  have lw := hw.lenD
  have h5 := ho.le
  refine WD_first ?_
  try simp (disch := first | omega | (simp; done) | fail) [wrap64c, if_pos, if_neg, lw]
  refine stopK_heap fun h0 q_h0 => ?_
  refine stopK_go ?_
  have g_h0 : h0.get h.next = .cells [a, b] true true 1 := by simp [q_h0]
  have k_h0 : Adds h h0 := by rw [q_h0]; exact (by first | exact aK | exact kK)
  have n_h0 : h.next < h0.next := by simp [q_h0]; try omega
  try simp (disch := first | omega | (simp; done) | fail) [wrap64c, if_pos, if_neg, lw, g_h0]
  obtain ⟨v1, h1, hc1, ha1, hu1, _⟩ := l1Own_ok h0 b A (hA.keep k_h0.1) (by omega)
  refine callG_c (by simp) (by simp) ?ha (hc1) ?_
  (case ha => simp (disch := first | omega | (simp; done) | fail) [wrap64c, if_pos, if_neg, lw, g_h0])
  have K1 := k_h0.trans ha1
  have n1 := ha1.1.1
  have g1 : h1.get h.next = .cells [a, b] true true 1 := by rw [ha1.1.2 _ n_h0]; exact g_h0
  try simp (disch := first | omega | (simp; done) | fail) [wrap64c, if_pos, if_neg, lw, g_h0, g1]
  obtain ⟨v2, h2, hc2, ha2, hu2⟩ := waMoves_ok h1 _ v1 L A A (hv0.keep K1.1) hu1.ints ho.sh
  refine callG_c (by simp) (by simp) ?ha (hc2) ?_
  (case ha => simp (disch := first | omega | (simp; done) | fail) [wrap64c, if_pos, if_neg, lw, g_h0, g1])
  have g2 : h2.get h.next = .cells [a, b] true true 1 := by rw [ha2.1.2 _ (by omega)]; exact g1
  have n2 := ha2.1.1
  try simp (disch := first | omega | (simp; done) | fail) [wrap64c, if_pos, if_neg, lw, g_h0, g1, g2]
  refine WD_loopC [1, 2] (fun m tm h' => ∃ run B u7 u8 u9 F, m = 61 - run.length ∧ tm 7 = u7 ∧ tm 8 = u8 ∧ tm 9 = u9 ∧ (Adds h h') ∧ (h0.next ≤ h'.next) ∧ (h'.get h.next = .cells [a, b] true true 1) ∧ (IntsA h0.next h' u8 run) ∧ (IntsO F h' u7 B) ∧ (IntsO F h' u9 (movesL L B)) ∧ (∀ o, F o → o < h'.next) ∧ (∀ o, F o → h0.next ≤ o) ∧ (OffF F u8) ∧ (run.length ≤ 60) ∧ (Ok L B) ∧ (B.length = A.length) ∧ (fullA L cs (61 - run.length) run B = fullA L cs 61 [] A)) _ ⟨[], A, _, .slice none 0 0, _, (fun o => Btw h0.next h2.next o), rfl, (by simp (disch := first | omega | (simp; done) | fail) [wrap64c, if_pos, if_neg, lw, g_h0, g1, g2]), (by simp (disch := first | omega | (simp; done) | fail) [wrap64c, if_pos, if_neg, lw, g_h0, g1, g2]), (by simp (disch := first | omega | (simp; done) | fail) [wrap64c, if_pos, if_neg, lw, g_h0, g1, g2]), (K1.trans ha2), (Nat.le_trans n1 n2), g2, (.nil _ _), ((hu1.keep ha2.1).sub fun x hx => by unfold Btw at *; omega), (hu2.sub fun x hx => by unfold Btw at *; omega), (fun o ho => ho.2), (fun o ho => ho.1), (.nil _ _ _), (by first | omega | assumption | (simp (disch := first | omega | (simp; done) | fail) [wrap64c, if_pos, if_neg, lw, g_h0, g1, g2] <;> omega)), ho, rfl, rfl⟩ ?_
  rintro m tm h' hFr ⟨run, B, u7, u8, u9, F, rfl, e7, e8, e9, ha, hn, hg, hu8, hu7, hu9, hFn, hFl, hof, hr, hoB, hlB, hF⟩
  simp only [FrameL] at hFr
  obtain ⟨f1_0, f2_0, -⟩ := hFr
  try simp (disch := first | omega | (simp; done) | fail) [wrap64c, if_pos, if_neg, lw, g_h0, g1, g2] at f1_0 f2_0
  have e1 := f1_0
  have e2 := f2_0
  have l8 := hu8.lenD
  have l9 := hu9.lenD
  have hfuel : 61 - run.length = (60 - run.length) + 1 := by omega
  by_cases hml : 0 < (movesL L B).length
  · have hmle := movesL_length L B
    by_cases h60 : run.length = 60
    · have h60b : ((run.length : Int) == 60) = true := by simp [h60]
      try simp (disch := first | omega | (simp; done) | fail) [wrap64c, if_pos, if_neg, lw, g_h0, g1, g2, e1, e2, e7, e8, e9, hg, l8, l9, hml, h60b]
      have e : fullA L cs 61 [] A = none := by
        rw [← hF, hfuel, fullA, if_neg (by intro e; rw [e] at hml; simp at hml), if_pos h60]
      exact done_ret rfl ⟨ha, _, _, by rw [e]; rfl, by rw [e]; exact .nil _ _, by rw [e]; exact .nil _ _, by rw [e]; exact .nil _ _⟩
    · have h60b : ((run.length : Int) == 60) = false := by simp; omega
      have hk1 := pickK_lt hml hcs run.length
      obtain ⟨i, hi0, hi1, hi2⟩ := movesL_get hk1
      have hk2 : (movesL L B)[pickK (movesL L B) cs run.length]?.getD 0 = (i : Int) := by rw [List.getElem?_eq_getElem hk1]; exact hi0
      have hpk : ((i : Int)).toNat = i := by simp
      have hmne : ¬ movesL L B = [] := by intro e; rw [e] at hml; simp at hml
      have hi0' := hi0
      by_cases hck : run.length < cs.length
      · have ek : pickK (movesL L B) cs run.length = (cs[run.length].tmod (movesL L B).length).toNat := by simp [pickK, hck]
        have ek2 := (tmod_nat (hcs _ (List.getElem_mem hck)) hml).1
        rw [← ek] at ek2
        have ek3 := ek2
        obtain ⟨o_x, i_x, c_x, cs_x, own_x, ex_x, es_x, q_x, b_x, g_x, l_x, r_x⟩ := (hw.keep ha.1).open ((by omega))
        have z_x : ∀ h2 : i_x < cs_x.length, cs_x[i_x] = _ := fun h2 => r_x 0 ((by omega)) h2
        obtain ⟨o_z, i_z, c_z, cs_z, own_z, ex_z, es_z, q_z, b_z, g_z, l_z, r_z⟩ := hu9.ints.open ((by omega))
        have z_z : ∀ h2 : i_z < cs_z.length, cs_z[i_z] = _ := fun h2 => r_z 0 ((by omega)) h2
        try simp (disch := first | omega | (simp; done) | fail) [wrap64c, if_pos, if_neg, lw, g_h0, g1, g2, e1, e2, e7, e8, e9, hg, l8, l9, hml, h60b, hmne, hi0', hck, ek3, q_x, g_x, l_x, r_x, z_x, q_z, g_z, l_z, r_z, z_z]
        obtain ⟨u2, h2, hap, hu2, ha2, hn2, hs2⟩ := appI2 hu8 (i : Int) (by omega) hn ha (by omega)
        obtain ⟨sm2, of2⟩ := hs2 F hFn hof
        try simp (disch := first | omega | (simp; done) | fail) [wrap64c, if_pos, if_neg, lw, g_h0, g1, g2, e1, e2, e7, e8, e9, hg, l8, l9, hml, h60b, hmne, hi0', hck, ek3, q_x, g_x, l_x, r_x, z_x, q_z, g_z, l_z, r_z, z_z, hap]
        have g2 : h2.get h.next = .cells [a, b] true true 1 := by
          have := (hs2 (fun o => F o ∨ o = h.next) (fun o ho => ho.elim (hFn o) fun e => by omega) (fun o i n c e hf => hf.elim (hof o i n c e) fun e' => by
            rcases hu8 with ⟨_, rfl⟩ | ⟨o', ex, rfl, q1, q2, q3⟩
            · cases e
            · cases e; omega)).1.2 h.next (.inr rfl) (by omega)
          rw [this]; exact hg
        have hu7' := hu7.same sm2
        have hu9' := hu9.same sm2
        obtain ⟨o_z, i_z, c_z, cs_z, own_z, ex_z, es_z, q_z, b_z, g_z, l_z, r_z⟩ := hu9'.ints.open ((by omega))
        have z_z : ∀ h2 : i_z < cs_z.length, cs_z[i_z] = _ := fun h2 => r_z 0 ((by omega)) h2
        refine WD_drawC 6 rfl (by kernel_rfl) ?_
        try simp (disch := first | omega | (simp; done) | fail) [wrap64c, if_pos, if_neg, lw, g_h0, g1, g2, e1, e2, e7, e8, e9, hg, l8, l9, hml, h60b, hmne, hi0', hck, ek3, q_x, g_x, l_x, r_x, z_x, q_z, g_z, l_z, r_z, z_z]
        obtain ⟨u3, h3, hc3, ha3, hu3⟩ := waMove_ok h2 _ u7 L A B i (hv0.keep ha2.1) hu7'.ints hoB.sh hoB.small hi1
        refine callG_c (by simp) (by simp) ?ha (hc3) ?_
        (case ha => simp (disch := first | omega | (simp; done) | fail) [wrap64c, if_pos, if_neg, lw, g_h0, g1, g2, e1, e2, e7, e8, e9, hg, l8, l9, hml, h60b, hmne, hi0', hck, ek3, q_x, g_x, l_x, r_x, z_x, q_z, g_z, l_z, r_z, z_z])
        have g3 : h3.get h.next = .cells [a, b] true true 1 := by rw [ha3.1.2 _ (by omega)]; exact g2
        try simp (disch := first | omega | (simp; done) | fail) [wrap64c, if_pos, if_neg, lw, g_h0, g1, g2, e1, e2, e7, e8, e9, hg, l8, l9, hml, h60b, hmne, hi0', hck, ek3, q_x, g_x, l_x, r_x, z_x, q_z, g_z, l_z, r_z, z_z, g3]
        have K3 := ha2.trans ha3
        have n3 := ha3.1.1
        have hoB' := hoB.move hi1 hi2
        obtain ⟨u4, h4, hc4, ha4, hu4⟩ := waMoves_ok h3 _ u3 L A (moveA L B i) (hv0.keep K3.1) hu3.ints hoB'.sh
        refine callG_c (by simp) (by simp) ?ha (hc4) ?_
        (case ha => simp (disch := first | omega | (simp; done) | fail) [wrap64c, if_pos, if_neg, lw, g_h0, g1, g2, e1, e2, e7, e8, e9, hg, l8, l9, hml, h60b, hmne, hi0', hck, ek3, q_x, g_x, l_x, r_x, z_x, q_z, g_z, l_z, r_z, z_z, g3])
        have g4 : h4.get h.next = .cells [a, b] true true 1 := by rw [ha4.1.2 _ (by omega)]; exact g3
        have n4 := ha4.1.1
        try simp (disch := first | omega | (simp; done) | fail) [wrap64c, if_pos, if_neg, lw, g_h0, g1, g2, e1, e2, e7, e8, e9, hg, l8, l9, hml, h60b, hmne, hi0', hck, ek3, q_x, g_x, l_x, r_x, z_x, q_z, g_z, l_z, r_z, z_z, g3, g4]
        refine loopK_next _ ?hm ?hf ⟨run ++ [(i : Int)], moveA L B i, u3, u2, u4, (fun o => Btw h2.next h4.next o), rfl, (by simp (disch := first | omega | (simp; done) | fail) [wrap64c, if_pos, if_neg, lw, g_h0, g1, g2, e1, e2, e7, e8, e9, hg, l8, l9, hml, h60b, hmne, hi0', hck, ek3, q_x, g_x, l_x, r_x, z_x, q_z, g_z, l_z, r_z, z_z, g3, g4] <;> omega), (by simp (disch := first | omega | (simp; done) | fail) [wrap64c, if_pos, if_neg, lw, g_h0, g1, g2, e1, e2, e7, e8, e9, hg, l8, l9, hml, h60b, hmne, hi0', hck, ek3, q_x, g_x, l_x, r_x, z_x, q_z, g_z, l_z, r_z, z_z, g3, g4] <;> omega), (by simp (disch := first | omega | (simp; done) | fail) [wrap64c, if_pos, if_neg, lw, g_h0, g1, g2, e1, e2, e7, e8, e9, hg, l8, l9, hml, h60b, hmne, hi0', hck, ek3, q_x, g_x, l_x, r_x, z_x, q_z, g_z, l_z, r_z, z_z, g3, g4] <;> omega), (K3.trans ha4), (by first | omega | assumption | (simp (disch := first | omega | (simp; done) | fail) [wrap64c, if_pos, if_neg, lw, g_h0, g1, g2, e1, e2, e7, e8, e9, hg, l8, l9, hml, h60b, hmne, hi0', hck, ek3, q_x, g_x, l_x, r_x, z_x, q_z, g_z, l_z, r_z, z_z, g3, g4] <;> omega)), (by first | omega | assumption | (simp (disch := first | omega | (simp; done) | fail) [wrap64c, if_pos, if_neg, lw, g_h0, g1, g2, e1, e2, e7, e8, e9, hg, l8, l9, hml, h60b, hmne, hi0', hck, ek3, q_x, g_x, l_x, r_x, z_x, q_z, g_z, l_z, r_z, z_z, g3, g4] <;> omega)), ?c_hu8, ((hu3.keep ha4.1).sub fun x hx => by unfold Btw at *; omega), (hu4.sub fun x hx => by unfold Btw at *; omega), (fun o ho => ho.2), (fun o ho => by have := ho.1; omega), ?c_hof, (by simp; omega), hoB', (by simpa using hlB), (by rw [← hF, hfuel, fullA, if_neg (by intro e; rw [e] at hml; simp at hml), if_neg h60]; simp [hk2, hi0, hpk, show 61 - (run.length + 1) = 60 - run.length by omega])⟩
        (case hm => first | omega | (simp; omega))
        (case hf => simp [FrameL, lw, g_h0, g1, g2, e1, e2, e7, e8, e9, hg, l8, l9, hml, h60b, hmne, hi0', hck, ek3, q_x, g_x, l_x, r_x, z_x, q_z, g_z, l_z, r_z, z_z, g3, g4, f1_0, f2_0])
        case c_hu8 =>
          exact (by
            have := hu2
            rcases this with ⟨e1, e2⟩ | ⟨o, ex, e1, q1, q2, q3⟩
            · exact .inl ⟨e1, e2⟩
            · exact .inr ⟨o, ex, e1, q1, by omega, by rw [(ha3.trans ha4).1.2 _ q2]; exact q3⟩)
        case c_hof =>
          exact (by
            rcases hu2 with ⟨e1, e2⟩ | ⟨o, ex, e1, q1, q2, q3⟩
            · exact absurd (congrArg List.length e1) (by rw [List.length_append]; exact Nat.succ_ne_zero _)
            · rw [e1]; exact .mk fun hb => by unfold Btw at hb; omega)
      · have ek : pickK (movesL L B) cs run.length = 0 := by simp [pickK, hck]
        have hi3 : (movesL L B)[0] = (i : Int) := by rw [← hi0]; congr 1; exact ek.symm
        obtain ⟨o_z, i_z, c_z, cs_z, own_z, ex_z, es_z, q_z, b_z, g_z, l_z, r_z⟩ := hu9.ints.open ((by omega))
        have z_z : ∀ h2 : i_z < cs_z.length, cs_z[i_z] = _ := fun h2 => r_z 0 ((by omega)) h2
        try simp (disch := first | omega | (simp; done) | fail) [wrap64c, if_pos, if_neg, lw, g_h0, g1, g2, e1, e2, e7, e8, e9, hg, l8, l9, hml, h60b, hmne, hi0', hck, hi3, q_z, g_z, l_z, r_z, z_z]
        obtain ⟨u2, h2, hap, hu2, ha2, hn2, hs2⟩ := appI2 hu8 (i : Int) (by omega) hn ha (by omega)
        obtain ⟨sm2, of2⟩ := hs2 F hFn hof
        try simp (disch := first | omega | (simp; done) | fail) [wrap64c, if_pos, if_neg, lw, g_h0, g1, g2, e1, e2, e7, e8, e9, hg, l8, l9, hml, h60b, hmne, hi0', hck, hi3, q_z, g_z, l_z, r_z, z_z, hap]
        have g2 : h2.get h.next = .cells [a, b] true true 1 := by
          have := (hs2 (fun o => F o ∨ o = h.next) (fun o ho => ho.elim (hFn o) fun e => by omega) (fun o i n c e hf => hf.elim (hof o i n c e) fun e' => by
            rcases hu8 with ⟨_, rfl⟩ | ⟨o', ex, rfl, q1, q2, q3⟩
            · cases e
            · cases e; omega)).1.2 h.next (.inr rfl) (by omega)
          rw [this]; exact hg
        have hu7' := hu7.same sm2
        have hu9' := hu9.same sm2
        obtain ⟨o_z, i_z, c_z, cs_z, own_z, ex_z, es_z, q_z, b_z, g_z, l_z, r_z⟩ := hu9'.ints.open ((by omega))
        have z_z : ∀ h2 : i_z < cs_z.length, cs_z[i_z] = _ := fun h2 => r_z 0 ((by omega)) h2
        refine WD_drawC 6 rfl (by kernel_rfl) ?_
        try simp (disch := first | omega | (simp; done) | fail) [wrap64c, if_pos, if_neg, lw, g_h0, g1, g2, e1, e2, e7, e8, e9, hg, l8, l9, hml, h60b, hmne, hi0', hck, hi3, q_z, g_z, l_z, r_z, z_z]
        obtain ⟨u3, h3, hc3, ha3, hu3⟩ := waMove_ok h2 _ u7 L A B i (hv0.keep ha2.1) hu7'.ints hoB.sh hoB.small hi1
        refine callG_c (by simp) (by simp) ?ha (hc3) ?_
        (case ha => simp (disch := first | omega | (simp; done) | fail) [wrap64c, if_pos, if_neg, lw, g_h0, g1, g2, e1, e2, e7, e8, e9, hg, l8, l9, hml, h60b, hmne, hi0', hck, hi3, q_z, g_z, l_z, r_z, z_z])
        have g3 : h3.get h.next = .cells [a, b] true true 1 := by rw [ha3.1.2 _ (by omega)]; exact g2
        try simp (disch := first | omega | (simp; done) | fail) [wrap64c, if_pos, if_neg, lw, g_h0, g1, g2, e1, e2, e7, e8, e9, hg, l8, l9, hml, h60b, hmne, hi0', hck, hi3, q_z, g_z, l_z, r_z, z_z, g3]
        have K3 := ha2.trans ha3
        have n3 := ha3.1.1
        have hoB' := hoB.move hi1 hi2
        obtain ⟨u4, h4, hc4, ha4, hu4⟩ := waMoves_ok h3 _ u3 L A (moveA L B i) (hv0.keep K3.1) hu3.ints hoB'.sh
        refine callG_c (by simp) (by simp) ?ha (hc4) ?_
        (case ha => simp (disch := first | omega | (simp; done) | fail) [wrap64c, if_pos, if_neg, lw, g_h0, g1, g2, e1, e2, e7, e8, e9, hg, l8, l9, hml, h60b, hmne, hi0', hck, hi3, q_z, g_z, l_z, r_z, z_z, g3])
        have g4 : h4.get h.next = .cells [a, b] true true 1 := by rw [ha4.1.2 _ (by omega)]; exact g3
        have n4 := ha4.1.1
        try simp (disch := first | omega | (simp; done) | fail) [wrap64c, if_pos, if_neg, lw, g_h0, g1, g2, e1, e2, e7, e8, e9, hg, l8, l9, hml, h60b, hmne, hi0', hck, hi3, q_z, g_z, l_z, r_z, z_z, g3, g4]
        refine loopK_next _ ?hm ?hf ⟨run ++ [(i : Int)], moveA L B i, u3, u2, u4, (fun o => Btw h2.next h4.next o), rfl, (by simp (disch := first | omega | (simp; done) | fail) [wrap64c, if_pos, if_neg, lw, g_h0, g1, g2, e1, e2, e7, e8, e9, hg, l8, l9, hml, h60b, hmne, hi0', hck, hi3, q_z, g_z, l_z, r_z, z_z, g3, g4] <;> omega), (by simp (disch := first | omega | (simp; done) | fail) [wrap64c, if_pos, if_neg, lw, g_h0, g1, g2, e1, e2, e7, e8, e9, hg, l8, l9, hml, h60b, hmne, hi0', hck, hi3, q_z, g_z, l_z, r_z, z_z, g3, g4] <;> omega), (by simp (disch := first | omega | (simp; done) | fail) [wrap64c, if_pos, if_neg, lw, g_h0, g1, g2, e1, e2, e7, e8, e9, hg, l8, l9, hml, h60b, hmne, hi0', hck, hi3, q_z, g_z, l_z, r_z, z_z, g3, g4] <;> omega), (K3.trans ha4), (by first | omega | assumption | (simp (disch := first | omega | (simp; done) | fail) [wrap64c, if_pos, if_neg, lw, g_h0, g1, g2, e1, e2, e7, e8, e9, hg, l8, l9, hml, h60b, hmne, hi0', hck, hi3, q_z, g_z, l_z, r_z, z_z, g3, g4] <;> omega)), (by first | omega | assumption | (simp (disch := first | omega | (simp; done) | fail) [wrap64c, if_pos, if_neg, lw, g_h0, g1, g2, e1, e2, e7, e8, e9, hg, l8, l9, hml, h60b, hmne, hi0', hck, hi3, q_z, g_z, l_z, r_z, z_z, g3, g4] <;> omega)), ?c_hu8, ((hu3.keep ha4.1).sub fun x hx => by unfold Btw at *; omega), (hu4.sub fun x hx => by unfold Btw at *; omega), (fun o ho => ho.2), (fun o ho => by have := ho.1; omega), ?c_hof, (by simp; omega), hoB', (by simpa using hlB), (by rw [← hF, hfuel, fullA, if_neg (by intro e; rw [e] at hml; simp at hml), if_neg h60]; simp [hk2, hi0, hpk, show 61 - (run.length + 1) = 60 - run.length by omega])⟩
        (case hm => first | omega | (simp; omega))
        (case hf => simp [FrameL, lw, g_h0, g1, g2, e1, e2, e7, e8, e9, hg, l8, l9, hml, h60b, hmne, hi0', hck, hi3, q_z, g_z, l_z, r_z, z_z, g3, g4, f1_0, f2_0])
        case c_hu8 =>
          exact (by
            have := hu2
            rcases this with ⟨e1, e2⟩ | ⟨o, ex, e1, q1, q2, q3⟩
            · exact .inl ⟨e1, e2⟩
            · exact .inr ⟨o, ex, e1, q1, by omega, by rw [(ha3.trans ha4).1.2 _ q2]; exact q3⟩)
        case c_hof =>
          exact (by
            rcases hu2 with ⟨e1, e2⟩ | ⟨o, ex, e1, q1, q2, q3⟩
            · exact absurd (congrArg List.length e1) (by rw [List.length_append]; exact Nat.succ_ne_zero _)
            · rw [e1]; exact .mk fun hb => by unfold Btw at hb; omega)
  · try simp (disch := first | omega | (simp; done) | fail) [wrap64c, if_pos, if_neg, lw, g_h0, g1, g2, e1, e2, e7, e8, e9, hg, l8, l9, hml]
    have hm0 : movesL L B = [] := List.length_eq_zero_iff.1 (by omega)
    have e : fullA L cs 61 [] A = some (run, B) := by
      rw [← hF, hfuel, fullA, if_pos hm0]
    exact done_ret rfl ⟨ha, u8, u7, by rw [e]; rfl, by rw [e]; exact (hu8.own (by omega)).sub fun x hx => ⟨by have := hx.1; omega, hx.2⟩, by rw [e]; exact hu7.sub fun x hx => ⟨by have := hFl x hx; omega, hFn x hx⟩, by rw [e]; exact hu8.imp id fun ⟨o, ex, x1, x2, x3, x4⟩ => ⟨o, ex, x1, by omega, x3, x4⟩⟩
theorem waFull_ok (h : Hp) (v w : Value) (L : List (List Int)) (A cs : List Int) (hv : Chips h v L A) (hw : Ints h w cs) (ho : Ok L A) (hcs : ∀ x ∈ cs, 0 ≤ x) :
    ∃ v' h', CallOK Try.prog 47 #[v, w] h v' h' ∧ Adds h h' ∧ ∃ u1 u2, v' = .tuple #[u1, u2, .bool (fullA L cs 61 [] A).isSome] ∧ IntsO (Btw h.next h'.next) h' u1 (fRun (fullA L cs 61 [] A)) ∧ IntsO (Btw h.next h'.next) h' u2 (fAt (fullA L cs 61 [] A)) := by
  obtain ⟨v', h', h1, h2, u1, u2, h3, h4, h5, _⟩ := waFullA_ok h v w L A cs hv hw ho hcs
  exact ⟨v', h', h1, h2, u1, u2, h3, h4, h5⟩
end Go.Proofs.Ytnnjehonbolliaa
namespace Go.Proofs.Ytnnjehonbolliaa
set_option linter.unusedSimpArgs false
set_option linter.unusedVariables false
set_option maxHeartbeats 4000000
open Go Go.Eng
attribute [local irreducible] WD RunD PreD Runs CallOK
theorem ia_upd {n : Nat} {S : Nat → Prop} {h h' : Hp} {v : Value} {xs : List Int} (hs : IntsA n h v xs) (hu : Upd S h h') (ho : OffF S v) : IntsA n h' v xs := by
  rcases hs with ⟨e1, e2⟩ | ⟨o, ex, rfl, q1, q2, q3⟩
  · exact .inl ⟨e1, e2⟩
  · exact .inr ⟨o, ex, rfl, q1, Nat.lt_of_lt_of_le q2 hu.1, by rw [hu.2 o q2 (ho _ _ _ _ rfl)]; exact q3⟩
theorem ia_keep {n : Nat} {h h' : Hp} {v : Value} {xs : List Int} (hs : IntsA n h v xs) (hk : Keeps h h') : IntsA n h' v xs := ia_upd (S := fun _ => False) hs ⟨hk.1, fun o ho _ => hk.2 o ho⟩ fun _ _ _ _ _ hf => hf
theorem imChosen_ok (h : Hp) (v w : Value) (l cs : List Int) (k : Nat) (hv : Ints h v l) (hw : Ints h w cs) (hl : 0 < l.length) (hcs : ∀ x ∈ cs, 0 ≤ x) : CallOK Try.prog 88 #[v, w, .int .i64 k] h (.int .i64 (l.getD (pickK l cs k) 0)) h := by
  refine callY_P 24 _ [.tmp 6] Try.func88 rfl rfl rfl (by first | rfl | simp) ?_
  have lv := hv.lenD
  have lw := hw.lenD
  have hne : ¬ l = [] := by intro e; rw [e] at hl; simp at hl
  obtain ⟨o_x, i_x, c_x, cs_x, own_x, ex_x, es_x, q_x, b_x, g_x, l_x, r_x⟩ := hv.open (hl)
  have z_x : ∀ h2 : i_x < cs_x.length, cs_x[i_x] = _ := fun h2 => r_x 0 (hl) h2
  by_cases hk : k < cs.length
  · have ek : pickK l cs k = (cs[k].tmod l.length).toNat := by simp [pickK, hk]
    have ek2 := (tmod_nat (hcs _ (List.getElem_mem hk)) hl)
    rw [← ek] at ek2
    have ek3 := ek2.1
    have ek4 := ek2.2
    obtain ⟨o_y, i_y, c_y, cs_y, own_y, ex_y, es_y, q_y, b_y, g_y, l_y, r_y⟩ := hw.open ((by omega))
    have z_y : ∀ h2 : i_y < cs_y.length, cs_y[i_y] = _ := fun h2 => r_y 0 ((by omega)) h2
    try simp (disch := first | omega | (simp; done) | fail) [wrap64c, if_pos, if_neg, lv, lw, hne, q_x, g_x, l_x, r_x, z_x, hk, ek3, q_y, g_y, l_y, r_y, z_y]
    exact done_ret rfl (by simp [ek4])
  · have ek : pickK l cs k = 0 := by simp [pickK, hk]
    try simp (disch := first | omega | (simp; done) | fail) [wrap64c, if_pos, if_neg, lv, lw, hne, q_x, g_x, l_x, r_x, z_x, hk]
    exact done_ret rfl (by simp [ek, hl])
noncomputable def fullR (L : List (List Int)) (A cs : List Int) : Option (List Int × List Int) := if goodB L A = true then fullA L cs 61 [] A else none
def snd? : Option (List Int × List Int) → Option (List Int)
  | some q => some q.2
  | none => none
theorem imFull_ok (h : Hp) (v w : Value) (L : List (List Int)) (A cs : List Int) (hv : Chips h v L A) (hw : Ints h w cs) (hcs : ∀ x ∈ cs, 0 ≤ x) :
    ∃ v' h', CallOK Try.prog 45 #[v, w] h v' h' ∧ Adds h h' ∧ ∃ u1 u2, v' = .tuple #[u1, u2, .bool (fullR L A cs).isSome] ∧ IntsO (Btw h.next h'.next) h' u1 (fRun (fullR L A cs)) ∧ ChipsO (Btw h.next h'.next) h' u2 (chL L (snd? (fullR L A cs))) (chA (snd? (fullR L A cs))) := by
  refine callY_L (args := [v, w]) 41 _ [.tmp 4, .cell 5 27, .tmp 6] Try.func45 rfl rfl rfl ?_
  have hv0 := hv
  obtain ⟨a, b, rfl, hL, hA⟩ := hv
  have hwl := hw.len
  have lw := hw.lenD
  refine WD_first ?_
  try simp (disch := first | omega | (simp; done) | fail) [wrap64c, if_pos, if_neg, lw]
  refine stopK_heap fun h0 q_h0 => ?_
  refine stopK_go ?_
  have k0 : Adds h h0 := by rw [q_h0]; exact (by first | exact aK | exact kK)
  have n0 : h0.next = h.next + 2 := by simp [q_h0]
  have g0 : h0.get h.next = .cells [a, b] true true 1 := by simp [q_h0]
  have z0 : h0.get (h.next + 1) = .cells [.slice none 0 0, .slice none 0 0] true true 1 := by simp [q_h0]
  try simp (disch := first | omega | (simp; done) | fail) [wrap64c, if_pos, if_neg, lw, g0, z0]
  refine callG_c (by simp) (by simp) ?ha (imAreChips_ok h0 _ L A (hv0.keep k0.1)) ?_
  (case ha => simp (disch := first | omega | (simp; done) | fail) [wrap64c, if_pos, if_neg, lw, g0, z0])
  by_cases c1 : goodB L A = true
  · have hg := good_of c1
    have ho := hg.ok
    have h5 := ho.le
    obtain ⟨r1, r2⟩ := row_le ho.sh
    have eF : fullR L A cs = fullA L cs 61 [] A := if_pos c1
    try simp (disch := first | omega | (simp; done) | fail) [wrap64c, if_pos, if_neg, lw, g0, z0, c1]
    first | refine WY_heap fun h1 q_h1 => ?_ | refine callG_heap fun h1 q_h1 => ?_ | refine callP_heap fun h1 q_h1 => ?_ | refine callS_heap fun h1 q_h1 => ?_ | refine RY_heap fun h1 q_h1 => ?_ | refine PY_heap fun h1 q_h1 => ?_ | refine SY_heap fun h1 q_h1 => ?_ | refine doneY_heap fun h1 q_h1 => ?_ | refine loopK_heap fun h1 q_h1 => ?_ | refine thenY_heap fun h1 q_h1 => ?_ | refine thenM_heap fun h1 q_h1 => ?_
    have k1 : Adds h0 h1 := by rw [q_h1]; exact (by first | exact aK | exact kK)
    have n1 : h1.next = h0.next + 1 := by simp [q_h1]
    have e1 : h1.get h0.next = .cells [] true true 1 := by simp [q_h1]
    have z1 : h1.get (h.next + 1) = .cells [.slice none 0 0, .slice none 0 0] true true 1 := by rw [k1.1.2 _ (by omega)]; exact z0
    have K1 := k0.trans k1
    obtain ⟨v2, h2, hc2, ha2, hi2⟩ := imCopied_ok h1 _ L A (hv0.keep K1.1) r1 r2 (by omega)
    obtain ⟨p, q, S1, S2, rfl, hp, hq, s1, s2, s3⟩ := hi2
    refine callG_c (by simp) (by simp) ?ha (hc2) ?_
    (case ha => simp (disch := first | omega | (simp; done) | fail) [wrap64c, if_pos, if_neg, lw, g0, z0, c1])
    have n2 := ha2.1.1
    have K2 := K1.trans ha2
    have ntp := hp.nt
    have csp := hp.cs
    have ntq := hq.nt
    have csq := hq.cs
    try simp (disch := first | omega | (simp; done) | fail) [wrap64c, if_pos, if_neg, lw, g0, z0, c1, ntp, csp, ntq, csq, putCells]
    first | refine WY_heap fun h3 q_h3 => ?_ | refine callG_heap fun h3 q_h3 => ?_ | refine callP_heap fun h3 q_h3 => ?_ | refine callS_heap fun h3 q_h3 => ?_ | refine RY_heap fun h3 q_h3 => ?_ | refine PY_heap fun h3 q_h3 => ?_ | refine SY_heap fun h3 q_h3 => ?_ | refine doneY_heap fun h3 q_h3 => ?_ | refine loopK_heap fun h3 q_h3 => ?_ | refine thenY_heap fun h3 q_h3 => ?_ | refine thenM_heap fun h3 q_h3 => ?_
    have k3 : Adds h2 h3 := by rw [q_h3]; exact (by first | exact aK | exact kK)
    have n3 : h3.next = h2.next + 1 := by simp [q_h3]
    have K3 := K2.trans k3
    have g3 : h3.get h2.next = .cells [p, q] true true 1 := by simp [q_h3]
    have z3 : h3.get (h.next + 1) = .cells [.slice none 0 0, .slice none 0 0] true true 1 := by rw [(ha2.trans k3).1.2 _ (by omega)]; exact z1
    have e3 : h3.get h0.next = .cells [] true true 1 := by rw [(ha2.trans k3).1.2 _ (by omega)]; exact e1
    refine WD_loopC [1, 5, 8] (fun m tm h' => ∃ run B u, m = 61 - run.length ∧ tm 7 = u ∧ (Adds h h') ∧ (h3.next ≤ h'.next) ∧ (h'.get h2.next = .cells [p, q] true true 1) ∧ (h'.get (h.next + 1) = .cells [.slice none 0 0, .slice none 0 0] true true 1) ∧ (IntsA h0.next h' u run) ∧ (IRowsO S1 h' p L) ∧ (IntsO S2 h' q B) ∧ (OffF (fun o => S1 o ∨ S2 o ∨ o = h2.next ∨ o = h.next + 1) u) ∧ (run.length ≤ 60) ∧ (Ok L B) ∧ (B.length = A.length) ∧ (fullA L cs (61 - run.length) run B = fullA L cs 61 [] A)) _ ⟨[], A, _, rfl, (by simp (disch := first | omega | (simp; done) | fail) [wrap64c, if_pos, if_neg, lw, g0, z0, c1, ntp, csp, ntq, csq, g3]), K3, (by first | omega | assumption | (simp (disch := first | omega | (simp; done) | fail) [wrap64c, if_pos, if_neg, lw, g0, z0, c1, ntp, csp, ntq, csq, g3] <;> omega)), g3, z3, (.lit (ex := true) (Nat.le_refl _) (by omega) e3), (hp.keep k3.1), (hq.keep k3.1), (OffF.mk fun hf => by rcases hf with hf | hf | hf | hf <;> first | (have := s1 _ hf; unfold Btw at this; omega) | (have := s2 _ hf; unfold Btw at this; omega) | omega), (by first | omega | assumption | (simp (disch := first | omega | (simp; done) | fail) [wrap64c, if_pos, if_neg, lw, g0, z0, c1, ntp, csp, ntq, csq, g3] <;> omega)), ho, rfl, rfl⟩ ?_
    rintro m tm h' hFr ⟨run, B, u, rfl, e7, ha, hn, hg', hz, hu, hp', hq', hof, hr, hoB, hlB, hF⟩
    simp only [FrameL] at hFr
    obtain ⟨f1_0, f5_0, f8_0, -⟩ := hFr
    try simp (disch := first | omega | (simp; done) | fail) [wrap64c, if_pos, if_neg, lw, g0, z0, c1, ntp, csp, ntq, csq, g3] at f1_0 f5_0 f8_0
    have e1 := f1_0
    have e5 := f5_0
    have e8 := f8_0
    have hS1 : ∀ o, S1 o → o < h'.next := fun o e => by have := s1 o e; unfold Btw at this; omega
    have hS2 : ∀ o, S2 o → o < h'.next := fun o e => by have := s2 o e; unfold Btw at this; omega
    have lu := hu.lenD
    have ntu := hu.nt
    have hfuel : 61 - run.length = (60 - run.length) + 1 := by omega
    try simp (disch := first | omega | (simp; done) | fail) [wrap64c, if_pos, if_neg, lw, g0, z0, c1, ntp, csp, ntq, csq, g3, e1, e5, e7, e8, hg', hz, lu, ntu]
    obtain ⟨u4, h4, hc4, ha4, hu4⟩ := imMoves_ok h' _ L B ⟨p, q, rfl, hp'.rows, hq'.ints⟩ hoB.sh
    refine callG_c (by simp) (by simp) ?ha (hc4) ?_
    (case ha => simp (disch := first | omega | (simp; done) | fail) [wrap64c, if_pos, if_neg, lw, g0, z0, c1, ntp, csp, ntq, csq, g3, e1, e5, e7, e8, hg', hz, lu, ntu])
    have n4 := ha4.1.1
    have K4 := ha.trans ha4
    have g4 : h4.get h2.next = .cells [p, q] true true 1 := by rw [ha4.1.2 _ (by omega)]; exact hg'
    have z4 : h4.get (h.next + 1) = .cells [.slice none 0 0, .slice none 0 0] true true 1 := by rw [ha4.1.2 _ (by omega)]; exact hz
    have hp4 := hp'.keep ha4.1
    have hq4 := hq'.keep ha4.1
    have hu4' := ia_keep hu ha4.1
    have l4 := hu4.lenD
    by_cases hml : 0 < (movesL L B).length
    · have hmle := movesL_length L B
      have hmne : ¬ movesL L B = [] := by intro e; rw [e] at hml; simp at hml
      by_cases h60 : run.length = 60
      · have h60b : ((run.length : Int) == 60) = true := by simp [h60]
        try simp (disch := first | omega | (simp; done) | fail) [wrap64c, if_pos, if_neg, lw, g0, z0, c1, ntp, csp, ntq, csq, g3, e1, e5, e7, e8, hg', hz, lu, ntu, g4, z4, l4, hml, hmne, h60b, putCells]
        have e : fullA L cs 61 [] A = none := by rw [← hF, hfuel, fullA, if_neg hmne, if_pos h60]
        have hK4 := K4.1.1
        refine done_ret (by simp [putCells, z4, e5]; rfl) ⟨(by first | exact aK | exact kK), _, _, by rw [eF, e]; rfl, by rw [eF, e]; exact .nil _ _, by rw [eF, e]; exact .nil _ _⟩
      · have h60b : ((run.length : Int) == 60) = false := by simp; omega
        have hk1 := pickK_lt hml hcs run.length
        obtain ⟨i, hi0, hi1, hi2⟩ := movesL_get hk1
        have hk2 : (movesL L B)[pickK (movesL L B) cs run.length]?.getD 0 = (i : Int) := by rw [List.getElem?_eq_getElem hk1]; exact hi0
        have hk3 : (movesL L B).getD (pickK (movesL L B) cs run.length) 0 = (i : Int) := by rw [List.getD_eq_getElem?_getD]; exact hk2
        have hpk : ((i : Int)).toNat = i := by simp
        try simp (disch := first | omega | (simp; done) | fail) [wrap64c, if_pos, if_neg, lw, g0, z0, c1, ntp, csp, ntq, csq, g3, e1, e5, e7, e8, hg', hz, lu, ntu, g4, z4, l4, hml, hmne, h60b]
        have hch := imChosen_ok h4 u4 w (movesL L B) cs run.length hu4.ints (hw.keep K4.1) hml hcs
        rw [hk3] at hch
        refine callG_c (by simp) (by simp) ?ha (hch) ?_
        (case ha => simp (disch := first | omega | (simp; done) | fail) [wrap64c, if_pos, if_neg, lw, g0, z0, c1, ntp, csp, ntq, csq, g3, e1, e5, e7, e8, hg', hz, lu, ntu, g4, z4, l4, hml, hmne, h60b])
        try simp (disch := first | omega | (simp; done) | fail) [wrap64c, if_pos, if_neg, lw, g0, z0, c1, ntp, csp, ntq, csq, g3, e1, e5, e7, e8, hg', hz, lu, ntu, g4, z4, l4, hml, hmne, h60b]
        obtain ⟨v5, h5', hc5, rfl, hW5, hu5⟩ := imMove_ok S2 S1 h4 p q L B i hp4.read hq4 s3 hoB.sh hoB.small hi1
        refine callG_c (by simp) (by simp) ?ha (hc5) ?_
        (case ha => simp (disch := first | omega | (simp; done) | fail) [wrap64c, if_pos, if_neg, lw, g0, z0, c1, ntp, csp, ntq, csq, g3, e1, e5, e7, e8, hg', hz, lu, ntu, g4, z4, l4, hml, hmne, h60b])
        have n5 := hW5.upd.1
        have K5 : Adds h h5' := K4.wr hW5 fun o e => by have := s2 o e; unfold Btw at this; omega
        have g5 : h5'.get h2.next = .cells [p, q] true true 1 := by rw [hW5.upd.2 _ (by omega) (fun e => by have := s2 _ e; unfold Btw at this; omega)]; exact g4
        have z5 : h5'.get (h.next + 1) = .cells [.slice none 0 0, .slice none 0 0] true true 1 := by rw [hW5.upd.2 _ (by omega) (fun e => by have := s2 _ e; unfold Btw at this; omega)]; exact z4
        have hp5 := hp4.same (hW5.upd.same s3)
        have hu5' := ia_upd hu4' hW5.upd (hof.mono fun o e => .inr (.inl e))
        try simp (disch := first | omega | (simp; done) | fail) [wrap64c, if_pos, if_neg, lw, g0, z0, c1, ntp, csp, ntq, csq, g3, e1, e5, e7, e8, hg', hz, lu, ntu, g4, z4, l4, hml, hmne, h60b]
        obtain ⟨u6, h6, hap, hu6, ha6, hn6, hs6⟩ := appI2 hu5' (i : Int) (by omega) (by omega) K5 (by omega)
        obtain ⟨sm6, of6⟩ := hs6 _ (fun o e => by rcases e with e | e | e | e <;> first | (have := hS1 _ e; omega) | (have := hS2 _ e; omega) | omega) hof
        try simp (disch := first | omega | (simp; done) | fail) [wrap64c, if_pos, if_neg, lw, g0, z0, c1, ntp, csp, ntq, csq, g3, e1, e5, e7, e8, hg', hz, lu, ntu, g4, z4, l4, hml, hmne, h60b, hap]
        refine loopK_next _ ?hm ?hf ⟨run ++ [(i : Int)], moveA L B i, u6, rfl, (by simp (disch := first | omega | (simp; done) | fail) [wrap64c, if_pos, if_neg, lw, g0, z0, c1, ntp, csp, ntq, csq, g3, e1, e5, e7, e8, hg', hz, lu, ntu, g4, z4, l4, hml, hmne, h60b] <;> omega), ha6, (by omega), (by rw [sm6.2 _ (.inr (.inr (.inl rfl))) (by omega)]; exact g5), (by rw [sm6.2 _ (.inr (.inr (.inr rfl))) (by omega)]; exact z5), hu6, (hp5.same ⟨sm6.1, fun o e e' => sm6.2 o (.inl e) e'⟩), (hu5.same ⟨sm6.1, fun o e e' => sm6.2 o (.inr (.inl e)) e'⟩), of6, (by simp; omega), (hoB.move hi1 hi2), (by simpa using hlB), (by rw [← hF, hfuel, fullA, if_neg hmne, if_neg h60, hk3, hpk]; simp [show 61 - (run.length + 1) = 60 - run.length by omega])⟩
        (case hm => first | omega | (simp; omega))
        (case hf => simp [FrameL, lw, g0, z0, c1, ntp, csp, ntq, csq, g3, e1, e5, e7, e8, hg', hz, lu, ntu, g4, z4, l4, hml, hmne, h60b, f1_0, f5_0, f8_0])
    · have hm0 : movesL L B = [] := List.length_eq_zero_iff.1 (by omega)
      have hmb : (((movesL L B).length : Int) == 0) = true := by simp [hm0]
      have e : fullA L cs 61 [] A = some (run, B) := by rw [← hF, hfuel, fullA, if_pos hm0]
      try simp (disch := first | omega | (simp; done) | fail) [wrap64c, if_pos, if_neg, lw, g0, z0, c1, ntp, csp, ntq, csq, g3, e1, e5, e7, e8, hg', hz, lu, ntu, g4, z4, l4, hml, hmb]
      refine WD_drawC 3 rfl (by kernel_rfl) ?_
      try simp (disch := first | omega | (simp; done) | fail) [wrap64c, if_pos, if_neg, lw, g0, z0, c1, ntp, csp, ntq, csq, g3, e1, e5, e7, e8, hg', hz, lu, ntu, g4, z4, l4, hml, hmb, putCells]
      have hK4 := K4.1.1
      refine done_ret (by simp [putCells, z4, e5]; rfl) ⟨(by first | exact aK | exact kK), u, _, by rw [eF, e]; rfl, ?_, ?_⟩
      · rw [eF, e]
        have hq5 := ia_upd (S := fun o => o = h.next + 1) (h' := h4.put (h.next + 1) (.cells [p, q] true true 1)) hu4' ⟨Nat.le_refl _, fun o _ hne => by simp [show ¬ o = h.next + 1 from hne]⟩ (hof.mono fun o e => .inr (.inr (.inr e)))
        exact (hq5.own (by omega)).sub fun x hx => ⟨by have := hx.1; omega, hx.2⟩
      · rw [eF, e]
        refine ⟨p, q, S1, S2, by simp, hp4.same (Same.put (Same.refl _ _) (fun e => by have := s1 _ e; unfold Btw at this; omega) _), hq4.same (Same.put (Same.refl _ _) (fun e => by have := s2 _ e; unfold Btw at this; omega) _), fun x hx => ?_, fun x hx => ?_, s3⟩
        · have := s1 x hx; unfold Btw at *; simp; omega
        · have := s2 x hx; unfold Btw at *; simp; omega
  · have c1' : goodB L A = false := by simpa using c1
    have eF : fullR L A cs = none := if_neg c1
    try simp (disch := first | omega | (simp; done) | fail) [wrap64c, if_pos, if_neg, lw, g0, z0, c1, c1', putCells]
    refine done_ret (by simp [putCells, z0]; rfl) ⟨(by first | exact aK | exact kK), _, _, by rw [eF]; rfl, by rw [eF]; exact .nil _ _, by rw [eF]; exact .nil _ _⟩
end Go.Proofs.Ytnnjehonbolliaa
namespace Go.Proofs.Ytnnjehonbolliaa
set_option linter.unusedSimpArgs false
set_option linter.unusedVariables false
set_option maxHeartbeats 4000000
open Go Go.Eng
attribute [local irreducible] WD RunD PreD Runs CallOK
end Go.Proofs.Ytnnjehonbolliaa
namespace Go.Proofs.Ytnnjehonbolliaa
set_option linter.unusedSimpArgs false
set_option linter.unusedVariables false
set_option maxHeartbeats 4000000
open Go Go.Eng
attribute [local irreducible] WD RunD PreD Runs CallOK
def idxW (p : Int → Bool) : List Int → Int
  | [] => -1
  | x :: l => if p x then 0 else if idxW p l < 0 then -1 else idxW p l + 1
theorem idxW_range (p : Int → Bool) : ∀ (l : List Int), -1 ≤ idxW p l ∧ idxW p l < l.length
  | [] => by simp [idxW]
  | x :: l => by
    have := idxW_range p l
    unfold idxW
    split
    · simp <;> omega
    · split <;> simp <;> omega
theorem idxW_at (p : Int → Bool) : ∀ (l : List Int) (j : Nat) (hj : j < l.length), (∀ i (hi : i < l.length), i < j → p l[i] = false) → p l[j] = true → idxW p l = j
  | [], _, hj, _, _ => absurd hj (by simp)
  | x :: l, 0, hj, h1, h2 => by simp at h2; simp [idxW, h2]
  | x :: l, j + 1, hj, h1, h2 => by
    have h0 := h1 0 (by simp) (by omega)
    simp at h0
    have := idxW_at p l j (by simpa using hj) (fun i hi hij => by have := h1 (i + 1) (by simpa using hi) (by omega); simpa using this) (by simpa using h2)
    simp [idxW, h0, this]; omega
theorem idxW_none (p : Int → Bool) : ∀ (l : List Int), (∀ x ∈ l, p x = false) → idxW p l = -1
  | [], _ => rfl
  | x :: l, h => by
    have := idxW_none p l fun y hy => h y (List.mem_cons_of_mem _ hy)
    simp [idxW, h x (List.mem_cons_self), this]
theorem idxW_neg (p : Int → Bool) : ∀ (l : List Int), idxW p l < 0 → ∀ x ∈ l, p x = false
  | [], _, x, hx => by cases hx
  | y :: l, h, x, hx => by
    unfold idxW at h
    split at h
    · omega
    · rename_i hy
      split at h
      · rename_i hl
        rcases List.mem_cons.1 hx with rfl | hx
        · simpa using hy
        · exact idxW_neg p l hl x hx
      · omega
theorem indexFuncW_ok (h : Hp) (v : Value) (xs : List Int) (f : FuncId) (fst cap : Array Value) (p : Int → Bool) (hv : Ints h v xs) (hf : fnOK Try.prog f = true)
    (hc : ∀ x ∈ xs, CallOK Try.prog f (fst ++ #[.int .i64 x] ++ cap) h (.bool (p x)) h) : CallOK Try.prog 70 #[v, .func (.func f) fst cap] h (.int .i64 (idxW p xs)) h := by
  have hf0 := hf
  refine callY_P 19 _ [.tmp 4] Try.func70 rfl rfl rfl (by first | rfl | simp) ?_
  have hvl := hv.len
  have lv := hv.lenD
  try simp (disch := first | omega | (simp; done) | fail) [wrap64c, if_pos, if_neg, hf0, lv]
  refine WD_loopC [0, 1, 7] (fun m tm h' => ∃ j, m = xs.length - j ∧ h = h' ∧ tm 8 = .int .i64 (j : Int) ∧ (j ≤ xs.length) ∧ (∀ i (hi : i < xs.length), i < j → p xs[i] = false)) _ ⟨0, rfl, rfl, (by simp (disch := first | omega | (simp; done) | fail) [wrap64c, if_pos, if_neg, hf0, lv]), (by first | omega | assumption | (simp (disch := first | omega | (simp; done) | fail) [wrap64c, if_pos, if_neg, hf0, lv] <;> omega)), (by intro i hi h0; omega)⟩ ?_
  rintro m tm h' hFr ⟨j, rfl, rfl, e8, hj, hx⟩
  simp only [FrameL] at hFr
  obtain ⟨f0_0, f1_0, f7_0, -⟩ := hFr
  try simp (disch := first | omega | (simp; done) | fail) [wrap64c, if_pos, if_neg, hf0, lv] at f0_0 f1_0 f7_0
  have e0 := f0_0
  have e1 := f1_0
  have e7 := f7_0
  by_cases hlt : j < xs.length
  · obtain ⟨o_x, i_x, c_x, cs_x, own_x, ex_x, es_x, q_x, b_x, g_x, l_x, r_x⟩ := hv.open ((by omega))
    have z_x : ∀ h2 : i_x < cs_x.length, cs_x[i_x] = _ := fun h2 => r_x 0 ((by omega)) h2
    try simp (disch := first | omega | (simp; done) | fail) [wrap64c, if_pos, if_neg, hf0, lv, e0, e1, e7, e8, hlt, q_x, g_x, l_x, r_x, z_x]
    have hf1 := hf
    refine callG_f (fst := fst) (cap := cap) (by simp) (by simp) ?hf ?hk ?ha (hc _ (List.getElem_mem hlt)) ?_
    (case hf => simp (disch := first | omega | (simp; done) | fail) [wrap64c, if_pos, if_neg, hf0, lv, e0, e1, e7, e8, hlt, q_x, g_x, l_x, r_x, z_x, hf1]; try rfl)
    (case hk => simp (disch := first | omega | (simp; done) | fail) [wrap64c, if_pos, if_neg, hf0, lv, e0, e1, e7, e8, hlt, q_x, g_x, l_x, r_x, z_x, hf1])
    (case ha => simp (disch := first | omega | (simp; done) | fail) [wrap64c, if_pos, if_neg, hf0, lv, e0, e1, e7, e8, hlt, q_x, g_x, l_x, r_x, z_x, hf1])
    by_cases hp : p xs[j] = true
    · try simp (disch := first | omega | (simp; done) | fail) [wrap64c, if_pos, if_neg, hf0, lv, e0, e1, e7, e8, hlt, q_x, g_x, l_x, r_x, z_x, hf1, hp]
      exact done_ret rfl (by simp [idxW_at p xs j hlt hx hp])
    · have hp' : p xs[j] = false := by simpa using hp
      try simp (disch := first | omega | (simp; done) | fail) [wrap64c, if_pos, if_neg, hf0, lv, e0, e1, e7, e8, hlt, q_x, g_x, l_x, r_x, z_x, hf1, hp, hp']
      refine loopK_next _ ?hm ?hf ⟨j + 1, rfl, rfl, (by simp (disch := first | omega | (simp; done) | fail) [wrap64c, if_pos, if_neg, hf0, lv, e0, e1, e7, e8, hlt, q_x, g_x, l_x, r_x, z_x, hf1, hp, hp'] <;> omega), (by first | omega | assumption | (simp (disch := first | omega | (simp; done) | fail) [wrap64c, if_pos, if_neg, hf0, lv, e0, e1, e7, e8, hlt, q_x, g_x, l_x, r_x, z_x, hf1, hp, hp'] <;> omega)), ?c_hx⟩
      (case hm => first | omega | (simp; omega))
      (case hf => simp [FrameL, hf0, lv, e0, e1, e7, e8, hlt, q_x, g_x, l_x, r_x, z_x, hf1, hp, hp', f0_0, f1_0, f7_0])
      case c_hx =>
        exact (fun i hi hij => by
          rcases Nat.lt_succ_iff_lt_or_eq.1 hij with q | q
          · exact hx i hi q
          · subst q; exact hp')
  · try simp (disch := first | omega | (simp; done) | fail) [wrap64c, if_pos, if_neg, hf0, lv, e0, e1, e7, e8, hlt]
    have : idxW p xs = -1 := idxW_none p xs fun x hx' => by
      obtain ⟨i, hi, rfl⟩ := List.getElem_of_mem hx'
      exact hx i hi (by omega)
    exact done_ret rfl (by simp [this])
theorem containsFuncW_ok (h : Hp) (v : Value) (xs : List Int) (f : FuncId) (fst cap : Array Value) (p : Int → Bool) (hv : Ints h v xs) (hf : fnOK Try.prog f = true)
    (hc : ∀ x ∈ xs, CallOK Try.prog f (fst ++ #[.int .i64 x] ++ cap) h (.bool (p x)) h) : CallOK Try.prog 67 #[v, .func (.func f) fst cap] h (.bool (decide (0 ≤ idxW p xs))) h := by
  refine callY_P 9 _ [.tmp 4] Try.func67 rfl rfl rfl (by first | rfl | simp) ?_
  try simp (disch := first | omega | (simp; done) | fail) [wrap64c, if_pos, if_neg]
  refine callG_c (by simp) (by simp) ?ha (indexFuncW_ok h v xs f fst cap p hv hf hc) ?_
  (case ha => simp (disch := first | omega | (simp; done) | fail) [wrap64c, if_pos, if_neg])
  try simp (disch := first | omega | (simp; done) | fail) [wrap64c, if_pos, if_neg]
  exact done_ret rfl (by simp)
def chW (cs : List Int) (most : Int) : Bool := decide ((cs.length : Int) ≤ most ∧ ∀ x ∈ cs, 0 ≤ x)
noncomputable def byR (L : List (List Int)) (A cs : List Int) : Option (List Int × List Int) := if chW cs 60 = true then fullR L A cs else none
def FnCIL (f : FuncId) (R : List (List Int) → List Int → List Int → Option (List Int × List Int)) : Prop :=
  ∀ (h : Hp) (v w : Value) (L : List (List Int)) (A ms : List Int), Chips h v L A → Ints h w ms →
    ∃ v' h', CallOK Try.prog f #[v, w] h v' h' ∧ Adds h h' ∧ ∃ u, v' = .tuple #[u, .bool (R L A ms).isSome] ∧ IntsO (Btw h.next h'.next) h' u (fRun (R L A ms))
def FnCL' (f : FuncId) (R : List (List Int) → List Int → Option (List Int)) : Prop :=
  ∀ (h : Hp) (v : Value) (L : List (List Int)) (A : List Int), Chips h v L A →
    ∃ v' h', CallOK Try.prog f #[v] h v' h' ∧ Adds h h' ∧ ∃ u, v' = .tuple #[u, .bool (R L A).isSome] ∧ IntsO (Btw h.next h'.next) h' u ((R L A).getD [])
def fst? : Option (List Int × List Int) → Option (List Int)
  | some q => some q.1
  | none => none
theorem Ints.nil (h : Hp) : Ints h (.slice none 0 0) [] := (IntsO.nil (fun _ => False) h).ints
noncomputable def firstR (L : List (List Int)) (A : List Int) : Option (List Int) := fst? (fullR L A [])
noncomputable def endR (L : List (List Int)) (A : List Int) : Bool := goodB L A && !(fullR L A []).isSome
def FnCC (f : FuncId) (R : List (List Int) → List Int → Option (List Int)) : Prop :=
  ∀ (h : Hp) (v : Value) (L : List (List Int)) (A : List Int), Chips h v L A →
    ∃ v' h', CallOK Try.prog f #[v] h v' h' ∧ Adds h h' ∧ ∃ u, v' = .tuple #[u, .bool (R L A).isSome] ∧ ChipsO (Btw h.next h'.next) h' u (chL L (R L A)) (chA (R L A))
noncomputable def finalR (L : List (List Int)) (A : List Int) : Option (List Int) := snd? (fullR L A [])
end Go.Proofs.Ytnnjehonbolliaa
namespace Go.Proofs.Ytnnjehonbolliaa
set_option linter.unusedSimpArgs false
set_option linter.unusedVariables false
set_option maxHeartbeats 4000000
open Go Go.Eng
attribute [local irreducible] WD RunD PreD Runs CallOK
def cntL (n : Nat) (run : List Int) : List Int := (List.range n).map fun (i : Nat) => (run.count (i : Int) : Int)
@[simp] theorem cntL_length (n : Nat) (run : List Int) : (cntL n run).length = n := by simp [cntL]
theorem cntL_get (n : Nat) (run : List Int) (i : Nat) (h : i < (cntL n run).length) : (cntL n run)[i] = (run.count (i : Int) : Int) := by simp [cntL]
theorem cntL_nil (n : Nat) : cntL n [] = List.replicate n 0 := by
  apply List.ext_getElem
  · simp
  · intro i h1 h2; simp [cntL]
theorem cntL_snoc (n : Nat) (run : List Int) (i : Nat) (hi : i < n) : cntL n (run ++ [(i : Int)]) = (cntL n run).set i ((cntL n run)[i]'(by simpa using hi) + 1) := by
  apply List.ext_getElem
  · simp
  · intro k h1 h2
    rw [cntL_get, List.getElem_set, List.count_append]
    by_cases e : i = k
    · subst e; rw [if_pos rfl, cntL_get]; simp
    · rw [if_neg e, cntL_get]
      have : List.count (k : Int) [(i : Int)] = 0 := by simp [List.count_singleton]; omega
      rw [this]; rfl
theorem cntL_le (n : Nat) (run : List Int) (i : Nat) (h : i < (cntL n run).length) : 0 ≤ (cntL n run)[i] ∧ (cntL n run)[i] ≤ run.length := by
  rw [cntL_get]
  have := List.count_le_length (a := (i : Int)) (l := run)
  omega
theorem waCounts_ok (h : Hp) (w : Value) (run : List Int) (n : Nat) (hw : Ints h w run) (hn : n ≤ 5) (hr : ∀ x ∈ run, 0 ≤ x ∧ x < n) (hl : run.length ≤ 60) :
    ∃ v' h', CallOK Try.prog 48 #[.int .i64 n, w] h v' h' ∧ Adds h h' ∧ IntsO (Btw h.next h'.next) h' v' (cntL n run) := by
  refine callY_L (args := [.int .i64 n, w]) 24 _ [.tmp 4] Try.func48 rfl rfl rfl ?_
  have lw := hw.lenD
  try simp (disch := first | omega | (simp; done) | fail) [wrap64c, if_pos, if_neg, lw, (by omega : (n : Int) < 140737488355328), (by omega : (8 : Int) * n ≤ 281474976710656)]
  refine WD_loopC [5, 10, 11] (fun m tm h' => ∃ j, m = run.length - j ∧ tm 12 = .int .i64 (j : Int) ∧ (j ≤ run.length) ∧ (Adds h h') ∧ (h.next < h'.next) ∧ (h'.get h.next = .cells ((cntL n (run.take j)).map (.int .i64)) true true 1)) _ ⟨0, rfl, (by simp (disch := first | omega | (simp; done) | fail) [wrap64c, if_pos, if_neg, lw]), (by first | omega | assumption | (simp (disch := first | omega | (simp; done) | fail) [wrap64c, if_pos, if_neg, lw] <;> omega)), (by first | exact aK | exact kK), (by simp), (by simp [cntL_nil])⟩ ?_
  rintro m tm h' hFr ⟨j, rfl, e12, hj, ha, hn', hg⟩
  simp only [FrameL] at hFr
  obtain ⟨f5_0, f10_0, f11_0, -⟩ := hFr
  try simp (disch := first | omega | (simp; done) | fail) [wrap64c, if_pos, if_neg, lw] at f5_0 f10_0 f11_0
  have e5 := f5_0
  have e10 := f10_0
  have e11 := f11_0
  by_cases hlt : j < run.length
  · obtain ⟨o_x, i_x, c_x, cs_x, own_x, ex_x, es_x, q_x, b_x, g_x, l_x, r_x⟩ := (hw.keep ha.1).open ((by omega))
    have z_x : ∀ h2 : i_x < cs_x.length, cs_x[i_x] = _ := fun h2 => r_x 0 ((by omega)) h2
    have hb := hr _ (List.getElem_mem hlt)
    obtain ⟨i, hi⟩ : ∃ i : Nat, run[j] = (i : Int) := ⟨run[j].toNat, by omega⟩
    have hin : i < n := by omega
    have hle := cntL_le n (run.take j) i (by simpa using hin)
    have hle2 : (run.take j).length ≤ 60 := by simp; omega
    have hcl := cntL_length n (run.take j)
    try simp (disch := first | omega | (simp; done) | fail) [wrap64c, if_pos, if_neg, lw, e5, e10, e11, e12, hg, hlt, q_x, g_x, l_x, r_x, z_x, hi]
    refine loopK_next _ ?hm ?hf ⟨j + 1, rfl, (by simp (disch := first | omega | (simp; done) | fail) [wrap64c, if_pos, if_neg, lw, e5, e10, e11, e12, hg, hlt, q_x, g_x, l_x, r_x, z_x, hi] <;> omega), (by first | omega | assumption | (simp (disch := first | omega | (simp; done) | fail) [wrap64c, if_pos, if_neg, lw, e5, e10, e11, e12, hg, hlt, q_x, g_x, l_x, r_x, z_x, hi] <;> omega)), (by first | exact aK | exact kK), (by simpa using hn'), ?c_hg⟩
    (case hm => first | omega | (simp; omega))
    (case hf => simp [FrameL, lw, e5, e10, e11, e12, hg, hlt, q_x, g_x, l_x, r_x, z_x, hi, f5_0, f10_0, f11_0])
    case c_hg =>
      exact (by
        rw [List.take_succ_eq_append_getElem hlt, hi, cntL_snoc n _ i hin]
        simp [putCells_one, hin])
  · try simp (disch := first | omega | (simp; done) | fail) [wrap64c, if_pos, if_neg, lw, e5, e10, e11, e12, hg, hlt]
    have hj' : j = run.length := by omega
    subst hj'
    rw [List.take_length] at hg
    have := IntsO.mk (S := Btw h.next h'.next) (xs := cntL n run) (ex := true) ⟨Nat.le_refl _, hn'⟩ hn' (by simp; omega) hg
    exact done_ret rfl ⟨ha, by simpa using this⟩
theorem fullA_run {L : List (List Int)} {cs : List Int} (hcs : ∀ x ∈ cs, 0 ≤ x) : ∀ {n : Nat} {run A r B : List Int}, fullA L cs n run A = some (r, B) → run.length ≤ 60 → (∀ x ∈ run, 0 ≤ x ∧ x < A.length) → r.length ≤ 60 ∧ (∀ x ∈ r, 0 ≤ x ∧ x < A.length) ∧ B.length = A.length
  | 0, _, _, _, _, h, _, _ => by simp [fullA] at h
  | n + 1, run, A, r, B, h, hl, hr => by
    unfold fullA at h
    by_cases hm : movesL L A = []
    · rw [if_pos hm] at h
      simp only [Option.some.injEq, Prod.mk.injEq] at h
      obtain ⟨rfl, rfl⟩ := h
      exact ⟨hl, hr, rfl⟩
    · rw [if_neg hm] at h
      by_cases h60 : run.length = 60
      · rw [if_pos h60] at h; cases h
      · rw [if_neg h60] at h
        have hml : 0 < (movesL L A).length := List.length_pos_iff.2 hm
        have hk1 := pickK_lt hml hcs run.length
        obtain ⟨i, hi0, hi1, hi2⟩ := movesL_get hk1
        have hk2 : (movesL L A).getD (pickK (movesL L A) cs run.length) 0 = (i : Int) := by rw [List.getD_eq_getElem?_getD, List.getElem?_eq_getElem hk1]; exact hi0
        rw [hk2] at h
        have := fullA_run hcs h (by simp; omega) (fun x hx => by
          rcases List.mem_append.1 hx with hx | hx
          · simpa using hr x hx
          · simp at hx; subst hx; simp; omega)
        simpa using this
noncomputable def countsR (L : List (List Int)) (A : List Int) : Option (List Int) := (fst? (fullR L A [])).map (cntL A.length)
theorem imMoveCounts_ok : FnCL' 11 countsR := by
  intro h v L A hv
  refine callY_L (args := [v]) 36 _ [.tmp 2, .tmp 3] Try.func11 rfl rfl rfl ?_
  have hv0 := hv
  obtain ⟨a, b, rfl, hL, hA⟩ := hv
  have lA := hA.lenD
  refine WD_first ?_
  try simp (disch := first | omega | (simp; done) | fail) [wrap64c, if_pos, if_neg, lA]
  refine stopK_heap fun h0 q_h0 => ?_
  refine stopK_go ?_
  have g_h0 : h0.get h.next = .cells [a, b] true true 1 := by simp [q_h0]
  have k_h0 : Adds h h0 := by rw [q_h0]; exact (by first | exact aK | exact kK)
  have n_h0 : h.next < h0.next := by simp [q_h0]; try omega
  try simp (disch := first | omega | (simp; done) | fail) [wrap64c, if_pos, if_neg, lA, g_h0]
  obtain ⟨v1, h1, hc1, ha1, u1, u2, rfl, hu1, hu2⟩ := imFull_ok h0 _ (.slice none 0 0) L A [] (hv0.keep k_h0.1) (Ints.nil _) (by simp)
  obtain ⟨p, q, S1, S2, rfl, hp, hq, s1, s2, s3⟩ := hu2
  refine callG_c (by simp) (by simp) ?ha (hc1) ?_
  (case ha => simp (disch := first | omega | (simp; done) | fail) [wrap64c, if_pos, if_neg, lA, g_h0])
  have ntp := hp.nt
  have csp := hp.cs
  have ntq := hq.nt
  have csq := hq.cs
  have n1 := ha1.1.1
  have K1 := k_h0.trans ha1
  have g1 : h1.get h.next = .cells [a, b] true true 1 := by rw [ha1.1.2 _ n_h0]; exact g_h0
  by_cases c1 : goodB L A = true
  · have ho := (good_of c1).ok
    have h5 := ho.le
    have eB : fullR L A [] = fullA L [] 61 [] A := if_pos c1
    cases hr : fullR L A [] with
    | none =>
      have hr' := hr
      try simp (disch := first | omega | (simp; done) | fail) [wrap64c, if_pos, if_neg, lA, g_h0, ntp, csp, ntq, csq, g1, hr', putCells]
      exact done_ret rfl ⟨(by first | exact aK | exact kK), _, by rw [countsR, hr]; rfl, by rw [countsR, hr]; exact .nil _ _⟩
    | some B =>
      have hr' := hr
      rw [hr] at hu1
      rw [eB] at hr
      have hb := fullA_run (by simp) hr (by simp) (by simp)
      rw [← eB] at hr
      try simp (disch := first | omega | (simp; done) | fail) [wrap64c, if_pos, if_neg, lA, g_h0, ntp, csp, ntq, csq, g1, hr', putCells, -wd_region, wd_region 0, wd_region 1, wd_region 2, wd_region 3, wd_region 5, wd_region 6, wd_region 7, wd_region 8, wd_region 9, wd_region 10]
      first | refine WY_heap fun h2 q_h2 => ?_ | refine callG_heap fun h2 q_h2 => ?_ | refine callP_heap fun h2 q_h2 => ?_ | refine callS_heap fun h2 q_h2 => ?_ | refine RY_heap fun h2 q_h2 => ?_ | refine PY_heap fun h2 q_h2 => ?_ | refine SY_heap fun h2 q_h2 => ?_ | refine doneY_heap fun h2 q_h2 => ?_ | refine loopK_heap fun h2 q_h2 => ?_ | refine thenY_heap fun h2 q_h2 => ?_ | refine thenM_heap fun h2 q_h2 => ?_
      have K12 : Adds h1 h2 := by rw [q_h2]; exact (by first | exact aK | exact kK)
      have K2 := K1.trans K12
      have hu2 : IntsO (Btw h0.next h1.next) h2 u1 B.1 := hu1.keep K12.1
      have n2 := K12.1.1
      have g2 : h2.get h.next = .cells [a, b] true true 1 := by rw [K12.1.2 _ (by omega)]; exact g1
      have lu := hu2.lenD
      try simp (disch := first | omega | (simp; done) | fail) [wrap64c, if_pos, if_neg, lA, g_h0, ntp, csp, ntq, csq, g1, hr', g2, lu, (by omega : (A.length : Int) < 140737488355328), (by omega : (8 : Int) * A.length ≤ 281474976710656)]
      refine WD_loopC [7, 22, 23] (fun m tm h' => ∃ j, m = B.1.length - j ∧ tm 24 = .int .i64 (j : Int) ∧ (j ≤ B.1.length) ∧ (Adds h2 h') ∧ (h2.next < h'.next) ∧ (h'.get h2.next = .cells ((cntL A.length (B.1.take j)).map (.int .i64)) true true 1)) _ ⟨0, rfl, (by simp (disch := first | omega | (simp; done) | fail) [wrap64c, if_pos, if_neg, lA, g_h0, ntp, csp, ntq, csq, g1, hr', g2, lu]), (by first | omega | assumption | (simp (disch := first | omega | (simp; done) | fail) [wrap64c, if_pos, if_neg, lA, g_h0, ntp, csp, ntq, csq, g1, hr', g2, lu] <;> omega)), (by first | exact aK | exact kK), (by simp), (by simp [cntL_nil])⟩ ?_
      rintro m tm h' hFr ⟨j, rfl, e24, hj, ha, hn', hg⟩
      simp only [FrameL] at hFr
      obtain ⟨f7_0, f22_0, f23_0, -⟩ := hFr
      try simp (disch := first | omega | (simp; done) | fail) [wrap64c, if_pos, if_neg, lA, g_h0, ntp, csp, ntq, csq, g1, hr', g2, lu] at f7_0 f22_0 f23_0
      have e7 := f7_0
      have e22 := f22_0
      have e23 := f23_0
      by_cases hlt : j < B.1.length
      · obtain ⟨o_x, i_x, c_x, cs_x, own_x, ex_x, es_x, q_x, b_x, g_x, l_x, r_x⟩ := ((hu2.keep ha.1).ints).open ((by omega))
        have z_x : ∀ h2 : i_x < cs_x.length, cs_x[i_x] = _ := fun h2 => r_x 0 ((by omega)) h2
        have hb1 := hb.2.1 _ (List.getElem_mem hlt)
        have hb2 := hb.1
        obtain ⟨i, hi⟩ : ∃ i : Nat, B.1[j] = (i : Int) := ⟨B.1[j].toNat, by omega⟩
        have hin : i < A.length := by omega
        have hle := cntL_le A.length (B.1.take j) i (by simpa using hin)
        have hle2 : (B.1.take j).length ≤ 60 := by simp; omega
        have hcl := cntL_length A.length (B.1.take j)
        try simp (disch := first | omega | (simp; done) | fail) [wrap64c, if_pos, if_neg, lA, g_h0, ntp, csp, ntq, csq, g1, hr', g2, lu, e7, e22, e23, e24, hg, hlt, q_x, g_x, l_x, r_x, z_x, hi]
        refine loopK_next _ ?hm ?hf ⟨j + 1, rfl, (by simp (disch := first | omega | (simp; done) | fail) [wrap64c, if_pos, if_neg, lA, g_h0, ntp, csp, ntq, csq, g1, hr', g2, lu, e7, e22, e23, e24, hg, hlt, q_x, g_x, l_x, r_x, z_x, hi] <;> omega), (by first | omega | assumption | (simp (disch := first | omega | (simp; done) | fail) [wrap64c, if_pos, if_neg, lA, g_h0, ntp, csp, ntq, csq, g1, hr', g2, lu, e7, e22, e23, e24, hg, hlt, q_x, g_x, l_x, r_x, z_x, hi] <;> omega)), (by first | exact aK | exact kK), (by simpa using hn'), ?c_hg⟩
        (case hm => first | omega | (simp; omega))
        (case hf => simp [FrameL, lA, g_h0, ntp, csp, ntq, csq, g1, hr', g2, lu, e7, e22, e23, e24, hg, hlt, q_x, g_x, l_x, r_x, z_x, hi, f7_0, f22_0, f23_0])
        case c_hg =>
          exact (by
            rw [List.take_succ_eq_append_getElem hlt, hi, cntL_snoc A.length _ i hin]
            simp [putCells_one, hin])
      · try simp (disch := first | omega | (simp; done) | fail) [wrap64c, if_pos, if_neg, lA, g_h0, ntp, csp, ntq, csq, g1, hr', g2, lu, e7, e22, e23, e24, hg, hlt]
        have hj' : j = B.1.length := by omega
        subst hj'
        rw [List.take_length] at hg
        have hz := IntsO.mk (S := Btw h.next h'.next) (xs := cntL A.length B.1) (ex := true) ⟨by omega, hn'⟩ hn' (by simp; omega) hg
        exact done_ret rfl ⟨K2.trans ha, _, by rw [countsR, hr]; rfl, by rw [countsR, hr]; simpa [fst?] using hz⟩
  · have eB : fullR L A [] = none := if_neg c1
    have eB' := eB
    try simp (disch := first | omega | (simp; done) | fail) [wrap64c, if_pos, if_neg, lA, g_h0, ntp, csp, ntq, csq, g1, eB', putCells]
    exact done_ret rfl ⟨(by first | exact aK | exact kK), _, by rw [countsR, eB]; rfl, by rw [countsR, eB]; exact .nil _ _⟩
end Go.Proofs.Ytnnjehonbolliaa
namespace Go.Proofs.Ytnnjehonbolliaa
set_option linter.unusedSimpArgs false
set_option linter.unusedVariables false
set_option maxHeartbeats 4000000
open Go Go.Eng
theorem fullR_len {L : List (List Int)} {A cs : List Int} (hcs : ∀ x ∈ cs, 0 ≤ x) {q : List Int × List Int} (h : fullR L A cs = some q) : q.1.length ≤ 60 ∧ q.2.length = A.length := by
  unfold fullR at h
  split at h
  · have := fullA_run (r := q.1) (B := q.2) hcs h (by simp) (by simp)
    exact ⟨this.1, this.2.2⟩
  · cases h
end Go.Proofs.Ytnnjehonbolliaa
namespace Go.Proofs.Ytnnjehonbolliaa
set_option linter.unusedSimpArgs false
set_option linter.unusedVariables false
set_option maxHeartbeats 4000000
open Go Go.Eng
attribute [local irreducible] WD RunD PreD Runs CallOK
end Go.Proofs.Ytnnjehonbolliaa
namespace Go.Proofs.Ytnnjehonbolliaa
set_option linter.unusedSimpArgs false
set_option linter.unusedVariables false
set_option maxHeartbeats 4000000
open Go Go.Eng
attribute [local irreducible] WD RunD PreD Runs CallOK
theorem bytes_old {h : Hp} {v : Value} {xs : List Int} (hs : Bytes h v xs) : BytesF h.next h v xs := by
  obtain ⟨s, c, e, hc, hc', hx⟩ := hs
  exact ⟨s, c, e, hc, hc', fun k x hk => let ⟨o, i, cs, own, ex, es, h1, h2, h3, h4, h5⟩ := hx k x hk; ⟨o, i, cs, own, ex, es, h1, h2, h2, h3, h4, h5⟩⟩
theorem big_ok (h : Hp) (v w : Value) (xs ys : List Int) (hv : Bytes h v xs) (hw : Bytes h w ys) : CallOK Try.prog 5 #[v, w] h (.bool (decide (1048576 < xs.length ∨ 1048576 - (xs.length : Int) < ys.length))) h := by
  refine callY_P 16 _ [.tmp 4] Try.func5 rfl rfl rfl (by first | rfl | simp) ?_
  have hL := hv.lenD
  have hM := hw.lenD
  have l1 := hv.len
  have l2 := hw.len
  by_cases c1 : 1048576 < xs.length
  · have c1' : (1048576 : Int) < (xs.length : Int) := by omega
    try simp (disch := first | omega | (simp; done) | fail) [wrap64c, if_pos, if_neg, hL, hM, c1']
    exact done_ret rfl (by simp [c1])
  · have c1' : ¬ (1048576 : Int) < (xs.length : Int) := by omega
    by_cases c2 : 1048576 - (xs.length : Int) < ys.length
    · try simp (disch := first | omega | (simp; done) | fail) [wrap64c, if_pos, if_neg, hL, hM, c1', c2]
      exact done_ret rfl (by simp [c2])
    · try simp (disch := first | omega | (simp; done) | fail) [wrap64c, if_pos, if_neg, hL, hM, c1', c2]
      exact done_ret rfl (by simp [c1, c2])
theorem iSame_ok (h : Hp) (v w : Value) (X Y : List Int) (hv : Ints h v X) (hw : Ints h w Y) : CallOK Try.prog 16 #[v, w] h (.bool (decide (X = Y))) h := by
  refine callY_P 26 _ [.tmp 4] Try.func16 rfl rfl rfl (by first | rfl | simp) ?_
  have hL := hv.lenD
  have hM := hw.lenD
  have hlx := hv.len
  have hly := hw.len
  by_cases hl : X.length = Y.length
  · have hlb : ((X.length : Int) != (Y.length : Int)) = false := by simp [hl]
    try simp (disch := first | omega | (simp; done) | fail) [wrap64c, if_pos, if_neg, hL, hM, hlb]
    refine WD_loopC [0, 1, 12] (fun m tm h' => ∃ j, m = X.length - j ∧ h = h' ∧ tm 13 = .int .i64 (j : Int) ∧ (j ≤ X.length) ∧ (∀ i (h1 : i < X.length) (h2 : i < Y.length), i < j → X[i] = Y[i])) _ ⟨0, rfl, rfl, (by simp (disch := first | omega | (simp; done) | fail) [wrap64c, if_pos, if_neg, hL, hM, hlb]), (by first | omega | assumption | (simp (disch := first | omega | (simp; done) | fail) [wrap64c, if_pos, if_neg, hL, hM, hlb] <;> omega)), (by intro i h1 h2 h3; omega)⟩ ?_
    rintro m tm h' hFr ⟨j, rfl, rfl, e13, hj, hx⟩
    simp only [FrameL] at hFr
    obtain ⟨f0_0, f1_0, f12_0, -⟩ := hFr
    try simp (disch := first | omega | (simp; done) | fail) [wrap64c, if_pos, if_neg, hL, hM, hlb] at f0_0 f1_0 f12_0
    have e0 := f0_0
    have e1 := f1_0
    have e12 := f12_0
    by_cases hlt : j < X.length
    · have hlt2 : j < Y.length := by omega
      obtain ⟨o_x, i_x, c_x, cs_x, own_x, ex_x, es_x, q_x, b_x, g_x, l_x, r_x⟩ := hv.open ((by omega))
      have z_x : ∀ h2 : i_x < cs_x.length, cs_x[i_x] = _ := fun h2 => r_x 0 ((by omega)) h2
      obtain ⟨o_y, i_y, c_y, cs_y, own_y, ex_y, es_y, q_y, b_y, g_y, l_y, r_y⟩ := hw.open ((by omega))
      have z_y : ∀ h2 : i_y < cs_y.length, cs_y[i_y] = _ := fun h2 => r_y 0 ((by omega)) h2
      try simp (disch := first | omega | (simp; done) | fail) [wrap64c, if_pos, if_neg, hL, hM, hlb, e0, e1, e12, e13, hlt, hlt2, q_x, g_x, l_x, r_x, z_x, q_y, g_y, l_y, r_y, z_y]
      refine WD_drawC 8 rfl (by kernel_rfl) ?_
      by_cases he : X[j] = Y[j]
      · have hb : (X[j] != Y[j]) = false := by simp [he]
        try simp (disch := first | omega | (simp; done) | fail) [wrap64c, if_pos, if_neg, hL, hM, hlb, e0, e1, e12, e13, hlt, hlt2, q_x, g_x, l_x, r_x, z_x, q_y, g_y, l_y, r_y, z_y, hb]
        refine loopK_next _ ?hm ?hf ⟨j + 1, rfl, rfl, (by simp (disch := first | omega | (simp; done) | fail) [wrap64c, if_pos, if_neg, hL, hM, hlb, e0, e1, e12, e13, hlt, hlt2, q_x, g_x, l_x, r_x, z_x, q_y, g_y, l_y, r_y, z_y] <;> omega), (by first | omega | assumption | (simp (disch := first | omega | (simp; done) | fail) [wrap64c, if_pos, if_neg, hL, hM, hlb, e0, e1, e12, e13, hlt, hlt2, q_x, g_x, l_x, r_x, z_x, q_y, g_y, l_y, r_y, z_y] <;> omega)), ?c_hx⟩
        (case hm => first | omega | (simp; omega))
        (case hf => simp [FrameL, hL, hM, hlb, e0, e1, e12, e13, hlt, hlt2, q_x, g_x, l_x, r_x, z_x, q_y, g_y, l_y, r_y, z_y, f0_0, f1_0, f12_0])
        case c_hx =>
          exact (fun i h1 h2 hi => by
            by_cases e : i = j
            · subst e; exact he
            · exact hx i h1 h2 (by omega))
      · have hb : (X[j] != Y[j]) = true := by simp [he]
        have hne : ¬ X = Y := fun e => he (by subst e; rfl)
        try simp (disch := first | omega | (simp; done) | fail) [wrap64c, if_pos, if_neg, hL, hM, hlb, e0, e1, e12, e13, hlt, hlt2, q_x, g_x, l_x, r_x, z_x, q_y, g_y, l_y, r_y, z_y, hb]
        exact done_ret rfl (by simp [hne])
    · try simp (disch := first | omega | (simp; done) | fail) [wrap64c, if_pos, if_neg, hL, hM, hlb, e0, e1, e12, e13, hlt]
      have e : X = Y := List.ext_getElem hl fun i h1 h2 => hx i h1 h2 (by omega)
      exact done_ret rfl (by simp [e])
  · have hlb : ((X.length : Int) != (Y.length : Int)) = true := by simp; omega
    have hne : ¬ X = Y := fun e => hl (by rw [e])
    try simp (disch := first | omega | (simp; done) | fail) [wrap64c, if_pos, if_neg, hL, hM, hlb]
    exact done_ret rfl (by simp [hne])
end Go.Proofs.Ytnnjehonbolliaa
namespace Go.Proofs.Ytnnjehonbolliaa
set_option linter.unusedSimpArgs false
set_option linter.unusedVariables false
set_option maxHeartbeats 4000000
open Go Go.Eng
attribute [local irreducible] WD RunD PreD Runs CallOK
theorem putI {ys : List Int} {j : Nat} (hj : j < ys.length) (x : Int) : putCells (ys.map (.int .i64)) j [.int .i64 x] = (ys.set j x).map (.int .i64) := by
  rw [putCells_one (by simpa using hj), List.map_set]
theorem l1LeastD_ok (h : Hp) (a b : Int) : CallOK Try.prog 64 #[.int .i64 a, .int .i64 b] h (.int .i64 (if a < b then a else b)) h := by
  refine callY_P 10 _ [.tmp 4] Try.func64 rfl rfl rfl (by first | rfl | simp) ?_
  by_cases c : a < b
  · try simp (disch := first | omega | (simp; done) | fail) [wrap64c, if_pos, if_neg, c]
    exact done_ret rfl (by simp [c])
  · try simp (disch := first | omega | (simp; done) | fail) [wrap64c, if_pos, if_neg, c]
    exact done_ret rfl (by simp [c])
theorem drawAreChips_ok (h : Hp) (v : Value) (bs : List Int) (hb : BytesF h.next h v bs) : ∃ u h', CallOK Try.prog 74 #[v] h u h' ∧ Adds h h' ∧ ∃ L A, ChipsF (fun x => h.next < x) h' u L A ∧ (L.length ≤ 5 ∧ (∀ x ∈ L, x.length ≤ 4) ∧ A.length ≤ 4) := by
  have ntv := hb.bytes.nt
  have csv := hb.bytes.cs
  refine callY_L (args := [v]) 9 _ [.cell 2 27] Try.func74 rfl rfl rfl ?_
  try simp (disch := first | omega | (simp; done) | fail) [wrap64c, if_pos, if_neg, ntv, csv]
  first | refine WY_heap fun h0 q_h0 => ?_ | refine callG_heap fun h0 q_h0 => ?_ | refine callP_heap fun h0 q_h0 => ?_ | refine callS_heap fun h0 q_h0 => ?_ | refine RY_heap fun h0 q_h0 => ?_ | refine PY_heap fun h0 q_h0 => ?_ | refine SY_heap fun h0 q_h0 => ?_ | refine doneY_heap fun h0 q_h0 => ?_ | refine loopK_heap fun h0 q_h0 => ?_ | refine thenY_heap fun h0 q_h0 => ?_ | refine thenM_heap fun h0 q_h0 => ?_
  have k0 : Adds h h0 := by rw [q_h0]; exact (by first | exact aK | exact kK)
  have n0 : h0.next = h.next + 2 := by simp [q_h0]
  have g0 : h0.get (h.next + 1) = .cells [v, .int .i64 0, .int .u64 0] true true 1 := by simp [q_h0]
  have gr0 : h0.get h.next = .cells [.slice none 0 0, .slice none 0 0] true true 1 := by simp [q_h0]
  have c0 := cur_mk hb k0.1 ⟨Nat.le_succ _, by omega⟩ g0
  obtain ⟨v1, h1, p1, d1, L, A, f1, sm1⟩ := chips_ok h h0 (h.next + 1) 0 k0 c0 (by decide)
  obtain ⟨a, b, rfl, fa, fb⟩ := f1
  have gr2 : h1.get h.next = .cells [.slice none 0 0, .slice none 0 0] true true 1 := by rw [d1.sm _ (by omega) (by omega)]; exact gr0
  have gr2' := gr2
  have hp2 : ∀ a b c d : Value, putCells [a, b] 0 [c, d] = [c, d] := fun _ _ _ _ => rfl
  refine callG_c (by simp) (by simp) ?ha (p1) ?_
  (case ha => simp (disch := first | omega | (simp; done) | fail) [wrap64c, if_pos, if_neg, ntv, csv, gr2', hp2])
  try simp (disch := first | omega | (simp; done) | fail) [wrap64c, if_pos, if_neg, ntv, csv, gr2', hp2]
  have hs : Same (fun x => h0.next ≤ x) h1 (h1.put h.next (.cells [a, b] true true 1)) := ⟨Nat.le_refl _, fun x hx _ => by simp [show x ≠ h.next by omega]⟩
  exact done_ret (vs := [.agg #[a, b]]) (by simp [resL]) ⟨d1.add.put (Nat.le_refl _) (fun _ => rfl), L, A, ⟨a, b, rfl, (fa.same hs).sub (fun x hx => by omega), (fb.same hs).sub (fun x hx => by omega)⟩, sm1⟩
theorem drawSpaceOfRuns_ok (h : Hp) (v : Value) (bs : List Int) (hb : BytesF h.next h v bs) : ∃ u h', CallOK Try.prog 33 #[v] h u h' ∧ Adds h h' ∧ ∃ L A, Chips h' u L A ∧ (L.length ≤ 5 ∧ (∀ x ∈ L, x.length ≤ 4) ∧ A.length ≤ 4) := by
  have ntv := hb.bytes.nt
  refine callY_L (args := [v]) 5 _ [.cell 2 27] Try.func33 rfl rfl rfl ?_
  try simp (disch := first | omega | (simp; done) | fail) [wrap64c, if_pos, if_neg, ntv]
  first | refine WY_heap fun h0 q_h0 => ?_ | refine callG_heap fun h0 q_h0 => ?_ | refine callP_heap fun h0 q_h0 => ?_ | refine callS_heap fun h0 q_h0 => ?_ | refine RY_heap fun h0 q_h0 => ?_ | refine PY_heap fun h0 q_h0 => ?_ | refine SY_heap fun h0 q_h0 => ?_ | refine doneY_heap fun h0 q_h0 => ?_ | refine loopK_heap fun h0 q_h0 => ?_ | refine thenY_heap fun h0 q_h0 => ?_ | refine thenM_heap fun h0 q_h0 => ?_
  have k0 : Adds h h0 := by rw [q_h0]; exact (by first | exact aK | exact kK)
  have n0 : h0.next = h.next + 1 := by simp [q_h0]
  have gr0 : h0.get h.next = .cells [.slice none 0 0, .slice none 0 0] true true 1 := by simp [q_h0]
  obtain ⟨u, h1, p1, a1, L, A, hC, sm⟩ := drawAreChips_ok h0 v bs (bytes_old (hb.bytes.keep k0.1))
  obtain ⟨a, b, rfl, fa, fb⟩ := hC
  have gr1 : h1.get h.next = .cells [.slice none 0 0, .slice none 0 0] true true 1 := by rw [a1.1.2 _ (by omega)]; exact gr0
  have hp2 : ∀ a b c d : Value, putCells [a, b] 0 [c, d] = [c, d] := fun _ _ _ _ => rfl
  refine callG_c (by simp) (by simp) ?ha (p1) ?_
  (case ha => simp (disch := first | omega | (simp; done) | fail) [wrap64c, if_pos, if_neg, ntv, gr1, hp2])
  try simp (disch := first | omega | (simp; done) | fail) [wrap64c, if_pos, if_neg, ntv, gr1, hp2]
  have hs : Same (fun x => h0.next < x) h1 (h1.put h.next (.cells [a, b] true true 1)) := ⟨Nat.le_refl _, fun x hx _ => by simp [show x ≠ h.next by omega]⟩
  exact done_ret (vs := [.agg #[a, b]]) (by simp [resL]) ⟨(k0.trans a1).put (Nat.le_refl _) (fun _ => rfl), L, A, ⟨a, b, rfl, (fa.same hs).rows, (fb.same hs).ints⟩, sm⟩
end Go.Proofs.Ytnnjehonbolliaa
namespace Go.Proofs.Ytnnjehonbolliaa
set_option linter.unusedSimpArgs false
set_option linter.unusedVariables false
set_option maxHeartbeats 4000000
open Go Go.Eng
attribute [local irreducible] WD RunD PreD Runs CallOK
def Space (h : Hp) (v : Value) (N : Int) (X : List Int) : Prop := ∃ b, v = .agg #[.int .i64 N, b] ∧ Ints h b X
theorem Space.keep {h h' : Hp} (hk : Keeps h h') {v : Value} {N : Int} {X : List Int} (hv : Space h v N X) : Space h' v N X := by
  obtain ⟨b, e, h1⟩ := hv
  exact ⟨b, e, h1.keep hk⟩
def SpaceO (S : Nat → Prop) (h : Hp) (v : Value) (N : Int) (X : List Int) : Prop := ∃ b, v = .agg #[.int .i64 N, b] ∧ IntsO S h b X
theorem SpaceO.space {S : Nat → Prop} {h : Hp} {v : Value} {N : Int} {X : List Int} (hv : SpaceO S h v N X) : Space h v N X := by
  obtain ⟨b, e, h1⟩ := hv
  exact ⟨b, e, h1.ints⟩
theorem SpaceO.nil (S : Nat → Prop) (h : Hp) : SpaceO S h (.agg #[.int .i64 0, .slice none 0 0]) 0 [] := ⟨_, rfl, .nil _ _⟩
end Go.Proofs.Ytnnjehonbolliaa
namespace Go.Proofs.Ytnnjehonbolliaa
set_option linter.unusedSimpArgs false
set_option linter.unusedVariables false
set_option maxHeartbeats 4000000
open Go Go.Eng
def nAnd (a b : Nat) : Nat := a &&& b
def nOr (a b : Nat) : Nat := a ||| b
def nXor (a b : Nat) : Nat := a ^^^ b
def nShr (a i : Nat) : Nat := a >>> i
def bit (i : Nat) : Nat := 2 ^ i
theorem nOr_bit (a b i : Nat) : (nOr a b).testBit i = (a.testBit i || b.testBit i) := Nat.testBit_or a b i
theorem nXor_bit (a b i : Nat) : (nXor a b).testBit i = (a.testBit i ^^ b.testBit i) := Nat.testBit_xor a b i
theorem bit_bit (j i : Nat) : (bit j).testBit i = decide (j = i) := Nat.testBit_two_pow
theorem ndiff_bit (a b i : Nat) : (ndiff a b).testBit i = (a.testBit i && !b.testBit i) := by
  unfold ndiff
  rw [Nat.testBit_xor, Nat.testBit_and]
  cases a.testBit i <;> cases b.testBit i <;> rfl
theorem ndiff_one {a i : Nat} (h : a.testBit i = true) : ndiff a (bit i) = nXor a (bit i) := by
  apply Nat.eq_of_testBit_eq
  intro j
  rw [ndiff_bit, nXor_bit, bit_bit]
  by_cases e : i = j
  · subst e; simp [h]
  · simp [e]
theorem nShr_le (a i : Nat) : nShr a i ≤ a := by unfold nShr; rw [Nat.shiftRight_eq_div_pow]; exact Nat.div_le_self _ _
theorem bit_pos (i : Nat) : 1 ≤ bit i := Nat.two_pow_pos i
theorem bit_mono {i j : Nat} (h : i ≤ j) : bit i ≤ bit j := Nat.pow_le_pow_right (by omega) h
theorem bit7 {i : Nat} (h : i ≤ 7) : 1 ≤ bit i ∧ bit i ≤ 128 := ⟨bit_pos i, bit_mono h⟩
theorem bit_lt7 {i : Nat} (h : i < 7) : 1 ≤ bit i ∧ bit i ≤ 64 := ⟨bit_pos i, bit_mono (j := 6) (by omega)⟩
theorem bit20 {i : Nat} (h : i ≤ 20) : 1 ≤ bit i ∧ bit i ≤ 1048576 := ⟨bit_pos i, bit_mono (j := 20) h⟩
theorem nAnd_le' (a b : Nat) : nAnd a b ≤ b := Nat.and_le_right
theorem nOr_lt {a b n : Nat} (ha : a < bit n) (hb : b < bit n) : nOr a b < bit n := Nat.or_lt_two_pow ha hb
theorem ndiff_lt {a b n : Nat} (ha : a < bit n) : ndiff a b < bit n := by
  unfold ndiff
  exact Nat.xor_lt_two_pow ha (Nat.lt_of_le_of_lt Nat.and_le_left ha)
theorem nOr128 {a b : Nat} (ha : a < 128) (hb : b < 128) : nOr a b < 128 := nOr_lt (n := 7) ha hb
theorem ndiff128 {a b : Nat} (ha : a < 128) : ndiff a b < 128 := ndiff_lt (n := 7) ha
theorem hi_bit {a n i : Nat} (h : a < bit n) (hi : n ≤ i) : a.testBit i = false := Nat.testBit_lt_two_pow (Nat.lt_of_lt_of_le h (Nat.pow_le_pow_right (by omega) hi))
theorem bit_lt_bit {i n : Nat} (h : i < n) : bit i < bit n := Nat.pow_lt_pow_right (by omega) h
theorem full_bit (n i : Nat) : (bit n - 1).testBit i = decide (i < n) := Nat.testBit_two_pow_sub_one n i
theorem eq_bits {a b : Nat} (h : ∀ i, a.testBit i = b.testBit i) : a = b := Nat.eq_of_testBit_eq h
theorem eq_bits_n {a b n : Nat} (ha : a < bit n) (hb : b < bit n) (h : ∀ i, i < n → a.testBit i = b.testBit i) : a = b := by
  apply eq_bits
  intro i
  by_cases hi : i < n
  · exact h i hi
  · rw [hi_bit ha (by omega), hi_bit hb (by omega)]
theorem nShr_and (a i : Nat) : (nAnd (nShr a i) 1 = 1) = (a.testBit i = true) := by
  unfold nAnd nShr Nat.testBit
  rw [Nat.and_comm]
  rcases Nat.mod_two_eq_zero_or_one (a >>> i) with h | h <;> simp [Nat.one_and_eq_mod_two, h]
theorem nShr_and01 (a i : Nat) : nAnd (nShr a i) 1 = if a.testBit i = true then 1 else 0 := by
  have h := nShr_and a i
  have h2 : nAnd (nShr a i) 1 ≤ 1 := nAnd_le' _ _
  by_cases hb : a.testBit i = true
  · rw [if_pos hb]; exact h.mpr hb
  · rw [if_neg hb]
    have : ¬ nAnd (nShr a i) 1 = 1 := fun e => hb (h.mp e)
    omega
theorem nShr_mod (a i : Nat) : nShr a i % 2 = if a.testBit i = true then 1 else 0 := by
  unfold nShr Nat.testBit
  rw [Nat.and_comm]
  rcases Nat.mod_two_eq_zero_or_one (a >>> i) with h | h <;> simp [Nat.and_one_is_mod, h]
theorem opAnd (x y : Int) (hx : 0 ≤ x) (hx2 : x < 9223372036854775808) (hy : 0 ≤ y) (hy2 : y < 9223372036854775808) : bAnd .i64 x y = ((nAnd x.toNat y.toNat : Nat) : Int) := bAnd_nat x y hx hx2 hy hy2
theorem opOr (x y : Int) (hx : 0 ≤ x) (hx2 : x < 9223372036854775808) (hy : 0 ≤ y) (hy2 : y < 9223372036854775808) : bOr .i64 x y = ((nOr x.toNat y.toNat : Nat) : Int) := bOr_nat x y hx hx2 hy hy2
theorem opXor (x y : Int) (hx : 0 ≤ x) (hx2 : x < 9223372036854775808) (hy : 0 ≤ y) (hy2 : y < 9223372036854775808) : bXor .i64 x y = ((nXor x.toNat y.toNat : Nat) : Int) := bXor_nat x y hx hx2 hy hy2
theorem opDiff (x y : Int) (hx : 0 ≤ x) (hx2 : x < 9223372036854775808) (hy : 0 ≤ y) (hy2 : y < 9223372036854775808) : bAndNot .i64 x y = ((ndiff x.toNat y.toNat : Nat) : Int) := bAndNot_nat x y hx hx2 hy hy2
theorem opShr (x y : Int) (hx : 0 ≤ x) (hy : 0 ≤ y) (hy2 : y < 64) : bShr .i64 x y = ((nShr x.toNat y.toNat : Nat) : Int) := bShr_nat x y hx hy hy2
theorem opBit (y : Int) (hy : 0 ≤ y) (hy2 : y < 40) : bShl .i64 1 y = ((bit y.toNat : Nat) : Int) := by
  rw [bShl_nat 1 y (by omega) (by omega) hy hy2]
  unfold bit
  rw [Nat.shiftLeft_eq]
  simp
def maskN (p : Nat → Bool) : Nat → Nat
  | 0 => 0
  | k + 1 => if p k then nOr (maskN p k) (bit k) else maskN p k
theorem maskN_lt (p : Nat → Bool) : ∀ k, maskN p k < bit k
  | 0 => by simp [maskN, bit]
  | k + 1 => by
    have h1 := maskN_lt p k
    have h2 : bit k < bit (k + 1) := bit_lt_bit (Nat.lt_succ_self k)
    unfold maskN
    split
    · exact nOr_lt (by omega) h2
    · omega
theorem maskN_bit (p : Nat → Bool) : ∀ k i, (maskN p k).testBit i = (decide (i < k) && p i)
  | 0, i => by simp [maskN]
  | k + 1, i => by
    unfold maskN
    by_cases hp : p k = true
    · rw [if_pos hp, nOr_bit, maskN_bit p k i, bit_bit]
      by_cases e : k = i
      · subst e; simp [hp]
      · by_cases h : i < k
        · simp [h, e, show i < k + 1 by omega]
        · simp [h, e, show ¬ i < k + 1 by omega]
    · rw [if_neg hp, maskN_bit p k i]
      by_cases e : k = i
      · subst e; simp [hp]
      · by_cases h : i < k
        · simp [h, show i < k + 1 by omega]
        · simp [h, show ¬ i < k + 1 by omega]
def maskL (p : Nat → Bool) : List Nat → Nat → Nat
  | [], o => o
  | i :: l, o => maskL p l (if p i then nOr o (bit i) else o)
theorem maskL_bit (p : Nat → Bool) : ∀ (l : List Nat) (o i : Nat), (maskL p l o).testBit i = (o.testBit i || (decide (i ∈ l) && p i))
  | [], o, i => by simp [maskL]
  | j :: l, o, i => by
    rw [maskL, maskL_bit p l]
    by_cases e : i = j
    · subst e
      cases hp : p i <;> simp [nOr_bit, bit_bit]
    · cases hp : p j <;> simp [nOr_bit, bit_bit, e, Ne.symm e]
theorem maskL_snoc (p : Nat → Bool) : ∀ (l : List Nat) (j o : Nat), maskL p (l ++ [j]) o = if p j then nOr (maskL p l o) (bit j) else maskL p l o
  | [], j, o => by simp [maskL]
  | i :: l, j, o => by simp only [List.cons_append, maskL, maskL_snoc p l]
def itemsN (a : Nat) : List Nat := (List.range 7).filter fun i => a.testBit i
theorem mem_items {a i : Nat} : i ∈ itemsN a ↔ i < 7 ∧ a.testBit i = true := by simp [itemsN]
def innerN (M : Nat → Bool) (a : Nat) : Nat := maskN (fun i => a.testBit i && M (nXor a (bit i))) 7
def outerN (M : Nat → Bool) (n a : Nat) : Nat := maskN (fun i => !a.testBit i && M (nOr a (bit i))) n
theorem innerN_items (M : Nat → Bool) (a : Nat) : maskL (fun i => M (ndiff a (bit i))) (itemsN a) 0 = innerN M a := by
  apply eq_bits
  intro i
  rw [maskL_bit, innerN, maskN_bit, Nat.zero_testBit, Bool.false_or]
  by_cases hi : i < 7
  · by_cases hb : a.testBit i = true
    · rw [ndiff_one hb]; simp [mem_items, hi, hb]
    · simp [mem_items, hi, hb]
  · simp [mem_items, hi]
def toN (xs : List Nat) : List Int := xs.map fun (n : Nat) => (n : Int)
@[simp] theorem toN_length (xs : List Nat) : (toN xs).length = xs.length := by simp [toN]
theorem toN_get (xs : List Nat) (i : Nat) (h : i < (toN xs).length) : (toN xs)[i] = ((xs[i]'(by simpa using h) : Nat) : Int) := by simp [toN]
theorem mem_toN' {x : Int} {xs : List Nat} (h : x ∈ toN xs) : ∃ a : Nat, x = a ∧ a ∈ xs := by
  simp only [toN, List.mem_map] at h
  obtain ⟨b, hb, e⟩ := h
  exact ⟨b, e.symm, hb⟩
theorem toN_inj {xs ys : List Nat} : toN xs = toN ys ↔ xs = ys := by
  constructor
  · intro h
    unfold toN at h
    exact List.map_inj_right (fun a b e => by omega) |>.1 h
  · intro h; rw [h]
theorem toN_srt {xs : List Nat} : (toN xs).Pairwise (· < ·) ↔ xs.Pairwise (· < ·) := by
  simp [toN, List.pairwise_map]
theorem toN_of {X : List Int} (h : ∀ x ∈ X, 0 ≤ x) : X = toN (X.map Int.toNat) := by
  unfold toN
  rw [List.map_map]
  conv => lhs; rw [← List.map_id X]
  apply List.map_congr_left
  intro x hx
  have := h x hx
  simp; omega
theorem toN_append (xs ys : List Nat) : toN (xs ++ ys) = toN xs ++ toN ys := by simp [toN]
theorem toN_snoc (xs : List Nat) (y : Nat) : toN (xs ++ [y]) = toN xs ++ [(y : Int)] := by simp [toN]
theorem srt_len {xs : List Nat} {lo m : Nat} (hs : xs.Pairwise (· < ·)) (hl : ∀ x ∈ xs, lo ≤ x ∧ x < m) : xs.length ≤ m - lo := by
  induction xs generalizing lo with
  | nil => simp
  | cons a l ih =>
    have ha := hl a (by simp)
    have h1 := ih (lo := a + 1) (List.pairwise_cons.1 hs).2 (fun x hx => ⟨(List.pairwise_cons.1 hs).1 x hx, (hl x (by simp [hx])).2⟩)
    simp only [List.length_cons]
    omega
def fam (xs : List Nat) (a : Nat) : Bool := decide (a ∈ xs)
structure SpGood (n : Nat) (xs : List Nat) : Prop where
  n1 : 1 ≤ n
  n7 : n ≤ 7
  srt : xs.Pairwise (· < ·)
  lt : ∀ x ∈ xs, x < bit n
  zero : 0 ∈ xs
  full : bit n - 1 ∈ xs
  inn : ∀ x ∈ xs, x ≠ 0 → innerN (fam xs) x ≠ 0
  uni : ∀ x ∈ xs, ∀ y ∈ xs, nOr x y ∈ xs
theorem SpGood.len {n : Nat} {xs : List Nat} (g : SpGood n xs) : xs.length ≤ bit n := by
  have := srt_len (lo := 0) g.srt (fun x hx => ⟨Nat.zero_le _, g.lt x hx⟩)
  omega
theorem SpGood.len7 {n : Nat} {xs : List Nat} (g : SpGood n xs) : xs.length ≤ 128 := by
  have h1 := g.len
  have h2 := bit7 g.n7
  omega
theorem SpGood.lt7 {n : Nat} {xs : List Nat} (g : SpGood n xs) : ∀ x ∈ xs, x < 128 := fun x hx => by
  have h1 := g.lt x hx
  have h2 := bit7 g.n7
  omega
def SpOK (N : Int) (X : List Int) : Prop := ∃ n xs, N = (n : Nat) ∧ X = toN xs ∧ SpGood n xs
open Classical in
noncomputable def spB (N : Int) (X : List Int) : Bool := decide (SpOK N X)
theorem spB_true {N : Int} {X : List Int} (h : spB N X = true) : ∃ n xs, N = (n : Nat) ∧ X = toN xs ∧ SpGood n xs := by
  unfold spB at h
  exact (@decide_eq_true_iff _ (Classical.propDecidable _)).1 h
theorem spB_of {n : Nat} {xs : List Nat} (g : SpGood n xs) : spB n (toN xs) = true := by
  unfold spB
  exact (@decide_eq_true_iff _ (Classical.propDecidable _)).2 ⟨n, xs, rfl, rfl, g⟩
theorem spB_false {N : Int} {X : List Int} (h : ∀ n xs, N = (n : Nat) → X = toN xs → SpGood n xs → False) : spB N X = false := by
  unfold spB
  exact (@decide_eq_false_iff_not _ (Classical.propDecidable _)).2 (fun ⟨n, xs, a, b, c⟩ => h n xs a b c)
def Rising (X : List Int) (lo hi : Int) : Prop := X.Pairwise (· < ·) ∧ ∀ x ∈ X, lo ≤ x ∧ x ≤ hi
open Classical in
noncomputable def risB (X : List Int) (lo hi : Int) : Bool := decide (Rising X lo hi)
theorem SpGood.rising {n : Nat} {xs : List Nat} (g : SpGood n xs) : Rising (toN xs) 0 ((bit n : Nat) - 1 : Int) := by
  refine ⟨toN_srt.2 g.srt, fun x hx => ?_⟩
  obtain ⟨a, rfl, ha⟩ := mem_toN' hx
  have h1 := g.lt a ha
  omega
theorem Rising.nats {X : List Int} {n : Nat} (h : Rising X 0 ((bit n : Nat) - 1 : Int)) : ∃ xs : List Nat, X = toN xs ∧ xs.Pairwise (· < ·) ∧ (∀ x ∈ xs, x < bit n) ∧ xs.length ≤ bit n := by
  have e := toN_of (X := X) (fun x hx => (h.2 x hx).1)
  have h1 : (X.map Int.toNat).Pairwise (· < ·) := by
    rw [← toN_srt, ← e]; exact h.1
  have h2 : ∀ x ∈ X.map Int.toNat, x < bit n := by
    intro x hx
    obtain ⟨y, hy, rfl⟩ := List.mem_map.1 hx
    have := h.2 y hy
    have := bit_pos n
    omega
  refine ⟨X.map Int.toNat, e, h1, h2, ?_⟩
  have := srt_len (lo := 0) h1 (fun x hx => ⟨Nat.zero_le _, h2 x hx⟩)
  omega
end Go.Proofs.Ytnnjehonbolliaa
namespace Go.Proofs.Ytnnjehonbolliaa
set_option linter.unusedSimpArgs false
set_option linter.unusedVariables false
set_option maxHeartbeats 4000000
open Go Go.Eng
attribute [local irreducible] WD RunD PreD Runs CallOK
def sizeB (N : Int) : Bool := decide (1 ≤ N ∧ N ≤ 7)
def setB (n : Nat) (a : Int) : Bool := decide (0 ≤ a ∧ a < (bit n : Nat))
theorem sizeB_true {N : Int} (h : sizeB N = true) : ∃ n : Nat, N = n ∧ 1 ≤ n ∧ n ≤ 7 := by
  unfold sizeB at h
  have := of_decide_eq_true h
  exact ⟨N.toNat, by omega, by omega, by omega⟩
theorem sizeB_of {n : Nat} (h1 : 1 ≤ n) (h7 : n ≤ 7) : sizeB n = true := by unfold sizeB; exact decide_eq_true (by omega)
theorem setB_iff {n : Nat} {a : Int} : setB n a = true ↔ 0 ≤ a ∧ a < (bit n : Nat) := by unfold setB; exact decide_eq_true_iff
theorem spItems_ok (h : Hp) (N : Int) : CallOK Try.prog 80 #[.int .i64 N] h (.bool (sizeB N)) h := by
  refine callY_P 5 _ [.tmp 2] Try.func80 rfl rfl rfl (by first | rfl | simp) ?_
  try simp (disch := first | omega | (simp; done) | fail) [wrap64c, if_pos, if_neg, opAnd, opOr, opXor, opDiff, opShr, opBit]
  refine callG_c (by simp) (by simp) ?ha (l1In_ok h N 1 7) ?_
  (case ha => simp (disch := first | omega | (simp; done) | fail) [wrap64c, if_pos, if_neg, opAnd, opOr, opXor, opDiff, opShr, opBit])
  try simp (disch := first | omega | (simp; done) | fail) [wrap64c, if_pos, if_neg, opAnd, opOr, opXor, opDiff, opShr, opBit]
  exact done_ret rfl (by simp [sizeB])
theorem isSize_ok (h : Hp) (N : Int) : CallOK Try.prog 76 #[.int .i64 N] h (.bool (sizeB N)) h := by
  refine callY_P 5 _ [.tmp 2] Try.func76 rfl rfl rfl (by first | rfl | simp) ?_
  try simp (disch := first | omega | (simp; done) | fail) [wrap64c, if_pos, if_neg, opAnd, opOr, opXor, opDiff, opShr, opBit]
  refine callG_c (by simp) (by simp) ?ha (within_ok h N 1 7) ?_
  (case ha => simp (disch := first | omega | (simp; done) | fail) [wrap64c, if_pos, if_neg, opAnd, opOr, opXor, opDiff, opShr, opBit])
  try simp (disch := first | omega | (simp; done) | fail) [wrap64c, if_pos, if_neg, opAnd, opOr, opXor, opDiff, opShr, opBit]
  exact done_ret rfl (by simp [sizeB])
theorem isSet_ok (h : Hp) (n : Nat) (a : Int) (hn : n ≤ 20) : CallOK Try.prog 91 #[.int .i64 (n : Int), .int .i64 a] h (.bool (setB n a)) h := by
  refine callY_P 10 _ [.tmp 4] Try.func91 rfl rfl rfl (by first | rfl | simp) ?_
  have hb := bit20 hn
  try simp (disch := first | omega | (simp; done) | fail) [wrap64c, if_pos, if_neg, opAnd, opOr, opXor, opDiff, opShr, opBit]
  refine callG_c (by simp) (by simp) ?ha (within_ok h a 0 ((bit n : Nat) - 1)) ?_
  (case ha => simp (disch := first | omega | (simp; done) | fail) [wrap64c, if_pos, if_neg, opAnd, opOr, opXor, opDiff, opShr, opBit])
  try simp (disch := first | omega | (simp; done) | fail) [wrap64c, if_pos, if_neg, opAnd, opOr, opXor, opDiff, opShr, opBit]
  have e : (a ≤ (bit n : Nat) - 1) ↔ (a < (bit n : Nat)) := by omega
  exact done_ret rfl (by simp [e, setB])
theorem shrMod (a i : Nat) : Int.tmod ((nShr a i : Nat) : Int) 2 = if a.testBit i = true then 1 else 0 := by
  rw [Int.tmod_eq_emod_of_nonneg (by omega)]
  have := nShr_mod a i
  split
  · rename_i hb; rw [if_pos hb] at this; omega
  · rename_i hb; rw [if_neg hb] at this; omega
theorem ris_at {X : List Int} {lo hi : Int} : Rising X lo hi ↔ ∀ i (h : i < X.length), (lo ≤ X[i] ∧ X[i] ≤ hi) ∧ (0 < i → X[i - 1] < X[i]) := by
  constructor
  · intro h i hi
    refine ⟨h.2 _ (List.getElem_mem hi), fun h0 => (List.pairwise_iff_getElem.1 h.1) (i - 1) i (by omega) hi (by omega)⟩
  · intro h
    have key : ∀ d i (h1 : i < X.length) (h2 : i + d + 1 < X.length), X[i] < X[i + d + 1] := by
      intro d
      induction d with
      | zero => intro i h1 h2; exact (h (i + 1) h2).2 (by omega)
      | succ d ih =>
        intro i h1 h2
        have h3 := ih i h1 (by omega)
        have h4 := (h (i + (d + 1) + 1) h2).2 (by omega)
        simp only [Nat.add_sub_cancel] at h4
        have h5 : X[i + d + 1] = X[i + (d + 1)] := rfl
        omega
    refine ⟨List.pairwise_iff_getElem.2 fun i j h1 h2 hij => ?_, fun x hx => ?_⟩
    · have := key (j - i - 1) i h1 (by omega)
      simpa [show i + (j - i - 1) + 1 = j by omega] using this
    · obtain ⟨i, hi, rfl⟩ := List.getElem_of_mem hx
      exact (h i hi).1
end Go.Proofs.Ytnnjehonbolliaa
namespace Go.Proofs.Ytnnjehonbolliaa
set_option linter.unusedSimpArgs false
set_option linter.unusedVariables false
set_option maxHeartbeats 4000000
open Go Go.Eng
attribute [local irreducible] WD RunD PreD Runs CallOK
def famC (M : Nat → Bool) : List Value := (List.range 128).map fun i => .bool (M i)
@[simp] theorem famC_length (M : Nat → Bool) : (famC M).length = 128 := by simp [famC]
theorem famC_at (M : Nat → Bool) (i : Nat) (h : i < (famC M).length) : (famC M)[i] = .bool (M i) := by simp [famC]
theorem famC_getD (M : Nat → Bool) (i : Nat) (h : i < 128) : (famC M)[i]?.getD undef = .bool (M i) := by
  rw [List.getElem?_eq_getElem (by simpa using h), famC_at]; rfl
theorem famC_zero : zlist 128 (Value.bool false) = famC (fam []) := by
  apply List.ext_getElem (by simp)
  intro i h1 h2
  rw [famC_at]
  have e : (zlist 128 (Value.bool false))[i] = .bool false := List.getElem_replicate _
  exact e.trans (by simp [fam])
theorem famC_ext {M N : Nat → Bool} (h : ∀ i, i < 128 → M i = N i) : famC M = famC N := by
  apply List.ext_getElem (by simp)
  intro i h1 h2
  rw [famC_at, famC_at, h i (by simpa using h1)]
theorem famC_set (xs : List Nat) (a : Nat) (ha : a < 128) : (famC (fam xs)).set a (.bool true) = famC (fam (xs ++ [a])) := by
  apply List.ext_getElem (by simp)
  intro i h1 h2
  rw [List.getElem_set, famC_at]
  by_cases e : a = i
  · subst e; rw [famC_at]; simp [fam]
  · rw [if_neg e, famC_at]; simp [fam, Ne.symm e]
theorem family_ok (h : Hp) (v : Value) (N : Int) (xs : List Nat) (hv : Space h v N (toN xs)) (hx : ∀ x ∈ xs, x < 128) (hl : xs.length < 2 ^ 40) :
    ∃ v' h', CallOK Try.prog 86 #[v] h v' h' ∧ ∃ o, v' = .pointer (some ⟨o, 0, none⟩) ∧ Adds h h' ∧ h.next ≤ o ∧ o < h'.next ∧ h'.get o = .cells (famC (fam xs)) true true 1 := by
  refine callY_L (args := [v]) 21 _ [.tmp 2] Try.func86 rfl rfl rfl ?_
  obtain ⟨b, rfl, hX⟩ := hv
  have hL := hX.lenD
  have hgt := toN_get xs
  have hln := toN_length xs
  try simp (disch := first | omega | (simp; done) | fail) [wrap64c, if_pos, if_neg, opAnd, opOr, opXor, opDiff, opShr, opBit, hL, hgt]
  refine WD_loopC [3, 9, 10] (fun m tm h' => ∃ j, m = xs.length - j ∧ tm 11 = .int .i64 (j : Int) ∧ (j ≤ xs.length) ∧ (Adds h h') ∧ (h'.next = h.next + 2) ∧ (h'.get (h.next + 1) = .cells (famC (fam (xs.take j))) true true 1)) _ ⟨0, rfl, (by simp (disch := first | omega | (simp; done) | fail) [wrap64c, if_pos, if_neg, opAnd, opOr, opXor, opDiff, opShr, opBit, hL, hgt]), (by first | omega | assumption | (simp (disch := first | omega | (simp; done) | fail) [wrap64c, if_pos, if_neg, opAnd, opOr, opXor, opDiff, opShr, opBit, hL, hgt] <;> omega)), (by first | exact aK | exact kK), (by simp), (by simp [← famC_zero])⟩ ?_
  rintro m tm h' hFr ⟨j, rfl, e11, hj, ha, hn, hg⟩
  simp only [FrameL] at hFr
  obtain ⟨f3_0, f9_0, f10_0, -⟩ := hFr
  try simp (disch := first | omega | (simp; done) | fail) [wrap64c, if_pos, if_neg, opAnd, opOr, opXor, opDiff, opShr, opBit, hL, hgt] at f3_0 f9_0 f10_0
  have e3 := f3_0
  have e9 := f9_0
  have e10 := f10_0
  by_cases hlt : j < xs.length
  · obtain ⟨o_x, i_x, c_x, cs_x, own_x, ex_x, es_x, q_x, b_x, g_x, l_x, r_x⟩ := (hX.keep ha.1).open ((by simp; omega))
    have z_x : ∀ h2 : i_x < cs_x.length, cs_x[i_x] = _ := fun h2 => r_x 0 ((by simp; omega)) h2
    have hx1 := hx _ (List.getElem_mem hlt)
    try simp (disch := first | omega | (simp; done) | fail) [wrap64c, if_pos, if_neg, opAnd, opOr, opXor, opDiff, opShr, opBit, hL, hgt, e3, e9, e10, e11, hg, hlt, q_x, g_x, l_x, r_x, z_x]
    refine loopK_next _ ?hm ?hf ⟨j + 1, rfl, (by simp (disch := first | omega | (simp; done) | fail) [wrap64c, if_pos, if_neg, opAnd, opOr, opXor, opDiff, opShr, opBit, hL, hgt, e3, e9, e10, e11, hg, hlt, q_x, g_x, l_x, r_x, z_x] <;> omega), (by first | omega | assumption | (simp (disch := first | omega | (simp; done) | fail) [wrap64c, if_pos, if_neg, opAnd, opOr, opXor, opDiff, opShr, opBit, hL, hgt, e3, e9, e10, e11, hg, hlt, q_x, g_x, l_x, r_x, z_x] <;> omega)), (by first | exact aK | exact kK), (by simpa using hn), (by rw [List.take_succ_eq_append_getElem hlt, ← famC_set _ _ hx1]; simp [putCells_one, hx1])⟩
    (case hm => first | omega | (simp; omega))
    (case hf => simp [FrameL, hL, hgt, e3, e9, e10, e11, hg, hlt, q_x, g_x, l_x, r_x, z_x, f3_0, f9_0, f10_0])
  · try simp (disch := first | omega | (simp; done) | fail) [wrap64c, if_pos, if_neg, opAnd, opOr, opXor, opDiff, opShr, opBit, hL, hgt, e3, e9, e10, e11, hg, hlt]
    refine done_ret rfl ⟨_, rfl, ha, by omega, by omega, ?_⟩
    rw [hg, List.take_of_length_le (by omega)]
theorem all_ok (h : Hp) (v : Value) (n : Nat) (X : List Int) (hv : Space h v n X) (hn : n ≤ 20) : CallOK Try.prog 87 #[v] h (.int .i64 ((bit n - 1 : Nat) : Int)) h := by
  refine callY_P 7 _ [.tmp 2] Try.func87 rfl rfl rfl (by first | rfl | simp) ?_
  obtain ⟨b, rfl, hX⟩ := hv
  have hb := bit20 hn
  try simp (disch := first | omega | (simp; done) | fail) [wrap64c, if_pos, if_neg, opAnd, opOr, opXor, opDiff, opShr, opBit]
  exact done_ret rfl ⟨by simp; omega, by simp⟩
def itemsK (a k : Nat) : List Nat := (List.range k).filter fun i => a.testBit i
theorem itemsK_succ (a k : Nat) : itemsK a (k + 1) = if a.testBit k = true then itemsK a k ++ [k] else itemsK a k := by
  unfold itemsK
  rw [List.range_succ, List.filter_append]
  by_cases h : a.testBit k = true <;> simp [h]
theorem itemsK_len (a k : Nat) : (itemsK a k).length ≤ k := by
  unfold itemsK
  have := List.length_filter_le (fun i => a.testBit i) (List.range k)
  simpa using this
theorem items_len (a : Nat) : (itemsN a).length ≤ 7 := itemsK_len a 7
theorem items_lt {a i : Nat} (h : i ∈ itemsN a) : i < 7 := (mem_items.1 h).1
theorem items_ok (h : Hp) (a : Nat) (ha : a < 9223372036854775808) :
    ∃ v' h', CallOK Try.prog 89 #[.int .i64 (a : Int)] h v' h' ∧ Adds h h' ∧ IntsO (Btw h.next h'.next) h' v' (toN (itemsN a)) ∧ IntsA h.next h' v' (toN (itemsN a)) := by
  refine callY_L (args := [.int .i64 (a : Int)]) 20 _ [.tmp 2] Try.func89 rfl rfl rfl ?_
  try simp (disch := first | omega | (simp; done) | fail) [wrap64c, if_pos, if_neg, opAnd, opOr, opXor, opDiff, opShr, opBit]
  refine WD_loopC [0] (fun m tm h' => ∃ i u, m = 7 - i ∧ tm 3 = u ∧ tm 6 = .int .i64 (i : Int) ∧ (i ≤ 7) ∧ (Adds h h') ∧ (IntsA h.next h' u (toN (itemsK a i)))) _ ⟨0, _, rfl, (by simp (disch := first | omega | (simp; done) | fail) [wrap64c, if_pos, if_neg, opAnd, opOr, opXor, opDiff, opShr, opBit]), (by simp (disch := first | omega | (simp; done) | fail) [wrap64c, if_pos, if_neg, opAnd, opOr, opXor, opDiff, opShr, opBit]), (by first | omega | assumption | (simp (disch := first | omega | (simp; done) | fail) [wrap64c, if_pos, if_neg, opAnd, opOr, opXor, opDiff, opShr, opBit] <;> omega)), (by first | exact aK | exact kK), (.lit (ex := true) (Nat.le_refl _) (by simp) (by simp [itemsK, toN]))⟩ ?_
  rintro m tm h' hFr ⟨i, u, rfl, e3, e6, hi, ha, hu⟩
  simp only [FrameL] at hFr
  obtain ⟨f0_0, -⟩ := hFr
  try simp (disch := first | omega | (simp; done) | fail) [wrap64c, if_pos, if_neg, opAnd, opOr, opXor, opDiff, opShr, opBit] at f0_0
  have e0 := f0_0
  by_cases hlt : i < 7
  · have h1 := nShr_le a i
    have h2 := nShr_and01 a i
    have hs := itemsK_succ a i
    cases hb : a.testBit i
    · have h3 : nAnd (nShr a i) 1 = 0 := by rw [h2, hb]; rfl
      rw [hb] at hs
      try simp (disch := first | omega | (simp; done) | fail) [wrap64c, if_pos, if_neg, opAnd, opOr, opXor, opDiff, opShr, opBit, e0, e3, e6, hlt, h3]
      refine loopK_next _ ?hm ?hf ⟨i + 1, u, rfl, (by simp (disch := first | omega | (simp; done) | fail) [wrap64c, if_pos, if_neg, opAnd, opOr, opXor, opDiff, opShr, opBit, e0, e3, e6, hlt, h3] <;> omega), (by simp (disch := first | omega | (simp; done) | fail) [wrap64c, if_pos, if_neg, opAnd, opOr, opXor, opDiff, opShr, opBit, e0, e3, e6, hlt, h3] <;> omega), (by first | omega | assumption | (simp (disch := first | omega | (simp; done) | fail) [wrap64c, if_pos, if_neg, opAnd, opOr, opXor, opDiff, opShr, opBit, e0, e3, e6, hlt, h3] <;> omega)), (by first | omega | assumption | (simp (disch := first | omega | (simp; done) | fail) [wrap64c, if_pos, if_neg, opAnd, opOr, opXor, opDiff, opShr, opBit, e0, e3, e6, hlt, h3] <;> omega)), (by rw [hs]; exact hu)⟩
      (case hm => first | omega | (simp; omega))
      (case hf => simp [FrameL, e0, e3, e6, hlt, h3, f0_0])
    · have h3 : nAnd (nShr a i) 1 = 1 := by rw [h2, hb]; rfl
      rw [hb] at hs
      try simp (disch := first | omega | (simp; done) | fail) [wrap64c, if_pos, if_neg, opAnd, opOr, opXor, opDiff, opShr, opBit, e0, e3, e6, hlt, h3]
      have hle := itemsK_len a i
      obtain ⟨u2, h2, hap, hu2, ha2, hn2, hs2⟩ := appI hu (i : Int) (by simp; omega) ha.1.1 ha (Nat.le_refl _)
      try simp (disch := first | omega | (simp; done) | fail) [wrap64c, if_pos, if_neg, opAnd, opOr, opXor, opDiff, opShr, opBit, e0, e3, e6, hlt, h3, hap]
      refine loopK_next _ ?hm ?hf ⟨i + 1, u2, rfl, (by simp (disch := first | omega | (simp; done) | fail) [wrap64c, if_pos, if_neg, opAnd, opOr, opXor, opDiff, opShr, opBit, e0, e3, e6, hlt, h3] <;> omega), (by simp (disch := first | omega | (simp; done) | fail) [wrap64c, if_pos, if_neg, opAnd, opOr, opXor, opDiff, opShr, opBit, e0, e3, e6, hlt, h3] <;> omega), (by first | omega | assumption | (simp (disch := first | omega | (simp; done) | fail) [wrap64c, if_pos, if_neg, opAnd, opOr, opXor, opDiff, opShr, opBit, e0, e3, e6, hlt, h3] <;> omega)), (by first | omega | assumption | (simp (disch := first | omega | (simp; done) | fail) [wrap64c, if_pos, if_neg, opAnd, opOr, opXor, opDiff, opShr, opBit, e0, e3, e6, hlt, h3] <;> omega)), (by rw [hs, if_pos rfl, toN_snoc]; exact hu2)⟩
      (case hm => first | omega | (simp; omega))
      (case hf => simp [FrameL, e0, e3, e6, hlt, h3, f0_0])
  · try simp (disch := first | omega | (simp; done) | fail) [wrap64c, if_pos, if_neg, opAnd, opOr, opXor, opDiff, opShr, opBit, e0, e3, e6, hlt]
    have e : i = 7 := by omega
    subst e
    have hle := itemsK_len a 7
    exact done_ret rfl ⟨ha, hu.own (by simp; omega), hu⟩
theorem imInner_ok (h : Hp) (o : Nat) (M : Nat → Bool) (own ex : Bool) (es a : Nat) (ho : o < h.next) (hg : h.get o = .cells (famC M) own ex es) (ha : a < 128) :
    CallOK Try.prog 92 #[.pointer (some ⟨o, 0, none⟩), .int .i64 (a : Int)] h (.int .i64 ((innerN M a : Nat) : Int)) h := by
  refine callY_P 29 _ [.tmp 4] Try.func92 rfl rfl rfl (by first | rfl | simp) ?_
  try simp (disch := first | omega | (simp; done) | fail) [wrap64c, if_pos, if_neg, opAnd, opOr, opXor, opDiff, opShr, opBit]
  obtain ⟨u, h1, hc1, ha1, hi1, _⟩ := items_ok h a (by omega)
  refine callG_c (by simp) (by simp) ?ha (hc1) ?_
  (case ha => simp (disch := first | omega | (simp; done) | fail) [wrap64c, if_pos, if_neg, opAnd, opOr, opXor, opDiff, opShr, opBit])
  have hL := hi1.ints.lenD
  have hgt := toN_get (itemsN a)
  have hln := toN_length (itemsN a)
  have hg1 : h1.get o = .cells (famC M) own ex es := by rw [ha1.1.2 o ho, hg]
  have hf := famC_getD M
  try simp (disch := first | omega | (simp; done) | fail) [wrap64c, if_pos, if_neg, opAnd, opOr, opXor, opDiff, opShr, opBit, hL, hgt, hg1, hf]
  refine WD_loopC [0, 1, 9, 10] (fun m tm h' => ∃ j, m = (itemsN a).length - j ∧ h1 = h' ∧ tm 5 = .int .i64 ((maskL (fun i => M (ndiff a (bit i))) ((itemsN a).take j) 0 : Nat) : Int) ∧ tm 11 = .int .i64 (j : Int) ∧ (j ≤ (itemsN a).length) ∧ (maskL (fun i => M (ndiff a (bit i))) ((itemsN a).take j) 0 < 128)) _ ⟨0, rfl, rfl, (by simp [maskL]), (by simp (disch := first | omega | (simp; done) | fail) [wrap64c, if_pos, if_neg, opAnd, opOr, opXor, opDiff, opShr, opBit, hL, hgt, hg1, hf]), (by first | omega | assumption | (simp (disch := first | omega | (simp; done) | fail) [wrap64c, if_pos, if_neg, opAnd, opOr, opXor, opDiff, opShr, opBit, hL, hgt, hg1, hf] <;> omega)), (by simp [maskL])⟩ ?_
  rintro m tm h' hFr ⟨j, rfl, rfl, e5, e11, hj, hm⟩
  simp only [FrameL] at hFr
  obtain ⟨f0_0, f1_0, f9_0, f10_0, -⟩ := hFr
  try simp (disch := first | omega | (simp; done) | fail) [wrap64c, if_pos, if_neg, opAnd, opOr, opXor, opDiff, opShr, opBit, hL, hgt, hg1, hf] at f0_0 f1_0 f9_0 f10_0
  have e0 := f0_0
  have e1 := f1_0
  have e9 := f9_0
  have e10 := f10_0
  by_cases hlt : j < (itemsN a).length
  · obtain ⟨o_x, i_x, c_x, cs_x, own_x, ex_x, es_x, q_x, b_x, g_x, l_x, r_x⟩ := hi1.ints.open ((by simp; omega))
    have z_x : ∀ h2 : i_x < cs_x.length, cs_x[i_x] = _ := fun h2 => r_x 0 ((by simp; omega)) h2
    have hi7 := items_lt (List.getElem_mem hlt)
    have hl7 := items_len a
    have hb := bit_lt7 hi7
    have hd := ndiff128 (a := a) (b := bit (itemsN a)[j]) ha
    have hq := nOr128 (b := bit (itemsN a)[j]) hm (by omega)
    have hs : maskL (fun i => M (ndiff a (bit i))) ((itemsN a).take (j + 1)) 0 = if M (ndiff a (bit (itemsN a)[j])) = true then nOr (maskL (fun i => M (ndiff a (bit i))) ((itemsN a).take j) 0) (bit (itemsN a)[j]) else maskL (fun i => M (ndiff a (bit i))) ((itemsN a).take j) 0 := by rw [List.take_succ_eq_append_getElem hlt]; exact maskL_snoc _ _ _ _
    try simp (disch := first | omega | (simp; done) | fail) [wrap64c, if_pos, if_neg, opAnd, opOr, opXor, opDiff, opShr, opBit, hL, hgt, hg1, hf, e0, e1, e5, e9, e10, e11, hlt, q_x, g_x, l_x, r_x, z_x]
    refine WD_drawC 6 rfl (by kernel_rfl) ?_
    try simp (disch := first | omega | (simp; done) | fail) [wrap64c, if_pos, if_neg, opAnd, opOr, opXor, opDiff, opShr, opBit, hL, hgt, hg1, hf, e0, e1, e5, e9, e10, e11, hlt, q_x, g_x, l_x, r_x, z_x]
    cases hc : M (ndiff a (bit (itemsN a)[j]))
    · rw [hc] at hs
      try simp (disch := first | omega | (simp; done) | fail) [wrap64c, if_pos, if_neg, opAnd, opOr, opXor, opDiff, opShr, opBit, hL, hgt, hg1, hf, e0, e1, e5, e9, e10, e11, hlt, q_x, g_x, l_x, r_x, z_x, hc]
      refine loopK_next _ ?hm ?hf ⟨j + 1, rfl, rfl, (by simp [hs, e5]), (by simp (disch := first | omega | (simp; done) | fail) [wrap64c, if_pos, if_neg, opAnd, opOr, opXor, opDiff, opShr, opBit, hL, hgt, hg1, hf, e0, e1, e5, e9, e10, e11, hlt, q_x, g_x, l_x, r_x, z_x, hc] <;> omega), (by first | omega | assumption | (simp (disch := first | omega | (simp; done) | fail) [wrap64c, if_pos, if_neg, opAnd, opOr, opXor, opDiff, opShr, opBit, hL, hgt, hg1, hf, e0, e1, e5, e9, e10, e11, hlt, q_x, g_x, l_x, r_x, z_x, hc] <;> omega)), (by simpa [hs] using hm)⟩
      (case hm => first | omega | (simp; omega))
      (case hf => simp [FrameL, hL, hgt, hg1, hf, e0, e1, e5, e9, e10, e11, hlt, q_x, g_x, l_x, r_x, z_x, hc, f0_0, f1_0, f9_0, f10_0])
    · rw [hc] at hs
      try simp (disch := first | omega | (simp; done) | fail) [wrap64c, if_pos, if_neg, opAnd, opOr, opXor, opDiff, opShr, opBit, hL, hgt, hg1, hf, e0, e1, e5, e9, e10, e11, hlt, q_x, g_x, l_x, r_x, z_x, hc]
      refine loopK_next _ ?hm ?hf ⟨j + 1, rfl, rfl, (by simp [hs, e5]), (by simp (disch := first | omega | (simp; done) | fail) [wrap64c, if_pos, if_neg, opAnd, opOr, opXor, opDiff, opShr, opBit, hL, hgt, hg1, hf, e0, e1, e5, e9, e10, e11, hlt, q_x, g_x, l_x, r_x, z_x, hc] <;> omega), (by first | omega | assumption | (simp (disch := first | omega | (simp; done) | fail) [wrap64c, if_pos, if_neg, opAnd, opOr, opXor, opDiff, opShr, opBit, hL, hgt, hg1, hf, e0, e1, e5, e9, e10, e11, hlt, q_x, g_x, l_x, r_x, z_x, hc] <;> omega)), (by simpa [hs] using hq)⟩
      (case hm => first | omega | (simp; omega))
      (case hf => simp [FrameL, hL, hgt, hg1, hf, e0, e1, e5, e9, e10, e11, hlt, q_x, g_x, l_x, r_x, z_x, hc, f0_0, f1_0, f9_0, f10_0])
  · try simp (disch := first | omega | (simp; done) | fail) [wrap64c, if_pos, if_neg, opAnd, opOr, opXor, opDiff, opShr, opBit, hL, hgt, hg1, hf, e0, e1, e5, e9, e10, e11, hlt]
    exact done_ret rfl (by simp [← innerN_items, List.take_of_length_le (show (itemsN a).length ≤ j by omega), ha1.1])
theorem imOuter_ok (h : Hp) (o : Nat) (M : Nat → Bool) (own ex : Bool) (es a : Nat) (ho : o < h.next) (hg : h.get o = .cells (famC M) own ex es) (ha : a < 128) :
    CallOK Try.prog 90 #[.pointer (some ⟨o, 0, none⟩), .int .i64 (a : Int)] h (.int .i64 ((outerN M 7 a : Nat) : Int)) h := by
  refine callY_P 31 _ [.tmp 4] Try.func90 rfl rfl rfl (by first | rfl | simp) ?_
  have hg1 := hg
  have hf := famC_getD M
  try simp (disch := first | omega | (simp; done) | fail) [wrap64c, if_pos, if_neg, opAnd, opOr, opXor, opDiff, opShr, opBit, hg1, hf]
  refine WD_loopC [0, 1] (fun m tm h' => ∃ i, m = 7 - i ∧ h = h' ∧ tm 5 = .int .i64 ((maskN (fun i => !a.testBit i && M (nOr a (bit i))) i : Nat) : Int) ∧ tm 7 = .int .i64 (i : Int) ∧ (i ≤ 7)) _ ⟨0, rfl, rfl, (by simp [maskN]), (by simp (disch := first | omega | (simp; done) | fail) [wrap64c, if_pos, if_neg, opAnd, opOr, opXor, opDiff, opShr, opBit, hg1, hf]), (by first | omega | assumption | (simp (disch := first | omega | (simp; done) | fail) [wrap64c, if_pos, if_neg, opAnd, opOr, opXor, opDiff, opShr, opBit, hg1, hf] <;> omega))⟩ ?_
  rintro m tm h' hFr ⟨i, rfl, rfl, e5, e7, hi⟩
  simp only [FrameL] at hFr
  obtain ⟨f0_0, f1_0, -⟩ := hFr
  try simp (disch := first | omega | (simp; done) | fail) [wrap64c, if_pos, if_neg, opAnd, opOr, opXor, opDiff, opShr, opBit, hg1, hf] at f0_0 f1_0
  have e0 := f0_0
  have e1 := f1_0
  by_cases hlt : i < 7
  · have hb := bit_lt7 hlt
    have hx := nOr128 (a := a) (b := bit i) ha (by omega)
    have hm := maskN_lt (fun i => !a.testBit i && M (nOr a (bit i))) i
    have h1 := nShr_le a i
    have h2 := nShr_and01 a i
    cases hb : a.testBit i
    · have h3 : nAnd (nShr a i) 1 = 0 := by rw [h2, hb]; rfl
      try simp (disch := first | omega | (simp; done) | fail) [wrap64c, if_pos, if_neg, opAnd, opOr, opXor, opDiff, opShr, opBit, hg1, hf, e0, e1, e5, e7, hlt, hb, h3]
      refine WD_drawC 12 rfl (by kernel_rfl) ?_
      try simp (disch := first | omega | (simp; done) | fail) [wrap64c, if_pos, if_neg, opAnd, opOr, opXor, opDiff, opShr, opBit, hg1, hf, e0, e1, e5, e7, hlt, hb, h3]
      cases hc : M (nOr a (bit i))
      · try simp (disch := first | omega | (simp; done) | fail) [wrap64c, if_pos, if_neg, opAnd, opOr, opXor, opDiff, opShr, opBit, hg1, hf, e0, e1, e5, e7, hlt, hb, h3, hc]
        refine loopK_next _ ?hm ?hf ⟨i + 1, rfl, rfl, (by simp [maskN, hb, hc, e5]), (by simp (disch := first | omega | (simp; done) | fail) [wrap64c, if_pos, if_neg, opAnd, opOr, opXor, opDiff, opShr, opBit, hg1, hf, e0, e1, e5, e7, hlt, hb, h3, hc] <;> omega), (by first | omega | assumption | (simp (disch := first | omega | (simp; done) | fail) [wrap64c, if_pos, if_neg, opAnd, opOr, opXor, opDiff, opShr, opBit, hg1, hf, e0, e1, e5, e7, hlt, hb, h3, hc] <;> omega))⟩
        (case hm => first | omega | (simp; omega))
        (case hf => simp [FrameL, hg1, hf, e0, e1, e5, e7, hlt, hb, h3, hc, f0_0, f1_0])
      · try simp (disch := first | omega | (simp; done) | fail) [wrap64c, if_pos, if_neg, opAnd, opOr, opXor, opDiff, opShr, opBit, hg1, hf, e0, e1, e5, e7, hlt, hb, h3, hc]
        refine loopK_next _ ?hm ?hf ⟨i + 1, rfl, rfl, (by simp [maskN, hb, hc, e5]), (by simp (disch := first | omega | (simp; done) | fail) [wrap64c, if_pos, if_neg, opAnd, opOr, opXor, opDiff, opShr, opBit, hg1, hf, e0, e1, e5, e7, hlt, hb, h3, hc] <;> omega), (by first | omega | assumption | (simp (disch := first | omega | (simp; done) | fail) [wrap64c, if_pos, if_neg, opAnd, opOr, opXor, opDiff, opShr, opBit, hg1, hf, e0, e1, e5, e7, hlt, hb, h3, hc] <;> omega))⟩
        (case hm => first | omega | (simp; omega))
        (case hf => simp [FrameL, hg1, hf, e0, e1, e5, e7, hlt, hb, h3, hc, f0_0, f1_0])
    · have h3 : nAnd (nShr a i) 1 = 1 := by rw [h2, hb]; rfl
      try simp (disch := first | omega | (simp; done) | fail) [wrap64c, if_pos, if_neg, opAnd, opOr, opXor, opDiff, opShr, opBit, hg1, hf, e0, e1, e5, e7, hlt, hb, h3]
      refine WD_drawC 12 rfl (by kernel_rfl) ?_
      try simp (disch := first | omega | (simp; done) | fail) [wrap64c, if_pos, if_neg, opAnd, opOr, opXor, opDiff, opShr, opBit, hg1, hf, e0, e1, e5, e7, hlt, hb, h3]
      refine loopK_next _ ?hm ?hf ⟨i + 1, rfl, rfl, (by simp [maskN, hb, e5]), (by simp (disch := first | omega | (simp; done) | fail) [wrap64c, if_pos, if_neg, opAnd, opOr, opXor, opDiff, opShr, opBit, hg1, hf, e0, e1, e5, e7, hlt, hb, h3] <;> omega), (by first | omega | assumption | (simp (disch := first | omega | (simp; done) | fail) [wrap64c, if_pos, if_neg, opAnd, opOr, opXor, opDiff, opShr, opBit, hg1, hf, e0, e1, e5, e7, hlt, hb, h3] <;> omega))⟩
      (case hm => first | omega | (simp; omega))
      (case hf => simp [FrameL, hg1, hf, e0, e1, e5, e7, hlt, hb, h3, f0_0, f1_0])
  · try simp (disch := first | omega | (simp; done) | fail) [wrap64c, if_pos, if_neg, opAnd, opOr, opXor, opDiff, opShr, opBit, hg1, hf, e0, e1, e5, e7, hlt]
    exact done_ret rfl (by simp [outerN, show i = 7 by omega])
theorem spB_mk {n : Nat} {xs : List Nat} (h1 : 1 ≤ n) (h7 : n ≤ 7) (hs : xs.Pairwise (· < ·)) (hlt : ∀ x ∈ xs, x < bit n) (c4 : fam xs 0 = true) (c5 : fam xs (bit n - 1) = true)
    (hx : ∀ i (h : i < xs.length), (xs[i] ≠ 0 → innerN (fam xs) xs[i] ≠ 0) ∧ ∀ k (h : k < xs.length), fam xs (nOr xs[i] xs[k]) = true) : spB n (toN xs) = true := by
  refine spB_of ⟨h1, h7, hs, hlt, of_decide_eq_true c4, of_decide_eq_true c5, fun x hm => ?_, fun x hm y hn => ?_⟩
  · obtain ⟨i, hi, rfl⟩ := List.getElem_of_mem hm
    exact (hx i hi).1
  · obtain ⟨i, hi, rfl⟩ := List.getElem_of_mem hm
    obtain ⟨k, hk, rfl⟩ := List.getElem_of_mem hn
    exact of_decide_eq_true ((hx i hi).2 k hk)
theorem spB_no {n : Nat} {xs : List Nat} (h : SpGood n xs → False) : spB n (toN xs) = false := spB_false fun n' xs' e1 e2 g => by
  have e3 : n = n' := by omega
  have e4 := toN_inj.1 e2
  subst e3 e4
  exact h g
theorem spB_noX {n : Nat} {X : List Int} (h : Rising X 0 ((bit n : Nat) - 1 : Int) → False) : spB n X = false := spB_false fun n' xs' e1 e2 g => by
  have e3 : n = n' := by omega
  subst e3
  exact h (e2 ▸ g.rising)
end Go.Proofs.Ytnnjehonbolliaa
namespace Go.Proofs.Ytnnjehonbolliaa
set_option linter.unusedSimpArgs false
set_option linter.unusedVariables false
set_option maxHeartbeats 4000000
open Go Go.Eng
attribute [local irreducible] WD RunD PreD Runs CallOK
theorem Space.mk {h : Hp} {b : Value} {N : Int} {X : List Int} (hX : Ints h b X) : Space h (.agg #[.int .i64 N, b]) N X := ⟨b, rfl, hX⟩
theorem isSpace_ok (h : Hp) (v : Value) (N : Int) (X : List Int) (hv : Space h v N X) (hl : X.length < 2 ^ 40) : CallOK Try.prog 41 #[v] h (.bool (spB N X)) h := by
  refine callY_P 99 _ [.tmp 2] Try.func41 rfl rfl rfl (by first | rfl | simp) ?_
  obtain ⟨b, rfl, hX⟩ := hv
  refine WD_first ?_
  try simp (disch := first | omega | (simp; done) | fail) [wrap64c, if_pos, if_neg, opAnd, opOr, opXor, opDiff, opShr, opBit]
  refine stopK_heap fun h0 q_h0 => ?_
  refine stopK_go ?_
  have g_h0 : h0.get h.next = .cells [.int .i64 N, b] true true 1 := by simp [q_h0]
  have k_h0 : Adds h h0 := by rw [q_h0]; exact (by first | exact aK | exact kK)
  have n_h0 : h.next < h0.next := by simp [q_h0]; try omega
  have hX0 := hX.keep k_h0.1
  have hL := hX0.lenD
  have K0 := k_h0.1
  try simp (disch := first | omega | (simp; done) | fail) [wrap64c, if_pos, if_neg, opAnd, opOr, opXor, opDiff, opShr, opBit, g_h0, hL]
  refine WD_drawC 11 rfl (by kernel_rfl) ?_
  try simp (disch := first | omega | (simp; done) | fail) [wrap64c, if_pos, if_neg, opAnd, opOr, opXor, opDiff, opShr, opBit, g_h0, hL]
  refine callP_c (by simp) (by simp) ?ha (isSize_ok h0 N) ?hadd ?_
  (case ha => simp (disch := first | omega | (simp; done) | fail) [wrap64c, if_pos, if_neg, opAnd, opOr, opXor, opDiff, opShr, opBit, g_h0, hL])
  (case hadd => first | assumption | exact adds_self _ | (simp; done))
  cases c1 : sizeB N
  · try simp (disch := first | omega | (simp; done) | fail) [wrap64c, if_pos, if_neg, opAnd, opOr, opXor, opDiff, opShr, opBit, g_h0, hL, c1]
    have : spB N X = false := spB_false (fun n xs e1 e2 g => by subst e1; rw [sizeB_of g.n1 g.n7] at c1; cases c1)
    exact done_ret rfl (by simp [this, K0])
  · obtain ⟨n, hN, n1, n7⟩ := sizeB_true c1
    have hb := bit7 n7
    by_cases c2 : (bit n : Int) < (X.length : Int)
    · try simp (disch := first | omega | (simp; done) | fail) [wrap64c, if_pos, if_neg, opAnd, opOr, opXor, opDiff, opShr, opBit, g_h0, hL, c1, hN, c2]
      have : spB N X = false := hN ▸ spB_noX (fun hr => by obtain ⟨xs, e, _, _, hle⟩ := hr.nats; rw [e, toN_length] at c2; omega)
      exact done_ret rfl (by simp [this, K0])
    · try simp (disch := first | omega | (simp; done) | fail) [wrap64c, if_pos, if_neg, opAnd, opOr, opXor, opDiff, opShr, opBit, g_h0, hL, c1, hN, c2]
      refine WD_loopC [1, 24, 25] (fun m tm h' => ∃ j, m = X.length - j ∧ h0 = h' ∧ tm 26 = .int .i64 (j : Int) ∧ (j ≤ X.length) ∧ (∀ i (h1 : i < X.length), i < j → (0 ≤ X[i] ∧ X[i] ≤ ((bit n : Nat) : Int) - 1) ∧ (0 < i → X[i - 1] < X[i]))) _ ⟨0, rfl, rfl, (by simp (disch := first | omega | (simp; done) | fail) [wrap64c, if_pos, if_neg, opAnd, opOr, opXor, opDiff, opShr, opBit, g_h0, hL, c1, hN, c2]), (by first | omega | assumption | (simp (disch := first | omega | (simp; done) | fail) [wrap64c, if_pos, if_neg, opAnd, opOr, opXor, opDiff, opShr, opBit, g_h0, hL, c1, hN, c2] <;> omega)), (by intro i h1 h0; omega)⟩ ?_
      rintro m tm h' hFr ⟨j, rfl, rfl, e26, hj, hx⟩
      simp only [FrameL] at hFr
      obtain ⟨f1_0, f24_0, f25_0, -⟩ := hFr
      try simp (disch := first | omega | (simp; done) | fail) [wrap64c, if_pos, if_neg, opAnd, opOr, opXor, opDiff, opShr, opBit, g_h0, hL, c1, hN, c2] at f1_0 f24_0 f25_0
      have e1 := f1_0
      have e24 := f24_0
      have e25 := f25_0
      by_cases hlt : j < X.length
      · obtain ⟨o_x, i_x, c_x, cs_x, own_x, ex_x, es_x, q_x, b_x, g_x, l_x, r_x⟩ := hX0.open ((by omega))
        have z_x : ∀ h2 : i_x < cs_x.length, cs_x[i_x] = _ := fun h2 => r_x 0 ((by omega)) h2
        try simp (disch := first | omega | (simp; done) | fail) [wrap64c, if_pos, if_neg, opAnd, opOr, opXor, opDiff, opShr, opBit, g_h0, hL, c1, hN, c2, e1, e24, e25, e26, hlt, q_x, g_x, l_x, r_x, z_x]
        refine callG_c (by simp) (by simp) ?ha (isSet_ok h0 n X[j] (by omega)) ?_
        (case ha => simp (disch := first | omega | (simp; done) | fail) [wrap64c, if_pos, if_neg, opAnd, opOr, opXor, opDiff, opShr, opBit, g_h0, hL, c1, hN, c2, e1, e24, e25, e26, hlt, q_x, g_x, l_x, r_x, z_x])
        cases c : setB n X[j]
        · try simp (disch := first | omega | (simp; done) | fail) [wrap64c, if_pos, if_neg, opAnd, opOr, opXor, opDiff, opShr, opBit, g_h0, hL, c1, hN, c2, e1, e24, e25, e26, hlt, q_x, g_x, l_x, r_x, z_x, c]
          have : spB N X = false := hN ▸ spB_noX (fun hr => by
            have h1 := (ris_at.1 hr j hlt).1
            have h2 : setB n X[j] = true := setB_iff.2 (by omega)
            rw [h2] at c; cases c)
          exact done_ret rfl (by simp [this, K0])
        · have hc := setB_iff.1 c
          by_cases hp : 0 < j
          · have hp' : ((j : Int) - 1) = ((j - 1 : Nat) : Int) := by omega
            by_cases hd : X[j - 1] < X[j]
            · have hd2 : ¬ X[j] ≤ X[j - 1] := by omega
              try simp (disch := first | omega | (simp; done) | fail) [wrap64c, if_pos, if_neg, opAnd, opOr, opXor, opDiff, opShr, opBit, g_h0, hL, c1, hN, c2, e1, e24, e25, e26, hlt, q_x, g_x, l_x, r_x, z_x, c, hp, hp', hd2]
              refine loopK_next _ ?hm ?hf ⟨j + 1, rfl, rfl, (by simp (disch := first | omega | (simp; done) | fail) [wrap64c, if_pos, if_neg, opAnd, opOr, opXor, opDiff, opShr, opBit, g_h0, hL, c1, hN, c2, e1, e24, e25, e26, hlt, q_x, g_x, l_x, r_x, z_x, c, hp, hp', hd2] <;> omega), (by first | omega | assumption | (simp (disch := first | omega | (simp; done) | fail) [wrap64c, if_pos, if_neg, opAnd, opOr, opXor, opDiff, opShr, opBit, g_h0, hL, c1, hN, c2, e1, e24, e25, e26, hlt, q_x, g_x, l_x, r_x, z_x, c, hp, hp', hd2] <;> omega)), ?c_hx⟩
              (case hm => first | omega | (simp; omega))
              (case hf => simp [FrameL, g_h0, hL, c1, hN, c2, e1, e24, e25, e26, hlt, q_x, g_x, l_x, r_x, z_x, c, hp, hp', hd2, f1_0, f24_0, f25_0])
              case c_hx =>
                exact (fun i h1 hi' => by
                  by_cases e : i = j
                  · subst e; exact ⟨by omega, fun _ => hd⟩
                  · exact hx i h1 (by omega))
            · have hd2 : X[j] ≤ X[j - 1] := by omega
              try simp (disch := first | omega | (simp; done) | fail) [wrap64c, if_pos, if_neg, opAnd, opOr, opXor, opDiff, opShr, opBit, g_h0, hL, c1, hN, c2, e1, e24, e25, e26, hlt, q_x, g_x, l_x, r_x, z_x, c, hp, hp', hd2]
              have : spB N X = false := hN ▸ spB_noX (fun hr => hd ((ris_at.1 hr j hlt).2 hp))
              exact done_ret rfl (by simp [this, K0])
          · try simp (disch := first | omega | (simp; done) | fail) [wrap64c, if_pos, if_neg, opAnd, opOr, opXor, opDiff, opShr, opBit, g_h0, hL, c1, hN, c2, e1, e24, e25, e26, hlt, q_x, g_x, l_x, r_x, z_x, c, hp]
            refine loopK_next _ ?hm ?hf ⟨j + 1, rfl, rfl, (by simp (disch := first | omega | (simp; done) | fail) [wrap64c, if_pos, if_neg, opAnd, opOr, opXor, opDiff, opShr, opBit, g_h0, hL, c1, hN, c2, e1, e24, e25, e26, hlt, q_x, g_x, l_x, r_x, z_x, c, hp] <;> omega), (by first | omega | assumption | (simp (disch := first | omega | (simp; done) | fail) [wrap64c, if_pos, if_neg, opAnd, opOr, opXor, opDiff, opShr, opBit, g_h0, hL, c1, hN, c2, e1, e24, e25, e26, hlt, q_x, g_x, l_x, r_x, z_x, c, hp] <;> omega)), ?c_hx⟩
            (case hm => first | omega | (simp; omega))
            (case hf => simp [FrameL, g_h0, hL, c1, hN, c2, e1, e24, e25, e26, hlt, q_x, g_x, l_x, r_x, z_x, c, hp, f1_0, f24_0, f25_0])
            case c_hx =>
              exact (fun i h1 hi' => by
                by_cases e : i = j
                · subst e; exact ⟨by omega, fun q => absurd q hp⟩
                · exact hx i h1 (by omega))
      · try simp (disch := first | omega | (simp; done) | fail) [wrap64c, if_pos, if_neg, opAnd, opOr, opXor, opDiff, opShr, opBit, g_h0, hL, c1, hN, c2, e1, e24, e25, e26, hlt]
        obtain ⟨xs, hXe, hs, hlt', hle⟩ := (ris_at.2 fun i h1 => hx i h1 (by omega) : Rising X 0 _).nats
        have hX1 : Ints h0 b (toN xs) := hXe ▸ hX0
        have hgt := toN_get xs
        have hln := toN_length xs
        have hXl : X.length = xs.length := by rw [hXe, toN_length]
        have h128 : ∀ x ∈ xs, x < 128 := fun x hx => by have := hlt' x hx; omega
        obtain ⟨_, h1, hc1, o1, rfl, ha1, ho1, ho2, hg1⟩ := family_ok h0 (.agg #[.int .i64 (n : Int), b]) n xs (.mk hX1) h128 (by omega)
        refine callG_c (by simp) (by simp) ?ha (hc1) ?_
        (case ha => simp (disch := first | omega | (simp; done) | fail) [wrap64c, if_pos, if_neg, opAnd, opOr, opXor, opDiff, opShr, opBit, g_h0, hL, c1, hN, c2, e1, e24, e25, e26, hlt, hgt, hXl, hg1])
        have g1 : h1.get h.next = .cells [.int .i64 N, b] true true 1 := by rw [ha1.1.2 _ (by omega)]; exact g_h0
        have hX2 := hX1.keep ha1.1
        have hL1 := hX2.lenD
        have hf := famC_getD (fam xs)
        have hf2 := famC_at (fam xs)
        have K1 := K0.trans ha1.1
        try simp (disch := first | omega | (simp; done) | fail) [wrap64c, if_pos, if_neg, opAnd, opOr, opXor, opDiff, opShr, opBit, g_h0, hL, c1, hN, c2, e1, e24, e25, e26, hlt, hgt, hXl, hg1, g1, hL1, hf, hf2]
        refine WD_drawC 14 rfl (by kernel_rfl) ?_
        try simp (disch := first | omega | (simp; done) | fail) [wrap64c, if_pos, if_neg, opAnd, opOr, opXor, opDiff, opShr, opBit, g_h0, hL, c1, hN, c2, e1, e24, e25, e26, hlt, hgt, hXl, hg1, g1, hL1, hf, hf2]
        cases c4 : fam xs 0
        · try simp (disch := first | omega | (simp; done) | fail) [wrap64c, if_pos, if_neg, opAnd, opOr, opXor, opDiff, opShr, opBit, g_h0, hL, c1, hN, c2, e1, e24, e25, e26, hlt, hgt, hXl, hg1, g1, hL1, hf, hf2, c4]
          have : spB N X = false := hN ▸ hXe ▸ spB_no fun g => by have := decide_eq_true g.zero; unfold fam at c4; rw [this] at c4; cases c4
          exact done_ret rfl (by simp [this, K1])
        · try simp (disch := first | omega | (simp; done) | fail) [wrap64c, if_pos, if_neg, opAnd, opOr, opXor, opDiff, opShr, opBit, g_h0, hL, c1, hN, c2, e1, e24, e25, e26, hlt, hgt, hXl, hg1, g1, hL1, hf, hf2, c4]
          refine callP_c (by simp) (by simp) ?ha (all_ok h1 (.agg #[.int .i64 (n : Int), b]) n _ (.mk hX2) (by omega)) ?hadd ?_
          (case ha => simp (disch := first | omega | (simp; done) | fail) [wrap64c, if_pos, if_neg, opAnd, opOr, opXor, opDiff, opShr, opBit, g_h0, hL, c1, hN, c2, e1, e24, e25, e26, hlt, hgt, hXl, hg1, g1, hL1, hf, hf2, c4])
          (case hadd => first | assumption | exact adds_self _ | (simp; done))
          have hbl : bit n - 1 < 128 := by omega
          cases c5 : fam xs (bit n - 1)
          · try simp (disch := first | omega | (simp; done) | fail) [wrap64c, if_pos, if_neg, opAnd, opOr, opXor, opDiff, opShr, opBit, g_h0, hL, c1, hN, c2, e1, e24, e25, e26, hlt, hgt, hXl, hg1, g1, hL1, hf, hf2, c4, c5]
            have : spB N X = false := hN ▸ hXe ▸ spB_no fun g => by have := decide_eq_true g.full; unfold fam at c5; rw [this] at c5; cases c5
            exact done_ret rfl (by simp [this, K1])
          · try simp (disch := first | omega | (simp; done) | fail) [wrap64c, if_pos, if_neg, opAnd, opOr, opXor, opDiff, opShr, opBit, g_h0, hL, c1, hN, c2, e1, e24, e25, e26, hlt, hgt, hXl, hg1, g1, hL1, hf, hf2, c4, c5]
            refine WD_loopC [1, 5, 68, 69] (fun m tm h' => ∃ j, m = xs.length - j ∧ h1 = h' ∧ tm 70 = .int .i64 (j : Int) ∧ (j ≤ xs.length) ∧ (∀ i (h1 : i < xs.length), i < j → (xs[i] ≠ 0 → innerN (fam xs) xs[i] ≠ 0) ∧ ∀ k (h : k < xs.length), fam xs (nOr xs[i] xs[k]) = true)) _ ⟨0, rfl, rfl, (by simp (disch := first | omega | (simp; done) | fail) [wrap64c, if_pos, if_neg, opAnd, opOr, opXor, opDiff, opShr, opBit, g_h0, hL, c1, hN, c2, e1, e24, e25, e26, hlt, hgt, hXl, hg1, g1, hL1, hf, hf2, c4, c5]), (by first | omega | assumption | (simp (disch := first | omega | (simp; done) | fail) [wrap64c, if_pos, if_neg, opAnd, opOr, opXor, opDiff, opShr, opBit, g_h0, hL, c1, hN, c2, e1, e24, e25, e26, hlt, hgt, hXl, hg1, g1, hL1, hf, hf2, c4, c5] <;> omega)), (by intro i h1 h0; omega)⟩ ?_
            rintro m tm h' hFr ⟨j, rfl, rfl, e70, hj, hx⟩
            simp only [FrameL] at hFr
            obtain ⟨f1_1, f5_1, f68_1, f69_1, -⟩ := hFr
            try simp (disch := first | omega | (simp; done) | fail) [wrap64c, if_pos, if_neg, opAnd, opOr, opXor, opDiff, opShr, opBit, g_h0, hL, c1, hN, c2, e1, e24, e25, e26, hlt, hgt, hXl, hg1, g1, hL1, hf, hf2, c4, c5] at f1_1 f5_1 f68_1 f69_1
            have e1 := f1_1
            have e5 := f5_1
            have e68 := f68_1
            have e69 := f69_1
            by_cases hlj : j < xs.length
            · obtain ⟨o_x, i_x, c_x, cs_x, own_x, ex_x, es_x, q_x, b_x, g_x, l_x, r_x⟩ := hX2.open ((by simp; omega))
              have z_x : ∀ h2 : i_x < cs_x.length, cs_x[i_x] = _ := fun h2 => r_x 0 ((by simp; omega)) h2
              have hxj := h128 _ (List.getElem_mem hlj)
              by_cases z : xs[j] = 0
              · have hne : xs[j] ≠ 0 → innerN (fam xs) xs[j] ≠ 0 := fun q => absurd z q
                have z1 : ((xs[j] : Int) != 0) = false := by simp [z]
                try simp (disch := first | omega | (simp; done) | fail) [wrap64c, if_pos, if_neg, opAnd, opOr, opXor, opDiff, opShr, opBit, g_h0, hL, c1, hN, c2, e1, e24, e25, e26, hlt, hgt, hXl, hg1, g1, hL1, hf, hf2, c4, c5, e5, e68, e69, e70, hlj, q_x, g_x, l_x, r_x, z_x, z1]
                refine WD_loopC [1, 5, 7, 68, 69, 70, 83, 84] (fun m tm h' => ∃ k, m = xs.length - k ∧ h1 = h' ∧ tm 85 = .int .i64 (k : Int) ∧ (k ≤ xs.length) ∧ (∀ i (h1 : i < xs.length), i < k → fam xs (nOr xs[j] xs[i]) = true)) _ ⟨0, rfl, rfl, (by simp (disch := first | omega | (simp; done) | fail) [wrap64c, if_pos, if_neg, opAnd, opOr, opXor, opDiff, opShr, opBit, g_h0, hL, c1, hN, c2, e1, e24, e25, e26, hlt, hgt, hXl, hg1, g1, hL1, hf, hf2, c4, c5, e5, e68, e69, e70, hlj, q_x, g_x, l_x, r_x, z_x, z1]), (by first | omega | assumption | (simp (disch := first | omega | (simp; done) | fail) [wrap64c, if_pos, if_neg, opAnd, opOr, opXor, opDiff, opShr, opBit, g_h0, hL, c1, hN, c2, e1, e24, e25, e26, hlt, hgt, hXl, hg1, g1, hL1, hf, hf2, c4, c5, e5, e68, e69, e70, hlj, q_x, g_x, l_x, r_x, z_x, z1] <;> omega)), (by intro i h1 h0; omega)⟩ ?_
                rintro m tm h' hFr ⟨k, rfl, rfl, e85, hk, hy⟩
                simp only [FrameL] at hFr
                obtain ⟨f1_2, f5_2, f7_2, f68_2, f69_2, f70_2, f83_2, f84_2, -⟩ := hFr
                try simp (disch := first | omega | (simp; done) | fail) [wrap64c, if_pos, if_neg, opAnd, opOr, opXor, opDiff, opShr, opBit, g_h0, hL, c1, hN, c2, e1, e24, e25, e26, hlt, hgt, hXl, hg1, g1, hL1, hf, hf2, c4, c5, e5, e68, e69, e70, hlj, q_x, g_x, l_x, r_x, z_x, z1] at f1_2 f5_2 f7_2 f68_2 f69_2 f70_2 f83_2 f84_2
                have e1 := f1_2
                have e5 := f5_2
                have e7 := f7_2
                have e68 := f68_2
                have e69 := f69_2
                have e70 := f70_2
                have e83 := f83_2
                have e84 := f84_2
                by_cases hlk : k < xs.length
                · obtain ⟨o_y, i_y, c_y, cs_y, own_y, ex_y, es_y, q_y, b_y, g_y, l_y, r_y⟩ := hX2.open ((by simp; omega))
                  have z_y : ∀ h2 : i_y < cs_y.length, cs_y[i_y] = _ := fun h2 => r_y 0 ((by simp; omega)) h2
                  have hxk := h128 _ (List.getElem_mem hlk)
                  have hor := nOr128 hxj hxk
                  cases c7 : fam xs (nOr xs[j] xs[k])
                  · try simp (disch := first | omega | (simp; done) | fail) [wrap64c, if_pos, if_neg, opAnd, opOr, opXor, opDiff, opShr, opBit, g_h0, hL, c1, hN, c2, e1, e24, e25, e26, hlt, hgt, hXl, hg1, g1, hL1, hf, hf2, c4, c5, e5, e68, e69, e70, hlj, q_x, g_x, l_x, r_x, z_x, z1, e7, e83, e84, e85, hlk, q_y, g_y, l_y, r_y, z_y, c7]
                    have : spB N X = false := hN ▸ hXe ▸ spB_no fun g => by
                      have := decide_eq_true (g.uni _ (List.getElem_mem hlj) _ (List.getElem_mem hlk)); unfold fam at c7; rw [this] at c7; cases c7
                    exact done_ret rfl (by simp [this, K1])
                  · try simp (disch := first | omega | (simp; done) | fail) [wrap64c, if_pos, if_neg, opAnd, opOr, opXor, opDiff, opShr, opBit, g_h0, hL, c1, hN, c2, e1, e24, e25, e26, hlt, hgt, hXl, hg1, g1, hL1, hf, hf2, c4, c5, e5, e68, e69, e70, hlj, q_x, g_x, l_x, r_x, z_x, z1, e7, e83, e84, e85, hlk, q_y, g_y, l_y, r_y, z_y, c7]
                    refine loopK_next _ ?hm ?hf ⟨k + 1, rfl, rfl, (by simp (disch := first | omega | (simp; done) | fail) [wrap64c, if_pos, if_neg, opAnd, opOr, opXor, opDiff, opShr, opBit, g_h0, hL, c1, hN, c2, e1, e24, e25, e26, hlt, hgt, hXl, hg1, g1, hL1, hf, hf2, c4, c5, e5, e68, e69, e70, hlj, q_x, g_x, l_x, r_x, z_x, z1, e7, e83, e84, e85, hlk, q_y, g_y, l_y, r_y, z_y, c7] <;> omega), (by first | omega | assumption | (simp (disch := first | omega | (simp; done) | fail) [wrap64c, if_pos, if_neg, opAnd, opOr, opXor, opDiff, opShr, opBit, g_h0, hL, c1, hN, c2, e1, e24, e25, e26, hlt, hgt, hXl, hg1, g1, hL1, hf, hf2, c4, c5, e5, e68, e69, e70, hlj, q_x, g_x, l_x, r_x, z_x, z1, e7, e83, e84, e85, hlk, q_y, g_y, l_y, r_y, z_y, c7] <;> omega)), ?c_hy⟩
                    (case hm => first | omega | (simp; omega))
                    (case hf => simp [FrameL, g_h0, hL, c1, hN, c2, e1, e24, e25, e26, hlt, hgt, hXl, hg1, g1, hL1, hf, hf2, c4, c5, e5, e68, e69, e70, hlj, q_x, g_x, l_x, r_x, z_x, z1, e7, e83, e84, e85, hlk, q_y, g_y, l_y, r_y, z_y, c7, f1_2, f5_2, f7_2, f68_2, f69_2, f70_2, f83_2, f84_2])
                    case c_hy =>
                      exact (fun i h1 hi => by
                        by_cases e : i = k
                        · subst e; exact c7
                        · exact hy i h1 (by omega))
                · try simp (disch := first | omega | (simp; done) | fail) [wrap64c, if_pos, if_neg, opAnd, opOr, opXor, opDiff, opShr, opBit, g_h0, hL, c1, hN, c2, e1, e24, e25, e26, hlt, hgt, hXl, hg1, g1, hL1, hf, hf2, c4, c5, e5, e68, e69, e70, hlj, q_x, g_x, l_x, r_x, z_x, z1, e7, e83, e84, e85, hlk]
                  refine loopK_next _ ?hm ?hf ⟨j + 1, rfl, rfl, (by simp (disch := first | omega | (simp; done) | fail) [wrap64c, if_pos, if_neg, opAnd, opOr, opXor, opDiff, opShr, opBit, g_h0, hL, c1, hN, c2, e1, e24, e25, e26, hlt, hgt, hXl, hg1, g1, hL1, hf, hf2, c4, c5, e5, e68, e69, e70, hlj, q_x, g_x, l_x, r_x, z_x, z1, e7, e83, e84, e85, hlk] <;> omega), (by first | omega | assumption | (simp (disch := first | omega | (simp; done) | fail) [wrap64c, if_pos, if_neg, opAnd, opOr, opXor, opDiff, opShr, opBit, g_h0, hL, c1, hN, c2, e1, e24, e25, e26, hlt, hgt, hXl, hg1, g1, hL1, hf, hf2, c4, c5, e5, e68, e69, e70, hlj, q_x, g_x, l_x, r_x, z_x, z1, e7, e83, e84, e85, hlk] <;> omega)), ?c_hx⟩
                  (case hm => first | omega | (simp; omega))
                  (case hf => simp [FrameL, g_h0, hL, c1, hN, c2, e1, e24, e25, e26, hlt, hgt, hXl, hg1, g1, hL1, hf, hf2, c4, c5, e5, e68, e69, e70, hlj, q_x, g_x, l_x, r_x, z_x, z1, e7, e83, e84, e85, hlk, f1_1, f5_1, f68_1, f69_1])
                  case c_hx =>
                    exact (fun i h1 hi => by
                      by_cases e : i = j
                      · subst e; exact ⟨hne, fun k hk' => hy k hk' (by omega)⟩
                      · exact hx i h1 (by omega))
              · have z1 : ((xs[j] : Int) != 0) = true := by simp [z]
                have hin := maskN_lt (fun i => xs[j].testBit i && fam xs (nXor xs[j] (bit i))) 7
                try simp (disch := first | omega | (simp; done) | fail) [wrap64c, if_pos, if_neg, opAnd, opOr, opXor, opDiff, opShr, opBit, g_h0, hL, c1, hN, c2, e1, e24, e25, e26, hlt, hgt, hXl, hg1, g1, hL1, hf, hf2, c4, c5, e5, e68, e69, e70, hlj, q_x, g_x, l_x, r_x, z_x, z1]
                refine callG_c (by simp) (by simp) ?ha (imInner_ok h1 o1 (fam xs) _ _ _ xs[j] ho2 hg1 (by omega)) ?_
                (case ha => simp (disch := first | omega | (simp; done) | fail) [wrap64c, if_pos, if_neg, opAnd, opOr, opXor, opDiff, opShr, opBit, g_h0, hL, c1, hN, c2, e1, e24, e25, e26, hlt, hgt, hXl, hg1, g1, hL1, hf, hf2, c4, c5, e5, e68, e69, e70, hlj, q_x, g_x, l_x, r_x, z_x, z1])
                by_cases c6 : innerN (fam xs) xs[j] = 0
                · try simp (disch := first | omega | (simp; done) | fail) [wrap64c, if_pos, if_neg, opAnd, opOr, opXor, opDiff, opShr, opBit, g_h0, hL, c1, hN, c2, e1, e24, e25, e26, hlt, hgt, hXl, hg1, g1, hL1, hf, hf2, c4, c5, e5, e68, e69, e70, hlj, q_x, g_x, l_x, r_x, z_x, z1, c6]
                  have : spB N X = false := hN ▸ hXe ▸ spB_no fun g => g.inn _ (List.getElem_mem hlj) z c6
                  exact done_ret rfl (by simp [this, K1])
                · have hne : xs[j] ≠ 0 → innerN (fam xs) xs[j] ≠ 0 := fun _ => c6
                  try simp (disch := first | omega | (simp; done) | fail) [wrap64c, if_pos, if_neg, opAnd, opOr, opXor, opDiff, opShr, opBit, g_h0, hL, c1, hN, c2, e1, e24, e25, e26, hlt, hgt, hXl, hg1, g1, hL1, hf, hf2, c4, c5, e5, e68, e69, e70, hlj, q_x, g_x, l_x, r_x, z_x, z1, c6]
                  refine WD_loopC [1, 5, 7, 68, 69, 70, 83, 84] (fun m tm h' => ∃ k, m = xs.length - k ∧ h1 = h' ∧ tm 85 = .int .i64 (k : Int) ∧ (k ≤ xs.length) ∧ (∀ i (h1 : i < xs.length), i < k → fam xs (nOr xs[j] xs[i]) = true)) _ ⟨0, rfl, rfl, (by simp (disch := first | omega | (simp; done) | fail) [wrap64c, if_pos, if_neg, opAnd, opOr, opXor, opDiff, opShr, opBit, g_h0, hL, c1, hN, c2, e1, e24, e25, e26, hlt, hgt, hXl, hg1, g1, hL1, hf, hf2, c4, c5, e5, e68, e69, e70, hlj, q_x, g_x, l_x, r_x, z_x, z1, c6]), (by first | omega | assumption | (simp (disch := first | omega | (simp; done) | fail) [wrap64c, if_pos, if_neg, opAnd, opOr, opXor, opDiff, opShr, opBit, g_h0, hL, c1, hN, c2, e1, e24, e25, e26, hlt, hgt, hXl, hg1, g1, hL1, hf, hf2, c4, c5, e5, e68, e69, e70, hlj, q_x, g_x, l_x, r_x, z_x, z1, c6] <;> omega)), (by intro i h1 h0; omega)⟩ ?_
                  rintro m tm h' hFr ⟨k, rfl, rfl, e85, hk, hy⟩
                  simp only [FrameL] at hFr
                  obtain ⟨f1_3, f5_3, f7_3, f68_3, f69_3, f70_3, f83_3, f84_3, -⟩ := hFr
                  try simp (disch := first | omega | (simp; done) | fail) [wrap64c, if_pos, if_neg, opAnd, opOr, opXor, opDiff, opShr, opBit, g_h0, hL, c1, hN, c2, e1, e24, e25, e26, hlt, hgt, hXl, hg1, g1, hL1, hf, hf2, c4, c5, e5, e68, e69, e70, hlj, q_x, g_x, l_x, r_x, z_x, z1, c6] at f1_3 f5_3 f7_3 f68_3 f69_3 f70_3 f83_3 f84_3
                  have e1 := f1_3
                  have e5 := f5_3
                  have e7 := f7_3
                  have e68 := f68_3
                  have e69 := f69_3
                  have e70 := f70_3
                  have e83 := f83_3
                  have e84 := f84_3
                  by_cases hlk : k < xs.length
                  · obtain ⟨o_y, i_y, c_y, cs_y, own_y, ex_y, es_y, q_y, b_y, g_y, l_y, r_y⟩ := hX2.open ((by simp; omega))
                    have z_y : ∀ h2 : i_y < cs_y.length, cs_y[i_y] = _ := fun h2 => r_y 0 ((by simp; omega)) h2
                    have hxk := h128 _ (List.getElem_mem hlk)
                    have hor := nOr128 hxj hxk
                    cases c7 : fam xs (nOr xs[j] xs[k])
                    · try simp (disch := first | omega | (simp; done) | fail) [wrap64c, if_pos, if_neg, opAnd, opOr, opXor, opDiff, opShr, opBit, g_h0, hL, c1, hN, c2, e1, e24, e25, e26, hlt, hgt, hXl, hg1, g1, hL1, hf, hf2, c4, c5, e5, e68, e69, e70, hlj, q_x, g_x, l_x, r_x, z_x, z1, c6, e7, e83, e84, e85, hlk, q_y, g_y, l_y, r_y, z_y, c7]
                      have : spB N X = false := hN ▸ hXe ▸ spB_no fun g => by
                        have := decide_eq_true (g.uni _ (List.getElem_mem hlj) _ (List.getElem_mem hlk)); unfold fam at c7; rw [this] at c7; cases c7
                      exact done_ret rfl (by simp [this, K1])
                    · try simp (disch := first | omega | (simp; done) | fail) [wrap64c, if_pos, if_neg, opAnd, opOr, opXor, opDiff, opShr, opBit, g_h0, hL, c1, hN, c2, e1, e24, e25, e26, hlt, hgt, hXl, hg1, g1, hL1, hf, hf2, c4, c5, e5, e68, e69, e70, hlj, q_x, g_x, l_x, r_x, z_x, z1, c6, e7, e83, e84, e85, hlk, q_y, g_y, l_y, r_y, z_y, c7]
                      refine loopK_next _ ?hm ?hf ⟨k + 1, rfl, rfl, (by simp (disch := first | omega | (simp; done) | fail) [wrap64c, if_pos, if_neg, opAnd, opOr, opXor, opDiff, opShr, opBit, g_h0, hL, c1, hN, c2, e1, e24, e25, e26, hlt, hgt, hXl, hg1, g1, hL1, hf, hf2, c4, c5, e5, e68, e69, e70, hlj, q_x, g_x, l_x, r_x, z_x, z1, c6, e7, e83, e84, e85, hlk, q_y, g_y, l_y, r_y, z_y, c7] <;> omega), (by first | omega | assumption | (simp (disch := first | omega | (simp; done) | fail) [wrap64c, if_pos, if_neg, opAnd, opOr, opXor, opDiff, opShr, opBit, g_h0, hL, c1, hN, c2, e1, e24, e25, e26, hlt, hgt, hXl, hg1, g1, hL1, hf, hf2, c4, c5, e5, e68, e69, e70, hlj, q_x, g_x, l_x, r_x, z_x, z1, c6, e7, e83, e84, e85, hlk, q_y, g_y, l_y, r_y, z_y, c7] <;> omega)), ?c_hy⟩
                      (case hm => first | omega | (simp; omega))
                      (case hf => simp [FrameL, g_h0, hL, c1, hN, c2, e1, e24, e25, e26, hlt, hgt, hXl, hg1, g1, hL1, hf, hf2, c4, c5, e5, e68, e69, e70, hlj, q_x, g_x, l_x, r_x, z_x, z1, c6, e7, e83, e84, e85, hlk, q_y, g_y, l_y, r_y, z_y, c7, f1_3, f5_3, f7_3, f68_3, f69_3, f70_3, f83_3, f84_3])
                      case c_hy =>
                        exact (fun i h1 hi => by
                          by_cases e : i = k
                          · subst e; exact c7
                          · exact hy i h1 (by omega))
                  · try simp (disch := first | omega | (simp; done) | fail) [wrap64c, if_pos, if_neg, opAnd, opOr, opXor, opDiff, opShr, opBit, g_h0, hL, c1, hN, c2, e1, e24, e25, e26, hlt, hgt, hXl, hg1, g1, hL1, hf, hf2, c4, c5, e5, e68, e69, e70, hlj, q_x, g_x, l_x, r_x, z_x, z1, c6, e7, e83, e84, e85, hlk]
                    refine loopK_next _ ?hm ?hf ⟨j + 1, rfl, rfl, (by simp (disch := first | omega | (simp; done) | fail) [wrap64c, if_pos, if_neg, opAnd, opOr, opXor, opDiff, opShr, opBit, g_h0, hL, c1, hN, c2, e1, e24, e25, e26, hlt, hgt, hXl, hg1, g1, hL1, hf, hf2, c4, c5, e5, e68, e69, e70, hlj, q_x, g_x, l_x, r_x, z_x, z1, c6, e7, e83, e84, e85, hlk] <;> omega), (by first | omega | assumption | (simp (disch := first | omega | (simp; done) | fail) [wrap64c, if_pos, if_neg, opAnd, opOr, opXor, opDiff, opShr, opBit, g_h0, hL, c1, hN, c2, e1, e24, e25, e26, hlt, hgt, hXl, hg1, g1, hL1, hf, hf2, c4, c5, e5, e68, e69, e70, hlj, q_x, g_x, l_x, r_x, z_x, z1, c6, e7, e83, e84, e85, hlk] <;> omega)), ?c_hx⟩
                    (case hm => first | omega | (simp; omega))
                    (case hf => simp [FrameL, g_h0, hL, c1, hN, c2, e1, e24, e25, e26, hlt, hgt, hXl, hg1, g1, hL1, hf, hf2, c4, c5, e5, e68, e69, e70, hlj, q_x, g_x, l_x, r_x, z_x, z1, c6, e7, e83, e84, e85, hlk, f1_1, f5_1, f68_1, f69_1])
                    case c_hx =>
                      exact (fun i h1 hi => by
                        by_cases e : i = j
                        · subst e; exact ⟨hne, fun k hk' => hy k hk' (by omega)⟩
                        · exact hx i h1 (by omega))
            · try simp (disch := first | omega | (simp; done) | fail) [wrap64c, if_pos, if_neg, opAnd, opOr, opXor, opDiff, opShr, opBit, g_h0, hL, c1, hN, c2, e1, e24, e25, e26, hlt, hgt, hXl, hg1, g1, hL1, hf, hf2, c4, c5, e5, e68, e69, e70, hlj]
              have : spB N X = true := hN ▸ hXe ▸ spB_mk n1 n7 hs hlt' c4 c5 fun i h1 => hx i h1 (by omega)
              exact done_ret rfl (by simp [this, K1])
noncomputable def setSB (N : Int) (X : List Int) (a : Int) : Bool := spB N X && decide (0 ≤ a ∧ a < ((2 ^ N.toNat : Nat) : Int))
noncomputable def oneB (N : Int) (X : List Int) (a : Int) : Bool := spB N X && decide (a ∈ X)
end Go.Proofs.Ytnnjehonbolliaa
namespace Go.Proofs.Ytnnjehonbolliaa
set_option linter.unusedSimpArgs false
set_option linter.unusedVariables false
set_option maxHeartbeats 4000000
open Go Go.Eng
attribute [local irreducible] WD RunD PreD Runs CallOK
theorem iSpace_ok (h : Hp) (v w : Value) (N M : Int) (X Y : List Int) (hv : Space h v N X) (hw : Space h w M Y) : CallOK Try.prog 38 #[v, w] h (.bool (decide (N = M) && decide (X = Y))) h := by
  refine callY_P 17 _ [.tmp 4] Try.func38 rfl rfl rfl (by first | rfl | simp) ?_
  obtain ⟨b, rfl, hX⟩ := hv
  obtain ⟨c, rfl, hY⟩ := hw
  refine WD_first ?_
  try simp (disch := first | omega | (simp; done) | fail) [wrap64c, if_pos, if_neg]
  refine stopK_heap fun h0 q_h0 => ?_
  refine stopK_go ?_
  have k0 : Adds h h0 := by rw [q_h0]; exact (by first | exact aK | exact kK)
  have g0 : h0.get h.next = .cells [.int .i64 N, b] true true 1 := by simp [q_h0]
  have g1 : h0.get (h.next + 1) = .cells [.int .i64 M, c] true true 1 := by simp [q_h0]
  try simp (disch := first | omega | (simp; done) | fail) [wrap64c, if_pos, if_neg, g0, g1]
  by_cases e : N = M
  · have e' : (N == M) = true := by simp [e]
    try simp (disch := first | omega | (simp; done) | fail) [wrap64c, if_pos, if_neg, g0, g1, e']
    refine callG_c (by simp) (by simp) ?ha (iSame_ok h0 _ _ _ _ (hX.keep k0.1) (hY.keep k0.1)) ?_
    (case ha => simp (disch := first | omega | (simp; done) | fail) [wrap64c, if_pos, if_neg, g0, g1, e'])
    try simp (disch := first | omega | (simp; done) | fail) [wrap64c, if_pos, if_neg, g0, g1, e']
    exact done_ret rfl (by simp [k0.1, e])
  · have e' : (N == M) = false := by simp [e]
    try simp (disch := first | omega | (simp; done) | fail) [wrap64c, if_pos, if_neg, g0, g1, e']
    exact done_ret rfl (by simp [k0.1, e])
end Go.Proofs.Ytnnjehonbolliaa
namespace Go.Proofs.Ytnnjehonbolliaa
set_option linter.unusedSimpArgs false
set_option linter.unusedVariables false
set_option maxHeartbeats 4000000
open Go Go.Eng
def sumN (f : Nat → Int) : Nat → Int
  | 0 => 0
  | n + 1 => sumN f n + f n
theorem sumN_mono {f g : Nat → Int} : ∀ {n : Nat}, (∀ x, x < n → f x ≤ g x) → sumN f n ≤ sumN g n
  | 0, _ => Int.le_refl _
  | n + 1, h => by
    have := sumN_mono (n := n) fun x hx => h x (by omega)
    have := h n (by omega)
    simp only [sumN]; omega
theorem sumN_congr {f g : Nat → Int} {n : Nat} (h : ∀ x, x < n → f x = g x) : sumN f n = sumN g n :=
  Int.le_antisymm (sumN_mono fun x hx => Int.le_of_eq (h x hx)) (sumN_mono fun x hx => Int.le_of_eq (h x hx).symm)
theorem sumN_zero : ∀ (n : Nat), sumN (fun _ => 0) n = 0
  | 0 => rfl
  | n + 1 => by simp [sumN, sumN_zero n]
theorem sumN_upd {f g : Nat → Int} {i : Nat} {c : Int} (hg : ∀ x, x ≠ i → g x = f x) (hi : g i = f i + c) : ∀ {n : Nat}, i < n → sumN g n = sumN f n + c
  | 0, h => by omega
  | n + 1, h => by
    by_cases e : i = n
    · subst e
      simp only [sumN, hi]
      rw [sumN_congr (f := g) (g := f) fun x hx => hg x (by omega)]; omega
    · have := sumN_upd (f := f) (g := g) (c := c) hg hi (n := n) (by omega)
      simp only [sumN, this, hg n (fun q => e q.symm)]; omega
inductive Due (L : List (List Int)) : List Int → List Int → List Int → List Int → Prop
  | refl (A l : List Int) : Due L A l A l
  | step {A l B k : List Int} {i : Nat} : Due L A l B k → i < B.length → canB L B i = true → (hk : i < k.length) → 0 < k[i] → Due L A l (moveA L B i) (k.set i (k[i] - 1))
def Stuck (L : List (List Int)) (B k : List Int) : Prop := ∀ i, i < B.length → canB L B i = true → k.getD i 0 ≤ 0
theorem Due.len {L : List (List Int)} {A l B k : List Int} (h : Due L A l B k) : B.length = A.length ∧ k.length = l.length := by
  induction h with
  | refl => exact ⟨rfl, rfl⟩
  | step _ _ _ _ _ ih => simpa using ih
theorem Due.le {L : List (List Int)} {A l B k : List Int} (h : Due L A l B k) : ∀ i, k.getD i 0 ≤ l.getD i 0 := by
  induction h with
  | refl => exact fun _ => Int.le_refl _
  | @step B k i _ hi hc hk h0 ih =>
    intro x
    have := ih x
    by_cases e : i = x
    · subst e
      have e1 : k.getD i 0 = k[i] := by simp [hk]
      have : (k.set i (k[i] - 1)).getD i 0 = k[i] - 1 := by simp [hk]
      omega
    · have : (k.set i (k[i] - 1)).getD x 0 = k.getD x 0 := by simp [List.getElem?_set_ne e]
      omega
theorem Due.nn {L : List (List Int)} {A l B k : List Int} (h : Due L A l B k) (hl : ∀ x ∈ l, 0 ≤ x) : ∀ x ∈ k, 0 ≤ x := by
  induction h with
  | refl => exact hl
  | @step B k i _ hi hc hk h0 ih =>
    intro x hx
    rcases List.mem_or_eq_of_mem_set hx with hx | rfl
    · exact ih x hx
    · omega
theorem Due.ok {L : List (List Int)} {A l B k : List Int} (h : Due L A l B k) (ho : Ok L A) : Ok L B := by
  induction h with
  | refl => exact ho
  | step _ hi hc _ _ ih => exact ih.move hi hc
theorem Due.at {L : List (List Int)} {A l B k : List Int} (h : Due L A l B k) (hs : Shape L A.length) (hn : l.length = A.length) : ∀ j, j < A.length →
    B.getD j 0 = A.getD j 0 - (l.getD j 0 - k.getD j 0) * deg L j + sumN (fun x => (l.getD x 0 - k.getD x 0) * el L x j) A.length := by
  induction h with
  | refl =>
    intro j hj
    have : sumN (fun x => (l.getD x 0 - l.getD x 0) * el L x j) A.length = 0 := by
      rw [sumN_congr (g := fun _ => 0) (fun x _ => by simp)]; exact sumN_zero _
    rw [this]; simp
  | @step B k i hd hi hc hk h0 ih =>
    intro j hj
    have hlen := hd.len
    have ih := ih j hj
    have hi' : i < L.length := by have := hs.len; omega
    have h1 := hs.at hi'
    have hjB : j < B.length := by omega
    have hiA : i < A.length := by omega
    have em : (moveA L B i).getD j 0 = B.getD j 0 + el L i j - if j = i then deg L i else 0 := by
      have hjm : j < (moveA L B i).length := by simpa using hjB
      rw [List.getD_eq_getElem?_getD, List.getElem?_eq_getElem hjm, Option.getD_some, moveA_get L B i j hjB hjm hi' (by omega), el_eq hi' (by omega)]
      simp [hjB]
    have ek : ∀ x, (k.set i (k[i] - 1)).getD x 0 = k.getD x 0 - if x = i then 1 else 0 := by
      intro x
      by_cases e : x = i
      · subst e; simp [hk]
      · simp [List.getElem?_set_ne (fun q => e q.symm), e]
    have eS : sumN (fun x => (l.getD x 0 - (k.set i (k[i] - 1)).getD x 0) * el L x j) A.length = sumN (fun x => (l.getD x 0 - k.getD x 0) * el L x j) A.length + el L i j := by
      refine sumN_upd (i := i) (fun x hx => ?_) ?_ hiA
      · simp only [ek x, if_neg hx]; simp
      · simp only [ek i, if_pos]
        have : (l.getD i 0 - (k.getD i 0 - 1)) * el L i j = (l.getD i 0 - k.getD i 0) * el L i j + el L i j := by
          rw [show l.getD i 0 - (k.getD i 0 - 1) = (l.getD i 0 - k.getD i 0) + 1 by omega, Int.add_mul, Int.one_mul]
        simpa using this
    rw [em, eS, ih, ek j]
    by_cases e : j = i
    · subst e
      simp only [if_pos]
      have : (l.getD j 0 - (k.getD j 0 - 1)) * deg L j = (l.getD j 0 - k.getD j 0) * deg L j + deg L j := by
        rw [show l.getD j 0 - (k.getD j 0 - 1) = (l.getD j 0 - k.getD j 0) + 1 by omega, Int.add_mul, Int.one_mul]
      rw [this]; omega
    · simp only [if_neg e]
      have : l.getD j 0 - (k.getD j 0 - 0) = l.getD j 0 - k.getD j 0 := by omega
      rw [this]; omega
theorem el_nn {L : List (List Int)} {n : Nat} (hs : Shape L n) {x j : Nat} (hx : x < n) (hj : j < n) : 0 ≤ el L x j := by
  have hx' : x < L.length := by have := hs.len; omega
  have h1 := hs.at hx'
  rw [el_eq hx' (by omega)]
  exact (h1.2 _ (List.getElem_mem _)).1
theorem due_le {L : List (List Int)} {A l B k B' k' : List Int} (h : Due L A l B k) (h' : Due L A l B' k') (hs : Shape L A.length) (hn : l.length = A.length) (hm : Stuck L B' k') : ∀ i, i < A.length → k'.getD i 0 ≤ k.getD i 0 := by
  induction h with
  | refl => exact fun i _ => h'.le i
  | @step B k i hd hi hc hk h0 ih =>
    have hlen := hd.len
    have hlen' := h'.len
    have hiA : i < A.length := by omega
    intro x hx
    by_cases e : i = x
    · subst e
      have e1 : k.getD i 0 = k[i] := by simp [hk]
      have e2 : (k.set i (k[i] - 1)).getD i 0 = k[i] - 1 := by simp [hk]
      rw [e2]
      rcases Int.lt_or_le (k'.getD i 0) k[i] with hlt | hge
      · omega
      · exfalso
        have heq : k'.getD i 0 = k.getD i 0 := by have := ih i hiA; omega
        have a1 := hd.at hs hn i hiA
        have a2 := h'.at hs hn i hiA
        have hS : sumN (fun x => (l.getD x 0 - k.getD x 0) * el L x i) A.length ≤ sumN (fun x => (l.getD x 0 - k'.getD x 0) * el L x i) A.length :=
          sumN_mono fun y hy => Int.mul_le_mul_of_nonneg_right (by have := ih y hy; omega) (el_nn hs hy hiA)
        rw [heq] at a2
        have hB : B.getD i 0 ≤ B'.getD i 0 := by omega
        have hcan : canB L B' i = true := by
          unfold canB at hc ⊢
          have := of_decide_eq_true hc
          exact decide_eq_true ⟨this.1, by omega⟩
        have := hm i (by omega) hcan
        omega
    · have : (k.set i (k[i] - 1)).getD x 0 = k.getD x 0 := by simp [List.getElem?_set_ne e]
      rw [this]; exact ih x hx
theorem due_unique {L : List (List Int)} {A l B k B' k' : List Int} (h : Due L A l B k) (h' : Due L A l B' k') (hs : Shape L A.length) (hn : l.length = A.length) (hm : Stuck L B k) (hm' : Stuck L B' k') : k = k' := by
  have h1 := h.len
  have h2 := h'.len
  refine List.ext_getElem (by omega) fun i hi hi' => ?_
  have a := due_le h h' hs hn hm' i (by omega)
  have b := due_le h' h hs hn hm i (by omega)
  have e1 : k.getD i 0 = k[i] := by simp [hi]
  have e2 : k'.getD i 0 = k'[i] := by simp [hi']
  omega
theorem sum_set : ∀ {k : List Int} {i : Nat} (h : i < k.length) (c : Int), (k.set i c).sum = k.sum - k[i] + c
  | x :: k, 0, h, c => by simp; omega
  | x :: k, i + 1, h, c => by simp [sum_set (k := k) (i := i) (by simpa using h) c]; omega
def ReG (L : List (List Int)) (A cs : List Int) : Prop := goodB L A = true ∧ (fullR L A []).isSome = true ∧ cs.length = A.length ∧ ∀ x ∈ cs, 0 ≤ x ∧ x ≤ 60
def ReP (L : List (List Int)) (A cs : List Int) : Prop := ReG L A cs ∧ ∃ B k, Due L A cs B k ∧ Stuck L B k ∧ ∀ x ∈ k, x = 0
noncomputable def reG (L : List (List Int)) (A cs : List Int) : Bool := @decide (ReG L A cs) (Classical.propDecidable _)
noncomputable def reB (L : List (List Int)) (A cs : List Int) : Bool := @decide (ReP L A cs) (Classical.propDecidable _)
theorem reG_true {L : List (List Int)} {A cs : List Int} (h : ReG L A cs) : reG L A cs = true := by simp [reG, h]
theorem reG_false {L : List (List Int)} {A cs : List Int} (h : ¬ ReG L A cs) : reG L A cs = false := by simp [reG, h]
theorem reB_false {L : List (List Int)} {A cs : List Int} (h : ¬ ReG L A cs) : reB L A cs = false := by
  have : ¬ ReP L A cs := fun q => h q.1
  simp [reB, this]
theorem reB_eq {L : List (List Int)} {A cs B k : List Int} (hg : ReG L A cs) (hd : Due L A cs B k) (hm : Stuck L B k) : reB L A cs = decide (∀ x ∈ k, x = 0) := by
  have hs : Shape L A.length := (good_of hg.1).shape
  by_cases hz : ∀ x ∈ k, x = 0
  · have : ReP L A cs := ⟨hg, B, k, hd, hm, hz⟩
    rw [decide_eq_true hz]; simp [reB, this]
  · have : ¬ ReP L A cs := fun ⟨_, B', k', hd', hm', hz'⟩ => hz (by rw [due_unique hd hd' hs hg.2.2.1 hm hm']; exact hz')
    rw [decide_eq_false hz]; simp [reB, this]
end Go.Proofs.Ytnnjehonbolliaa
namespace Go.Proofs.Ytnnjehonbolliaa
set_option linter.unusedSimpArgs false
set_option linter.unusedVariables false
set_option maxHeartbeats 4000000
open Go Go.Eng
inductive Rn (L : List (List Int)) (A : List Int) : List Int → List Int → Prop
  | zero : Rn L A (List.replicate A.length 0) A
  | step {x B : List Int} {i : Nat} : Rn L A x B → i < B.length → canB L B i = true → (hx : i < x.length) → Rn L A (x.set i (x[i] + 1)) (moveA L B i)
variable {L : List (List Int)} {A x B y C : List Int}
theorem Rn.len (h : Rn L A x B) : B.length = A.length ∧ x.length = A.length := by
  induction h with
  | zero => simp
  | step _ _ _ _ ih => simpa using ih
theorem Rn.nn (h : Rn L A x B) : ∀ i, 0 ≤ x.getD i 0 := by
  induction h with
  | zero => intro i; simp [List.getD_eq_getElem?_getD, List.getElem?_replicate]; split <;> simp
  | @step x B i _ _ _ hx ih =>
    intro j
    have h1 := ih j
    have h2 := ih i
    rw [List.getD_eq_getElem?_getD, List.getElem?_set]
    by_cases e : i = j
    · subst e
      rw [if_pos rfl, if_pos hx]
      rw [List.getD_eq_getElem?_getD, List.getElem?_eq_getElem hx] at h2
      simp at h2 ⊢; omega
    · rw [if_neg e]; simpa [List.getD_eq_getElem?_getD] using h1
theorem Rn.ok (h : Rn L A x B) (ho : Ok L A) : Ok L B := by
  induction h with
  | zero => exact ho
  | step _ hi hc _ ih => exact ih.move hi hc
def subL (l x : List Int) : List Int := List.zipWith (· - ·) l x
theorem subL_getD {l x : List Int} (hl : l.length = x.length) (i : Nat) : (subL l x).getD i 0 = l.getD i 0 - x.getD i 0 := by
  unfold subL
  simp only [List.getD_eq_getElem?_getD, List.getElem?_zipWith]
  by_cases h : i < x.length
  · rw [List.getElem?_eq_getElem h, List.getElem?_eq_getElem (show i < l.length by omega)]; rfl
  · rw [List.getElem?_eq_none (show x.length ≤ i by omega), List.getElem?_eq_none (show l.length ≤ i by omega)]; rfl
theorem subL_len {l x : List Int} (hl : l.length = x.length) : (subL l x).length = x.length := by simp [subL, hl]
theorem ext_getD {a b : List Int} (hl : a.length = b.length) (h : ∀ i, i < a.length → a.getD i 0 = b.getD i 0) : a = b := by
  refine List.ext_getElem hl fun i h1 h2 => ?_
  have := h i h1
  simpa [h1, h2] using this
theorem getD_set (x : List Int) (i j : Nat) (v : Int) (hi : i < x.length) : (x.set i v).getD j 0 = if i = j then v else x.getD j 0 := by
  simp only [List.getD_eq_getElem?_getD, List.getElem?_set]
  split
  · first | rfl | (rw [if_pos hi]; rfl)
  · rfl
theorem getD_at {x : List Int} {i : Nat} (hi : i < x.length) : x.getD i 0 = x[i] := by simp [hi]
theorem Rn.due (h : Rn L A x B) (l : List Int) (hl : l.length = A.length) (hle : ∀ i, x.getD i 0 ≤ l.getD i 0) : Due L A l B (subL l x) := by
  induction h with
  | zero =>
    have e : subL l (List.replicate A.length 0) = l := by
      refine ext_getD (by rw [subL_len (by simpa using hl)]; simpa using hl.symm) fun i hi => ?_
      rw [subL_getD (by simpa using hl)]
      have : (List.replicate A.length (0 : Int)).getD i 0 = 0 := by simp [List.getD_eq_getElem?_getD, List.getElem?_replicate]; split <;> simp
      omega
    rw [e]; exact .refl _ _
  | @step x B i hr hi hc hx ih =>
    have hlen := hr.len
    have hlx : l.length = x.length := by omega
    have h1 : ∀ j, x.getD j 0 ≤ l.getD j 0 := fun j => by
      have := hle j
      rw [getD_set _ _ _ _ hx] at this
      by_cases e : i = j
      · subst e; rw [if_pos rfl] at this; have := getD_at hx; omega
      · rw [if_neg e] at this; exact this
    have h2 := ih h1
    have h3 : i < (subL l x).length := by rw [subL_len hlx]; exact hx
    have h4 := subL_getD hlx i
    rw [getD_at h3] at h4
    have h5 := hle i
    rw [getD_set _ _ _ _ hx, if_pos rfl] at h5
    have h6 := getD_at hx
    have e : subL l (x.set i (x[i] + 1)) = (subL l x).set i ((subL l x)[i] - 1) := by
      refine ext_getD (by rw [subL_len (by simpa using hlx), List.length_set, List.length_set, subL_len hlx]) fun j hj => ?_
      rw [subL_getD (by simpa using hlx), getD_set _ _ _ _ hx, getD_set _ _ _ _ h3]
      by_cases e : i = j
      · subst e; rw [if_pos rfl, if_pos rfl]; omega
      · rw [if_neg e, if_neg e, subL_getD hlx]
    rw [e]
    exact .step h2 hi hc h3 (by omega)
theorem Rn.same (h : Rn L A x B) (h' : Rn L A x C) (hs : Shape L A.length) : B = C := by
  have hl := h.len
  have hl' := h'.len
  have d := h.due x hl.2 fun _ => Int.le_refl _
  have d' := h'.due x hl.2 fun _ => Int.le_refl _
  refine ext_getD (by omega) fun i hi => ?_
  rw [d.at hs hl.2 i (by omega), d'.at hs hl.2 i (by omega)]
theorem moves_nil (h : movesL L B = []) {i : Nat} (hi : i < B.length) : canB L B i = false := by
  unfold movesL at h
  rw [List.map_eq_nil_iff, List.filter_eq_nil_iff] at h
  have := h i (by simpa using hi)
  simpa using this
theorem Rn.le (h : Rn L A x B) (hm : movesL L B = []) (h' : Rn L A y C) (hs : Shape L A.length) : ∀ i, y.getD i 0 ≤ x.getD i 0 := by
  have hl := h.len
  have hl' := h'.len
  obtain ⟨l, hll⟩ : ∃ l, l = List.zipWith max x y := ⟨_, rfl⟩
  have e1 : l.length = A.length := by rw [hll]; simp; omega
  have e2 : ∀ i, l.getD i 0 = max (x.getD i 0) (y.getD i 0) := fun i => by
    rw [hll]
    simp only [List.getD_eq_getElem?_getD, List.getElem?_zipWith]
    by_cases hi : i < x.length
    · rw [List.getElem?_eq_getElem hi, List.getElem?_eq_getElem (show i < y.length by omega)]; rfl
    · rw [List.getElem?_eq_none (show x.length ≤ i by omega), List.getElem?_eq_none (show y.length ≤ i by omega)]; rfl
  have d := h.due l e1 fun i => by rw [e2]; omega
  have d' := h'.due l e1 fun i => by rw [e2]; omega
  have hst : Stuck L B (subL l x) := fun i hi hc => by rw [moves_nil hm hi] at hc; cases hc
  intro i
  by_cases hi : i < A.length
  · have := due_le d' d hs e1 hst i hi
    rw [subL_getD (by omega), subL_getD (by omega)] at this
    omega
  · rw [List.getD_eq_getElem?_getD, List.getElem?_eq_none (by omega), List.getD_eq_getElem?_getD, List.getElem?_eq_none (by omega)]; simp
theorem sum_le_of : ∀ {a b : List Int}, a.length = b.length → (∀ i, a.getD i 0 ≤ b.getD i 0) → a.sum ≤ b.sum
  | [], [], _, _ => Int.le_refl _
  | p :: a, q :: b, hl, h => by
    have h0 := h 0
    have := sum_le_of (a := a) (b := b) (by simpa using hl) fun i => by have := h (i + 1); simpa using this
    simp at h0 ⊢; omega
theorem eq_of_sum : ∀ {a b : List Int}, a.length = b.length → (∀ i, a.getD i 0 ≤ b.getD i 0) → b.sum ≤ a.sum → a = b
  | [], [], _, _, _ => rfl
  | p :: a, q :: b, hl, h, hs => by
    have h0 := h 0
    have h1 : ∀ i, a.getD i 0 ≤ b.getD i 0 := fun i => by have := h (i + 1); simpa using this
    have h2 := sum_le_of (by simpa using hl) h1
    simp at h0 hs
    have h3 := eq_of_sum (by simpa using hl) h1 (by omega)
    subst h3
    have : p = q := by omega
    rw [this]
theorem Rn.step_sum {x : List Int} {i : Nat} (hx : i < x.length) : (x.set i (x[i] + 1)).sum = x.sum + 1 := by rw [sum_set hx]; omega
structure FinR (L : List (List Int)) (A x B : List Int) (R : Nat) : Prop where
  rn : Rn L A x B
  last : movesL L B = []
  sum : x.sum = R
theorem moves_mem {m : Int} (h : m ∈ movesL L B) : ∃ i : Nat, m = (i : Int) ∧ i < B.length ∧ canB L B i = true := by
  obtain ⟨k, hk, rfl⟩ := List.getElem_of_mem h
  exact movesL_get hk
theorem FinR.le {X E : List Int} {R : Nat} (f : FinR L A X E R) (hs : Shape L A.length) (h : Rn L A x B) : x.sum ≤ R := by
  rw [← f.sum]
  exact sum_le_of (by rw [h.len.2, f.rn.len.2]) (f.rn.le f.last h hs)
theorem FinR.end {X E : List Int} {R : Nat} (f : FinR L A X E R) (hs : Shape L A.length) (h : Rn L A x B) (hx : x.sum = R) : x = X ∧ B = E := by
  have e : x = X := eq_of_sum (by rw [h.len.2, f.rn.len.2]) (f.rn.le f.last h hs) (by rw [hx, f.sum]; exact Int.le_refl _)
  subst e
  exact ⟨rfl, h.same f.rn hs⟩
theorem FinR.more {X E : List Int} {R : Nat} (f : FinR L A X E R) (hs : Shape L A.length) (h : Rn L A x B) (hx : x.sum < R) : movesL L B ≠ [] := by
  intro hm
  have := sum_le_of (by rw [h.len.2, f.rn.len.2]) (h.le hm f.rn hs)
  rw [f.sum] at this; omega
theorem FinR.next {X E : List Int} {R : Nat} (f : FinR L A X E R) (hs : Shape L A.length) (h : Rn L A x B) {m : Int} (hm : m ∈ movesL L B) :
    ∃ i : Nat, m = (i : Int) ∧ i < B.length ∧ canB L B i = true ∧ ∃ hx : i < x.length, Rn L A (x.set i (x[i] + 1)) (moveA L B i) ∧ (x.set i (x[i] + 1)).sum = x.sum + 1 ∧ x.sum + 1 ≤ R := by
  obtain ⟨i, e, hi, hc⟩ := moves_mem hm
  have hx : i < x.length := by have := h.len; omega
  have h1 := Rn.step h hi hc hx
  have h2 := Rn.step_sum hx
  have h3 := f.le hs h1
  exact ⟨i, e, hi, hc, hx, h1, h2, by omega⟩
def wN (L : List (List Int)) : Nat → List Int → Nat
  | 0, B => if movesL L B = [] then 1 else 0
  | n + 1, B => if movesL L B = [] then 1 else ((movesL L B).map fun m => wN L n (moveA L B m.toNat)).sum
theorem fullA_fin {cs : List Int} (hcs : ∀ v ∈ cs, 0 ≤ v) : ∀ {n : Nat} {run B r E : List Int}, fullA L cs n run B = some (r, E) → Rn L A (cntL A.length run) B → (cntL A.length run).sum = run.length → FinR L A (cntL A.length r) E r.length
  | 0, run, B, r, E, h, _, _ => by cases h
  | n + 1, run, B, r, E, h, hr, hs => by
    rw [fullA] at h
    split at h
    · rename_i hm
      cases h
      exact ⟨hr, hm, hs⟩
    · rename_i hm
      split at h
      · cases h
      · have hml : 0 < (movesL L B).length := List.length_pos_iff.2 hm
        have hpk := pickK_lt hml hcs run.length
        obtain ⟨i, hi, hiB, hic⟩ := movesL_get hpk
        have e : (movesL L B).getD (pickK (movesL L B) cs run.length) 0 = (i : Int) := by rw [getD_at hpk]; exact hi
        rw [e] at h
        have hlen := hr.len
        have hxi : i < (cntL A.length run).length := by omega
        have e2 := cntL_snoc A.length run i (by omega)
        refine fullA_fin hcs h ?_ ?_
        · rw [e2]; exact .step hr hiB hic hxi
        · rw [e2, Rn.step_sum hxi, hs]; simp
theorem fullR_fin {cs r E : List Int} (hcs : ∀ v ∈ cs, 0 ≤ v) (h : fullR L A cs = some (r, E)) : FinR L A (cntL A.length r) E r.length := by
  unfold fullR at h
  split at h
  · refine fullA_fin hcs h ?_ ?_
    · rw [cntL_nil]; exact .zero
    · rw [cntL_nil]; simp
  · cases h
def capN (w : Nat) : Nat := min w 1000000001
theorem capN_add (a b : Nat) : capN (capN a + capN b) = capN (a + b) := by unfold capN; omega
theorem capN_le (a : Nat) : capN a ≤ 1000000001 := by unfold capN; omega
noncomputable def runsB (L : List (List Int)) (A : List Int) : Bool := (fullR L A []).isSome && decide (wN L (((fst? (fullR L A [])).getD []).length) A ≤ 1000000000)
noncomputable def runsN (L : List (List Int)) (A : List Int) : Int := if runsB L A = true then ((wN L (((fst? (fullR L A [])).getD []).length) A : Nat) : Int) else 0
end Go.Proofs.Ytnnjehonbolliaa
namespace Go.Proofs.Ytnnjehonbolliaa
set_option linter.unusedSimpArgs false
set_option linter.unusedVariables false
set_option maxHeartbeats 4000000
open Go Go.Eng
structure RSt where
  x : List Int
  b : List Int
  w : Nat
instance : Inhabited RSt := ⟨⟨[], [], 0⟩⟩
def ixS (S : List RSt) (x : List Int) : Nat := S.findIdx fun s => decide (s.x = x)
def putS (S : List RSt) (x b : List Int) : List RSt := if ixS S x = S.length then S ++ [⟨x, b, 0⟩] else S
def addS (S : List RSt) (k w : Nat) : List RSt := S.set k ⟨(S.getD k default).x, (S.getD k default).b, (S.getD k default).w + w⟩
def insS (S : List RSt) (x b : List Int) (w : Nat) : List RSt := addS (putS S x b) (ixS S x) w
theorem ixS_le (S : List RSt) (x : List Int) : ixS S x ≤ S.length := List.findIdx_le_length
theorem ixS_lt {S : List RSt} {x : List Int} (h : ixS S x < S.length) : S[ixS S x].x = x := by
  have := List.findIdx_getElem (p := fun s : RSt => decide (s.x = x)) (w := h)
  exact of_decide_eq_true this
theorem ixS_not {S : List RSt} {x : List Int} {k : Nat} (h : k < ixS S x) (hk : k < S.length) : S[k].x ≠ x := by
  have := List.not_of_lt_findIdx (p := fun s : RSt => decide (s.x = x)) h
  simpa using this
theorem ixS_of {S : List RSt} {x : List Int} {k : Nat} (hk : k ≤ S.length) (h1 : ∀ j (hj : j < S.length), j < k → S[j].x ≠ x) (h2 : ∀ hk : k < S.length, S[k].x = x) : ixS S x = k := by
  rcases Nat.lt_trichotomy (ixS S x) k with h | h | h
  · exact absurd (ixS_lt (by omega)) (h1 _ (by omega) h)
  · exact h
  · have := ixS_le S x
    exact absurd (h2 (by omega)) (ixS_not h (by omega))
theorem putS_len (S : List RSt) (x b : List Int) : ixS S x < (putS S x b).length := by
  unfold putS
  have := ixS_le S x
  split
  · simp; omega
  · omega
theorem putS_at (S : List RSt) (x b : List Int) : ((putS S x b)[ixS S x]'(putS_len S x b)).x = x := by
  by_cases h : ixS S x = S.length
  · have e : putS S x b = S ++ [⟨x, b, 0⟩] := by unfold putS; rw [if_pos h]
    have : (putS S x b)[ixS S x]? = some ⟨x, b, 0⟩ := by rw [e, h]; simp
    rw [List.getElem?_eq_getElem (putS_len S x b)] at this
    rw [Option.some.inj this]
  · have e : putS S x b = S := by unfold putS; rw [if_neg h]
    have h1 : ixS S x < S.length := by have := ixS_le S x; omega
    have : (putS S x b)[ixS S x]? = some S[ixS S x] := by rw [e]; exact List.getElem?_eq_getElem h1
    rw [List.getElem?_eq_getElem (putS_len S x b)] at this
    rw [Option.some.inj this, ixS_lt h1]
def totW (g : List Int → Nat) (S : List RSt) : Nat := (S.map fun s => s.w * g s.b).sum
theorem totW_app (g : List Int → Nat) (S T : List RSt) : totW g (S ++ T) = totW g S + totW g T := by simp [totW]
theorem totW_add (g : List Int → Nat) : ∀ (S : List RSt) (k w : Nat) (hk : k < S.length), totW g (addS S k w) = totW g S + w * g S[k].b
  | s :: S, 0, w, hk => by simp [addS, totW, Nat.add_mul]; omega
  | s :: S, k + 1, w, hk => by
    have := totW_add g S k w (by simpa using hk)
    unfold totW addS at this ⊢
    simp at this ⊢
    omega
theorem totW_put (g : List Int → Nat) (S : List RSt) (x b : List Int) : totW g (putS S x b) = totW g S := by
  unfold putS
  split
  · rw [totW_app]; simp [totW]
  · rfl
structure StI (L : List (List Int)) (A : List Int) (k : Nat) (S : List RSt) : Prop where
  rn : ∀ s ∈ S, Rn L A s.x s.b ∧ s.x.sum = k
  nd : (S.map (·.x)).Nodup
theorem StI.nil (L : List (List Int)) (A : List Int) (k : Nat) : StI L A k [] := ⟨fun s hs => (by cases hs), by simp⟩
theorem addS_map (S : List RSt) (k w : Nat) (hk : k < S.length) : (addS S k w).map (·.x) = S.map (·.x) := by
  unfold addS
  apply List.ext_getElem?
  intro i
  rw [List.map_set, List.getElem?_set]
  by_cases e : k = i
  · subst e; simp [hk]
  · rw [if_neg e]
theorem addS_mem {S : List RSt} {k w : Nat} (hk : k < S.length) {s : RSt} (hs : s ∈ addS S k w) : ∃ t ∈ S, s.x = t.x ∧ s.b = t.b := by
  unfold addS at hs
  rcases List.mem_or_eq_of_mem_set hs with h | h
  · exact ⟨s, h, rfl, rfl⟩
  · refine ⟨S[k], List.getElem_mem hk, ?_, ?_⟩ <;> rw [h] <;> simp [List.getD_eq_getElem?_getD, hk]
theorem StI.put {L : List (List Int)} {A x b : List Int} {k : Nat} {S : List RSt} (h : StI L A k S) (hr : Rn L A x b) (hx : x.sum = k) : StI L A k (putS S x b) := by
  unfold putS
  split
  · rename_i e
    refine ⟨fun s hs => ?_, ?_⟩
    · rcases List.mem_append.1 hs with hs | hs
      · exact h.rn s hs
      · simp at hs; subst hs; exact ⟨hr, hx⟩
    · rw [List.map_append, List.nodup_append]
      refine ⟨h.nd, by simp, fun y hy z hz => ?_⟩
      simp at hz
      subst hz
      obtain ⟨s, hs, rfl⟩ := List.mem_map.1 hy
      obtain ⟨j, hj, rfl⟩ := List.getElem_of_mem hs
      exact ixS_not (by omega) hj
  · exact h
theorem StI.add {L : List (List Int)} {A : List Int} {k j w : Nat} {S : List RSt} (h : StI L A k S) (hj : j < S.length) : StI L A k (addS S j w) := by
  refine ⟨fun s hs => ?_, by rw [addS_map S j w hj]; exact h.nd⟩
  obtain ⟨t, ht, e1, e2⟩ := addS_mem hj hs
  rw [e1, e2]; exact h.rn t ht
theorem StI.ins {L : List (List Int)} {A x b : List Int} {k w : Nat} {S : List RSt} (h : StI L A k S) (hr : Rn L A x b) (hx : x.sum = k) : StI L A k (insS S x b w) := (h.put hr hx).add (putS_len S x b)
theorem totW_ins {L : List (List Int)} {A x b : List Int} {k w : Nat} {S : List RSt} (hs : Shape L A.length) (h : StI L A k S) (hr : Rn L A x b) (hx : x.sum = k) (g : List Int → Nat) : totW g (insS S x b w) = totW g S + w * g b := by
  unfold insS
  rw [totW_add g _ _ _ (putS_len S x b), totW_put]
  have h1 := (h.put hr hx).rn _ (List.getElem_mem (putS_len S x b))
  rw [putS_at] at h1
  rw [h1.1.same hr hs]
theorem ins_mem {S : List RSt} {x b : List Int} {w : Nat} : (insS S x b w).map (·.x) = (putS S x b).map (·.x) := addS_map _ _ _ (putS_len S x b)
theorem put_has (S : List RSt) (x b : List Int) : x ∈ (putS S x b).map (·.x) := List.mem_map.2 ⟨_, List.getElem_mem (putS_len S x b), putS_at S x b⟩
theorem put_sub (S : List RSt) (x b y : List Int) (h : y ∈ S.map (·.x)) : y ∈ (putS S x b).map (·.x) := by
  unfold putS
  split
  · rw [List.map_append]; exact List.mem_append.2 (.inl h)
  · exact h
def moveS (L : List (List Int)) (s : RSt) (out : List RSt) (ms : List Int) : List RSt := ms.foldl (fun out m => insS out (s.x.set m.toNat (s.x.getD m.toNat 0 + 1)) (moveA L s.b m.toNat) s.w) out
def stepS (L : List (List Int)) (S : List RSt) : List RSt := S.foldl (fun out s => moveS L s out (movesL L s.b)) []
def stateS (L : List (List Int)) (A : List Int) : Nat → List RSt
  | 0 => [⟨List.replicate A.length 0, A, 1⟩]
  | k + 1 => stepS L (stateS L A k)
theorem moveS_snoc (L : List (List Int)) (s : RSt) (out : List RSt) (ms : List Int) (m : Int) : moveS L s out (ms ++ [m]) = insS (moveS L s out ms) (s.x.set m.toNat (s.x.getD m.toNat 0 + 1)) (moveA L s.b m.toNat) s.w := by simp [moveS]
variable {L : List (List Int)} {A X E : List Int} {R k : Nat}
theorem moveS_inv (f : FinR L A X E R) (hs : Shape L A.length) {s : RSt} (h : Rn L A s.x s.b) (hx : s.x.sum = k) (hk : k < R) (g : List Int → Nat) : ∀ {ms : List Int} {out : List RSt}, (∀ m ∈ ms, m ∈ movesL L s.b) → StI L A (k + 1) out →
    StI L A (k + 1) (moveS L s out ms) ∧ totW g (moveS L s out ms) = totW g out + s.w * (ms.map fun m => g (moveA L s.b m.toNat)).sum ∧ (∀ y ∈ out.map (·.x), y ∈ (moveS L s out ms).map (·.x)) ∧ ∀ m ∈ ms, s.x.set m.toNat (s.x.getD m.toNat 0 + 1) ∈ (moveS L s out ms).map (·.x)
  | [], out, _, ho => ⟨ho, by simp [moveS], fun y hy => hy, fun m hm => by cases hm⟩
  | m :: ms, out, hm, ho => by
    obtain ⟨i, rfl, hi, hc, hxi, h1, h2, h3⟩ := f.next hs h (hm m (by simp))
    have e : s.x.set ((i : Int).toNat) (s.x.getD ((i : Int).toNat) 0 + 1) = s.x.set i (s.x[i] + 1) := by simp [hxi]
    have e2 : moveA L s.b ((i : Int).toNat) = moveA L s.b i := by simp
    have ho2 : StI L A (k + 1) (insS out (s.x.set i (s.x[i] + 1)) (moveA L s.b i) s.w) := ho.ins h1 (by rw [h2, hx]; rfl)
    obtain ⟨a1, a2, a3, a4⟩ := moveS_inv f hs h hx hk g (ms := ms) (fun m hmm => hm m (by simp [hmm])) ho2
    have eM : moveS L s out ((i : Int) :: ms) = moveS L s (insS out (s.x.set i (s.x[i] + 1)) (moveA L s.b i) s.w) ms := by
      show moveS L s (insS out (s.x.set ((i : Int).toNat) (s.x.getD ((i : Int).toNat) 0 + 1)) (moveA L s.b ((i : Int).toNat)) s.w) ms = _
      rw [e, e2]
    rw [eM]
    have hin : ∀ y ∈ (insS out (s.x.set i (s.x[i] + 1)) (moveA L s.b i) s.w).map (·.x), y ∈ (moveS L s (insS out (s.x.set i (s.x[i] + 1)) (moveA L s.b i) s.w) ms).map (·.x) := a3
    refine ⟨a1, ?_, fun y hy => hin y (by rw [ins_mem]; exact put_sub _ _ _ _ hy), fun m' hm' => ?_⟩
    · rw [a2, totW_ins hs ho h1 (by rw [h2, hx]; rfl), List.map_cons, List.sum_cons, e2, Nat.mul_add]; omega
    · rcases List.mem_cons.1 hm' with rfl | hm'
      · rw [e]; exact hin _ (by rw [ins_mem]; exact put_has _ _ _)
      · exact a4 m' hm'
theorem stepS_inv (f : FinR L A X E R) (hs : Shape L A.length) (hk : k < R) (g : List Int → Nat) : ∀ {S : List RSt} {out : List RSt}, (∀ s ∈ S, Rn L A s.x s.b ∧ s.x.sum = k) → StI L A (k + 1) out →
    StI L A (k + 1) (S.foldl (fun out s => moveS L s out (movesL L s.b)) out) ∧ totW g (S.foldl (fun out s => moveS L s out (movesL L s.b)) out) = totW g out + (S.map fun s => s.w * ((movesL L s.b).map fun m => g (moveA L s.b m.toNat)).sum).sum ∧
      (∀ y ∈ out.map (·.x), y ∈ (S.foldl (fun out s => moveS L s out (movesL L s.b)) out).map (·.x)) ∧ ∀ s ∈ S, ∀ m ∈ movesL L s.b, s.x.set m.toNat (s.x.getD m.toNat 0 + 1) ∈ (S.foldl (fun out s => moveS L s out (movesL L s.b)) out).map (·.x)
  | [], out, _, ho => ⟨ho, by simp, fun y hy => hy, fun s hm => by cases hm⟩
  | s :: S, out, hS, ho => by
    obtain ⟨h1, h2⟩ := hS s (by simp)
    obtain ⟨b1, b2, b3, b4⟩ := moveS_inv f hs h1 h2 hk g (ms := movesL L s.b) (fun m hm => hm) ho
    obtain ⟨a1, a2, a3, a4⟩ := stepS_inv f hs hk g (S := S) (fun s hm => hS s (by simp [hm])) b1
    rw [List.foldl_cons]
    refine ⟨a1, ?_, fun y hy => a3 y (b3 y hy), fun t ht m hm => ?_⟩
    · rw [a2, b2, List.map_cons, List.sum_cons]; omega
    · rcases List.mem_cons.1 ht with rfl | ht
      · exact a3 _ (b4 m hm)
      · exact a4 t ht m hm
theorem stateS_inv (f : FinR L A X E R) (hs : Shape L A.length) : ∀ k, k ≤ R → StI L A k (stateS L A k) ∧ totW (wN L (R - k)) (stateS L A k) = wN L R A ∧ ∀ x B, Rn L A x B → x.sum = k → x ∈ (stateS L A k).map (·.x)
  | 0, _ => by
    refine ⟨⟨fun s h => ?_, by simp [stateS]⟩, by simp [stateS, totW], fun x B h hx => ?_⟩
    · simp [stateS] at h; subst h; exact ⟨.zero, by simp⟩
    · have e : List.replicate A.length (0 : Int) = x := eq_of_sum (by simp [h.len.2]) (fun i => by
        have := h.nn i
        have : (List.replicate A.length (0 : Int)).getD i 0 = 0 := by simp [List.getD_eq_getElem?_getD, List.getElem?_replicate]; split <;> simp
        omega) (by rw [hx]; simp)
      rw [← e]; simp [stateS]
  | k + 1, hk => by
    obtain ⟨h1, h2, h3⟩ := stateS_inv f hs k (by omega)
    obtain ⟨a1, a2, a3, a4⟩ := stepS_inv f hs (k := k) (by omega) (wN L (R - (k + 1))) (S := stateS L A k) (out := []) h1.rn (StI.nil _ _ _)
    refine ⟨a1, ?_, fun x B h hx => ?_⟩
    · show totW _ (stepS L (stateS L A k)) = _
      unfold stepS
      rw [a2, ← h2]
      have e : R - k = (R - (k + 1)) + 1 := by omega
      have : (stateS L A k).map (fun s => s.w * ((movesL L s.b).map fun m => wN L (R - (k + 1)) (moveA L s.b m.toNat)).sum) = (stateS L A k).map fun s => s.w * wN L (R - k) s.b := by
        apply List.map_congr_left
        intro s hm
        obtain ⟨hr, hx⟩ := h1.rn s hm
        rw [e, wN, if_neg (f.more hs hr (by omega))]
      rw [this]; simp [totW]
    · cases h with
      | zero => simp at hx; omega
      | @step x B i hr hi hc hxi =>
        have h5 := Rn.step_sum hxi
        have h6 : x.sum = k := by omega
        obtain ⟨s, hsm, e⟩ := List.mem_map.1 (h3 x B hr h6)
        have hb := (h1.rn s hsm).1
        rw [e] at hb
        have hbB := hb.same hr hs
        have := a4 s hsm (i : Int) (by
          rw [hbB]
          exact List.mem_map.2 ⟨i, List.mem_filter.2 ⟨by simpa using hi, hc⟩, rfl⟩)
        rw [e] at this
        simpa [hxi, stateS, stepS] using this
theorem stateS_end (f : FinR L A X E R) (hs : Shape L A.length) : stateS L A R = [⟨X, E, wN L R A⟩] := by
  obtain ⟨h1, h2, h3⟩ := stateS_inv f hs R (Nat.le_refl _)
  have h4 := h3 X E f.rn f.sum
  match hS : stateS L A R with
  | [] => rw [hS] at h4; simp at h4
  | s :: S =>
    rw [hS] at h1 h2
    obtain ⟨h5, h6⟩ := h1.rn s (by simp)
    obtain ⟨e1, e2⟩ := f.end hs h5 h6
    have hS0 : S = [] := by
      match S with
      | [] => rfl
      | t :: T =>
        obtain ⟨h7, h8⟩ := h1.rn t (by simp)
        obtain ⟨e3, e4⟩ := f.end hs h7 h8
        have := h1.nd
        simp [e1, e3] at this
    subst hS0
    simp only [totW, List.map_cons, List.map_nil, List.sum_cons, List.sum_nil, Nat.sub_self, e2, wN, f.last, if_true, Nat.mul_one, Nat.add_zero] at h2
    rw [← h2, ← e1, ← e2]
end Go.Proofs.Ytnnjehonbolliaa
namespace Go.Proofs.Ytnnjehonbolliaa
set_option linter.unusedSimpArgs false
set_option linter.unusedVariables false
set_option maxHeartbeats 4000000
open Go Go.Eng
def pad (x : List Int) : List Int := x ++ List.replicate (5 - x.length) 0
def keyC (x : List Int) : Value := .agg ((pad x).map (.int .i64)).toArray
theorem pad_len {x : List Int} (h : x.length ≤ 5) : (pad x).length = 5 := by simp [pad]; omega
theorem pad_five {x : List Int} (h : x.length ≤ 5) : ∃ a b c d e, pad x = [a, b, c, d, e] := by
  have := pad_len h
  match hp : pad x, this with
  | [a, b, c, d, e], _ => exact ⟨a, b, c, d, e, rfl⟩
theorem keyC_five {x : List Int} {a b c d e : Int} (h : pad x = [a, b, c, d, e]) : keyC x = .agg #[.int .i64 a, .int .i64 b, .int .i64 c, .int .i64 d, .int .i64 e] := by simp [keyC, h]
theorem keyC_ok {x : List Int} (h : x.length ≤ 5) : isKey 5 (keyC x) = true := by
  obtain ⟨a, b, c, d, e, h⟩ := pad_five h
  rw [keyC_five h]; rfl
theorem pad_inj {x y : List Int} (hl : x.length = y.length) (h : pad x = pad y) : x = y := by
  have := congrArg (List.take x.length) h
  unfold pad at this
  rw [List.take_left' rfl, hl, List.take_left' rfl] at this
  exact this
theorem keyB_C {x y : List Int} (hx : x.length ≤ 5) (hl : x.length = y.length) : keyB (keyC x) (keyC y) = true ↔ x = y := by
  rw [keyB_iff (keyC_ok hx) (keyC_ok (by omega))]
  constructor
  · intro h
    refine pad_inj hl ?_
    obtain ⟨a, b, c, d, e, h1⟩ := pad_five hx
    obtain ⟨a', b', c', d', e', h2⟩ := pad_five (show y.length ≤ 5 by omega)
    rw [keyC_five h1, keyC_five h2] at h
    rw [h1, h2]
    simpa using h
  · rintro rfl; rfl
theorem pad_set {x : List Int} {i : Nat} (hi : i < x.length) (v : Int) : pad (x.set i v) = (pad x).set i v := by
  unfold pad
  rw [List.set_append_left _ _ hi, List.length_set]
theorem pad_at {x : List Int} {i : Nat} (hi : i < x.length) (h : i < (pad x).length) : (pad x)[i] = x[i] := by
  have h1 : (pad x)[i]? = some x[i] := by unfold pad; rw [List.getElem?_append_left hi]; exact List.getElem?_eq_getElem hi
  rw [List.getElem?_eq_getElem h] at h1
  exact Option.some.inj h1
variable {L : List (List Int)} {A : List Int} {R : Nat}
def MemC (L : List (List Int)) (A : List Int) (R : Nat) (es : List (Value × Value)) : Prop := ∀ e ∈ es, ∃ (x B : List Int) (m : Nat), e.1 = keyC x ∧ Rn L A x B ∧ x.sum + (m : Int) = R ∧ e.2 = .int .i64 ((capN (wN L m B) : Nat) : Int)
def hasK (es : List (Value × Value)) (x : List Int) : Prop := ∃ e ∈ es, e.1 = keyC x
theorem MemC.keys (hs : Shape L A.length) {es : List (Value × Value)} (h : MemC L A R es) : keysOK 5 es = true := by
  unfold keysOK
  rw [List.all_eq_true]
  intro e he
  obtain ⟨x, B, m, e1, hr, _⟩ := h e he
  rw [e1]
  exact keyC_ok (by have := hr.len.2; have := hs.le; omega)
theorem MemC.get (hs : Shape L A.length) {x B : List Int} {n : Nat} (hr : Rn L A x B) (hx : x.sum + (n : Int) = R) : ∀ {es : List (Value × Value)}, MemC L A R es →
    mapGet es (keyC x) = none ∨ (mapGet es (keyC x) = some (.int .i64 ((capN (wN L n B) : Nat) : Int)) ∧ hasK es x)
  | [], _ => .inl rfl
  | e :: es, h => by
    obtain ⟨x', B', m, e1, hr', hx', e2⟩ := h e (by simp)
    have hl := hr.len.2
    have hl' := hr'.len.2
    have h5 := hs.le
    rw [mapGet]
    by_cases hk : keyB e.1 (keyC x) = true
    · rw [if_pos hk]
      right
      rw [e1] at hk
      have := (keyB_C (by omega) (by omega)).1 hk
      subst this
      have hB := hr.same hr' hs
      subst hB
      have : m = n := by omega
      subst this
      exact ⟨by rw [e2], e, by simp, e1⟩
    · rw [if_neg hk]
      rcases MemC.get hs hr hx (es := es) (fun e he => h e (by simp [he])) with h1 | ⟨h1, q, hq, hq2⟩
      · exact .inl h1
      · exact .inr ⟨h1, q, by simp [hq], hq2⟩
theorem MemC.put {x B : List Int} {n : Nat} (hr : Rn L A x B) (hx : x.sum + (n : Int) = R) : ∀ {es : List (Value × Value)}, MemC L A R es → MemC L A R (mapPut es (keyC x) (.int .i64 ((capN (wN L n B) : Nat) : Int)))
  | [], _ => by
    intro e he
    simp only [mapPut, List.mem_singleton] at he
    subst he
    exact ⟨x, B, n, rfl, hr, hx, rfl⟩
  | e :: es, h => by
    rw [mapPut]
    split
    · intro q hq
      rcases List.mem_cons.1 hq with rfl | hq
      · exact ⟨x, B, n, rfl, hr, hx, rfl⟩
      · exact h q (by simp [hq])
    · intro q hq
      rcases List.mem_cons.1 hq with rfl | hq
      · exact h q (by simp)
      · exact MemC.put hr hx (fun e he => h e (by simp [he])) q hq
theorem hasK_put {n : Nat} {x y : List Int} {v : Value} (h5 : n ≤ 5) (hx : x.length = n) : ∀ {es : List (Value × Value)}, (∀ e ∈ es, ∃ z, e.1 = keyC z ∧ z.length = n) → (hasK (mapPut es (keyC x) v) y ↔ keyC y = keyC x ∨ hasK es y)
  | [], _ => by simp [mapPut, hasK, eq_comm]
  | e :: es, h => by
    obtain ⟨z, e1, hz⟩ := h e (by simp)
    rw [mapPut]
    split
    · rename_i hk
      rw [e1] at hk
      have := (keyB_C (by omega) (by omega)).1 hk
      subst this
      constructor
      · rintro ⟨q, hq, hqe⟩
        rcases List.mem_cons.1 hq with rfl | hq
        · exact .inl hqe.symm
        · exact .inr ⟨q, by simp [hq], hqe⟩
      · rintro (he | ⟨q, hq, hqe⟩)
        · exact ⟨(keyC z, v), by simp, he.symm⟩
        · rcases List.mem_cons.1 hq with rfl | hq
          · exact ⟨(keyC z, v), by simp, by rw [← hqe, e1]⟩
          · exact ⟨q, by simp [hq], hqe⟩
    · have ih := hasK_put (y := y) (v := v) h5 hx (es := es) (fun e he => h e (by simp [he]))
      constructor
      · rintro ⟨q, hq, hqe⟩
        rcases List.mem_cons.1 hq with rfl | hq
        · exact .inr ⟨q, by simp, hqe⟩
        · rcases ih.1 ⟨q, hq, hqe⟩ with h1 | ⟨q', h1, h2⟩
          · exact .inl h1
          · exact .inr ⟨q', by simp [h1], h2⟩
      · rintro (he | ⟨q, hq, hqe⟩)
        · obtain ⟨q', h1, h2⟩ := ih.2 (.inl he)
          exact ⟨q', by simp [h1], h2⟩
        · rcases List.mem_cons.1 hq with rfl | hq
          · exact ⟨q, by simp, hqe⟩
          · obtain ⟨q', h1, h2⟩ := ih.2 (.inr ⟨q, hq, hqe⟩)
            exact ⟨q', by simp [h1], h2⟩
theorem MemC.lens {es : List (Value × Value)} (h : MemC L A R es) : ∀ e ∈ es, ∃ z, e.1 = keyC z ∧ z.length = A.length := fun e he => by
  obtain ⟨x, B, m, e1, hr, _⟩ := h e he
  exact ⟨x, e1, hr.len.2⟩
def ClosedK (L : List (List Int)) (A : List Int) (es : List (Value × Value)) : Prop := ∀ x B i, Rn L A x B → hasK es x → i < B.length → canB L B i = true → hasK es (x.set i (x.getD i 0 + 1))
theorem ClosedK.all {es : List (Value × Value)} (h : ClosedK L A es) (h0 : hasK es (List.replicate A.length 0)) {x B : List Int} (hr : Rn L A x B) : hasK es x := by
  induction hr with
  | zero => exact h0
  | @step x B i hr hi hc hx ih =>
    have := h x B i hr ih hi hc
    rwa [getD_at hx] at this
structure ReSt (base od q om of_ : Nat) (fid : Nat) (dc : Array Value) (es : List (Value × Value)) (h : Hp) : Prop where
  ord : base ≤ od ∧ od < q ∧ q < om ∧ om < of_ ∧ of_ < h.next
  gm : h.get om = .cells [.map (some q)] true true 1
  gd : h.get od = .cells [.func (.func fid) #[] dc] true true 1
  gf : h.get of_ = .cells [.func (.func 99) #[] #[.pointer (some ⟨om, 0, none⟩), .pointer (some ⟨od, 0, none⟩), .pointer (some ⟨of_, 0, none⟩)]] true true 1
  gq : h.get q = .map es
theorem ReSt.keep {base od q om of_ fid : Nat} {dc : Array Value} {es : List (Value × Value)} {h h' : Hp} (k : ReSt base od q om of_ fid dc es h) (hn : h.next ≤ h'.next) (hg : ∀ o, base ≤ o → o < h.next → h'.get o = h.get o) : ReSt base od q om of_ fid dc es h' := by
  obtain ⟨o1, o2, o3, o4, o5⟩ := k.ord
  exact ⟨⟨o1, o2, o3, o4, by omega⟩, by rw [hg _ (by omega) (by omega)]; exact k.gm, by rw [hg _ (by omega) (by omega)]; exact k.gd, by rw [hg _ (by omega) (by omega)]; exact k.gf, by rw [hg _ (by omega) (by omega)]; exact k.gq⟩
theorem ReSt.putq {base od q om of_ fid : Nat} {dc : Array Value} {es es' : List (Value × Value)} {h : Hp} (k : ReSt base od q om of_ fid dc es h) : ReSt base od q om of_ fid dc es' (h.put q (.map es')) := by
  obtain ⟨o1, o2, o3, o4, o5⟩ := k.ord
  exact ⟨⟨o1, o2, o3, o4, by simp; omega⟩, by simp [show om ≠ q by omega, k.gm], by simp [show od ≠ q by omega, k.gd], by simp [show of_ ≠ q by omega, k.gf], by simp⟩
structure DoerC (L : List (List Int)) (A : List Int) (P : List (List Int) → Hp → Prop) (base : Nat) (S : Nat → Prop) (fid : Nat) (dc : Array Value) : Prop where
  stab : ∀ s h h', P s h → base ≤ h.next → h.next ≤ h'.next → (∀ o, o < base → h'.get o = h.get o) → P s h'
  run : ∀ s h x B, P s h → base ≤ h.next → Rn L A x B → ∃ u h', CallOK Try.prog fid (#[keyC x] ++ dc) h u h' ∧ Wr S h h' ∧ P (x :: s) h'
  low : ∀ o, S o → o < base
  fn : fnOK Try.prog fid = true
end Go.Proofs.Ytnnjehonbolliaa
namespace Go.Eng
def chunk (m : Nat) (cs : List Value) (k : Nat) : List Value := (cs.drop (k * m)).take m
theorem chunk_app1 {m : Nat} {a b : List Value} {n k : Nat} (ha : a.length = n * m) (hk : k < n) : chunk m (a ++ b) k = chunk m a k := by
  unfold chunk
  have h1 : k * m + m ≤ n * m := by
    have := Nat.mul_le_mul_right m (show k + 1 ≤ n from hk)
    rwa [Nat.add_mul, Nat.one_mul] at this
  rw [List.drop_append_of_le_length (by omega), List.take_append_of_le_length (by simp; omega)]
theorem chunk_app2 {m : Nat} {a b : List Value} {n k : Nat} (ha : a.length = n * m) (hk : n ≤ k) : chunk m (a ++ b) k = chunk m b (k - n) := by
  unfold chunk
  have h1 : n * m ≤ k * m := Nat.mul_le_mul_right m hk
  rw [List.drop_append, List.drop_eq_nil_of_le (by omega), List.nil_append, ha, Nat.sub_mul]
def ObjIn : Value → Nat → Prop
  | .slice (some ⟨o, _, _⟩) _ _, x => o = x
  | _, _ => False
structure Steady {α : Type} (R : (Nat → Prop) → Hp → List Value → α → Prop) : Prop where
  mono : ∀ F G h h' u x, R F h u x → (∀ o, F o → G o) → Same F h h' → R G h' u x
  low : ∀ F h u x, R F h u x → R (fun o => F o ∧ o < h.next) h u x
section
variable {α : Type} {m : Nat} {R : (Nat → Prop) → Hp → List Value → α → Prop}
def GL (m : Nat) (R : (Nat → Prop) → Hp → List Value → α → Prop) (n : Nat) (h : Hp) (v : Value) (L : List α) : Prop :=
  (L = [] ∧ v = .slice none 0 0) ∨ ∃ o ex cs, v = .slice (some ⟨o, 0, none⟩) L.length L.length ∧ n ≤ o ∧ o < h.next ∧ h.get o = .cells cs true ex m ∧ cs.length = L.length * m ∧ ∀ k (hk : k < L.length), R (fun x => n ≤ x ∧ x ≠ o) h (chunk m cs k) L[k]
theorem GL.nil (n : Nat) (h : Hp) : GL m R n h (.slice none 0 0) [] := .inl ⟨rfl, rfl⟩
theorem GL.lenD {n : Nat} {h : Hp} {v : Value} {L : List α} (hs : GL m R n h v L) (P : Program) (t : TypeId) : Go.Eng.lenD P t v = (elT P t).map fun _ => .int .i64 L.length := by
  rcases hs with ⟨rfl, rfl⟩ | ⟨o, ex, cs, rfl, _⟩ <;> simp
theorem GL.nt {n : Nat} {h : Hp} {v : Value} {L : List α} (hs : GL m R n h v L) : notTup v = true := by
  rcases hs with ⟨rfl, rfl⟩ | ⟨o, ex, cs, rfl, _⟩ <;> rfl
theorem GL.same {n : Nat} {h h' : Hp} (hR : Steady R) {v : Value} {L : List α} (hs : GL m R n h v L) (hk : Same (fun x => n ≤ x) h h') : GL m R n h' v L := by
  rcases hs with ⟨rfl, rfl⟩ | ⟨o, ex, cs, rfl, h1, h2, h3, h4, h5⟩
  · exact .inl ⟨rfl, rfl⟩
  · exact .inr ⟨o, ex, cs, rfl, h1, Nat.lt_of_lt_of_le h2 hk.1, by rw [hk.2 o h1 h2]; exact h3, h4, fun k hk' => hR.mono _ _ h h' _ _ (h5 k hk') (fun _ h => h) ⟨hk.1, fun x hx hl => hk.2 x hx.1 hl⟩⟩
theorem GL.keep {n : Nat} {h h' : Hp} (hR : Steady R) {v : Value} {L : List α} (hs : GL m R n h v L) (hk : Keeps h h') : GL m R n h' v L := hs.same hR (.of_keeps hk)
theorem GL.obj {n : Nat} {h : Hp} {v : Value} {L : List α} (hs : GL m R n h v L) {o : Nat} (ho : ObjIn v o) : n ≤ o ∧ o < h.next := by
  rcases hs with ⟨rfl, rfl⟩ | ⟨p, ex, cs, rfl, h1, h2, _⟩
  · exact ho.elim
  · cases ho; exact ⟨h1, h2⟩
theorem GL.append2 {P : Program} {n : Nat} {h0 h : Hp} {v y : Value} {L K : List α} {t t' e b : Nat} {z : Value} {ys : List Value} {F : Nat → Prop} (hR : Steady R) (hs : GL m R n h v L)
    (hsrc : srcV h m y = some (K.length, ys)) (hyl : ys.length = K.length * m) (hy : ∀ k (hk : k < K.length), R F h (chunk m ys k) K[k]) (hF : ∀ x, F x → n ≤ x ∧ x < h.next ∧ ¬ ObjIn v x)
    (h1 : elT P t = some e) (h2 : szT P e = some m) (h3 : zeroT P e = some z) (hz : z.cells.size = m) (h4 : byT P e = some b) (hb : b ≠ 0) (hb8 : b ≤ 64) (h5 : srcT P t' = true) (hl : L.length + K.length < 2 ^ 40)
    (hn : n ≤ h.next) (hA : Adds h0 h) (h0n : h0.next ≤ n) :
    ∃ v' h', appendD P t t' v y h = some (v', h') ∧ GL m R n h' v' (L ++ K) ∧ Adds h0 h' ∧ h.next ≤ h'.next ∧ (∀ o, o < h.next → ¬ ObjIn v o → h'.get o = h.get o) ∧ ∀ o, ObjIn v' o → ObjIn v o ∨ h.next ≤ o := by
  by_cases hy0 : K.length = 0
  · have := List.length_eq_zero_iff.1 hy0
    subst this
    refine ⟨v, h, ?_, by simpa using hs, hA, Nat.le_refl _, fun _ _ _ => rfl, fun o ho => .inl ho⟩
    simp only [appendD, h1, h2, h3, h4, hsrc, h5]
    rcases hs with ⟨rfl, rfl⟩ | ⟨o, ex, cs, rfl, g1, g2, g3⟩ <;> simp [hb, hz]
  have hbb : (L.length + K.length) * b ≤ 140737488355328 := Nat.le_trans (Nat.mul_le_mul (Nat.le_of_lt hl) hb8) (by decide)
  have hbb1 : K.length * b ≤ 140737488355328 := Nat.le_trans (Nat.mul_le_mul_right _ (by omega)) hbb
  have hne : K ≠ [] := fun e => hy0 (by rw [e]; rfl)
  rcases hs with ⟨rfl, rfl⟩ | ⟨o, ex, cs, rfl, g1, g2, g3, g4, g5⟩
  · refine ⟨.slice (some ⟨h.next, 0, none⟩) K.length K.length, h.alloc (.cells ys true false m), ?_, .inr ⟨h.next, false, ys, rfl, hn, Nat.lt_succ_self _, by simp, hyl, fun k hk => ?_⟩, by simp [hA], Nat.le_succ _, fun o ho _ => by simp [Nat.ne_of_lt ho], fun o ho => .inr (by cases ho; exact Nat.le_refl _)⟩
    · simp only [appendD, h1, h2, h3, h4, hsrc, h5]
      simp [hb, hbb1, hne, hz]
    · exact hR.mono _ _ h _ _ _ (hy k hk) (fun x hx => ⟨(hF x hx).1, by have := (hF x hx).2.1; omega⟩) (.of_keeps (Keeps.alloc _ _))
  · have hmm : (L.length + K.length) * m = L.length * m + K.length * m := Nat.add_mul _ _ _
    have hcs : (cs.drop 0).take (L.length * m) = cs := by rw [List.drop_zero, List.take_of_length_le (by omega)]
    have hsame : ∀ G : Nat → Prop, (∀ x, G x → x ≠ o ∧ x < h.next) → Same G h (growHp h o ex (.cells (cs ++ ys) true false m)) := fun G hG => by
      refine ⟨by cases ex <;> simp [growHp], fun x hx hl => ?_⟩
      have e1 : x ≠ h.next := by have := (hG x hx).2; omega
      have e2 : x ≠ o := (hG x hx).1
      cases ex <;> simp [growHp, e1, e2]
    have hgo : (growHp h o ex (.cells (cs ++ ys) true false m)).get h.next = .cells (cs ++ ys) true false m := by cases ex <;> simp [growHp]
    have hgn : (growHp h o ex (.cells (cs ++ ys) true false m)).next = h.next + 1 := by cases ex <;> simp [growHp]
    refine ⟨.slice (some ⟨h.next, 0, none⟩) (L.length + K.length) (L.length + K.length), growHp h o ex (.cells (cs ++ ys) true false m), ?_, .inr ⟨h.next, false, cs ++ ys, by simp, hn, by rw [hgn]; exact Nat.lt_succ_self _, hgo, by simp [g4, hyl, hmm], fun k hk => ?_⟩, hA.grow (by omega) (fun _ => rfl), by rw [hgn]; exact Nat.le_succ _, fun i hi hin => ?_, fun i hi => .inr (by cases hi; exact Nat.le_refl _)⟩
    · simp only [appendD, h1, h2, h3, h4, hsrc, h5, g3]
      simp only [Nat.zero_add, g4, Nat.le_refl, if_true, hcs, hz]
      simp [hb, hbb, hne, show ¬ (L.length + K.length ≤ L.length) by omega]
    · simp only [List.length_append] at hk
      by_cases hkl : k < L.length
      · rw [chunk_app1 g4 hkl, List.getElem_append_left hkl]
        have h6 := g5 k hkl
        -- what the old elements read is not the new object
        have h7 : R (fun x => (n ≤ x ∧ x ≠ o) ∧ x < h.next) h (chunk m cs k) L[k] → R (fun x => n ≤ x ∧ x ≠ h.next) (growHp h o ex (.cells (cs ++ ys) true false m)) (chunk m cs k) L[k] := fun q =>
          hR.mono _ _ h _ _ _ q (fun x hx => ⟨hx.1.1, by have := hx.2; omega⟩) (hsame _ fun x hx => ⟨hx.1.2, hx.2⟩)
        exact h7 (hR.low _ _ _ _ h6)
      · rw [chunk_app2 g4 (by omega), List.getElem_append_right (by omega)]
        exact hR.mono _ _ h _ _ _ (hy (k - L.length) (by omega)) (fun x hx => ⟨(hF x hx).1, by have := (hF x hx).2.1; omega⟩) (hsame _ fun x hx => ⟨fun e => (hF x hx).2.2 e.symm, (hF x hx).2.1⟩)
    · have e1 : i ≠ h.next := by omega
      have e2 : i ≠ o := fun e => hin e.symm
      cases ex <;> simp [growHp, e1, e2]
end
section
variable {α : Type} {m : Nat} {R : (Nat → Prop) → Hp → List Value → α → Prop}
end
theorem SlF.low {α : Type} {F : Nat → Prop} {R R' : Hp → Value → α → Prop} {h : Hp} (hR : ∀ u x, R h u x → R' h u x) {v : Value} {xs : List α} (hs : SlF F R h v xs) : SlF (fun o => F o ∧ o < h.next) R' h v xs := by
  obtain ⟨s, c, e, hc, hc', hx⟩ := hs
  refine ⟨s, c, e, hc, hc', fun k x hk' => ?_⟩
  obtain ⟨o, i, cs, own, ex, es, h1, hf, h2, h3, h4, h5⟩ := hx k x hk'
  exact ⟨o, i, cs, own, ex, es, h1, ⟨hf, h2⟩, h2, h3, h4, hR _ _ h5⟩
theorem IntsF.low {F : Nat → Prop} {h : Hp} {v : Value} {xs : List Int} (hs : IntsF F h v xs) : IntsF (fun o => F o ∧ o < h.next) h v xs := SlF.low (R := isInt) (R' := isInt) (fun _ _ h => h) hs
def rowR (F : Nat → Prop) (h : Hp) (u : List Value) (xs : List Int) : Prop := ∃ v, u = [v] ∧ IntsF F h v xs
def RowsG (n : Nat) (h : Hp) (v : Value) (L : List (List Int)) : Prop := GL 1 rowR n h v L
end Go.Eng
namespace Go.Proofs.Ytnnjehonbolliaa
set_option linter.unusedSimpArgs false
set_option linter.unusedVariables false
set_option maxHeartbeats 4000000
open Go Go.Eng
attribute [local irreducible] WD RunD PreD Runs CallOK
theorem nodup_len {α : Type} [DecidableEq α] : ∀ {l m : List α}, l.Nodup → (∀ x ∈ l, x ∈ m) → l.length ≤ m.length
  | [], m, _, _ => Nat.zero_le _
  | a :: l, m, hn, hs => by
    have ha := hs a (by simp)
    have h1 := nodup_len (l := l) (m := m.erase a) (List.nodup_cons.1 hn).2 fun x hx => (List.mem_erase_of_ne (fun e => by subst e; exact (List.nodup_cons.1 hn).1 hx)).2 (hs x (by simp [hx]))
    rw [List.length_erase_of_mem ha] at h1
    have := List.length_pos_of_mem ha
    simp; omega
def vecs : Nat → List (List Int)
  | 0 => [[]]
  | n + 1 => (List.range 61).flatMap fun (a : Nat) => (vecs n).map fun l => (a : Int) :: l
theorem vecs_len : ∀ n, (vecs n).length = 61 ^ n
  | 0 => rfl
  | n + 1 => by
    rw [vecs, List.length_flatMap]
    have : (List.range 61).map (fun (a : Nat) => ((vecs n).map fun l => (a : Int) :: l).length) = List.replicate 61 (61 ^ n) := by
      refine List.ext_getElem (by simp) fun i h1 h2 => ?_
      rw [List.getElem_map, List.getElem_replicate, List.length_map, vecs_len n]
    rw [this, List.sum_replicate_nat, Nat.pow_succ, Nat.mul_comm]
theorem vecs_mem : ∀ {x : List Int}, (∀ y ∈ x, 0 ≤ y ∧ y ≤ 60) → x ∈ vecs x.length
  | [], _ => by simp [vecs]
  | a :: x, h => by
    have h1 := h a (by simp)
    refine List.mem_flatMap.2 ⟨a.toNat, by simp; omega, List.mem_map.2 ⟨x, vecs_mem fun y hy => h y (by simp [hy]), ?_⟩⟩
    congr 1; omega
theorem nn_list {x : List Int} (h : ∀ i, 0 ≤ x.getD i 0) : ∀ y ∈ x, 0 ≤ y := fun y hy => by
  obtain ⟨i, hi, rfl⟩ := List.getElem_of_mem hy
  have := h i
  rwa [getD_at hi] at this
theorem Rn.small {L : List (List Int)} {A x B : List Int} (h : Rn L A x B) (hx : x.sum ≤ 60) : ∀ y ∈ x, 0 ≤ y ∧ y ≤ 60 := fun y hy => by
  have h1 := nn_list h.nn
  exact ⟨h1 y hy, by have := le_sum h1 hy; omega⟩
theorem StI.small {L : List (List Int)} {A : List Int} {k : Nat} {S : List RSt} (h : StI L A k S) (hs : Shape L A.length) (hk : k ≤ 60) : S.length ≤ 844596301 := by
  have h1 := nodup_len h.nd (m := vecs A.length) fun x hx => by
    obtain ⟨s, hm, rfl⟩ := List.mem_map.1 hx
    obtain ⟨hr, he⟩ := h.rn s hm
    have := vecs_mem (hr.small (by omega))
    rwa [hr.len.2] at this
  rw [List.length_map, vecs_len] at h1
  have h2 : 61 ^ A.length ≤ 61 ^ 5 := Nat.pow_le_pow_right (by decide) hs.le
  have : 61 ^ 5 = 844596301 := by decide
  omega
def stR (F : Nat → Prop) (h : Hp) (u : List Value) (s : RSt) : Prop := ∃ v w, u = [v, w, .int .i64 ((capN s.w : Nat) : Int)] ∧ IntsF F h v s.x ∧ IntsF F h w s.b
theorem stR_steady : Steady stR where
  mono F G h h' u s := by
    rintro ⟨v, w, rfl, hv, hw⟩ hfg hk
    exact ⟨v, w, rfl, (hv.same hk).sub hfg, (hw.same hk).sub hfg⟩
  low F h u s := by
    rintro ⟨v, w, rfl, hv, hw⟩
    exact ⟨v, w, rfl, hv.low, hw.low⟩
theorem chunk3_iff {cs : List Value} {k : Nat} {a b c : Value} : chunk 3 cs k = [a, b, c] ↔ cs[k * 3]? = some a ∧ cs[k * 3 + 1]? = some b ∧ cs[k * 3 + 2]? = some c := by
  unfold chunk
  constructor
  · intro e
    have h0 : ((cs.drop (k * 3)).take 3)[0]? = some a := by rw [e]; rfl
    have h1 : ((cs.drop (k * 3)).take 3)[1]? = some b := by rw [e]; rfl
    have h2 : ((cs.drop (k * 3)).take 3)[2]? = some c := by rw [e]; rfl
    simp only [List.getElem?_take, List.getElem?_drop] at h0 h1 h2
    exact ⟨by simpa using h0, by simpa using h1, by simpa using h2⟩
  · rintro ⟨h0, h1, h2⟩
    refine List.ext_getElem? fun i => ?_
    rw [List.getElem?_take, List.getElem?_drop]
    match i with
    | 0 => simpa using h0
    | 1 => simpa using h1
    | 2 => simpa using h2
    | i + 3 => simp; omega
theorem stG_at {n : Nat} {h : Hp} {v : Value} {S : List RSt} (hs : GL 3 stR n h v S) {k : Nat} (hk : k < S.length) :
    ∃ o cs ex y z, v = .slice (some ⟨o, 0, none⟩) S.length S.length ∧ (n ≤ o ∧ o < h.next) ∧ h.get o = .cells cs true ex 3 ∧ cs.length = S.length * 3 ∧ (cs.drop (k * 3)).take 3 = [y, z, .int .i64 ((capN S[k].w : Nat) : Int)] ∧
      (cs[k * 3]? = some y ∧ cs[k * 3 + 1]? = some z ∧ cs[k * 3 + 2]? = some (.int .i64 ((capN S[k].w : Nat) : Int))) ∧ IntsF (fun x => n ≤ x ∧ x ≠ o) h y S[k].x ∧ IntsF (fun x => n ≤ x ∧ x ≠ o) h z S[k].b := by
  rcases hs with ⟨rfl, _⟩ | ⟨o, ex, cs, e, h1, h2, h3, h4, h5⟩
  · simp at hk
  · obtain ⟨y, z, hc, hy, hz⟩ := h5 k hk
    exact ⟨o, cs, ex, y, z, e, ⟨h1, h2⟩, h3, h4, hc, chunk3_iff.1 hc, hy, hz⟩
theorem stG_add {n o : Nat} {h : Hp} {v : Value} {S : List RSt} {cs : List Value} {ex : Bool} {k w : Nat} (hs : GL 3 stR n h v S) (hk : k < S.length) (hv : v = .slice (some ⟨o, 0, none⟩) S.length S.length) (hg : h.get o = .cells cs true ex 3) :
    GL 3 stR n (h.put o (.cells (cs.set (k * 3 + 2) (.int .i64 ((capN (S[k].w + w) : Nat) : Int))) true ex 3)) v (addS S k w) := by
  rcases hs with ⟨rfl, _⟩ | ⟨o', ex', cs', e, h1, h2, h3, h4, h5⟩
  · simp at hk
  · rw [e] at hv
    cases hv
    rw [h3] at hg
    cases hg
    refine .inr ⟨o, ex, cs.set (k * 3 + 2) (.int .i64 ((capN (S[k].w + w) : Nat) : Int)), by simpa [addS] using e, h1, h2, by simp, by simpa [addS] using h4, fun i hi => ?_⟩
    have hi' : i < S.length := by simpa [addS] using hi
    obtain ⟨y, z, hc, hy, hz⟩ := h5 i hi'
    have hsame : Same (fun x => n ≤ x ∧ x ≠ o) h (h.put o (.cells (cs.set (k * 3 + 2) (.int .i64 ((capN (S[k].w + w) : Nat) : Int))) true ex 3)) := Same.put (Same.refl _ _) (fun e => e.2 rfl) _
    have ⟨c1, c2, c3⟩ := chunk3_iff.1 hc
    by_cases e : k = i
    · subst e
      have ee : (addS S k w)[k] = ⟨S[k].x, S[k].b, S[k].w + w⟩ := by simp [addS, List.getD_eq_getElem?_getD, hk]
      rw [ee]
      refine ⟨y, z, chunk3_iff.2 ⟨by rw [List.getElem?_set_ne (by omega)]; exact c1, by rw [List.getElem?_set_ne (by omega)]; exact c2, ?_⟩, hy.same hsame, hz.same hsame⟩
      rw [List.getElem?_set]; simp; omega
    · have ee : (addS S k w)[i] = S[i] := by simp [addS, List.getElem_set, e]
      rw [ee]
      exact ⟨y, z, chunk3_iff.2 ⟨by rw [List.getElem?_set_ne (by omega)]; exact c1, by rw [List.getElem?_set_ne (by omega)]; exact c2, by rw [List.getElem?_set_ne (by omega)]; exact c3⟩, hy.same hsame, hz.same hsame⟩
theorem appSt {n c : Nat} {h0 h : Hp} {v y z : Value} {S : List RSt} {x b : List Int} (hs : GL 3 stR n h v S) (hy : IntsF (fun o => c ≤ o) h y x) (hz : IntsF (fun o => c ≤ o) h z b) (hc : n ≤ c ∧ ∀ o, ObjIn v o → o < c) (w : Nat) (hl : S.length < 2 ^ 39) (hA : Adds h0 h) (h0n : h0.next ≤ n) (hn : n ≤ h.next) :
    ∃ v' h', appendD Try.prog 90 90 v (.slice (some ⟨h.next, 0, none⟩) 1 1) (h.alloc (.cells [y, z, .int .i64 ((capN w : Nat) : Int)] true true 3)) = some (v', h') ∧ GL 3 stR n h' v' (S ++ [⟨x, b, w⟩]) ∧ Adds h0 h' ∧ h.next < h'.next ∧ (∀ o, o < h.next → ¬ ObjIn v o → h'.get o = h.get o) ∧ ∀ o, ObjIn v' o → ObjIn v o ∨ h.next ≤ o := by
  have k2 : Adds h (h.alloc (.cells [y, z, .int .i64 ((capN w : Nat) : Int)] true true 3)) := (by first | exact aK | exact kK)
  obtain ⟨v', h', g1, g2, g3, g4, g5, g6⟩ := GL.append2 (P := Try.prog) (t := 90) (t' := 90) (z := .agg #[.slice none 0 0, .slice none 0 0, .int .i64 0]) (b := 56) (K := [⟨x, b, w⟩]) (ys := [y, z, .int .i64 ((capN w : Nat) : Int)]) (F := fun o => c ≤ o ∧ o < h.next) (y := .slice (some ⟨h.next, 0, none⟩) 1 1) (h0 := h0) stR_steady
    (hs.keep stR_steady k2.1) (by simp [srcV, srcW]) rfl (fun k hk => by
      have : k = 0 := by simp at hk; exact hk
      subst this
      exact ⟨y, z, rfl, hy.low.keep k2.1, hz.low.keep k2.1⟩) (fun x hx => ⟨by omega, by simp; omega, fun hob => by have := hc.2 x hob; omega⟩)
    ty_elT_90 (by simp) (by simp) rfl (by simp) (by decide) (by decide) (by simp) (by simp; omega) (by simp; omega) (hA.trans k2) h0n
  exact ⟨v', h', g1, g2, g3, Nat.lt_of_lt_of_le (by simp) g4, fun o ho hon => by rw [g5 o (by simp; omega) hon]; simp [Nat.ne_of_lt ho], fun o ho => (g6 o ho).imp id fun h => Nat.le_of_lt (Nat.lt_of_lt_of_le (by simp) h)⟩
theorem l1SameD_ok (h : Hp) (v w : Value) (X Y : List Int) (hv : Ints h v X) (hw : Ints h w Y) : CallOK Try.prog 100 #[v, w] h (.bool (decide (X = Y))) h := by
  refine callY_P 26 _ [.tmp 4] Try.func100 rfl rfl rfl (by first | rfl | simp) ?_
  have hL := hv.lenD
  have hM := hw.lenD
  have hlx := hv.len
  have hly := hw.len
  by_cases hl : X.length = Y.length
  · have hlb : ((X.length : Int) != (Y.length : Int)) = false := by simp [hl]
    try simp (disch := first | omega | (simp; done) | fail) [wrap64c, if_pos, if_neg, hL, hM, hlb]
    refine WD_loopC [0, 1, 12] (fun m tm h' => ∃ j, m = X.length - j ∧ h = h' ∧ tm 13 = .int .i64 (j : Int) ∧ (j ≤ X.length) ∧ (∀ i (h1 : i < X.length) (h2 : i < Y.length), i < j → X[i] = Y[i])) _ ⟨0, rfl, rfl, (by simp (disch := first | omega | (simp; done) | fail) [wrap64c, if_pos, if_neg, hL, hM, hlb]), (by first | omega | assumption | (simp (disch := first | omega | (simp; done) | fail) [wrap64c, if_pos, if_neg, hL, hM, hlb] <;> omega)), (by intro i h1 h2 h3; omega)⟩ ?_
    rintro m tm h' hFr ⟨j, rfl, rfl, e13, hj, hx⟩
    simp only [FrameL] at hFr
    obtain ⟨f0_0, f1_0, f12_0, -⟩ := hFr
    try simp (disch := first | omega | (simp; done) | fail) [wrap64c, if_pos, if_neg, hL, hM, hlb] at f0_0 f1_0 f12_0
    have e0 := f0_0
    have e1 := f1_0
    have e12 := f12_0
    by_cases hlt : j < X.length
    · have hlt2 : j < Y.length := by omega
      obtain ⟨o_x, i_x, c_x, cs_x, own_x, ex_x, es_x, q_x, b_x, g_x, l_x, r_x⟩ := hv.open ((by omega))
      have z_x : ∀ h2 : i_x < cs_x.length, cs_x[i_x] = _ := fun h2 => r_x 0 ((by omega)) h2
      obtain ⟨o_y, i_y, c_y, cs_y, own_y, ex_y, es_y, q_y, b_y, g_y, l_y, r_y⟩ := hw.open ((by omega))
      have z_y : ∀ h2 : i_y < cs_y.length, cs_y[i_y] = _ := fun h2 => r_y 0 ((by omega)) h2
      try simp (disch := first | omega | (simp; done) | fail) [wrap64c, if_pos, if_neg, hL, hM, hlb, e0, e1, e12, e13, hlt, hlt2, q_x, g_x, l_x, r_x, z_x, q_y, g_y, l_y, r_y, z_y]
      refine WD_drawC 8 rfl (by kernel_rfl) ?_
      by_cases he : X[j] = Y[j]
      · have hb : (X[j] != Y[j]) = false := by simp [he]
        try simp (disch := first | omega | (simp; done) | fail) [wrap64c, if_pos, if_neg, hL, hM, hlb, e0, e1, e12, e13, hlt, hlt2, q_x, g_x, l_x, r_x, z_x, q_y, g_y, l_y, r_y, z_y, hb]
        refine loopK_next _ ?hm ?hf ⟨j + 1, rfl, rfl, (by simp (disch := first | omega | (simp; done) | fail) [wrap64c, if_pos, if_neg, hL, hM, hlb, e0, e1, e12, e13, hlt, hlt2, q_x, g_x, l_x, r_x, z_x, q_y, g_y, l_y, r_y, z_y] <;> omega), (by first | omega | assumption | (simp (disch := first | omega | (simp; done) | fail) [wrap64c, if_pos, if_neg, hL, hM, hlb, e0, e1, e12, e13, hlt, hlt2, q_x, g_x, l_x, r_x, z_x, q_y, g_y, l_y, r_y, z_y] <;> omega)), ?c_hx⟩
        (case hm => first | omega | (simp; omega))
        (case hf => simp [FrameL, hL, hM, hlb, e0, e1, e12, e13, hlt, hlt2, q_x, g_x, l_x, r_x, z_x, q_y, g_y, l_y, r_y, z_y, f0_0, f1_0, f12_0])
        case c_hx =>
          exact (fun i h1 h2 hi => by
            by_cases e : i = j
            · subst e; exact he
            · exact hx i h1 h2 (by omega))
      · have hb : (X[j] != Y[j]) = true := by simp [he]
        have hne : ¬ X = Y := fun e => he (by subst e; rfl)
        try simp (disch := first | omega | (simp; done) | fail) [wrap64c, if_pos, if_neg, hL, hM, hlb, e0, e1, e12, e13, hlt, hlt2, q_x, g_x, l_x, r_x, z_x, q_y, g_y, l_y, r_y, z_y, hb]
        exact done_ret rfl (by simp [hne])
    · try simp (disch := first | omega | (simp; done) | fail) [wrap64c, if_pos, if_neg, hL, hM, hlb, e0, e1, e12, e13, hlt]
      have e : X = Y := List.ext_getElem hl fun i h1 h2 => hx i h1 h2 (by omega)
      exact done_ret rfl (by simp [e])
  · have hlb : ((X.length : Int) != (Y.length : Int)) = true := by simp [hl]
    try simp (disch := first | omega | (simp; done) | fail) [wrap64c, if_pos, if_neg, hL, hM, hlb]
    have hne : ¬ X = Y := fun e => hl (by rw [e])
    exact done_ret rfl (by simp [hne])
end Go.Proofs.Ytnnjehonbolliaa
namespace Go.Proofs.Ytnnjehonbolliaa
set_option linter.unusedSimpArgs false
set_option linter.unusedVariables false
set_option maxHeartbeats 4000000
open Go Go.Eng
attribute [local irreducible] WD RunD PreD Runs CallOK
theorem zarr3s (a b c : Value) : zarr #[a, b, c] 3 = #[a, b, c] := by
  unfold zarr
  apply Array.ext
  · simp
  · intro i h1 h2
    have : i = 0 ∨ i = 1 ∨ i = 2 := by simp at h2; omega
    rcases this with rfl | rfl | rfl <;> simp
theorem GL.weak {α : Type} {m n n' : Nat} {R : (Nat → Prop) → Hp → List Value → α → Prop} (hR : Steady R) {h : Hp} {v : Value} {S : List α} (hs : GL m R n' h v S) (hn : n ≤ n') : GL m R n h v S := by
  rcases hs with ⟨rfl, rfl⟩ | ⟨o, ex, cs, rfl, h1, h2, h3, h4, h5⟩
  · exact .inl ⟨rfl, rfl⟩
  · exact .inr ⟨o, ex, cs, rfl, by omega, h2, h3, h4, fun k hk => hR.mono _ _ _ _ _ _ (h5 k hk) (fun o ho => ⟨by omega, ho.2⟩) (Same.refl _ _)⟩
theorem waStates_ok {L : List (List Int)} {A X E : List Int} {R k : Nat} (f : FinR L A X E R) (hs : Shape L A.length) (ho : Ok L A) (hR : R ≤ 60) (hk : k < R) (h : Hp) (v w : Value) (S : List RSt) (B : Nat) (hv : Chips h v L A) (hw : GL 3 stR B h w S) (hS : StI L A k S) :
    ∃ v' h', CallOK Try.prog 82 #[v, w] h v' h' ∧ Adds h h' ∧ GL 3 stR h.next h' v' (stepS L S) := by
  refine callY_L (args := [v, w]) 82 _ [.tmp 4] Try.func82 rfl rfl rfl ?_
  have hv0 := hv
  obtain ⟨a, b, rfl, hL, hA⟩ := hv
  have hSl := hS.small hs (by omega)
  refine WD_first ?_
  try simp (disch := first | omega | (simp; done) | fail) [wrap64c, if_pos, if_neg]
  refine stopK_heap fun h0 q_h0 => ?_
  refine stopK_go ?_
  have g_h0 : h0.get h.next = .cells [a, b] true true 1 := by simp [q_h0]
  have k_h0 : Adds h h0 := by rw [q_h0]; exact (by first | exact aK | exact kK)
  have n_h0 : h.next < h0.next := by simp [q_h0]; try omega
  have lS := hw.lenD
  try simp (disch := first | omega | (simp; done) | fail) [wrap64c, if_pos, if_neg, g_h0, lS]
  refine WD_loopC [2, 12, 13] (fun m tm h' => ∃ j u, m = S.length - j ∧ tm 5 = u ∧ tm 14 = .int .i64 (j : Int) ∧ (j ≤ S.length) ∧ (Adds h h') ∧ (h0.next ≤ h'.next) ∧ (h'.get h.next = .cells [a, b] true true 1) ∧ (GL 3 stR h0.next h' u ((S.take j).foldl (fun out s => moveS L s out (movesL L s.b)) []))) _ ⟨0, .slice none 0 0, rfl, (by simp (disch := first | omega | (simp; done) | fail) [wrap64c, if_pos, if_neg, g_h0, lS]), (by simp (disch := first | omega | (simp; done) | fail) [wrap64c, if_pos, if_neg, g_h0, lS]), (by first | omega | assumption | (simp (disch := first | omega | (simp; done) | fail) [wrap64c, if_pos, if_neg, g_h0, lS] <;> omega)), (by first | exact aK | exact kK), (by first | omega | assumption | (simp (disch := first | omega | (simp; done) | fail) [wrap64c, if_pos, if_neg, g_h0, lS] <;> omega)), g_h0, (.nil _ _)⟩ ?_
  rintro m tm h' hFr ⟨j, u, rfl, e5, e14, hj, ha, hn, gc, hg⟩
  simp only [FrameL] at hFr
  obtain ⟨f2_0, f12_0, f13_0, -⟩ := hFr
  try simp (disch := first | omega | (simp; done) | fail) [wrap64c, if_pos, if_neg, g_h0, lS] at f2_0 f12_0 f13_0
  have e2 := f2_0
  have e12 := f12_0
  have e13 := f13_0
  rename Hp => hq
  have hS1 : ∀ s ∈ S.take j, Rn L A s.x s.b ∧ s.x.sum = k := fun s hm => hS.rn s (List.mem_of_mem_take hm)
  have hO := (stepS_inv f hs hk (fun _ => 0) hS1 (StI.nil L A (k + 1))).1
  have lu := hg.lenD
  by_cases hlt : j < S.length
  · obtain ⟨os, cs, exs, y, z, y1, y2, y3, y4, y5, ⟨y6, y7, y8⟩, y9, y10⟩ := stG_at hw hlt
    have y3q : hq.get os = .cells cs true exs 3 := by rw [ha.1.2 _ y2.2]; exact y3
    have y1' := y1
    have hj3 : j * 3 + 3 ≤ S.length * 3 := by omega
    have nty := y9.ints.nt
    have csy := y9.ints.cs
    have ntz := y10.ints.nt
    have csz := y10.ints.cs
    try simp (disch := first | omega | (simp; done) | fail) [wrap64c, if_pos, if_neg, g_h0, lS, e2, e5, e12, e13, e14, gc, lu, hlt, y3q, y1', y4, y5, y6, y7, y8, hj3, nty, csy, ntz, csz, putCells]
    first | refine WY_heap fun h1 q_h1 => ?_ | refine callG_heap fun h1 q_h1 => ?_ | refine callP_heap fun h1 q_h1 => ?_ | refine callS_heap fun h1 q_h1 => ?_ | refine RY_heap fun h1 q_h1 => ?_ | refine PY_heap fun h1 q_h1 => ?_ | refine SY_heap fun h1 q_h1 => ?_ | refine doneY_heap fun h1 q_h1 => ?_ | refine loopK_heap fun h1 q_h1 => ?_ | refine thenY_heap fun h1 q_h1 => ?_ | refine thenM_heap fun h1 q_h1 => ?_
    have k1 : Adds hq h1 := by rw [q_h1]; exact (by first | exact aK | exact kK)
    have n1 : h1.next = hq.next + 1 := by simp [q_h1]
    have g1 : h1.get hq.next = .cells [y, z, .int .i64 ((capN S[j].w : Nat) : Int)] true true 1 := by simp [q_h1]
    have gc1 : h1.get h.next = .cells [a, b] true true 1 := by rw [k1.1.2 _ (by omega)]; exact gc
    obtain ⟨hrn, hsx⟩ := hS.rn _ (List.getElem_mem hlt)
    have hlen := hrn.len
    have hoB := hrn.ok ho
    have hsb : Shape L S[j].b.length := hoB.sh
    have h5 := hsb.le
    obtain ⟨q, h2, hc2, ha2, hq2⟩ := waMoves_ok h1 (.agg #[a, b]) z L A S[j].b (hv0.keep (ha.trans k1).1) (y10.ints.keep (ha.trans k1).1) hsb
    have n2 := ha2.1.1
    have g2 : h2.get hq.next = .cells [y, z, .int .i64 ((capN S[j].w : Nat) : Int)] true true 1 := by rw [ha2.1.2 _ (by omega)]; exact g1
    have gc2 : h2.get h.next = .cells [a, b] true true 1 := by rw [ha2.1.2 _ (by omega)]; exact gc1
    obtain ⟨M, hM⟩ : ∃ M, M = movesL L S[j].b := ⟨_, rfl⟩
    have hMl : M.length ≤ 5 := by rw [hM]; have := movesL_length L S[j].b; omega
    rw [← hM] at hq2
    have lM := hq2.lenD
    obtain ⟨P0, hP0⟩ : ∃ P, P = (S.take j).foldl (fun out s => moveS L s out (movesL L s.b)) [] := ⟨_, rfl⟩
    rw [← hP0] at hg hO
    have A2 : Adds h h2 := (ha.trans k1).trans ha2
    try simp (disch := first | omega | (simp; done) | fail) [wrap64c, if_pos, if_neg, g_h0, lS, e2, e5, e12, e13, e14, gc, lu, hlt, y3q, y1', y4, y5, y6, y7, y8, hj3, nty, csy, ntz, csz, g1, gc1, lM]
    refine callG_c (by simp) (by simp) ?ha (hc2) ?_
    (case ha => simp (disch := first | omega | (simp; done) | fail) [wrap64c, if_pos, if_neg, g_h0, lS, e2, e5, e12, e13, e14, gc, lu, hlt, y3q, y1', y4, y5, y6, y7, y8, hj3, nty, csy, ntz, csz, g1, gc1, lM])
    try simp (disch := first | omega | (simp; done) | fail) [wrap64c, if_pos, if_neg, g_h0, lS, e2, e5, e12, e13, e14, gc, lu, hlt, y3q, y1', y4, y5, y6, y7, y8, hj3, nty, csy, ntz, csz, g1, gc1, lM]
    refine WD_loopC [2, 7, 12, 13, 14, 21, 22] (fun m tm h' => ∃ e u1, m = M.length - e ∧ tm 5 = u1 ∧ tm 23 = .int .i64 (e : Int) ∧ (e ≤ M.length) ∧ (Adds h h') ∧ (Same (fun o => hq.next ≤ o ∧ o < h2.next) h2 h') ∧ (h'.get h.next = .cells [a, b] true true 1) ∧ (GL 3 stR h0.next h' u1 (moveS L S[j] P0 (M.take e))) ∧ (∀ o, ObjIn u1 o → o < hq.next ∨ h2.next ≤ o)) _ ⟨0, u, rfl, (by simp (disch := first | omega | (simp; done) | fail) [wrap64c, if_pos, if_neg, g_h0, lS, e2, e5, e12, e13, e14, gc, lu, hlt, y3q, y1', y4, y5, y6, y7, y8, hj3, nty, csy, ntz, csz, g1, gc1, lM]), (by simp (disch := first | omega | (simp; done) | fail) [wrap64c, if_pos, if_neg, g_h0, lS, e2, e5, e12, e13, e14, gc, lu, hlt, y3q, y1', y4, y5, y6, y7, y8, hj3, nty, csy, ntz, csz, g1, gc1, lM]), (by first | omega | assumption | (simp (disch := first | omega | (simp; done) | fail) [wrap64c, if_pos, if_neg, g_h0, lS, e2, e5, e12, e13, e14, gc, lu, hlt, y3q, y1', y4, y5, y6, y7, y8, hj3, nty, csy, ntz, csz, g1, gc1, lM] <;> omega)), A2, (Same.refl _ _), gc2, ((hg.keep stR_steady k1.1).keep stR_steady ha2.1), (fun o ho => .inl (hg.obj ho).2)⟩ ?_
    rintro m tm h' hFr ⟨e, u1, rfl, e5, e23, he, ha3, hm3, gc3, hg3, ho3⟩
    simp only [FrameL] at hFr
    obtain ⟨f2_1, f7_1, f12_1, f13_1, f14_1, f21_1, f22_1, -⟩ := hFr
    try simp (disch := first | omega | (simp; done) | fail) [wrap64c, if_pos, if_neg, g_h0, lS, e2, e5, e12, e13, e14, gc, lu, hlt, y3q, y1', y4, y5, y6, y7, y8, hj3, nty, csy, ntz, csz, g1, gc1, lM] at f2_1 f7_1 f12_1 f13_1 f14_1 f21_1 f22_1
    have e2 := f2_1
    have e7 := f7_1
    have e12 := f12_1
    have e13 := f13_1
    have e14 := f14_1
    have e21 := f21_1
    have e22 := f22_1
    rename Hp => hi
    have n3 := hm3.1
    have g3 : hi.get hq.next = .cells [y, z, .int .i64 ((capN S[j].w : Nat) : Int)] true true 1 := by rw [hm3.2 _ ⟨Nat.le_refl _, by omega⟩ (by omega)]; exact g2
    have hq3 := hq2.same ⟨hm3.1, fun o ho hl => hm3.2 o ⟨by have := ho.1; omega, ho.2⟩ hl⟩
    by_cases hle : e < M.length
    · obtain ⟨i, hi1, hiB, hiC, hxi, hr2, hs2, hR2⟩ := f.next hs hrn (show M[e] ∈ movesL L S[j].b by rw [← hM]; exact List.getElem_mem hle)
      have hi1' := hi1
      obtain ⟨o_x, i_x, c_x, cs_x, own_x, ex_x, es_x, q_x, b_x, g_x, l_x, r_x⟩ := (hq3.ints).open ((by omega))
      have z_x : ∀ h2 : i_x < cs_x.length, cs_x[i_x] = _ := fun h2 => r_x 0 ((by omega)) h2
      try simp (disch := first | omega | (simp; done) | fail) [wrap64c, if_pos, if_neg, g_h0, lS, e2, e5, e12, e13, e14, gc, lu, hlt, y3q, y1', y4, y5, y6, y7, y8, hj3, nty, csy, ntz, csz, g1, gc1, lM, e7, e21, e22, e23, gc3, g3, hle, hi1', q_x, g_x, l_x, r_x, z_x]
      obtain ⟨u4, h4, hc4, ha4, hu4, _⟩ := l1Own_ok hi y S[j].x (y9.ints.keep ha3.1) (by omega)
      have n4 := ha4.1.1
      refine callG_c (by simp) (by simp) ?ha (hc4) ?_
      (case ha => simp (disch := first | omega | (simp; done) | fail) [wrap64c, if_pos, if_neg, g_h0, lS, e2, e5, e12, e13, e14, gc, lu, hlt, y3q, y1', y4, y5, y6, y7, y8, hj3, nty, csy, ntz, csz, g1, gc1, lM, e7, e21, e22, e23, gc3, g3, hle, hi1', q_x, g_x, l_x, r_x, z_x])
      have nt4 := hu4.nt
      have cs4 := hu4.cs
      have g4 : h4.get hq.next = .cells [y, z, .int .i64 ((capN S[j].w : Nat) : Int)] true true 1 := by rw [ha4.1.2 _ (by omega)]; exact g3
      have gc4 : h4.get h.next = .cells [a, b] true true 1 := by rw [ha4.1.2 _ (by omega)]; exact gc3
      have hxb := hrn.small (by omega) _ (List.getElem_mem hxi)
      obtain ⟨oc, ic, cc, ccs, exc, qc, Sc, bc, ggc, lc, rc⟩ := hu4.open (by omega)
      have zcc := rc i hxi
      try simp (disch := first | omega | (simp; done) | fail) [wrap64c, if_pos, if_neg, g_h0, lS, e2, e5, e12, e13, e14, gc, lu, hlt, y3q, y1', y4, y5, y6, y7, y8, hj3, nty, csy, ntz, csz, g1, gc1, lM, e7, e21, e22, e23, gc3, g3, hle, hi1', q_x, g_x, l_x, r_x, z_x, nt4, cs4, qc, ggc, lc, zcc]
      have hwr := hu4.write qc hxi ggc (S[j].x[i] + 1)
      first | refine WY_heap fun h5 q_h5 => ?_ | refine callG_heap fun h5 q_h5 => ?_ | refine callP_heap fun h5 q_h5 => ?_ | refine callS_heap fun h5 q_h5 => ?_ | refine RY_heap fun h5 q_h5 => ?_ | refine PY_heap fun h5 q_h5 => ?_ | refine SY_heap fun h5 q_h5 => ?_ | refine doneY_heap fun h5 q_h5 => ?_ | refine loopK_heap fun h5 q_h5 => ?_ | refine thenY_heap fun h5 q_h5 => ?_ | refine thenM_heap fun h5 q_h5 => ?_
      have eh5 : h5 = h4.put oc (.cells (putCells ccs (ic + i) [.int .i64 (S[j].x[i] + 1)]) true exc 1) := by first | exact q_h5 | (rw [q_h5])
      rw [← eh5] at hwr
      have Sc1 := Sc.1
      have Sc2 := Sc.2
      have A4 := ha3.trans ha4
      have n5 : h5.next = h4.next := by rw [eh5]; simp
      have K5 : Keeps hi h5 := ⟨by omega, fun o ho => by rw [eh5]; simp [show o ≠ oc by omega]; exact ha4.1.2 o ho⟩
      have A5 : Adds h h5 := by rw [eh5]; exact (by first | exact aK | exact kK)
      have g5 : h5.get hq.next = .cells [y, z, .int .i64 ((capN S[j].w : Nat) : Int)] true true 1 := by rw [K5.2 _ (by omega)]; exact g3
      have gc5 : h5.get h.next = .cells [a, b] true true 1 := by rw [K5.2 _ (by omega)]; exact gc3
      have hg5 := hg3.keep stR_steady K5
      obtain ⟨P1, hP1⟩ : ∃ P, P = moveS L S[j] P0 (M.take e) := ⟨_, rfl⟩
      obtain ⟨X1, hX1⟩ : ∃ x, x = S[j].x.set i (S[j].x[i] + 1) := ⟨_, rfl⟩
      have hO1 : StI L A (k + 1) P1 := by
        rw [hP1]
        exact (moveS_inv f hs hrn hsx hk (fun _ => 0) (fun m hm => by rw [← hM]; exact List.mem_of_mem_take hm) hO).1
      have hPl := hO1.small hs (by omega)
      rw [← hP1] at hg5 hg3
      rw [← hX1] at hwr hr2 hs2
      have lu1 := hg5.lenD
      have nt5 := hwr.nt
      have cs5 := hwr.cs
      refine WD_loopC [2, 5, 7, 9, 10, 12, 13, 14, 21, 22, 23] (fun m tm h' => ∃ kk, m = P1.length - kk ∧ h5 = h' ∧ tm 11 = .int .i64 (kk : Int) ∧ (kk ≤ P1.length) ∧ (∀ c (hc : c < P1.length), c < kk → P1[c].x ≠ X1)) _ ⟨0, rfl, rfl, (by simp (disch := first | omega | (simp; done) | fail) [wrap64c, if_pos, if_neg, g_h0, lS, e2, e5, e12, e13, e14, gc, lu, hlt, y3q, y1', y4, y5, y6, y7, y8, hj3, nty, csy, ntz, csz, g1, gc1, lM, e7, e21, e22, e23, gc3, g3, hle, hi1', q_x, g_x, l_x, r_x, z_x, nt4, cs4, qc, ggc, lc, zcc, g5, gc5, lu1, nt5, cs5]), (by first | omega | assumption | (simp (disch := first | omega | (simp; done) | fail) [wrap64c, if_pos, if_neg, g_h0, lS, e2, e5, e12, e13, e14, gc, lu, hlt, y3q, y1', y4, y5, y6, y7, y8, hj3, nty, csy, ntz, csz, g1, gc1, lM, e7, e21, e22, e23, gc3, g3, hle, hi1', q_x, g_x, l_x, r_x, z_x, nt4, cs4, qc, ggc, lc, zcc, g5, gc5, lu1, nt5, cs5] <;> omega)), (fun c hc h0 => by omega)⟩ ?_
      rintro m tm h' hFr ⟨kk, rfl, rfl, e11, hkk, hx5⟩
      simp only [FrameL] at hFr
      obtain ⟨f2_2, f5_2, f7_2, f9_2, f10_2, f12_2, f13_2, f14_2, f21_2, f22_2, f23_2, -⟩ := hFr
      try simp (disch := first | omega | (simp; done) | fail) [wrap64c, if_pos, if_neg, g_h0, lS, e2, e5, e12, e13, e14, gc, lu, hlt, y3q, y1', y4, y5, y6, y7, y8, hj3, nty, csy, ntz, csz, g1, gc1, lM, e7, e21, e22, e23, gc3, g3, hle, hi1', q_x, g_x, l_x, r_x, z_x, nt4, cs4, qc, ggc, lc, zcc, g5, gc5, lu1, nt5, cs5] at f2_2 f5_2 f7_2 f9_2 f10_2 f12_2 f13_2 f14_2 f21_2 f22_2 f23_2
      have e2 := f2_2
      have e5 := f5_2
      have e7 := f7_2
      have e9 := f9_2
      have e10 := f10_2
      have e12 := f12_2
      have e13 := f13_2
      have e14 := f14_2
      have e21 := f21_2
      have e22 := f22_2
      have e23 := f23_2
      obtain ⟨B1, hB1⟩ : ∃ x, x = moveA L S[j].b i := ⟨_, rfl⟩
      have hsn : moveS L S[j] P0 (M.take (e + 1)) = insS P1 X1 B1 S[j].w := by
        rw [List.take_succ_eq_append_getElem hle, moveS_snoc, ← hP1, hi1, hX1, hB1]
        simp [hxi]
      have hm5 : Same (fun o => hq.next ≤ o ∧ o < h2.next) h2 h5 := hm3.trans (.of_keeps K5)
      obtain ⟨w2, hw2⟩ : ∃ w, w = capN S[j].w := ⟨_, rfl⟩
      have hw2l := capN_le S[j].w
      rw [← hw2] at g5 hw2l
      by_cases hkl : kk < P1.length
      · obtain ⟨oo, ds, exo, p, r, z1, z2, z3, z4, z5, ⟨z6, z7, z8⟩, z9, z10⟩ := stG_at hg5 hkl
        have z1' := z1
        have hk3 : kk * 3 + 3 ≤ P1.length * 3 := by omega
        have hk4 : kk * 3 < ds.length := by omega
        have w6 : ∀ h2 : kk * 3 < ds.length, ds[kk * 3] = p := fun h2 => (List.getElem?_eq_some_iff.1 z6).2
        try simp (disch := first | omega | (simp; done) | fail) [wrap64c, if_pos, if_neg, g_h0, lS, e2, e5, e12, e13, e14, gc, lu, hlt, y3q, y1', y4, y5, y6, y7, y8, hj3, nty, csy, ntz, csz, g1, gc1, lM, e7, e21, e22, e23, gc3, g3, hle, hi1', q_x, g_x, l_x, r_x, z_x, nt4, cs4, qc, ggc, lc, zcc, g5, gc5, lu1, nt5, cs5, e9, e10, e11, hkl, z1', z3, z4, z5, z6, z7, z8, hk3, hk4, w6]
        refine callG_c (by simp) (by simp) ?ha (l1SameD_ok h5 p u4 P1[kk].x X1 z9.ints hwr.ints) ?_
        (case ha => simp (disch := first | omega | (simp; done) | fail) [wrap64c, if_pos, if_neg, g_h0, lS, e2, e5, e12, e13, e14, gc, lu, hlt, y3q, y1', y4, y5, y6, y7, y8, hj3, nty, csy, ntz, csz, g1, gc1, lM, e7, e21, e22, e23, gc3, g3, hle, hi1', q_x, g_x, l_x, r_x, z_x, nt4, cs4, qc, ggc, lc, zcc, g5, gc5, lu1, nt5, cs5, e9, e10, e11, hkl, z1', z3, z4, z5, z6, z7, z8, hk3, hk4, w6])
        by_cases hsame : P1[kk].x = X1
        · have hsb2 : decide (P1[kk].x = X1) = true := by simp [hsame]
          have hix : ixS P1 X1 = kk := ixS_of (by omega) hx5 fun _ => hsame
          obtain ⟨P6, hP6⟩ : ∃ P, P = putS P1 X1 B1 := ⟨_, rfl⟩
          have hPP : P6 = P1 := by rw [hP6]; unfold putS; rw [if_neg (by omega)]
          have hg6 := hg5
          rw [← hPP] at hg6
          have gc6 := gc5
          have hm6 := hm5
          have A6 := A5
          have ho6 := ho3
          have hkn : ((kk : Int) == (P1.length : Int)) = false := by simp; omega
          try simp (disch := first | omega | (simp; done) | fail) [wrap64c, if_pos, if_neg, g_h0, lS, e2, e5, e12, e13, e14, gc, lu, hlt, y3q, y1', y4, y5, y6, y7, y8, hj3, nty, csy, ntz, csz, g1, gc1, lM, e7, e21, e22, e23, gc3, g3, hle, hi1', q_x, g_x, l_x, r_x, z_x, nt4, cs4, qc, ggc, lc, zcc, g5, gc5, lu1, nt5, cs5, e9, e10, e11, hkl, z1', z3, z4, z5, z6, z7, z8, hk3, hk4, w6, hsb2, hkn]
          have hlt6 : kk < P6.length := by rw [hP6, ← hix]; exact putS_len _ _ _
          obtain ⟨oo6, ds6, exo6, p6, r6, z1, z2, z3, z4, z5, ⟨z6, z7, z8⟩, z9, z10⟩ := stG_at hg6 hlt6
          have z1' := z1
          have hk3 : kk * 3 + 3 ≤ P6.length * 3 := by omega
          have hk5 : kk * 3 + 2 < ds6.length := by omega
          have w8 : ∀ h2 : kk * 3 + 2 < ds6.length, ds6[kk * 3 + 2] = .int .i64 ((capN P6[kk].w : Nat) : Int) := fun h2 => (List.getElem?_eq_some_iff.1 z8).2
          have hpc : ∀ x, putCells ds6 (kk * 3 + 2) [x] = ds6.set (kk * 3 + 2) x := fun x => by rw [List.set_eq_take_append_cons_drop, if_pos hk5]; simp [putCells]
          have hobj : ObjIn u1 oo6 := by rw [z1]; rfl
          have hoo := ho6 oo6 hobj
          have hadd := stG_add (w := S[j].w) hg6 hlt6 z1 z3
          have hcap : capN (P6[kk].w + S[j].w) = capN (capN P6[kk].w + w2) := by rw [hw2, capN_add]
          have hw1l := capN_le P6[kk].w
          rw [hcap] at hadd
          obtain ⟨w1, hw1⟩ : ∃ w, w = capN P6[kk].w := ⟨_, rfl⟩
          have hw1' := hw1.symm
          rw [← hw1] at hadd hw1l
          have hif : (if (w1 : Int) + (w2 : Int) < 1000000001 then (w1 : Int) + (w2 : Int) else 1000000001) = ((capN (w1 + w2) : Nat) : Int) := by unfold capN; split <;> omega
          have hlc := l1LeastD_ok h5 ((w1 : Int) + (w2 : Int)) 1000000001
          rw [hif] at hlc
          try simp (disch := first | omega | (simp; done) | fail) [wrap64c, if_pos, if_neg, g_h0, lS, e2, e5, e12, e13, e14, gc, lu, hlt, y3q, y1', y4, y5, y6, y7, y8, hj3, nty, csy, ntz, csz, g1, gc1, lM, e7, e21, e22, e23, gc3, g3, hle, hi1', q_x, g_x, l_x, r_x, z_x, nt4, cs4, qc, ggc, lc, zcc, g5, gc5, lu1, nt5, cs5, e9, e10, e11, hkl, z1', z3, z4, z5, z6, z7, z8, hk3, hk4, w6, hsb2, hkn, hk5, w8, hpc, hw1']
          refine WD_drawC 11 rfl (by kernel_rfl) ?_
          try simp (disch := first | omega | (simp; done) | fail) [wrap64c, if_pos, if_neg, g_h0, lS, e2, e5, e12, e13, e14, gc, lu, hlt, y3q, y1', y4, y5, y6, y7, y8, hj3, nty, csy, ntz, csz, g1, gc1, lM, e7, e21, e22, e23, gc3, g3, hle, hi1', q_x, g_x, l_x, r_x, z_x, nt4, cs4, qc, ggc, lc, zcc, g5, gc5, lu1, nt5, cs5, e9, e10, e11, hkl, z1', z3, z4, z5, z6, z7, z8, hk3, hk4, w6, hsb2, hkn, hk5, w8, hpc, hw1']
          refine callP_c (by simp) (by simp) ?ha (hlc) ?hadd ?_
          (case ha => simp (disch := first | omega | (simp; done) | fail) [wrap64c, if_pos, if_neg, g_h0, lS, e2, e5, e12, e13, e14, gc, lu, hlt, y3q, y1', y4, y5, y6, y7, y8, hj3, nty, csy, ntz, csz, g1, gc1, lM, e7, e21, e22, e23, gc3, g3, hle, hi1', q_x, g_x, l_x, r_x, z_x, nt4, cs4, qc, ggc, lc, zcc, g5, gc5, lu1, nt5, cs5, e9, e10, e11, hkl, z1', z3, z4, z5, z6, z7, z8, hk3, hk4, w6, hsb2, hkn, hk5, w8, hpc, hw1'])
          (case hadd => first | assumption | exact adds_self _ | (simp; done))
          try simp (disch := first | omega | (simp; done) | fail) [wrap64c, if_pos, if_neg, g_h0, lS, e2, e5, e12, e13, e14, gc, lu, hlt, y3q, y1', y4, y5, y6, y7, y8, hj3, nty, csy, ntz, csz, g1, gc1, lM, e7, e21, e22, e23, gc3, g3, hle, hi1', q_x, g_x, l_x, r_x, z_x, nt4, cs4, qc, ggc, lc, zcc, g5, gc5, lu1, nt5, cs5, e9, e10, e11, hkl, z1', z3, z4, z5, z6, z7, z8, hk3, hk4, w6, hsb2, hkn, hk5, w8, hpc, hw1']
          refine loopK_next _ ?hm ?hf ⟨e + 1, u1, rfl, (by simp (disch := first | omega | (simp; done) | fail) [wrap64c, if_pos, if_neg, g_h0, lS, e2, e5, e12, e13, e14, gc, lu, hlt, y3q, y1', y4, y5, y6, y7, y8, hj3, nty, csy, ntz, csz, g1, gc1, lM, e7, e21, e22, e23, gc3, g3, hle, hi1', q_x, g_x, l_x, r_x, z_x, nt4, cs4, qc, ggc, lc, zcc, g5, gc5, lu1, nt5, cs5, e9, e10, e11, hkl, z1', z3, z4, z5, z6, z7, z8, hk3, hk4, w6, hsb2, hkn, hk5, w8, hpc, hw1'] <;> omega), (by simp (disch := first | omega | (simp; done) | fail) [wrap64c, if_pos, if_neg, g_h0, lS, e2, e5, e12, e13, e14, gc, lu, hlt, y3q, y1', y4, y5, y6, y7, y8, hj3, nty, csy, ntz, csz, g1, gc1, lM, e7, e21, e22, e23, gc3, g3, hle, hi1', q_x, g_x, l_x, r_x, z_x, nt4, cs4, qc, ggc, lc, zcc, g5, gc5, lu1, nt5, cs5, e9, e10, e11, hkl, z1', z3, z4, z5, z6, z7, z8, hk3, hk4, w6, hsb2, hkn, hk5, w8, hpc, hw1'] <;> omega), (by first | omega | assumption | (simp (disch := first | omega | (simp; done) | fail) [wrap64c, if_pos, if_neg, g_h0, lS, e2, e5, e12, e13, e14, gc, lu, hlt, y3q, y1', y4, y5, y6, y7, y8, hj3, nty, csy, ntz, csz, g1, gc1, lM, e7, e21, e22, e23, gc3, g3, hle, hi1', q_x, g_x, l_x, r_x, z_x, nt4, cs4, qc, ggc, lc, zcc, g5, gc5, lu1, nt5, cs5, e9, e10, e11, hkl, z1', z3, z4, z5, z6, z7, z8, hk3, hk4, w6, hsb2, hkn, hk5, w8, hpc, hw1'] <;> omega)), (by have := A6; have := z2.1; exact (by first | exact aK | exact kK)), (hm6.put (fun q => by rcases hoo with hoo | hoo <;> omega) _), (by simp [show h.next ≠ oo6 by have := z2.1; omega]; exact gc6), ?c_hg3, ho6⟩
          (case hm => first | omega | (simp; omega))
          (case hf => simp [FrameL, g_h0, lS, e2, e5, e12, e13, e14, gc, lu, hlt, y3q, y1', y4, y5, y6, y7, y8, hj3, nty, csy, ntz, csz, g1, gc1, lM, e7, e21, e22, e23, gc3, g3, hle, hi1', q_x, g_x, l_x, r_x, z_x, nt4, cs4, qc, ggc, lc, zcc, g5, gc5, lu1, nt5, cs5, e9, e10, e11, hkl, z1', z3, z4, z5, z6, z7, z8, hk3, hk4, w6, hsb2, hkn, hk5, w8, hpc, hw1', f2_1, f7_1, f12_1, f13_1, f14_1, f21_1, f22_1])
          case c_hg3 =>
            exact (by
              rw [hsn]
              have e1 : insS P1 X1 B1 S[j].w = addS P6 kk S[j].w := by unfold insS; rw [hix, hP6]
              rw [e1]
              exact hadd)
        · have hsb2 : decide (P1[kk].x = X1) = false := by simp [hsame]
          try simp (disch := first | omega | (simp; done) | fail) [wrap64c, if_pos, if_neg, g_h0, lS, e2, e5, e12, e13, e14, gc, lu, hlt, y3q, y1', y4, y5, y6, y7, y8, hj3, nty, csy, ntz, csz, g1, gc1, lM, e7, e21, e22, e23, gc3, g3, hle, hi1', q_x, g_x, l_x, r_x, z_x, nt4, cs4, qc, ggc, lc, zcc, g5, gc5, lu1, nt5, cs5, e9, e10, e11, hkl, z1', z3, z4, z5, z6, z7, z8, hk3, hk4, w6, hsb2]
          refine loopK_next _ ?hm ?hf ⟨kk + 1, rfl, rfl, (by simp (disch := first | omega | (simp; done) | fail) [wrap64c, if_pos, if_neg, g_h0, lS, e2, e5, e12, e13, e14, gc, lu, hlt, y3q, y1', y4, y5, y6, y7, y8, hj3, nty, csy, ntz, csz, g1, gc1, lM, e7, e21, e22, e23, gc3, g3, hle, hi1', q_x, g_x, l_x, r_x, z_x, nt4, cs4, qc, ggc, lc, zcc, g5, gc5, lu1, nt5, cs5, e9, e10, e11, hkl, z1', z3, z4, z5, z6, z7, z8, hk3, hk4, w6, hsb2] <;> omega), (by first | omega | assumption | (simp (disch := first | omega | (simp; done) | fail) [wrap64c, if_pos, if_neg, g_h0, lS, e2, e5, e12, e13, e14, gc, lu, hlt, y3q, y1', y4, y5, y6, y7, y8, hj3, nty, csy, ntz, csz, g1, gc1, lM, e7, e21, e22, e23, gc3, g3, hle, hi1', q_x, g_x, l_x, r_x, z_x, nt4, cs4, qc, ggc, lc, zcc, g5, gc5, lu1, nt5, cs5, e9, e10, e11, hkl, z1', z3, z4, z5, z6, z7, z8, hk3, hk4, w6, hsb2] <;> omega)), ?c_hx5⟩
          (case hm => first | omega | (simp; omega))
          (case hf => simp [FrameL, g_h0, lS, e2, e5, e12, e13, e14, gc, lu, hlt, y3q, y1', y4, y5, y6, y7, y8, hj3, nty, csy, ntz, csz, g1, gc1, lM, e7, e21, e22, e23, gc3, g3, hle, hi1', q_x, g_x, l_x, r_x, z_x, nt4, cs4, qc, ggc, lc, zcc, g5, gc5, lu1, nt5, cs5, e9, e10, e11, hkl, z1', z3, z4, z5, z6, z7, z8, hk3, hk4, w6, hsb2, f2_2, f5_2, f7_2, f9_2, f10_2, f12_2, f13_2, f14_2, f21_2, f22_2, f23_2])
          case c_hx5 =>
            exact (fun c hc hck => by
              by_cases ec : c = kk
              · subst ec; exact hsame
              · exact hx5 c hc (by omega))
      · have hke : kk = P1.length := by omega
        have hix : ixS P1 X1 = kk := ixS_of (by omega) hx5 fun _ => by omega
        have hkn : ((kk : Int) == (P1.length : Int)) = true := by simp [hke]
        have hkl2 : ¬ (kk : Int) < (P1.length : Int) := by omega
        have hz3 : zarr #[Value.slice none 0 0, Value.slice none 0 0, Value.int .i64 0] 3 = #[Value.slice none 0 0, Value.slice none 0 0, Value.int .i64 0] := zarr3s _ _ _
        try simp (disch := first | omega | (simp; done) | fail) [wrap64c, if_pos, if_neg, g_h0, lS, e2, e5, e12, e13, e14, gc, lu, hlt, y3q, y1', y4, y5, y6, y7, y8, hj3, nty, csy, ntz, csz, g1, gc1, lM, e7, e21, e22, e23, gc3, g3, hle, hi1', q_x, g_x, l_x, r_x, z_x, nt4, cs4, qc, ggc, lc, zcc, g5, gc5, lu1, nt5, cs5, e9, e10, e11, hkl, hkn, hkl2, hz3]
        obtain ⟨u7, h7, hc7, ha7, hu7⟩ := waMove_ok h5 (.agg #[a, b]) z L A S[j].b i (hv0.keep A5.1) (y10.ints.keep A5.1) hsb hoB.small hiB
        refine callG_c (by simp) (by simp) ?ha (hc7) ?_
        (case ha => simp (disch := first | omega | (simp; done) | fail) [wrap64c, if_pos, if_neg, g_h0, lS, e2, e5, e12, e13, e14, gc, lu, hlt, y3q, y1', y4, y5, y6, y7, y8, hj3, nty, csy, ntz, csz, g1, gc1, lM, e7, e21, e22, e23, gc3, g3, hle, hi1', q_x, g_x, l_x, r_x, z_x, nt4, cs4, qc, ggc, lc, zcc, g5, gc5, lu1, nt5, cs5, e9, e10, e11, hkl, hkn, hkl2, hz3])
        have n7 := ha7.1.1
        have A7 := A5.trans ha7
        have nt7 := hu7.nt
        have cs7 := hu7.cs
        have ntu1 := hg5.nt
        rw [← hB1] at hu7
        obtain ⟨u6, h6, hap, hg6, A6, n6, hs6, ho6'⟩ := appSt (c := hi.next) (y := u4) (z := u7) (x := X1) (b := B1) (hg5.keep stR_steady ha7.1) ((hwr.read.keep ha7.1).sub fun o ho => ho.1) (hu7.read.sub fun o ho => by have := ho.1; omega) ⟨by have := ha3.1.1; omega, fun o ho => (hg3.obj ho).2⟩ 0 (by omega) A7 (by omega) (by omega)
        have hz0 : ((capN 0 : Nat) : Int) = 0 := rfl
        rw [hz0, qc] at hap
        try simp (disch := first | omega | (simp; done) | fail) [wrap64c, if_pos, if_neg, g_h0, lS, e2, e5, e12, e13, e14, gc, lu, hlt, y3q, y1', y4, y5, y6, y7, y8, hj3, nty, csy, ntz, csz, g1, gc1, lM, e7, e21, e22, e23, gc3, g3, hle, hi1', q_x, g_x, l_x, r_x, z_x, nt4, cs4, qc, ggc, lc, zcc, g5, gc5, lu1, nt5, cs5, e9, e10, e11, hkl, hkn, hkl2, hz3, nt7, cs7, ntu1, hap]
        obtain ⟨P6, hP6⟩ : ∃ P, P = putS P1 X1 B1 := ⟨_, rfl⟩
        have hPP : P6 = P1 ++ [⟨X1, B1, 0⟩] := by rw [hP6]; unfold putS; rw [if_pos (by omega)]
        rw [← hPP] at hg6
        have hPl6 : P6.length ≤ 844596302 := by rw [hPP]; simp; omega
        have hno : ∀ o, hq.next ≤ o → o < h2.next → h6.get o = h5.get o := fun o h1 h3 => by
          rw [hs6 o (by omega) (fun q => by have := ho3 o q; omega), ha7.1.2 o (by omega)]
        have g6 : h6.get hq.next = .cells [y, z, .int .i64 (w2 : Int)] true true 1 := by rw [hno _ (Nat.le_refl _) (by omega)]; exact g5
        have gc6 : h6.get h.next = .cells [a, b] true true 1 := by
          rw [hs6 _ (by omega) (fun q => by have := hg5.obj q; omega), ha7.1.2 _ (by omega)]; exact gc5
        have hm6 : Same (fun o => hq.next ≤ o ∧ o < h2.next) h2 h6 := hm5.trans ⟨by omega, fun o ho _ => hno o ho.1 ho.2⟩
        have ho6 : ∀ o, ObjIn u6 o → o < hq.next ∨ h2.next ≤ o := fun o ho => by
          rcases ho6' o ho with q | q
          · exact ho3 o q
          · right; omega
        have hlt6 : kk < P6.length := by rw [hP6, ← hix]; exact putS_len _ _ _
        obtain ⟨oo6, ds6, exo6, p6, r6, z1, z2, z3, z4, z5, ⟨z6, z7, z8⟩, z9, z10⟩ := stG_at hg6 hlt6
        have z1' := z1
        have hk3 : kk * 3 + 3 ≤ P6.length * 3 := by omega
        have hk5 : kk * 3 + 2 < ds6.length := by omega
        have w8 : ∀ h2 : kk * 3 + 2 < ds6.length, ds6[kk * 3 + 2] = .int .i64 ((capN P6[kk].w : Nat) : Int) := fun h2 => (List.getElem?_eq_some_iff.1 z8).2
        have hpc : ∀ x, putCells ds6 (kk * 3 + 2) [x] = ds6.set (kk * 3 + 2) x := fun x => by rw [List.set_eq_take_append_cons_drop, if_pos hk5]; simp [putCells]
        have hobj : ObjIn u6 oo6 := by rw [z1]; rfl
        have hoo := ho6 oo6 hobj
        have hadd := stG_add (w := S[j].w) hg6 hlt6 z1 z3
        have hcap : capN (P6[kk].w + S[j].w) = capN (capN P6[kk].w + w2) := by rw [hw2, capN_add]
        have hw1l := capN_le P6[kk].w
        rw [hcap] at hadd
        obtain ⟨w1, hw1⟩ : ∃ w, w = capN P6[kk].w := ⟨_, rfl⟩
        have hw1' := hw1.symm
        rw [← hw1] at hadd hw1l
        have hif : (if (w1 : Int) + (w2 : Int) < 1000000001 then (w1 : Int) + (w2 : Int) else 1000000001) = ((capN (w1 + w2) : Nat) : Int) := by unfold capN; split <;> omega
        have hlc := l1LeastD_ok h6 ((w1 : Int) + (w2 : Int)) 1000000001
        rw [hif] at hlc
        try simp (disch := first | omega | (simp; done) | fail) [wrap64c, if_pos, if_neg, g_h0, lS, e2, e5, e12, e13, e14, gc, lu, hlt, y3q, y1', y4, y5, y6, y7, y8, hj3, nty, csy, ntz, csz, g1, gc1, lM, e7, e21, e22, e23, gc3, g3, hle, hi1', q_x, g_x, l_x, r_x, z_x, nt4, cs4, qc, ggc, lc, zcc, g5, gc5, lu1, nt5, cs5, e9, e10, e11, hkl, hkn, hkl2, hz3, nt7, cs7, ntu1, g6, z1', z3, z4, z5, z6, z7, z8, hk3, hk5, w8, hpc, hw1']
        refine WD_drawC 11 rfl (by kernel_rfl) ?_
        try simp (disch := first | omega | (simp; done) | fail) [wrap64c, if_pos, if_neg, g_h0, lS, e2, e5, e12, e13, e14, gc, lu, hlt, y3q, y1', y4, y5, y6, y7, y8, hj3, nty, csy, ntz, csz, g1, gc1, lM, e7, e21, e22, e23, gc3, g3, hle, hi1', q_x, g_x, l_x, r_x, z_x, nt4, cs4, qc, ggc, lc, zcc, g5, gc5, lu1, nt5, cs5, e9, e10, e11, hkl, hkn, hkl2, hz3, nt7, cs7, ntu1, g6, z1', z3, z4, z5, z6, z7, z8, hk3, hk5, w8, hpc, hw1']
        refine callP_c (by simp) (by simp) ?ha (hlc) ?hadd ?_
        (case ha => simp (disch := first | omega | (simp; done) | fail) [wrap64c, if_pos, if_neg, g_h0, lS, e2, e5, e12, e13, e14, gc, lu, hlt, y3q, y1', y4, y5, y6, y7, y8, hj3, nty, csy, ntz, csz, g1, gc1, lM, e7, e21, e22, e23, gc3, g3, hle, hi1', q_x, g_x, l_x, r_x, z_x, nt4, cs4, qc, ggc, lc, zcc, g5, gc5, lu1, nt5, cs5, e9, e10, e11, hkl, hkn, hkl2, hz3, nt7, cs7, ntu1, g6, z1', z3, z4, z5, z6, z7, z8, hk3, hk5, w8, hpc, hw1'])
        (case hadd => first | assumption | exact adds_self _ | (simp; done))
        try simp (disch := first | omega | (simp; done) | fail) [wrap64c, if_pos, if_neg, g_h0, lS, e2, e5, e12, e13, e14, gc, lu, hlt, y3q, y1', y4, y5, y6, y7, y8, hj3, nty, csy, ntz, csz, g1, gc1, lM, e7, e21, e22, e23, gc3, g3, hle, hi1', q_x, g_x, l_x, r_x, z_x, nt4, cs4, qc, ggc, lc, zcc, g5, gc5, lu1, nt5, cs5, e9, e10, e11, hkl, hkn, hkl2, hz3, nt7, cs7, ntu1, g6, z1', z3, z4, z5, z6, z7, z8, hk3, hk5, w8, hpc, hw1']
        refine loopK_next _ ?hm ?hf ⟨e + 1, u6, rfl, (by simp (disch := first | omega | (simp; done) | fail) [wrap64c, if_pos, if_neg, g_h0, lS, e2, e5, e12, e13, e14, gc, lu, hlt, y3q, y1', y4, y5, y6, y7, y8, hj3, nty, csy, ntz, csz, g1, gc1, lM, e7, e21, e22, e23, gc3, g3, hle, hi1', q_x, g_x, l_x, r_x, z_x, nt4, cs4, qc, ggc, lc, zcc, g5, gc5, lu1, nt5, cs5, e9, e10, e11, hkl, hkn, hkl2, hz3, nt7, cs7, ntu1, g6, z1', z3, z4, z5, z6, z7, z8, hk3, hk5, w8, hpc, hw1'] <;> omega), (by simp (disch := first | omega | (simp; done) | fail) [wrap64c, if_pos, if_neg, g_h0, lS, e2, e5, e12, e13, e14, gc, lu, hlt, y3q, y1', y4, y5, y6, y7, y8, hj3, nty, csy, ntz, csz, g1, gc1, lM, e7, e21, e22, e23, gc3, g3, hle, hi1', q_x, g_x, l_x, r_x, z_x, nt4, cs4, qc, ggc, lc, zcc, g5, gc5, lu1, nt5, cs5, e9, e10, e11, hkl, hkn, hkl2, hz3, nt7, cs7, ntu1, g6, z1', z3, z4, z5, z6, z7, z8, hk3, hk5, w8, hpc, hw1'] <;> omega), (by first | omega | assumption | (simp (disch := first | omega | (simp; done) | fail) [wrap64c, if_pos, if_neg, g_h0, lS, e2, e5, e12, e13, e14, gc, lu, hlt, y3q, y1', y4, y5, y6, y7, y8, hj3, nty, csy, ntz, csz, g1, gc1, lM, e7, e21, e22, e23, gc3, g3, hle, hi1', q_x, g_x, l_x, r_x, z_x, nt4, cs4, qc, ggc, lc, zcc, g5, gc5, lu1, nt5, cs5, e9, e10, e11, hkl, hkn, hkl2, hz3, nt7, cs7, ntu1, g6, z1', z3, z4, z5, z6, z7, z8, hk3, hk5, w8, hpc, hw1'] <;> omega)), (by have := A6; have := z2.1; exact (by first | exact aK | exact kK)), (hm6.put (fun q => by rcases hoo with hoo | hoo <;> omega) _), (by simp [show h.next ≠ oo6 by have := z2.1; omega]; exact gc6), ?c_hg3, ho6⟩
        (case hm => first | omega | (simp; omega))
        (case hf => simp [FrameL, g_h0, lS, e2, e5, e12, e13, e14, gc, lu, hlt, y3q, y1', y4, y5, y6, y7, y8, hj3, nty, csy, ntz, csz, g1, gc1, lM, e7, e21, e22, e23, gc3, g3, hle, hi1', q_x, g_x, l_x, r_x, z_x, nt4, cs4, qc, ggc, lc, zcc, g5, gc5, lu1, nt5, cs5, e9, e10, e11, hkl, hkn, hkl2, hz3, nt7, cs7, ntu1, g6, z1', z3, z4, z5, z6, z7, z8, hk3, hk5, w8, hpc, hw1', f2_1, f7_1, f12_1, f13_1, f14_1, f21_1, f22_1])
        case c_hg3 =>
          exact (by
            rw [hsn]
            have e1 : insS P1 X1 B1 S[j].w = addS P6 kk S[j].w := by unfold insS; rw [hix, hP6]
            rw [e1]
            exact hadd)
    · try simp (disch := first | omega | (simp; done) | fail) [wrap64c, if_pos, if_neg, g_h0, lS, e2, e5, e12, e13, e14, gc, lu, hlt, y3q, y1', y4, y5, y6, y7, y8, hj3, nty, csy, ntz, csz, g1, gc1, lM, e7, e21, e22, e23, gc3, g3, hle]
      have hee : e = M.length := by omega
      rw [hee, List.take_length, hM] at hg3
      refine loopK_next _ ?hm ?hf ⟨j + 1, u1, rfl, (by simp (disch := first | omega | (simp; done) | fail) [wrap64c, if_pos, if_neg, g_h0, lS, e2, e5, e12, e13, e14, gc, lu, hlt, y3q, y1', y4, y5, y6, y7, y8, hj3, nty, csy, ntz, csz, g1, gc1, lM, e7, e21, e22, e23, gc3, g3, hle] <;> omega), (by simp (disch := first | omega | (simp; done) | fail) [wrap64c, if_pos, if_neg, g_h0, lS, e2, e5, e12, e13, e14, gc, lu, hlt, y3q, y1', y4, y5, y6, y7, y8, hj3, nty, csy, ntz, csz, g1, gc1, lM, e7, e21, e22, e23, gc3, g3, hle] <;> omega), (by first | omega | assumption | (simp (disch := first | omega | (simp; done) | fail) [wrap64c, if_pos, if_neg, g_h0, lS, e2, e5, e12, e13, e14, gc, lu, hlt, y3q, y1', y4, y5, y6, y7, y8, hj3, nty, csy, ntz, csz, g1, gc1, lM, e7, e21, e22, e23, gc3, g3, hle] <;> omega)), ha3, (by first | omega | assumption | (simp (disch := first | omega | (simp; done) | fail) [wrap64c, if_pos, if_neg, g_h0, lS, e2, e5, e12, e13, e14, gc, lu, hlt, y3q, y1', y4, y5, y6, y7, y8, hj3, nty, csy, ntz, csz, g1, gc1, lM, e7, e21, e22, e23, gc3, g3, hle] <;> omega)), (by first | omega | assumption | (simp (disch := first | omega | (simp; done) | fail) [wrap64c, if_pos, if_neg, g_h0, lS, e2, e5, e12, e13, e14, gc, lu, hlt, y3q, y1', y4, y5, y6, y7, y8, hj3, nty, csy, ntz, csz, g1, gc1, lM, e7, e21, e22, e23, gc3, g3, hle] <;> omega)), (by rw [List.take_succ_eq_append_getElem hlt, List.foldl_append, ← hP0]; exact hg3)⟩
      (case hm => first | omega | (simp; omega))
      (case hf => simp [FrameL, g_h0, lS, e2, e5, e12, e13, e14, gc, lu, hlt, y3q, y1', y4, y5, y6, y7, y8, hj3, nty, csy, ntz, csz, g1, gc1, lM, e7, e21, e22, e23, gc3, g3, hle, f2_0, f12_0, f13_0])
  · try simp (disch := first | omega | (simp; done) | fail) [wrap64c, if_pos, if_neg, g_h0, lS, e2, e5, e12, e13, e14, gc, lu, hlt]
    have hje : j = S.length := by omega
    rw [hje, List.take_length] at hg
    exact done_ret rfl ⟨ha, GL.weak stR_steady hg (by omega)⟩
end Go.Proofs.Ytnnjehonbolliaa
