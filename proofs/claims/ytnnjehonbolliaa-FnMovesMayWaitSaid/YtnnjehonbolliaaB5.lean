/- Full runs by choices: the reference and the program. -/
import Derived.Test.YtnnjehonbolliaaB3
namespace Go.Proofs.Ytnnjehonbolliaa
set_option linter.unusedSimpArgs false
set_option linter.unusedVariables false
set_option maxHeartbeats 4000000
open Go Go.Eng
attribute [local irreducible] WD RunD PreD Runs CallOK

/-- Which of the places that can be moved is. -/
def pickK (ml cs : List Int) (r : Nat) : Nat := if r < cs.length then ((cs.getD r 0).tmod ml.length).toNat else 0
/-- A full run and what lies on the places behind it, if it does not take too long. -/
def fullA (L : List (List Int)) (cs : List Int) : Nat → List Int → List Int → Option (List Int × List Int)
  | 0, _, _ => none
  | n + 1, run, A => if movesL L A = [] then some (run, A) else if run.length = 60 then none else
      fullA L cs n (run ++ [(movesL L A).getD (pickK (movesL L A) cs run.length) 0]) (moveA L A ((movesL L A).getD (pickK (movesL L A) cs run.length) 0).toNat)

theorem tmod_nat {x : Int} {n : Nat} (hx : 0 ≤ x) (hn : 0 < n) : x.tmod n = ((x.tmod n).toNat : Int) ∧ (x.tmod n).toNat < n := by
  have h1 : 0 ≤ x.tmod n := Int.tmod_nonneg n hx
  have h2 : x.tmod n < n := Int.tmod_lt_of_pos x (by omega)
  omega
theorem pickK_lt {ml cs : List Int} (hm : 0 < ml.length) (hc : ∀ x ∈ cs, 0 ≤ x) (r : Nat) : pickK ml cs r < ml.length := by
  unfold pickK
  split
  · rename_i h
    have e : cs.getD r 0 = cs[r] := by simp [h]
    rw [e]
    exact (tmod_nat (hc _ (List.getElem_mem h)) hm).2
  · exact hm
theorem movesL_get {L : List (List Int)} {A : List Int} {k : Nat} (hk : k < (movesL L A).length) : ∃ i : Nat, (movesL L A)[k] = (i : Int) ∧ i < A.length ∧ canB L A i = true := by
  have := List.getElem_mem hk
  unfold movesL at this
  obtain ⟨i, hi, e⟩ := List.mem_map.1 this
  obtain ⟨h1, h2⟩ := List.mem_filter.1 hi
  exact ⟨i, e.symm, by simpa using h1, h2⟩
theorem movesL_length (L : List (List Int)) (A : List Int) : (movesL L A).length ≤ A.length := movesT_length L A A.length

/-- One number more, as the program does it; what does not lie where the slice lies stays as it was. -/
theorem appI2 {n : Nat} {h0 h : Hp} {v : Value} {xs : List Int} (hs : IntsA n h v xs) (x : Int) (hl : xs.length < 2 ^ 40) (hn : n ≤ h.next) (hA : Adds h0 h) (h0n : h0.next ≤ n) :
    ∃ v' h', appendD Try.prog 25 25 v (.slice (some ⟨h.next, 0, none⟩) 1 1) (h.alloc (.cells [.int .i64 x] true true 1)) = some (v', h') ∧ IntsA n h' v' (xs ++ [x]) ∧ Adds h0 h' ∧ h.next < h'.next ∧
      (∀ F : Nat → Prop, (∀ o, F o → o < h.next) → OffF F v → Same F h h' ∧ OffF F v') := by
  obtain ⟨v', h', g1, g2, g3, g4, g5, g6⟩ := append_one2 (P := Try.prog) (t := 25) (t' := 25) (x := x) (q := h.next) (h := h.alloc (.cells [.int .i64 x] true true 1)) (qx := true) (n := n) (v := v) (xs := xs) (by
    rcases hs with ⟨a, b⟩ | ⟨o, ex, a, b, c, d⟩
    · exact .inl ⟨a, b⟩
    · exact .inr ⟨o, ex, a, b, Nat.lt_succ_of_lt c, by simp [Nat.ne_of_lt c, d]⟩) ty_elT_25 ty_szT_3 ty_zeroT_3 ty_byT_3 (by decide) (by decide) (by simp) (by simp) hl (by simp; omega) (show Adds h0 _ from (by first | exact aK | exact kK)) h0n
  refine ⟨v', h', g1, g2, g3, Nat.lt_of_le_of_lt (by simp) g4, fun F hF hO => ⟨?_, g6 F fun o ho => Nat.lt_succ_of_lt (hF o ho)⟩⟩
  have := g5 F hO
  exact ⟨Nat.le_trans (Nat.le_succ _) this.1, fun o ho ho' => by rw [this.2 o ho (Nat.lt_succ_of_lt ho')]; simp [Nat.ne_of_lt ho']⟩

def fRun : Option (List Int × List Int) → List Int
  | some q => q.1
  | none => []
def fAt : Option (List Int × List Int) → List Int
  | some q => q.2
  | none => []

theorem waFullA_ok (h : Hp) (v w : Value) (L : List (List Int)) (A cs : List Int) (hv : Chips h v L A) (hw : Ints h w cs) (ho : Ok L A) (hcs : ∀ x ∈ cs, 0 ≤ x) :
    ∃ v' h', CallOK Try.prog 47 #[v, w] h v' h' ∧ Adds h h' ∧ ∃ u1 u2, v' = .tuple #[u1, u2, .bool (fullA L cs 61 [] A).isSome] ∧ IntsO (Btw h.next h'.next) h' u1 (fRun (fullA L cs 61 [] A)) ∧ IntsO (Btw h.next h'.next) h' u2 (fAt (fullA L cs 61 [] A)) ∧ IntsA h.next h' u1 (fRun (fullA L cs 61 [] A)) := by
  refine callY_L (args := [v, w]) 55 _ [.tmp 4, .tmp 5, .tmp 6] Try.func47 rfl rfl rfl ?_
  have hv0 := hv
  obtain ⟨a, b, rfl, hL, hA⟩ := hv
  have hwl := hw.len
  have lw := hw.lenD
  have h5 := ho.le
  refine WD_first ?_
  try simp (disch := first | omega | (simp; done) | fail) [wrap64c, if_pos, if_neg, lw]
  refine stopK_heap fun h0 q_h0 => ?_
  refine stopK_go ?_
  have g_h0 : h0.get h.next = .cells [a, b] true true 1 := by simp [q_h0]
  have k_h0 : Adds h h0 := by rw [q_h0]; exact (by first | exact aK | exact kK)
  have n_h0 : h.next < h0.next := by simp [q_h0]; try omega
  try simp (disch := first | omega | (simp; done) | fail) [wrap64c, if_pos, if_neg, lw, g_h0]
  obtain ⟨v1, h1, hc1, ha1, hu1, _⟩ := l1Own_ok h0 b A (hA.keep k_h0.1) (by omega)
  refine callG_c (by simp) (by simp) ?ha (hc1) ?_
  (case ha => simp (disch := first | omega | (simp; done) | fail) [wrap64c, if_pos, if_neg, lw, g_h0])
  have K1 := k_h0.trans ha1
  have n1 := ha1.1.1
  have g1 : h1.get h.next = .cells [a, b] true true 1 := by rw [ha1.1.2 _ n_h0]; exact g_h0
  try simp (disch := first | omega | (simp; done) | fail) [wrap64c, if_pos, if_neg, lw, g_h0, g1]
  obtain ⟨v2, h2, hc2, ha2, hu2⟩ := waMoves_ok h1 _ v1 L A A (hv0.keep K1.1) hu1.ints ho.sh
  refine callG_c (by simp) (by simp) ?ha (hc2) ?_
  (case ha => simp (disch := first | omega | (simp; done) | fail) [wrap64c, if_pos, if_neg, lw, g_h0, g1])
  have g2 : h2.get h.next = .cells [a, b] true true 1 := by rw [ha2.1.2 _ (by omega)]; exact g1
  have n2 := ha2.1.1
  try simp (disch := first | omega | (simp; done) | fail) [wrap64c, if_pos, if_neg, lw, g_h0, g1, g2]
  refine WD_loopC [1, 2] (fun m tm h' => ∃ run B u7 u8 u9 F, m = 61 - run.length ∧ tm 7 = u7 ∧ tm 8 = u8 ∧ tm 9 = u9 ∧ (Adds h h') ∧ (h0.next ≤ h'.next) ∧ (h'.get h.next = .cells [a, b] true true 1) ∧ (IntsA h0.next h' u8 run) ∧ (IntsO F h' u7 B) ∧ (IntsO F h' u9 (movesL L B)) ∧ (∀ o, F o → o < h'.next) ∧ (∀ o, F o → h0.next ≤ o) ∧ (OffF F u8) ∧ (run.length ≤ 60) ∧ (Ok L B) ∧ (B.length = A.length) ∧ (fullA L cs (61 - run.length) run B = fullA L cs 61 [] A)) _ ⟨[], A, _, .slice none 0 0, _, (fun o => Btw h0.next h2.next o), rfl, (by simp (disch := first | omega | (simp; done) | fail) [wrap64c, if_pos, if_neg, lw, g_h0, g1, g2]), (by simp (disch := first | omega | (simp; done) | fail) [wrap64c, if_pos, if_neg, lw, g_h0, g1, g2]), (by simp (disch := first | omega | (simp; done) | fail) [wrap64c, if_pos, if_neg, lw, g_h0, g1, g2]), (K1.trans ha2), (Nat.le_trans n1 n2), g2, (.nil _ _), ((hu1.keep ha2.1).sub fun x hx => by unfold Btw at *; omega), (hu2.sub fun x hx => by unfold Btw at *; omega), (fun o ho => ho.2), (fun o ho => ho.1), (.nil _ _ _), (by first | omega | assumption | (simp (disch := first | omega | (simp; done) | fail) [wrap64c, if_pos, if_neg, lw, g_h0, g1, g2] <;> omega)), ho, rfl, rfl⟩ ?_
  rintro m tm h' hFr ⟨run, B, u7, u8, u9, F, rfl, e7, e8, e9, ha, hn, hg, hu8, hu7, hu9, hFn, hFl, hof, hr, hoB, hlB, hF⟩
  simp only [FrameL] at hFr
  obtain ⟨f1_0, f2_0, -⟩ := hFr
  try simp (disch := first | omega | (simp; done) | fail) [wrap64c, if_pos, if_neg, lw, g_h0, g1, g2] at f1_0 f2_0
  have e1 := f1_0
  have e2 := f2_0
  have l8 := hu8.lenD
  have l9 := hu9.lenD
  have hfuel : 61 - run.length = (60 - run.length) + 1 := by omega
  by_cases hml : 0 < (movesL L B).length
  · have hmle := movesL_length L B
    by_cases h60 : run.length = 60
    · have h60b : ((run.length : Int) == 60) = true := by simp [h60]
      try simp (disch := first | omega | (simp; done) | fail) [wrap64c, if_pos, if_neg, lw, g_h0, g1, g2, e1, e2, e7, e8, e9, hg, l8, l9, hml, h60b]
      have e : fullA L cs 61 [] A = none := by
        rw [← hF, hfuel, fullA, if_neg (by intro e; rw [e] at hml; simp at hml), if_pos h60]
      exact done_ret rfl ⟨ha, _, _, by rw [e]; rfl, by rw [e]; exact .nil _ _, by rw [e]; exact .nil _ _, by rw [e]; exact .nil _ _⟩
    · have h60b : ((run.length : Int) == 60) = false := by simp; omega
      have hk1 := pickK_lt hml hcs run.length
      obtain ⟨i, hi0, hi1, hi2⟩ := movesL_get hk1
      have hk2 : (movesL L B)[pickK (movesL L B) cs run.length]?.getD 0 = (i : Int) := by rw [List.getElem?_eq_getElem hk1]; exact hi0
      have hpk : ((i : Int)).toNat = i := by simp
      have hmne : ¬ movesL L B = [] := by intro e; rw [e] at hml; simp at hml
      have hi0' := hi0
      by_cases hck : run.length < cs.length
      · have ek : pickK (movesL L B) cs run.length = (cs[run.length].tmod (movesL L B).length).toNat := by simp [pickK, hck]
        have ek2 := (tmod_nat (hcs _ (List.getElem_mem hck)) hml).1
        rw [← ek] at ek2
        have ek3 := ek2
        obtain ⟨o_x, i_x, c_x, cs_x, own_x, ex_x, es_x, q_x, b_x, g_x, l_x, r_x⟩ := (hw.keep ha.1).open ((by omega))
        have z_x : ∀ h2 : i_x < cs_x.length, cs_x[i_x] = _ := fun h2 => r_x 0 ((by omega)) h2
        obtain ⟨o_z, i_z, c_z, cs_z, own_z, ex_z, es_z, q_z, b_z, g_z, l_z, r_z⟩ := hu9.ints.open ((by omega))
        have z_z : ∀ h2 : i_z < cs_z.length, cs_z[i_z] = _ := fun h2 => r_z 0 ((by omega)) h2
        try simp (disch := first | omega | (simp; done) | fail) [wrap64c, if_pos, if_neg, lw, g_h0, g1, g2, e1, e2, e7, e8, e9, hg, l8, l9, hml, h60b, hmne, hi0', hck, ek3, q_x, g_x, l_x, r_x, z_x, q_z, g_z, l_z, r_z, z_z]
        obtain ⟨u2, h2, hap, hu2, ha2, hn2, hs2⟩ := appI2 hu8 (i : Int) (by omega) hn ha (by omega)
        obtain ⟨sm2, of2⟩ := hs2 F hFn hof
        try simp (disch := first | omega | (simp; done) | fail) [wrap64c, if_pos, if_neg, lw, g_h0, g1, g2, e1, e2, e7, e8, e9, hg, l8, l9, hml, h60b, hmne, hi0', hck, ek3, q_x, g_x, l_x, r_x, z_x, q_z, g_z, l_z, r_z, z_z, hap]
        have g2 : h2.get h.next = .cells [a, b] true true 1 := by
          have := (hs2 (fun o => F o ∨ o = h.next) (fun o ho => ho.elim (hFn o) fun e => by omega) (fun o i n c e hf => hf.elim (hof o i n c e) fun e' => by
            rcases hu8 with ⟨_, rfl⟩ | ⟨o', ex, rfl, q1, q2, q3⟩
            · cases e
            · cases e; omega)).1.2 h.next (.inr rfl) (by omega)
          rw [this]; exact hg
        have hu7' := hu7.same sm2
        have hu9' := hu9.same sm2
        obtain ⟨o_z, i_z, c_z, cs_z, own_z, ex_z, es_z, q_z, b_z, g_z, l_z, r_z⟩ := hu9'.ints.open ((by omega))
        have z_z : ∀ h2 : i_z < cs_z.length, cs_z[i_z] = _ := fun h2 => r_z 0 ((by omega)) h2
        refine WD_drawC 6 rfl (by kernel_rfl) ?_
        try simp (disch := first | omega | (simp; done) | fail) [wrap64c, if_pos, if_neg, lw, g_h0, g1, g2, e1, e2, e7, e8, e9, hg, l8, l9, hml, h60b, hmne, hi0', hck, ek3, q_x, g_x, l_x, r_x, z_x, q_z, g_z, l_z, r_z, z_z]
        obtain ⟨u3, h3, hc3, ha3, hu3⟩ := waMove_ok h2 _ u7 L A B i (hv0.keep ha2.1) hu7'.ints hoB.sh hoB.small hi1
        refine callG_c (by simp) (by simp) ?ha (hc3) ?_
        (case ha => simp (disch := first | omega | (simp; done) | fail) [wrap64c, if_pos, if_neg, lw, g_h0, g1, g2, e1, e2, e7, e8, e9, hg, l8, l9, hml, h60b, hmne, hi0', hck, ek3, q_x, g_x, l_x, r_x, z_x, q_z, g_z, l_z, r_z, z_z])
        have g3 : h3.get h.next = .cells [a, b] true true 1 := by rw [ha3.1.2 _ (by omega)]; exact g2
        try simp (disch := first | omega | (simp; done) | fail) [wrap64c, if_pos, if_neg, lw, g_h0, g1, g2, e1, e2, e7, e8, e9, hg, l8, l9, hml, h60b, hmne, hi0', hck, ek3, q_x, g_x, l_x, r_x, z_x, q_z, g_z, l_z, r_z, z_z, g3]
        have K3 := ha2.trans ha3
        have n3 := ha3.1.1
        have hoB' := hoB.move hi1 hi2
        obtain ⟨u4, h4, hc4, ha4, hu4⟩ := waMoves_ok h3 _ u3 L A (moveA L B i) (hv0.keep K3.1) hu3.ints hoB'.sh
        refine callG_c (by simp) (by simp) ?ha (hc4) ?_
        (case ha => simp (disch := first | omega | (simp; done) | fail) [wrap64c, if_pos, if_neg, lw, g_h0, g1, g2, e1, e2, e7, e8, e9, hg, l8, l9, hml, h60b, hmne, hi0', hck, ek3, q_x, g_x, l_x, r_x, z_x, q_z, g_z, l_z, r_z, z_z, g3])
        have g4 : h4.get h.next = .cells [a, b] true true 1 := by rw [ha4.1.2 _ (by omega)]; exact g3
        have n4 := ha4.1.1
        try simp (disch := first | omega | (simp; done) | fail) [wrap64c, if_pos, if_neg, lw, g_h0, g1, g2, e1, e2, e7, e8, e9, hg, l8, l9, hml, h60b, hmne, hi0', hck, ek3, q_x, g_x, l_x, r_x, z_x, q_z, g_z, l_z, r_z, z_z, g3, g4]
        refine loopK_next _ ?hm ?hf ⟨run ++ [(i : Int)], moveA L B i, u3, u2, u4, (fun o => Btw h2.next h4.next o), rfl, (by simp (disch := first | omega | (simp; done) | fail) [wrap64c, if_pos, if_neg, lw, g_h0, g1, g2, e1, e2, e7, e8, e9, hg, l8, l9, hml, h60b, hmne, hi0', hck, ek3, q_x, g_x, l_x, r_x, z_x, q_z, g_z, l_z, r_z, z_z, g3, g4] <;> omega), (by simp (disch := first | omega | (simp; done) | fail) [wrap64c, if_pos, if_neg, lw, g_h0, g1, g2, e1, e2, e7, e8, e9, hg, l8, l9, hml, h60b, hmne, hi0', hck, ek3, q_x, g_x, l_x, r_x, z_x, q_z, g_z, l_z, r_z, z_z, g3, g4] <;> omega), (by simp (disch := first | omega | (simp; done) | fail) [wrap64c, if_pos, if_neg, lw, g_h0, g1, g2, e1, e2, e7, e8, e9, hg, l8, l9, hml, h60b, hmne, hi0', hck, ek3, q_x, g_x, l_x, r_x, z_x, q_z, g_z, l_z, r_z, z_z, g3, g4] <;> omega), (K3.trans ha4), (by first | omega | assumption | (simp (disch := first | omega | (simp; done) | fail) [wrap64c, if_pos, if_neg, lw, g_h0, g1, g2, e1, e2, e7, e8, e9, hg, l8, l9, hml, h60b, hmne, hi0', hck, ek3, q_x, g_x, l_x, r_x, z_x, q_z, g_z, l_z, r_z, z_z, g3, g4] <;> omega)), (by first | omega | assumption | (simp (disch := first | omega | (simp; done) | fail) [wrap64c, if_pos, if_neg, lw, g_h0, g1, g2, e1, e2, e7, e8, e9, hg, l8, l9, hml, h60b, hmne, hi0', hck, ek3, q_x, g_x, l_x, r_x, z_x, q_z, g_z, l_z, r_z, z_z, g3, g4] <;> omega)), ?c_hu8, ((hu3.keep ha4.1).sub fun x hx => by unfold Btw at *; omega), (hu4.sub fun x hx => by unfold Btw at *; omega), (fun o ho => ho.2), (fun o ho => by have := ho.1; omega), ?c_hof, (by simp; omega), hoB', (by simpa using hlB), (by rw [← hF, hfuel, fullA, if_neg (by intro e; rw [e] at hml; simp at hml), if_neg h60]; simp [hk2, hi0, hpk, show 61 - (run.length + 1) = 60 - run.length by omega])⟩
        (case hm => first | omega | (simp; omega))
        (case hf => simp [FrameL, lw, g_h0, g1, g2, e1, e2, e7, e8, e9, hg, l8, l9, hml, h60b, hmne, hi0', hck, ek3, q_x, g_x, l_x, r_x, z_x, q_z, g_z, l_z, r_z, z_z, g3, g4, f1_0, f2_0])
        case c_hu8 =>
          exact (by
            have := hu2
            rcases this with ⟨e1, e2⟩ | ⟨o, ex, e1, q1, q2, q3⟩
            · exact .inl ⟨e1, e2⟩
            · exact .inr ⟨o, ex, e1, q1, by omega, by rw [(ha3.trans ha4).1.2 _ q2]; exact q3⟩)
        case c_hof =>
          exact (by
            rcases hu2 with ⟨e1, e2⟩ | ⟨o, ex, e1, q1, q2, q3⟩
            · exact absurd (congrArg List.length e1) (by rw [List.length_append]; exact Nat.succ_ne_zero _)
            · rw [e1]; exact .mk fun hb => by unfold Btw at hb; omega)
      · have ek : pickK (movesL L B) cs run.length = 0 := by simp [pickK, hck]
        have hi3 : (movesL L B)[0] = (i : Int) := by rw [← hi0]; congr 1; exact ek.symm
        obtain ⟨o_z, i_z, c_z, cs_z, own_z, ex_z, es_z, q_z, b_z, g_z, l_z, r_z⟩ := hu9.ints.open ((by omega))
        have z_z : ∀ h2 : i_z < cs_z.length, cs_z[i_z] = _ := fun h2 => r_z 0 ((by omega)) h2
        try simp (disch := first | omega | (simp; done) | fail) [wrap64c, if_pos, if_neg, lw, g_h0, g1, g2, e1, e2, e7, e8, e9, hg, l8, l9, hml, h60b, hmne, hi0', hck, hi3, q_z, g_z, l_z, r_z, z_z]
        obtain ⟨u2, h2, hap, hu2, ha2, hn2, hs2⟩ := appI2 hu8 (i : Int) (by omega) hn ha (by omega)
        obtain ⟨sm2, of2⟩ := hs2 F hFn hof
        try simp (disch := first | omega | (simp; done) | fail) [wrap64c, if_pos, if_neg, lw, g_h0, g1, g2, e1, e2, e7, e8, e9, hg, l8, l9, hml, h60b, hmne, hi0', hck, hi3, q_z, g_z, l_z, r_z, z_z, hap]
        have g2 : h2.get h.next = .cells [a, b] true true 1 := by
          have := (hs2 (fun o => F o ∨ o = h.next) (fun o ho => ho.elim (hFn o) fun e => by omega) (fun o i n c e hf => hf.elim (hof o i n c e) fun e' => by
            rcases hu8 with ⟨_, rfl⟩ | ⟨o', ex, rfl, q1, q2, q3⟩
            · cases e
            · cases e; omega)).1.2 h.next (.inr rfl) (by omega)
          rw [this]; exact hg
        have hu7' := hu7.same sm2
        have hu9' := hu9.same sm2
        obtain ⟨o_z, i_z, c_z, cs_z, own_z, ex_z, es_z, q_z, b_z, g_z, l_z, r_z⟩ := hu9'.ints.open ((by omega))
        have z_z : ∀ h2 : i_z < cs_z.length, cs_z[i_z] = _ := fun h2 => r_z 0 ((by omega)) h2
        refine WD_drawC 6 rfl (by kernel_rfl) ?_
        try simp (disch := first | omega | (simp; done) | fail) [wrap64c, if_pos, if_neg, lw, g_h0, g1, g2, e1, e2, e7, e8, e9, hg, l8, l9, hml, h60b, hmne, hi0', hck, hi3, q_z, g_z, l_z, r_z, z_z]
        obtain ⟨u3, h3, hc3, ha3, hu3⟩ := waMove_ok h2 _ u7 L A B i (hv0.keep ha2.1) hu7'.ints hoB.sh hoB.small hi1
        refine callG_c (by simp) (by simp) ?ha (hc3) ?_
        (case ha => simp (disch := first | omega | (simp; done) | fail) [wrap64c, if_pos, if_neg, lw, g_h0, g1, g2, e1, e2, e7, e8, e9, hg, l8, l9, hml, h60b, hmne, hi0', hck, hi3, q_z, g_z, l_z, r_z, z_z])
        have g3 : h3.get h.next = .cells [a, b] true true 1 := by rw [ha3.1.2 _ (by omega)]; exact g2
        try simp (disch := first | omega | (simp; done) | fail) [wrap64c, if_pos, if_neg, lw, g_h0, g1, g2, e1, e2, e7, e8, e9, hg, l8, l9, hml, h60b, hmne, hi0', hck, hi3, q_z, g_z, l_z, r_z, z_z, g3]
        have K3 := ha2.trans ha3
        have n3 := ha3.1.1
        have hoB' := hoB.move hi1 hi2
        obtain ⟨u4, h4, hc4, ha4, hu4⟩ := waMoves_ok h3 _ u3 L A (moveA L B i) (hv0.keep K3.1) hu3.ints hoB'.sh
        refine callG_c (by simp) (by simp) ?ha (hc4) ?_
        (case ha => simp (disch := first | omega | (simp; done) | fail) [wrap64c, if_pos, if_neg, lw, g_h0, g1, g2, e1, e2, e7, e8, e9, hg, l8, l9, hml, h60b, hmne, hi0', hck, hi3, q_z, g_z, l_z, r_z, z_z, g3])
        have g4 : h4.get h.next = .cells [a, b] true true 1 := by rw [ha4.1.2 _ (by omega)]; exact g3
        have n4 := ha4.1.1
        try simp (disch := first | omega | (simp; done) | fail) [wrap64c, if_pos, if_neg, lw, g_h0, g1, g2, e1, e2, e7, e8, e9, hg, l8, l9, hml, h60b, hmne, hi0', hck, hi3, q_z, g_z, l_z, r_z, z_z, g3, g4]
        refine loopK_next _ ?hm ?hf ⟨run ++ [(i : Int)], moveA L B i, u3, u2, u4, (fun o => Btw h2.next h4.next o), rfl, (by simp (disch := first | omega | (simp; done) | fail) [wrap64c, if_pos, if_neg, lw, g_h0, g1, g2, e1, e2, e7, e8, e9, hg, l8, l9, hml, h60b, hmne, hi0', hck, hi3, q_z, g_z, l_z, r_z, z_z, g3, g4] <;> omega), (by simp (disch := first | omega | (simp; done) | fail) [wrap64c, if_pos, if_neg, lw, g_h0, g1, g2, e1, e2, e7, e8, e9, hg, l8, l9, hml, h60b, hmne, hi0', hck, hi3, q_z, g_z, l_z, r_z, z_z, g3, g4] <;> omega), (by simp (disch := first | omega | (simp; done) | fail) [wrap64c, if_pos, if_neg, lw, g_h0, g1, g2, e1, e2, e7, e8, e9, hg, l8, l9, hml, h60b, hmne, hi0', hck, hi3, q_z, g_z, l_z, r_z, z_z, g3, g4] <;> omega), (K3.trans ha4), (by first | omega | assumption | (simp (disch := first | omega | (simp; done) | fail) [wrap64c, if_pos, if_neg, lw, g_h0, g1, g2, e1, e2, e7, e8, e9, hg, l8, l9, hml, h60b, hmne, hi0', hck, hi3, q_z, g_z, l_z, r_z, z_z, g3, g4] <;> omega)), (by first | omega | assumption | (simp (disch := first | omega | (simp; done) | fail) [wrap64c, if_pos, if_neg, lw, g_h0, g1, g2, e1, e2, e7, e8, e9, hg, l8, l9, hml, h60b, hmne, hi0', hck, hi3, q_z, g_z, l_z, r_z, z_z, g3, g4] <;> omega)), ?c_hu8, ((hu3.keep ha4.1).sub fun x hx => by unfold Btw at *; omega), (hu4.sub fun x hx => by unfold Btw at *; omega), (fun o ho => ho.2), (fun o ho => by have := ho.1; omega), ?c_hof, (by simp; omega), hoB', (by simpa using hlB), (by rw [← hF, hfuel, fullA, if_neg (by intro e; rw [e] at hml; simp at hml), if_neg h60]; simp [hk2, hi0, hpk, show 61 - (run.length + 1) = 60 - run.length by omega])⟩
        (case hm => first | omega | (simp; omega))
        (case hf => simp [FrameL, lw, g_h0, g1, g2, e1, e2, e7, e8, e9, hg, l8, l9, hml, h60b, hmne, hi0', hck, hi3, q_z, g_z, l_z, r_z, z_z, g3, g4, f1_0, f2_0])
        case c_hu8 =>
          exact (by
            have := hu2
            rcases this with ⟨e1, e2⟩ | ⟨o, ex, e1, q1, q2, q3⟩
            · exact .inl ⟨e1, e2⟩
            · exact .inr ⟨o, ex, e1, q1, by omega, by rw [(ha3.trans ha4).1.2 _ q2]; exact q3⟩)
        case c_hof =>
          exact (by
            rcases hu2 with ⟨e1, e2⟩ | ⟨o, ex, e1, q1, q2, q3⟩
            · exact absurd (congrArg List.length e1) (by rw [List.length_append]; exact Nat.succ_ne_zero _)
            · rw [e1]; exact .mk fun hb => by unfold Btw at hb; omega)
  · try simp (disch := first | omega | (simp; done) | fail) [wrap64c, if_pos, if_neg, lw, g_h0, g1, g2, e1, e2, e7, e8, e9, hg, l8, l9, hml]
    have hm0 : movesL L B = [] := List.length_eq_zero_iff.1 (by omega)
    have e : fullA L cs 61 [] A = some (run, B) := by
      rw [← hF, hfuel, fullA, if_pos hm0]
    exact done_ret rfl ⟨ha, u8, u7, by rw [e]; rfl, by rw [e]; exact (hu8.own (by omega)).sub fun x hx => ⟨by have := hx.1; omega, hx.2⟩, by rw [e]; exact hu7.sub fun x hx => ⟨by have := hFl x hx; omega, hFn x hx⟩, by rw [e]; exact hu8.imp id fun ⟨o, ex, x1, x2, x3, x4⟩ => ⟨o, ex, x1, by omega, x3, x4⟩⟩
theorem waFull_ok (h : Hp) (v w : Value) (L : List (List Int)) (A cs : List Int) (hv : Chips h v L A) (hw : Ints h w cs) (ho : Ok L A) (hcs : ∀ x ∈ cs, 0 ≤ x) :
    ∃ v' h', CallOK Try.prog 47 #[v, w] h v' h' ∧ Adds h h' ∧ ∃ u1 u2, v' = .tuple #[u1, u2, .bool (fullA L cs 61 [] A).isSome] ∧ IntsO (Btw h.next h'.next) h' u1 (fRun (fullA L cs 61 [] A)) ∧ IntsO (Btw h.next h'.next) h' u2 (fAt (fullA L cs 61 [] A)) := by
  obtain ⟨v', h', h1, h2, u1, u2, h3, h4, h5, _⟩ := waFullA_ok h v w L A cs hv hw ho hcs
  exact ⟨v', h', h1, h2, u1, u2, h3, h4, h5⟩
end Go.Proofs.Ytnnjehonbolliaa
