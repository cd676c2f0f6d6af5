/- Least worst cases and best questions by the reference. -/
import Derived.Test.YtpehnhjgdgnnkaaS15
namespace Go.Proofs.Ytpehnhjgdgnnkaa
set_option linter.unusedSimpArgs false
set_option linter.unusedVariables false
set_option maxHeartbeats 4000000
open Go Go.Eng
attribute [local irreducible] WD RunD PreD Runs CallOK

theorem ask_le {L : List Nat} (hl : L.length ≤ 128) : ∀ x ∈ (openN L).map (askN L), x ≤ 1073741824 := by
  intro x hx
  obtain ⟨i, hi, rfl⟩ := List.mem_map.1 hx
  have := askN_le (mem_openK.1 hi).2
  omega
theorem tot_bound {a b c : Nat} (h : a + b = c) (ha : 0 < a) (hb : 0 < b) : c + a * a + b * b ≤ c * c := by
  subst h
  have h1 : a * 1 ≤ a * b := Nat.mul_le_mul (Nat.le_refl _) hb
  have h2 : 1 * b ≤ a * b := Nat.mul_le_mul ha (Nat.le_refl _)
  have h3 : (a + b) * (a + b) = a * a + a * b + (a * b + b * b) := by rw [Nat.add_mul, Nat.mul_add, Nat.mul_add, Nat.mul_comm b a]
  omega
theorem sq_le {a : Nat} (h : a ≤ 128) : a * a ≤ 16384 := Nat.mul_le_mul h h

theorem spLeast_ok (base ot o1 o2 n wd : Nat) (b : Value) (xs : List Nat) (g : SpGood n xs) (hm2 : wd = 2 * n) : ∀ (d : Nat) (h : Hp) (y z : Nat), TabOK base ot o1 o2 n wd b xs h → base ≤ h.next → y < 128 → z < 128 → (leftN xs y z) ≠ [] → (leftN xs y z).length < d →
    ∃ v h', CallOK Try.prog 137 #[.pointer (some ⟨ot, 0, none⟩), .int .i64 (y : Int), .int .i64 (z : Int)] h v h' ∧
      (∃ t : Nat, v = .tuple #[.int .i64 ((worstN (leftN xs y z) : Nat) : Int), .int .i64 (t : Int)] ∧ t ≤ (leftN xs y z).length * (leftN xs y z).length) ∧ Wr (fun q => q = o1 ∨ q = o2) h h' ∧ TabOK base ot o1 o2 n wd b xs h' := by
  intro d
  induction d with
  | zero => intro h y z _ _ _ _ _ hd; omega
  | succ d ih =>
    intro h y z hT hb hy hz hne hd
    refine call_L (args := [.pointer (some ⟨ot, 0, none⟩), .int .i64 (y : Int), .int .i64 (z : Int)]) 129 _ [.tmp 6, .tmp 7] Try.func137 rfl rfl rfl ?_
    have n7 := g.n7
    have hl7 := g.len7
    have htb := hT.tb
    have hb1 := hT.b1
    have hb2 := hT.b2
    repeat (first
      | (refine WD_block (fun K hK => ?_))
      | (refine WD_seq (fun K hK => ?_))
      | (refine WD_region (fun K hK => ?_))
      | ((first | refine RunD_o rfl rfl rfl rfl rfl (fun X hX => ?_) | refine RunD_s rfl rfl rfl rfl (fun X hX => ?_) | refine PreD_o rfl rfl rfl rfl rfl (fun X hX => ?_) | refine WD_c rfl (fun X Y hX hY => ?_)); (try dsimp only); simp (disch := first | omega | (simp; done) | fail) [wrap64c, if_pos, if_neg, opAnd, opOr, opXor, opDiff, opShr, opBit]; (first | (refine hX _ _ ?hadd ?_; (case hadd => simp; done)) | refine hX _ _ ?_ | refine hX ?_ | refine hY ?_); (try clear hX X); try clear hY Y)
      | (refine RunD_nil ?_; refine hK _ _ ?_; clear hK K)
      | (refine RunD_nil ?_)
      | (refine PreD_nil ?_; refine hK _ _ ?_; clear hK K)
      | (refine WD_skip ?_)
      | (refine WD_exit ?_)
      | (refine WD_ret ?_)
      | (refine hK.1 _ _ ?_; clear hK K)
      | (refine hK.2.1 _ _ ?_; clear hK K)
      | (refine hK.2 _ _ _ ?hne ?_; (case hne => simp; done); clear hK K)
      | (refine hK.2.2 _ _ _ ?hne ?_; (case hne => simp; done); clear hK K))
    obtain ⟨_, h1, hc1, ha1, u, rfl, hi1⟩ := closed_ok h base ot o1 o2 n wd b xs y z hT hb n7 g.lt7 hl7 hy hz
    refine RunD_c rfl rfl rfl rfl (by simp) (by simp) ?ha (hc1) ?_
    (case ha => simp (disch := first | omega | (simp; done) | fail) [wrap64c, if_pos, if_neg, opAnd, opOr, opXor, opDiff, opShr, opBit])
    have hcl := closed_left g.lt hne
    have hT1 := hT.adds hb ha1
    have hn1 := ha1.1.1
    obtain ⟨L, hLe⟩ : ∃ L, L = leftN xs y z := ⟨_, rfl⟩
    have hLn : ∀ x ∈ L, x < bit n := fun x hm => g.lt x (left_sub (hLe ▸ hm))
    have hLl : L.length ≤ 128 := by have := left_len xs y z; rw [hLe]; omega
    rw [← hLe] at hi1 hcl hne hd
    have hLe' := hLe.symm
    have hM1 := hi1.ints.lenD
    have hln1 := toN_length L
    have hi2 := inS_lt n L
    have ho2 := outS_lt n L
    have hbn := bit7 n7
    by_cases hone : L.length = 1
    · repeat (first
        | (refine WD_block (fun K hK => ?_))
        | (refine WD_seq (fun K hK => ?_))
        | (refine WD_region (fun K hK => ?_))
        | ((first | refine RunD_o rfl rfl rfl rfl rfl (fun X hX => ?_) | refine RunD_s rfl rfl rfl rfl (fun X hX => ?_) | refine PreD_o rfl rfl rfl rfl rfl (fun X hX => ?_) | refine WD_c rfl (fun X Y hX hY => ?_)); (try dsimp only); simp (disch := first | omega | (simp; done) | fail) [wrap64c, if_pos, if_neg, opAnd, opOr, opXor, opDiff, opShr, opBit, hLe', hM1, hln1, hone]; (first | (refine hX _ _ ?hadd ?_; (case hadd => simp; done)) | refine hX _ _ ?_ | refine hX ?_ | refine hY ?_); (try clear hX X); try clear hY Y)
        | (refine RunD_nil ?_; refine hK _ _ ?_; clear hK K)
        | (refine RunD_nil ?_)
        | (refine PreD_nil ?_; refine hK _ _ ?_; clear hK K)
        | (refine WD_skip ?_)
        | (refine WD_exit ?_)
        | (refine WD_ret ?_)
        | (refine hK.1 _ _ ?_; clear hK K)
        | (refine hK.2.1 _ _ ?_; clear hK K)
        | (refine hK.2 _ _ _ ?hne ?_; (case hne => simp; done); clear hK K)
        | (refine hK.2.2 _ _ _ ?hne ?_; (case hne => simp; done); clear hK K))
      exact done_ret rfl ⟨⟨0, by rw [← hLe, worst_one hone]; rfl, by omega⟩, .of_adds ha1, hT1⟩
    · have hL0 : 0 < L.length := List.length_pos_iff.2 hne
      obtain ⟨iN, hiN⟩ : ∃ x, x = inS n L := ⟨_, rfl⟩
      obtain ⟨oN, hoN⟩ : ∃ x, x = outS n L := ⟨_, rfl⟩
      rw [← hiN, ← hoN] at hcl
      rw [← hiN] at hi2
      rw [← hoN] at ho2
      have hiN' := hiN.symm
      have hoN' := hoN.symm
      have hpe := place_eq (a := iN) ho2
      have hpl := place_lt hm2 hi2 ho2
      have hpd := place_div (a := iN) ho2
      obtain ⟨at', hat⟩ : ∃ x, x = iN * bit n + oN := ⟨_, rfl⟩
      rw [← hat] at hpe hpl hpd
      have hpe' := hpe
      have hshl := opShl (iN : Int) (n : Int) (by omega) (by omega) (by omega) (by omega)
      simp only [Int.toNat_natCast] at hshl
      have hshl := hshl
      have hwl := worstN_le L
      have hsh : nShl iN n ≤ 16384 := by
        have : nShl iN n = iN * bit n := by unfold nShl bit; rw [Nat.shiftLeft_eq]
        have h2 : iN * bit n ≤ 128 * 128 := Nat.mul_le_mul (by omega) (by omega)
        omega
      have hbm := bit_mono (i := wd) (j := 14) (by omega)
      have hb14 : bit 14 = 16384 := rfl
      obtain ⟨W, T, eW, eT, gW, gT, hWT⟩ := hT1.ent
      have ht1 := hT1.tab
      have gW := gW
      have gT := gT
      have hcW := cellsN_getD W
      have hcT := cellsN_getD T
      have eW := eW
      have eT := eT
      have haW : at' < W.length := by rw [eW]; omega
      have haT : at' < T.length := by rw [eT]; omega
      by_cases hpos : 0 < W[at']
      · obtain ⟨q1, q2, q3⟩ := hWT at' haW haT hpos
        rw [hpd.1, hpd.2, hcl] at q1 q3
        have hsq := sq_le hLl
        repeat (first
          | (refine WD_block (fun K hK => ?_))
          | (refine WD_seq (fun K hK => ?_))
          | (refine WD_region (fun K hK => ?_))
          | ((first | refine RunD_o rfl rfl rfl rfl rfl (fun X hX => ?_) | refine RunD_s rfl rfl rfl rfl (fun X hX => ?_) | refine PreD_o rfl rfl rfl rfl rfl (fun X hX => ?_) | refine WD_c rfl (fun X Y hX hY => ?_)); (try dsimp only); simp (disch := first | omega | (simp; done) | fail) [wrap64c, if_pos, if_neg, opAnd, opOr, opXor, opDiff, opShr, opBit, hLe', hM1, hln1, hone, hiN', hoN', hpe', hshl, ht1, gW, gT, hcW, hcT, eW, eT, hpos]; (first | (refine hX _ _ ?hadd ?_; (case hadd => simp; done)) | refine hX _ _ ?_ | refine hX ?_ | refine hY ?_); (try clear hX X); try clear hY Y)
          | (refine RunD_nil ?_; refine hK _ _ ?_; clear hK K)
          | (refine RunD_nil ?_)
          | (refine PreD_nil ?_; refine hK _ _ ?_; clear hK K)
          | (refine WD_skip ?_)
          | (refine WD_exit ?_)
          | (refine WD_ret ?_)
          | (refine hK.1 _ _ ?_; clear hK K)
          | (refine hK.2.1 _ _ ?_; clear hK K)
          | (refine hK.2 _ _ _ ?hne ?_; (case hne => simp; done); clear hK K)
          | (refine hK.2.2 _ _ _ ?hne ?_; (case hne => simp; done); clear hK K))
        refine WD_draw 17 rfl (by kernel_rfl) (fun K hK => ?_)
        repeat (first
          | (refine WD_block (fun K hK => ?_))
          | (refine WD_seq (fun K hK => ?_))
          | (refine WD_region (fun K hK => ?_))
          | ((first | refine RunD_o rfl rfl rfl rfl rfl (fun X hX => ?_) | refine RunD_s rfl rfl rfl rfl (fun X hX => ?_) | refine PreD_o rfl rfl rfl rfl rfl (fun X hX => ?_) | refine WD_c rfl (fun X Y hX hY => ?_)); (try dsimp only); simp (disch := first | omega | (simp; done) | fail) [wrap64c, if_pos, if_neg, opAnd, opOr, opXor, opDiff, opShr, opBit, hLe', hM1, hln1, hone, hiN', hoN', hpe', hshl, ht1, gW, gT, hcW, hcT, eW, eT, hpos]; (first | (refine hX _ _ ?hadd ?_; (case hadd => simp; done)) | refine hX _ _ ?_ | refine hX ?_ | refine hY ?_); (try clear hX X); try clear hY Y)
          | (refine RunD_nil ?_; refine hK _ _ ?_; clear hK K)
          | (refine RunD_nil ?_)
          | (refine PreD_nil ?_; refine hK _ _ ?_; clear hK K)
          | (refine WD_skip ?_)
          | (refine WD_exit ?_)
          | (refine WD_ret ?_)
          | (refine hK.1 _ _ ?_; clear hK K)
          | (refine hK.2.1 _ _ ?_; clear hK K)
          | (refine hK.2 _ _ _ ?hne ?_; (case hne => simp; done); clear hK K)
          | (refine hK.2.2 _ _ _ ?hne ?_; (case hne => simp; done); clear hK K))
        refine done_ret rfl ⟨⟨T[at'] - 1, ?_, by rw [← hLe]; omega⟩, .of_adds ha1, hT1⟩
        simp [← hLe]; omega
      · repeat (first
          | (refine WD_block (fun K hK => ?_))
          | (refine WD_seq (fun K hK => ?_))
          | (refine WD_region (fun K hK => ?_))
          | ((first | refine RunD_o rfl rfl rfl rfl rfl (fun X hX => ?_) | refine RunD_s rfl rfl rfl rfl (fun X hX => ?_) | refine PreD_o rfl rfl rfl rfl rfl (fun X hX => ?_) | refine WD_c rfl (fun X Y hX hY => ?_)); (try dsimp only); simp (disch := first | omega | (simp; done) | fail) [wrap64c, if_pos, if_neg, opAnd, opOr, opXor, opDiff, opShr, opBit, hLe', hM1, hln1, hone, hiN', hoN', hpe', hshl, ht1, gW, gT, hcW, hcT, eW, eT, hpos]; (first | (refine hX _ _ ?hadd ?_; (case hadd => simp; done)) | refine hX _ _ ?_ | refine hX ?_ | refine hY ?_); (try clear hX X); try clear hY Y)
          | (refine RunD_nil ?_; refine hK _ _ ?_; clear hK K)
          | (refine RunD_nil ?_)
          | (refine PreD_nil ?_; refine hK _ _ ?_; clear hK K)
          | (refine WD_skip ?_)
          | (refine WD_exit ?_)
          | (refine WD_ret ?_)
          | (refine hK.1 _ _ ?_; clear hK K)
          | (refine hK.2.1 _ _ ?_; clear hK K)
          | (refine hK.2 _ _ _ ?hne ?_; (case hne => simp; done); clear hK K)
          | (refine hK.2.2 _ _ _ ?hne ?_; (case hne => simp; done); clear hK K))
        refine WD_loopF [0, 8, 9, 10, 11] (fun m tm h' => ∃ i t, m = n - i + 0 * t ∧ tm 12 = .int .i64 ((minW ((openK L i).map (askN L)) : Nat) : Int) ∧ tm 13 = .int .i64 (t : Int) ∧ tm 14 = .int .i64 (i : Int) ∧ (i ≤ n) ∧ ((openK L i = [] ∧ t = 1073741824) ∨ t ≤ L.length * L.length) ∧ (Wr (fun q => q = o1 ∨ q = o2) h1 h') ∧ (TabOK base ot o1 o2 n wd b xs h')) _ ⟨0, 1073741824, rfl, (by simp [minW, openK]), (by simp (disch := first | omega | (simp; done) | fail) [wrap64c, if_pos, if_neg, opAnd, opOr, opXor, opDiff, opShr, opBit, hLe', hM1, hln1, hone, hiN', hoN', hpe', hshl, ht1, gW, gT, hcW, hcT, eW, eT, hpos]), (by simp (disch := first | omega | (simp; done) | fail) [wrap64c, if_pos, if_neg, opAnd, opOr, opXor, opDiff, opShr, opBit, hLe', hM1, hln1, hone, hiN', hoN', hpe', hshl, ht1, gW, gT, hcW, hcT, eW, eT, hpos]), (by first | omega | assumption | (simp (disch := first | omega | (simp; done) | fail) [wrap64c, if_pos, if_neg, opAnd, opOr, opXor, opDiff, opShr, opBit, hLe', hM1, hln1, hone, hiN', hoN', hpe', hshl, ht1, gW, gT, hcW, hcT, eW, eT, hpos] <;> omega)), (.inl ⟨rfl, rfl⟩), (Wr.refl _ _), hT1⟩ ?_
        rintro m tm h' hFr ⟨i, t, rfl, e12, e13, e14, hi, ht, hW, hTT⟩ K hK
        simp only [FrameL] at hFr
        obtain ⟨f0_0, f8_0, f9_0, f10_0, f11_0, -⟩ := hFr
        try simp (disch := first | omega | (simp; done) | fail) [wrap64c, if_pos, if_neg, opAnd, opOr, opXor, opDiff, opShr, opBit, hLe', hM1, hln1, hone, hiN', hoN', hpe', hshl, ht1, gW, gT, hcW, hcT, eW, eT, hpos] at f0_0 f8_0 f9_0 f10_0 f11_0
        have e0 := f0_0
        have e8 := f8_0
        have e9 := f9_0
        have e10 := f10_0
        have e11 := f11_0
        have ht' := hTT.tab
        have hn2 := hW.upd.1
        have hsq := sq_le hLl
        have hmw := minW_le ((openK L i).map (askN L))
        by_cases hlt : i < n
        · have hkb := known_bit (n := n) hne hlt
          have hkb1 : (nOr iN oN).testBit i = !opB L i := by rw [hiN, hoN]; exact hkb
          have hor := nOr128 (a := iN) (b := oN) (by omega) (by omega)
          have hos := openK_succ L i
          repeat (first
            | (refine WD_block (fun K hK => ?_))
            | (refine WD_seq (fun K hK => ?_))
            | (refine WD_region (fun K hK => ?_))
            | ((first | refine RunD_o rfl rfl rfl rfl rfl (fun X hX => ?_) | refine RunD_s rfl rfl rfl rfl (fun X hX => ?_) | refine PreD_o rfl rfl rfl rfl rfl (fun X hX => ?_) | refine WD_c rfl (fun X Y hX hY => ?_)); (try dsimp only); simp (disch := first | omega | (simp; done) | fail) [wrap64c, if_pos, if_neg, opAnd, opOr, opXor, opDiff, opShr, opBit, hLe', hM1, hln1, hone, hiN', hoN', hpe', hshl, ht1, gW, gT, hcW, hcT, eW, eT, hpos, e0, e8, e9, e10, e11, e12, e13, e14, ht', hlt]; (first | (refine hX _ _ ?hadd ?_; (case hadd => simp; done)) | refine hX _ _ ?_ | refine hX ?_ | refine hY ?_); (try clear hX X); try clear hY Y)
            | (refine RunD_nil ?_; refine hK _ _ ?_; clear hK K)
            | (refine RunD_nil ?_)
            | (refine PreD_nil ?_; refine hK _ _ ?_; clear hK K)
            | (refine WD_skip ?_)
            | (refine WD_exit ?_)
            | (refine WD_ret ?_)
            | (refine hK.1 _ _ ?_; clear hK K)
            | (refine hK.2.1 _ _ ?_; clear hK K)
            | (refine hK.2 _ _ _ ?hne ?_; (case hne => simp; done); clear hK K)
            | (refine hK.2.2 _ _ _ ?hne ?_; (case hne => simp; done); clear hK K))
          refine RunD_c rfl rfl rfl rfl (by simp) (by simp) ?ha (spIn_ok h' (nOr iN oN) i (by omega) (by omega)) ?_
          (case ha => simp (disch := first | omega | (simp; done) | fail) [wrap64c, if_pos, if_neg, opAnd, opOr, opXor, opDiff, opShr, opBit, hLe', hM1, hln1, hone, hiN', hoN', hpe', hshl, ht1, gW, gT, hcW, hcT, eW, eT, hpos, e0, e8, e9, e10, e11, e12, e13, e14, ht', hlt])
          cases hop : opB L i
          · rw [hop] at hkb1 hos
            have hkb1 := hkb1
            have hos' : openK L (i + 1) = openK L i := hos
            repeat (first
              | (refine WD_block (fun K hK => ?_))
              | (refine WD_seq (fun K hK => ?_))
              | (refine WD_region (fun K hK => ?_))
              | ((first | refine RunD_o rfl rfl rfl rfl rfl (fun X hX => ?_) | refine RunD_s rfl rfl rfl rfl (fun X hX => ?_) | refine PreD_o rfl rfl rfl rfl rfl (fun X hX => ?_) | refine WD_c rfl (fun X Y hX hY => ?_)); (try dsimp only); simp (disch := first | omega | (simp; done) | fail) [wrap64c, if_pos, if_neg, opAnd, opOr, opXor, opDiff, opShr, opBit, hLe', hM1, hln1, hone, hiN', hoN', hpe', hshl, ht1, gW, gT, hcW, hcT, eW, eT, hpos, e0, e8, e9, e10, e11, e12, e13, e14, ht', hlt, hkb1]; (first | (refine hX _ _ ?hadd ?_; (case hadd => simp; done)) | refine hX _ _ ?_ | refine hX ?_ | refine hY ?_); (try clear hX X); try clear hY Y)
              | (refine RunD_nil ?_; refine hK _ _ ?_; clear hK K)
              | (refine RunD_nil ?_)
              | (refine PreD_nil ?_; refine hK _ _ ?_; clear hK K)
              | (refine WD_skip ?_)
              | (refine WD_exit ?_)
              | (refine WD_ret ?_)
              | (refine hK.1 _ _ ?_; clear hK K)
              | (refine hK.2.1 _ _ ?_; clear hK K)
              | (refine hK.2 _ _ _ ?hne ?_; (case hne => simp; done); clear hK K)
              | (refine hK.2.2 _ _ _ ?hne ?_; (case hne => simp; done); clear hK K))
            refine hK.1 _ _ _ ?hm ?hf ⟨i + 1, t, rfl, (by simp [hos', e12]), (by simp (disch := first | omega | (simp; done) | fail) [wrap64c, if_pos, if_neg, opAnd, opOr, opXor, opDiff, opShr, opBit, hLe', hM1, hln1, hone, hiN', hoN', hpe', hshl, ht1, gW, gT, hcW, hcT, eW, eT, hpos, e0, e8, e9, e10, e11, e12, e13, e14, ht', hlt, hkb1] <;> omega), (by simp (disch := first | omega | (simp; done) | fail) [wrap64c, if_pos, if_neg, opAnd, opOr, opXor, opDiff, opShr, opBit, hLe', hM1, hln1, hone, hiN', hoN', hpe', hshl, ht1, gW, gT, hcW, hcT, eW, eT, hpos, e0, e8, e9, e10, e11, e12, e13, e14, ht', hlt, hkb1] <;> omega), (by first | omega | assumption | (simp (disch := first | omega | (simp; done) | fail) [wrap64c, if_pos, if_neg, opAnd, opOr, opXor, opDiff, opShr, opBit, hLe', hM1, hln1, hone, hiN', hoN', hpe', hshl, ht1, gW, gT, hcW, hcT, eW, eT, hpos, e0, e8, e9, e10, e11, e12, e13, e14, ht', hlt, hkb1] <;> omega)), (by rw [hos']; exact ht), (by first | omega | assumption | (simp (disch := first | omega | (simp; done) | fail) [wrap64c, if_pos, if_neg, opAnd, opOr, opXor, opDiff, opShr, opBit, hLe', hM1, hln1, hone, hiN', hoN', hpe', hshl, ht1, gW, gT, hcW, hcT, eW, eT, hpos, e0, e8, e9, e10, e11, e12, e13, e14, ht', hlt, hkb1] <;> omega)), (by first | omega | assumption | (simp (disch := first | omega | (simp; done) | fail) [wrap64c, if_pos, if_neg, opAnd, opOr, opXor, opDiff, opShr, opBit, hLe', hM1, hln1, hone, hiN', hoN', hpe', hshl, ht1, gW, gT, hcW, hcT, eW, eT, hpos, e0, e8, e9, e10, e11, e12, e13, e14, ht', hlt, hkb1] <;> omega))⟩
            (case hm => first | omega | (simp; omega))
            (case hf => simp [FrameL, hLe', hM1, hln1, hone, hiN', hoN', hpe', hshl, ht1, gW, gT, hcW, hcT, eW, eT, hpos, e0, e8, e9, e10, e11, e12, e13, e14, ht', hlt, hkb1, f0_0, f8_0, f9_0, f10_0, f11_0])
          · rw [hop] at hkb1 hos
            have hkb1 := hkb1
            have hos' : openK L (i + 1) = openK L i ++ [i] := by rw [hos, if_pos rfl]
            have hlen := has_len hop
            have hb7 := bit_lt7 (i := i) (by omega)
            have hy2 := nOr128 (a := iN) (b := bit i) (by omega) (by omega)
            have hz2 := nOr128 (a := oN) (b := bit i) (by omega) (by omega)
            have hly := left_yes xs iN oN i
            have hlz := left_no xs iN oN i
            rw [hcl] at hly hlz
            repeat (first
              | (refine WD_block (fun K hK => ?_))
              | (refine WD_seq (fun K hK => ?_))
              | (refine WD_region (fun K hK => ?_))
              | ((first | refine RunD_o rfl rfl rfl rfl rfl (fun X hX => ?_) | refine RunD_s rfl rfl rfl rfl (fun X hX => ?_) | refine PreD_o rfl rfl rfl rfl rfl (fun X hX => ?_) | refine WD_c rfl (fun X Y hX hY => ?_)); (try dsimp only); simp (disch := first | omega | (simp; done) | fail) [wrap64c, if_pos, if_neg, opAnd, opOr, opXor, opDiff, opShr, opBit, hLe', hM1, hln1, hone, hiN', hoN', hpe', hshl, ht1, gW, gT, hcW, hcT, eW, eT, hpos, e0, e8, e9, e10, e11, e12, e13, e14, ht', hlt, hkb1]; (first | (refine hX _ _ ?hadd ?_; (case hadd => simp; done)) | refine hX _ _ ?_ | refine hX ?_ | refine hY ?_); (try clear hX X); try clear hY Y)
              | (refine RunD_nil ?_; refine hK _ _ ?_; clear hK K)
              | (refine RunD_nil ?_)
              | (refine PreD_nil ?_; refine hK _ _ ?_; clear hK K)
              | (refine WD_skip ?_)
              | (refine WD_exit ?_)
              | (refine WD_ret ?_)
              | (refine hK.1 _ _ ?_; clear hK K)
              | (refine hK.2.1 _ _ ?_; clear hK K)
              | (refine hK.2 _ _ _ ?hne ?_; (case hne => simp; done); clear hK K)
              | (refine hK.2.2 _ _ _ ?hne ?_; (case hne => simp; done); clear hK K))
            obtain ⟨_, h3, hc3, ⟨t1, rfl, ht1'⟩, W3, A3⟩ := ih h' (nOr iN (bit i)) oN hTT (by omega) hy2 (by omega) (by rw [hly]; exact List.length_pos_iff.1 hlen.2.2.1) (by rw [hly]; omega)
            rw [hly] at hc3 ht1'
            refine RunD_c rfl rfl rfl rfl (by simp) (by simp) ?ha (hc3) ?_
            (case ha => simp (disch := first | omega | (simp; done) | fail) [wrap64c, if_pos, if_neg, opAnd, opOr, opXor, opDiff, opShr, opBit, hLe', hM1, hln1, hone, hiN', hoN', hpe', hshl, ht1, gW, gT, hcW, hcT, eW, eT, hpos, e0, e8, e9, e10, e11, e12, e13, e14, ht', hlt, hkb1])
            have n4 := W3.upd.1
            repeat (first
              | (refine WD_block (fun K hK => ?_))
              | (refine WD_seq (fun K hK => ?_))
              | (refine WD_region (fun K hK => ?_))
              | ((first | refine RunD_o rfl rfl rfl rfl rfl (fun X hX => ?_) | refine RunD_s rfl rfl rfl rfl (fun X hX => ?_) | refine PreD_o rfl rfl rfl rfl rfl (fun X hX => ?_) | refine WD_c rfl (fun X Y hX hY => ?_)); (try dsimp only); simp (disch := first | omega | (simp; done) | fail) [wrap64c, if_pos, if_neg, opAnd, opOr, opXor, opDiff, opShr, opBit, hLe', hM1, hln1, hone, hiN', hoN', hpe', hshl, ht1, gW, gT, hcW, hcT, eW, eT, hpos, e0, e8, e9, e10, e11, e12, e13, e14, ht', hlt, hkb1]; (first | (refine hX _ _ ?hadd ?_; (case hadd => simp; done)) | refine hX _ _ ?_ | refine hX ?_ | refine hY ?_); (try clear hX X); try clear hY Y)
              | (refine RunD_nil ?_; refine hK _ _ ?_; clear hK K)
              | (refine RunD_nil ?_)
              | (refine PreD_nil ?_; refine hK _ _ ?_; clear hK K)
              | (refine WD_skip ?_)
              | (refine WD_exit ?_)
              | (refine WD_ret ?_)
              | (refine hK.1 _ _ ?_; clear hK K)
              | (refine hK.2.1 _ _ ?_; clear hK K)
              | (refine hK.2 _ _ _ ?hne ?_; (case hne => simp; done); clear hK K)
              | (refine hK.2.2 _ _ _ ?hne ?_; (case hne => simp; done); clear hK K))
            obtain ⟨_, h4, hc4, ⟨t2, rfl, ht2'⟩, W4, A4⟩ := ih h3 iN (nOr oN (bit i)) A3 (by omega) (by omega) hz2 (by rw [hlz]; exact List.length_pos_iff.1 hlen.2.2.2.1) (by rw [hlz]; omega)
            rw [hlz] at hc4 ht2'
            refine RunD_c rfl rfl rfl rfl (by simp) (by simp) ?ha (hc4) ?_
            (case ha => simp (disch := first | omega | (simp; done) | fail) [wrap64c, if_pos, if_neg, opAnd, opOr, opXor, opDiff, opShr, opBit, hLe', hM1, hln1, hone, hiN', hoN', hpe', hshl, ht1, gW, gT, hcW, hcT, eW, eT, hpos, e0, e8, e9, e10, e11, e12, e13, e14, ht', hlt, hkb1])
            obtain ⟨w1, hw1'⟩ : ∃ w, w = worstN (hasL L i) := ⟨_, rfl⟩
            obtain ⟨w2, hw2'⟩ : ∃ w, w = worstN (lacksL L i) := ⟨_, rfl⟩
            have haq : askN L i = 1 + max (worstN (hasL L i)) (worstN (lacksL L i)) := rfl
            have hwb1 := worstN_le (hasL L i)
            have hwb2 := worstN_le (lacksL L i)
            rw [← hw1', ← hw2'] at haq
            rw [← hw1'] at hwb1
            rw [← hw2'] at hwb2
            have hsn : minW ((openK L (i + 1)).map (askN L)) = min (minW ((openK L i).map (askN L))) (1 + max w1 w2) := by
              rw [hos', List.map_append, List.map_cons, List.map_nil, minW_snoc, haq]
            obtain ⟨w0, hw0⟩ : ∃ w, w = minW ((openK L i).map (askN L)) := ⟨_, rfl⟩
            rw [← hw0] at hsn hmw e12
            rw [← hw1', ← hw2']
            have htb := tot_bound hlen.2.2.2.2 hlen.2.2.1 hlen.2.2.2.1
            have hs1 := sq_le (a := (hasL L i).length) (by omega)
            have hs2 := sq_le (a := (lacksL L i).length) (by omega)
            obtain ⟨q, hq⟩ : ∃ q, q = max w1 w2 := ⟨_, rfl⟩
            have hmc := l1MostN_ok h4 w1 w2
            rw [← hq] at hmc hsn
            obtain ⟨r, hr⟩ : ∃ r, r = min w0 (1 + q) := ⟨_, rfl⟩
            have hlc := l1LeastN_ok h4 w0 (1 + q)
            rw [← hr] at hlc hsn
            obtain ⟨t3, ht3⟩ : ∃ r, r = min t (L.length + t1 + t2) := ⟨_, rfl⟩
            have hlt3 := l1LeastN_ok h4 t (L.length + t1 + t2)
            rw [← ht3] at hlt3
            repeat (first
              | (refine WD_block (fun K hK => ?_))
              | (refine WD_seq (fun K hK => ?_))
              | (refine WD_region (fun K hK => ?_))
              | ((first | refine RunD_o rfl rfl rfl rfl rfl (fun X hX => ?_) | refine RunD_s rfl rfl rfl rfl (fun X hX => ?_) | refine PreD_o rfl rfl rfl rfl rfl (fun X hX => ?_) | refine WD_c rfl (fun X Y hX hY => ?_)); (try dsimp only); simp (disch := first | omega | (simp; done) | fail) [wrap64c, if_pos, if_neg, opAnd, opOr, opXor, opDiff, opShr, opBit, hLe', hM1, hln1, hone, hiN', hoN', hpe', hshl, ht1, gW, gT, hcW, hcT, eW, eT, hpos, e0, e8, e9, e10, e11, e12, e13, e14, ht', hlt, hkb1]; (first | (refine hX _ _ ?hadd ?_; (case hadd => simp; done)) | refine hX _ _ ?_ | refine hX ?_ | refine hY ?_); (try clear hX X); try clear hY Y)
              | (refine RunD_nil ?_; refine hK _ _ ?_; clear hK K)
              | (refine RunD_nil ?_)
              | (refine PreD_nil ?_; refine hK _ _ ?_; clear hK K)
              | (refine WD_skip ?_)
              | (refine WD_exit ?_)
              | (refine WD_ret ?_)
              | (refine hK.1 _ _ ?_; clear hK K)
              | (refine hK.2.1 _ _ ?_; clear hK K)
              | (refine hK.2 _ _ _ ?hne ?_; (case hne => simp; done); clear hK K)
              | (refine hK.2.2 _ _ _ ?hne ?_; (case hne => simp; done); clear hK K))
            refine RunD_c rfl rfl rfl rfl (by simp) (by simp) ?ha (hmc) ?_
            (case ha => simp (disch := first | omega | (simp; done) | fail) [wrap64c, if_pos, if_neg, opAnd, opOr, opXor, opDiff, opShr, opBit, hLe', hM1, hln1, hone, hiN', hoN', hpe', hshl, ht1, gW, gT, hcW, hcT, eW, eT, hpos, e0, e8, e9, e10, e11, e12, e13, e14, ht', hlt, hkb1])
            repeat (first
              | (refine WD_block (fun K hK => ?_))
              | (refine WD_seq (fun K hK => ?_))
              | (refine WD_region (fun K hK => ?_))
              | ((first | refine RunD_o rfl rfl rfl rfl rfl (fun X hX => ?_) | refine RunD_s rfl rfl rfl rfl (fun X hX => ?_) | refine PreD_o rfl rfl rfl rfl rfl (fun X hX => ?_) | refine WD_c rfl (fun X Y hX hY => ?_)); (try dsimp only); simp (disch := first | omega | (simp; done) | fail) [wrap64c, if_pos, if_neg, opAnd, opOr, opXor, opDiff, opShr, opBit, hLe', hM1, hln1, hone, hiN', hoN', hpe', hshl, ht1, gW, gT, hcW, hcT, eW, eT, hpos, e0, e8, e9, e10, e11, e12, e13, e14, ht', hlt, hkb1]; (first | (refine hX _ _ ?hadd ?_; (case hadd => simp; done)) | refine hX _ _ ?_ | refine hX ?_ | refine hY ?_); (try clear hX X); try clear hY Y)
              | (refine RunD_nil ?_; refine hK _ _ ?_; clear hK K)
              | (refine RunD_nil ?_)
              | (refine PreD_nil ?_; refine hK _ _ ?_; clear hK K)
              | (refine WD_skip ?_)
              | (refine WD_exit ?_)
              | (refine WD_ret ?_)
              | (refine hK.1 _ _ ?_; clear hK K)
              | (refine hK.2.1 _ _ ?_; clear hK K)
              | (refine hK.2 _ _ _ ?hne ?_; (case hne => simp; done); clear hK K)
              | (refine hK.2.2 _ _ _ ?hne ?_; (case hne => simp; done); clear hK K))
            refine RunD_c rfl rfl rfl rfl (by simp) (by simp) ?ha (hlc) ?_
            (case ha => simp (disch := first | omega | (simp; done) | fail) [wrap64c, if_pos, if_neg, opAnd, opOr, opXor, opDiff, opShr, opBit, hLe', hM1, hln1, hone, hiN', hoN', hpe', hshl, ht1, gW, gT, hcW, hcT, eW, eT, hpos, e0, e8, e9, e10, e11, e12, e13, e14, ht', hlt, hkb1])
            repeat (first
              | (refine WD_block (fun K hK => ?_))
              | (refine WD_seq (fun K hK => ?_))
              | (refine WD_region (fun K hK => ?_))
              | ((first | refine RunD_o rfl rfl rfl rfl rfl (fun X hX => ?_) | refine RunD_s rfl rfl rfl rfl (fun X hX => ?_) | refine PreD_o rfl rfl rfl rfl rfl (fun X hX => ?_) | refine WD_c rfl (fun X Y hX hY => ?_)); (try dsimp only); simp (disch := first | omega | (simp; done) | fail) [wrap64c, if_pos, if_neg, opAnd, opOr, opXor, opDiff, opShr, opBit, hLe', hM1, hln1, hone, hiN', hoN', hpe', hshl, ht1, gW, gT, hcW, hcT, eW, eT, hpos, e0, e8, e9, e10, e11, e12, e13, e14, ht', hlt, hkb1]; (first | (refine hX _ _ ?hadd ?_; (case hadd => simp; done)) | refine hX _ _ ?_ | refine hX ?_ | refine hY ?_); (try clear hX X); try clear hY Y)
              | (refine RunD_nil ?_; refine hK _ _ ?_; clear hK K)
              | (refine RunD_nil ?_)
              | (refine PreD_nil ?_; refine hK _ _ ?_; clear hK K)
              | (refine WD_skip ?_)
              | (refine WD_exit ?_)
              | (refine WD_ret ?_)
              | (refine hK.1 _ _ ?_; clear hK K)
              | (refine hK.2.1 _ _ ?_; clear hK K)
              | (refine hK.2 _ _ _ ?hne ?_; (case hne => simp; done); clear hK K)
              | (refine hK.2.2 _ _ _ ?hne ?_; (case hne => simp; done); clear hK K))
            refine RunD_c rfl rfl rfl rfl (by simp) (by simp) ?ha (hlt3) ?_
            (case ha => simp (disch := first | omega | (simp; done) | fail) [wrap64c, if_pos, if_neg, opAnd, opOr, opXor, opDiff, opShr, opBit, hLe', hM1, hln1, hone, hiN', hoN', hpe', hshl, ht1, gW, gT, hcW, hcT, eW, eT, hpos, e0, e8, e9, e10, e11, e12, e13, e14, ht', hlt, hkb1])
            repeat (first
              | (refine WD_block (fun K hK => ?_))
              | (refine WD_seq (fun K hK => ?_))
              | (refine WD_region (fun K hK => ?_))
              | ((first | refine RunD_o rfl rfl rfl rfl rfl (fun X hX => ?_) | refine RunD_s rfl rfl rfl rfl (fun X hX => ?_) | refine PreD_o rfl rfl rfl rfl rfl (fun X hX => ?_) | refine WD_c rfl (fun X Y hX hY => ?_)); (try dsimp only); simp (disch := first | omega | (simp; done) | fail) [wrap64c, if_pos, if_neg, opAnd, opOr, opXor, opDiff, opShr, opBit, hLe', hM1, hln1, hone, hiN', hoN', hpe', hshl, ht1, gW, gT, hcW, hcT, eW, eT, hpos, e0, e8, e9, e10, e11, e12, e13, e14, ht', hlt, hkb1]; (first | (refine hX _ _ ?hadd ?_; (case hadd => simp; done)) | refine hX _ _ ?_ | refine hX ?_ | refine hY ?_); (try clear hX X); try clear hY Y)
              | (refine RunD_nil ?_; refine hK _ _ ?_; clear hK K)
              | (refine RunD_nil ?_)
              | (refine PreD_nil ?_; refine hK _ _ ?_; clear hK K)
              | (refine WD_skip ?_)
              | (refine WD_exit ?_)
              | (refine WD_ret ?_)
              | (refine hK.1 _ _ ?_; clear hK K)
              | (refine hK.2.1 _ _ ?_; clear hK K)
              | (refine hK.2 _ _ _ ?hne ?_; (case hne => simp; done); clear hK K)
              | (refine hK.2.2 _ _ _ ?hne ?_; (case hne => simp; done); clear hK K))
            refine hK.1 _ _ _ ?hm ?hf ⟨i + 1, t3, rfl, (by simp [hsn]), (by simp (disch := first | omega | (simp; done) | fail) [wrap64c, if_pos, if_neg, opAnd, opOr, opXor, opDiff, opShr, opBit, hLe', hM1, hln1, hone, hiN', hoN', hpe', hshl, ht1, gW, gT, hcW, hcT, eW, eT, hpos, e0, e8, e9, e10, e11, e12, e13, e14, ht', hlt, hkb1] <;> omega), (by simp (disch := first | omega | (simp; done) | fail) [wrap64c, if_pos, if_neg, opAnd, opOr, opXor, opDiff, opShr, opBit, hLe', hM1, hln1, hone, hiN', hoN', hpe', hshl, ht1, gW, gT, hcW, hcT, eW, eT, hpos, e0, e8, e9, e10, e11, e12, e13, e14, ht', hlt, hkb1] <;> omega), (by first | omega | assumption | (simp (disch := first | omega | (simp; done) | fail) [wrap64c, if_pos, if_neg, opAnd, opOr, opXor, opDiff, opShr, opBit, hLe', hM1, hln1, hone, hiN', hoN', hpe', hshl, ht1, gW, gT, hcW, hcT, eW, eT, hpos, e0, e8, e9, e10, e11, e12, e13, e14, ht', hlt, hkb1] <;> omega)), (.inr (by omega)), (hW.trans (W3.trans W4)), A4⟩
            (case hm => first | omega | (simp; omega))
            (case hf => simp [FrameL, hLe', hM1, hln1, hone, hiN', hoN', hpe', hshl, ht1, gW, gT, hcW, hcT, eW, eT, hpos, e0, e8, e9, e10, e11, e12, e13, e14, ht', hlt, hkb1, f0_0, f8_0, f9_0, f10_0, f11_0])
        · have hie : i = n := by omega
          have hLs : L.Pairwise (· < ·) := hLe ▸ left_srt g.srt y z
          have hon := (open_ne n7 hLs hLn).2 (by omega)
          rw [hie, openK_eq n7 hLn] at ht e12
          rw [minW_eq (by simpa using hon) (ask_le hLl), ← worstN_eq] at e12
          have htb : t ≤ L.length * L.length := by
            rcases ht with ⟨h1, _⟩ | h1
            · exact absurd h1 hon
            · exact h1
          obtain ⟨W2, T2, eW2, eT2, gW2, gT2, hWT2⟩ := hTT.ent
          have gW2 := gW2
          have gT2 := gT2
          have eW2 := eW2
          have eT2 := eT2
          have hq1 := hT.n1
          have hq2 := hT.n2
          have hq3 := hT.n12.symm
          have haW2 : at' < W2.length := by rw [eW2]; omega
          have haT2 : at' < T2.length := by rw [eT2]; omega
          repeat (first
            | (refine WD_block (fun K hK => ?_))
            | (refine WD_seq (fun K hK => ?_))
            | (refine WD_region (fun K hK => ?_))
            | ((first | refine RunD_o rfl rfl rfl rfl rfl (fun X hX => ?_) | refine RunD_s rfl rfl rfl rfl (fun X hX => ?_) | refine PreD_o rfl rfl rfl rfl rfl (fun X hX => ?_) | refine WD_c rfl (fun X Y hX hY => ?_)); (try dsimp only); simp (disch := first | omega | (simp; done) | fail) [wrap64c, if_pos, if_neg, opAnd, opOr, opXor, opDiff, opShr, opBit, hLe', hM1, hln1, hone, hiN', hoN', hpe', hshl, ht1, gW, gT, hcW, hcT, eW, eT, hpos, e0, e8, e9, e10, e11, e12, e13, e14, ht', hlt, gW2, gT2, eW2, eT2, hq1, hq2, hq3]; (first | (refine hX _ _ ?hadd ?_; (case hadd => simp; done)) | refine hX _ _ ?_ | refine hX ?_ | refine hY ?_); (try clear hX X); try clear hY Y)
            | (refine RunD_nil ?_; refine hK _ _ ?_; clear hK K)
            | (refine RunD_nil ?_)
            | (refine PreD_nil ?_; refine hK _ _ ?_; clear hK K)
            | (refine WD_skip ?_)
            | (refine WD_exit ?_)
            | (refine WD_ret ?_)
            | (refine hK.1 _ _ ?_; clear hK K)
            | (refine hK.2.1 _ _ ?_; clear hK K)
            | (refine hK.2 _ _ _ ?hne ?_; (case hne => simp; done); clear hK K)
            | (refine hK.2.2 _ _ _ ?hne ?_; (case hne => simp; done); clear hK K))
          have WW := (((Wr.of_adds (S := fun q => q = o1 ∨ q = o2) ha1).trans hW).put (o := o1) (.inl rfl) (x := .cells (putCells (cellsN W2) at' [.int .i64 ((worstN L : Int) + 1)]) true true 1) (fun _ => rfl)).put (o := o2) (.inr rfl) (x := .cells (putCells (cellsN T2) at' [.int .i64 ((t : Int) + 1)]) true true 1) (fun _ => rfl)
          refine done_ret rfl ⟨⟨t, by simp [← hLe], by rw [← hLe]; exact htb⟩, WW, ?_⟩
          have hpW : putCells (cellsN W2) at' [.int .i64 ((worstN L : Int) + 1)] = cellsN (W2.set at' (worstN L + 1)) := by
            rw [putCells_one (by simpa using haW2), ← cellsN_set]; simp
          have hpT : putCells (cellsN T2) at' [.int .i64 ((t : Int) + 1)] = cellsN (T2.set at' (t + 1)) := by
            rw [putCells_one (by simpa using haT2), ← cellsN_set]; simp
          rw [hpW, hpT]
          refine ⟨hT.tb, hT.b1, hT.b2, hT.n1, hT.n2, hT.n12, ?_, hTT.ints.same ⟨by simp, fun q hq _ => by simp [hq.2.1, hq.2.2]⟩, W2.set at' (worstN L + 1), T2.set at' (t + 1), by simpa using eW2, by simpa using eT2, ?_, ?_, ?_⟩
          · simp [hT.n1, hT.n2, ht']
          · simp [hT.n12]
          · simp
          · intro k h1 h2 h3
            rw [List.length_set] at h1 h2
            rw [List.getElem_set] at h3 ⊢
            rw [List.getElem_set]
            by_cases e : at' = k
            · rw [if_pos e] at h3 ⊢
              rw [if_pos e, ← e, hpd.1, hpd.2, hcl]
              exact ⟨by omega, by omega, by omega⟩
            · rw [if_neg e] at h3 ⊢
              rw [if_neg e]
              exact hWT2 k h1 h2 h3
end Go.Proofs.Ytpehnhjgdgnnkaa
