/- Questions by the program: what is known is kept in a map. -/
import Derived.Test.YtpehnhjgdgnnkaaS13
namespace Go.Proofs.Ytpehnhjgdgnnkaa
set_option linter.unusedSimpArgs false
set_option linter.unusedVariables false
set_option maxHeartbeats 4000000
open Go Go.Eng
attribute [local irreducible] WD RunD PreD Runs CallOK

def keyV (y z : Nat) : Value := .agg #[.int .i64 (y : Int), .int .i64 (z : Int)]
theorem keyV_ok (y z : Nat) : isKey 2 (.agg #[.int .i64 (y : Int), .int .i64 (z : Int)]) = true := rfl
/-- What the map says is so. -/
def MemOK (xs : List Nat) (es : List (Value × Value)) : Prop := ∀ e ∈ es, ∃ y z : Nat, e.1 = keyV y z ∧ e.2 = .int .i64 ((worstN (leftN xs y z) : Nat) : Int)
theorem MemOK.keys {xs : List Nat} {es : List (Value × Value)} (h : MemOK xs es) : keysOK 2 es = true := by
  unfold keysOK
  rw [List.all_eq_true]
  intro e he
  obtain ⟨y, z, e1, _⟩ := h e he
  rw [e1]; rfl
theorem keyB_key {y z y' z' : Nat} : keyB (keyV y z) (keyV y' z') = true ↔ y = y' ∧ z = z' := by
  unfold keyV
  simp [keyB]
theorem MemOK.get {xs : List Nat} : ∀ {es : List (Value × Value)}, MemOK xs es → ∀ (y z : Nat), mapGet es (keyV y z) = none ∨ mapGet es (keyV y z) = some (.int .i64 ((worstN (leftN xs y z) : Nat) : Int))
  | [], _, y, z => .inl rfl
  | e :: es, h, y, z => by
    obtain ⟨y', z', e1, e2⟩ := h e (by simp)
    rw [mapGet]
    by_cases hk : keyB e.1 (keyV y z) = true
    · rw [if_pos hk]
      right
      rw [e1] at hk
      obtain ⟨rfl, rfl⟩ := keyB_key.1 hk
      rw [e2]
    · rw [if_neg hk]
      exact MemOK.get (fun e he => h e (by simp [he])) y z
theorem MemOK.put {xs : List Nat} : ∀ {es : List (Value × Value)}, MemOK xs es → ∀ (y z : Nat), MemOK xs (mapPut es (keyV y z) (.int .i64 ((worstN (leftN xs y z) : Nat) : Int)))
  | [], _, y, z => by
    intro e he
    simp only [mapPut, List.mem_singleton] at he
    subst he
    exact ⟨y, z, rfl, rfl⟩
  | e :: es, h, y, z => by
    rw [mapPut]
    split
    · intro q hq
      rcases List.mem_cons.1 hq with rfl | hq
      · exact ⟨y, z, rfl, rfl⟩
      · exact h q (by simp [hq])
    · intro q hq
      rcases List.mem_cons.1 hq with rfl | hq
      · exact h q (by simp)
      · exact MemOK.put (fun e he => h e (by simp [he])) y z q hq

/-- An asker whose memory lies below a number. -/
structure AskOK (base o p : Nat) (N : Int) (b m2 : Value) (xs : List Nat) (h : Hp) : Prop where
  ob : o < base
  pb : p < base
  ne : o ≠ p
  asker : h.get o = .cells [.int .i64 N, b, .map (some p), m2] true true 1
  ints : IntsF (fun x => x < base ∧ x ≠ p) h b (toN xs)
  mem : ∃ es, h.get p = .map es ∧ MemOK xs es
theorem AskOK.stab {base o p : Nat} {N : Int} {b m2 : Value} {xs : List Nat} {h h' : Hp} (k : AskOK base o p N b m2 xs h) (hn : h.next ≤ h'.next) (hs : ∀ q, q < base → h'.get q = h.get q) : AskOK base o p N b m2 xs h' where
  ob := k.ob
  pb := k.pb
  ne := k.ne
  asker := by rw [hs o k.ob]; exact k.asker
  ints := k.ints.same ⟨hn, fun q hq _ => hs q hq.1⟩
  mem := by obtain ⟨es, h1, h2⟩ := k.mem; exact ⟨es, by rw [hs p k.pb]; exact h1, h2⟩
theorem AskOK.adds {base o p : Nat} {N : Int} {b m2 : Value} {xs : List Nat} {h h' : Hp} (k : AskOK base o p N b m2 xs h) (hb : base ≤ h.next) (a : Adds h h') : AskOK base o p N b m2 xs h' :=
  k.stab a.1.1 fun q hq => a.1.2 q (by omega)

theorem minL_take {L : List Nat} {j : Nat} (hj : j < (openN L).length) : minL (((openN L).take (j + 1)).map (askN L)) = if j = 0 then askN L (openN L)[j] else min (minL (((openN L).take j).map (askN L))) (askN L (openN L)[j]) := by
  rw [List.take_succ_eq_append_getElem hj, List.map_append]
  simp only [List.map_cons, List.map_nil]
  rw [minL_snoc]
  by_cases h0 : j = 0
  · subst h0; simp
  · rw [if_neg h0, if_neg]
    intro he
    have h1 : (((openN L).take j).map (askN L)).length = 0 := by rw [he]; rfl
    rw [List.length_map, List.length_take] at h1
    omega
theorem minL_le_of {L : List Nat} (j : Nat) : minL (((openN L).take j).map (askN L)) ≤ L.length := by
  by_cases h : ((openN L).take j).map (askN L) = []
  · rw [h]; exact Nat.zero_le _
  · refine minL_le h fun x hx => ?_
    obtain ⟨i, hi, rfl⟩ := List.mem_map.1 hx
    exact askN_le (mem_openK.1 (List.mem_of_mem_take hi)).2

theorem least_ok (base o p : Nat) (N : Int) (b m2 : Value) (xs : List Nat) (hx : ∀ x ∈ xs, x < 128) (hl : xs.length < 2 ^ 39) : ∀ (m : Nat) (h : Hp) (y z : Nat), AskOK base o p N b m2 xs h → base ≤ h.next → y < 128 → z < 128 → (leftN xs y z).length < m →
    ∃ v h', CallOK Try.prog 110 #[.pointer (some ⟨o, 0, none⟩), .int .i64 (y : Int), .int .i64 (z : Int)] h v h' ∧ v = .int .i64 ((worstN (leftN xs y z) : Nat) : Int) ∧ Wr (fun q => q = p) h h' ∧ AskOK base o p N b m2 xs h' := by
  intro m
  induction m with
  | zero => intro h y z _ _ _ _ hm; omega
  | succ m ih =>
    intro h y z hA hb hy hz hm
    refine call_L (args := [.pointer (some ⟨o, 0, none⟩), .int .i64 (y : Int), .int .i64 (z : Int)]) 74 _ [.tmp 6] Try.func110 rfl rfl rfl ?_
    obtain ⟨es, hgp, hM⟩ := hA.mem
    have hkk := keyV_ok y z
    have hob := hA.ob
    have hpb := hA.pb
    have hwL := worstN_le (leftN xs y z)
    have hll := left_len xs y z
    repeat (first
      | (refine WD_block (fun K hK => ?_))
      | (refine WD_seq (fun K hK => ?_))
      | (refine WD_region (fun K hK => ?_))
      | ((first | refine RunD_o rfl rfl rfl rfl rfl (fun X hX => ?_) | refine RunD_s rfl rfl rfl rfl (fun X hX => ?_) | refine RunD_g rfl rfl rfl rfl rfl rfl rfl (fun X Y hX hY => ?_) | refine RunD_gc rfl rfl rfl rfl rfl rfl (fun Y hY => ?_) | refine PreD_o rfl rfl rfl rfl rfl (fun X hX => ?_) | refine PreD_g rfl rfl rfl rfl rfl rfl rfl (fun X Y hX hY => ?_) | refine PreD_gc rfl rfl rfl rfl rfl rfl (fun Y hY => ?_) | refine WD_c rfl (fun X Y hX hY => ?_)); (try dsimp only); simp (disch := first | omega | (simp; done) | fail) [wrap64c, if_pos, if_neg, opAnd, opOr, opXor, opDiff, opShr, opBit, hkk, putCells]; (first | (refine hX _ _ ?hadd ?_; (case hadd => simp; done)) | refine hX _ _ ?_ | refine hX ?_ | refine hY ?_); (try clear hX X); try clear hY Y)
      | (refine RunD_nil ?_; refine hK _ _ ?_; clear hK K)
      | (refine RunD_nil ?_)
      | (refine PreD_nil ?_; refine hK _ _ ?_; clear hK K)
      | (refine WD_skip ?_)
      | (refine WD_exit ?_)
      | (refine WD_ret ?_)
      | (refine hK.1 _ _ ?_; clear hK K)
      | (refine hK.2.1 _ _ ?_; clear hK K)
      | (refine hK.2 _ _ _ ?hne ?_; (case hne => simp; done); clear hK K)
      | (refine hK.2.2 _ _ _ ?hne ?_; (case hne => simp; done); clear hK K))
    first | refine WD_heap fun h0 q_h0 => ?_ | refine RunD_heap fun h0 q_h0 => ?_ | refine PreD_heap fun h0 q_h0 => ?_ | refine Done_heap fun h0 q_h0 => ?_
    have k0 : Adds h h0 := by rw [q_h0]; exact (by repeat (first | exact keep_self _ | exact adds_self _ | assumption | exact Adds.keeps (by assumption) | refine keeps_alloc ?_ _ | refine adds_alloc ?_ _ _ _ | refine adds_allocM ?_ _ | (refine keeps_put ?_ ?hle _; (case hle => first | omega | (simp; done) | (simp; omega))) | (refine adds_put ?_ ?hle _ _ _; (case hle => first | omega | (simp; done) | (simp; omega)))))
    have n0 : h0.next = h.next + 1 := by simp [q_h0]
    have gk : h0.get h.next = .cells [.int .i64 (y : Int), .int .i64 (z : Int)] true true 1 := by simp [q_h0]
    have hA0 := hA.adds hb k0
    have ask0 := hA0.asker
    have gp0 : h0.get p = .map es := by rw [k0.1.2 p (by omega)]; exact hgp
    have hky : keysOK 2 es = true := hM.keys
    refine WD_draw 10 rfl (by kernel_rfl) (fun K hK => ?_)
    repeat (first
      | (refine WD_block (fun K hK => ?_))
      | (refine WD_seq (fun K hK => ?_))
      | (refine WD_region (fun K hK => ?_))
      | ((first | refine RunD_o rfl rfl rfl rfl rfl (fun X hX => ?_) | refine RunD_s rfl rfl rfl rfl (fun X hX => ?_) | refine RunD_g rfl rfl rfl rfl rfl rfl rfl (fun X Y hX hY => ?_) | refine RunD_gc rfl rfl rfl rfl rfl rfl (fun Y hY => ?_) | refine PreD_o rfl rfl rfl rfl rfl (fun X hX => ?_) | refine PreD_g rfl rfl rfl rfl rfl rfl rfl (fun X Y hX hY => ?_) | refine PreD_gc rfl rfl rfl rfl rfl rfl (fun Y hY => ?_) | refine WD_c rfl (fun X Y hX hY => ?_)); (try dsimp only); simp (disch := first | omega | (simp; done) | fail) [wrap64c, if_pos, if_neg, opAnd, opOr, opXor, opDiff, opShr, opBit, hkk, gk, ask0, gp0, hky]; (first | (refine hX _ _ ?hadd ?_; (case hadd => simp; done)) | refine hX _ _ ?_ | refine hX ?_ | refine hY ?_); (try clear hX X); try clear hY Y)
      | (refine RunD_nil ?_; refine hK _ _ ?_; clear hK K)
      | (refine RunD_nil ?_)
      | (refine PreD_nil ?_; refine hK _ _ ?_; clear hK K)
      | (refine WD_skip ?_)
      | (refine WD_exit ?_)
      | (refine WD_ret ?_)
      | (refine hK.1 _ _ ?_; clear hK K)
      | (refine hK.2.1 _ _ ?_; clear hK K)
      | (refine hK.2 _ _ _ ?hne ?_; (case hne => simp; done); clear hK K)
      | (refine hK.2.2 _ _ _ ?hne ?_; (case hne => simp; done); clear hK K))
    rcases hM.get y z with hg | hg
    · unfold keyV at hg
      have hg := hg
      repeat (first
        | (refine WD_block (fun K hK => ?_))
        | (refine WD_seq (fun K hK => ?_))
        | (refine WD_region (fun K hK => ?_))
        | ((first | refine RunD_o rfl rfl rfl rfl rfl (fun X hX => ?_) | refine RunD_s rfl rfl rfl rfl (fun X hX => ?_) | refine RunD_g rfl rfl rfl rfl rfl rfl rfl (fun X Y hX hY => ?_) | refine RunD_gc rfl rfl rfl rfl rfl rfl (fun Y hY => ?_) | refine PreD_o rfl rfl rfl rfl rfl (fun X hX => ?_) | refine PreD_g rfl rfl rfl rfl rfl rfl rfl (fun X Y hX hY => ?_) | refine PreD_gc rfl rfl rfl rfl rfl rfl (fun Y hY => ?_) | refine WD_c rfl (fun X Y hX hY => ?_)); (try dsimp only); simp (disch := first | omega | (simp; done) | fail) [wrap64c, if_pos, if_neg, opAnd, opOr, opXor, opDiff, opShr, opBit, hkk, gk, ask0, gp0, hky, hg]; (first | (refine hX _ _ ?hadd ?_; (case hadd => simp; done)) | refine hX _ _ ?_ | refine hX ?_ | refine hY ?_); (try clear hX X); try clear hY Y)
        | (refine RunD_nil ?_; refine hK _ _ ?_; clear hK K)
        | (refine RunD_nil ?_)
        | (refine PreD_nil ?_; refine hK _ _ ?_; clear hK K)
        | (refine WD_skip ?_)
        | (refine WD_exit ?_)
        | (refine WD_ret ?_)
        | (refine hK.1 _ _ ?_; clear hK K)
        | (refine hK.2.1 _ _ ?_; clear hK K)
        | (refine hK.2 _ _ _ ?hne ?_; (case hne => simp; done); clear hK K)
        | (refine hK.2.2 _ _ _ ?hne ?_; (case hne => simp; done); clear hK K))
      obtain ⟨v1, h1, hc1, ha1, hi1⟩ := imLeft_ok h0 (.agg #[.int .i64 N, b]) N xs y z (.mk hA0.ints.ints) hx hl hy hz
      refine RunD_c rfl rfl rfl rfl (by simp) (by simp) ?ha (hc1) ?_
      (case ha => simp (disch := first | omega | (simp; done) | fail) [wrap64c, if_pos, if_neg, opAnd, opOr, opXor, opDiff, opShr, opBit, hkk, gk, ask0, gp0, hky, hg])
      obtain ⟨L, hLe⟩ : ∃ L, L = leftN xs y z := ⟨_, rfl⟩
      have hLx : ∀ x ∈ L, x < 128 := fun x hm => hx x (left_sub (hLe ▸ hm))
      have hLl : L.length < 2 ^ 39 := by rw [hLe]; omega
      rw [← hLe] at hi1 hm hwL
      obtain ⟨v2, h2, hc2, ha2, hi2⟩ := open_ok h1 v1 L hi1.ints hLx hLl
      refine RunD_c rfl rfl rfl rfl (by simp) (by simp) ?ha (hc2) ?_
      (case ha => simp (disch := first | omega | (simp; done) | fail) [wrap64c, if_pos, if_neg, opAnd, opOr, opXor, opDiff, opShr, opBit, hkk, gk, ask0, gp0, hky, hg])
      have n1 := ha1.1.1
      have n2 := ha2.1.1
      have hA2 := (hA0.adds (by omega) ha1).adds (by omega) ha2
      have hgt := toN_get (openN L)
      have hln := toN_length (openN L)
      have hM2 := hi2.ints.lenD
      have hol : (openN L).length ≤ 7 := openK_len L 7
      have gk2 : h2.get h.next = .cells [.int .i64 (y : Int), .int .i64 (z : Int)] true true 1 := by rw [ha2.1.2 _ (by omega), ha1.1.2 _ (by omega)]; exact gk
      repeat (first
        | (refine WD_block (fun K hK => ?_))
        | (refine WD_seq (fun K hK => ?_))
        | (refine WD_region (fun K hK => ?_))
        | ((first | refine RunD_o rfl rfl rfl rfl rfl (fun X hX => ?_) | refine RunD_s rfl rfl rfl rfl (fun X hX => ?_) | refine RunD_g rfl rfl rfl rfl rfl rfl rfl (fun X Y hX hY => ?_) | refine RunD_gc rfl rfl rfl rfl rfl rfl (fun Y hY => ?_) | refine PreD_o rfl rfl rfl rfl rfl (fun X hX => ?_) | refine PreD_g rfl rfl rfl rfl rfl rfl rfl (fun X Y hX hY => ?_) | refine PreD_gc rfl rfl rfl rfl rfl rfl (fun Y hY => ?_) | refine WD_c rfl (fun X Y hX hY => ?_)); (try dsimp only); simp (disch := first | omega | (simp; done) | fail) [wrap64c, if_pos, if_neg, opAnd, opOr, opXor, opDiff, opShr, opBit, hkk, gk, ask0, gp0, hky, hg, hgt, hM2]; (first | (refine hX _ _ ?hadd ?_; (case hadd => simp; done)) | refine hX _ _ ?_ | refine hX ?_ | refine hY ?_); (try clear hX X); try clear hY Y)
        | (refine RunD_nil ?_; refine hK _ _ ?_; clear hK K)
        | (refine RunD_nil ?_)
        | (refine PreD_nil ?_; refine hK _ _ ?_; clear hK K)
        | (refine WD_skip ?_)
        | (refine WD_exit ?_)
        | (refine WD_ret ?_)
        | (refine hK.1 _ _ ?_; clear hK K)
        | (refine hK.2.1 _ _ ?_; clear hK K)
        | (refine hK.2 _ _ _ ?hne ?_; (case hne => simp; done); clear hK K)
        | (refine hK.2.2 _ _ _ ?hne ?_; (case hne => simp; done); clear hK K))
      refine WD_loopF [0, 1, 2, 7, 35, 36] (fun m tm h' => ∃ j, m = (openN L).length - j ∧ tm 10 = .int .i64 ((minL (((openN L).take j).map (askN L)) : Nat) : Int) ∧ tm 37 = .int .i64 (j : Int) ∧ (j ≤ (openN L).length) ∧ (Wr (fun q => q = p) h2 h') ∧ (AskOK base o p N b m2 xs h')) _ ⟨0, rfl, (by simp [minL]), (by simp (disch := first | omega | (simp; done) | fail) [wrap64c, if_pos, if_neg, opAnd, opOr, opXor, opDiff, opShr, opBit, hkk, gk, ask0, gp0, hky, hg, hgt, hM2]), (by first | omega | assumption | (simp (disch := first | omega | (simp; done) | fail) [wrap64c, if_pos, if_neg, opAnd, opOr, opXor, opDiff, opShr, opBit, hkk, gk, ask0, gp0, hky, hg, hgt, hM2] <;> omega)), (Wr.refl _ _), hA2⟩ ?_
      rintro m tm h' hFr ⟨j, rfl, e10, e37, hj, hW, hAA⟩ K hK
      simp only [FrameL] at hFr
      obtain ⟨f0_0, f1_0, f2_0, f7_0, f35_0, f36_0, -⟩ := hFr
      try simp (disch := first | omega | (simp; done) | fail) [wrap64c, if_pos, if_neg, opAnd, opOr, opXor, opDiff, opShr, opBit, hkk, gk, ask0, gp0, hky, hg, hgt, hM2] at f0_0 f1_0 f2_0 f7_0 f35_0 f36_0
      have e0 := f0_0
      have e1 := f1_0
      have e2 := f2_0
      have e7 := f7_0
      have e35 := f35_0
      have e36 := f36_0
      have hu := hW.upd
      have hv2 := (hi2.same (hu.same fun x hx hx' => by unfold Btw at hx; omega)).ints
      have gk' : h'.get h.next = .cells [.int .i64 (y : Int), .int .i64 (z : Int)] true true 1 := by rw [hu.2 _ (by omega) (by omega)]; exact gk2
      have ask' := hAA.asker
      have n3 := hu.1
      have hml := minL_le_of (L := L) j
      by_cases hlt : j < (openN L).length
      · obtain ⟨o_x, i_x, c_x, cs_x, own_x, ex_x, es_x, q_x, b_x, g_x, l_x, r_x⟩ := hv2.open ((by omega))
        have z_x : ∀ h2 : i_x < cs_x.length, cs_x[i_x] = _ := fun h2 => r_x 0 ((by omega)) h2
        obtain ⟨i, hi⟩ : ∃ i, i = (openN L)[j] := ⟨_, rfl⟩
        have hopi := (mem_openK.1 (List.getElem_mem hlt)).2
        have hi7 : i < 7 := by rw [hi]; exact (mem_openK.1 (List.getElem_mem hlt)).1
        rw [← hi] at hopi
        have hi' := hi.symm
        have hlen := has_len hopi
        have hmt := minL_take (L := L) hlt
        rw [← hi] at hmt
        have hb7 := bit_lt7 hi7
        have hy2 := nOr128 (b := bit i) hy (by omega)
        have hz2 := nOr128 (b := bit i) hz (by omega)
        have hw1 := worstN_le (hasL L i)
        have hw2 := worstN_le (lacksL L i)
        have haq : askN L i = 1 + max (worstN (hasL L i)) (worstN (lacksL L i)) := rfl
        repeat (first
          | (refine WD_block (fun K hK => ?_))
          | (refine WD_seq (fun K hK => ?_))
          | (refine WD_region (fun K hK => ?_))
          | ((first | refine RunD_o rfl rfl rfl rfl rfl (fun X hX => ?_) | refine RunD_s rfl rfl rfl rfl (fun X hX => ?_) | refine RunD_g rfl rfl rfl rfl rfl rfl rfl (fun X Y hX hY => ?_) | refine RunD_gc rfl rfl rfl rfl rfl rfl (fun Y hY => ?_) | refine PreD_o rfl rfl rfl rfl rfl (fun X hX => ?_) | refine PreD_g rfl rfl rfl rfl rfl rfl rfl (fun X Y hX hY => ?_) | refine PreD_gc rfl rfl rfl rfl rfl rfl (fun Y hY => ?_) | refine WD_c rfl (fun X Y hX hY => ?_)); (try dsimp only); simp (disch := first | omega | (simp; done) | fail) [wrap64c, if_pos, if_neg, opAnd, opOr, opXor, opDiff, opShr, opBit, hkk, gk, ask0, gp0, hky, hg, hgt, hM2, e0, e1, e2, e7, e10, e35, e36, e37, gk', ask', hlt, q_x, g_x, l_x, r_x, z_x, hi']; (first | (refine hX _ _ ?hadd ?_; (case hadd => simp; done)) | refine hX _ _ ?_ | refine hX ?_ | refine hY ?_); (try clear hX X); try clear hY Y)
          | (refine RunD_nil ?_; refine hK _ _ ?_; clear hK K)
          | (refine RunD_nil ?_)
          | (refine PreD_nil ?_; refine hK _ _ ?_; clear hK K)
          | (refine WD_skip ?_)
          | (refine WD_exit ?_)
          | (refine WD_ret ?_)
          | (refine hK.1 _ _ ?_; clear hK K)
          | (refine hK.2.1 _ _ ?_; clear hK K)
          | (refine hK.2 _ _ _ ?hne ?_; (case hne => simp; done); clear hK K)
          | (refine hK.2.2 _ _ _ ?hne ?_; (case hne => simp; done); clear hK K))
        refine WD_chain rfl (by kernel_rfl) (by kernel_rfl) (fun K hK => ?_)
        repeat (first
          | (refine WD_block (fun K hK => ?_))
          | (refine WD_seq (fun K hK => ?_))
          | (refine WD_region (fun K hK => ?_))
          | ((first | refine RunD_o rfl rfl rfl rfl rfl (fun X hX => ?_) | refine RunD_s rfl rfl rfl rfl (fun X hX => ?_) | refine RunD_g rfl rfl rfl rfl rfl rfl rfl (fun X Y hX hY => ?_) | refine RunD_gc rfl rfl rfl rfl rfl rfl (fun Y hY => ?_) | refine PreD_o rfl rfl rfl rfl rfl (fun X hX => ?_) | refine PreD_g rfl rfl rfl rfl rfl rfl rfl (fun X Y hX hY => ?_) | refine PreD_gc rfl rfl rfl rfl rfl rfl (fun Y hY => ?_) | refine WD_c rfl (fun X Y hX hY => ?_)); (try dsimp only); simp (disch := first | omega | (simp; done) | fail) [wrap64c, if_pos, if_neg, opAnd, opOr, opXor, opDiff, opShr, opBit, hkk, gk, ask0, gp0, hky, hg, hgt, hM2, e0, e1, e2, e7, e10, e35, e36, e37, gk', ask', hlt, q_x, g_x, l_x, r_x, z_x, hi']; (first | (refine hX _ _ ?hadd ?_; (case hadd => simp; done)) | refine hX _ _ ?_ | refine hX ?_ | refine hY ?_); (try clear hX X); try clear hY Y)
          | (refine RunD_nil ?_; refine hK _ _ ?_; clear hK K)
          | (refine RunD_nil ?_)
          | (refine PreD_nil ?_; refine hK _ _ ?_; clear hK K)
          | (refine WD_skip ?_)
          | (refine WD_exit ?_)
          | (refine WD_ret ?_)
          | (refine hK.1 _ _ ?_; clear hK K)
          | (refine hK.2.1 _ _ ?_; clear hK K)
          | (refine hK.2 _ _ _ ?hne ?_; (case hne => simp; done); clear hK K)
          | (refine hK.2.2 _ _ _ ?hne ?_; (case hne => simp; done); clear hK K))
        obtain ⟨_, h3, hc3, rfl, W3, A3⟩ := ih h' (nOr y (bit i)) z hAA (by omega) hy2 hz (by rw [left_yes, ← hLe]; omega)
        refine RunD_c rfl rfl rfl rfl (by simp) (by simp) ?ha (hc3) ?_
        (case ha => simp (disch := first | omega | (simp; done) | fail) [wrap64c, if_pos, if_neg, opAnd, opOr, opXor, opDiff, opShr, opBit, hkk, gk, ask0, gp0, hky, hg, hgt, hM2, e0, e1, e2, e7, e10, e35, e36, e37, gk', ask', hlt, q_x, g_x, l_x, r_x, z_x, hi'])
        have n4 := W3.upd.1
        rw [left_yes, ← hLe]
        repeat (first
          | (refine WD_block (fun K hK => ?_))
          | (refine WD_seq (fun K hK => ?_))
          | (refine WD_region (fun K hK => ?_))
          | ((first | refine RunD_o rfl rfl rfl rfl rfl (fun X hX => ?_) | refine RunD_s rfl rfl rfl rfl (fun X hX => ?_) | refine RunD_g rfl rfl rfl rfl rfl rfl rfl (fun X Y hX hY => ?_) | refine RunD_gc rfl rfl rfl rfl rfl rfl (fun Y hY => ?_) | refine PreD_o rfl rfl rfl rfl rfl (fun X hX => ?_) | refine PreD_g rfl rfl rfl rfl rfl rfl rfl (fun X Y hX hY => ?_) | refine PreD_gc rfl rfl rfl rfl rfl rfl (fun Y hY => ?_) | refine WD_c rfl (fun X Y hX hY => ?_)); (try dsimp only); simp (disch := first | omega | (simp; done) | fail) [wrap64c, if_pos, if_neg, opAnd, opOr, opXor, opDiff, opShr, opBit, hkk, gk, ask0, gp0, hky, hg, hgt, hM2, e0, e1, e2, e7, e10, e35, e36, e37, gk', ask', hlt, q_x, g_x, l_x, r_x, z_x, hi']; (first | (refine hX _ _ ?hadd ?_; (case hadd => simp; done)) | refine hX _ _ ?_ | refine hX ?_ | refine hY ?_); (try clear hX X); try clear hY Y)
          | (refine RunD_nil ?_; refine hK _ _ ?_; clear hK K)
          | (refine RunD_nil ?_)
          | (refine PreD_nil ?_; refine hK _ _ ?_; clear hK K)
          | (refine WD_skip ?_)
          | (refine WD_exit ?_)
          | (refine WD_ret ?_)
          | (refine hK.1 _ _ ?_; clear hK K)
          | (refine hK.2.1 _ _ ?_; clear hK K)
          | (refine hK.2 _ _ _ ?hne ?_; (case hne => simp; done); clear hK K)
          | (refine hK.2.2 _ _ _ ?hne ?_; (case hne => simp; done); clear hK K))
        obtain ⟨_, h4, hc4, rfl, W4, A4⟩ := ih h3 y (nOr z (bit i)) A3 (by omega) hy hz2 (by rw [left_no, ← hLe]; omega)
        refine RunD_c rfl rfl rfl rfl (by simp) (by simp) ?ha (hc4) ?_
        (case ha => simp (disch := first | omega | (simp; done) | fail) [wrap64c, if_pos, if_neg, opAnd, opOr, opXor, opDiff, opShr, opBit, hkk, gk, ask0, gp0, hky, hg, hgt, hM2, e0, e1, e2, e7, e10, e35, e36, e37, gk', ask', hlt, q_x, g_x, l_x, r_x, z_x, hi'])
        rw [left_no, ← hLe]
        obtain ⟨w1, hw1'⟩ : ∃ w, w = worstN (hasL L i) := ⟨_, rfl⟩
        obtain ⟨w2, hw2'⟩ : ∃ w, w = worstN (lacksL L i) := ⟨_, rfl⟩
        obtain ⟨w0, hw0⟩ : ∃ w, w = minL (((openN L).take j).map (askN L)) := ⟨_, rfl⟩
        rw [← hw1', ← hw2'] at haq
        rw [← hw1'] at hw1
        rw [← hw2'] at hw2
        rw [← hw0] at hmt hml e10
        rw [haq] at hmt
        rw [← hw1', ← hw2']
        by_cases hc12 : w1 < w2
        · repeat (first
            | (refine WD_block (fun K hK => ?_))
            | (refine WD_seq (fun K hK => ?_))
            | (refine WD_region (fun K hK => ?_))
            | ((first | refine RunD_o rfl rfl rfl rfl rfl (fun X hX => ?_) | refine RunD_s rfl rfl rfl rfl (fun X hX => ?_) | refine RunD_g rfl rfl rfl rfl rfl rfl rfl (fun X Y hX hY => ?_) | refine RunD_gc rfl rfl rfl rfl rfl rfl (fun Y hY => ?_) | refine PreD_o rfl rfl rfl rfl rfl (fun X hX => ?_) | refine PreD_g rfl rfl rfl rfl rfl rfl rfl (fun X Y hX hY => ?_) | refine PreD_gc rfl rfl rfl rfl rfl rfl (fun Y hY => ?_) | refine WD_c rfl (fun X Y hX hY => ?_)); (try dsimp only); simp (disch := first | omega | (simp; done) | fail) [wrap64c, if_pos, if_neg, opAnd, opOr, opXor, opDiff, opShr, opBit, hkk, gk, ask0, gp0, hky, hg, hgt, hM2, e0, e1, e2, e7, e10, e35, e36, e37, gk', ask', hlt, q_x, g_x, l_x, r_x, z_x, hi', hc12]; (first | (refine hX _ _ ?hadd ?_; (case hadd => simp; done)) | refine hX _ _ ?_ | refine hX ?_ | refine hY ?_); (try clear hX X); try clear hY Y)
            | (refine RunD_nil ?_; refine hK _ _ ?_; clear hK K)
            | (refine RunD_nil ?_)
            | (refine PreD_nil ?_; refine hK _ _ ?_; clear hK K)
            | (refine WD_skip ?_)
            | (refine WD_exit ?_)
            | (refine WD_ret ?_)
            | (refine hK.1 _ _ ?_; clear hK K)
            | (refine hK.2.1 _ _ ?_; clear hK K)
            | (refine hK.2 _ _ _ ?hne ?_; (case hne => simp; done); clear hK K)
            | (refine hK.2.2 _ _ _ ?hne ?_; (case hne => simp; done); clear hK K))
          by_cases hj0 : j = 0
          · have hj0' : ((j : Int) == 0) = true := by simp [hj0]
            rw [if_pos hj0] at hmt
            repeat (first
              | (refine WD_block (fun K hK => ?_))
              | (refine WD_seq (fun K hK => ?_))
              | (refine WD_region (fun K hK => ?_))
              | ((first | refine RunD_o rfl rfl rfl rfl rfl (fun X hX => ?_) | refine RunD_s rfl rfl rfl rfl (fun X hX => ?_) | refine RunD_g rfl rfl rfl rfl rfl rfl rfl (fun X Y hX hY => ?_) | refine RunD_gc rfl rfl rfl rfl rfl rfl (fun Y hY => ?_) | refine PreD_o rfl rfl rfl rfl rfl (fun X hX => ?_) | refine PreD_g rfl rfl rfl rfl rfl rfl rfl (fun X Y hX hY => ?_) | refine PreD_gc rfl rfl rfl rfl rfl rfl (fun Y hY => ?_) | refine WD_c rfl (fun X Y hX hY => ?_)); (try dsimp only); simp (disch := first | omega | (simp; done) | fail) [wrap64c, if_pos, if_neg, opAnd, opOr, opXor, opDiff, opShr, opBit, hkk, gk, ask0, gp0, hky, hg, hgt, hM2, e0, e1, e2, e7, e10, e35, e36, e37, gk', ask', hlt, q_x, g_x, l_x, r_x, z_x, hi', hc12, hj0']; (first | (refine hX _ _ ?hadd ?_; (case hadd => simp; done)) | refine hX _ _ ?_ | refine hX ?_ | refine hY ?_); (try clear hX X); try clear hY Y)
              | (refine RunD_nil ?_; refine hK _ _ ?_; clear hK K)
              | (refine RunD_nil ?_)
              | (refine PreD_nil ?_; refine hK _ _ ?_; clear hK K)
              | (refine WD_skip ?_)
              | (refine WD_exit ?_)
              | (refine WD_ret ?_)
              | (refine hK.1 _ _ ?_; clear hK K)
              | (refine hK.2.1 _ _ ?_; clear hK K)
              | (refine hK.2 _ _ _ ?hne ?_; (case hne => simp; done); clear hK K)
              | (refine hK.2.2 _ _ _ ?hne ?_; (case hne => simp; done); clear hK K))
            refine hK.1 _ _ _ ?hm ?hf ⟨j + 1, rfl, (by rw [hmt]; simp; omega), (by simp (disch := first | omega | (simp; done) | fail) [wrap64c, if_pos, if_neg, opAnd, opOr, opXor, opDiff, opShr, opBit, hkk, gk, ask0, gp0, hky, hg, hgt, hM2, e0, e1, e2, e7, e10, e35, e36, e37, gk', ask', hlt, q_x, g_x, l_x, r_x, z_x, hi', hc12, hj0'] <;> omega), (by first | omega | assumption | (simp (disch := first | omega | (simp; done) | fail) [wrap64c, if_pos, if_neg, opAnd, opOr, opXor, opDiff, opShr, opBit, hkk, gk, ask0, gp0, hky, hg, hgt, hM2, e0, e1, e2, e7, e10, e35, e36, e37, gk', ask', hlt, q_x, g_x, l_x, r_x, z_x, hi', hc12, hj0'] <;> omega)), (hW.trans (W3.trans W4)), A4⟩
            (case hm => first | omega | (simp; omega))
            (case hf => simp [FrameL, hkk, gk, ask0, gp0, hky, hg, hgt, hM2, e0, e1, e2, e7, e10, e35, e36, e37, gk', ask', hlt, q_x, g_x, l_x, r_x, z_x, hi', hc12, hj0', f0_0, f1_0, f2_0, f7_0, f35_0, f36_0])
          · have hj0' : ((j : Int) == 0) = false := by simp [hj0]
            rw [if_neg hj0] at hmt
            by_cases hq : 1 + w2 < w0
            · have hq' : (1 + (w2 : Int)) < (w0 : Int) := by omega
              repeat (first
                | (refine WD_block (fun K hK => ?_))
                | (refine WD_seq (fun K hK => ?_))
                | (refine WD_region (fun K hK => ?_))
                | ((first | refine RunD_o rfl rfl rfl rfl rfl (fun X hX => ?_) | refine RunD_s rfl rfl rfl rfl (fun X hX => ?_) | refine RunD_g rfl rfl rfl rfl rfl rfl rfl (fun X Y hX hY => ?_) | refine RunD_gc rfl rfl rfl rfl rfl rfl (fun Y hY => ?_) | refine PreD_o rfl rfl rfl rfl rfl (fun X hX => ?_) | refine PreD_g rfl rfl rfl rfl rfl rfl rfl (fun X Y hX hY => ?_) | refine PreD_gc rfl rfl rfl rfl rfl rfl (fun Y hY => ?_) | refine WD_c rfl (fun X Y hX hY => ?_)); (try dsimp only); simp (disch := first | omega | (simp; done) | fail) [wrap64c, if_pos, if_neg, opAnd, opOr, opXor, opDiff, opShr, opBit, hkk, gk, ask0, gp0, hky, hg, hgt, hM2, e0, e1, e2, e7, e10, e35, e36, e37, gk', ask', hlt, q_x, g_x, l_x, r_x, z_x, hi', hc12, hj0', hq, hq']; (first | (refine hX _ _ ?hadd ?_; (case hadd => simp; done)) | refine hX _ _ ?_ | refine hX ?_ | refine hY ?_); (try clear hX X); try clear hY Y)
                | (refine RunD_nil ?_; refine hK _ _ ?_; clear hK K)
                | (refine RunD_nil ?_)
                | (refine PreD_nil ?_; refine hK _ _ ?_; clear hK K)
                | (refine WD_skip ?_)
                | (refine WD_exit ?_)
                | (refine WD_ret ?_)
                | (refine hK.1 _ _ ?_; clear hK K)
                | (refine hK.2.1 _ _ ?_; clear hK K)
                | (refine hK.2 _ _ _ ?hne ?_; (case hne => simp; done); clear hK K)
                | (refine hK.2.2 _ _ _ ?hne ?_; (case hne => simp; done); clear hK K))
              refine hK.1 _ _ _ ?hm ?hf ⟨j + 1, rfl, (by rw [hmt]; simp; omega), (by simp (disch := first | omega | (simp; done) | fail) [wrap64c, if_pos, if_neg, opAnd, opOr, opXor, opDiff, opShr, opBit, hkk, gk, ask0, gp0, hky, hg, hgt, hM2, e0, e1, e2, e7, e10, e35, e36, e37, gk', ask', hlt, q_x, g_x, l_x, r_x, z_x, hi', hc12, hj0', hq, hq'] <;> omega), (by first | omega | assumption | (simp (disch := first | omega | (simp; done) | fail) [wrap64c, if_pos, if_neg, opAnd, opOr, opXor, opDiff, opShr, opBit, hkk, gk, ask0, gp0, hky, hg, hgt, hM2, e0, e1, e2, e7, e10, e35, e36, e37, gk', ask', hlt, q_x, g_x, l_x, r_x, z_x, hi', hc12, hj0', hq, hq'] <;> omega)), (hW.trans (W3.trans W4)), A4⟩
              (case hm => first | omega | (simp; omega))
              (case hf => simp [FrameL, hkk, gk, ask0, gp0, hky, hg, hgt, hM2, e0, e1, e2, e7, e10, e35, e36, e37, gk', ask', hlt, q_x, g_x, l_x, r_x, z_x, hi', hc12, hj0', hq, hq', f0_0, f1_0, f2_0, f7_0, f35_0, f36_0])
            · have hq' : ¬ (1 + (w2 : Int)) < (w0 : Int) := by omega
              repeat (first
                | (refine WD_block (fun K hK => ?_))
                | (refine WD_seq (fun K hK => ?_))
                | (refine WD_region (fun K hK => ?_))
                | ((first | refine RunD_o rfl rfl rfl rfl rfl (fun X hX => ?_) | refine RunD_s rfl rfl rfl rfl (fun X hX => ?_) | refine RunD_g rfl rfl rfl rfl rfl rfl rfl (fun X Y hX hY => ?_) | refine RunD_gc rfl rfl rfl rfl rfl rfl (fun Y hY => ?_) | refine PreD_o rfl rfl rfl rfl rfl (fun X hX => ?_) | refine PreD_g rfl rfl rfl rfl rfl rfl rfl (fun X Y hX hY => ?_) | refine PreD_gc rfl rfl rfl rfl rfl rfl (fun Y hY => ?_) | refine WD_c rfl (fun X Y hX hY => ?_)); (try dsimp only); simp (disch := first | omega | (simp; done) | fail) [wrap64c, if_pos, if_neg, opAnd, opOr, opXor, opDiff, opShr, opBit, hkk, gk, ask0, gp0, hky, hg, hgt, hM2, e0, e1, e2, e7, e10, e35, e36, e37, gk', ask', hlt, q_x, g_x, l_x, r_x, z_x, hi', hc12, hj0', hq, hq']; (first | (refine hX _ _ ?hadd ?_; (case hadd => simp; done)) | refine hX _ _ ?_ | refine hX ?_ | refine hY ?_); (try clear hX X); try clear hY Y)
                | (refine RunD_nil ?_; refine hK _ _ ?_; clear hK K)
                | (refine RunD_nil ?_)
                | (refine PreD_nil ?_; refine hK _ _ ?_; clear hK K)
                | (refine WD_skip ?_)
                | (refine WD_exit ?_)
                | (refine WD_ret ?_)
                | (refine hK.1 _ _ ?_; clear hK K)
                | (refine hK.2.1 _ _ ?_; clear hK K)
                | (refine hK.2 _ _ _ ?hne ?_; (case hne => simp; done); clear hK K)
                | (refine hK.2.2 _ _ _ ?hne ?_; (case hne => simp; done); clear hK K))
              refine hK.1 _ _ _ ?hm ?hf ⟨j + 1, rfl, (by rw [hmt]; simp [e10]; omega), (by simp (disch := first | omega | (simp; done) | fail) [wrap64c, if_pos, if_neg, opAnd, opOr, opXor, opDiff, opShr, opBit, hkk, gk, ask0, gp0, hky, hg, hgt, hM2, e0, e1, e2, e7, e10, e35, e36, e37, gk', ask', hlt, q_x, g_x, l_x, r_x, z_x, hi', hc12, hj0', hq, hq'] <;> omega), (by first | omega | assumption | (simp (disch := first | omega | (simp; done) | fail) [wrap64c, if_pos, if_neg, opAnd, opOr, opXor, opDiff, opShr, opBit, hkk, gk, ask0, gp0, hky, hg, hgt, hM2, e0, e1, e2, e7, e10, e35, e36, e37, gk', ask', hlt, q_x, g_x, l_x, r_x, z_x, hi', hc12, hj0', hq, hq'] <;> omega)), (hW.trans (W3.trans W4)), A4⟩
              (case hm => first | omega | (simp; omega))
              (case hf => simp [FrameL, hkk, gk, ask0, gp0, hky, hg, hgt, hM2, e0, e1, e2, e7, e10, e35, e36, e37, gk', ask', hlt, q_x, g_x, l_x, r_x, z_x, hi', hc12, hj0', hq, hq', f0_0, f1_0, f2_0, f7_0, f35_0, f36_0])
        · repeat (first
            | (refine WD_block (fun K hK => ?_))
            | (refine WD_seq (fun K hK => ?_))
            | (refine WD_region (fun K hK => ?_))
            | ((first | refine RunD_o rfl rfl rfl rfl rfl (fun X hX => ?_) | refine RunD_s rfl rfl rfl rfl (fun X hX => ?_) | refine RunD_g rfl rfl rfl rfl rfl rfl rfl (fun X Y hX hY => ?_) | refine RunD_gc rfl rfl rfl rfl rfl rfl (fun Y hY => ?_) | refine PreD_o rfl rfl rfl rfl rfl (fun X hX => ?_) | refine PreD_g rfl rfl rfl rfl rfl rfl rfl (fun X Y hX hY => ?_) | refine PreD_gc rfl rfl rfl rfl rfl rfl (fun Y hY => ?_) | refine WD_c rfl (fun X Y hX hY => ?_)); (try dsimp only); simp (disch := first | omega | (simp; done) | fail) [wrap64c, if_pos, if_neg, opAnd, opOr, opXor, opDiff, opShr, opBit, hkk, gk, ask0, gp0, hky, hg, hgt, hM2, e0, e1, e2, e7, e10, e35, e36, e37, gk', ask', hlt, q_x, g_x, l_x, r_x, z_x, hi', hc12]; (first | (refine hX _ _ ?hadd ?_; (case hadd => simp; done)) | refine hX _ _ ?_ | refine hX ?_ | refine hY ?_); (try clear hX X); try clear hY Y)
            | (refine RunD_nil ?_; refine hK _ _ ?_; clear hK K)
            | (refine RunD_nil ?_)
            | (refine PreD_nil ?_; refine hK _ _ ?_; clear hK K)
            | (refine WD_skip ?_)
            | (refine WD_exit ?_)
            | (refine WD_ret ?_)
            | (refine hK.1 _ _ ?_; clear hK K)
            | (refine hK.2.1 _ _ ?_; clear hK K)
            | (refine hK.2 _ _ _ ?hne ?_; (case hne => simp; done); clear hK K)
            | (refine hK.2.2 _ _ _ ?hne ?_; (case hne => simp; done); clear hK K))
          by_cases hj0 : j = 0
          · have hj0' : ((j : Int) == 0) = true := by simp [hj0]
            rw [if_pos hj0] at hmt
            repeat (first
              | (refine WD_block (fun K hK => ?_))
              | (refine WD_seq (fun K hK => ?_))
              | (refine WD_region (fun K hK => ?_))
              | ((first | refine RunD_o rfl rfl rfl rfl rfl (fun X hX => ?_) | refine RunD_s rfl rfl rfl rfl (fun X hX => ?_) | refine RunD_g rfl rfl rfl rfl rfl rfl rfl (fun X Y hX hY => ?_) | refine RunD_gc rfl rfl rfl rfl rfl rfl (fun Y hY => ?_) | refine PreD_o rfl rfl rfl rfl rfl (fun X hX => ?_) | refine PreD_g rfl rfl rfl rfl rfl rfl rfl (fun X Y hX hY => ?_) | refine PreD_gc rfl rfl rfl rfl rfl rfl (fun Y hY => ?_) | refine WD_c rfl (fun X Y hX hY => ?_)); (try dsimp only); simp (disch := first | omega | (simp; done) | fail) [wrap64c, if_pos, if_neg, opAnd, opOr, opXor, opDiff, opShr, opBit, hkk, gk, ask0, gp0, hky, hg, hgt, hM2, e0, e1, e2, e7, e10, e35, e36, e37, gk', ask', hlt, q_x, g_x, l_x, r_x, z_x, hi', hc12, hj0']; (first | (refine hX _ _ ?hadd ?_; (case hadd => simp; done)) | refine hX _ _ ?_ | refine hX ?_ | refine hY ?_); (try clear hX X); try clear hY Y)
              | (refine RunD_nil ?_; refine hK _ _ ?_; clear hK K)
              | (refine RunD_nil ?_)
              | (refine PreD_nil ?_; refine hK _ _ ?_; clear hK K)
              | (refine WD_skip ?_)
              | (refine WD_exit ?_)
              | (refine WD_ret ?_)
              | (refine hK.1 _ _ ?_; clear hK K)
              | (refine hK.2.1 _ _ ?_; clear hK K)
              | (refine hK.2 _ _ _ ?hne ?_; (case hne => simp; done); clear hK K)
              | (refine hK.2.2 _ _ _ ?hne ?_; (case hne => simp; done); clear hK K))
            refine hK.1 _ _ _ ?hm ?hf ⟨j + 1, rfl, (by rw [hmt]; simp; omega), (by simp (disch := first | omega | (simp; done) | fail) [wrap64c, if_pos, if_neg, opAnd, opOr, opXor, opDiff, opShr, opBit, hkk, gk, ask0, gp0, hky, hg, hgt, hM2, e0, e1, e2, e7, e10, e35, e36, e37, gk', ask', hlt, q_x, g_x, l_x, r_x, z_x, hi', hc12, hj0'] <;> omega), (by first | omega | assumption | (simp (disch := first | omega | (simp; done) | fail) [wrap64c, if_pos, if_neg, opAnd, opOr, opXor, opDiff, opShr, opBit, hkk, gk, ask0, gp0, hky, hg, hgt, hM2, e0, e1, e2, e7, e10, e35, e36, e37, gk', ask', hlt, q_x, g_x, l_x, r_x, z_x, hi', hc12, hj0'] <;> omega)), (hW.trans (W3.trans W4)), A4⟩
            (case hm => first | omega | (simp; omega))
            (case hf => simp [FrameL, hkk, gk, ask0, gp0, hky, hg, hgt, hM2, e0, e1, e2, e7, e10, e35, e36, e37, gk', ask', hlt, q_x, g_x, l_x, r_x, z_x, hi', hc12, hj0', f0_0, f1_0, f2_0, f7_0, f35_0, f36_0])
          · have hj0' : ((j : Int) == 0) = false := by simp [hj0]
            rw [if_neg hj0] at hmt
            by_cases hq : 1 + w1 < w0
            · have hq' : (1 + (w1 : Int)) < (w0 : Int) := by omega
              repeat (first
                | (refine WD_block (fun K hK => ?_))
                | (refine WD_seq (fun K hK => ?_))
                | (refine WD_region (fun K hK => ?_))
                | ((first | refine RunD_o rfl rfl rfl rfl rfl (fun X hX => ?_) | refine RunD_s rfl rfl rfl rfl (fun X hX => ?_) | refine RunD_g rfl rfl rfl rfl rfl rfl rfl (fun X Y hX hY => ?_) | refine RunD_gc rfl rfl rfl rfl rfl rfl (fun Y hY => ?_) | refine PreD_o rfl rfl rfl rfl rfl (fun X hX => ?_) | refine PreD_g rfl rfl rfl rfl rfl rfl rfl (fun X Y hX hY => ?_) | refine PreD_gc rfl rfl rfl rfl rfl rfl (fun Y hY => ?_) | refine WD_c rfl (fun X Y hX hY => ?_)); (try dsimp only); simp (disch := first | omega | (simp; done) | fail) [wrap64c, if_pos, if_neg, opAnd, opOr, opXor, opDiff, opShr, opBit, hkk, gk, ask0, gp0, hky, hg, hgt, hM2, e0, e1, e2, e7, e10, e35, e36, e37, gk', ask', hlt, q_x, g_x, l_x, r_x, z_x, hi', hc12, hj0', hq, hq']; (first | (refine hX _ _ ?hadd ?_; (case hadd => simp; done)) | refine hX _ _ ?_ | refine hX ?_ | refine hY ?_); (try clear hX X); try clear hY Y)
                | (refine RunD_nil ?_; refine hK _ _ ?_; clear hK K)
                | (refine RunD_nil ?_)
                | (refine PreD_nil ?_; refine hK _ _ ?_; clear hK K)
                | (refine WD_skip ?_)
                | (refine WD_exit ?_)
                | (refine WD_ret ?_)
                | (refine hK.1 _ _ ?_; clear hK K)
                | (refine hK.2.1 _ _ ?_; clear hK K)
                | (refine hK.2 _ _ _ ?hne ?_; (case hne => simp; done); clear hK K)
                | (refine hK.2.2 _ _ _ ?hne ?_; (case hne => simp; done); clear hK K))
              refine hK.1 _ _ _ ?hm ?hf ⟨j + 1, rfl, (by rw [hmt]; simp; omega), (by simp (disch := first | omega | (simp; done) | fail) [wrap64c, if_pos, if_neg, opAnd, opOr, opXor, opDiff, opShr, opBit, hkk, gk, ask0, gp0, hky, hg, hgt, hM2, e0, e1, e2, e7, e10, e35, e36, e37, gk', ask', hlt, q_x, g_x, l_x, r_x, z_x, hi', hc12, hj0', hq, hq'] <;> omega), (by first | omega | assumption | (simp (disch := first | omega | (simp; done) | fail) [wrap64c, if_pos, if_neg, opAnd, opOr, opXor, opDiff, opShr, opBit, hkk, gk, ask0, gp0, hky, hg, hgt, hM2, e0, e1, e2, e7, e10, e35, e36, e37, gk', ask', hlt, q_x, g_x, l_x, r_x, z_x, hi', hc12, hj0', hq, hq'] <;> omega)), (hW.trans (W3.trans W4)), A4⟩
              (case hm => first | omega | (simp; omega))
              (case hf => simp [FrameL, hkk, gk, ask0, gp0, hky, hg, hgt, hM2, e0, e1, e2, e7, e10, e35, e36, e37, gk', ask', hlt, q_x, g_x, l_x, r_x, z_x, hi', hc12, hj0', hq, hq', f0_0, f1_0, f2_0, f7_0, f35_0, f36_0])
            · have hq' : ¬ (1 + (w1 : Int)) < (w0 : Int) := by omega
              repeat (first
                | (refine WD_block (fun K hK => ?_))
                | (refine WD_seq (fun K hK => ?_))
                | (refine WD_region (fun K hK => ?_))
                | ((first | refine RunD_o rfl rfl rfl rfl rfl (fun X hX => ?_) | refine RunD_s rfl rfl rfl rfl (fun X hX => ?_) | refine RunD_g rfl rfl rfl rfl rfl rfl rfl (fun X Y hX hY => ?_) | refine RunD_gc rfl rfl rfl rfl rfl rfl (fun Y hY => ?_) | refine PreD_o rfl rfl rfl rfl rfl (fun X hX => ?_) | refine PreD_g rfl rfl rfl rfl rfl rfl rfl (fun X Y hX hY => ?_) | refine PreD_gc rfl rfl rfl rfl rfl rfl (fun Y hY => ?_) | refine WD_c rfl (fun X Y hX hY => ?_)); (try dsimp only); simp (disch := first | omega | (simp; done) | fail) [wrap64c, if_pos, if_neg, opAnd, opOr, opXor, opDiff, opShr, opBit, hkk, gk, ask0, gp0, hky, hg, hgt, hM2, e0, e1, e2, e7, e10, e35, e36, e37, gk', ask', hlt, q_x, g_x, l_x, r_x, z_x, hi', hc12, hj0', hq, hq']; (first | (refine hX _ _ ?hadd ?_; (case hadd => simp; done)) | refine hX _ _ ?_ | refine hX ?_ | refine hY ?_); (try clear hX X); try clear hY Y)
                | (refine RunD_nil ?_; refine hK _ _ ?_; clear hK K)
                | (refine RunD_nil ?_)
                | (refine PreD_nil ?_; refine hK _ _ ?_; clear hK K)
                | (refine WD_skip ?_)
                | (refine WD_exit ?_)
                | (refine WD_ret ?_)
                | (refine hK.1 _ _ ?_; clear hK K)
                | (refine hK.2.1 _ _ ?_; clear hK K)
                | (refine hK.2 _ _ _ ?hne ?_; (case hne => simp; done); clear hK K)
                | (refine hK.2.2 _ _ _ ?hne ?_; (case hne => simp; done); clear hK K))
              refine hK.1 _ _ _ ?hm ?hf ⟨j + 1, rfl, (by rw [hmt]; simp [e10]; omega), (by simp (disch := first | omega | (simp; done) | fail) [wrap64c, if_pos, if_neg, opAnd, opOr, opXor, opDiff, opShr, opBit, hkk, gk, ask0, gp0, hky, hg, hgt, hM2, e0, e1, e2, e7, e10, e35, e36, e37, gk', ask', hlt, q_x, g_x, l_x, r_x, z_x, hi', hc12, hj0', hq, hq'] <;> omega), (by first | omega | assumption | (simp (disch := first | omega | (simp; done) | fail) [wrap64c, if_pos, if_neg, opAnd, opOr, opXor, opDiff, opShr, opBit, hkk, gk, ask0, gp0, hky, hg, hgt, hM2, e0, e1, e2, e7, e10, e35, e36, e37, gk', ask', hlt, q_x, g_x, l_x, r_x, z_x, hi', hc12, hj0', hq, hq'] <;> omega)), (hW.trans (W3.trans W4)), A4⟩
              (case hm => first | omega | (simp; omega))
              (case hf => simp [FrameL, hkk, gk, ask0, gp0, hky, hg, hgt, hM2, e0, e1, e2, e7, e10, e35, e36, e37, gk', ask', hlt, q_x, g_x, l_x, r_x, z_x, hi', hc12, hj0', hq, hq', f0_0, f1_0, f2_0, f7_0, f35_0, f36_0])
      · have hft : (openN L).take j = openN L := List.take_of_length_le (by omega)
        rw [hft, ← worstN_eq] at e10
        obtain ⟨es', gp', hM'⟩ := hAA.mem
        have gp' := gp'
        have hky' : keysOK 2 es' = true := hM'.keys
        repeat (first
          | (refine WD_block (fun K hK => ?_))
          | (refine WD_seq (fun K hK => ?_))
          | (refine WD_region (fun K hK => ?_))
          | ((first | refine RunD_o rfl rfl rfl rfl rfl (fun X hX => ?_) | refine RunD_s rfl rfl rfl rfl (fun X hX => ?_) | refine RunD_g rfl rfl rfl rfl rfl rfl rfl (fun X Y hX hY => ?_) | refine RunD_gc rfl rfl rfl rfl rfl rfl (fun Y hY => ?_) | refine PreD_o rfl rfl rfl rfl rfl (fun X hX => ?_) | refine PreD_g rfl rfl rfl rfl rfl rfl rfl (fun X Y hX hY => ?_) | refine PreD_gc rfl rfl rfl rfl rfl rfl (fun Y hY => ?_) | refine WD_c rfl (fun X Y hX hY => ?_)); (try dsimp only); simp (disch := first | omega | (simp; done) | fail) [wrap64c, if_pos, if_neg, opAnd, opOr, opXor, opDiff, opShr, opBit, hkk, gk, ask0, gp0, hky, hg, hgt, hM2, e0, e1, e2, e7, e10, e35, e36, e37, gk', ask', hlt, gp', hky']; (first | (refine hX _ _ ?hadd ?_; (case hadd => simp; done)) | refine hX _ _ ?_ | refine hX ?_ | refine hY ?_); (try clear hX X); try clear hY Y)
          | (refine RunD_nil ?_; refine hK _ _ ?_; clear hK K)
          | (refine RunD_nil ?_)
          | (refine PreD_nil ?_; refine hK _ _ ?_; clear hK K)
          | (refine WD_skip ?_)
          | (refine WD_exit ?_)
          | (refine WD_ret ?_)
          | (refine hK.1 _ _ ?_; clear hK K)
          | (refine hK.2.1 _ _ ?_; clear hK K)
          | (refine hK.2 _ _ _ ?hne ?_; (case hne => simp; done); clear hK K)
          | (refine hK.2.2 _ _ _ ?hne ?_; (case hne => simp; done); clear hK K))
        refine WD_draw 6 rfl (by kernel_rfl) (fun K hK => ?_)
        repeat (first
          | (refine WD_block (fun K hK => ?_))
          | (refine WD_seq (fun K hK => ?_))
          | (refine WD_region (fun K hK => ?_))
          | ((first | refine RunD_o rfl rfl rfl rfl rfl (fun X hX => ?_) | refine RunD_s rfl rfl rfl rfl (fun X hX => ?_) | refine RunD_g rfl rfl rfl rfl rfl rfl rfl (fun X Y hX hY => ?_) | refine RunD_gc rfl rfl rfl rfl rfl rfl (fun Y hY => ?_) | refine PreD_o rfl rfl rfl rfl rfl (fun X hX => ?_) | refine PreD_g rfl rfl rfl rfl rfl rfl rfl (fun X Y hX hY => ?_) | refine PreD_gc rfl rfl rfl rfl rfl rfl (fun Y hY => ?_) | refine WD_c rfl (fun X Y hX hY => ?_)); (try dsimp only); simp (disch := first | omega | (simp; done) | fail) [wrap64c, if_pos, if_neg, opAnd, opOr, opXor, opDiff, opShr, opBit, hkk, gk, ask0, gp0, hky, hg, hgt, hM2, e0, e1, e2, e7, e10, e35, e36, e37, gk', ask', hlt, gp', hky']; (first | (refine hX _ _ ?hadd ?_; (case hadd => simp; done)) | refine hX _ _ ?_ | refine hX ?_ | refine hY ?_); (try clear hX X); try clear hY Y)
          | (refine RunD_nil ?_; refine hK _ _ ?_; clear hK K)
          | (refine RunD_nil ?_)
          | (refine PreD_nil ?_; refine hK _ _ ?_; clear hK K)
          | (refine WD_skip ?_)
          | (refine WD_exit ?_)
          | (refine WD_ret ?_)
          | (refine hK.1 _ _ ?_; clear hK K)
          | (refine hK.2.1 _ _ ?_; clear hK K)
          | (refine hK.2 _ _ _ ?hne ?_; (case hne => simp; done); clear hK K)
          | (refine hK.2.2 _ _ _ ?hne ?_; (case hne => simp; done); clear hK K))
        have WW := ((((Wr.of_adds k0).trans (.of_adds ha1)).trans (.of_adds ha2)).trans hW).put (o := p) (S := fun q => q = p) rfl (x := .map (mapPut es' (keyV y z) (.int .i64 ((worstN L : Nat) : Int)))) (fun _ => rfl)
        refine done_ret rfl ⟨by simp [← hLe], WW, ?_⟩
        refine ⟨hob, hpb, hA.ne, ?_, hAA.ints.same ⟨by simp, fun q hq _ => by simp [hq.2]⟩, ⟨_, by simp; rfl, ?_⟩⟩
        · simp [hA.ne, ask']
        · have := hM'.put y z
          rw [← hLe] at this
          exact this
    · unfold keyV at hg
      have hg := hg
      repeat (first
        | (refine WD_block (fun K hK => ?_))
        | (refine WD_seq (fun K hK => ?_))
        | (refine WD_region (fun K hK => ?_))
        | ((first | refine RunD_o rfl rfl rfl rfl rfl (fun X hX => ?_) | refine RunD_s rfl rfl rfl rfl (fun X hX => ?_) | refine RunD_g rfl rfl rfl rfl rfl rfl rfl (fun X Y hX hY => ?_) | refine RunD_gc rfl rfl rfl rfl rfl rfl (fun Y hY => ?_) | refine PreD_o rfl rfl rfl rfl rfl (fun X hX => ?_) | refine PreD_g rfl rfl rfl rfl rfl rfl rfl (fun X Y hX hY => ?_) | refine PreD_gc rfl rfl rfl rfl rfl rfl (fun Y hY => ?_) | refine WD_c rfl (fun X Y hX hY => ?_)); (try dsimp only); simp (disch := first | omega | (simp; done) | fail) [wrap64c, if_pos, if_neg, opAnd, opOr, opXor, opDiff, opShr, opBit, hkk, gk, ask0, gp0, hky, hg]; (first | (refine hX _ _ ?hadd ?_; (case hadd => simp; done)) | refine hX _ _ ?_ | refine hX ?_ | refine hY ?_); (try clear hX X); try clear hY Y)
        | (refine RunD_nil ?_; refine hK _ _ ?_; clear hK K)
        | (refine RunD_nil ?_)
        | (refine PreD_nil ?_; refine hK _ _ ?_; clear hK K)
        | (refine WD_skip ?_)
        | (refine WD_exit ?_)
        | (refine WD_ret ?_)
        | (refine hK.1 _ _ ?_; clear hK K)
        | (refine hK.2.1 _ _ ?_; clear hK K)
        | (refine hK.2 _ _ _ ?hne ?_; (case hne => simp; done); clear hK K)
        | (refine hK.2.2 _ _ _ ?hne ?_; (case hne => simp; done); clear hK K))
      exact done_ret rfl ⟨rfl, .of_adds k0, hA0⟩

theorem bestN_first {L : List Nat} {j : Nat} (hj : j < (openN L).length) (h1 : ∀ k (hk : k < (openN L).length), k < j → askN L (openN L)[k] ≠ worstN L) (h2 : askN L (openN L)[j] = worstN L) : bestN L = (((openN L)[j] : Nat) : Int) := bestN_at hj h1 h2

theorem best_ok (base o p : Nat) (N : Int) (b m2 : Value) (xs : List Nat) (hx : ∀ x ∈ xs, x < 128) (hl : xs.length < 2 ^ 39) (h : Hp) (y z : Nat) (hA : AskOK base o p N b m2 xs h) (hb : base ≤ h.next) (hy : y < 128) (hz : z < 128) :
    ∃ v h', CallOK Try.prog 81 #[.pointer (some ⟨o, 0, none⟩), .int .i64 (y : Int), .int .i64 (z : Int)] h v h' ∧ v = .int .i64 (bestN (leftN xs y z)) ∧ Wr (fun q => q = p) h h' ∧ AskOK base o p N b m2 xs h' := by
  refine call_L (args := [.pointer (some ⟨o, 0, none⟩), .int .i64 (y : Int), .int .i64 (z : Int)]) 45 _ [.tmp 6] Try.func81 rfl rfl rfl ?_
  have hob := hA.ob
  have hpb := hA.pb
  have hll := left_len xs y z
  have ask0 := hA.asker
  repeat (first
    | (refine WD_block (fun K hK => ?_))
    | (refine WD_seq (fun K hK => ?_))
    | (refine WD_region (fun K hK => ?_))
    | ((first | refine RunD_o rfl rfl rfl rfl rfl (fun X hX => ?_) | refine RunD_s rfl rfl rfl rfl (fun X hX => ?_) | refine PreD_o rfl rfl rfl rfl rfl (fun X hX => ?_) | refine WD_c rfl (fun X Y hX hY => ?_)); (try dsimp only); simp (disch := first | omega | (simp; done) | fail) [wrap64c, if_pos, if_neg, opAnd, opOr, opXor, opDiff, opShr, opBit, ask0]; (first | (refine hX _ _ ?hadd ?_; (case hadd => simp; done)) | refine hX _ _ ?_ | refine hX ?_ | refine hY ?_); (try clear hX X); try clear hY Y)
    | (refine RunD_nil ?_; refine hK _ _ ?_; clear hK K)
    | (refine RunD_nil ?_)
    | (refine PreD_nil ?_; refine hK _ _ ?_; clear hK K)
    | (refine WD_skip ?_)
    | (refine WD_exit ?_)
    | (refine WD_ret ?_)
    | (refine hK.1 _ _ ?_; clear hK K)
    | (refine hK.2.1 _ _ ?_; clear hK K)
    | (refine hK.2 _ _ _ ?hne ?_; (case hne => simp; done); clear hK K)
    | (refine hK.2.2 _ _ _ ?hne ?_; (case hne => simp; done); clear hK K))
  obtain ⟨v1, h1, hc1, ha1, hi1⟩ := imLeft_ok h (.agg #[.int .i64 N, b]) N xs y z (.mk hA.ints.ints) hx hl hy hz
  refine RunD_c rfl rfl rfl rfl (by simp) (by simp) ?ha (hc1) ?_
  (case ha => simp (disch := first | omega | (simp; done) | fail) [wrap64c, if_pos, if_neg, opAnd, opOr, opXor, opDiff, opShr, opBit, ask0])
  obtain ⟨L, hLe⟩ : ∃ L, L = leftN xs y z := ⟨_, rfl⟩
  have hLx : ∀ x ∈ L, x < 128 := fun x hm => hx x (left_sub (hLe ▸ hm))
  have hLl : L.length < 2 ^ 39 := by rw [hLe]; omega
  rw [← hLe] at hi1
  obtain ⟨v2, h2, hc2, ha2, hi2⟩ := open_ok h1 v1 L hi1.ints hLx hLl
  refine RunD_c rfl rfl rfl rfl (by simp) (by simp) ?ha (hc2) ?_
  (case ha => simp (disch := first | omega | (simp; done) | fail) [wrap64c, if_pos, if_neg, opAnd, opOr, opXor, opDiff, opShr, opBit, ask0])
  have n1 := ha1.1.1
  have n2 := ha2.1.1
  have hA2 := (hA.adds (by omega) ha1).adds (by omega) ha2
  have hgt := toN_get (openN L)
  have hln := toN_length (openN L)
  have hM2 := hi2.ints.lenD
  have hol : (openN L).length ≤ 7 := openK_len L 7
  have W2 : Wr (fun q => q = p) h h2 := (Wr.of_adds ha1).trans (.of_adds ha2)
  repeat (first
    | (refine WD_block (fun K hK => ?_))
    | (refine WD_seq (fun K hK => ?_))
    | (refine WD_region (fun K hK => ?_))
    | ((first | refine RunD_o rfl rfl rfl rfl rfl (fun X hX => ?_) | refine RunD_s rfl rfl rfl rfl (fun X hX => ?_) | refine PreD_o rfl rfl rfl rfl rfl (fun X hX => ?_) | refine WD_c rfl (fun X Y hX hY => ?_)); (try dsimp only); simp (disch := first | omega | (simp; done) | fail) [wrap64c, if_pos, if_neg, opAnd, opOr, opXor, opDiff, opShr, opBit, ask0, hgt, hM2]; (first | (refine hX _ _ ?hadd ?_; (case hadd => simp; done)) | refine hX _ _ ?_ | refine hX ?_ | refine hY ?_); (try clear hX X); try clear hY Y)
    | (refine RunD_nil ?_; refine hK _ _ ?_; clear hK K)
    | (refine RunD_nil ?_)
    | (refine PreD_nil ?_; refine hK _ _ ?_; clear hK K)
    | (refine WD_skip ?_)
    | (refine WD_exit ?_)
    | (refine WD_ret ?_)
    | (refine hK.1 _ _ ?_; clear hK K)
    | (refine hK.2.1 _ _ ?_; clear hK K)
    | (refine hK.2 _ _ _ ?hne ?_; (case hne => simp; done); clear hK K)
    | (refine hK.2.2 _ _ _ ?hne ?_; (case hne => simp; done); clear hK K))
  refine WD_loopF [0, 1, 2, 16, 17] (fun m tm h' => ∃ j, m = (openN L).length - j ∧ tm 18 = .int .i64 (j : Int) ∧ (j ≤ (openN L).length) ∧ (Wr (fun q => q = p) h2 h') ∧ (AskOK base o p N b m2 xs h') ∧ (∀ k (hk : k < (openN L).length), k < j → askN L (openN L)[k] ≠ worstN L)) _ ⟨0, rfl, (by simp (disch := first | omega | (simp; done) | fail) [wrap64c, if_pos, if_neg, opAnd, opOr, opXor, opDiff, opShr, opBit, ask0, hgt, hM2]), (by first | omega | assumption | (simp (disch := first | omega | (simp; done) | fail) [wrap64c, if_pos, if_neg, opAnd, opOr, opXor, opDiff, opShr, opBit, ask0, hgt, hM2] <;> omega)), (Wr.refl _ _), hA2, (by intro k h1 h0; omega)⟩ ?_
  rintro m tm h' hFr ⟨j, rfl, e18, hj, hW, hAA, hn1⟩ K hK
  simp only [FrameL] at hFr
  obtain ⟨f0_0, f1_0, f2_0, f16_0, f17_0, -⟩ := hFr
  try simp (disch := first | omega | (simp; done) | fail) [wrap64c, if_pos, if_neg, opAnd, opOr, opXor, opDiff, opShr, opBit, ask0, hgt, hM2] at f0_0 f1_0 f2_0 f16_0 f17_0
  have e0 := f0_0
  have e1 := f1_0
  have e2 := f2_0
  have e16 := f16_0
  have e17 := f17_0
  have hu := hW.upd
  have hv2 := (hi2.same (hu.same fun x hx hx' => by unfold Btw at hx; omega)).ints
  have n3 := hu.1
  by_cases hlt : j < (openN L).length
  · obtain ⟨o_x, i_x, c_x, cs_x, own_x, ex_x, es_x, q_x, b_x, g_x, l_x, r_x⟩ := hv2.open ((by omega))
    have z_x : ∀ h2 : i_x < cs_x.length, cs_x[i_x] = _ := fun h2 => r_x 0 ((by omega)) h2
    obtain ⟨i, hi⟩ : ∃ i, i = (openN L)[j] := ⟨_, rfl⟩
    have hopi := (mem_openK.1 (List.getElem_mem hlt)).2
    have hi7 : i < 7 := by rw [hi]; exact (mem_openK.1 (List.getElem_mem hlt)).1
    rw [← hi] at hopi
    have hi' := hi.symm
    have hlen := has_len hopi
    have hb7 := bit_lt7 hi7
    have hy2 := nOr128 (b := bit i) hy (by omega)
    have hz2 := nOr128 (b := bit i) hz (by omega)
    have hw1 := worstN_le (hasL L i)
    have hw2 := worstN_le (lacksL L i)
    have hw3 := worstN_le L
    have haq : askN L i = 1 + max (worstN (hasL L i)) (worstN (lacksL L i)) := rfl
    repeat (first
      | (refine WD_block (fun K hK => ?_))
      | (refine WD_seq (fun K hK => ?_))
      | (refine WD_region (fun K hK => ?_))
      | ((first | refine RunD_o rfl rfl rfl rfl rfl (fun X hX => ?_) | refine RunD_s rfl rfl rfl rfl (fun X hX => ?_) | refine PreD_o rfl rfl rfl rfl rfl (fun X hX => ?_) | refine WD_c rfl (fun X Y hX hY => ?_)); (try dsimp only); simp (disch := first | omega | (simp; done) | fail) [wrap64c, if_pos, if_neg, opAnd, opOr, opXor, opDiff, opShr, opBit, ask0, hgt, hM2, e0, e1, e2, e16, e17, e18, hlt, q_x, g_x, l_x, r_x, z_x, hi']; (first | (refine hX _ _ ?hadd ?_; (case hadd => simp; done)) | refine hX _ _ ?_ | refine hX ?_ | refine hY ?_); (try clear hX X); try clear hY Y)
      | (refine RunD_nil ?_; refine hK _ _ ?_; clear hK K)
      | (refine RunD_nil ?_)
      | (refine PreD_nil ?_; refine hK _ _ ?_; clear hK K)
      | (refine WD_skip ?_)
      | (refine WD_exit ?_)
      | (refine WD_ret ?_)
      | (refine hK.1 _ _ ?_; clear hK K)
      | (refine hK.2.1 _ _ ?_; clear hK K)
      | (refine hK.2 _ _ _ ?hne ?_; (case hne => simp; done); clear hK K)
      | (refine hK.2.2 _ _ _ ?hne ?_; (case hne => simp; done); clear hK K))
    refine WD_chain rfl (by kernel_rfl) (by kernel_rfl) (fun K hK => ?_)
    repeat (first
      | (refine WD_block (fun K hK => ?_))
      | (refine WD_seq (fun K hK => ?_))
      | (refine WD_region (fun K hK => ?_))
      | ((first | refine RunD_o rfl rfl rfl rfl rfl (fun X hX => ?_) | refine RunD_s rfl rfl rfl rfl (fun X hX => ?_) | refine PreD_o rfl rfl rfl rfl rfl (fun X hX => ?_) | refine WD_c rfl (fun X Y hX hY => ?_)); (try dsimp only); simp (disch := first | omega | (simp; done) | fail) [wrap64c, if_pos, if_neg, opAnd, opOr, opXor, opDiff, opShr, opBit, ask0, hgt, hM2, e0, e1, e2, e16, e17, e18, hlt, q_x, g_x, l_x, r_x, z_x, hi']; (first | (refine hX _ _ ?hadd ?_; (case hadd => simp; done)) | refine hX _ _ ?_ | refine hX ?_ | refine hY ?_); (try clear hX X); try clear hY Y)
      | (refine RunD_nil ?_; refine hK _ _ ?_; clear hK K)
      | (refine RunD_nil ?_)
      | (refine PreD_nil ?_; refine hK _ _ ?_; clear hK K)
      | (refine WD_skip ?_)
      | (refine WD_exit ?_)
      | (refine WD_ret ?_)
      | (refine hK.1 _ _ ?_; clear hK K)
      | (refine hK.2.1 _ _ ?_; clear hK K)
      | (refine hK.2 _ _ _ ?hne ?_; (case hne => simp; done); clear hK K)
      | (refine hK.2.2 _ _ _ ?hne ?_; (case hne => simp; done); clear hK K))
    obtain ⟨_, h3, hc3, rfl, W3, A3⟩ := least_ok base o p N b m2 xs hx hl (L.length + 1) h' (nOr y (bit i)) z hAA (by omega) hy2 hz (by rw [left_yes, ← hLe]; omega)
    refine RunD_c rfl rfl rfl rfl (by simp) (by simp) ?ha (hc3) ?_
    (case ha => simp (disch := first | omega | (simp; done) | fail) [wrap64c, if_pos, if_neg, opAnd, opOr, opXor, opDiff, opShr, opBit, ask0, hgt, hM2, e0, e1, e2, e16, e17, e18, hlt, q_x, g_x, l_x, r_x, z_x, hi'])
    have n4 := W3.upd.1
    rw [left_yes, ← hLe]
    repeat (first
      | (refine WD_block (fun K hK => ?_))
      | (refine WD_seq (fun K hK => ?_))
      | (refine WD_region (fun K hK => ?_))
      | ((first | refine RunD_o rfl rfl rfl rfl rfl (fun X hX => ?_) | refine RunD_s rfl rfl rfl rfl (fun X hX => ?_) | refine PreD_o rfl rfl rfl rfl rfl (fun X hX => ?_) | refine WD_c rfl (fun X Y hX hY => ?_)); (try dsimp only); simp (disch := first | omega | (simp; done) | fail) [wrap64c, if_pos, if_neg, opAnd, opOr, opXor, opDiff, opShr, opBit, ask0, hgt, hM2, e0, e1, e2, e16, e17, e18, hlt, q_x, g_x, l_x, r_x, z_x, hi']; (first | (refine hX _ _ ?hadd ?_; (case hadd => simp; done)) | refine hX _ _ ?_ | refine hX ?_ | refine hY ?_); (try clear hX X); try clear hY Y)
      | (refine RunD_nil ?_; refine hK _ _ ?_; clear hK K)
      | (refine RunD_nil ?_)
      | (refine PreD_nil ?_; refine hK _ _ ?_; clear hK K)
      | (refine WD_skip ?_)
      | (refine WD_exit ?_)
      | (refine WD_ret ?_)
      | (refine hK.1 _ _ ?_; clear hK K)
      | (refine hK.2.1 _ _ ?_; clear hK K)
      | (refine hK.2 _ _ _ ?hne ?_; (case hne => simp; done); clear hK K)
      | (refine hK.2.2 _ _ _ ?hne ?_; (case hne => simp; done); clear hK K))
    obtain ⟨_, h4, hc4, rfl, W4, A4⟩ := least_ok base o p N b m2 xs hx hl (L.length + 1) h3 y (nOr z (bit i)) A3 (by omega) hy hz2 (by rw [left_no, ← hLe]; omega)
    refine RunD_c rfl rfl rfl rfl (by simp) (by simp) ?ha (hc4) ?_
    (case ha => simp (disch := first | omega | (simp; done) | fail) [wrap64c, if_pos, if_neg, opAnd, opOr, opXor, opDiff, opShr, opBit, ask0, hgt, hM2, e0, e1, e2, e16, e17, e18, hlt, q_x, g_x, l_x, r_x, z_x, hi'])
    have n5 := W4.upd.1
    rw [left_no, ← hLe]
    obtain ⟨_, h5, hc5, rfl, W5, A5⟩ := least_ok base o p N b m2 xs hx hl (L.length + 1) h4 y z A4 (by omega) hy hz (by rw [← hLe]; omega)
    obtain ⟨w1, hw1'⟩ : ∃ w, w = worstN (hasL L i) := ⟨_, rfl⟩
    obtain ⟨w2, hw2'⟩ : ∃ w, w = worstN (lacksL L i) := ⟨_, rfl⟩
    obtain ⟨w3, hw3'⟩ : ∃ w, w = worstN L := ⟨_, rfl⟩
    rw [← hw1', ← hw2'] at haq
    rw [← hw1'] at hw1
    rw [← hw2'] at hw2
    rw [← hw3'] at hw3
    rw [← hw1', ← hw2']
    rw [← hLe, ← hw3'] at hc5
    by_cases hc12 : w1 < w2
    · repeat (first
        | (refine WD_block (fun K hK => ?_))
        | (refine WD_seq (fun K hK => ?_))
        | (refine WD_region (fun K hK => ?_))
        | ((first | refine RunD_o rfl rfl rfl rfl rfl (fun X hX => ?_) | refine RunD_s rfl rfl rfl rfl (fun X hX => ?_) | refine PreD_o rfl rfl rfl rfl rfl (fun X hX => ?_) | refine WD_c rfl (fun X Y hX hY => ?_)); (try dsimp only); simp (disch := first | omega | (simp; done) | fail) [wrap64c, if_pos, if_neg, opAnd, opOr, opXor, opDiff, opShr, opBit, ask0, hgt, hM2, e0, e1, e2, e16, e17, e18, hlt, q_x, g_x, l_x, r_x, z_x, hi', hc12]; (first | (refine hX _ _ ?hadd ?_; (case hadd => simp; done)) | refine hX _ _ ?_ | refine hX ?_ | refine hY ?_); (try clear hX X); try clear hY Y)
        | (refine RunD_nil ?_; refine hK _ _ ?_; clear hK K)
        | (refine RunD_nil ?_)
        | (refine PreD_nil ?_; refine hK _ _ ?_; clear hK K)
        | (refine WD_skip ?_)
        | (refine WD_exit ?_)
        | (refine WD_ret ?_)
        | (refine hK.1 _ _ ?_; clear hK K)
        | (refine hK.2.1 _ _ ?_; clear hK K)
        | (refine hK.2 _ _ _ ?hne ?_; (case hne => simp; done); clear hK K)
        | (refine hK.2.2 _ _ _ ?hne ?_; (case hne => simp; done); clear hK K))
      refine RunD_c rfl rfl rfl rfl (by simp) (by simp) ?ha (hc5) ?_
      (case ha => simp (disch := first | omega | (simp; done) | fail) [wrap64c, if_pos, if_neg, opAnd, opOr, opXor, opDiff, opShr, opBit, ask0, hgt, hM2, e0, e1, e2, e16, e17, e18, hlt, q_x, g_x, l_x, r_x, z_x, hi', hc12])
      by_cases hq : 1 + w2 = w3
      · have hq' : (1 + (w2 : Int)) = (w3 : Int) := by omega
        repeat (first
          | (refine WD_block (fun K hK => ?_))
          | (refine WD_seq (fun K hK => ?_))
          | (refine WD_region (fun K hK => ?_))
          | ((first | refine RunD_o rfl rfl rfl rfl rfl (fun X hX => ?_) | refine RunD_s rfl rfl rfl rfl (fun X hX => ?_) | refine PreD_o rfl rfl rfl rfl rfl (fun X hX => ?_) | refine WD_c rfl (fun X Y hX hY => ?_)); (try dsimp only); simp (disch := first | omega | (simp; done) | fail) [wrap64c, if_pos, if_neg, opAnd, opOr, opXor, opDiff, opShr, opBit, ask0, hgt, hM2, e0, e1, e2, e16, e17, e18, hlt, q_x, g_x, l_x, r_x, z_x, hi', hc12, hq']; (first | (refine hX _ _ ?hadd ?_; (case hadd => simp; done)) | refine hX _ _ ?_ | refine hX ?_ | refine hY ?_); (try clear hX X); try clear hY Y)
          | (refine RunD_nil ?_; refine hK _ _ ?_; clear hK K)
          | (refine RunD_nil ?_)
          | (refine PreD_nil ?_; refine hK _ _ ?_; clear hK K)
          | (refine WD_skip ?_)
          | (refine WD_exit ?_)
          | (refine WD_ret ?_)
          | (refine hK.1 _ _ ?_; clear hK K)
          | (refine hK.2.1 _ _ ?_; clear hK K)
          | (refine hK.2 _ _ _ ?hne ?_; (case hne => simp; done); clear hK K)
          | (refine hK.2.2 _ _ _ ?hne ?_; (case hne => simp; done); clear hK K))
        refine done_ret rfl ⟨?_, W2.trans (hW.trans (W3.trans (W4.trans W5))), A5⟩
        rw [← hLe, bestN_at hlt hn1 (by rw [← hi]; omega), ← hi]; simp
      · have hq' : ¬ (1 + (w2 : Int)) = (w3 : Int) := by omega
        repeat (first
          | (refine WD_block (fun K hK => ?_))
          | (refine WD_seq (fun K hK => ?_))
          | (refine WD_region (fun K hK => ?_))
          | ((first | refine RunD_o rfl rfl rfl rfl rfl (fun X hX => ?_) | refine RunD_s rfl rfl rfl rfl (fun X hX => ?_) | refine PreD_o rfl rfl rfl rfl rfl (fun X hX => ?_) | refine WD_c rfl (fun X Y hX hY => ?_)); (try dsimp only); simp (disch := first | omega | (simp; done) | fail) [wrap64c, if_pos, if_neg, opAnd, opOr, opXor, opDiff, opShr, opBit, ask0, hgt, hM2, e0, e1, e2, e16, e17, e18, hlt, q_x, g_x, l_x, r_x, z_x, hi', hc12, hq']; (first | (refine hX _ _ ?hadd ?_; (case hadd => simp; done)) | refine hX _ _ ?_ | refine hX ?_ | refine hY ?_); (try clear hX X); try clear hY Y)
          | (refine RunD_nil ?_; refine hK _ _ ?_; clear hK K)
          | (refine RunD_nil ?_)
          | (refine PreD_nil ?_; refine hK _ _ ?_; clear hK K)
          | (refine WD_skip ?_)
          | (refine WD_exit ?_)
          | (refine WD_ret ?_)
          | (refine hK.1 _ _ ?_; clear hK K)
          | (refine hK.2.1 _ _ ?_; clear hK K)
          | (refine hK.2 _ _ _ ?hne ?_; (case hne => simp; done); clear hK K)
          | (refine hK.2.2 _ _ _ ?hne ?_; (case hne => simp; done); clear hK K))
        refine hK.1 _ _ _ ?hm ?hf ⟨j + 1, rfl, (by simp (disch := first | omega | (simp; done) | fail) [wrap64c, if_pos, if_neg, opAnd, opOr, opXor, opDiff, opShr, opBit, ask0, hgt, hM2, e0, e1, e2, e16, e17, e18, hlt, q_x, g_x, l_x, r_x, z_x, hi', hc12, hq'] <;> omega), (by first | omega | assumption | (simp (disch := first | omega | (simp; done) | fail) [wrap64c, if_pos, if_neg, opAnd, opOr, opXor, opDiff, opShr, opBit, ask0, hgt, hM2, e0, e1, e2, e16, e17, e18, hlt, q_x, g_x, l_x, r_x, z_x, hi', hc12, hq'] <;> omega)), (hW.trans (W3.trans (W4.trans W5))), A5, ?c_hn1⟩
        (case hm => first | omega | (simp; omega))
        (case hf => simp [FrameL, ask0, hgt, hM2, e0, e1, e2, e16, e17, e18, hlt, q_x, g_x, l_x, r_x, z_x, hi', hc12, hq', f0_0, f1_0, f2_0, f16_0, f17_0])
        case c_hn1 =>
          exact (fun k hk hkj => by
            by_cases e : k = j
            · subst e; rw [← hi]; omega
            · exact hn1 k hk (by omega))
    · repeat (first
        | (refine WD_block (fun K hK => ?_))
        | (refine WD_seq (fun K hK => ?_))
        | (refine WD_region (fun K hK => ?_))
        | ((first | refine RunD_o rfl rfl rfl rfl rfl (fun X hX => ?_) | refine RunD_s rfl rfl rfl rfl (fun X hX => ?_) | refine PreD_o rfl rfl rfl rfl rfl (fun X hX => ?_) | refine WD_c rfl (fun X Y hX hY => ?_)); (try dsimp only); simp (disch := first | omega | (simp; done) | fail) [wrap64c, if_pos, if_neg, opAnd, opOr, opXor, opDiff, opShr, opBit, ask0, hgt, hM2, e0, e1, e2, e16, e17, e18, hlt, q_x, g_x, l_x, r_x, z_x, hi', hc12]; (first | (refine hX _ _ ?hadd ?_; (case hadd => simp; done)) | refine hX _ _ ?_ | refine hX ?_ | refine hY ?_); (try clear hX X); try clear hY Y)
        | (refine RunD_nil ?_; refine hK _ _ ?_; clear hK K)
        | (refine RunD_nil ?_)
        | (refine PreD_nil ?_; refine hK _ _ ?_; clear hK K)
        | (refine WD_skip ?_)
        | (refine WD_exit ?_)
        | (refine WD_ret ?_)
        | (refine hK.1 _ _ ?_; clear hK K)
        | (refine hK.2.1 _ _ ?_; clear hK K)
        | (refine hK.2 _ _ _ ?hne ?_; (case hne => simp; done); clear hK K)
        | (refine hK.2.2 _ _ _ ?hne ?_; (case hne => simp; done); clear hK K))
      refine RunD_c rfl rfl rfl rfl (by simp) (by simp) ?ha (hc5) ?_
      (case ha => simp (disch := first | omega | (simp; done) | fail) [wrap64c, if_pos, if_neg, opAnd, opOr, opXor, opDiff, opShr, opBit, ask0, hgt, hM2, e0, e1, e2, e16, e17, e18, hlt, q_x, g_x, l_x, r_x, z_x, hi', hc12])
      by_cases hq : 1 + w1 = w3
      · have hq' : (1 + (w1 : Int)) = (w3 : Int) := by omega
        repeat (first
          | (refine WD_block (fun K hK => ?_))
          | (refine WD_seq (fun K hK => ?_))
          | (refine WD_region (fun K hK => ?_))
          | ((first | refine RunD_o rfl rfl rfl rfl rfl (fun X hX => ?_) | refine RunD_s rfl rfl rfl rfl (fun X hX => ?_) | refine PreD_o rfl rfl rfl rfl rfl (fun X hX => ?_) | refine WD_c rfl (fun X Y hX hY => ?_)); (try dsimp only); simp (disch := first | omega | (simp; done) | fail) [wrap64c, if_pos, if_neg, opAnd, opOr, opXor, opDiff, opShr, opBit, ask0, hgt, hM2, e0, e1, e2, e16, e17, e18, hlt, q_x, g_x, l_x, r_x, z_x, hi', hc12, hq']; (first | (refine hX _ _ ?hadd ?_; (case hadd => simp; done)) | refine hX _ _ ?_ | refine hX ?_ | refine hY ?_); (try clear hX X); try clear hY Y)
          | (refine RunD_nil ?_; refine hK _ _ ?_; clear hK K)
          | (refine RunD_nil ?_)
          | (refine PreD_nil ?_; refine hK _ _ ?_; clear hK K)
          | (refine WD_skip ?_)
          | (refine WD_exit ?_)
          | (refine WD_ret ?_)
          | (refine hK.1 _ _ ?_; clear hK K)
          | (refine hK.2.1 _ _ ?_; clear hK K)
          | (refine hK.2 _ _ _ ?hne ?_; (case hne => simp; done); clear hK K)
          | (refine hK.2.2 _ _ _ ?hne ?_; (case hne => simp; done); clear hK K))
        refine done_ret rfl ⟨?_, W2.trans (hW.trans (W3.trans (W4.trans W5))), A5⟩
        rw [← hLe, bestN_at hlt hn1 (by rw [← hi]; omega), ← hi]; simp
      · have hq' : ¬ (1 + (w1 : Int)) = (w3 : Int) := by omega
        repeat (first
          | (refine WD_block (fun K hK => ?_))
          | (refine WD_seq (fun K hK => ?_))
          | (refine WD_region (fun K hK => ?_))
          | ((first | refine RunD_o rfl rfl rfl rfl rfl (fun X hX => ?_) | refine RunD_s rfl rfl rfl rfl (fun X hX => ?_) | refine PreD_o rfl rfl rfl rfl rfl (fun X hX => ?_) | refine WD_c rfl (fun X Y hX hY => ?_)); (try dsimp only); simp (disch := first | omega | (simp; done) | fail) [wrap64c, if_pos, if_neg, opAnd, opOr, opXor, opDiff, opShr, opBit, ask0, hgt, hM2, e0, e1, e2, e16, e17, e18, hlt, q_x, g_x, l_x, r_x, z_x, hi', hc12, hq']; (first | (refine hX _ _ ?hadd ?_; (case hadd => simp; done)) | refine hX _ _ ?_ | refine hX ?_ | refine hY ?_); (try clear hX X); try clear hY Y)
          | (refine RunD_nil ?_; refine hK _ _ ?_; clear hK K)
          | (refine RunD_nil ?_)
          | (refine PreD_nil ?_; refine hK _ _ ?_; clear hK K)
          | (refine WD_skip ?_)
          | (refine WD_exit ?_)
          | (refine WD_ret ?_)
          | (refine hK.1 _ _ ?_; clear hK K)
          | (refine hK.2.1 _ _ ?_; clear hK K)
          | (refine hK.2 _ _ _ ?hne ?_; (case hne => simp; done); clear hK K)
          | (refine hK.2.2 _ _ _ ?hne ?_; (case hne => simp; done); clear hK K))
        refine hK.1 _ _ _ ?hm ?hf ⟨j + 1, rfl, (by simp (disch := first | omega | (simp; done) | fail) [wrap64c, if_pos, if_neg, opAnd, opOr, opXor, opDiff, opShr, opBit, ask0, hgt, hM2, e0, e1, e2, e16, e17, e18, hlt, q_x, g_x, l_x, r_x, z_x, hi', hc12, hq'] <;> omega), (by first | omega | assumption | (simp (disch := first | omega | (simp; done) | fail) [wrap64c, if_pos, if_neg, opAnd, opOr, opXor, opDiff, opShr, opBit, ask0, hgt, hM2, e0, e1, e2, e16, e17, e18, hlt, q_x, g_x, l_x, r_x, z_x, hi', hc12, hq'] <;> omega)), (hW.trans (W3.trans (W4.trans W5))), A5, ?c_hn1⟩
        (case hm => first | omega | (simp; omega))
        (case hf => simp [FrameL, ask0, hgt, hM2, e0, e1, e2, e16, e17, e18, hlt, q_x, g_x, l_x, r_x, z_x, hi', hc12, hq', f0_0, f1_0, f2_0, f16_0, f17_0])
        case c_hn1 =>
          exact (fun k hk hkj => by
            by_cases e : k = j
            · subst e; rw [← hi]; omega
            · exact hn1 k hk (by omega))
  · repeat (first
      | (refine WD_block (fun K hK => ?_))
      | (refine WD_seq (fun K hK => ?_))
      | (refine WD_region (fun K hK => ?_))
      | ((first | refine RunD_o rfl rfl rfl rfl rfl (fun X hX => ?_) | refine RunD_s rfl rfl rfl rfl (fun X hX => ?_) | refine PreD_o rfl rfl rfl rfl rfl (fun X hX => ?_) | refine WD_c rfl (fun X Y hX hY => ?_)); (try dsimp only); simp (disch := first | omega | (simp; done) | fail) [wrap64c, if_pos, if_neg, opAnd, opOr, opXor, opDiff, opShr, opBit, ask0, hgt, hM2, e0, e1, e2, e16, e17, e18, hlt]; (first | (refine hX _ _ ?hadd ?_; (case hadd => simp; done)) | refine hX _ _ ?_ | refine hX ?_ | refine hY ?_); (try clear hX X); try clear hY Y)
      | (refine RunD_nil ?_; refine hK _ _ ?_; clear hK K)
      | (refine RunD_nil ?_)
      | (refine PreD_nil ?_; refine hK _ _ ?_; clear hK K)
      | (refine WD_skip ?_)
      | (refine WD_exit ?_)
      | (refine WD_ret ?_)
      | (refine hK.1 _ _ ?_; clear hK K)
      | (refine hK.2.1 _ _ ?_; clear hK K)
      | (refine hK.2 _ _ _ ?hne ?_; (case hne => simp; done); clear hK K)
      | (refine hK.2.2 _ _ _ ?hne ?_; (case hne => simp; done); clear hK K))
    refine done_ret rfl ⟨?_, W2.trans hW, hAA⟩
    rw [← hLe, bestN_none fun k hk => hn1 k hk (by omega)]; simp
end Go.Proofs.Ytpehnhjgdgnnkaa
