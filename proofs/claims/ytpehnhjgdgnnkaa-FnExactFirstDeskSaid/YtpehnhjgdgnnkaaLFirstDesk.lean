/- The law on FirstDesk. -/
import Derived.Test.YtpehnhjgdgnnkaaS9
namespace Go.Proofs.Ytpehnhjgdgnnkaa
set_option linter.unusedSimpArgs false
set_option linter.unusedVariables false
set_option maxHeartbeats 4000000
open Go Go.Eng
attribute [local irreducible] WD RunD PreD Runs CallOK

theorem lawFirstDesk_ok (h : Hp) : CallOK Try.prog 3 #[] h (.bool true) h := by
  refine call_P 36 _ [.tmp 0] Try.func3 rfl rfl rfl (by first | rfl | simp) ?_
  repeat (first
    | (refine WD_block (fun K hK => ?_))
    | (refine WD_seq (fun K hK => ?_))
    | (refine WD_region (fun K hK => ?_))
    | ((first | refine RunD_o rfl rfl rfl rfl rfl (fun X hX => ?_) | refine RunD_s rfl rfl rfl rfl (fun X hX => ?_)); (try dsimp only); simp (disch := first | omega | (simp; done) | fail) [wrap64c, if_pos, if_neg]; refine hX _ _ ?_; clear hX X)
    | (refine RunD_nil ?_; refine hK _ _ ?_; clear hK K)
    | (refine RunD_nil ?_)
    | (refine WD_skip ?_)
    | (refine WD_exit ?_)
    | (refine WD_ret ?_)
    | (refine WD_true rfl ?hb ?_; (case hb => simp (disch := first | omega | (simp; done) | fail) [wrap64c, if_pos, if_neg] <;> omega))
    | (refine WD_false rfl ?hb ?_; (case hb => simp (disch := first | omega | (simp; done) | fail) [wrap64c, if_pos, if_neg] <;> omega))
    | (refine hK.1 _ _ ?_; clear hK K)
    | (refine hK.2.1 _ _ ?_; clear hK K)
    | (refine hK.2 _ _ _ ?hne ?_; (case hne => simp; done); clear hK K)
    | (refine hK.2.2 _ _ _ ?hne ?_; (case hne => simp; done); clear hK K))
  obtain ⟨w0, h1, hc1, ha1, hi1⟩ := specFirst_ok h
  refine RunD_c rfl rfl rfl rfl (by simp) (by simp) ?ha (hc1) ?_
  (case ha => simp (disch := first | omega | (simp; done) | fail) [wrap64c, if_pos, if_neg])
  obtain ⟨b1, rfl, hb1⟩ := hi1
  have nt1 := hb1.nt
  have cs1 := hb1.cs
  repeat (first
    | (refine WD_block (fun K hK => ?_))
    | (refine WD_seq (fun K hK => ?_))
    | (refine WD_region (fun K hK => ?_))
    | ((first | refine RunD_o rfl rfl rfl rfl rfl (fun X hX => ?_) | refine RunD_s rfl rfl rfl rfl (fun X hX => ?_)); (try dsimp only); simp (disch := first | omega | (simp; done) | fail) [wrap64c, if_pos, if_neg, nt1, cs1, putCells]; refine hX _ _ ?_; clear hX X)
    | (refine RunD_nil ?_; refine hK _ _ ?_; clear hK K)
    | (refine RunD_nil ?_)
    | (refine WD_skip ?_)
    | (refine WD_exit ?_)
    | (refine WD_ret ?_)
    | (refine WD_true rfl ?hb ?_; (case hb => simp (disch := first | omega | (simp; done) | fail) [wrap64c, if_pos, if_neg, nt1, cs1, putCells] <;> omega))
    | (refine WD_false rfl ?hb ?_; (case hb => simp (disch := first | omega | (simp; done) | fail) [wrap64c, if_pos, if_neg, nt1, cs1, putCells] <;> omega))
    | (refine hK.1 _ _ ?_; clear hK K)
    | (refine hK.2.1 _ _ ?_; clear hK K)
    | (refine hK.2 _ _ _ ?hne ?_; (case hne => simp; done); clear hK K)
    | (refine hK.2.2 _ _ _ ?hne ?_; (case hne => simp; done); clear hK K))
  first | refine WD_heap fun h2 q_h2 => ?_ | refine RunD_heap fun h2 q_h2 => ?_ | refine PreD_heap fun h2 q_h2 => ?_ | refine Done_heap fun h2 q_h2 => ?_
  have k2 : Adds h1 h2 := by rw [q_h2]; exact (by repeat (first | exact keep_self _ | exact adds_self _ | assumption | exact Adds.keeps (by assumption) | refine keeps_alloc ?_ _ | refine adds_alloc ?_ _ _ _ | (refine keeps_put ?_ ?hle _; (case hle => first | omega | (simp; done) | (simp; omega))) | (refine adds_put ?_ ?hle _ _ _; (case hle => first | omega | (simp; done) | (simp; omega)))))
  have n2 : h2.next = h1.next + 1 := by simp [q_h2]
  have K2 := ha1.trans k2
  have g2 : h2.get h1.next = .cells [.int .i64 3, b1, .int .i64 0] true true 1 := by simp [q_h2]
  have hb1 := hb1.keep k2.1
  obtain ⟨w3, h3, hc3, ha3, hi3⟩ := implFirst_ok h2
  refine RunD_c rfl rfl rfl rfl (by simp) (by simp) ?ha (hc3) ?_
  (case ha => simp (disch := first | omega | (simp; done) | fail) [wrap64c, if_pos, if_neg, nt1, cs1, g2])
  have n3 := ha3.1.1
  obtain ⟨b3, rfl, hb3⟩ := hi3
  have nt3 := hb3.nt
  have cs3 := hb3.cs
  have g2 : h3.get h1.next = .cells [.int .i64 3, b1, .int .i64 0] true true 1 := by rw [ha3.1.2 _ (by omega)]; exact g2
  have hb1 := hb1.keep ha3.1
  repeat (first
    | (refine WD_block (fun K hK => ?_))
    | (refine WD_seq (fun K hK => ?_))
    | (refine WD_region (fun K hK => ?_))
    | ((first | refine RunD_o rfl rfl rfl rfl rfl (fun X hX => ?_) | refine RunD_s rfl rfl rfl rfl (fun X hX => ?_)); (try dsimp only); simp (disch := first | omega | (simp; done) | fail) [wrap64c, if_pos, if_neg, nt1, cs1, g2, nt3, cs3, putCells]; refine hX _ _ ?_; clear hX X)
    | (refine RunD_nil ?_; refine hK _ _ ?_; clear hK K)
    | (refine RunD_nil ?_)
    | (refine WD_skip ?_)
    | (refine WD_exit ?_)
    | (refine WD_ret ?_)
    | (refine WD_true rfl ?hb ?_; (case hb => simp (disch := first | omega | (simp; done) | fail) [wrap64c, if_pos, if_neg, nt1, cs1, g2, nt3, cs3, putCells] <;> omega))
    | (refine WD_false rfl ?hb ?_; (case hb => simp (disch := first | omega | (simp; done) | fail) [wrap64c, if_pos, if_neg, nt1, cs1, g2, nt3, cs3, putCells] <;> omega))
    | (refine hK.1 _ _ ?_; clear hK K)
    | (refine hK.2.1 _ _ ?_; clear hK K)
    | (refine hK.2 _ _ _ ?hne ?_; (case hne => simp; done); clear hK K)
    | (refine hK.2.2 _ _ _ ?hne ?_; (case hne => simp; done); clear hK K))
  first | refine WD_heap fun h4 q_h4 => ?_ | refine RunD_heap fun h4 q_h4 => ?_ | refine PreD_heap fun h4 q_h4 => ?_ | refine Done_heap fun h4 q_h4 => ?_
  have k4 : Adds h3 h4 := by rw [q_h4]; exact (by repeat (first | exact keep_self _ | exact adds_self _ | assumption | exact Adds.keeps (by assumption) | refine keeps_alloc ?_ _ | refine adds_alloc ?_ _ _ _ | (refine keeps_put ?_ ?hle _; (case hle => first | omega | (simp; done) | (simp; omega))) | (refine adds_put ?_ ?hle _ _ _; (case hle => first | omega | (simp; done) | (simp; omega)))))
  have n4 : h4.next = h3.next + 1 := by simp [q_h4]
  have K4 := (K2.trans ha3).trans k4
  have g2 : h4.get h1.next = .cells [.int .i64 3, b1, .int .i64 0] true true 1 := by rw [k4.1.2 _ (by omega)]; exact g2
  have g4 : h4.get h3.next = .cells [.int .i64 3, b3, .int .i64 0] true true 1 := by simp [q_h4]
  have hb1 := hb1.keep k4.1
  have hb3 := hb3.keep k4.1
  have n1 := ha1.1.1
  refine RunD_c rfl rfl rfl rfl (by simp) (by simp) ?ha (eqDesk_ok h4 (.agg #[.int .i64 3, b3, .int .i64 0]) (.agg #[.int .i64 3, b1, .int .i64 0]) 3 3 desk0 desk0 0 0 (.mk hb3.ints) (.mk hb1.ints)) ?_
  (case ha => simp (disch := first | omega | (simp; done) | fail) [wrap64c, if_pos, if_neg, nt1, cs1, g2, nt3, cs3, g4])
  repeat (first
    | (refine WD_block (fun K hK => ?_))
    | (refine WD_seq (fun K hK => ?_))
    | (refine WD_region (fun K hK => ?_))
    | ((first | refine RunD_o rfl rfl rfl rfl rfl (fun X hX => ?_) | refine RunD_s rfl rfl rfl rfl (fun X hX => ?_)); (try dsimp only); simp (disch := first | omega | (simp; done) | fail) [wrap64c, if_pos, if_neg, nt1, cs1, g2, nt3, cs3, g4]; refine hX _ _ ?_; clear hX X)
    | (refine RunD_nil ?_; refine hK _ _ ?_; clear hK K)
    | (refine RunD_nil ?_)
    | (refine WD_skip ?_)
    | (refine WD_exit ?_)
    | (refine WD_ret ?_)
    | (refine WD_true rfl ?hb ?_; (case hb => simp (disch := first | omega | (simp; done) | fail) [wrap64c, if_pos, if_neg, nt1, cs1, g2, nt3, cs3, g4] <;> omega))
    | (refine WD_false rfl ?hb ?_; (case hb => simp (disch := first | omega | (simp; done) | fail) [wrap64c, if_pos, if_neg, nt1, cs1, g2, nt3, cs3, g4] <;> omega))
    | (refine hK.1 _ _ ?_; clear hK K)
    | (refine hK.2.1 _ _ ?_; clear hK K)
    | (refine hK.2 _ _ _ ?hne ?_; (case hne => simp; done); clear hK K)
    | (refine hK.2.2 _ _ _ ?hne ?_; (case hne => simp; done); clear hK K))
  obtain ⟨_, h5, hc5, rfl, hu5, hi5⟩ := markDesk_ok (Btw h2.next h3.next) h4 (.agg #[.int .i64 3, b3, .int .i64 0]) 3 desk0 0 1 ⟨_, rfl, hb3⟩ (by omega) (by omega) (by decide)
  refine RunD_c rfl rfl rfl rfl (by simp) (by simp) ?ha (hc5) ?_
  (case ha => simp (disch := first | omega | (simp; done) | fail) [wrap64c, if_pos, if_neg, nt1, cs1, g2, nt3, cs3, g4])
  have n5 := hu5.1
  have hl0 : (desk0.length : Int) = 7 := rfl
  have hl1 : desk0.length = 7 := rfl
  have K5 := hu5.keeps K4.1 fun o ho => by have := ho.1; omega
  have g2 : h5.get h1.next = .cells [.int .i64 3, b1, .int .i64 0] true true 1 := by rw [hu5.2 _ (by omega) (by unfold Btw; omega)]; exact g2
  have g4 : h5.get h3.next = .cells [.int .i64 3, b3, .int .i64 0] true true 1 := by rw [hu5.2 _ (by omega) (by unfold Btw; omega)]; exact g4
  have hb1 := hb1.same (hu5.same fun x hx hx' => by unfold Btw at hx hx'; omega)
  obtain ⟨b5, e5, hb5⟩ := hi5
  have e5' : b5 = b3 := by simpa using e5.symm
  subst e5'
  repeat (first
    | (refine WD_block (fun K hK => ?_))
    | (refine WD_seq (fun K hK => ?_))
    | (refine WD_region (fun K hK => ?_))
    | ((first | refine RunD_o rfl rfl rfl rfl rfl (fun X hX => ?_) | refine RunD_s rfl rfl rfl rfl (fun X hX => ?_)); (try dsimp only); simp (disch := first | omega | (simp; done) | fail) [wrap64c, if_pos, if_neg, nt1, cs1, g2, nt3, cs3, g4, hl0]; refine hX _ _ ?_; clear hX X)
    | (refine RunD_nil ?_; refine hK _ _ ?_; clear hK K)
    | (refine RunD_nil ?_)
    | (refine WD_skip ?_)
    | (refine WD_exit ?_)
    | (refine WD_ret ?_)
    | (refine WD_true rfl ?hb ?_; (case hb => simp (disch := first | omega | (simp; done) | fail) [wrap64c, if_pos, if_neg, nt1, cs1, g2, nt3, cs3, g4, hl0] <;> omega))
    | (refine WD_false rfl ?hb ?_; (case hb => simp (disch := first | omega | (simp; done) | fail) [wrap64c, if_pos, if_neg, nt1, cs1, g2, nt3, cs3, g4, hl0] <;> omega))
    | (refine hK.1 _ _ ?_; clear hK K)
    | (refine hK.2.1 _ _ ?_; clear hK K)
    | (refine hK.2 _ _ _ ?hne ?_; (case hne => simp; done); clear hK K)
    | (refine hK.2.2 _ _ _ ?hne ?_; (case hne => simp; done); clear hK K))
  refine RunD_c rfl rfl rfl rfl (by simp) (by simp) ?ha (heldDesk_ok h5 (.agg #[.int .i64 3, b5, .int .i64 0]) 3 7 0 1 (.mk hb5.ints) (by omega) (by omega) (by omega)) ?_
  (case ha => simp (disch := first | omega | (simp; done) | fail) [wrap64c, if_pos, if_neg, nt1, cs1, g2, nt3, cs3, g4, hl0])
  repeat (first
    | (refine WD_block (fun K hK => ?_))
    | (refine WD_seq (fun K hK => ?_))
    | (refine WD_region (fun K hK => ?_))
    | ((first | refine RunD_o rfl rfl rfl rfl rfl (fun X hX => ?_) | refine RunD_s rfl rfl rfl rfl (fun X hX => ?_)); (try dsimp only); simp (disch := first | omega | (simp; done) | fail) [wrap64c, if_pos, if_neg, nt1, cs1, g2, nt3, cs3, g4, hl0]; refine hX _ _ ?_; clear hX X)
    | (refine RunD_nil ?_; refine hK _ _ ?_; clear hK K)
    | (refine RunD_nil ?_)
    | (refine WD_skip ?_)
    | (refine WD_exit ?_)
    | (refine WD_ret ?_)
    | (refine WD_true rfl ?hb ?_; (case hb => simp (disch := first | omega | (simp; done) | fail) [wrap64c, if_pos, if_neg, nt1, cs1, g2, nt3, cs3, g4, hl0] <;> omega))
    | (refine WD_false rfl ?hb ?_; (case hb => simp (disch := first | omega | (simp; done) | fail) [wrap64c, if_pos, if_neg, nt1, cs1, g2, nt3, cs3, g4, hl0] <;> omega))
    | (refine hK.1 _ _ ?_; clear hK K)
    | (refine hK.2.1 _ _ ?_; clear hK K)
    | (refine hK.2 _ _ _ ?hne ?_; (case hne => simp; done); clear hK K)
    | (refine hK.2.2 _ _ _ ?hne ?_; (case hne => simp; done); clear hK K))
  obtain ⟨w6, h6, hc6, ha6, hi6⟩ := implFirst_ok h5
  refine RunD_c rfl rfl rfl rfl (by simp) (by simp) ?ha (hc6) ?_
  (case ha => simp (disch := first | omega | (simp; done) | fail) [wrap64c, if_pos, if_neg, nt1, cs1, g2, nt3, cs3, g4, hl0])
  have n6 := ha6.1.1
  obtain ⟨b6, rfl, hb6⟩ := hi6
  have nt6 := hb6.nt
  have cs6 := hb6.cs
  have g2 : h6.get h1.next = .cells [.int .i64 3, b1, .int .i64 0] true true 1 := by rw [ha6.1.2 _ (by omega)]; exact g2
  have g4 : h6.get h3.next = .cells [.int .i64 3, b5, .int .i64 0] true true 1 := by rw [ha6.1.2 _ (by omega)]; exact g4
  have hb1 := hb1.keep ha6.1
  have hb5 := hb5.keep ha6.1
  repeat (first
    | (refine WD_block (fun K hK => ?_))
    | (refine WD_seq (fun K hK => ?_))
    | (refine WD_region (fun K hK => ?_))
    | ((first | refine RunD_o rfl rfl rfl rfl rfl (fun X hX => ?_) | refine RunD_s rfl rfl rfl rfl (fun X hX => ?_)); (try dsimp only); simp (disch := first | omega | (simp; done) | fail) [wrap64c, if_pos, if_neg, nt1, cs1, g2, nt3, cs3, g4, hl0, nt6, cs6, putCells]; refine hX _ _ ?_; clear hX X)
    | (refine RunD_nil ?_; refine hK _ _ ?_; clear hK K)
    | (refine RunD_nil ?_)
    | (refine WD_skip ?_)
    | (refine WD_exit ?_)
    | (refine WD_ret ?_)
    | (refine WD_true rfl ?hb ?_; (case hb => simp (disch := first | omega | (simp; done) | fail) [wrap64c, if_pos, if_neg, nt1, cs1, g2, nt3, cs3, g4, hl0, nt6, cs6, putCells] <;> omega))
    | (refine WD_false rfl ?hb ?_; (case hb => simp (disch := first | omega | (simp; done) | fail) [wrap64c, if_pos, if_neg, nt1, cs1, g2, nt3, cs3, g4, hl0, nt6, cs6, putCells] <;> omega))
    | (refine hK.1 _ _ ?_; clear hK K)
    | (refine hK.2.1 _ _ ?_; clear hK K)
    | (refine hK.2 _ _ _ ?hne ?_; (case hne => simp; done); clear hK K)
    | (refine hK.2.2 _ _ _ ?hne ?_; (case hne => simp; done); clear hK K))
  first | refine WD_heap fun h7 q_h7 => ?_ | refine RunD_heap fun h7 q_h7 => ?_ | refine PreD_heap fun h7 q_h7 => ?_ | refine Done_heap fun h7 q_h7 => ?_
  have k7 : Adds h6 h7 := by rw [q_h7]; exact (by repeat (first | exact keep_self _ | exact adds_self _ | assumption | exact Adds.keeps (by assumption) | refine keeps_alloc ?_ _ | refine adds_alloc ?_ _ _ _ | (refine keeps_put ?_ ?hle _; (case hle => first | omega | (simp; done) | (simp; omega))) | (refine adds_put ?_ ?hle _ _ _; (case hle => first | omega | (simp; done) | (simp; omega)))))
  have K7 := (K5.trans ha6.1).trans k7.1
  have g2 : h7.get h1.next = .cells [.int .i64 3, b1, .int .i64 0] true true 1 := by rw [k7.1.2 _ (by omega)]; exact g2
  have g4 : h7.get h3.next = .cells [.int .i64 3, b5, .int .i64 0] true true 1 := by rw [k7.1.2 _ (by omega)]; exact g4
  have g7 : h7.get h6.next = .cells [.int .i64 3, b6, .int .i64 0] true true 1 := by simp [q_h7]
  have hb1 := hb1.keep k7.1
  have hb5 := hb5.keep k7.1
  have hb6 := hb6.keep k7.1
  refine RunD_c rfl rfl rfl rfl (by simp) (by simp) ?ha (eqDesk_ok h7 (.agg #[.int .i64 3, b6, .int .i64 0]) (.agg #[.int .i64 3, b1, .int .i64 0]) 3 3 desk0 desk0 0 0 (.mk hb6.ints) (.mk hb1.ints)) ?_
  (case ha => simp (disch := first | omega | (simp; done) | fail) [wrap64c, if_pos, if_neg, nt1, cs1, g2, nt3, cs3, g4, hl0, nt6, cs6, g7])
  repeat (first
    | (refine WD_block (fun K hK => ?_))
    | (refine WD_seq (fun K hK => ?_))
    | (refine WD_region (fun K hK => ?_))
    | ((first | refine RunD_o rfl rfl rfl rfl rfl (fun X hX => ?_) | refine RunD_s rfl rfl rfl rfl (fun X hX => ?_)); (try dsimp only); simp (disch := first | omega | (simp; done) | fail) [wrap64c, if_pos, if_neg, nt1, cs1, g2, nt3, cs3, g4, hl0, nt6, cs6, g7]; refine hX _ _ ?_; clear hX X)
    | (refine RunD_nil ?_; refine hK _ _ ?_; clear hK K)
    | (refine RunD_nil ?_)
    | (refine WD_skip ?_)
    | (refine WD_exit ?_)
    | (refine WD_ret ?_)
    | (refine WD_true rfl ?hb ?_; (case hb => simp (disch := first | omega | (simp; done) | fail) [wrap64c, if_pos, if_neg, nt1, cs1, g2, nt3, cs3, g4, hl0, nt6, cs6, g7] <;> omega))
    | (refine WD_false rfl ?hb ?_; (case hb => simp (disch := first | omega | (simp; done) | fail) [wrap64c, if_pos, if_neg, nt1, cs1, g2, nt3, cs3, g4, hl0, nt6, cs6, g7] <;> omega))
    | (refine hK.1 _ _ ?_; clear hK K)
    | (refine hK.2.1 _ _ ?_; clear hK K)
    | (refine hK.2 _ _ _ ?hne ?_; (case hne => simp; done); clear hK K)
    | (refine hK.2.2 _ _ _ ?hne ?_; (case hne => simp; done); clear hK K))
  refine RunD_c rfl rfl rfl rfl (by simp) (by simp) ?ha (heldDesk_ok h7 (.agg #[.int .i64 3, b5, .int .i64 0]) 3 7 0 1 (.mk hb5.ints) (by omega) (by omega) (by omega)) ?_
  (case ha => simp (disch := first | omega | (simp; done) | fail) [wrap64c, if_pos, if_neg, nt1, cs1, g2, nt3, cs3, g4, hl0, nt6, cs6, g7])
  repeat (first
    | (refine WD_block (fun K hK => ?_))
    | (refine WD_seq (fun K hK => ?_))
    | (refine WD_region (fun K hK => ?_))
    | ((first | refine RunD_o rfl rfl rfl rfl rfl (fun X hX => ?_) | refine RunD_s rfl rfl rfl rfl (fun X hX => ?_)); (try dsimp only); simp (disch := first | omega | (simp; done) | fail) [wrap64c, if_pos, if_neg, nt1, cs1, g2, nt3, cs3, g4, hl0, nt6, cs6, g7]; refine hX _ _ ?_; clear hX X)
    | (refine RunD_nil ?_; refine hK _ _ ?_; clear hK K)
    | (refine RunD_nil ?_)
    | (refine WD_skip ?_)
    | (refine WD_exit ?_)
    | (refine WD_ret ?_)
    | (refine WD_true rfl ?hb ?_; (case hb => simp (disch := first | omega | (simp; done) | fail) [wrap64c, if_pos, if_neg, nt1, cs1, g2, nt3, cs3, g4, hl0, nt6, cs6, g7] <;> omega))
    | (refine WD_false rfl ?hb ?_; (case hb => simp (disch := first | omega | (simp; done) | fail) [wrap64c, if_pos, if_neg, nt1, cs1, g2, nt3, cs3, g4, hl0, nt6, cs6, g7] <;> omega))
    | (refine hK.1 _ _ ?_; clear hK K)
    | (refine hK.2.1 _ _ ?_; clear hK K)
    | (refine hK.2 _ _ _ ?hne ?_; (case hne => simp; done); clear hK K)
    | (refine hK.2.2 _ _ _ ?hne ?_; (case hne => simp; done); clear hK K))
  exact done_ret rfl (by simp [K7])
end Go.Proofs.Ytpehnhjgdgnnkaa
