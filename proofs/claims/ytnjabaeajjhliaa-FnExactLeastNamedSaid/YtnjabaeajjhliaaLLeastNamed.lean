/- The law on LeastNamed. -/
import Derived.Test.YtnjabaeajjhliaaT13
namespace Go.Proofs.Ytnjabaeajjhliaa
set_option linter.unusedSimpArgs false
set_option linter.unusedVariables false
set_option maxHeartbeats 4000000
open Go Go.Eng
attribute [local irreducible] WD RunD PreD Runs CallOK

theorem lawLeastNamed_ok (h : Hp) (v : Value) (N : Int) (X : List Int) (hv : Space h v N X) : CallOK Try.prog 9 #[v] h (.bool true) h := by
  refine call_P 96 _ [.tmp 2] Try.func9 rfl rfl rfl (by first | rfl | simp) ?_
  have hv0 := hv
  obtain ⟨b, rfl, hXX⟩ := hv
  repeat (first
    | (refine WD_block (fun K hK => ?_))
    | (refine WD_seq (fun K hK => ?_)))
  refine WD_region (fun K hK => ?_)
  repeat (first
    | ((first | refine RunD_o rfl rfl rfl rfl rfl (fun X hX => ?_) | refine RunD_s rfl rfl rfl rfl (fun X hX => ?_) | refine RunD_g rfl rfl rfl rfl rfl rfl rfl (fun X Y hX hY => ?_) | refine RunD_gc rfl rfl rfl rfl rfl rfl (fun Y hY => ?_) | refine PreD_o rfl rfl rfl rfl rfl (fun X hX => ?_) | refine PreD_g rfl rfl rfl rfl rfl rfl rfl (fun X Y hX hY => ?_) | refine PreD_gc rfl rfl rfl rfl rfl rfl (fun Y hY => ?_) | refine WD_c rfl (fun X Y hX hY => ?_)); (try dsimp only); simp (disch := first | omega | (simp; done) | fail) [wrap64c, if_pos, if_neg]; (first | (refine hX _ _ ?hadd ?_; (case hadd => simp; done)) | refine hX _ _ ?_ | refine hX ?_ | refine hY ?_); (try clear hX X); try clear hY Y))
  first | refine WD_heap fun h0 q_h0 => ?_ | refine RunD_heap fun h0 q_h0 => ?_ | refine PreD_heap fun h0 q_h0 => ?_ | refine Done_heap fun h0 q_h0 => ?_
  have k0 : Adds h h0 := by rw [q_h0]; exact (by repeat (first | exact keep_self _ | exact adds_self _ | assumption | exact Adds.keeps (by assumption) | refine keeps_alloc ?_ _ | refine adds_alloc ?_ _ _ _ | refine adds_allocM ?_ _ | (refine keeps_put ?_ ?hle _; (case hle => first | omega | (simp; done) | (simp; omega))) | (refine adds_put ?_ ?hle _ _ _; (case hle => first | omega | (simp; done) | (simp; omega)))))
  have K0 := k0.1
  have n0 : h0.next = h.next + 1 := by simp [q_h0]
  have gb0 : h0.get h.next = .cells [.int .i64 N, b] true true 1 := by simp [q_h0]
  repeat (first
    | (refine WD_block (fun K hK => ?_))
    | (refine WD_seq (fun K hK => ?_))
    | (refine WD_region (fun K hK => ?_))
    | ((first | refine RunD_o rfl rfl rfl rfl rfl (fun X hX => ?_) | refine RunD_s rfl rfl rfl rfl (fun X hX => ?_) | refine RunD_g rfl rfl rfl rfl rfl rfl rfl (fun X Y hX hY => ?_) | refine RunD_gc rfl rfl rfl rfl rfl rfl (fun Y hY => ?_) | refine PreD_o rfl rfl rfl rfl rfl (fun X hX => ?_) | refine PreD_g rfl rfl rfl rfl rfl rfl rfl (fun X Y hX hY => ?_) | refine PreD_gc rfl rfl rfl rfl rfl rfl (fun Y hY => ?_) | refine WD_c rfl (fun X Y hX hY => ?_)); (try dsimp only); simp (disch := first | omega | (simp; done) | fail) [wrap64c, if_pos, if_neg, gb0]; (first | (refine hX _ _ ?hadd ?_; (case hadd => simp; done)) | refine hX _ _ ?_ | refine hX ?_ | refine hY ?_); (try clear hX X); try clear hY Y)
    | (refine RunD_nil ?_; refine hK _ _ ?_; clear hK K)
    | (refine RunD_nil ?_)
    | (refine PreD_nil ?_; refine hK _ _ ?_; clear hK K)
    | (refine WD_skip ?_)
    | (refine WD_exit ?_)
    | (refine WD_ret ?_)
    | (refine hK.1 _ _ ?_; clear hK K)
    | (refine hK.2.1 _ _ ?_; clear hK K)
    | (refine hK.2 _ _ _ ?hne ?_; (case hne => simp; done); clear hK K)
    | (refine hK.2.2 _ _ _ ?hne ?_; (case hne => simp; done); clear hK K))
  refine RunD_c rfl rfl rfl rfl (by simp) (by simp) ?ha (szSpace_ok h0 _ N X (1048576) (hv0.keep K0) (by omega) (by omega)) ?_
  (case ha => simp (disch := first | omega | (simp; done) | fail) [wrap64c, if_pos, if_neg, gb0])
  by_cases cz0 : szS (1048576) X < 0
  case pos =>
    repeat (first
      | (refine WD_block (fun K hK => ?_))
      | (refine WD_seq (fun K hK => ?_))
      | (refine WD_region (fun K hK => ?_))
      | ((first | refine RunD_o rfl rfl rfl rfl rfl (fun X hX => ?_) | refine RunD_s rfl rfl rfl rfl (fun X hX => ?_) | refine RunD_g rfl rfl rfl rfl rfl rfl rfl (fun X Y hX hY => ?_) | refine RunD_gc rfl rfl rfl rfl rfl rfl (fun Y hY => ?_) | refine PreD_o rfl rfl rfl rfl rfl (fun X hX => ?_) | refine PreD_g rfl rfl rfl rfl rfl rfl rfl (fun X Y hX hY => ?_) | refine PreD_gc rfl rfl rfl rfl rfl rfl (fun Y hY => ?_) | refine WD_c rfl (fun X Y hX hY => ?_)); (try dsimp only); simp (disch := first | omega | (simp; done) | fail) [wrap64c, if_pos, if_neg, gb0, cz0]; (first | (refine hX _ _ ?hadd ?_; (case hadd => simp; done)) | refine hX _ _ ?_ | refine hX ?_ | refine hY ?_); (try clear hX X); try clear hY Y)
      | (refine RunD_nil ?_; refine hK _ _ ?_; clear hK K)
      | (refine RunD_nil ?_)
      | (refine PreD_nil ?_; refine hK _ _ ?_; clear hK K)
      | (refine WD_skip ?_)
      | (refine WD_exit ?_)
      | (refine WD_ret ?_)
      | (refine hK.1 _ _ ?_; clear hK K)
      | (refine hK.2.1 _ _ ?_; clear hK K)
      | (refine hK.2 _ _ _ ?hne ?_; (case hne => simp; done); clear hK K)
      | (refine hK.2.2 _ _ _ ?hne ?_; (case hne => simp; done); clear hK K))
    exact done_ret rfl (by simp [K0])
  have lz0 := szS_len cz0
  have l1X : X.length < 2 ^ 40 := by omega
  repeat (first
    | (refine WD_block (fun K hK => ?_))
    | (refine WD_seq (fun K hK => ?_))
    | (refine WD_region (fun K hK => ?_))
    | ((first | refine RunD_o rfl rfl rfl rfl rfl (fun X hX => ?_) | refine RunD_s rfl rfl rfl rfl (fun X hX => ?_) | refine RunD_g rfl rfl rfl rfl rfl rfl rfl (fun X Y hX hY => ?_) | refine RunD_gc rfl rfl rfl rfl rfl rfl (fun Y hY => ?_) | refine PreD_o rfl rfl rfl rfl rfl (fun X hX => ?_) | refine PreD_g rfl rfl rfl rfl rfl rfl rfl (fun X Y hX hY => ?_) | refine PreD_gc rfl rfl rfl rfl rfl rfl (fun Y hY => ?_) | refine WD_c rfl (fun X Y hX hY => ?_)); (try dsimp only); simp (disch := first | omega | (simp; done) | fail) [wrap64c, if_pos, if_neg, gb0, cz0]; (first | (refine hX _ _ ?hadd ?_; (case hadd => simp; done)) | refine hX _ _ ?_ | refine hX ?_ | refine hY ?_); (try clear hX X); try clear hY Y)
    | (refine RunD_nil ?_; refine hK _ _ ?_; clear hK K)
    | (refine RunD_nil ?_)
    | (refine PreD_nil ?_; refine hK _ _ ?_; clear hK K)
    | (refine WD_skip ?_)
    | (refine WD_exit ?_)
    | (refine WD_ret ?_)
    | (refine hK.1 _ _ ?_; clear hK K)
    | (refine hK.2.1 _ _ ?_; clear hK K)
    | (refine hK.2 _ _ _ ?hne ?_; (case hne => simp; done); clear hK K)
    | (refine hK.2.2 _ _ _ ?hne ?_; (case hne => simp; done); clear hK K))
  have lb := leastRX_len N X
  obtain ⟨ts0, h1, hcs0, has0, his0⟩ := toSpace_ok h0 _ N X (hv0.keep K0) l1X
  refine RunD_c rfl rfl rfl rfl (by simp) (by simp) ?ha (hcs0) ?_
  (case ha => simp (disch := first | omega | (simp; done) | fail) [wrap64c, if_pos, if_neg, gb0, cz0])
  have n1 := has0.1.1
  have K1 := K0.trans has0.1
  have gb0 : h1.get h.next = .cells [.int .i64 N, b] true true 1 := by rw [has0.1.2 _ (by omega)]; exact gb0
  repeat (first
    | (refine WD_block (fun K hK => ?_))
    | (refine WD_seq (fun K hK => ?_))
    | (refine WD_region (fun K hK => ?_))
    | ((first | refine RunD_o rfl rfl rfl rfl rfl (fun X hX => ?_) | refine RunD_s rfl rfl rfl rfl (fun X hX => ?_) | refine RunD_g rfl rfl rfl rfl rfl rfl rfl (fun X Y hX hY => ?_) | refine RunD_gc rfl rfl rfl rfl rfl rfl (fun Y hY => ?_) | refine PreD_o rfl rfl rfl rfl rfl (fun X hX => ?_) | refine PreD_g rfl rfl rfl rfl rfl rfl rfl (fun X Y hX hY => ?_) | refine PreD_gc rfl rfl rfl rfl rfl rfl (fun Y hY => ?_) | refine WD_c rfl (fun X Y hX hY => ?_)); (try dsimp only); simp (disch := first | omega | (simp; done) | fail) [wrap64c, if_pos, if_neg, gb0, cz0]; (first | (refine hX _ _ ?hadd ?_; (case hadd => simp; done)) | refine hX _ _ ?_ | refine hX ?_ | refine hY ?_); (try clear hX X); try clear hY Y)
    | (refine RunD_nil ?_; refine hK _ _ ?_; clear hK K)
    | (refine RunD_nil ?_)
    | (refine PreD_nil ?_; refine hK _ _ ?_; clear hK K)
    | (refine WD_skip ?_)
    | (refine WD_exit ?_)
    | (refine WD_ret ?_)
    | (refine hK.1 _ _ ?_; clear hK K)
    | (refine hK.2.1 _ _ ?_; clear hK K)
    | (refine hK.2 _ _ _ ?hne ?_; (case hne => simp; done); clear hK K)
    | (refine hK.2.2 _ _ _ ?hne ?_; (case hne => simp; done); clear hK K))
  obtain ⟨_, h2, hcw, haw, uw0, rfl, huw0⟩ := specLeast_ok h1 _ N X his0.space l1X
  have huw0' := huw0
  obtain ⟨qw0, rfl, hqw0⟩ := huw0'
  have ntqw0 := hqw0.nt
  have csqw0 := hqw0.cs
  refine RunD_c rfl rfl rfl rfl (by simp) (by simp) ?ha (hcw) ?_
  (case ha => simp (disch := first | omega | (simp; done) | fail) [wrap64c, if_pos, if_neg, gb0, cz0, ntqw0, csqw0])
  have n2 := haw.1.1
  have K2 := K1.trans haw.1
  have gb0 : h2.get h.next = .cells [.int .i64 N, b] true true 1 := by rw [haw.1.2 _ (by omega)]; exact gb0
  have his0 := his0.keep haw.1
  repeat (first
    | (refine WD_block (fun K hK => ?_))
    | (refine WD_seq (fun K hK => ?_))
    | (refine WD_region (fun K hK => ?_))
    | ((first | refine RunD_o rfl rfl rfl rfl rfl (fun X hX => ?_) | refine RunD_s rfl rfl rfl rfl (fun X hX => ?_) | refine RunD_g rfl rfl rfl rfl rfl rfl rfl (fun X Y hX hY => ?_) | refine RunD_gc rfl rfl rfl rfl rfl rfl (fun Y hY => ?_) | refine PreD_o rfl rfl rfl rfl rfl (fun X hX => ?_) | refine PreD_g rfl rfl rfl rfl rfl rfl rfl (fun X Y hX hY => ?_) | refine PreD_gc rfl rfl rfl rfl rfl rfl (fun Y hY => ?_) | refine WD_c rfl (fun X Y hX hY => ?_)); (try dsimp only); simp (disch := first | omega | (simp; done) | fail) [wrap64c, if_pos, if_neg, gb0, cz0, ntqw0, csqw0, putCells]; (first | (refine hX _ _ ?hadd ?_; (case hadd => simp; done)) | refine hX _ _ ?_ | refine hX ?_ | refine hY ?_); (try clear hX X); try clear hY Y)
    | (refine RunD_nil ?_; refine hK _ _ ?_; clear hK K)
    | (refine RunD_nil ?_)
    | (refine PreD_nil ?_; refine hK _ _ ?_; clear hK K)
    | (refine WD_skip ?_)
    | (refine WD_exit ?_)
    | (refine WD_ret ?_)
    | (refine hK.1 _ _ ?_; clear hK K)
    | (refine hK.2.1 _ _ ?_; clear hK K)
    | (refine hK.2 _ _ _ ?hne ?_; (case hne => simp; done); clear hK K)
    | (refine hK.2.2 _ _ _ ?hne ?_; (case hne => simp; done); clear hK K))
  first | refine WD_heap fun h3 q_h3 => ?_ | refine RunD_heap fun h3 q_h3 => ?_ | refine PreD_heap fun h3 q_h3 => ?_ | refine Done_heap fun h3 q_h3 => ?_
  have hbw0 : Adds h2 h3 := by rw [q_h3]; exact (by repeat (first | exact keep_self _ | exact adds_self _ | assumption | exact Adds.keeps (by assumption) | refine keeps_alloc ?_ _ | refine adds_alloc ?_ _ _ _ | refine adds_allocM ?_ _ | (refine keeps_put ?_ ?hle _; (case hle => first | omega | (simp; done) | (simp; omega))) | (refine adds_put ?_ ?hle _ _ _; (case hle => first | omega | (simp; done) | (simp; omega)))))
  have n3 := hbw0.1.1
  have K3 := K2.trans hbw0.1
  have gb0 : h3.get h.next = .cells [.int .i64 N, b] true true 1 := by rw [hbw0.1.2 _ (by omega)]; exact gb0
  have his0 := his0.keep hbw0.1
  have huw0 := huw0.keep hbw0.1
  have m3 : h3.next = h2.next + 1 := by simp [q_h3]
  have gw0 : h3.get h2.next = .cells [.int .i64 (leastRN N X), qw0] true true 1 := by simp [q_h3]
  repeat (first
    | (refine WD_block (fun K hK => ?_))
    | (refine WD_seq (fun K hK => ?_))
    | (refine WD_region (fun K hK => ?_))
    | ((first | refine RunD_o rfl rfl rfl rfl rfl (fun X hX => ?_) | refine RunD_s rfl rfl rfl rfl (fun X hX => ?_) | refine RunD_g rfl rfl rfl rfl rfl rfl rfl (fun X Y hX hY => ?_) | refine RunD_gc rfl rfl rfl rfl rfl rfl (fun Y hY => ?_) | refine PreD_o rfl rfl rfl rfl rfl (fun X hX => ?_) | refine PreD_g rfl rfl rfl rfl rfl rfl rfl (fun X Y hX hY => ?_) | refine PreD_gc rfl rfl rfl rfl rfl rfl (fun Y hY => ?_) | refine WD_c rfl (fun X Y hX hY => ?_)); (try dsimp only); simp (disch := first | omega | (simp; done) | fail) [wrap64c, if_pos, if_neg, gb0, cz0, ntqw0, csqw0, gw0]; (first | (refine hX _ _ ?hadd ?_; (case hadd => simp; done)) | refine hX _ _ ?_ | refine hX ?_ | refine hY ?_); (try clear hX X); try clear hY Y)
    | (refine RunD_nil ?_; refine hK _ _ ?_; clear hK K)
    | (refine RunD_nil ?_)
    | (refine PreD_nil ?_; refine hK _ _ ?_; clear hK K)
    | (refine WD_skip ?_)
    | (refine WD_exit ?_)
    | (refine WD_ret ?_)
    | (refine hK.1 _ _ ?_; clear hK K)
    | (refine hK.2.1 _ _ ?_; clear hK K)
    | (refine hK.2 _ _ _ ?hne ?_; (case hne => simp; done); clear hK K)
    | (refine hK.2.2 _ _ _ ?hne ?_; (case hne => simp; done); clear hK K))
  obtain ⟨tx0, h4, hcx0, hax0, hix0⟩ := toSpace_ok h3 _ N X (hv0.keep K3) l1X
  have hix0' := hix0
  obtain ⟨qx0, rfl, hqx0⟩ := hix0'
  have ntqx0 := hqx0.nt
  have csqx0 := hqx0.cs
  refine RunD_c rfl rfl rfl rfl (by simp) (by simp) ?ha (hcx0) ?_
  (case ha => simp (disch := first | omega | (simp; done) | fail) [wrap64c, if_pos, if_neg, gb0, cz0, ntqw0, csqw0, gw0, ntqx0, csqx0])
  have n4 := hax0.1.1
  have K4 := K3.trans hax0.1
  have gb0 : h4.get h.next = .cells [.int .i64 N, b] true true 1 := by rw [hax0.1.2 _ (by omega)]; exact gb0
  have gw0 : h4.get h2.next = .cells [.int .i64 (leastRN N X), qw0] true true 1 := by rw [hax0.1.2 _ (by omega)]; exact gw0
  have his0 := his0.keep hax0.1
  have huw0 := huw0.keep hax0.1
  repeat (first
    | (refine WD_block (fun K hK => ?_))
    | (refine WD_seq (fun K hK => ?_))
    | (refine WD_region (fun K hK => ?_))
    | ((first | refine RunD_o rfl rfl rfl rfl rfl (fun X hX => ?_) | refine RunD_s rfl rfl rfl rfl (fun X hX => ?_) | refine RunD_g rfl rfl rfl rfl rfl rfl rfl (fun X Y hX hY => ?_) | refine RunD_gc rfl rfl rfl rfl rfl rfl (fun Y hY => ?_) | refine PreD_o rfl rfl rfl rfl rfl (fun X hX => ?_) | refine PreD_g rfl rfl rfl rfl rfl rfl rfl (fun X Y hX hY => ?_) | refine PreD_gc rfl rfl rfl rfl rfl rfl (fun Y hY => ?_) | refine WD_c rfl (fun X Y hX hY => ?_)); (try dsimp only); simp (disch := first | omega | (simp; done) | fail) [wrap64c, if_pos, if_neg, gb0, cz0, ntqw0, csqw0, gw0, ntqx0, csqx0, putCells]; (first | (refine hX _ _ ?hadd ?_; (case hadd => simp; done)) | refine hX _ _ ?_ | refine hX ?_ | refine hY ?_); (try clear hX X); try clear hY Y)
    | (refine RunD_nil ?_; refine hK _ _ ?_; clear hK K)
    | (refine RunD_nil ?_)
    | (refine PreD_nil ?_; refine hK _ _ ?_; clear hK K)
    | (refine WD_skip ?_)
    | (refine WD_exit ?_)
    | (refine WD_ret ?_)
    | (refine hK.1 _ _ ?_; clear hK K)
    | (refine hK.2.1 _ _ ?_; clear hK K)
    | (refine hK.2 _ _ _ ?hne ?_; (case hne => simp; done); clear hK K)
    | (refine hK.2.2 _ _ _ ?hne ?_; (case hne => simp; done); clear hK K))
  first | refine WD_heap fun h5 q_h5 => ?_ | refine RunD_heap fun h5 q_h5 => ?_ | refine PreD_heap fun h5 q_h5 => ?_ | refine Done_heap fun h5 q_h5 => ?_
  have hbx0 : Adds h4 h5 := by rw [q_h5]; exact (by repeat (first | exact keep_self _ | exact adds_self _ | assumption | exact Adds.keeps (by assumption) | refine keeps_alloc ?_ _ | refine adds_alloc ?_ _ _ _ | refine adds_allocM ?_ _ | (refine keeps_put ?_ ?hle _; (case hle => first | omega | (simp; done) | (simp; omega))) | (refine adds_put ?_ ?hle _ _ _; (case hle => first | omega | (simp; done) | (simp; omega)))))
  have n5 := hbx0.1.1
  have K5 := K4.trans hbx0.1
  have gb0 : h5.get h.next = .cells [.int .i64 N, b] true true 1 := by rw [hbx0.1.2 _ (by omega)]; exact gb0
  have gw0 : h5.get h2.next = .cells [.int .i64 (leastRN N X), qw0] true true 1 := by rw [hbx0.1.2 _ (by omega)]; exact gw0
  have his0 := his0.keep hbx0.1
  have huw0 := huw0.keep hbx0.1
  have hix0 := hix0.keep hbx0.1
  have m5 : h5.next = h4.next + 1 := by simp [q_h5]
  have gx0 : h5.get h4.next = .cells [.int .i64 (N), qx0] true true 1 := by simp [q_h5]
  repeat (first
    | (refine WD_block (fun K hK => ?_))
    | (refine WD_seq (fun K hK => ?_))
    | (refine WD_region (fun K hK => ?_))
    | ((first | refine RunD_o rfl rfl rfl rfl rfl (fun X hX => ?_) | refine RunD_s rfl rfl rfl rfl (fun X hX => ?_) | refine RunD_g rfl rfl rfl rfl rfl rfl rfl (fun X Y hX hY => ?_) | refine RunD_gc rfl rfl rfl rfl rfl rfl (fun Y hY => ?_) | refine PreD_o rfl rfl rfl rfl rfl (fun X hX => ?_) | refine PreD_g rfl rfl rfl rfl rfl rfl rfl (fun X Y hX hY => ?_) | refine PreD_gc rfl rfl rfl rfl rfl rfl (fun Y hY => ?_) | refine WD_c rfl (fun X Y hX hY => ?_)); (try dsimp only); simp (disch := first | omega | (simp; done) | fail) [wrap64c, if_pos, if_neg, gb0, cz0, ntqw0, csqw0, gw0, ntqx0, csqx0, gx0]; (first | (refine hX _ _ ?hadd ?_; (case hadd => simp; done)) | refine hX _ _ ?_ | refine hX ?_ | refine hY ?_); (try clear hX X); try clear hY Y)
    | (refine RunD_nil ?_; refine hK _ _ ?_; clear hK K)
    | (refine RunD_nil ?_)
    | (refine PreD_nil ?_; refine hK _ _ ?_; clear hK K)
    | (refine WD_skip ?_)
    | (refine WD_exit ?_)
    | (refine WD_ret ?_)
    | (refine hK.1 _ _ ?_; clear hK K)
    | (refine hK.2.1 _ _ ?_; clear hK K)
    | (refine hK.2 _ _ _ ?hne ?_; (case hne => simp; done); clear hK K)
    | (refine hK.2.2 _ _ _ ?hne ?_; (case hne => simp; done); clear hK K))
  obtain ⟨_, h6, hcg, hag, ug0, rfl, hug0⟩ := implLeast_ok h5 _ N X hix0.space l1X
  have hug0' := hug0
  obtain ⟨qg0, rfl, hqg0⟩ := hug0'
  have ntqg0 := hqg0.nt
  have csqg0 := hqg0.cs
  refine RunD_c rfl rfl rfl rfl (by simp) (by simp) ?ha (hcg) ?_
  (case ha => simp (disch := first | omega | (simp; done) | fail) [wrap64c, if_pos, if_neg, gb0, cz0, ntqw0, csqw0, gw0, ntqx0, csqx0, gx0, ntqg0, csqg0])
  have n6 := hag.1.1
  have K6 := K5.trans hag.1
  have gb0 : h6.get h.next = .cells [.int .i64 N, b] true true 1 := by rw [hag.1.2 _ (by omega)]; exact gb0
  have gw0 : h6.get h2.next = .cells [.int .i64 (leastRN N X), qw0] true true 1 := by rw [hag.1.2 _ (by omega)]; exact gw0
  have gx0 : h6.get h4.next = .cells [.int .i64 (N), qx0] true true 1 := by rw [hag.1.2 _ (by omega)]; exact gx0
  have his0 := his0.keep hag.1
  have huw0 := huw0.keep hag.1
  have hix0 := hix0.keep hag.1
  repeat (first
    | (refine WD_block (fun K hK => ?_))
    | (refine WD_seq (fun K hK => ?_))
    | (refine WD_region (fun K hK => ?_))
    | ((first | refine RunD_o rfl rfl rfl rfl rfl (fun X hX => ?_) | refine RunD_s rfl rfl rfl rfl (fun X hX => ?_) | refine RunD_g rfl rfl rfl rfl rfl rfl rfl (fun X Y hX hY => ?_) | refine RunD_gc rfl rfl rfl rfl rfl rfl (fun Y hY => ?_) | refine PreD_o rfl rfl rfl rfl rfl (fun X hX => ?_) | refine PreD_g rfl rfl rfl rfl rfl rfl rfl (fun X Y hX hY => ?_) | refine PreD_gc rfl rfl rfl rfl rfl rfl (fun Y hY => ?_) | refine WD_c rfl (fun X Y hX hY => ?_)); (try dsimp only); simp (disch := first | omega | (simp; done) | fail) [wrap64c, if_pos, if_neg, gb0, cz0, ntqw0, csqw0, gw0, ntqx0, csqx0, gx0, ntqg0, csqg0, putCells]; (first | (refine hX _ _ ?hadd ?_; (case hadd => simp; done)) | refine hX _ _ ?_ | refine hX ?_ | refine hY ?_); (try clear hX X); try clear hY Y)
    | (refine RunD_nil ?_; refine hK _ _ ?_; clear hK K)
    | (refine RunD_nil ?_)
    | (refine PreD_nil ?_; refine hK _ _ ?_; clear hK K)
    | (refine WD_skip ?_)
    | (refine WD_exit ?_)
    | (refine WD_ret ?_)
    | (refine hK.1 _ _ ?_; clear hK K)
    | (refine hK.2.1 _ _ ?_; clear hK K)
    | (refine hK.2 _ _ _ ?hne ?_; (case hne => simp; done); clear hK K)
    | (refine hK.2.2 _ _ _ ?hne ?_; (case hne => simp; done); clear hK K))
  first | refine WD_heap fun h7 q_h7 => ?_ | refine RunD_heap fun h7 q_h7 => ?_ | refine PreD_heap fun h7 q_h7 => ?_ | refine Done_heap fun h7 q_h7 => ?_
  have hbg0 : Adds h6 h7 := by rw [q_h7]; exact (by repeat (first | exact keep_self _ | exact adds_self _ | assumption | exact Adds.keeps (by assumption) | refine keeps_alloc ?_ _ | refine adds_alloc ?_ _ _ _ | refine adds_allocM ?_ _ | (refine keeps_put ?_ ?hle _; (case hle => first | omega | (simp; done) | (simp; omega))) | (refine adds_put ?_ ?hle _ _ _; (case hle => first | omega | (simp; done) | (simp; omega)))))
  have n7 := hbg0.1.1
  have K7 := K6.trans hbg0.1
  have gb0 : h7.get h.next = .cells [.int .i64 N, b] true true 1 := by rw [hbg0.1.2 _ (by omega)]; exact gb0
  have gw0 : h7.get h2.next = .cells [.int .i64 (leastRN N X), qw0] true true 1 := by rw [hbg0.1.2 _ (by omega)]; exact gw0
  have gx0 : h7.get h4.next = .cells [.int .i64 (N), qx0] true true 1 := by rw [hbg0.1.2 _ (by omega)]; exact gx0
  have his0 := his0.keep hbg0.1
  have huw0 := huw0.keep hbg0.1
  have hix0 := hix0.keep hbg0.1
  have hug0 := hug0.keep hbg0.1
  have m7 : h7.next = h6.next + 1 := by simp [q_h7]
  have gg0 : h7.get h6.next = .cells [.int .i64 (leastRN N X), qg0] true true 1 := by simp [q_h7]
  repeat (first
    | (refine WD_block (fun K hK => ?_))
    | (refine WD_seq (fun K hK => ?_))
    | (refine WD_region (fun K hK => ?_))
    | ((first | refine RunD_o rfl rfl rfl rfl rfl (fun X hX => ?_) | refine RunD_s rfl rfl rfl rfl (fun X hX => ?_) | refine RunD_g rfl rfl rfl rfl rfl rfl rfl (fun X Y hX hY => ?_) | refine RunD_gc rfl rfl rfl rfl rfl rfl (fun Y hY => ?_) | refine PreD_o rfl rfl rfl rfl rfl (fun X hX => ?_) | refine PreD_g rfl rfl rfl rfl rfl rfl rfl (fun X Y hX hY => ?_) | refine PreD_gc rfl rfl rfl rfl rfl rfl (fun Y hY => ?_) | refine WD_c rfl (fun X Y hX hY => ?_)); (try dsimp only); simp (disch := first | omega | (simp; done) | fail) [wrap64c, if_pos, if_neg, gb0, cz0, ntqw0, csqw0, gw0, ntqx0, csqx0, gx0, ntqg0, csqg0, gg0]; (first | (refine hX _ _ ?hadd ?_; (case hadd => simp; done)) | refine hX _ _ ?_ | refine hX ?_ | refine hY ?_); (try clear hX X); try clear hY Y)
    | (refine RunD_nil ?_; refine hK _ _ ?_; clear hK K)
    | (refine RunD_nil ?_)
    | (refine PreD_nil ?_; refine hK _ _ ?_; clear hK K)
    | (refine WD_skip ?_)
    | (refine WD_exit ?_)
    | (refine WD_ret ?_)
    | (refine hK.1 _ _ ?_; clear hK K)
    | (refine hK.2.1 _ _ ?_; clear hK K)
    | (refine hK.2 _ _ _ ?hne ?_; (case hne => simp; done); clear hK K)
    | (refine hK.2.2 _ _ _ ?hne ?_; (case hne => simp; done); clear hK K))
  refine RunD_c rfl rfl rfl rfl (by simp) (by simp) ?ha (eqSpace_ok h7 _ _ _ _ _ _ (hug0.space) (huw0.space)) ?_
  (case ha => simp (disch := first | omega | (simp; done) | fail) [wrap64c, if_pos, if_neg, gb0, cz0, ntqw0, csqw0, gw0, ntqx0, csqx0, gx0, ntqg0, csqg0, gg0])
  repeat (first
    | (refine WD_block (fun K hK => ?_))
    | (refine WD_seq (fun K hK => ?_))
    | (refine WD_region (fun K hK => ?_))
    | ((first | refine RunD_o rfl rfl rfl rfl rfl (fun X hX => ?_) | refine RunD_s rfl rfl rfl rfl (fun X hX => ?_) | refine RunD_g rfl rfl rfl rfl rfl rfl rfl (fun X Y hX hY => ?_) | refine RunD_gc rfl rfl rfl rfl rfl rfl (fun Y hY => ?_) | refine PreD_o rfl rfl rfl rfl rfl (fun X hX => ?_) | refine PreD_g rfl rfl rfl rfl rfl rfl rfl (fun X Y hX hY => ?_) | refine PreD_gc rfl rfl rfl rfl rfl rfl (fun Y hY => ?_) | refine WD_c rfl (fun X Y hX hY => ?_)); (try dsimp only); simp (disch := first | omega | (simp; done) | fail) [wrap64c, if_pos, if_neg, gb0, cz0, ntqw0, csqw0, gw0, ntqx0, csqx0, gx0, ntqg0, csqg0, gg0]; (first | (refine hX _ _ ?hadd ?_; (case hadd => simp; done)) | refine hX _ _ ?_ | refine hX ?_ | refine hY ?_); (try clear hX X); try clear hY Y)
    | (refine RunD_nil ?_; refine hK _ _ ?_; clear hK K)
    | (refine RunD_nil ?_)
    | (refine PreD_nil ?_; refine hK _ _ ?_; clear hK K)
    | (refine WD_skip ?_)
    | (refine WD_exit ?_)
    | (refine WD_ret ?_)
    | (refine hK.1 _ _ ?_; clear hK K)
    | (refine hK.2.1 _ _ ?_; clear hK K)
    | (refine hK.2 _ _ _ ?hne ?_; (case hne => simp; done); clear hK K)
    | (refine hK.2.2 _ _ _ ?hne ?_; (case hne => simp; done); clear hK K))
  refine WD_draw 3 rfl (by kernel_rfl) (fun K hK => ?_)
  repeat (first
    | (refine WD_block (fun K hK => ?_))
    | (refine WD_seq (fun K hK => ?_))
    | (refine WD_region (fun K hK => ?_))
    | ((first | refine RunD_o rfl rfl rfl rfl rfl (fun X hX => ?_) | refine RunD_s rfl rfl rfl rfl (fun X hX => ?_) | refine RunD_g rfl rfl rfl rfl rfl rfl rfl (fun X Y hX hY => ?_) | refine RunD_gc rfl rfl rfl rfl rfl rfl (fun Y hY => ?_) | refine PreD_o rfl rfl rfl rfl rfl (fun X hX => ?_) | refine PreD_g rfl rfl rfl rfl rfl rfl rfl (fun X Y hX hY => ?_) | refine PreD_gc rfl rfl rfl rfl rfl rfl (fun Y hY => ?_) | refine WD_c rfl (fun X Y hX hY => ?_)); (try dsimp only); simp (disch := first | omega | (simp; done) | fail) [wrap64c, if_pos, if_neg, gb0, cz0, ntqw0, csqw0, gw0, ntqx0, csqx0, gx0, ntqg0, csqg0, gg0]; (first | (refine hX _ _ ?hadd ?_; (case hadd => simp; done)) | refine hX _ _ ?_ | refine hX ?_ | refine hY ?_); (try clear hX X); try clear hY Y)
    | (refine RunD_nil ?_; refine hK _ _ ?_; clear hK K)
    | (refine RunD_nil ?_)
    | (refine PreD_nil ?_; refine hK _ _ ?_; clear hK K)
    | (refine WD_skip ?_)
    | (refine WD_exit ?_)
    | (refine WD_ret ?_)
    | (refine hK.1 _ _ ?_; clear hK K)
    | (refine hK.2.1 _ _ ?_; clear hK K)
    | (refine hK.2 _ _ _ ?hne ?_; (case hne => simp; done); clear hK K)
    | (refine hK.2.2 _ _ _ ?hne ?_; (case hne => simp; done); clear hK K))
  obtain ⟨ty0, h8, hcy0, hay0, hiy0⟩ := toSpace_ok h7 _ N X (hv0.keep K7) l1X
  refine PreD_c rfl rfl rfl rfl (by simp) (by simp) ?ha (hcy0) ?hadd ?_
  (case ha => simp (disch := first | omega | (simp; done) | fail) [wrap64c, if_pos, if_neg, gb0, cz0, ntqw0, csqw0, gw0, ntqx0, csqx0, gx0, ntqg0, csqg0, gg0])
  (case hadd => first | assumption | exact adds_self _ | (simp; done))
  have n8 := hay0.1.1
  have K8 := K7.trans hay0.1
  have gb0 : h8.get h.next = .cells [.int .i64 N, b] true true 1 := by rw [hay0.1.2 _ (by omega)]; exact gb0
  have gw0 : h8.get h2.next = .cells [.int .i64 (leastRN N X), qw0] true true 1 := by rw [hay0.1.2 _ (by omega)]; exact gw0
  have gx0 : h8.get h4.next = .cells [.int .i64 (N), qx0] true true 1 := by rw [hay0.1.2 _ (by omega)]; exact gx0
  have gg0 : h8.get h6.next = .cells [.int .i64 (leastRN N X), qg0] true true 1 := by rw [hay0.1.2 _ (by omega)]; exact gg0
  have his0 := his0.keep hay0.1
  have huw0 := huw0.keep hay0.1
  have hix0 := hix0.keep hay0.1
  have hug0 := hug0.keep hay0.1
  repeat (first
    | (refine WD_block (fun K hK => ?_))
    | (refine WD_seq (fun K hK => ?_))
    | (refine WD_region (fun K hK => ?_))
    | ((first | refine RunD_o rfl rfl rfl rfl rfl (fun X hX => ?_) | refine RunD_s rfl rfl rfl rfl (fun X hX => ?_) | refine RunD_g rfl rfl rfl rfl rfl rfl rfl (fun X Y hX hY => ?_) | refine RunD_gc rfl rfl rfl rfl rfl rfl (fun Y hY => ?_) | refine PreD_o rfl rfl rfl rfl rfl (fun X hX => ?_) | refine PreD_g rfl rfl rfl rfl rfl rfl rfl (fun X Y hX hY => ?_) | refine PreD_gc rfl rfl rfl rfl rfl rfl (fun Y hY => ?_) | refine WD_c rfl (fun X Y hX hY => ?_)); (try dsimp only); simp (disch := first | omega | (simp; done) | fail) [wrap64c, if_pos, if_neg, gb0, cz0, ntqw0, csqw0, gw0, ntqx0, csqx0, gx0, ntqg0, csqg0, gg0]; (first | (refine hX _ _ ?hadd ?_; (case hadd => simp; done)) | refine hX _ _ ?_ | refine hX ?_ | refine hY ?_); (try clear hX X); try clear hY Y)
    | (refine RunD_nil ?_; refine hK _ _ ?_; clear hK K)
    | (refine RunD_nil ?_)
    | (refine PreD_nil ?_; refine hK _ _ ?_; clear hK K)
    | (refine WD_skip ?_)
    | (refine WD_exit ?_)
    | (refine WD_ret ?_)
    | (refine hK.1 _ _ ?_; clear hK K)
    | (refine hK.2.1 _ _ ?_; clear hK K)
    | (refine hK.2 _ _ _ ?hne ?_; (case hne => simp; done); clear hK K)
    | (refine hK.2.2 _ _ _ ?hne ?_; (case hne => simp; done); clear hK K))
  refine RunD_c rfl rfl rfl rfl (by simp) (by simp) ?ha (eqSpace_ok h8 _ _ _ _ _ _ hix0.space hiy0.space) ?_
  (case ha => simp (disch := first | omega | (simp; done) | fail) [wrap64c, if_pos, if_neg, gb0, cz0, ntqw0, csqw0, gw0, ntqx0, csqx0, gx0, ntqg0, csqg0, gg0])
  repeat (first
    | (refine WD_block (fun K hK => ?_))
    | (refine WD_seq (fun K hK => ?_))
    | (refine WD_region (fun K hK => ?_))
    | ((first | refine RunD_o rfl rfl rfl rfl rfl (fun X hX => ?_) | refine RunD_s rfl rfl rfl rfl (fun X hX => ?_) | refine RunD_g rfl rfl rfl rfl rfl rfl rfl (fun X Y hX hY => ?_) | refine RunD_gc rfl rfl rfl rfl rfl rfl (fun Y hY => ?_) | refine PreD_o rfl rfl rfl rfl rfl (fun X hX => ?_) | refine PreD_g rfl rfl rfl rfl rfl rfl rfl (fun X Y hX hY => ?_) | refine PreD_gc rfl rfl rfl rfl rfl rfl (fun Y hY => ?_) | refine WD_c rfl (fun X Y hX hY => ?_)); (try dsimp only); simp (disch := first | omega | (simp; done) | fail) [wrap64c, if_pos, if_neg, gb0, cz0, ntqw0, csqw0, gw0, ntqx0, csqx0, gx0, ntqg0, csqg0, gg0]; (first | (refine hX _ _ ?hadd ?_; (case hadd => simp; done)) | refine hX _ _ ?_ | refine hX ?_ | refine hY ?_); (try clear hX X); try clear hY Y)
    | (refine RunD_nil ?_; refine hK _ _ ?_; clear hK K)
    | (refine RunD_nil ?_)
    | (refine PreD_nil ?_; refine hK _ _ ?_; clear hK K)
    | (refine WD_skip ?_)
    | (refine WD_exit ?_)
    | (refine WD_ret ?_)
    | (refine hK.1 _ _ ?_; clear hK K)
    | (refine hK.2.1 _ _ ?_; clear hK K)
    | (refine hK.2 _ _ _ ?hne ?_; (case hne => simp; done); clear hK K)
    | (refine hK.2.2 _ _ _ ?hne ?_; (case hne => simp; done); clear hK K))
  obtain ⟨_, h9, hcm0, rfl, hum0, him0⟩ := markSpace_ok (Btw h3.next h4.next) h8 _ N X (1) hix0 (by omega) (by omega) (by omega)
  refine RunD_c rfl rfl rfl rfl (by simp) (by simp) ?ha (hcm0) ?_
  (case ha => simp (disch := first | omega | (simp; done) | fail) [wrap64c, if_pos, if_neg, gb0, cz0, ntqw0, csqw0, gw0, ntqx0, csqx0, gx0, ntqg0, csqg0, gg0])
  have n9 := hum0.1
  have K9 := hum0.keeps K8 fun o ho => by have := ho.1; omega
  have gb0 : h9.get h.next = .cells [.int .i64 N, b] true true 1 := by rw [hum0.2 _ (by omega) (by unfold Btw; omega)]; exact gb0
  have gw0 : h9.get h2.next = .cells [.int .i64 (leastRN N X), qw0] true true 1 := by rw [hum0.2 _ (by omega) (by unfold Btw; omega)]; exact gw0
  have gx0 : h9.get h4.next = .cells [.int .i64 (N), qx0] true true 1 := by rw [hum0.2 _ (by omega) (by unfold Btw; omega)]; exact gx0
  have gg0 : h9.get h6.next = .cells [.int .i64 (leastRN N X), qg0] true true 1 := by rw [hum0.2 _ (by omega) (by unfold Btw; omega)]; exact gg0
  have his0 := his0.same (hum0.same fun x hx hx' => by unfold Btw at hx hx'; omega)
  have huw0 := huw0.same (hum0.same fun x hx hx' => by unfold Btw at hx hx'; omega)
  have hug0 := hug0.same (hum0.same fun x hx hx' => by unfold Btw at hx hx'; omega)
  repeat (first
    | (refine WD_block (fun K hK => ?_))
    | (refine WD_seq (fun K hK => ?_))
    | (refine WD_region (fun K hK => ?_))
    | ((first | refine RunD_o rfl rfl rfl rfl rfl (fun X hX => ?_) | refine RunD_s rfl rfl rfl rfl (fun X hX => ?_) | refine RunD_g rfl rfl rfl rfl rfl rfl rfl (fun X Y hX hY => ?_) | refine RunD_gc rfl rfl rfl rfl rfl rfl (fun Y hY => ?_) | refine PreD_o rfl rfl rfl rfl rfl (fun X hX => ?_) | refine PreD_g rfl rfl rfl rfl rfl rfl rfl (fun X Y hX hY => ?_) | refine PreD_gc rfl rfl rfl rfl rfl rfl (fun Y hY => ?_) | refine WD_c rfl (fun X Y hX hY => ?_)); (try dsimp only); simp (disch := first | omega | (simp; done) | fail) [wrap64c, if_pos, if_neg, gb0, cz0, ntqw0, csqw0, gw0, ntqx0, csqx0, gx0, ntqg0, csqg0, gg0]; (first | (refine hX _ _ ?hadd ?_; (case hadd => simp; done)) | refine hX _ _ ?_ | refine hX ?_ | refine hY ?_); (try clear hX X); try clear hY Y)
    | (refine RunD_nil ?_; refine hK _ _ ?_; clear hK K)
    | (refine RunD_nil ?_)
    | (refine PreD_nil ?_; refine hK _ _ ?_; clear hK K)
    | (refine WD_skip ?_)
    | (refine WD_exit ?_)
    | (refine WD_ret ?_)
    | (refine hK.1 _ _ ?_; clear hK K)
    | (refine hK.2.1 _ _ ?_; clear hK K)
    | (refine hK.2 _ _ _ ?hne ?_; (case hne => simp; done); clear hK K)
    | (refine hK.2.2 _ _ _ ?hne ?_; (case hne => simp; done); clear hK K))
  have pk : ¬ (1 + (X.length : Int) : Int) < 0 := by omega
  repeat (first
    | (refine WD_block (fun K hK => ?_))
    | (refine WD_seq (fun K hK => ?_))
    | (refine WD_region (fun K hK => ?_))
    | ((first | refine RunD_o rfl rfl rfl rfl rfl (fun X hX => ?_) | refine RunD_s rfl rfl rfl rfl (fun X hX => ?_) | refine RunD_g rfl rfl rfl rfl rfl rfl rfl (fun X Y hX hY => ?_) | refine RunD_gc rfl rfl rfl rfl rfl rfl (fun Y hY => ?_) | refine PreD_o rfl rfl rfl rfl rfl (fun X hX => ?_) | refine PreD_g rfl rfl rfl rfl rfl rfl rfl (fun X Y hX hY => ?_) | refine PreD_gc rfl rfl rfl rfl rfl rfl (fun Y hY => ?_) | refine WD_c rfl (fun X Y hX hY => ?_)); (try dsimp only); simp (disch := first | omega | (simp; done) | fail) [wrap64c, if_pos, if_neg, gb0, cz0, ntqw0, csqw0, gw0, ntqx0, csqx0, gx0, ntqg0, csqg0, gg0, pk]; (first | (refine hX _ _ ?hadd ?_; (case hadd => simp; done)) | refine hX _ _ ?_ | refine hX ?_ | refine hY ?_); (try clear hX X); try clear hY Y)
    | (refine RunD_nil ?_; refine hK _ _ ?_; clear hK K)
    | (refine RunD_nil ?_)
    | (refine PreD_nil ?_; refine hK _ _ ?_; clear hK K)
    | (refine WD_skip ?_)
    | (refine WD_exit ?_)
    | (refine WD_ret ?_)
    | (refine hK.1 _ _ ?_; clear hK K)
    | (refine hK.2.1 _ _ ?_; clear hK K)
    | (refine hK.2 _ _ _ ?hne ?_; (case hne => simp; done); clear hK K)
    | (refine hK.2.2 _ _ _ ?hne ?_; (case hne => simp; done); clear hK K))
  refine RunD_cT rfl rfl rfl rfl rfl rfl ?hb (by simp) (by simp) ?ha (eqSpace_ok h9 _ _ _ _ _ _ (hug0.space) (huw0.space)) ?_
  (case hb => simp (disch := first | omega | (simp; done) | fail) [wrap64c, if_pos, if_neg, gb0, cz0, ntqw0, csqw0, gw0, ntqx0, csqx0, gx0, ntqg0, csqg0, gg0, pk])
  (case ha => simp (disch := first | omega | (simp; done) | fail) [wrap64c, if_pos, if_neg, gb0, cz0, ntqw0, csqw0, gw0, ntqx0, csqx0, gx0, ntqg0, csqg0, gg0, pk])
  repeat (first
    | (refine WD_block (fun K hK => ?_))
    | (refine WD_seq (fun K hK => ?_))
    | (refine WD_region (fun K hK => ?_))
    | ((first | refine RunD_o rfl rfl rfl rfl rfl (fun X hX => ?_) | refine RunD_s rfl rfl rfl rfl (fun X hX => ?_) | refine RunD_g rfl rfl rfl rfl rfl rfl rfl (fun X Y hX hY => ?_) | refine RunD_gc rfl rfl rfl rfl rfl rfl (fun Y hY => ?_) | refine PreD_o rfl rfl rfl rfl rfl (fun X hX => ?_) | refine PreD_g rfl rfl rfl rfl rfl rfl rfl (fun X Y hX hY => ?_) | refine PreD_gc rfl rfl rfl rfl rfl rfl (fun Y hY => ?_) | refine WD_c rfl (fun X Y hX hY => ?_)); (try dsimp only); simp (disch := first | omega | (simp; done) | fail) [wrap64c, if_pos, if_neg, gb0, cz0, ntqw0, csqw0, gw0, ntqx0, csqx0, gx0, ntqg0, csqg0, gg0, pk]; (first | (refine hX _ _ ?hadd ?_; (case hadd => simp; done)) | refine hX _ _ ?_ | refine hX ?_ | refine hY ?_); (try clear hX X); try clear hY Y)
    | (refine RunD_nil ?_; refine hK _ _ ?_; clear hK K)
    | (refine RunD_nil ?_)
    | (refine PreD_nil ?_; refine hK _ _ ?_; clear hK K)
    | (refine WD_skip ?_)
    | (refine WD_exit ?_)
    | (refine WD_ret ?_)
    | (refine hK.1 _ _ ?_; clear hK K)
    | (refine hK.2.1 _ _ ?_; clear hK K)
    | (refine hK.2 _ _ _ ?hne ?_; (case hne => simp; done); clear hK K)
    | (refine hK.2.2 _ _ _ ?hne ?_; (case hne => simp; done); clear hK K))
  obtain ⟨_, h10, hcr0, rfl, hur0, hir0⟩ := markSpace_ok (Btw h5.next h6.next) h9 _ (leastRN N X) (leastRX N X) (1) hug0 (by omega) (by omega) (by omega)
  refine RunD_c rfl rfl rfl rfl (by simp) (by simp) ?ha (hcr0) ?_
  (case ha => simp (disch := first | omega | (simp; done) | fail) [wrap64c, if_pos, if_neg, gb0, cz0, ntqw0, csqw0, gw0, ntqx0, csqx0, gx0, ntqg0, csqg0, gg0, pk])
  have n10 := hur0.1
  have K10 := hur0.keeps K9 fun o ho => by have := ho.1; omega
  have gb0 : h10.get h.next = .cells [.int .i64 N, b] true true 1 := by rw [hur0.2 _ (by omega) (by unfold Btw; omega)]; exact gb0
  have gw0 : h10.get h2.next = .cells [.int .i64 (leastRN N X), qw0] true true 1 := by rw [hur0.2 _ (by omega) (by unfold Btw; omega)]; exact gw0
  have gx0 : h10.get h4.next = .cells [.int .i64 (N), qx0] true true 1 := by rw [hur0.2 _ (by omega) (by unfold Btw; omega)]; exact gx0
  have gg0 : h10.get h6.next = .cells [.int .i64 (leastRN N X), qg0] true true 1 := by rw [hur0.2 _ (by omega) (by unfold Btw; omega)]; exact gg0
  have his0 := his0.same (hur0.same fun x hx hx' => by unfold Btw at hx hx'; omega)
  have huw0 := huw0.same (hur0.same fun x hx hx' => by unfold Btw at hx hx'; omega)
  repeat (first
    | (refine WD_block (fun K hK => ?_))
    | (refine WD_seq (fun K hK => ?_))
    | (refine WD_region (fun K hK => ?_))
    | ((first | refine RunD_o rfl rfl rfl rfl rfl (fun X hX => ?_) | refine RunD_s rfl rfl rfl rfl (fun X hX => ?_) | refine RunD_g rfl rfl rfl rfl rfl rfl rfl (fun X Y hX hY => ?_) | refine RunD_gc rfl rfl rfl rfl rfl rfl (fun Y hY => ?_) | refine PreD_o rfl rfl rfl rfl rfl (fun X hX => ?_) | refine PreD_g rfl rfl rfl rfl rfl rfl rfl (fun X Y hX hY => ?_) | refine PreD_gc rfl rfl rfl rfl rfl rfl (fun Y hY => ?_) | refine WD_c rfl (fun X Y hX hY => ?_)); (try dsimp only); simp (disch := first | omega | (simp; done) | fail) [wrap64c, if_pos, if_neg, gb0, cz0, ntqw0, csqw0, gw0, ntqx0, csqx0, gx0, ntqg0, csqg0, gg0, pk]; (first | (refine hX _ _ ?hadd ?_; (case hadd => simp; done)) | refine hX _ _ ?_ | refine hX ?_ | refine hY ?_); (try clear hX X); try clear hY Y)
    | (refine RunD_nil ?_; refine hK _ _ ?_; clear hK K)
    | (refine RunD_nil ?_)
    | (refine PreD_nil ?_; refine hK _ _ ?_; clear hK K)
    | (refine WD_skip ?_)
    | (refine WD_exit ?_)
    | (refine WD_ret ?_)
    | (refine hK.1 _ _ ?_; clear hK K)
    | (refine hK.2.1 _ _ ?_; clear hK K)
    | (refine hK.2 _ _ _ ?hne ?_; (case hne => simp; done); clear hK K)
    | (refine hK.2.2 _ _ _ ?hne ?_; (case hne => simp; done); clear hK K))
  refine RunD_c rfl rfl rfl rfl (by simp) (by simp) ?ha (heldSpace_ok h10 _ (leastRN N X) (leastRX N X).length (1) hir0.space (by omega) (by omega) (by omega)) ?_
  (case ha => simp (disch := first | omega | (simp; done) | fail) [wrap64c, if_pos, if_neg, gb0, cz0, ntqw0, csqw0, gw0, ntqx0, csqx0, gx0, ntqg0, csqg0, gg0, pk])
  have zz10 : ¬ (1 + ((leastRX N X).length : Int) : Int) < 0 := by omega
  repeat (first
    | (refine WD_block (fun K hK => ?_))
    | (refine WD_seq (fun K hK => ?_))
    | (refine WD_region (fun K hK => ?_))
    | ((first | refine RunD_o rfl rfl rfl rfl rfl (fun X hX => ?_) | refine RunD_s rfl rfl rfl rfl (fun X hX => ?_) | refine RunD_g rfl rfl rfl rfl rfl rfl rfl (fun X Y hX hY => ?_) | refine RunD_gc rfl rfl rfl rfl rfl rfl (fun Y hY => ?_) | refine PreD_o rfl rfl rfl rfl rfl (fun X hX => ?_) | refine PreD_g rfl rfl rfl rfl rfl rfl rfl (fun X Y hX hY => ?_) | refine PreD_gc rfl rfl rfl rfl rfl rfl (fun Y hY => ?_) | refine WD_c rfl (fun X Y hX hY => ?_)); (try dsimp only); simp (disch := first | omega | (simp; done) | fail) [wrap64c, if_pos, if_neg, gb0, cz0, ntqw0, csqw0, gw0, ntqx0, csqx0, gx0, ntqg0, csqg0, gg0, pk, zz10]; (first | (refine hX _ _ ?hadd ?_; (case hadd => simp; done)) | refine hX _ _ ?_ | refine hX ?_ | refine hY ?_); (try clear hX X); try clear hY Y)
    | (refine RunD_nil ?_; refine hK _ _ ?_; clear hK K)
    | (refine RunD_nil ?_)
    | (refine PreD_nil ?_; refine hK _ _ ?_; clear hK K)
    | (refine WD_skip ?_)
    | (refine WD_exit ?_)
    | (refine WD_ret ?_)
    | (refine hK.1 _ _ ?_; clear hK K)
    | (refine hK.2.1 _ _ ?_; clear hK K)
    | (refine hK.2 _ _ _ ?hne ?_; (case hne => simp; done); clear hK K)
    | (refine hK.2.2 _ _ _ ?hne ?_; (case hne => simp; done); clear hK K))
  obtain ⟨tz0, h11, hcz0, haz0, hiz0⟩ := toSpace_ok h10 _ N X (hv0.keep K10) l1X
  refine RunD_c rfl rfl rfl rfl (by simp) (by simp) ?ha (hcz0) ?_
  (case ha => simp (disch := first | omega | (simp; done) | fail) [wrap64c, if_pos, if_neg, gb0, cz0, ntqw0, csqw0, gw0, ntqx0, csqx0, gx0, ntqg0, csqg0, gg0, pk])
  have n11 := haz0.1.1
  have K11 := K10.trans haz0.1
  have gb0 : h11.get h.next = .cells [.int .i64 N, b] true true 1 := by rw [haz0.1.2 _ (by omega)]; exact gb0
  have gw0 : h11.get h2.next = .cells [.int .i64 (leastRN N X), qw0] true true 1 := by rw [haz0.1.2 _ (by omega)]; exact gw0
  have gx0 : h11.get h4.next = .cells [.int .i64 (N), qx0] true true 1 := by rw [haz0.1.2 _ (by omega)]; exact gx0
  have gg0 : h11.get h6.next = .cells [.int .i64 (leastRN N X), qg0] true true 1 := by rw [haz0.1.2 _ (by omega)]; exact gg0
  have his0 := his0.keep haz0.1
  have huw0 := huw0.keep haz0.1
  have hir0 := hir0.keep haz0.1
  repeat (first
    | (refine WD_block (fun K hK => ?_))
    | (refine WD_seq (fun K hK => ?_))
    | (refine WD_region (fun K hK => ?_))
    | ((first | refine RunD_o rfl rfl rfl rfl rfl (fun X hX => ?_) | refine RunD_s rfl rfl rfl rfl (fun X hX => ?_) | refine RunD_g rfl rfl rfl rfl rfl rfl rfl (fun X Y hX hY => ?_) | refine RunD_gc rfl rfl rfl rfl rfl rfl (fun Y hY => ?_) | refine PreD_o rfl rfl rfl rfl rfl (fun X hX => ?_) | refine PreD_g rfl rfl rfl rfl rfl rfl rfl (fun X Y hX hY => ?_) | refine PreD_gc rfl rfl rfl rfl rfl rfl (fun Y hY => ?_) | refine WD_c rfl (fun X Y hX hY => ?_)); (try dsimp only); simp (disch := first | omega | (simp; done) | fail) [wrap64c, if_pos, if_neg, gb0, cz0, ntqw0, csqw0, gw0, ntqx0, csqx0, gx0, ntqg0, csqg0, gg0, pk]; (first | (refine hX _ _ ?hadd ?_; (case hadd => simp; done)) | refine hX _ _ ?_ | refine hX ?_ | refine hY ?_); (try clear hX X); try clear hY Y)
    | (refine RunD_nil ?_; refine hK _ _ ?_; clear hK K)
    | (refine RunD_nil ?_)
    | (refine PreD_nil ?_; refine hK _ _ ?_; clear hK K)
    | (refine WD_skip ?_)
    | (refine WD_exit ?_)
    | (refine WD_ret ?_)
    | (refine hK.1 _ _ ?_; clear hK K)
    | (refine hK.2.1 _ _ ?_; clear hK K)
    | (refine hK.2 _ _ _ ?hne ?_; (case hne => simp; done); clear hK K)
    | (refine hK.2.2 _ _ _ ?hne ?_; (case hne => simp; done); clear hK K))
  obtain ⟨_, h12, hcq, haq, uq0, rfl, huq0⟩ := implLeast_ok h11 _ N X hiz0.space l1X
  have huq0' := huq0
  obtain ⟨qq0, rfl, hqq0⟩ := huq0'
  have ntqq0 := hqq0.nt
  have csqq0 := hqq0.cs
  refine RunD_c rfl rfl rfl rfl (by simp) (by simp) ?ha (hcq) ?_
  (case ha => simp (disch := first | omega | (simp; done) | fail) [wrap64c, if_pos, if_neg, gb0, cz0, ntqw0, csqw0, gw0, ntqx0, csqx0, gx0, ntqg0, csqg0, gg0, pk, ntqq0, csqq0])
  have n12 := haq.1.1
  have K12 := K11.trans haq.1
  have gb0 : h12.get h.next = .cells [.int .i64 N, b] true true 1 := by rw [haq.1.2 _ (by omega)]; exact gb0
  have gw0 : h12.get h2.next = .cells [.int .i64 (leastRN N X), qw0] true true 1 := by rw [haq.1.2 _ (by omega)]; exact gw0
  have gx0 : h12.get h4.next = .cells [.int .i64 (N), qx0] true true 1 := by rw [haq.1.2 _ (by omega)]; exact gx0
  have gg0 : h12.get h6.next = .cells [.int .i64 (leastRN N X), qg0] true true 1 := by rw [haq.1.2 _ (by omega)]; exact gg0
  have his0 := his0.keep haq.1
  have huw0 := huw0.keep haq.1
  have hir0 := hir0.keep haq.1
  have hiz0 := hiz0.keep haq.1
  repeat (first
    | (refine WD_block (fun K hK => ?_))
    | (refine WD_seq (fun K hK => ?_))
    | (refine WD_region (fun K hK => ?_))
    | ((first | refine RunD_o rfl rfl rfl rfl rfl (fun X hX => ?_) | refine RunD_s rfl rfl rfl rfl (fun X hX => ?_) | refine RunD_g rfl rfl rfl rfl rfl rfl rfl (fun X Y hX hY => ?_) | refine RunD_gc rfl rfl rfl rfl rfl rfl (fun Y hY => ?_) | refine PreD_o rfl rfl rfl rfl rfl (fun X hX => ?_) | refine PreD_g rfl rfl rfl rfl rfl rfl rfl (fun X Y hX hY => ?_) | refine PreD_gc rfl rfl rfl rfl rfl rfl (fun Y hY => ?_) | refine WD_c rfl (fun X Y hX hY => ?_)); (try dsimp only); simp (disch := first | omega | (simp; done) | fail) [wrap64c, if_pos, if_neg, gb0, cz0, ntqw0, csqw0, gw0, ntqx0, csqx0, gx0, ntqg0, csqg0, gg0, pk, ntqq0, csqq0, putCells]; (first | (refine hX _ _ ?hadd ?_; (case hadd => simp; done)) | refine hX _ _ ?_ | refine hX ?_ | refine hY ?_); (try clear hX X); try clear hY Y)
    | (refine RunD_nil ?_; refine hK _ _ ?_; clear hK K)
    | (refine RunD_nil ?_)
    | (refine PreD_nil ?_; refine hK _ _ ?_; clear hK K)
    | (refine WD_skip ?_)
    | (refine WD_exit ?_)
    | (refine WD_ret ?_)
    | (refine hK.1 _ _ ?_; clear hK K)
    | (refine hK.2.1 _ _ ?_; clear hK K)
    | (refine hK.2 _ _ _ ?hne ?_; (case hne => simp; done); clear hK K)
    | (refine hK.2.2 _ _ _ ?hne ?_; (case hne => simp; done); clear hK K))
  first | refine WD_heap fun h13 q_h13 => ?_ | refine RunD_heap fun h13 q_h13 => ?_ | refine PreD_heap fun h13 q_h13 => ?_ | refine Done_heap fun h13 q_h13 => ?_
  have hbq0 : Adds h12 h13 := by rw [q_h13]; exact (by repeat (first | exact keep_self _ | exact adds_self _ | assumption | exact Adds.keeps (by assumption) | refine keeps_alloc ?_ _ | refine adds_alloc ?_ _ _ _ | refine adds_allocM ?_ _ | (refine keeps_put ?_ ?hle _; (case hle => first | omega | (simp; done) | (simp; omega))) | (refine adds_put ?_ ?hle _ _ _; (case hle => first | omega | (simp; done) | (simp; omega)))))
  have n13 := hbq0.1.1
  have K13 := K12.trans hbq0.1
  have gb0 : h13.get h.next = .cells [.int .i64 N, b] true true 1 := by rw [hbq0.1.2 _ (by omega)]; exact gb0
  have gw0 : h13.get h2.next = .cells [.int .i64 (leastRN N X), qw0] true true 1 := by rw [hbq0.1.2 _ (by omega)]; exact gw0
  have gx0 : h13.get h4.next = .cells [.int .i64 (N), qx0] true true 1 := by rw [hbq0.1.2 _ (by omega)]; exact gx0
  have gg0 : h13.get h6.next = .cells [.int .i64 (leastRN N X), qg0] true true 1 := by rw [hbq0.1.2 _ (by omega)]; exact gg0
  have his0 := his0.keep hbq0.1
  have huw0 := huw0.keep hbq0.1
  have hir0 := hir0.keep hbq0.1
  have hiz0 := hiz0.keep hbq0.1
  have huq0 := huq0.keep hbq0.1
  have m13 : h13.next = h12.next + 1 := by simp [q_h13]
  have gq0 : h13.get h12.next = .cells [.int .i64 (leastRN N X), qq0] true true 1 := by simp [q_h13]
  repeat (first
    | (refine WD_block (fun K hK => ?_))
    | (refine WD_seq (fun K hK => ?_))
    | (refine WD_region (fun K hK => ?_))
    | ((first | refine RunD_o rfl rfl rfl rfl rfl (fun X hX => ?_) | refine RunD_s rfl rfl rfl rfl (fun X hX => ?_) | refine RunD_g rfl rfl rfl rfl rfl rfl rfl (fun X Y hX hY => ?_) | refine RunD_gc rfl rfl rfl rfl rfl rfl (fun Y hY => ?_) | refine PreD_o rfl rfl rfl rfl rfl (fun X hX => ?_) | refine PreD_g rfl rfl rfl rfl rfl rfl rfl (fun X Y hX hY => ?_) | refine PreD_gc rfl rfl rfl rfl rfl rfl (fun Y hY => ?_) | refine WD_c rfl (fun X Y hX hY => ?_)); (try dsimp only); simp (disch := first | omega | (simp; done) | fail) [wrap64c, if_pos, if_neg, gb0, cz0, ntqw0, csqw0, gw0, ntqx0, csqx0, gx0, ntqg0, csqg0, gg0, pk, ntqq0, csqq0, gq0]; (first | (refine hX _ _ ?hadd ?_; (case hadd => simp; done)) | refine hX _ _ ?_ | refine hX ?_ | refine hY ?_); (try clear hX X); try clear hY Y)
    | (refine RunD_nil ?_; refine hK _ _ ?_; clear hK K)
    | (refine RunD_nil ?_)
    | (refine PreD_nil ?_; refine hK _ _ ?_; clear hK K)
    | (refine WD_skip ?_)
    | (refine WD_exit ?_)
    | (refine WD_ret ?_)
    | (refine hK.1 _ _ ?_; clear hK K)
    | (refine hK.2.1 _ _ ?_; clear hK K)
    | (refine hK.2 _ _ _ ?hne ?_; (case hne => simp; done); clear hK K)
    | (refine hK.2.2 _ _ _ ?hne ?_; (case hne => simp; done); clear hK K))
  refine RunD_c rfl rfl rfl rfl (by simp) (by simp) ?ha (eqSpace_ok h13 _ _ _ _ _ _ (huq0.space) (huw0.space)) ?_
  (case ha => simp (disch := first | omega | (simp; done) | fail) [wrap64c, if_pos, if_neg, gb0, cz0, ntqw0, csqw0, gw0, ntqx0, csqx0, gx0, ntqg0, csqg0, gg0, pk, ntqq0, csqq0, gq0])
  repeat (first
    | (refine WD_block (fun K hK => ?_))
    | (refine WD_seq (fun K hK => ?_))
    | (refine WD_region (fun K hK => ?_))
    | ((first | refine RunD_o rfl rfl rfl rfl rfl (fun X hX => ?_) | refine RunD_s rfl rfl rfl rfl (fun X hX => ?_) | refine RunD_g rfl rfl rfl rfl rfl rfl rfl (fun X Y hX hY => ?_) | refine RunD_gc rfl rfl rfl rfl rfl rfl (fun Y hY => ?_) | refine PreD_o rfl rfl rfl rfl rfl (fun X hX => ?_) | refine PreD_g rfl rfl rfl rfl rfl rfl rfl (fun X Y hX hY => ?_) | refine PreD_gc rfl rfl rfl rfl rfl rfl (fun Y hY => ?_) | refine WD_c rfl (fun X Y hX hY => ?_)); (try dsimp only); simp (disch := first | omega | (simp; done) | fail) [wrap64c, if_pos, if_neg, gb0, cz0, ntqw0, csqw0, gw0, ntqx0, csqx0, gx0, ntqg0, csqg0, gg0, pk, ntqq0, csqq0, gq0]; (first | (refine hX _ _ ?hadd ?_; (case hadd => simp; done)) | refine hX _ _ ?_ | refine hX ?_ | refine hY ?_); (try clear hX X); try clear hY Y)
    | (refine RunD_nil ?_; refine hK _ _ ?_; clear hK K)
    | (refine RunD_nil ?_)
    | (refine PreD_nil ?_; refine hK _ _ ?_; clear hK K)
    | (refine WD_skip ?_)
    | (refine WD_exit ?_)
    | (refine WD_ret ?_)
    | (refine hK.1 _ _ ?_; clear hK K)
    | (refine hK.2.1 _ _ ?_; clear hK K)
    | (refine hK.2 _ _ _ ?hne ?_; (case hne => simp; done); clear hK K)
    | (refine hK.2.2 _ _ _ ?hne ?_; (case hne => simp; done); clear hK K))
  refine RunD_c rfl rfl rfl rfl (by simp) (by simp) ?ha (heldSpace_ok h13 _ (leastRN N X) (leastRX N X).length (1) hir0.space (by omega) (by omega) (by omega)) ?_
  (case ha => simp (disch := first | omega | (simp; done) | fail) [wrap64c, if_pos, if_neg, gb0, cz0, ntqw0, csqw0, gw0, ntqx0, csqx0, gx0, ntqg0, csqg0, gg0, pk, ntqq0, csqq0, gq0])
  have zz13 : ¬ (1 + ((leastRX N X).length : Int) : Int) < 0 := by omega
  repeat (first
    | (refine WD_block (fun K hK => ?_))
    | (refine WD_seq (fun K hK => ?_))
    | (refine WD_region (fun K hK => ?_))
    | ((first | refine RunD_o rfl rfl rfl rfl rfl (fun X hX => ?_) | refine RunD_s rfl rfl rfl rfl (fun X hX => ?_) | refine RunD_g rfl rfl rfl rfl rfl rfl rfl (fun X Y hX hY => ?_) | refine RunD_gc rfl rfl rfl rfl rfl rfl (fun Y hY => ?_) | refine PreD_o rfl rfl rfl rfl rfl (fun X hX => ?_) | refine PreD_g rfl rfl rfl rfl rfl rfl rfl (fun X Y hX hY => ?_) | refine PreD_gc rfl rfl rfl rfl rfl rfl (fun Y hY => ?_) | refine WD_c rfl (fun X Y hX hY => ?_)); (try dsimp only); simp (disch := first | omega | (simp; done) | fail) [wrap64c, if_pos, if_neg, gb0, cz0, ntqw0, csqw0, gw0, ntqx0, csqx0, gx0, ntqg0, csqg0, gg0, pk, ntqq0, csqq0, gq0, zz13]; (first | (refine hX _ _ ?hadd ?_; (case hadd => simp; done)) | refine hX _ _ ?_ | refine hX ?_ | refine hY ?_); (try clear hX X); try clear hY Y)
    | (refine RunD_nil ?_; refine hK _ _ ?_; clear hK K)
    | (refine RunD_nil ?_)
    | (refine PreD_nil ?_; refine hK _ _ ?_; clear hK K)
    | (refine WD_skip ?_)
    | (refine WD_exit ?_)
    | (refine WD_ret ?_)
    | (refine hK.1 _ _ ?_; clear hK K)
    | (refine hK.2.1 _ _ ?_; clear hK K)
    | (refine hK.2 _ _ _ ?hne ?_; (case hne => simp; done); clear hK K)
    | (refine hK.2.2 _ _ _ ?hne ?_; (case hne => simp; done); clear hK K))
  exact done_ret rfl (by simp [K13])
end Go.Proofs.Ytnjabaeajjhliaa
