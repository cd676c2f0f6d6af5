/- Numbers of items, sizes, random walks: by the reference and by the program. -/
import Derived.Test.YtnjabaeajjhliaaS5
import Derived.Test.YtnjabaeajjhliaaS6
namespace Go.Proofs.Ytnjabaeajjhliaa
set_option linter.unusedSimpArgs false
set_option linter.unusedVariables false
set_option maxHeartbeats 4000000
open Go Go.Eng
attribute [local irreducible] WD RunD PreD Runs CallOK

def on1 (x : Int) : Int := IntKind.wrap .u64 (bAnd .u64 (bShr .u64 x 1) 6148914691236517205 + bAnd .u64 x 6148914691236517205)
def on2 (x : Int) : Int := IntKind.wrap .u64 (bAnd .u64 (bShr .u64 x 2) 3689348814741910323 + bAnd .u64 x 3689348814741910323)
def on3 (x : Int) : Int := bAnd .u64 (IntKind.wrap .u64 (bShr .u64 x 4 + x)) 1085102592571150095
def on4 (x : Int) (k : Int) : Int := IntKind.wrap .u64 (x + bShr .u64 x k)
theorem onesD : ∀ a : Nat, a < 128 → bAnd .i64 (IntKind.wrap .i64 (on4 (on4 (on4 (on3 (on2 (on1 (a : Int)))) 8) 16) 32)) 127 = ((pcN a : Nat) : Int) := by decide +kernel
theorem wrapU (a : Nat) (ha : a < 128) : IntKind.wrap .u64 (a : Int) = a := by
  have e : IntKind.wrap .u64 (a : Int) = (a : Int) % 18446744073709551616 := rfl
  rw [e]; omega

/-- Where the first element lies for which something holds. -/
def idxI (p : Int → Bool) (xs : List Int) : Int := match xs.findIdx? p with
  | some i => i
  | none => -1
theorem idxI_at {p : Int → Bool} {xs : List Int} {j : Nat} (h1 : ∀ i (hi : i < xs.length), i < j → p xs[i] = false) (hj : j < xs.length) (hp : p xs[j] = true) : idxI p xs = j := by
  have : xs.findIdx? p = some j := by
    rw [List.findIdx?_eq_some_iff_getElem]
    exact ⟨hj, hp, fun i hi => by simpa using h1 i (by omega) hi⟩
  rw [idxI, this]
theorem idxI_none {p : Int → Bool} {xs : List Int} (h1 : ∀ i (hi : i < xs.length), p xs[i] = false) : idxI p xs = -1 := by
  have : xs.findIdx? p = none := by
    rw [List.findIdx?_eq_none_iff]
    intro x hx
    obtain ⟨i, hi, rfl⟩ := List.getElem_of_mem hx
    exact h1 i hi
  rw [idxI, this]
theorem idxI_any (p : Int → Bool) (xs : List Int) : decide (0 ≤ idxI p xs) = xs.any p := by
  unfold idxI
  cases h : xs.findIdx? p with
  | none =>
    rw [List.findIdx?_eq_none_iff] at h
    have : xs.any p = false := by rw [List.any_eq_false]; intro x hx; simp [h x hx]
    rw [this]; rfl
  | some i =>
    rw [List.findIdx?_eq_some_iff_getElem] at h
    obtain ⟨hi, hp, _⟩ := h
    have : xs.any p = true := by rw [List.any_eq_true]; exact ⟨_, List.getElem_mem hi, hp⟩
    rw [this]; simp
def chB (ch : List Int) (m : Int) : Bool := decide ((ch.length : Int) ≤ m) && !ch.any fun x => decide (x < 0)
theorem chB_pos {ch : List Int} {m : Int} (h : chB ch m = true) : ((ch.length : Int) ≤ m) ∧ ∀ x ∈ ch, 0 ≤ x := by
  unfold chB at h
  simp only [Bool.and_eq_true, decide_eq_true_eq, Bool.not_eq_true', List.any_eq_false] at h
  exact ⟨h.1, fun x hx => by have := h.2 x hx; omega⟩
theorem chosen_ok (h : Hp) (v w : Value) (l : List Nat) (ch : List Int) (k : Nat) (hv : Ints h v (toN l)) (hw : Ints h w ch) (hne : l ≠ []) (hll : l.length < 2 ^ 40) (hp : ∀ x ∈ ch, 0 ≤ x) :
    CallOK Try.prog 159 #[v, w, .int .i64 (k : Int)] h (.int .i64 ((pickN ch k l : Nat) : Int)) h := by
  refine callY_P 24 _ [.tmp 6] Try.func159 rfl rfl rfl (by first | rfl | simp) ?_
  have hL := hv.lenD
  have hM := hw.lenD
  have hgt := toN_get l
  have hln := toN_length l
  have hl0 : 0 < l.length := List.length_pos_iff.2 hne
  obtain ⟨o_x, i_x, c_x, cs_x, own_x, ex_x, es_x, q_x, b_x, g_x, l_x, r_x⟩ := hv.open ((by omega))
  have z_x : ∀ h2 : i_x < cs_x.length, cs_x[i_x] = _ := fun h2 => r_x 0 ((by omega)) h2
  by_cases hk : k < ch.length
  · obtain ⟨o_y, i_y, c_y, cs_y, own_y, ex_y, es_y, q_y, b_y, g_y, l_y, r_y⟩ := hw.open ((by omega))
    have z_y : ∀ h2 : i_y < cs_y.length, cs_y[i_y] = _ := fun h2 => r_y 0 ((by omega)) h2
    obtain ⟨q, hq⟩ : ∃ q : Nat, ch[k] = q := ⟨ch[k].toNat, by have := hp _ (List.getElem_mem hk); omega⟩
    have hml := Nat.mod_lt q hl0
    obtain ⟨r, hr⟩ : ∃ r, r = q % l.length := ⟨_, rfl⟩
    rw [← hr] at hml
    have hmd : Int.tmod (q : Int) (l.length : Int) = r := by rw [Int.tmod_eq_emod_of_nonneg (by omega), hr]; rfl
    have hne0 : ¬ ((l.length : Int) = 0) := by omega
    have hne1 : ¬ l = [] := hne
    have hpk : pickN ch k l = l[r] := by
      unfold pickN
      rw [dif_pos hk, hq, Int.toNat_natCast, ← hr, List.getD_eq_getElem?_getD, List.getElem?_eq_getElem hml]; rfl
    try simp (disch := first | omega | (simp; done) | fail) [wrap64c, if_pos, if_neg, opAnd, opOr, opXor, opDiff, opShr, opBit, hL, hM, hgt, q_x, g_x, l_x, r_x, z_x, hk, q_y, g_y, l_y, r_y, z_y, hq, hmd, hne0, hne1]
    exact done_ret rfl (by simp [hpk])
  · have hpk : pickN ch k l = l[0] := by
      unfold pickN
      rw [dif_neg hk, List.getD_eq_getElem?_getD, List.getElem?_eq_getElem hl0]; rfl
    try simp (disch := first | omega | (simp; done) | fail) [wrap64c, if_pos, if_neg, opAnd, opOr, opXor, opDiff, opShr, opBit, hL, hM, hgt, q_x, g_x, l_x, r_x, z_x, hk]
    exact done_ret rfl (by simp [hpk])
end Go.Proofs.Ytnjabaeajjhliaa
