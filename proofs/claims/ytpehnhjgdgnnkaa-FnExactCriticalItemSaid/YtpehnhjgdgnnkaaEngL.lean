/- What opD computes the model does. -/
import Derived.Test.YtpehnhjgdgnnkaaEngKm
namespace Go.Eng

section
variable {P : Program} {o : Oper} {tm : Nat → Value} {h h' : Hp} {v : Value}

theorem plain_wrap {n : Int} (h : 0 ≤ n) : ((n.toNat : Nat) : Int) = n := Int.toNat_of_nonneg h

theorem builtinD_sound {b : Builtin} {xs : List Operand} {ts : List TypeId} (hop : o.op = .call ⟨.builtin b, xs.toArray, ts.toArray⟩) (hd : builtinD P b xs ts tm h = some (v, h')) : OpOK P o tm h v h' := by
  unfold builtinD at hd
  split at hd
  case h_1 x t =>
    split at hd
    rotate_left
    · cases hd
    rename_i hx
    simp only [Option.map_eq_some_iff, Prod.mk.injEq] at hd
    obtain ⟨v0, hl, rfl, rfl⟩ := hd
    unfold lenD at hl
    split at hl
    · rename_i hp
      split at hl
      rotate_left
      · cases hl
      rename_i e he
      simp only [Option.some.injEq] at hl; subst hl
      exact ok_len hop hp hx he rfl
    · rename_i hp
      split at hl
      rotate_left
      · cases hl
      rename_i he
      simp only [Option.some.injEq] at hl; subst hl
      exact ok_lenS hop hp hx he
    · cases hl
  case h_2 x y t t' =>
    split at hd
    rotate_left
    · cases hd
    rename_i hx
    simp only [Bool.and_eq_true] at hx
    unfold appendD at hd
    split at hd
    · cases hd
    rename_i e he
    split at hd
    rotate_left
    · cases hd
    rename_i m z b hm hz hb
    split at hd
    · cases hd
    rename_i n2 src hsrc
    split at hd
    rotate_left
    · cases hd
    rename_i hc
    split at hd
    · rename_i hp
      split at hd
      · rename_i h0
        simp only [Option.some.injEq, Prod.mk.injEq] at hd; obtain ⟨rfl, rfl⟩ := hd
        subst h0
        rw [hp]
        exact ok_append0 hop hp hx.1 hx.2 he hc.1 hm hsrc
      · rename_i h0
        split at hd
        rotate_left
        · cases hd
        rename_i hr
        simp only [Option.some.injEq, Prod.mk.injEq] at hd; obtain ⟨rfl, rfl⟩ := hd
        exact ok_appendNil hop hp hx.1 hx.2 he hc.1 hm hz hc.2.1 hb hc.2.2 hsrc (by omega) hr
    · rename_i p i n c hp
      split at hd
      · rename_i h0
        simp only [Option.some.injEq, Prod.mk.injEq] at hd; obtain ⟨rfl, rfl⟩ := hd
        subst h0
        rw [hp]
        exact ok_append0 hop hp hx.1 hx.2 he hc.1 hm hsrc
      · rename_i h0
        split at hd
        rotate_left
        · cases hd
        rename_i cp own ex es hg
        split at hd
        rotate_left
        · cases hd
        rename_i hcap
        split at hd
        · rename_i hle
          split at hd
          rotate_left
          · cases hd
          rename_i hown
          subst hown
          simp only [Option.some.injEq, Prod.mk.injEq] at hd; obtain ⟨rfl, rfl⟩ := hd
          exact ok_appendIn hop hp hx.1 hx.2 he hc.1 hm hsrc hle hg hcap (by omega)
        · rename_i hle
          split at hd
          rotate_left
          · cases hd
          rename_i hq
          simp only [Option.some.injEq, Prod.mk.injEq] at hd; obtain ⟨rfl, rfl⟩ := hd
          obtain ⟨rfl, q1, q2⟩ := hq
          exact ok_appendGrow hop hp hx.1 hx.2 he hc.1 hm hz hc.2.1 hb hc.2.2 hsrc (by omega) hg q1 hcap q2
    · cases hd
  case h_3 x y t t' =>
    split at hd
    rotate_left
    · cases hd
    rename_i hx
    simp only [Bool.and_eq_true] at hx
    split at hd
    rotate_left
    · cases hd
    rename_i h1 h2
    simp only [Option.some.injEq, Prod.mk.injEq] at hd; obtain ⟨rfl, rfl⟩ := hd
    exact ok_max2 hop h1 hx.1 h2 hx.2
  case h_4 x y t t' =>
    split at hd
    rotate_left
    · cases hd
    rename_i hx
    simp only [Bool.and_eq_true] at hx
    split at hd
    rotate_left
    · cases hd
    rename_i h1 h2
    simp only [Option.some.injEq, Prod.mk.injEq] at hd; obtain ⟨rfl, rfl⟩ := hd
    exact ok_min2 hop h1 hx.1 h2 hx.2
  case h_5 => cases hd

theorem opD_sound (hd : opD P o.op tm h = some (v, h')) : OpOK P o tm h v h' := by
  generalize hop : o.op = op at hd
  unfold opD at hd
  split at hd
  case h_1 x =>
    split at hd
    rotate_left
    · cases hd
    rename_i hx
    simp only [Option.some.injEq, Prod.mk.injEq] at hd; obtain ⟨rfl, rfl⟩ := hd; exact ok_move (.inl hop) hx
  case h_2 x =>
    split at hd
    rotate_left
    · cases hd
    rename_i hx
    simp only [Option.some.injEq, Prod.mk.injEq] at hd; obtain ⟨rfl, rfl⟩ := hd; exact ok_move (.inr hop) hx
  case h_3 c x y =>
    split at hd
    rotate_left
    · cases hd
    rename_i hx
    simp only [Bool.and_eq_true] at hx
    split at hd
    rotate_left
    · cases hd
    rename_i t hc
    simp only [Option.some.injEq, Prod.mk.injEq] at hd; obtain ⟨rfl, rfl⟩ := hd
    exact ok_pick hop hc hx.1.1 hx.1.2 hx.2
  case h_4 e =>
    split at hd
    rotate_left
    · cases hd
    rename_i z hz
    split at hd
    rotate_left
    · cases hd
    rename_i hx
    simp only [Bool.and_eq_true] at hx
    simp only [Option.some.injEq, Prod.mk.injEq] at hd; obtain ⟨rfl, rfl⟩ := hd
    exact ok_alloc hop hz hx.1 (notTup_iff hx.2)
  case h_5 e x =>
    split at hd
    rotate_left
    · cases hd
    rename_i hx
    simp only [Bool.and_eq_true] at hx
    simp only [Option.some.injEq, Prod.mk.injEq] at hd; obtain ⟨rfl, rfl⟩ := hd
    exact ok_box hop hx.1 hx.2
  case h_6 t x =>
    split at hd
    rotate_left
    · cases hd
    rename_i hx
    split at hd
    rotate_left
    · cases hd
    rename_i p i hp
    simp only [Option.map_eq_some_iff, Prod.mk.injEq] at hd
    obtain ⟨v0, hl, rfl, rfl⟩ := hd
    unfold loadD at hl
    split at hl
    rotate_left
    · cases hl
    rename_i c own ex es hg
    split at hl
    · rename_i ha
      split at hl
      rotate_left
      · cases hl
      rename_i hi
      simp only [Option.some.injEq] at hl; subst hl
      exact ok_load1 hop hp hx hg ha hi
    · rename_i ha
      split at hl
      rotate_left
      · cases hl
      rename_i n hn
      split at hl
      rotate_left
      · cases hl
      rename_i hi
      simp only [Option.some.injEq] at hl; subst hl
      exact ok_loadN hop hp hx hg ha hn hi
    · cases hl
  case h_7 t x y =>
    split at hd
    rotate_left
    · cases hd
    rename_i hx
    simp only [Bool.and_eq_true] at hx
    split at hd
    rotate_left
    · cases hd
    rename_i p i hp
    simp only [Option.map_eq_some_iff, Prod.mk.injEq] at hd
    obtain ⟨v0, hl, rfl, rfl⟩ := hd
    unfold storeD at hl
    split at hl
    rotate_left
    · cases hl
    rename_i c ex es hg
    split at hl
    rotate_left
    · cases hl
    rename_i n hn
    split at hl
    rotate_left
    · cases hl
    rename_i hc
    simp only [Option.some.injEq] at hl; subst hl
    exact ok_store hop hp hx.1 hx.2 hc.1 hg hn hc.2.1 hc.2.2
  case h_8 s x f =>
    split at hd
    rotate_left
    · cases hd
    rename_i hx
    split at hd
    rotate_left
    · cases hd
    rename_i hp hf
    split at hd
    rotate_left
    · cases hd
    rename_i hn
    simp only [Option.some.injEq, Prod.mk.injEq] at hd; obtain ⟨rfl, rfl⟩ := hd
    exact ok_fieldAddr hop hp hx hf hn
  case h_9 s x f =>
    split at hd
    rotate_left
    · cases hd
    rename_i hx
    split at hd
    rotate_left
    · cases hd
    rename_i hp hf
    split at hd
    rotate_left
    · cases hd
    rename_i hn
    simp only [Option.some.injEq, Prod.mk.injEq] at hd; obtain ⟨rfl, rfl⟩ := hd
    exact ok_field hop hp hx hf hn.1 hn.2
  case h_10 t x y =>
    split at hd
    rotate_left
    · cases hd
    rename_i hx
    simp only [Bool.and_eq_true] at hx
    simp only [Option.map_eq_some_iff, Prod.mk.injEq] at hd
    obtain ⟨v0, hl, rfl, rfl⟩ := hd
    unfold indexAddrD at hl
    split at hl
    · rename_i hp hj
      split at hl
      rotate_left
      · cases hl
      rename_i m hm
      split at hl
      rotate_left
      · cases hl
      rename_i hb
      simp only [Option.some.injEq] at hl; subst hl
      obtain ⟨e, he, hm⟩ := Option.bind_eq_some_iff.1 hm
      exact ok_indexAddr hop hp hx.1 hj hx.2 he hm hb.1 hb.2
    · rename_i hp hj
      split at hl
      rotate_left
      · cases hl
      rename_i n e he
      split at hl
      rotate_left
      · cases hl
      rename_i m hm
      split at hl
      rotate_left
      · cases hl
      rename_i hb
      simp only [Option.some.injEq] at hl; subst hl
      exact ok_indexAddrA hop hp hx.1 hj hx.2 he hm hb.1 hb.2
    · cases hl
  case h_11 t x y =>
    split at hd
    rotate_left
    · cases hd
    rename_i hx
    simp only [Bool.and_eq_true] at hx
    simp only [Option.map_eq_some_iff, Prod.mk.injEq] at hd
    obtain ⟨v0, hl, rfl, rfl⟩ := hd
    unfold indexD at hl
    split at hl
    · rename_i hp hj
      split at hl
      rotate_left
      · cases hl
      rename_i n e he
      split at hl
      rotate_left
      · cases hl
      rename_i m b hm hb'
      split at hl
      rotate_left
      · cases hl
      rename_i hb
      simp only [Option.some.injEq] at hl; subst hl
      exact ok_indexA hop hp hx.1 hj hx.2 he hm hb' hb.1 hb.2.1 hb.2.2.1 hb.2.2.2
    · rename_i hp hj
      split at hl
      rotate_left
      · cases hl
      rename_i he
      split at hl
      rotate_left
      · cases hl
      rename_i hb
      simp only [Option.some.injEq] at hl; subst hl
      exact ok_indexS hop hp hx.1 hj hx.2 he hb.1 hb.2
    · cases hl
  case h_12 x i =>
    split at hd
    rotate_left
    · cases hd
    rename_i hx
    split at hd
    rotate_left
    · cases hd
    rename_i vs hp
    simp only [Option.map_eq_some_iff, Prod.mk.injEq] at hd
    obtain ⟨v0, hl, rfl, rfl⟩ := hd
    obtain ⟨hi, e⟩ := Array.getElem?_eq_some_iff.1 hl
    have e2 : vs.getD i undef = v0 := by rw [Array.getD_eq_getD_getElem?, hl]; rfl
    rw [← e2]
    exact ok_extract hop hp hx hi
  case h_13 fn f c =>
    split at hd
    rotate_left
    · cases hd
    rename_i hx
    simp only [Bool.and_eq_true] at hx
    simp only [Option.some.injEq, Prod.mk.injEq] at hd; obtain ⟨rfl, rfl⟩ := hd
    exact ok_makeFunc hop hx.1 hx.2
  case h_14 op t x y t' =>
    split at hd
    rotate_left
    · cases hd
    rename_i hx
    simp only [Bool.and_eq_true] at hx
    simp only [Option.map_eq_some_iff, Prod.mk.injEq] at hd
    obtain ⟨v0, hl, rfl, rfl⟩ := hd
    unfold binD at hl
    split at hl
    · rename_i r hr
      simp only [Option.some.injEq] at hl; subst hl
      exact ok_binOp hop hx.1 hx.2 hr
    · split at hl
      rotate_left
      · cases hl
      rename_i hc
      split at hl
      · simp only [Option.map_eq_some_iff] at hl
        obtain ⟨b, hb, rfl⟩ := hl
        exact ok_eq hop hx.1 hx.2 hb hc
      · simp only [Option.map_eq_some_iff] at hl
        obtain ⟨b, hb, rfl⟩ := hl
        exact ok_neq hop hx.1 hx.2 hb hc
      · cases hl
  case h_15 op t x =>
    split at hd
    rotate_left
    · cases hd
    rename_i hx
    simp only [Option.map_eq_some_iff, Prod.mk.injEq] at hd
    obtain ⟨v0, hl, rfl, rfl⟩ := hd
    exact ok_unOp hop hx hl
  case h_16 s d x =>
    split at hd
    rotate_left
    · cases hd
    rename_i hx
    simp only [Option.map_eq_some_iff, Prod.mk.injEq] at hd
    obtain ⟨v0, hl, rfl, rfl⟩ := hd
    unfold convD at hl
    split at hl
    rotate_left
    · cases hl
    rename_i hp hs hk
    simp only [Option.some.injEq] at hl; subst hl
    exact ok_convInt hop hp hx (by rw [hs]; rfl) hk
  case h_17 t x y =>
    split at hd
    rotate_left
    · cases hd
    rename_i hx
    simp only [Bool.and_eq_true] at hx
    unfold makeD at hd
    split at hd
    rotate_left
    · cases hd
    rename_i n k' c e hp hq he
    split at hd
    rotate_left
    · cases hd
    rename_i m z b hm hz hb
    split at hd
    rotate_left
    · cases hd
    rename_i hc
    simp only [Option.some.injEq, Prod.mk.injEq] at hd; obtain ⟨rfl, rfl⟩ := hd
    obtain ⟨c1, c2, c3, c4, c5, c6, c7⟩ := hc
    have e1 := plain_wrap c4
    have e2 := plain_wrap (n := c) (by omega)
    rw [← e2] at c7
    exact ok_makeSlice hop (by rw [hp, e1]) hx.1 (by rw [hq, e2]) hx.2 he hz hm c1 hb c2 c3 (by omega) (by omega) (by
      have h9 : ((b * c.toNat : Nat) : Int) ≤ ((2 ^ 48 : Nat) : Int) := by rw [Int.natCast_mul]; exact c7
      exact Int.ofNat_le.1 h9)
  case h_18 t x lo hi =>
    split at hd
    rotate_left
    · cases hd
    rename_i hx
    simp only [Bool.and_eq_true] at hx
    simp only [Option.map_eq_some_iff, Prod.mk.injEq] at hd
    obtain ⟨v0, hl, rfl, rfl⟩ := hd
    unfold sliceD at hl
    split at hl
    · rename_i hp
      split at hl
      rotate_left
      · cases hl
      rename_i l r m h1 h2 h3
      split at hl
      rotate_left
      · cases hl
      rename_i hb
      simp only [Option.some.injEq] at hl; subst hl
      obtain ⟨e, he, hm⟩ := Option.bind_eq_some_iff.1 h3
      exact ok_slice hop hp hx.1.1 hx.1.2 hx.2 h1 h2 he hm hb.1 hb.2
    · rename_i hp
      split at hl
      rotate_left
      · cases hl
      rename_i l r m h1 h2 h3
      split at hl
      rotate_left
      · cases hl
      rename_i hb
      simp only [Option.some.injEq] at hl; subst hl
      obtain ⟨e, he, hm⟩ := Option.bind_eq_some_iff.1 h3
      exact ok_sliceNil hop hp hx.1.1 hx.1.2 hx.2 h1 h2 he hm hb.1 hb.2
    · rename_i hp
      split at hl
      rotate_left
      · cases hl
      rename_i l r h1 h2 h3
      split at hl
      rotate_left
      · cases hl
      rename_i hb
      simp only [Option.some.injEq] at hl; subst hl
      exact ok_sliceS hop hp hx.1.1 hx.1.2 hx.2 h1 h2 h3 hb.1 hb.2
    · cases hl
  case h_19 t parts =>
    split at hd
    rotate_left
    · cases hd
    rename_i hx
    simp only [Bool.and_eq_true] at hx
    split at hd
    rotate_left
    · cases hd
    rename_i z hz
    split at hd
    rotate_left
    · cases hd
    rename_i hzp
    simp only [Bool.and_eq_true] at hzp
    split at hd
    · rename_i pl hpl
      simp only [Option.map_eq_some_iff, Prod.mk.injEq] at hd
      obtain ⟨r, hr, rfl, rfl⟩ := hd
      exact ok_build hop hx.1 hx.2 hz hzp.1 hzp.2 hpl hr
    · split at hd
      rotate_left
      · cases hd
      rename_i n e he
      split at hd
      rotate_left
      · cases hd
      rename_i m hm
      simp only [Option.map_eq_some_iff, Prod.mk.injEq] at hd
      obtain ⟨r, hr, rfl, rfl⟩ := hd
      exact ok_buildA hop hx.1 hx.2 hz hzp.1 hzp.2 he hm hr
  case h_20 t n parts =>
    split at hd
    rotate_left
    · cases hd
    rename_i hx
    simp only [Bool.and_eq_true] at hx
    split at hd
    rotate_left
    · cases hd
    rename_i e he
    split at hd
    rotate_left
    · cases hd
    rename_i m z hm hz
    split at hd
    rotate_left
    · cases hd
    rename_i hc
    simp only [Bool.and_eq_true, decide_eq_true_eq] at hc
    split at hd
    rotate_left
    · cases hd
    rename_i r hr
    split at hd
    rotate_left
    · cases hd
    rename_i hrs
    simp only [Option.some.injEq, Prod.mk.injEq] at hd; obtain ⟨rfl, rfl⟩ := hd
    exact ok_buildSlice hop hx.1 hx.2 hz hc.1.1.1 hc.1.1.2 he hm hc.1.2 hc.2 hr hrs
  case h_21 c =>
    split at hd
    rotate_left
    · cases hd
    rename_i b hb
    exact builtinD_sound (xs := c.args.toList) (ts := c.argTypes.toList) (by rw [hop]; cases c; simp_all) hd
  case h_22 x =>
    split at hd
    rotate_left
    · cases hd
    rename_i hx
    simp only [Option.map_eq_some_iff, Prod.mk.injEq] at hd
    obtain ⟨v0, hl, rfl, rfl⟩ := hd
    exact ok_nilCheck hop hx hl
  case h_23 =>
    simp only [Option.some.injEq, Prod.mk.injEq] at hd; obtain ⟨rfl, rfl⟩ := hd
    exact ok_makeMap hop
  case h_24 t x y ok =>
    split at hd
    rotate_left
    · cases hd
    rename_i hx
    simp only [Bool.and_eq_true] at hx
    simp only [Option.map_eq_some_iff, Prod.mk.injEq] at hd
    obtain ⟨v0, hl, rfl, rfl⟩ := hd
    exact ok_lookup hop hx.1 hx.2 hl
  case h_25 t m k u =>
    split at hd
    rotate_left
    · cases hd
    rename_i hx
    simp only [Bool.and_eq_true] at hx
    simp only [Option.map_eq_some_iff, Prod.mk.injEq] at hd
    obtain ⟨h0, hl, rfl, rfl⟩ := hd
    exact ok_mapUpdate hop hx.1.1 hx.1.2 hx.2 hl
  case h_26 => cases hd

/-- A region's operations by computation: calls by what is known of them. -/
def RunD (P : Program) (n : Nat) (ops : Array Oper) : List Oper → ((Nat → Value) → Hp → Prop) → (Nat → Value) → Hp → Prop
  | [], Q, tm, h => Q tm h
  | o :: rest, Q, tm, h => dstOK n o.dst = true ∧ guardOK n ops o = true ∧
    match wantA ops tm o with
    | none => False
    | some false => RunD P n ops rest Q (updO tm o.dst undef) h
    | some true => match o.op with
      | .call ⟨.value fx, xs, _⟩ => okX fx = true ∧ xs.all okX = true ∧ match ev tm fx with
          | .func (.func f) fst cap => fnOK P f = true ∧ ∃ v h', CallOK P f (fst ++ xs.map (ev tm) ++ cap) h v h' ∧ RunD P n ops rest Q (updO tm o.dst v) h'
          | _ => False
      | op => match opD P op tm h with
        | some (v, h') => RunD P n ops rest Q (updO tm o.dst v) h'
        | none => False

theorem RunD.run {n : Nat} {ops : Array Oper} {Q : (Nat → Value) → Hp → Prop} : ∀ (l : List Oper) {tm : Nat → Value} {h : Hp}, RunD P n ops l Q tm h → RunOps P n ops l Q tm h
  | [], _, _, hq => hq
  | o :: rest, tm, h, hq => by
    obtain ⟨h1, h2, h3⟩ := hq
    refine ⟨h1, h2, ?_⟩
    split at h3
    · cases h3
    · rename_i hw; exact .inr ⟨hw, RunD.run rest h3⟩
    · rename_i hw
      refine .inl ⟨hw, ?_⟩
      split at h3
      · rename_i fx xs ts hop
        obtain ⟨k1, k2, k3⟩ := h3
        split at k3
        rotate_left
        · cases k3
        rename_i f fst cap hfx
        obtain ⟨k4, v, h', k5, k6⟩ := k3
        exact ⟨v, h', ok_call hop hfx k1 k2 k4 k5, RunD.run rest k6⟩
      · split at h3
        rotate_left
        · cases h3
        rename_i v h' hd
        exact ⟨v, h', opD_sound hd, RunD.run rest h3⟩
end

end Go.Eng
