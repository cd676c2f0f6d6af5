/- append. -/
import Derived.Test.YtpehnhjgdgnnkaaEngF
import Derived.Laws.Append
namespace Go.Eng

/-- An object is forgotten. -/
theorem kill_rel {E : Emb} {base : Nat} {h : Hp} {H : Array Obj} (hr : HRel E base h H) (p : Nat) : HRel E base (h.put p .dead) H where
  le := hr.le
  lt := hr.lt
  obj o hd := by
    by_cases e : o = p
    · simp [Hp.put, e, ORel]
    · simp only [Hp.put, e, if_false]; exact hr.obj o hd
  sep o o' hd hd' hne h1 h2 := by
    by_cases e : o = p
    · simp [Hp.put, e, AObj.owned] at h1
    · by_cases e' : o' = p
      · simp [Hp.put, e', AObj.live] at h2
      · simp only [Hp.put, e, e', if_false] at h1 h2
        exact hr.sep o o' hd hd' hne h1 h2

theorem kill_step {E : Emb} {h : Hp} (w : World) (p : Nat) : Step E h w E (h.put p .dead) w where
  next := Nat.le_refl _
  ext _ _ := ⟨Iff.rfl, rfl, rfl, rfl⟩
  os := rfl
  tape := rfl
  output := rfl
  size := Nat.le_refl _
  keep _ _ _ := rfl
  own o hd ho := by
    left
    refine ⟨o, hd, ?_, rfl⟩
    by_cases e : o = p
    · simp [Hp.put, e, AObj.owned] at ho
    · simpa [Hp.put, e] using ho

/-- A new object takes the room of one that is forgotten: its block is written, from somewhere on. -/
theorem step_take {E : Emb} {base : Nat} {h : Hp} {w w' : World} (hr : HRel E base h w.heap) (p f s : Nat) (x : AObj) (hd : E.D p) (hown : (h.get p).owned = true)
    (hsz : w'.heap.size = w.heap.size) (hh : ∀ b, b ≠ E.blk p → w'.heap[b]? = w.heap[b]?) (ho : w'.os = w.os) (ht : w'.tape = w.tape) (hu : w'.output = w.output)
    (hx : ORel (E.add h.next (E.blk p) f s) base w'.heap h.next x) (_hxo : x.owned = true) :
    Step E h w (E.add h.next (E.blk p) f s) ((h.put p .dead).alloc x) w' ∧ HRel (E.add h.next (E.blk p) f s) base ((h.put p .dead).alloc x) w'.heap := by
  have hext := E.add_ext h.next (E.blk p) f s
  have hD : ∀ o, E.D o → (E.add h.next (E.blk p) f s).D o ∧ (E.add h.next (E.blk p) f s).blk o = E.blk o ∧ (E.add h.next (E.blk p) f s).off o = E.off o ∧ (E.add h.next (E.blk p) f s).slk o = E.slk o := fun o hd => by
    obtain ⟨a, b, c, d⟩ := hext o (hr.lt o hd); exact ⟨a.2 hd, b, c, d⟩
  have hnew : (E.add h.next (E.blk p) f s).blk h.next = E.blk p := by simp [Emb.add]
  have hget : ∀ o, o < h.next → o ≠ p → ((h.put p .dead).alloc x).get o = h.get o := fun o ho hp => by simp [Hp.alloc, Hp.put, show o ≠ h.next by omega, hp]
  have hgp : ((h.put p .dead).alloc x).get p = .dead := by
    have := hr.lt p hd
    simp [Hp.alloc, Hp.put, show p ≠ h.next by omega]
  have hgn : ((h.put p .dead).alloc x).get h.next = x := by simp [Hp.alloc, Hp.put]
  refine ⟨⟨by simp [Hp.alloc, Hp.put], hext, ho, ht, hu, by omega, fun b _ hn => hh b (fun e => hn p hd hown e.symm), ?_⟩, ⟨by rw [hsz]; exact hr.le, ?_, ?_, ?_⟩⟩
  · intro o ho' hoo
    left
    rcases ho' with rfl | ho'
    · exact ⟨p, hd, hown, hnew.symm⟩
    · refine ⟨o, ho', ?_, (hext o (hr.lt o ho')).2.1.symm⟩
      by_cases e : o = p
      · subst e; exact hown
      · rwa [hget o (hr.lt o ho') e] at hoo
  · intro o ho'
    rcases ho' with rfl | ho'
    · simp [Hp.alloc, Hp.put]
    · have := hr.lt o ho'; simp [Hp.alloc, Hp.put]; omega
  · intro o ho'
    rcases ho' with rfl | ho'
    · rw [hgn]; exact hx
    · by_cases e : o = p
      · subst e; rw [hgp]; trivial
      · rw [hget o (hr.lt o ho') e]
        cases hx0 : h.get o with
        | dead => trivial
        | _ =>
          have h0 := hr.obj o ho'
          have hl : (h.get o).live = true := by rw [hx0]; rfl
          rw [hx0] at h0
          exact h0.mono hD ho' (hh _ (fun e' => hr.sep p o hd ho' (fun q => e q.symm) hown hl e'.symm))
  · intro o o' ho' ho'' hne h1 h2
    rcases ho' with rfl | ho' <;> rcases ho'' with rfl | ho''
    · exact absurd rfl hne
    · by_cases e : o' = p
      · subst e; rw [hgp] at h2; cases h2
      · rw [hget o' (hr.lt o' ho'') e] at h2
        rw [hnew, (hext o' (hr.lt o' ho'')).2.1]
        exact hr.sep p o' hd ho'' (fun q => e q.symm) hown h2
    · by_cases e : o = p
      · subst e; rw [hgp] at h1; cases h1
      · rw [hget o (hr.lt o ho') e] at h1
        rw [hnew, (hext o (hr.lt o ho')).2.1]
        exact hr.sep o p ho' hd e h1 (AObj.live_of_owned hown)
    · by_cases e : o = p
      · subst e; rw [hgp] at h1; cases h1
      · by_cases e' : o' = p
        · subst e'; rw [hgp] at h2; cases h2
        · rw [hget o (hr.lt o ho') e] at h1
          rw [hget o' (hr.lt o' ho'') e'] at h2
          rw [(hext o (hr.lt o ho')).2.1, (hext o' (hr.lt o' ho'')).2.1]
          exact hr.sep o o' ho' ho'' hne h1 h2

/-- The cells of a source (a slice or a string), so many elements of so many cells. -/
def srcW (h : Hp) (m : Nat) : Value → Option (Nat × List Value)
  | .slice none 0 0 => some (0, [])
  | .slice (some ⟨q, j, none⟩) n _ => match h.get q with
    | .cells c _ _ _ => if j + n * m ≤ c.length then some (n, (c.drop j).take (n * m)) else none
    | _ => none
  | .string s => if m = 1 then some (s.size, s.data.toList.map fun b => .int .u8 b.toNat) else none
  | _ => none

/-- .. and none of whatever is empty. -/
def srcV (h : Hp) (m : Nat) (v : Value) : Option (Nat × List Value) := match srcW h m v with
  | some r => some r
  | none => match v with
    | .slice _ 0 _ => some (0, [])
    | _ => none

theorem zcells_arr {z : Value} {n : Nat} : (Builtin.zeroCells z.cells n).size = n * z.cells.size := by simp [Builtin.zeroCells]

theorem run_firstCells_engW {P : Program} {E : Emb} {base : Nat} {h : Hp} {w : World} (hr : HRel E base h w.heap) {m n : Nat} {v v' : Value} {cs : List Value} (hv : VRel E v v') (hs : srcW h m v = some (n, cs)) :
    (Builtin.lenOf v').run P w = .ok n w ∧ cs.length = n * m ∧ ∃ cs' : List Value, cs'.length = cs.length ∧
      (∀ w1 : World, w1.heap = w.heap → (Builtin.firstCells m n v').run P w1 = .ok cs'.toArray w1) ∧ (∀ i, i < cs.length → VRel E (cs.getD i undef) (cs'.getD i undef)) ∧
      (∀ i, i < cs.length → (cs.getD i undef).oneCell' = true) := by
  unfold srcW at hs
  split at hs
  · simp only [Option.some.injEq, Prod.mk.injEq] at hs
    obtain ⟨rfl, rfl⟩ := hs
    rw [hv.inv_sliceNil]
    exact ⟨rfl, by simp, [], rfl, fun _ _ => rfl, fun i hi => absurd hi (by simp), fun i hi => absurd hi (by simp)⟩
  · rename_i q j n' c'
    split at hs
    · rename_i c own ex es hg
      split at hs
      · rename_i hle
        simp only [Option.some.injEq, Prod.mk.injEq] at hs
        obtain ⟨rfl, rfl⟩ := hs
        obtain ⟨hnc, sl, ad, e, hq⟩ := hv.inv_slice
        rw [e]
        have hlen : ((c.drop j).take (n' * m)).length = n' * m := by simp; omega
        have hgd : ∀ i, i < n' * m → ((c.drop j).take (n' * m)).getD i undef = c.getD (j + i) undef := by
          intro i hi
          simp [List.getD, hi]
        refine ⟨rfl, hlen, (List.range (n' * m)).map (fun i => (w.cell? ⟨E.blk q, E.off q + (j + i), none⟩).getD undef), by simp; omega, ?_, ?_, ?_⟩
        · intro w1 hw1
          by_cases h0 : n' * m = 0
          · simp [Builtin.firstCells, h0, loadCells, loadCellsFrom]
          · have hne : n' ≠ 0 := fun e => h0 (by rw [e, Nat.zero_mul])
            obtain ⟨hd, _, had⟩ := hq.resolve_right (fun h => h)
            have had : ad = ⟨E.blk q, E.off q + j, none⟩ := had.resolve_left (by omega)
            subst had
            have := run_loadCells (P := P) w1 ⟨E.blk q, E.off q + j, none⟩ (n' * m) (fun i => (w.cell? ⟨E.blk q, E.off q + (j + i), none⟩).getD undef) (fun i hi => by
              obtain ⟨v', k1, _⟩ := cell_at (w := w1) (i := j + i) (by rw [hw1]) hr hd hg (by omega)
              obtain ⟨v'', k2, _⟩ := cell_at (w := w) (i := j + i) rfl hr hd hg (by omega)
              have : w1.cell? ⟨E.blk q, E.off q + (j + i), none⟩ = w.cell? ⟨E.blk q, E.off q + (j + i), none⟩ := by simp only [World.cell?, hw1]
              rw [add_plain', Nat.add_assoc, k1, ← this, k1]; rfl)
            simpa [Builtin.firstCells] using this
        · intro i hi
          rw [hlen] at hi
          have hne : n' ≠ 0 := fun e => by rw [e, Nat.zero_mul] at hi; omega
          obtain ⟨hd, _, _⟩ := hq.resolve_right (fun h => h)
          obtain ⟨v', k1, k2, _⟩ := cell_at (w := w) (i := j + i) rfl hr hd hg (by omega)
          rw [hgd i hi]
          have : ((List.range (n' * m)).map (fun i => (w.cell? ⟨E.blk q, E.off q + (j + i), none⟩).getD undef)).getD i undef = v' := by
            simp [List.getD, hi, k1]
          rw [this]; exact k2
        · intro i hi
          rw [hlen] at hi
          rw [hgd i hi]
          have hne : n' ≠ 0 := fun e => by rw [e, Nat.zero_mul] at hi; omega
          obtain ⟨hd, _, _⟩ := hq.resolve_right (fun h => h)
          obtain ⟨v', k1, _, k2⟩ := cell_at (w := w) (i := j + i) rfl hr hd hg (by omega)
          exact k2
      · cases hs
    · cases hs
  · rename_i s
    split at hs
    · rename_i hm
      subst hm
      simp only [Option.some.injEq, Prod.mk.injEq] at hs
      obtain ⟨rfl, rfl⟩ := hs
      rw [hv.inv_string]
      have hsz : s.data.toList.length = s.size := by rw [Array.length_toList]; rfl
      refine ⟨rfl, by simp, s.data.toList.map fun b => .int .u8 b.toNat, by simp, ?_, ?_, ?_⟩
      · intro w1 _
        have he : (s.extract 0 s.size).data = s.data := by
          simp
        simp only [Builtin.firstCells, he, Sem.run_pure]
        congr 1
        apply Array.ext'
        simp
      · intro i hi
        simp at hi
        simp only [List.getD_eq_getElem?_getD, List.getElem?_map]
        rw [List.getElem?_eq_getElem (by simpa using hi)]
        exact .int _ _
      · intro i hi
        simp at hi
        simp only [List.getD_eq_getElem?_getD, List.getElem?_map]
        rw [List.getElem?_eq_getElem (by simpa using hi)]
        rfl
    · cases hs
  · cases hs

theorem run_firstCells_eng {P : Program} {E : Emb} {base : Nat} {h : Hp} {w : World} (hr : HRel E base h w.heap) {m n : Nat} {v v' : Value} {cs : List Value} (hv : VRel E v v') (hs : srcV h m v = some (n, cs)) :
    (Builtin.lenOf v').run P w = .ok n w ∧ cs.length = n * m ∧ ∃ cs' : List Value, cs'.length = cs.length ∧
      (∀ w1 : World, w1.heap = w.heap → (Builtin.firstCells m n v').run P w1 = .ok cs'.toArray w1) ∧ (∀ i, i < cs.length → VRel E (cs.getD i undef) (cs'.getD i undef)) ∧
      (∀ i, i < cs.length → (cs.getD i undef).oneCell' = true) := by
  unfold srcV at hs
  split at hs
  · rename_i r hr'
    cases hs
    exact run_firstCells_engW hr hv hr'
  · split at hs
    · cases hs
      have e : ∃ a c, v' = .slice a 0 c := by cases hv <;> exact ⟨_, _, rfl⟩
      obtain ⟨a, c, rfl⟩ := e
      refine ⟨rfl, by simp, [], rfl, fun w1 _ => ?_, fun i hi => absurd hi (by simp), fun i hi => absurd hi (by simp)⟩
      cases a with
      | none => rfl
      | some a => simp [Builtin.firstCells, loadCells, loadCellsFrom]
    · cases hs

def srcT (P : Program) (t : TypeId) : Bool := match P.underlying t with
  | some (.slice _) => true
  | some .string => true
  | _ => false

theorem srcT_spec {P : Program} {t : TypeId} (h : srcT P t = true) : (∃ e, P.underlying t = some (.slice e)) ∨ P.underlying t = some .string := by
  unfold srcT at h
  split at h
  · exact .inl ⟨_, by assumption⟩
  · exact .inr (by assumption)
  · cases h

section
variable {P : Program} {w : World}

theorem run_append_in {t t' ty e : TypeId} {a : Option Addr} {n n2 cap m : Nat} {y : Value} {new : Array Value} {w' : World} (ht : elT P t = some e) (hn : srcT P t' = true) (hm : szT P e = some m)
    (hl : (Builtin.lenOf y).run P w = .ok n2 w) (hf : (Builtin.firstCells m n2 y).run P w = .ok new w) (hc : n + n2 ≤ cap)
    (hs : ∀ b, a = some b → (storeCells (b.add (n * m)) new.toList).run P w = .ok () w') (h0 : a = none → w' = w) :
    (Builtin.append_ #[t, t'] ty #[.slice a n cap, y]).run P w = .ok (.slice a (n + n2) cap) w' := by
  rcases srcT_spec hn with ⟨e', hd⟩ | hd
  · cases a with
    | none => rw [h0 rfl]; simp [Builtin.append_, run_underlying (elT_spec ht), run_underlying hd, run_szT hm, hl, hf, hc]
    | some b => simp [Builtin.append_, run_underlying (elT_spec ht), run_underlying hd, run_szT hm, hl, hf, hc, hs b rfl]
  · cases a with
    | none => rw [h0 rfl]; simp [Builtin.append_, run_underlying (elT_spec ht), run_underlying hd, run_szT hm, hl, hf, hc]
    | some b => simp [Builtin.append_, run_underlying (elT_spec ht), run_underlying hd, run_szT hm, hl, hf, hc, hs b rfl]

theorem run_append_new {t t' ty e : TypeId} {a : Option Addr} {n n2 cap m b : Nat} {z y : Value} {old new : Array Value} (ht : elT P t = some e) (hn : srcT P t' = true) (hm : szT P e = some m) (hz : zeroT P e = some z)
    (hb : byT P e = some b) (hb0 : b ≠ 0) (hl : (Builtin.lenOf y).run P w = .ok n2 w) (hf : ∀ w1 : World, w1.heap = w.heap → (Builtin.firstCells m n2 y).run P w1 = .ok new w1)
    (hf' : ∀ w1 : World, w1.heap = w.heap → (Builtin.firstCells m n (.slice a n cap)).run P w1 = .ok old w1) (hc : cap < n + n2) (hroom : (n + n2) * b ≤ 2 ^ 47) :
    ∃ nc, n + n2 ≤ nc ∧ (Builtin.append_ #[t, t'] ty #[.slice a n cap, y]).run P w =
      .ok (.slice (some ⟨w.heap.size, 0, none⟩) (n + n2) nc) (w.drew.alloc (.cells (old ++ new ++ Builtin.zeroCells z.cells (nc - (n + n2))) e)) := by
  refine ⟨(Question.appendCap (n + n2) cap e).cut (w.tape w.drawn (.appendCap (n + n2) cap e)), by simp [Question.cut], ?_⟩
  have hnx := nextslicecap_le hc
  have hfit : ¬ (2 ^ 48 < Builtin.nextslicecap (n + n2) cap * b) := by
    have h1 : Builtin.nextslicecap (n + n2) cap * b ≤ 2 * (n + n2) * b := Nat.mul_le_mul_right _ hnx
    rw [Nat.mul_assoc] at h1
    omega
  have hcc : ¬ (n + n2 ≤ cap) := by omega
  cases hi : P.info? e with
  | none => simp [szT, hi] at hm
  | some inf =>
    have hib : inf.bytes = b := by simpa [byT, hi] using hb
    have his : inf.size = m := by simpa [szT, hi] using hm
    have hiz : inf.zero = some z := by simpa [zeroT, hi] using hz
    have h1 := hf w.drew rfl
    have h2 := hf' w.drew rfl
    simp only [Nat.reducePow] at hfit
    have hfo : (Question.appendCap (n + n2) cap e).forced = false := rfl
    rcases srcT_spec hn with ⟨e', hd⟩ | hd
    · simp [Builtin.append_, run_underlying (elT_spec ht), run_underlying hd, sizeOf, typeInfo, zeroValue, hi, hib, his, hiz, hl, hcc, hb0, hfit, hfo, h1, h2, newRow]
    · simp [Builtin.append_, run_underlying (elT_spec ht), run_underlying hd, sizeOf, typeInfo, zeroValue, hi, hib, his, hiz, hl, hcc, hb0, hfit, hfo, h1, h2, newRow]
end

end Go.Eng
