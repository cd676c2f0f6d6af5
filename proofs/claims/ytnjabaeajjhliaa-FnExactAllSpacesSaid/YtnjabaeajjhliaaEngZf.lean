/- The library's sort of structs of two cells by a comparison, as one call: the kit's contract, carried over to the abstract heap. -/
import Derived.Test.YtnjabaeajjhliaaEngZe
import Derived.Shelf.SlSortCmp.WholeK
import Derived.Sort.LotA
namespace Go.Eng
open Go.Proofs

theorem step_grow {E : Emb} {base : Nat} {h : Hp} {w : World} (os : Array Obj) (hr : HRel E base h w.heap) : Step E h w E h (Sort.grow w os) ∧ HRel E base h (Sort.grow w os).heap := by
  have old : ∀ b, b < w.heap.size → (Sort.grow w os).heap[b]? = w.heap[b]? := fun b hb => Sort.heap_grow_old w os hb
  refine ⟨⟨Nat.le_refl _, fun _ _ => ⟨Iff.rfl, rfl, rfl, rfl⟩, rfl, rfl, ⟨rfl, Nat.le_refl _⟩, by simp, fun b hb _ => old b hb, fun o hd ho => .inl ⟨o, hd, ho, rfl⟩⟩, ⟨?_, hr.lt, ?_, hr.sep⟩⟩
  · simp; have := hr.le; omega
  · intro o hd
    cases hx : h.get o with
    | dead => trivial
    | _ =>
      have h0 := hr.obj o hd
      have hb := h0.block (by rw [hx]; rfl)
      rw [hx] at h0
      exact h0.mono (fun o ho => ⟨ho, rfl, rfl, rfl⟩) hd (old _ hb)

/-- The heap to be read alone; one object is not there. -/
def roObj : AObj → AObj
  | .cells c _ ex es => .cells c false ex es
  | _ => .dead
def roHp (o : Nat) (h : Hp) : Hp := ⟨fun p => if p = o then .dead else roObj (h.get p), h.next⟩
theorem roObj_owned (x : AObj) : (roObj x).owned = false := by cases x <;> rfl
theorem roHp_owned (o : Nat) (h : Hp) (p : Nat) : ((roHp o h).get p).owned = false := by
  simp only [roHp]
  split
  · rfl
  · exact roObj_owned _
theorem roHp_rel {E : Emb} {base : Nat} {h : Hp} {H H' : Array Obj} {o : Nat} (hr : HRel E base h H) (hd : E.D o) (hown : (h.get o).owned = true) (hsz : H.size ≤ H'.size) (hh : ∀ b, b < H.size → b ≠ E.blk o → H'[b]? = H[b]?) : HRel E base (roHp o h) H' where
  le := Nat.le_trans hr.le hsz
  lt := hr.lt
  obj p hp := by
    by_cases e : p = o
    · simp [roHp, e]; trivial
    · have h0 := hr.obj p hp
      simp only [roHp, e, if_false]
      cases hx : h.get p with
      | dead => trivial
      | map es => trivial
      | cells c own ex es =>
        rw [hx] at h0
        have hb := h0.block rfl
        have hne : E.blk p ≠ E.blk o := fun e2 => hr.sep o p hd hp (fun q => e q.symm) hown (by rw [hx]; rfl) e2.symm
        obtain ⟨C, ty, fz, g1, g2, g3, g4, g5, g6⟩ := h0
        exact ⟨C, ty, fz, by rw [hh _ hb hne]; exact g1, g2, g3, g4, fun q => (by cases q), g6⟩
  sep p q hp hq hne ho := by rw [roHp_owned] at ho; cases ho

/-- A call that leaves the heap as it was, in a world where nothing is its own: the world is as it was but for new blocks and draws. -/
theorem call_grown {P : Program} {f : FuncId} {args : Array Value} {h : Hp} {v : Value} (hc : CallOK P f args h v h) {E : Emb} {base : Nat} {w : World} {args' : Array Value} (hr : HRel E base h w.heap) (hno : ∀ p, (h.get p).owned = false) (hv : plainV v = true)
    (hs : args.size = args'.size) (ha : ∀ i, i < args.size → VRel E (args.getD i undef) (args'.getD i undef)) :
    Calls P f args' w fun e w' => (∃ v', e = .returned v' ∧ VRel E v v') ∧ ∃ q os', w' = Sort.grow (w.drewN q) os' := by
  refine (hc E base w args' hr hs ha).mono ?_
  rintro e w' ⟨E', v', he, st, hr', hvr⟩
  have hvv : VRel E v v' := VRel.back (E := E) (E' := E') (fun o hd => (st.ext o (hr.lt o hd)).2) (VRel.ofV E hv) hvr
  refine ⟨⟨v', he, hvv⟩, w'.drawn - w.drawn, w'.heap.extract w.heap.size w'.heap.size, ?_⟩
  have hheap : w'.heap = w.heap ++ w'.heap.extract w.heap.size w'.heap.size := by
    apply Array.ext_getElem?
    intro i
    rw [Array.getElem?_append]
    split
    · rename_i hi
      exact st.keep i hi fun o _ ho => by rw [hno] at ho; cases ho
    · rename_i hi
      rw [Array.getElem?_extract]
      have := st.size
      by_cases h2 : i < w'.heap.size
      · rw [if_pos (by omega), show w.heap.size + (i - w.heap.size) = i by omega]
      · rw [if_neg (by omega), Array.getElem?_eq_none (by omega)]
  have hd := st.output.drawn
  cases w' with
  | mk heap' tape' drawn' os' output' =>
    cases w with
    | mk heap tape drawn os output =>
      simp only [Sort.grow, World.drewN] at *
      have e1 := st.tape; have e2 := st.os; have e3 := st.output.out
      simp only at e1 e2 e3
      subst e1 e2 e3
      congr 1
      omega

theorem flat2_get {β : Type} (f : β → List Value) (hf : ∀ x, (f x).length = 2) : ∀ (l : List β) (j : Nat) (hj : j / 2 < l.length), (l.flatMap f).getD j undef = (f l[j / 2]).getD (j % 2) undef
  | [], j, hj => by simp at hj
  | a :: l, j, hj => by
    have ha := hf a
    rw [List.flatMap_cons]
    by_cases h2 : j < 2
    · have e0 : j / 2 = 0 := by omega
      have e1 : j % 2 = j := by omega
      simp only [e0, List.getElem_cons_zero, e1]
      exact getD_append_left (by omega)
    · have e0 : j / 2 = (j - 2) / 2 + 1 := by omega
      have e1 : j % 2 = (j - 2) % 2 := by omega
      rw [getD_append_right (by omega), ha]
      simp only [e0, e1, List.getElem_cons_succ]
      exact flat2_get f hf l (j - 2) (by simp at hj; omega)
theorem flat2_len {β : Type} (f : β → List Value) (hf : ∀ x, (f x).length = 2) : ∀ (l : List β), (l.flatMap f).length = l.length * 2
  | [] => rfl
  | a :: l => by rw [List.flatMap_cons, List.length_append, hf, flat2_len f hf l, List.length_cons]; omega
theorem flat2_chunk {β : Type} (f : β → List Value) (hf : ∀ x, (f x).length = 2) : ∀ (l : List β) (k : Nat) (hk : k < l.length), chunk 2 (l.flatMap f) k = f l[k]
  | [], k, hk => by simp at hk
  | a :: l, 0, hk => by
    rw [List.flatMap_cons, chunk_app1 (n := 1) (by rw [hf]) (by omega)]
    exact chunk_all (hf a)
  | a :: l, k + 1, hk => by
    rw [List.flatMap_cons, chunk_app2 (n := 1) (by rw [hf]) (by omega)]
    exact flat2_chunk f hf l k (by simpa using hk)
theorem chunk_getD {cs : List Value} {i c : Nat} (hc : c < 2) : (chunk 2 cs i).getD c undef = cs.getD (i * 2 + c) undef := by
  unfold chunk
  rw [List.getD_eq_getElem?_getD, List.getElem?_take, if_pos hc, List.getElem?_drop, List.getD_eq_getElem?_getD]

/-- The concrete cells of element i. -/
def enc2 {m : Nat} (C : Array Value) (off : Nat) (i : Fin m) : List Value := [C.getD (off + i.val * 2) undef, C.getD (off + (i.val * 2 + 1)) undef]
theorem enc2_get {m : Nat} (C : Array Value) (off : Nat) (i : Fin m) (c : Nat) (hc : c < 2) : (enc2 C off i)[c]! = C.getD (off + (i.val * 2 + c)) undef := by
  rcases Nat.lt_or_ge c 1 with h | h
  · have : c = 0 := by omega
    subst this; rfl
  · have : c = 1 := by omega
    subst this; rfl

section
open Go.Sort Go.Shelf
variable {α : Type} {R R' : (Nat → Prop) → Hp → List Value → α → Prop}
set_option maxHeartbeats 4000000 in
theorem sortF_ok {P : Program} {ρ : Go.Shelf.Ren} (Ly : SlLaysF0.n6 P ρ) (aE : ∀ w, (isAgg (ρ.t 24)).run P w = .ok true w) (zE : ∀ w, (Go.sizeOf (ρ.t 24)).run P w = .ok 2 w) {g : Nat} (eg : ∀ args w, (callFunc g args).run P w = .ok (.enter g args) w)
    (hR : Steady R) (cf : α → α → Int) (hO : SWO (ltOf cf)) {n : Nat} {h : Hp} {v : Value} {L : List α} (hs : GL 2 R n h v L) (hne : L ≠ []) (hl : L.length < 2 ^ 40)
    (hro : ∀ F o u x, R F h u x → (∀ p, F p → p ≠ o) → R' F (roHp o h) u x)
    (hcmp : ∀ h' F a b x y, R' F h' a x → R' F h' b y → CallOK P g #[.agg a.toArray, .agg b.toArray] h' (.int .i64 (cf x y)) h')
    (hd : ∀ i j (hi : i < L.length) (hj : j < L.length), ltOf cf L[i] L[j] = false → ltOf cf L[j] L[i] = false → i = j) :
    ∃ h', CallOK P (ρ.f 6) #[v, .func (.func g) #[] #[]] h (.tuple #[]) h' ∧ GL 2 R n h' v (L.mergeSort fun x y => !(ltOf cf y x)) ∧ h'.next = h.next ∧ (∀ a, Adds a h → a.next ≤ n → Adds a h') ∧ ∀ o, o < n → h'.get o = h.get o := by
  rcases hs with ⟨e, _⟩ | ⟨o, ex, cs, rfl, g1, g2, g3, g4, g5⟩
  · exact absurd e hne
  have hm : 0 < L.length := List.length_pos_iff.2 hne
  generalize hI : ((List.finRange L.length).mergeSort fun i j => !(ltOf (fun a b : Fin L.length => cf L[a] L[b]) j i)) = I
  have hIl : I.length = L.length := by rw [← hI, List.length_mergeSort, List.length_finRange]
  have hL : (L.mergeSort fun x y => !(ltOf cf y x)) = I.map fun i => L[i] := by
    have hmm := List.map_mergeSort (r := fun i j : Fin L.length => !(ltOf (fun a b : Fin L.length => cf L[a] L[b]) j i)) (s := fun x y => !(ltOf cf y x)) (f := fun i : Fin L.length => L[i]) (l := List.finRange L.length) (fun a _ b _ => rfl)
    subst hI
    rw [hmm]
    congr 1
    apply List.ext_getElem
    · simp
    · intro i h1 h2; simp
  have hck : ∀ i : Fin L.length, (chunk 2 cs i.val).length = 2 := fun i => by
    have := i.isLt
    unfold chunk; simp; omega
  have hcl := flat2_len (fun i : Fin L.length => chunk 2 cs i.val) hck I
  refine ⟨h.put o (.cells (I.flatMap fun i => chunk 2 cs i.val) true ex 2), ?_, .inr ⟨o, ex, I.flatMap fun i => chunk 2 cs i.val, by simp, g1, g2, by simp [Hp.put], by rw [hcl, hIl]; simp, fun k hk => ?_⟩, rfl, ?_, ?_⟩
  · intro E base w args' hr h1 h2
    have hargs : args' = #[args'.getD 0 undef, args'.getD 1 undef] := by
      apply Array.ext
      · simpa using h1.symm
      · intro i h3 h4
        have : i < 2 := by simpa using h4
        rcases Nat.lt_or_ge i 1 with h | h
        · have : i = 0 := by omega
          subst this; simp [Array.getD_eq_getD_getElem?, h3]
        · have : i = 1 := by omega
          subst this; simp [Array.getD_eq_getD_getElem?, h3]
    have v0 := h2 0 (by simp)
    have v1 := h2 1 (by simp)
    have hform : ∃ sl, args'.getD 0 undef = .slice (some ⟨E.blk o, E.off o, none⟩) L.length sl ∧ E.D o := by
      simp only [Array.getD_eq_getD_getElem?] at v0 ⊢
      generalize (args'[0]?).getD undef = u at v0
      simp at v0
      cases v0 with
      | slice o i n c a hD hn ha =>
        rcases ha with ha | ha
        · omega
        · subst ha; exact ⟨_, rfl, hD⟩
    have hf1 : args'.getD 1 undef = .func (.func g) #[] #[] := by
      simp only [Array.getD_eq_getD_getElem?] at v1 ⊢
      generalize (args'[1]?).getD undef = u at v1
      simp at v1
      obtain ⟨f', c', rfl, hs1, hs2, _⟩ := v1.inv_func
      have e1 : f' = #[] := Array.eq_empty_of_size_eq_zero (by simpa using hs1.symm)
      have e2 : c' = #[] := Array.eq_empty_of_size_eq_zero (by simpa using hs2.symm)
      rw [e1, e2]
    obtain ⟨sl, e2, hD⟩ := hform
    rw [hargs, e2, hf1]
    have ho := hr.obj o hD
    rw [g3] at ho
    obtain ⟨C, ty, fz, c1, c2, c3, c4, c5, c6⟩ := ho
    obtain ⟨c5, c7⟩ := c5 rfl
    subst c5
    have hown : (h.get o).owned = true := by rw [g3]; rfl
    have hblk : E.blk o < w.heap.size := (Array.getElem?_eq_some_iff.1 c1).1
    haveI : Inhabited (Fin L.length) := ⟨⟨0, hm⟩⟩
    have hek : ∀ x : Fin L.length, (enc2 C (E.off o) x).length = 2 := fun _ => rfl
    have hone : ∀ x : Fin L.length, ∀ c ∈ enc2 C (E.off o) x, c.oneCell' = true := by
      intro x c hc
      have hx := x.isLt
      simp only [enc2, List.mem_cons, List.not_mem_nil, or_false] at hc
      rcases hc with rfl | rfl
      · rw [(c3 (x.val * 2) (by omega)).oneCell]; exact c4 _ (by omega)
      · rw [(c3 (x.val * 2 + 1) (by omega)).oneCell]; exact c4 _ (by omega)
    have hrel : ∀ x : Fin L.length, VRel E (.agg (chunk 2 cs x.val).toArray) (.agg (enc2 C (E.off o) x).toArray) := by
      intro x
      have hx := x.isLt
      have key : ∀ c, c < 2 → (chunk 2 cs x.val).toArray.getD c undef = cs.getD (x.val * 2 + c) undef ∧ (enc2 C (E.off o) x).toArray.getD c undef = C.getD (E.off o + (x.val * 2 + c)) undef := fun c hc => by
        refine ⟨?_, ?_⟩
        · have := chunk_getD (cs := cs) (i := x.val) hc
          simpa using this
        · have := enc2_get C (E.off o) x c hc
          rw [← this]
          rcases Nat.lt_or_ge c 1 with h | h
          · have : c = 0 := by omega
            subst this; rfl
          · have : c = 1 := by omega
            subst this; rfl
      refine .agg _ _ (by simp [hck, hek]) (fun i hi => ?_) (fun i hi => ?_)
      · have hi2 : i < 2 := by simpa [hck] using hi
        rw [(key i hi2).1]; exact c4 _ (by omega)
      · have hi2 : i < 2 := by simpa [hck] using hi
        rw [(key i hi2).1, (key i hi2).2]; exact c3 _ (by omega)
    have hblocks : ∀ (mm : Nat) (dk : Array (Fin L.length)) (os : Array Obj) b, b < w.heap.size → b ≠ E.blk o → (sortWorldK (enc2 C (E.off o)) 2 w (E.blk o) (E.off o) mm dk os).heap[b]? = w.heap[b]? := by
      intro mm dk os b hb hne
      unfold sortWorldK
      rw [Sort.heap_grow_old _ _ (by rw [size_putRowK]; exact hb)]
      simp only [putRowK, Go.Sort.putRow, Go.Sort.mapBlock, Sort.heap_ahead, Array.getElem?_modify]
      rw [if_neg (fun e => hne e.symm)]
    have hcl2 : CmpLays P g #[] (enc2 C (E.off o)) 2 (fun a b : Fin L.length => cf L[a] L[b]) (E.blk o) (E.off o) (List.finRange L.length).toArray.size w := by
      intro mm os dk hdk x y
      have hx := g5 x.val x.isLt
      have hy := g5 y.val y.isLt
      have hx2 := hro _ o _ _ hx (fun p hp => hp.2)
      have hy2 := hro _ o _ _ hy (fun p hp => hp.2)
      have hW : HRel E base (roHp o h) (sortWorldK (enc2 C (E.off o)) 2 w (E.blk o) (E.off o) mm dk os).heap := roHp_rel hr hD hown (size_sortWorldK_c _ _ _ _ _ _ _ _) fun b hb hne => hblocks mm dk os b hb hne
      refine (call_grown (hcmp (roHp o h) _ _ _ _ _ hx2 hy2) hW (roHp_owned o h) rfl (args' := #[.agg (enc2 C (E.off o) x).toArray, .agg (enc2 C (E.off o) y).toArray] ++ #[]) rfl (fun i hi => ?_)).mono ?_
      · have hi2 : i < 2 := by simpa using hi
        rcases Nat.lt_or_ge i 1 with h | h
        · have : i = 0 := by omega
          subst this; exact hrel x
        · have : i = 1 := by omega
          subst this; exact hrel y
      · rintro e w' ⟨⟨v', he, hv'⟩, q, os', hw'⟩
        rw [hv'.inv_int] at he
        exact ⟨he, q, os', hw'⟩
    have hHK : HoldsK (enc2 C (E.off o)) 2 w (E.blk o) (E.off o) (List.finRange L.length).toArray := by
      intro j hj
      have hj' : j < L.length * 2 := by simpa using hj
      rw [get_flatK _ _ _ _ (by simpa using hj'), enc2_get _ _ _ _ (Nat.mod_lt _ (by omega))]
      have hdj : ((List.finRange L.length).toArray[j / 2]!).val = j / 2 := by
        rw [getElem!_pos _ _ (by simp; omega)]; simp
      rw [hdj, show j / 2 * 2 + j % 2 = j by omega]
      have hc : E.off o + j < C.size := by omega
      refine ⟨?_, by simp [World.frozen?, c1]⟩
      simp only [World.cell?, c1, Array.getD_eq_getD_getElem?, Array.getElem?_eq_getElem hc]
      rfl
    have hsz : (List.finRange L.length).toArray.size = L.length := by simp
    have hO2 : SWO (ltOf fun a b : Fin L.length => cf L[a] L[b]) := ⟨fun a => hO.irrefl L[a], fun a b c => hO.trans L[a] L[b] L[c], fun a b c => hO.ntrans L[a] L[b] L[c]⟩
    have hsort0 := AnyQ.slices_SortFunc Ly 2 aE zE (enc2 C (E.off o)) hek hone (fun a b : Fin L.length => cf L[a] L[b]) hO2 g #[] (E.blk o) (E.off o) sl (List.finRange L.length).toArray w eg hcl2 hHK hblk (by simp; omega)
    have hT : ∀ x y : Fin L.length, ltOf (fun a b : Fin L.length => cf L[a] L[b]) x y = false → ltOf (fun a b : Fin L.length => cf L[a] L[b]) y x = false → x = y := fun x y h1 h2 => Fin.ext (hd x.val y.val x.isLt y.isLt h1 h2)
    simp only [hsz] at hsort0
    refine hsort0.mono ?_
    rintro e w' ⟨rfl, d', mm, os, hp, hss, rfl⟩
    have hd' : d' = I.toArray := by
      have := sorted_unique_holds hO2 hT (List.finRange L.length).toArray d' (by rw [hsz]; exact hp) (by rw [hsz]; exact hss)
      rw [List.toList_toArray, hI] at this
      rw [← this]
    subst hd'
    have hfs : (flatK (enc2 C (E.off o)) 2 I.toArray).size = L.length * 2 := by simp [hIl]
    have step1 := step_put (w' := putRowK (enc2 C (E.off o)) 2 (Sort.ahead w mm) (E.blk o) (E.off o) I.toArray) hr o (.cells (I.flatMap fun i => chunk 2 cs i.val) true ex 2) hD hown (by rw [size_putRowK]; simp)
      (fun b hb => by
        simp only [putRowK, Go.Sort.putRow, Go.Sort.mapBlock, Sort.heap_ahead, Array.getElem?_modify]
        rw [if_neg (fun e => hb e.symm)]) rfl rfl ⟨rfl, Nat.le_add_right _ _⟩
      ⟨Go.Sort.putCells id (E.off o) (flatK (enc2 C (E.off o)) 2 I.toArray) C, ty, (0, 0), by simp [putRowK, Go.Sort.putRow, Go.Sort.mapBlock, Array.getElem?_modify, c1, Go.Sort.onCells], by
        rw [hcl, hIl]; simp only [Go.Sort.putCells, Array.size_mapIdx]; omega, fun j hj => by
        rw [hcl, hIl] at hj
        have hj2 : j / 2 < I.length := by omega
        have hi := (I[j / 2]).isLt
        rw [flat2_get _ hck I j hj2, chunk_getD (Nat.mod_lt _ (by omega))]
        have hc : E.off o + j < C.size := by omega
        have e1 : (Go.Sort.putCells id (E.off o) (flatK (enc2 C (E.off o)) 2 I.toArray) C).getD (E.off o + j) undef = (flatK (enc2 C (E.off o)) 2 I.toArray)[j]! := by
          simp only [Go.Sort.putCells, Array.getD_eq_getD_getElem?, Array.getElem?_mapIdx, Array.getElem?_eq_getElem hc, Option.map_some, Option.getD_some]
          rw [if_pos ⟨by omega, by rw [hfs]; omega⟩, show E.off o + j - E.off o = j by omega]; rfl
        rw [e1, get_flatK _ _ _ _ (by simp [hIl]; omega), enc2_get _ _ _ _ (Nat.mod_lt _ (by omega))]
        have e3 : (I.toArray[j / 2]!) = I[j / 2] := by rw [getElem!_pos _ _ (by simpa using hj2)]; simp
        rw [e3]
        exact c3 _ (by omega), fun j hj => by
        rw [hcl, hIl] at hj
        have hj2 : j / 2 < I.length := by omega
        have hi := (I[j / 2]).isLt
        rw [flat2_get _ hck I j hj2, chunk_getD (Nat.mod_lt _ (by omega))]
        exact c4 _ (by omega), fun _ => ⟨rfl, c7⟩, c6⟩
    obtain ⟨s1, r1⟩ := step1
    obtain ⟨s2, r2⟩ := step_grow os r1
    exact ⟨E, _, rfl, s1.trans s2, r2, .tuple _ _ rfl (fun i hi => absurd hi (by simp))⟩
  · have hk2 : k < I.length := by simpa [hL] using hk
    rw [flat2_chunk _ hck I k hk2]
    have e : (L.mergeSort fun x y => !(ltOf cf y x))[k] = L[I[k]] := by simp only [hL, List.getElem_map]
    rw [e]
    exact hR.mono _ _ h _ _ _ (g5 (I[k]).val (I[k]).isLt) (fun _ h => h) ⟨Nat.le_refl _, fun x hx _ => by simp [Hp.put, hx.2]⟩
  · intro a ha hn
    exact ha.wr (S := fun i => i = o) (Wr.put (S := fun i => i = o) (Wr.refl _ h) (o := o) rfl (fun _ => rfl)) (fun i hi => by omega)
  · intro i hi
    simp [Hp.put, show i ≠ o by omega]
end
end Go.Eng
