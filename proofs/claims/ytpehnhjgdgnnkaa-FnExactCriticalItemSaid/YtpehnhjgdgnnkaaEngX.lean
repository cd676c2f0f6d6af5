/- Slices of things that lie in objects of their own (rows): they may be written, row by row; growing by one. -/
import Derived.Test.YtpehnhjgdgnnkaaEngW
namespace Go.Eng

theorem IntsO.lenD {S : Nat → Prop} {h : Hp} {v : Value} {xs : List Int} (hs : IntsO S h v xs) : ∀ (P : Program) (t : TypeId), Go.Eng.lenD P t v = (elT P t).map fun _ => .int .i64 xs.length := hs.ints.lenD
theorem IntsO.nt {S : Nat → Prop} {h : Hp} {v : Value} {xs : List Int} (hs : IntsO S h v xs) : notTup v = true := hs.ints.nt
theorem IntsO.cs {S : Nat → Prop} {h : Hp} {v : Value} {xs : List Int} (hs : IntsO S h v xs) : v.cells = #[v] := hs.ints.cs
theorem IntsO.open {S : Nat → Prop} {h : Hp} {v : Value} {xs : List Int} (hs : IntsO S h v xs) (hne : 0 < xs.length) :
    ∃ o i c cs ex, v = .slice (some ⟨o, i, none⟩) xs.length c ∧ S o ∧ o < h.next ∧ h.get o = .cells cs true ex 1 ∧ i + xs.length ≤ cs.length ∧ ∀ k (hk : k < xs.length) (h2 : i + k < cs.length), cs[i + k] = .int .i64 xs[k] := by
  obtain ⟨s, c, e, h1, h2, h3⟩ := hs
  rcases h3 with h3 | ⟨o, i, cs, ex, g1, g2, g3, g4, g5, g6⟩
  · omega
  · exact ⟨o, i, c, cs, ex, by rw [e, g1], g2, g3, g4, by omega, fun k hk h2 => by have := g6 k hk; rw [List.getElem?_eq_getElem h2] at this; exact Option.some.inj this⟩
theorem IntsO.write {S : Nat → Prop} {h : Hp} {v : Value} {xs : List Int} {o i c : Nat} {cs : List Value} {ex : Bool} {k : Nat} (hs : IntsO S h v xs) (hv : v = .slice (some ⟨o, i, none⟩) xs.length c) (hk : k < xs.length) (hg : h.get o = .cells cs true ex 1) (x : Int) :
    IntsO S (h.put o (.cells (putCells cs (i + k) [.int .i64 x]) true ex 1)) v (xs.set k x) := by
  subst hv; exact hs.set hk hg x

/-- Only objects of S are changed. -/
def Upd (S : Nat → Prop) (h h' : Hp) : Prop := h.next ≤ h'.next ∧ ∀ o, o < h.next → ¬ S o → h'.get o = h.get o
theorem Upd.refl (S : Nat → Prop) (h : Hp) : Upd S h h := ⟨Nat.le_refl _, fun _ _ _ => rfl⟩
theorem Upd.trans {S : Nat → Prop} {a b c : Hp} (k : Upd S a b) (l : Upd S b c) : Upd S a c := ⟨Nat.le_trans k.1 l.1, fun o ho hs => (l.2 o (Nat.lt_of_lt_of_le ho k.1) hs).trans (k.2 o ho hs)⟩
theorem Upd.of_keeps {S : Nat → Prop} {h h' : Hp} (k : Keeps h h') : Upd S h h' := ⟨k.1, fun o ho _ => k.2 o ho⟩
theorem Upd.put {S : Nat → Prop} {h h' : Hp} (k : Upd S h h') {o : Nat} (ho : S o) (x : AObj) : Upd S h (h'.put o x) := ⟨k.1, fun i hi hs => by simp [show i ≠ o from fun e => hs (e ▸ ho), k.2 i hi hs]⟩
theorem Upd.mono {S T : Nat → Prop} {h h' : Hp} (k : Upd S h h') (hst : ∀ o, o < h.next → S o → T o) : Upd T h h' := ⟨k.1, fun o ho hs => k.2 o ho fun e => hs (hst o ho e)⟩
theorem Upd.keeps {S : Nat → Prop} {a h h' : Hp} (k : Upd S h h') (ha : Keeps a h) (hs : ∀ o, S o → a.next ≤ o) : Keeps a h' :=
  ⟨Nat.le_trans ha.1 k.1, fun o ho => (k.2 o (Nat.lt_of_lt_of_le ho ha.1) fun e => by have := hs o e; omega).trans (ha.2 o ho)⟩
theorem Upd.same {S T : Nat → Prop} {h h' : Hp} (k : Upd S h h') (hd : ∀ o, T o → ¬ S o) : Same T h h' := ⟨k.1, fun o ht ho => k.2 o ho (hd o ht)⟩
theorem Adds.keeps {h h' : Hp} (k : Adds h h') : Keeps h h' := k.1
theorem Same.keeps {S : Nat → Prop} {h h' : Hp} (k : Keeps h h') : Same S h h' := .of_keeps k

theorem zarr_list (z : Value) (n : Nat) : zarr #[z] n = (List.replicate n z).toArray := by
  unfold zarr
  apply Array.ext
  · simp
  · intro i h1 h2
    simp at h1
    simp [Nat.mod_one]
@[simp] theorem zarr_0 (z : Value) : zarr #[z] 0 = #[] := by rw [zarr_list]; rfl
@[simp] theorem zarr_1 (z : Value) : zarr #[z] 1 = #[z] := by rw [zarr_list]; rfl
@[simp] theorem zarr_2 (z : Value) : zarr #[z] 2 = #[z, z] := by rw [zarr_list]; rfl
@[simp] theorem zarr_3 (z : Value) : zarr #[z] 3 = #[z, z, z] := by rw [zarr_list]; rfl
@[simp] theorem zarr_4 (z : Value) : zarr #[z] 4 = #[z, z, z, z] := by rw [zarr_list]; rfl
@[simp] theorem zarr_5 (z : Value) : zarr #[z] 5 = #[z, z, z, z, z] := by rw [zarr_list]; rfl
@[simp] theorem zarr_6 (z : Value) : zarr #[z] 6 = #[z, z, z, z, z, z] := by rw [zarr_list]; rfl
@[simp] theorem zarr_7 (z : Value) : zarr #[z] 7 = #[z, z, z, z, z, z, z] := by rw [zarr_list]; rfl
@[simp] theorem zarr_8 (z : Value) : zarr #[z] 8 = #[z, z, z, z, z, z, z, z] := by rw [zarr_list]; rfl
@[simp] theorem zarr_9 (z : Value) : zarr #[z] 9 = #[z, z, z, z, z, z, z, z, z] := by rw [zarr_list]; rfl
@[simp] theorem all_none {α : Type} (p : α → Bool) : (#[] : Array α).all p 0 0 = true := by simp [Array.all]
attribute [simp] Instr.fill

def partsOk (tm : Nat → Value) : List (Nat × Operand) → Bool
  | [] => true
  | q :: l => okX q.2 && notTup (ev tm q.2) && partsOk tm l
def partsV (tm : Nat → Value) : List (Nat × Operand) → List (Nat × Value)
  | [] => []
  | q :: l => (q.1, ev tm q.2) :: partsV tm l
theorem partsOk_eq (tm : Nat → Value) (parts : Array (Nat × Operand)) : (parts.all (fun q => okX q.2) && parts.all (fun q => notTup (ev tm q.2))) = partsOk tm parts.toList := by
  rw [← Array.all_toList, ← Array.all_toList]
  induction parts.toList with
  | nil => rfl
  | cons q l ih =>
    simp only [List.all_cons, partsOk, ← ih]
    generalize okX q.2 = a
    generalize notTup (ev tm q.2) = b
    generalize (l.all fun q => okX q.2) = c
    generalize (l.all fun q => notTup (ev tm q.2)) = d
    cases a <;> cases b <;> cases c <;> cases d <;> rfl
theorem partsV_eq (tm : Nat → Value) (parts : Array (Nat × Operand)) : (parts.map fun (i, x) => (i, ev tm x)).toList = partsV tm parts.toList := by
  rw [Array.toList_map]
  induction parts.toList with
  | nil => rfl
  | cons q l ih => simp only [List.map_cons, partsV, ← ih]
def buildX (P : Program) (t : TypeId) (l : List (Nat × Value)) : Option Value := match zeroT P t with
  | some z => if plainV z && notTup z then
      match placesT P t with
      | some pl => (Instr.fill (pl[·]?) z.cells l).map fun r => .agg r
      | none => match arT P t with
        | some (_, e) => match szT P e with
          | some m => (Instr.fill (fun i => some (i * m, m)) z.cells l).map fun r => .agg r
          | none => none
        | none => none
    else none
  | none => none
def litX (P : Program) (t : TypeId) (n : Nat) (l : List (Nat × Value)) (h : Hp) : Option (Value × Hp) := match elT P t with
  | some e => match szT P e, zeroT P e with
    | some m, some z => if plainV z && notTup z && decide (z.cells.size = m) && decide (n * m ≤ 2 ^ 24) then
        match Instr.fill (fun i => some (i * m, m)) (zarr z.cells (n * m)) l with
        | some r => if r.size = n * m then some (.slice (some ⟨h.next, 0, none⟩) n n, h.alloc (.cells r.toList true true m)) else none
        | none => none
      else none
    | _, _ => none
  | none => none
@[simp ↓ high] theorem opD_build (P : Program) (t : TypeId) (parts : Array (Nat × Operand)) (tm : Nat → Value) (h : Hp) : opD P (.build t parts) tm h =
    if partsOk tm parts.toList = true then (buildX P t (partsV tm parts.toList)).map fun v => (v, h) else none := by
  simp only [opD, partsOk_eq, partsV_eq, buildX]
  by_cases hp : partsOk tm parts.toList = true
  · rw [if_pos hp, if_pos hp]
    cases hz : zeroT P t with
    | none => rfl
    | some z =>
      simp only
      by_cases hb : (plainV z && notTup z) = true
      · rw [if_pos hb, if_pos hb]
        cases hq : placesT P t with
        | some pl => simp only [Option.map_map, Function.comp_def]
        | none =>
          cases ha : arT P t with
          | none => rfl
          | some q =>
            obtain ⟨n, e⟩ := q
            simp only
            cases hs : szT P e with
            | none => rfl
            | some m => simp only [Option.map_map, Function.comp_def]
      · rw [if_neg hb, if_neg hb]; rfl
  · rw [if_neg hp, if_neg hp]
@[simp ↓ high] theorem opD_buildSlice (P : Program) (t : TypeId) (n : Nat) (parts : Array (Nat × Operand)) (tm : Nat → Value) (h : Hp) : opD P (.buildSlice t n parts) tm h =
    if partsOk tm parts.toList = true then litX P t n (partsV tm parts.toList) h else none := by
  simp only [opD, partsOk_eq, partsV_eq, litX]
  rfl
@[simp] theorem partsOk_nil (tm : Nat → Value) : partsOk tm [] = true := rfl
@[simp] theorem partsOk_cons (tm : Nat → Value) (i : Nat) (x : Operand) (l : List (Nat × Operand)) : partsOk tm ((i, x) :: l) = (okX x && notTup (ev tm x) && partsOk tm l) := rfl
@[simp] theorem partsV_nil (tm : Nat → Value) : partsV tm [] = [] := rfl
@[simp] theorem partsV_cons (tm : Nat → Value) (i : Nat) (x : Operand) (l : List (Nat × Operand)) : partsV tm ((i, x) :: l) = (i, ev tm x) :: partsV tm l := rfl
attribute [simp] buildX litX

/-- Rows, each in objects of its own, within S. -/
def IRowsO (S : Nat → Prop) (h : Hp) (v : Value) (L : List (List Int)) : Prop :=
  ∃ s c, v = .slice s L.length c ∧ L.length ≤ c ∧ c < 2 ^ 63 ∧ (L.length = 0 ∨ ∃ o i cs ex, ∃ us : Nat → Value, ∃ T : Nat → Nat → Prop, s = some ⟨o, i, none⟩ ∧ S o ∧ o < h.next ∧ h.get o = .cells cs true ex 1 ∧ i + c ≤ cs.length ∧
    (∀ k, k < L.length → cs[i + k]?.getD undef = us k) ∧ (∀ k x, T k x → S x ∧ x ≠ o) ∧ (∀ k k' x, T k x → T k' x → k = k') ∧ ∀ k (hk : k < L.length), IntsO (T k) h (us k) L[k])

theorem IRowsO.open {S : Nat → Prop} {h : Hp} {v : Value} {L : List (List Int)} (hs : IRowsO S h v L) (hne : 0 < L.length) :
    ∃ o i c cs ex, ∃ us : Nat → Value, ∃ T : Nat → Nat → Prop, v = .slice (some ⟨o, i, none⟩) L.length c ∧ S o ∧ o < h.next ∧ h.get o = .cells cs true ex 1 ∧ i + L.length ≤ cs.length ∧
      (∀ k, k < L.length → cs[i + k]?.getD undef = us k) ∧ (∀ k x, T k x → S x ∧ x ≠ o) ∧ (∀ k k' x, T k x → T k' x → k = k') ∧ ∀ k (hk : k < L.length), IntsO (T k) h (us k) L[k] := by
  obtain ⟨s, c, e, h1, h2, h3⟩ := hs
  rcases h3 with h3 | ⟨o, i, cs, ex, us, T, g1, g2, g3, g4, g5, g6, g7, g8, g9⟩
  · omega
  · exact ⟨o, i, c, cs, ex, us, T, by rw [e, g1], g2, g3, g4, by omega, g6, g7, g8, g9⟩
theorem IRowsO.rows {S : Nat → Prop} {h : Hp} {v : Value} {L : List (List Int)} (hs : IRowsO S h v L) : IRows h v L := by
  obtain ⟨s, c, e, h1, h2, h3⟩ := hs
  refine ⟨s, c, e, h1, h2, fun k x hk => ?_⟩
  obtain ⟨hk', ek⟩ := List.getElem?_eq_some_iff.1 hk
  subst ek
  rcases h3 with h3 | ⟨o, i, cs, ex, us, T, g1, g2, g3, g4, g5, g6, g7, g8, g9⟩
  · omega
  · refine ⟨o, i, cs, true, ex, 1, g1, g3, g4, by omega, ?_⟩
    rw [List.getD_eq_getElem?_getD, g6 k hk']
    exact (g9 k hk').ints
theorem IRowsO.same {S : Nat → Prop} {h h' : Hp} (k : Same S h h') {v : Value} {L : List (List Int)} (hs : IRowsO S h v L) : IRowsO S h' v L := by
  obtain ⟨s, c, e, h1, h2, h3⟩ := hs
  refine ⟨s, c, e, h1, h2, h3.imp id ?_⟩
  rintro ⟨o, i, cs, ex, us, T, g1, g2, g3, g4, g5, g6, g7, g8, g9⟩
  exact ⟨o, i, cs, ex, us, T, g1, g2, Nat.lt_of_lt_of_le g3 k.1, by rw [k.2 o g2 g3]; exact g4, g5, g6, g7, g8, fun q hq => (g9 q hq).same ⟨k.1, fun o ho ho' => k.2 o (g7 q o ho).1 ho'⟩⟩
theorem IRowsO.keep {S : Nat → Prop} {h h' : Hp} (k : Keeps h h') {v : Value} {L : List (List Int)} (hs : IRowsO S h v L) : IRowsO S h' v L := hs.same (.of_keeps k)
theorem IRowsO.sub {S T : Nat → Prop} (hst : ∀ o, S o → T o) {h : Hp} {v : Value} {L : List (List Int)} (hs : IRowsO S h v L) : IRowsO T h v L := by
  obtain ⟨s, c, e, h1, h2, h3⟩ := hs
  exact ⟨s, c, e, h1, h2, h3.imp id fun ⟨o, i, cs, ex, us, T, g1, g2, g3, g4, g5, g6, g7, g8, g9⟩ => ⟨o, i, cs, ex, us, T, g1, hst o g2, g3, g4, g5, g6, fun k x hk => ⟨hst x (g7 k x hk).1, (g7 k x hk).2⟩, g8, g9⟩⟩
theorem IRowsO.lenD {S : Nat → Prop} {h : Hp} {v : Value} {xs : List (List Int)} (hs : IRowsO S h v xs) : ∀ (P : Program) (t : TypeId), Go.Eng.lenD P t v = (elT P t).map fun _ => .int .i64 xs.length := hs.rows.lenD
theorem IRowsO.nt {S : Nat → Prop} {h : Hp} {v : Value} {xs : List (List Int)} (hs : IRowsO S h v xs) : notTup v = true := hs.rows.nt
theorem IRowsO.cs {S : Nat → Prop} {h : Hp} {v : Value} {xs : List (List Int)} (hs : IRowsO S h v xs) : v.cells = #[v] := hs.rows.cs

/-- One row is written. -/
theorem IRowsO.row {S : Nat → Prop} {h h' : Hp} {v : Value} {L : List (List Int)} {o i c : Nat} {cs : List Value} {ex : Bool} {us : Nat → Value} {T : Nat → Nat → Prop} (hs : IRowsO S h v L) (hv : v = .slice (some ⟨o, i, none⟩) L.length c)
    (hS : S o) (ho : o < h.next) (hg : h.get o = .cells cs true ex 1) (_hl : i + L.length ≤ cs.length) (hu : ∀ k, k < L.length → cs[i + k]?.getD undef = us k) (hT : ∀ k x, T k x → S x ∧ x ≠ o)
    (hd : ∀ k k' x, T k x → T k' x → k = k') (hr : ∀ k (hk : k < L.length), IntsO (T k) h (us k) L[k]) {k : Nat} (_hk : k < L.length) {r : List Int} (hu' : Upd (T k) h h') (hr' : IntsO (T k) h' (us k) r) : IRowsO S h' v (L.set k r) := by
  obtain ⟨s, c', e, h1, h2, h3⟩ := hs
  rw [hv] at e
  cases e
  have hlc : i + c ≤ cs.length := by
    rcases h3 with h3 | ⟨o', i', cs', ex', us', T', g1, g2, g3, g4, g5, _⟩
    · omega
    · cases g1; rw [hg] at g4; cases g4; exact g5
  refine ⟨some ⟨o, i, none⟩, c, by simp [hv], by simpa using h1, h2, .inr ⟨o, i, cs, ex, us, T, rfl, hS, Nat.lt_of_lt_of_le ho hu'.1, by rw [hu'.2 o ho fun q => (hT k o q).2 rfl]; exact hg, hlc, fun q hq => hu q (by simpa using hq), hT, hd, fun q hq => ?_⟩⟩
  rw [List.getElem_set]
  by_cases e : k = q
  · subst e; simpa using hr'
  · rw [if_neg e]
    exact (hr q (by simpa using hq)).same (hu'.same fun x hx hx' => e (hd k q x hx' hx))

theorem IntsO.cut {S : Nat → Prop} {h : Hp} {v : Value} {xs : List Int} (hs : IntsO S h v xs) : IntsO (fun x => S x ∧ x < h.next) h v xs := by
  obtain ⟨s, c, e, h1, h2, h3⟩ := hs
  exact ⟨s, c, e, h1, h2, h3.imp id fun ⟨o, i, cs, ex, g1, g2, g3, g⟩ => ⟨o, i, cs, ex, g1, ⟨g2, g3⟩, g3, g⟩⟩
theorem IRowsO.cut {S : Nat → Prop} {h : Hp} {v : Value} {L : List (List Int)} (hs : IRowsO S h v L) : IRowsO (fun x => S x ∧ x < h.next) h v L := by
  obtain ⟨s, c, e, h1, h2, h3⟩ := hs
  exact ⟨s, c, e, h1, h2, h3.imp id fun ⟨o, i, cs, ex, us, T, g1, g2, g3, g4, g5, g6, g7, g8, g9⟩ => ⟨o, i, cs, ex, us, fun k x => T k x ∧ x < h.next, g1, ⟨g2, g3⟩, g3, g4, g5, g6, fun k x hk => ⟨⟨(g7 k x hk.1).1, hk.2⟩, (g7 k x hk.1).2⟩,
    fun k k' x hk hk' => g8 k k' x hk.1 hk'.1, fun k hk => by
      obtain ⟨s', c', e', i1, i2, i3⟩ := g9 k hk
      exact ⟨s', c', e', i1, i2, i3.imp id fun ⟨o, i, cs, ex, j1, j2, j3, j⟩ => ⟨o, i, cs, ex, j1, ⟨j2, j3⟩, j3, j⟩⟩⟩⟩

theorem IRowsO.nil (S : Nat → Prop) (h : Hp) : IRowsO S h (.slice none 0 0) [] := ⟨none, 0, rfl, Nat.le_refl _, by decide, .inl rfl⟩

/-- Rows that are being made: each in objects of its own, from n on, none of them in the object o. -/
def RowsB (n o : Nat) (h : Hp) (us : List Value) (L : List (List Int)) : Prop :=
  us.length = L.length ∧ ∃ T : Nat → Nat → Prop, (∀ k x, T k x → n ≤ x ∧ x < h.next ∧ x ≠ o) ∧ (∀ k k' x, T k x → T k' x → k = k') ∧ ∀ k (hk : k < L.length), IntsO (T k) h (us.getD k undef) L[k]
theorem RowsB.nil (n o : Nat) (h : Hp) : RowsB n o h [] [] := ⟨rfl, fun _ _ => False, fun _ _ h => h.elim, fun _ _ _ h => h.elim, fun k hk => absurd hk (by simp)⟩
theorem RowsB.same {n o : Nat} {h h' : Hp} {us : List Value} {L : List (List Int)} (hs : RowsB n o h us L) (k : Same (fun x => n ≤ x ∧ x ≠ o) h h') : RowsB n o h' us L := by
  obtain ⟨h1, T, h2, h3, h4⟩ := hs
  exact ⟨h1, T, fun q x hq => ⟨(h2 q x hq).1, Nat.lt_of_lt_of_le (h2 q x hq).2.1 k.1, (h2 q x hq).2.2⟩, h3, fun q hq => (h4 q hq).same ⟨k.1, fun x hx hx' => k.2 x ⟨(h2 q x hx).1, (h2 q x hx).2.2⟩ hx'⟩⟩
theorem RowsB.other {n o p : Nat} {h : Hp} {us : List Value} {L : List (List Int)} (hs : RowsB n o h us L) (hp : h.next ≤ p) : RowsB n p h us L := by
  obtain ⟨h1, T, h2, h3, h4⟩ := hs
  exact ⟨h1, T, fun q x hq => ⟨(h2 q x hq).1, (h2 q x hq).2.1, by have := (h2 q x hq).2.1; omega⟩, h3, h4⟩
theorem RowsB.snoc {n o : Nat} {h h' : Hp} {us : List Value} {L : List (List Int)} {u : Value} {r : List Int} (hs : RowsB n o h us L) (hk : Keeps h h') (ho : o < h.next) (hn : n ≤ h.next) (hr : IntsO (Btw h.next h'.next) h' u r) : RowsB n o h' (us ++ [u]) (L ++ [r]) := by
  have hs' := hs.same (.of_keeps hk)
  obtain ⟨h1, T, h2, h3, h4⟩ := hs
  obtain ⟨_, _⟩ := hs'
  refine ⟨by simp [h1], fun k x => if k < L.length then T k x else k = L.length ∧ Btw h.next h'.next x, fun k x hx => ?_, fun k k' x hx hx' => ?_, fun k hk' => ?_⟩
  · by_cases e : k < L.length
    · simp only [e, if_true] at hx; have := h2 k x hx; have := hk.1; omega
    · simp only [e, if_false] at hx; have := hx.2; unfold Btw at this; omega
  · by_cases e : k < L.length <;> by_cases e' : k' < L.length <;> simp only [e, e', if_true, if_false] at hx hx'
    · exact h3 k k' x hx hx'
    · have := h2 k x hx; have := hx'.2; unfold Btw at this; omega
    · have := h2 k' x hx'; have := hx.2; unfold Btw at this; omega
    · omega
  · by_cases e : k < L.length
    · simp only [e, if_true]
      rw [List.getElem_append_left e, show (us ++ [u]).getD k undef = us.getD k undef from getD_append_left (by omega)]
      exact (h4 k e).keep hk
    · have ek : k = L.length := by simp at hk'; omega
      subst ek
      have : (us ++ [u]).getD L.length undef = u := by simp [List.getD_eq_getElem?_getD, ← h1]
      rw [this]
      have e2 : (fun x => if L.length < L.length then T L.length x else L.length = L.length ∧ Btw h.next h'.next x) = Btw h.next h'.next := by funext x; simp
      show IntsO (fun x => if L.length < L.length then T L.length x else L.length = L.length ∧ Btw h.next h'.next x) h' u _
      rw [e2]
      simpa using hr

/-- A slice of rows that grows by append: none, or a whole new object of n and beyond. -/
def IRowsA (n : Nat) (h : Hp) (v : Value) (L : List (List Int)) : Prop :=
  (L = [] ∧ v = .slice none 0 0) ∨ ∃ o ex us, v = .slice (some ⟨o, 0, none⟩) L.length L.length ∧ n ≤ o ∧ o < h.next ∧ h.get o = .cells us true ex 1 ∧ RowsB n o h us L
theorem IRowsA.own {n : Nat} {h : Hp} {v : Value} {L : List (List Int)} (hs : IRowsA n h v L) (hl : L.length < 2 ^ 63) : IRowsO (Btw n h.next) h v L := by
  rcases hs with ⟨rfl, rfl⟩ | ⟨o, ex, us, rfl, h1, h2, h3, h4, T, h5, h6, h7⟩
  · exact .nil _ _
  · refine ⟨_, _, rfl, Nat.le_refl _, hl, .inr ⟨o, 0, us, ex, fun k => us.getD k undef, T, rfl, ⟨h1, h2⟩, h2, h3, by omega, fun k _ => by simp, fun k x hk => ⟨⟨(h5 k x hk).1, (h5 k x hk).2.1⟩, (h5 k x hk).2.2⟩, h6, h7⟩⟩
theorem IRowsA.keep {n : Nat} {h h' : Hp} (k : Keeps h h') {v : Value} {L : List (List Int)} (hs : IRowsA n h v L) : IRowsA n h' v L := by
  rcases hs with ⟨rfl, rfl⟩ | ⟨o, ex, us, rfl, h1, h2, h3, h4⟩
  · exact .inl ⟨rfl, rfl⟩
  · exact .inr ⟨o, ex, us, rfl, h1, Nat.lt_of_lt_of_le h2 k.1, by rw [k.2 o h2]; exact h3, h4.same (.of_keeps k)⟩
theorem IRowsA.nt {n : Nat} {h : Hp} {v : Value} {L : List (List Int)} (hs : IRowsA n h v L) : notTup v = true := by
  rcases hs with ⟨rfl, rfl⟩ | ⟨o, ex, us, rfl, _⟩ <;> rfl
theorem IRowsA.lenD {n : Nat} {h : Hp} {v : Value} {L : List (List Int)} (hs : IRowsA n h v L) (P : Program) (t : TypeId) : Go.Eng.lenD P t v = (elT P t).map fun _ => .int .i64 L.length := by
  rcases hs with ⟨rfl, rfl⟩ | ⟨o, ex, us, rfl, _⟩ <;> simp
theorem IntsA.nt {n : Nat} {h : Hp} {v : Value} {L : List Int} (hs : IntsA n h v L) : notTup v = true := by
  rcases hs with ⟨rfl, rfl⟩ | ⟨o, ex, rfl, _⟩ <;> rfl
theorem IntsA.lenD {n : Nat} {h : Hp} {v : Value} {L : List Int} (hs : IntsA n h v L) (P : Program) (t : TypeId) : Go.Eng.lenD P t v = (elT P t).map fun _ => .int .i64 L.length := by
  rcases hs with ⟨rfl, rfl⟩ | ⟨o, ex, rfl, _⟩ <;> simp
theorem IntsA.nil (n : Nat) (h : Hp) : IntsA n h (.slice none 0 0) [] := .inl ⟨rfl, rfl⟩
theorem IRowsA.nil (n : Nat) (h : Hp) : IRowsA n h (.slice none 0 0) [] := .inl ⟨rfl, rfl⟩
/-- A slice literal without elements. -/
theorem IntsA.lit {n : Nat} {h : Hp} {o : Nat} {ex : Bool} (h1 : n ≤ o) (h2 : o < h.next) (h3 : h.get o = .cells [] true ex 1) : IntsA n h (.slice (some ⟨o, 0, none⟩) 0 0) [] := .inr ⟨o, ex, rfl, h1, h2, h3⟩

section
variable {P : Program}
theorem append_row {n : Nat} {h0 h1 h : Hp} {v : Value} {L : List (List Int)} {t t' e q b : Nat} {u : Value} {r : List Int} {qx : Bool} (hs : IRowsA n h1 v L) (hk1 : Keeps h1 h) (hu : IntsO (Btw h1.next h.next) h u r) 
    (h1t : elT P t = some e) (h2 : szT P e = some 1) (h3 : zeroT P e = some (.slice none 0 0)) (h4 : byT P e = some b)
    (hb : b ≠ 0) (hb8 : b ≤ 24) (h5 : srcT P t' = true) (hq : h.get q = .cells [u] true qx 1) (hl : L.length < 2 ^ 40) (hn : n ≤ h1.next) (hA : Adds h0 h) (h0n : h0.next ≤ n) :
    ∃ v' h', appendD P t t' v (.slice (some ⟨q, 0, none⟩) 1 1) h = some (v', h') ∧ IRowsA n h' v' (L ++ [r]) ∧ Adds h0 h' ∧ h.next < h'.next ∧ ∀ o, o < h.next → o < n → h'.get o = h.get o := by
  have hsrc : srcV h 1 (.slice (some ⟨q, 0, none⟩) 1 1) = some (1, [u]) := by simp [srcV, srcW, hq]
  have hbb : (L.length + 1) * b ≤ 140737488355328 := Nat.le_trans (Nat.mul_le_mul (Nat.succ_le_of_lt hl) hb8) (by decide)
  have hbb1 : b ≤ 140737488355328 := Nat.le_trans hb8 (by decide)
  have hhn : h1.next ≤ h.next := hk1.1
  rcases hs with ⟨rfl, rfl⟩ | ⟨o, ex, us, rfl, g1, g2, g3, g4⟩
  · have hB : RowsB n h.next (h.alloc (.cells [u] true false 1)) [u] [r] := by
      refine ⟨rfl, fun k x => k = 0 ∧ Btw h1.next h.next x, fun k x hx => ?_, fun k k' x hx hx' => by omega, fun k hk => ?_⟩
      · have := hx.2; unfold Btw at this; simp; omega
      · have hk0 : k = 0 := by simp at hk; exact hk
        subst hk0
        have e2 : (fun x => 0 = 0 ∧ Btw h1.next h.next x) = Btw h1.next h.next := by funext x; simp
        show IntsO (fun x => 0 = 0 ∧ Btw h1.next h.next x) _ _ _
        rw [e2]
        simpa using hu.keep (Keeps.alloc _ _)
    refine ⟨.slice (some ⟨h.next, 0, none⟩) 1 1, h.alloc (.cells [u] true false 1), ?_, .inr ⟨h.next, false, [u], rfl, Nat.le_trans hn hhn, Nat.lt_succ_self _, by simp, hB⟩, by simp [hA], Nat.lt_succ_self _, fun o ho _ => by simp [Nat.ne_of_lt ho]⟩
    simp only [appendD, h1t, h2, h3, h4, hsrc, h5]
    simp [Value.cells, hb, hbb1]
  · have hus : us.length = L.length := g4.1
    have g3' : h.get o = .cells us true ex 1 := by rw [hk1.2 o g2]; exact g3
    have hB1 : RowsB n o h (us ++ [u]) (L ++ [r]) := g4.snoc hk1 g2 hn hu
    have hB2 : RowsB n h.next (growHp h o ex (.cells (us ++ [u]) true false 1)) (us ++ [u]) (L ++ [r]) := by
      have := (hB1.other (p := h.next) (Nat.le_refl _))
      obtain ⟨a1, T, a2, a3, a4⟩ := hB1
      refine ⟨a1, T, fun k x hx => ?_, a3, fun k hk => (a4 k hk).same ⟨?_, fun x hx hx' => ?_⟩⟩
      · have := a2 k x hx; cases ex <;> simp [growHp] <;> omega
      · cases ex <;> simp [growHp]
      · have := a2 k x hx
        have e1 : x ≠ h.next := by omega
        have e2 : x ≠ o := this.2.2
        cases ex <;> simp [growHp, e1, e2]
    refine ⟨.slice (some ⟨h.next, 0, none⟩) (L.length + 1) (L.length + 1), growHp h o ex (.cells (us ++ [u]) true false 1), ?_, .inr ⟨h.next, false, us ++ [u], by simp, Nat.le_trans hn hhn, ?_, ?_, hB2⟩, hA.grow (by omega) (fun _ => rfl), ?_, fun i hi hin => ?_⟩
    · simp only [appendD, h1t, h2, h3, h4, hsrc, h5]
      have ht : us.take L.length = us := List.take_of_length_le (by omega)
      simp [Value.cells, hb, g3', hbb, ht, hus]
    · cases ex <;> simp [growHp]
    · cases ex <;> simp [growHp]
    · cases ex <;> simp [growHp]
    · have e1 : i ≠ h.next := by omega
      have e2 : i ≠ o := by omega
      cases ex <;> simp [growHp, e1, e2]

theorem srcV_zero (h : Hp) (m : Nat) (s : Option Addr) (c : Nat) : srcV h m (.slice s 0 c) = some (0, []) := by
  unfold srcV
  split
  · rename_i r hr
    unfold srcW at hr
    split at hr
    · exact hr.symm
    · rename_i q j n' c' heq
      injection heq with e1 e2 e3
      subst e2
      split at hr
      · split at hr
        · simpa using hr.symm
        · cases hr
      · cases hr
    · rename_i heq; cases heq
    · cases hr
  · rfl
theorem Ints.src {h : Hp} {v : Value} {xs : List Int} (hs : Ints h v xs) : srcV h 1 v = some (xs.length, xs.map (.int .i64)) := by
  by_cases h0 : xs.length = 0
  · obtain ⟨s, c, e, _, _⟩ := Sl.form hs
    have := List.length_eq_zero_iff.1 h0
    subst this
    rw [e]
    exact srcV_zero _ _ _ _
  · obtain ⟨o, i, c, cs, own, ex, es, e, _, hg, hl, hr⟩ := hs.open (by omega)
    have hb : i + xs.length * 1 ≤ cs.length := by omega
    have he : (cs.drop i).take (xs.length * 1) = xs.map (.int .i64) := by
      apply List.ext_getElem?
      intro k
      by_cases hk : k < xs.length
      · have h1 := hr k hk
        have h2 : i + k < cs.length := by omega
        have h1 := hr k hk h2
        simp [hk, h2, h1]
      · rw [List.getElem?_eq_none (by simp; omega), List.getElem?_eq_none (by simpa using hk)]
    rw [e]
    simp only [srcV, srcW, hg, hb, if_true, he]
/-- Numbers more. -/
theorem append_ints {n : Nat} {h0 h : Hp} {v y : Value} {xs ys : List Int} {t t' e b : Nat} (hs : IntsA n h v xs) (hy : Ints h y ys) (h1 : elT P t = some e) (h2 : szT P e = some 1) (h3 : zeroT P e = some (.int .i64 0)) (h4 : byT P e = some b)
    (hb : b ≠ 0) (hb8 : b ≤ 8) (h5 : srcT P t' = true) (hl : xs.length + ys.length < 2 ^ 40) (hn : n ≤ h.next) (hA : Adds h0 h) (h0n : h0.next ≤ n) :
    ∃ v' h', appendD P t t' v y h = some (v', h') ∧ IntsA n h' v' (xs ++ ys) ∧ Adds h0 h' ∧ h.next ≤ h'.next ∧ ∀ o, o < h.next → o < n → h'.get o = h.get o := by
  have hsrc := hy.src
  by_cases hy0 : ys.length = 0
  · have := List.length_eq_zero_iff.1 hy0
    subst this
    refine ⟨v, h, ?_, by simpa using hs, hA, Nat.le_refl _, fun _ _ _ => rfl⟩
    simp only [appendD, h1, h2, h3, h4, hsrc, h5]
    rcases hs with ⟨rfl, rfl⟩ | ⟨o, ex, rfl, g1, g2, g3⟩ <;> simp [Value.cells, hb]
  have hbb : (xs.length + ys.length) * b ≤ 140737488355328 := Nat.le_trans (Nat.mul_le_mul (Nat.le_of_lt hl) hb8) (by decide)
  have hbb1 : ys.length * b ≤ 140737488355328 := Nat.le_trans (Nat.mul_le_mul_right _ (by omega)) hbb
  have hne : ys ≠ [] := fun e => hy0 (by rw [e]; rfl)
  rcases hs with ⟨rfl, rfl⟩ | ⟨o, ex, rfl, g1, g2, g3⟩
  · refine ⟨.slice (some ⟨h.next, 0, none⟩) ys.length ys.length, h.alloc (.cells (ys.map (.int .i64)) true false 1), ?_, .inr ⟨h.next, false, rfl, hn, Nat.lt_succ_self _, by simp⟩, by simp [hA], Nat.le_succ _, fun o ho _ => by simp [Nat.ne_of_lt ho]⟩
    simp only [appendD, h1, h2, h3, h4, hsrc, h5]
    simp [Value.cells, hb, hbb1, hne]
  · refine ⟨.slice (some ⟨h.next, 0, none⟩) (xs.length + ys.length) (xs.length + ys.length), growHp h o ex (.cells (xs.map (.int .i64) ++ ys.map (.int .i64)) true false 1), ?_, .inr ⟨h.next, false, by simp, hn, ?_, ?_⟩, hA.grow (by omega) (fun _ => rfl), ?_, fun i hi hin => ?_⟩
    · simp only [appendD, h1, h2, h3, h4, hsrc, h5]
      have ht : (xs.map (Value.int .i64)).take xs.length = xs.map (.int .i64) := List.take_of_length_le (by simp)
      have hlt : 0 < ys.length := by omega
      simp [Value.cells, hb, g3, hbb, ht, hne, hlt]
    · cases ex <;> simp [growHp]
    · cases ex <;> simp [growHp]
    · cases ex <;> simp [growHp]
    · have e1 : i ≠ h.next := by omega
      have e2 : i ≠ o := by omega
      cases ex <;> simp [growHp, e1, e2]
end
end Go.Eng
