/- Rows: what a reading of an argument says, as data. -/
import Derived.Test.YtopigomfhggkoaaDoorJC7
import Derived.ProofKit
import Derived.OpenShut
import Derived.SizedLaws
import Derived.ShutString
set_option linter.unusedVariables false
set_option linter.unusedSimpArgs false
namespace Go.Proofs.YtopigomfhggkoaaDoor.A
open Go.RowKit Go.ChangeShapes Go.WideShapes
def M0 (w : World) : Mem := ⟨w.heap, fun b => b < w.heap.size⟩
def TrodR (P : Program) (w : World) (t : TypeId) (sz : Nat) (R : List Dat → Prop) : Prop :=
  P.cellsOf t = sz ∧ ∀ {H : Type} (enc : TypeId × Value → H) (base : Nat) (spare : Nat → Bool) (held : Bool) (fuel : Nat) (cs : List Value) (x : DataW H × List MemPlace),
    DataW.trod enc P w base spare held fuel t cs = some x → (∀ n ∈ x.1.weights P t, n ≤ reachBytes) → ∃ ds, ds.length = sz ∧ DatL (M0 w) ds cs ∧ R ds
section
variable {P : Program} {w : World} {t e : TypeId}
theorem TrodR.mono {sz : Nat} {R R' : List Dat → Prop} (h : TrodR P w t sz R) (hr : ∀ ds, R ds → R' ds) : TrodR P w t sz R' :=
  ⟨h.1, fun enc base spare held fuel cs x hx hz => let ⟨ds, h1, h2, h3⟩ := h.2 enc base spare held fuel cs x hx hz; ⟨ds, h1, h2, hr _ h3⟩⟩
theorem trodR_int {k : IntKind} (hc : P.cellsOf t = 1) (ht : P.underlying t = some (.int k)) : TrodR P w t 1 (fun ds => ∃ n, ds = [.lit (.int k n)] ∧ (Lit.int k n).wf = true) :=
  ⟨hc, fun enc base spare held fuel cs x hx hz => by
    obtain ⟨n, rfl, _, hw⟩ := DataW.trod_int ht hx
    exact ⟨[.lit (.int k n)], rfl, ⟨by simp only [Rep]; exact ⟨trivial, rfl⟩, trivial⟩, n, rfl, hw⟩⟩
theorem trodR_bool (hc : P.cellsOf t = 1) (ht : P.underlying t = some .bool) : TrodR P w t 1 (fun ds => ∃ b, ds = [.lit (.bool b)]) :=
  ⟨hc, fun enc base spare held fuel cs x hx hz => by
    obtain ⟨n, rfl, _⟩ := DataW.trod_bool ht hx
    exact ⟨[.lit (.bool n)], rfl, ⟨by simp only [Rep]; exact ⟨trivial, rfl⟩, trivial⟩, n, rfl⟩⟩
theorem trodR_string (hc : P.cellsOf t = 1) (ht : P.underlying t = some .string) : TrodR P w t 1 (fun ds => ∃ s, ds = [.lit (.string s)] ∧ s.size ≤ reachBytes) :=
  ⟨hc, fun enc base spare held fuel cs x hx hz => by
    obtain ⟨n, rfl, rfl, hw⟩ := DataW.trod_string ht hx
    have hn : n.size ≤ reachBytes := by
      have := hz n.data.toList.length (by simp [DataW.weights])
      rwa [Array.length_toList] at this
    exact ⟨[.lit (.string n)], rfl, ⟨by simp only [Rep]; exact ⟨trivial, rfl⟩, trivial⟩, n, rfl, hn⟩⟩
theorem weightsAll_mem {H : Type} {P : Program} {e : TypeId} : ∀ {l : List (DataW H)} {d : DataW H}, d ∈ l → ∀ {n : Nat}, n ∈ d.weights P e → n ∈ DataW.weightsAll P e l
  | d :: l, x, h, n, hn => by
    simp only [DataW.weightsAll, List.mem_append]
    rcases List.mem_cons.1 h with rfl | h
    · exact .inl hn
    · exact .inr (weightsAll_mem h hn)
theorem cells?_get {base n : Nat} {a : Addr} {cs : List Value} (h : w.cells? base a n = some cs) : cs.length = n ∧ ∀ i, i < n → w.cell? (a.add i) = cs[i]? := by
  unfold World.cells? at h
  split at h
  · exact ⟨by simpa using mapM_some_length h, fun i hi => mapM_some_get h i i (by simp [hi])⟩
  · cases h
theorem trodR_slice {sz : Nat} {R : List Dat → Prop} (hc : P.cellsOf t = 1) (ht : P.underlying t = some (.slice e)) (hsz : 0 < sz) (he : TrodR P w e sz R) :
    TrodR P w t 1 (fun ds => ∃ rows, ds = [.sl sz rows] ∧ ∀ r ∈ rows, R r) :=
  ⟨hc, fun enc base spare held fuel cs x hx hz => by
    have nil : ∀ (A : Option Addr) (c : Nat), c ≤ maxLen → Rep (M0 w) (.sl sz []) (.slice A 0 c) := fun A c hm => by
      simp only [Rep]
      exact ⟨A, c, rfl, Nat.zero_le _, hm, .inl trivial⟩
    rcases DataW.trod_slice ht hx with ⟨rfl, _⟩ | ⟨a, len, cap, elems, rest, n, _, rfl, hxx, _, hl, hm, hel, hrow, _⟩
    · exact ⟨[.sl sz []], rfl, ⟨nil none 0 (by simp [maxLen]), trivial⟩, [], rfl, by simp⟩
    rw [he.1] at hrow
    by_cases h0 : len = 0
    · subst h0
      exact ⟨[.sl sz []], rfl, ⟨nil _ _ hm, trivial⟩, [], rfl, by simp⟩
    have read : ∀ i, i < len → ∃ (cs : List Value) (ds : List Dat), cs.length = sz ∧ ds.length = sz ∧ DatL (M0 w) ds cs ∧ R ds ∧ ∀ j, j < sz → ∃ v, cs[j]? = some v ∧ w.cell? ((a.add (i * sz)).add j) = some v := by
      intro i hi
      have h1 := hrow i hi
      rw [List.getElem?_eq_getElem (by omega)] at h1
      obtain ⟨cs, hcs, hx'⟩ := Option.bind_eq_some_iff.1 h1
      obtain ⟨ds, k1, k2, k3⟩ := he.2 enc base spare held n cs _ hx' (fun m hm => hz m (by
        rw [hxx]
        simp only [DataW.weights, ht, List.mem_cons, List.mem_append]
        exact .inr (.inl (weightsAll_mem (List.mem_map_of_mem (List.getElem_mem _)) hm))))
      obtain ⟨h2, h3⟩ := cells?_get hcs
      exact ⟨cs, ds, h2, k1, k2, k3, fun j hj => ⟨cs[j], List.getElem?_eq_getElem (by omega), by rw [h3 j hj]; exact List.getElem?_eq_getElem (by omega)⟩⟩
    have spot : a.spot = none := by
      obtain ⟨cs, ds, _, _, _, _, h1⟩ := read 0 (by omega)
      obtain ⟨v, _, h2⟩ := h1 0 hsz
      have : (a.add (0 * sz)).add 0 = a := by simp [Addr.add]
      rw [this] at h2
      cases hs : a.spot with
      | none => rfl
      | some s =>
        simp only [World.cell?, hs] at h2
        split at h2 <;> simp at h2
    obtain ⟨ab, ao, as⟩ := a
    simp only at spot
    subst spot
    have each : ∀ i, i < len → ∃ ds : List Dat, ds.length = sz ∧ RepCells (M0 w) ab (ao + i * sz) ds ∧ R ds := by
      intro i hi
      obtain ⟨cs, ds, h1, h2, h3, h4, h5⟩ := read i hi
      have h6 : ∀ j, j < sz → ∃ v, cs[j]? = some v ∧ cellH w.heap ab (ao + i * sz + j) = some v := by
        intro j hj
        obtain ⟨v, hv, hc⟩ := h5 j hj
        rw [add_plain, add_plain, cellH_cell] at hc
        exact ⟨v, hv, hc⟩
      have hb : ab < w.heap.size := by
        obtain ⟨v, _, hv⟩ := h6 0 hsz
        refine Nat.lt_of_not_le fun hge => ?_
        unfold cellH at hv
        rw [Array.getElem?_eq_none hge] at hv
        cases hv
      refine ⟨ds, h2, RepCells.mk hb h3 fun j v hv => ?_, h4⟩
      have hj : j < sz := by
        have := (List.getElem?_eq_some_iff.1 hv).1
        omega
      obtain ⟨u, hu, hc⟩ := h6 j hj
      rw [hv] at hu
      cases hu
      exact hc
    obtain ⟨f, hf⟩ : ∃ f : Nat → List Dat, ∀ i, i < len → (f i).length = sz ∧ RepCells (M0 w) ab (ao + i * sz) (f i) ∧ R (f i) :=
      ⟨fun i => if h : i < len then (each i h).choose else [], fun i hi => by simp only [hi, dif_pos]; exact (each i hi).choose_spec⟩
    have hrows : ∀ (n : Nat) (i : Nat), i + n ≤ len → RepRows (M0 w) sz ab (ao + i * sz) ((List.range' i n).map f) := by
      intro n
      induction n with
      | zero => intro i _; simp only [List.range'_zero, List.map_nil, RepRows]
      | succ n ih =>
        intro i hi
        simp only [List.range'_succ, List.map_cons, RepRows]
        have := hf i (by omega)
        refine ⟨⟨this.1, this.2.1⟩, ?_⟩
        have h2 := ih (i + 1) (by omega)
        rwa [show ao + (i + 1) * sz = ao + i * sz + sz from by rw [Nat.add_mul]; omega] at h2
    refine ⟨[.sl sz ((List.range' 0 len).map f)], rfl, ⟨?_, trivial⟩, _, rfl, fun r hr => ?_⟩
    · simp only [Rep, List.length_map, List.length_range']
      refine ⟨some ⟨ab, ao, none⟩, cap, rfl, hl, hm, .inr ⟨ab, ao, rfl, ?_⟩⟩
      · have := hrows len 0 (by omega)
        simpa using this
    · obtain ⟨i, hi, rfl⟩ := List.mem_map.1 hr
      rw [List.mem_range'] at hi
      obtain ⟨j, hj, rfl⟩ := hi
      exact (hf _ (by omega)).2.2⟩
def StructR : List (Nat × (List Dat → Prop)) → List Dat → Prop
  | [], ds => ds = []
  | (n, R) :: r, ds => R (ds.take n) ∧ StructR r (ds.drop n)
def FieldsR (P : Program) (w : World) : Nat → List (Nat × TypeId) → List (Nat × (List Dat → Prop)) → Prop
  | _, [], l => l = []
  | o, (o', t) :: fs, l => ∃ n R r, l = (n, R) :: r ∧ o' = o ∧ TrodR P w t n R ∧ FieldsR P w (o + n) fs r
theorem DatL.split {m : Mem} {cs : List Value} (n : Nat) {ds ds' : List Dat} (h : DatL m ds (cs.take n)) (h' : DatL m ds' (cs.drop n)) : DatL m (ds ++ ds') cs := by
  have := DatL.append h h'
  rwa [List.take_append_drop] at this
theorem trodR_fields {H : Type} {enc : TypeId × Value → H} {base : Nat} {spare : Nat → Bool} {held : Bool} {n : Nat} {cs : List Value} : ∀ (fs : List (Nat × TypeId)) (l : List (Nat × (List Dat → Prop))) (o : Nat), FieldsR P w o fs l →
    cs.length = o + (l.map (·.1)).sum → (∀ f ∈ fs, ∃ x, DataW.trod enc P w base spare held n f.2 ((cs.drop f.1).take (P.cellsOf f.2)) = some x ∧ ∀ m ∈ x.1.weights P f.2, m ≤ reachBytes) → ∃ ds, ds.length = (l.map (·.1)).sum ∧ DatL (M0 w) ds (cs.drop o) ∧ StructR l ds
  | [], l, o, h, hl, _ => by
    simp only [FieldsR] at h
    subst h
    refine ⟨[], by simp, ?_, rfl⟩
    rw [List.drop_of_length_le (by simp at hl; omega)]
    trivial
  | (o', t) :: fs, l, o, h, hl, hx => by
    simp only [FieldsR] at h
    obtain ⟨m, R, r, rfl, rfl, ht, hr⟩ := h
    simp only [List.map_cons, List.sum_cons] at hl
    obtain ⟨x, hx0, hz0⟩ := hx _ (List.mem_cons_self ..)
    simp only at hx0 hz0
    rw [ht.1] at hx0
    obtain ⟨ds, h1, h2, h3⟩ := ht.2 enc base spare held n _ x hx0 hz0
    obtain ⟨ds', k1, k2, k3⟩ := trodR_fields fs r (o' + m) hr (by omega) (fun f hf => hx f (List.mem_cons_of_mem _ hf))
    refine ⟨ds ++ ds', by simp [h1, k1], DatL.split m h2 (by rw [List.drop_drop]; exact k2), ?_, ?_⟩
    · rw [← h1, List.take_left]; exact h3
    · rw [← h1, List.drop_left]; exact k3
theorem trodR_struct {fs : Array Field} {l : List (Nat × (List Dat → Prop))} (ht : P.underlying t = some (.struct fs)) (hc : P.cellsOf t = (l.map (·.1)).sum)
    (hf : FieldsR P w 0 (fs.toList.map fun f => (f.offset, f.type)) l) : TrodR P w t (l.map (·.1)).sum (StructR l) :=
  ⟨hc, fun enc base spare held fuel cs x hx hz => by
    obtain ⟨xs, n, _, hxx, hl, hxl, h⟩ := DataW.trod_struct ht hx
    have := trodR_fields (enc := enc) (base := base) (spare := spare) (held := held) (n := n) (cs := cs) _ l 0 hf (by omega) (fun f hf' => by
      obtain ⟨g, hg, rfl⟩ := List.mem_map.1 hf'
      obtain ⟨i, hi⟩ := List.mem_iff_getElem?.1 hg
      have h1 := h i g (by simpa using hi)
      have hlt : i < xs.length := by
        have := (List.getElem?_eq_some_iff.1 hi).1
        simp at this; omega
      rw [List.getElem?_eq_getElem hlt] at h1
      exact ⟨_, h1, fun m hm => hz m (by
        rw [hxx]
        simp only [DataW.weights, ht]
        exact DataW.weights_mem_each (j := i) (by rw [List.getElem?_map, hi]; rfl) (by rw [List.getElem?_map, List.getElem?_eq_getElem hlt]; rfl) m hm)⟩)
    simpa using this⟩
theorem trodR_array {n sz : Nat} {R : List Dat → Prop} (ht : P.underlying t = some (.array n e)) (hc : P.cellsOf t = n * sz) (he : TrodR P w e sz R) : TrodR P w t (n * sz) (StructR (List.replicate n (sz, R))) :=
  ⟨hc, fun enc base spare held fuel cs x hx hz => by
    obtain ⟨xs, m, _, hxx, hl, hxl, h⟩ := DataW.trod_array ht hx
    rw [he.1] at h
    rw [hc] at hl
    have key : ∀ k o, o + k = n → ∃ ds, ds.length = k * sz ∧ DatL (M0 w) ds (cs.drop (o * sz)) ∧ StructR (List.replicate k (sz, R)) ds := by
      intro k
      induction k with
      | zero =>
        intro o ho
        refine ⟨[], by simp, ?_, rfl⟩
        have : o = n := by omega
        subst this
        rw [List.drop_of_length_le (by omega)]
        trivial
      | succ k ih =>
        intro o ho
        obtain ⟨ds', k1, k2, k3⟩ := ih (o + 1) (by omega)
        have h1 := h o (by omega)
        rw [List.getElem?_eq_getElem (by omega)] at h1
        obtain ⟨ds, j1, j2, j3⟩ := he.2 enc base spare held m _ _ h1 (fun q hq => hz q (by
          rw [hxx]
          simp only [DataW.weights, ht]
          exact weightsAll_mem (List.mem_map_of_mem (List.getElem_mem _)) hq))
        refine ⟨ds ++ ds', by simp [j1, k1, Nat.add_mul]; omega, DatL.split sz j2 ?_, ?_⟩
        · rw [List.drop_drop, show o * sz + sz = (o + 1) * sz from by rw [Nat.add_mul]; omega]; exact k2
        · rw [List.replicate_succ]
          refine ⟨?_, ?_⟩
          · show R ((ds ++ ds').take sz)
            rw [← j1, List.take_left]; exact j3
          · show StructR _ ((ds ++ ds').drop sz)
            rw [List.drop_left' j1]; exact k3
    simpa using key n 0 (by omega)⟩
theorem rows_of {α : Type} {R : List Dat → Prop} {f : α → List Dat} {Q : α → Prop} : ∀ {rows : List (List Dat)}, (∀ r ∈ rows, R r) → (∀ r, R r → ∃ a, r = f a ∧ Q a) → ∃ l : List α, rows = l.map f ∧ ∀ a ∈ l, Q a
  | [], _, _ => ⟨[], rfl, by simp⟩
  | r :: rows, h, hf => by
    obtain ⟨a, rfl, ha⟩ := hf r (h r (List.mem_cons_self ..))
    obtain ⟨l, rfl, hl⟩ := rows_of (fun r hr => h r (List.mem_cons_of_mem _ hr)) hf
    exact ⟨a :: l, rfl, fun x hx => by
      rcases List.mem_cons.1 hx with rfl | hx
      · exact ha
      · exact hl x hx⟩
end
end Go.Proofs.YtopigomfhggkoaaDoor.A
