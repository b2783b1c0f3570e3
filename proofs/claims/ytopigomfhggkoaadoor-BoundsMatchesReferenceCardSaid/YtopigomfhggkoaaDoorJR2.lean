/- Rows: an argument of a type reads as data of the type; a law's row from its Spec. -/
import Derived.Test.YtopigomfhggkoaaDoorJR1
set_option linter.unusedVariables false
set_option linter.unusedSimpArgs false
namespace Go.Proofs.YtopigomfhggkoaaDoor.A
open Go.RowKit Go.ChangeShapes Go.WideShapes
def tyR (T : Tab) : Nat → Nat → List Dat → Prop
  | 0, _, _ => False
  | f + 1, t, ds => match (T t).kind with
    | 1 => ∃ rows, ds = [.sl (T (T t).elem).size rows] ∧ ∀ r ∈ rows, tyR T f (T t).elem r
    | 2 => StructR ((T t).fields.map fun p => ((T p.2).size, tyR T f p.2)) ds
    | 3 => StructR (List.replicate (T t).alen ((T (T t).elem).size, tyR T f (T t).elem)) ds
    | 4 => ∃ s, ds = [.lit (.string s)] ∧ s.size ≤ reachBytes
    | 5 => ∃ n, ds = [.lit (.int (T t).ik n)] ∧ (Lit.int (T t).ik n).wf = true
    | 6 => ∃ b, ds = [.lit (.bool b)]
    | _ => False
def contig (T : Tab) : Nat → List (Nat × Nat) → Option Nat
  | o, [] => some o
  | o, p :: fs => if p.1 = o then contig T (o + (T p.2).size) fs else none
def okD (T : Tab) : Nat → Nat → Bool
  | 0, _ => false
  | f + 1, t => (T t).known && match (T t).kind with
    | 1 => ((T t).size == 1) && (!(T t).agg) && decide (0 < (T (T t).elem).size) && okD T f (T t).elem
    | 2 => (T t).agg && (contig T 0 (T t).fields == some (T t).size) && (T t).fields.all fun p => okD T f p.2
    | 3 => (T t).agg && ((T t).size == (T t).alen * (T (T t).elem).size) && okD T f (T t).elem
    | 4 => ((T t).size == 1) && (!(T t).agg)
    | 5 => ((T t).size == 1) && (!(T t).agg)
    | 6 => ((T t).size == 1) && (!(T t).agg)
    | _ => false
section
variable {P : Program} {T : Tab} {w : World}
abbrev envP (P : Program) : Env := { P := P, w0 := default, C0 := fun _ => False, M := fun _ => False }
theorem ti_cells (hT : TabOk P T) {t : Nat} (hk : (T t).known = true) : P.cellsOf t = (T t).size := by
  obtain ⟨info, h1, h2, _⟩ := ti (E := envP P) hT hk
  simp [Program.cellsOf, h1, h2]
theorem ti_bool (hT : TabOk P T) {t : Nat} (hk : (T t).known = true) (h : (T t).kind = 6) : P.underlying t = some .bool := by
  obtain ⟨info, d, h1, h2, h3, h4, h5, h6, h7, h8, k1, k2, k3, k4, k5, k6, k7⟩ := hT t hk
  rw [h2, k6 h]
theorem contig_sum : ∀ (fs : List (Nat × Nat)) (o n : Nat), contig T o fs = some n → n = o + (fs.map fun p => (T p.2).size).sum
  | [], o, n, h => by simp [contig] at h; simp [h]
  | p :: fs, o, n, h => by
    simp only [contig] at h
    split at h
    · have := contig_sum fs _ n h
      simp only [List.map_cons, List.sum_cons]; omega
    · cases h
theorem fieldsR_of {f : Nat} (ih : ∀ t, okD T f t = true → TrodR P w t (T t).size (tyR T f t)) : ∀ (fs : List (Nat × Nat)) (o n : Nat), contig T o fs = some n → (fs.all fun p => okD T f p.2) = true → FieldsR P w o fs (fs.map fun p => ((T p.2).size, tyR T f p.2))
  | [], o, n, _, _ => by simp [FieldsR]
  | p :: fs, o, n, h, ha => by
    simp only [contig] at h
    simp only [List.all_cons, Bool.and_eq_true] at ha
    split at h
    · rename_i hp
      simp only [List.map_cons, FieldsR]
      exact ⟨_, _, _, rfl, hp, ih _ ha.1, fieldsR_of ih fs _ n h ha.2⟩
    · cases h
theorem trodR_ty (hT : TabOk P T) : ∀ (f t : Nat), okD T f t = true → TrodR P w t (T t).size (tyR T f t)
  | 0, t, h => by simp [okD] at h
  | f + 1, t, h => by
    simp only [okD, Bool.and_eq_true] at h
    obtain ⟨hk, h⟩ := h
    have hc := ti_cells hT hk
    split at h
    · rename_i hkd
      simp only [Bool.and_eq_true, beq_iff_eq, decide_eq_true_eq] at h
      have := trodR_slice (by rw [hc, h.1.1.1]) (ti_slice (E := envP P) hT hk hkd) h.1.2 (trodR_ty hT f _ h.2)
      rw [h.1.1.1]
      exact this.mono fun ds hd => by simp only [tyR, hkd]; exact hd
    · rename_i hkd
      simp only [Bool.and_eq_true, beq_iff_eq] at h
      obtain ⟨fs, hu, hf⟩ := ti_struct (E := envP P) hT hk hkd
      have hs := contig_sum _ _ _ h.1.2
      have := trodR_struct (w := w) (l := (T t).fields.map fun p => ((T p.2).size, tyR T f p.2)) hu (by rw [hc, hs]; simp [Function.comp_def]) (by rw [hf]; exact fieldsR_of (trodR_ty hT f) _ _ _ h.1.2 h.2)
      rw [show (T t).size = (((T t).fields.map fun p => ((T p.2).size, tyR T f p.2)).map (·.1)).sum from by rw [hs]; simp [Function.comp_def]]
      exact this.mono fun ds hd => by simp only [tyR, hkd]; exact hd
    · rename_i hkd
      simp only [Bool.and_eq_true, beq_iff_eq] at h
      have := trodR_array (w := w) (ti_array (E := envP P) hT hk hkd) (by rw [hc, h.1.2]) (trodR_ty hT f _ h.2)
      rw [h.1.2]
      exact this.mono fun ds hd => by simp only [tyR, hkd]; exact hd
    · rename_i hkd
      simp only [Bool.and_eq_true, beq_iff_eq] at h
      rw [h.1]
      exact (trodR_string (by rw [hc, h.1]) (ti_string (E := envP P) hT hk hkd)).mono fun ds hd => by simp only [tyR, hkd]; exact hd
    · rename_i hkd
      simp only [Bool.and_eq_true, beq_iff_eq] at h
      rw [h.1]
      exact (trodR_int (by rw [hc, h.1]) (ti_int (E := envP P) hT hk hkd)).mono fun ds hd => by simp only [tyR, hkd]; exact hd
    · rename_i hkd
      simp only [Bool.and_eq_true, beq_iff_eq] at h
      rw [h.1]
      exact (trodR_bool (by rw [hc, h.1]) (ti_bool hT hk hkd)).mono fun ds hd => by simp only [tyR, hkd]; exact hd
    · cases h
def avTy (T : Tab) (t : Nat) (ds : List Dat) : AV := if (T t).agg = true then .agg (ds.map .d) else .d (ds.headD (.lit .nilFunc))
def avTys (T : Tab) : List Nat → List (List Dat) → List AV
  | t :: ts, ds :: dss => avTy T t ds :: avTys T ts dss
  | _, _ => []
def tyRs (T : Tab) (f : Nat) : List Nat → List (List Dat) → Prop
  | t :: ts, ds :: dss => tyR T f t ds ∧ tyRs T f ts dss
  | [], [] => True
  | _, _ => False
theorem arg_of (hT : TabOk P T) {f t : Nat} (h : okD T f t = true) {H : Type} {enc : TypeId × Value → H} {b0 base : Nat} {r : Reach} {spare : Nat → Bool} {held : Bool} {v : Value} {d : DataW H} {p : List MemPlace}
    (hd : DataW.Trod enc P w base spare held t v d p) (hval : Value.okWide P w r b0 t v) (hz : ∀ n ∈ d.weights P t, n ≤ reachBytes) : ∃ ds, Has (M0 w) (avTy T t ds) v ∧ tyR T f t ds := by
  obtain ⟨fuel, hd⟩ := hd
  obtain ⟨ds, h1, h2, h3⟩ := (trodR_ty (w := w) hT f t h).2 enc base spare held fuel _ _ hd hz
  refine ⟨ds, ?_, h3⟩
  cases f with
  | zero => simp [okD] at h
  | succ f =>
  simp only [okD, Bool.and_eq_true] at h
  obtain ⟨hk, h⟩ := h
  obtain ⟨info, desc, g1, hu, g3, g4, g5, g6, g7, hagg, _⟩ := hT t hk
  unfold avTy
  cases hc : (T t).agg with
  | true =>
    rw [if_pos rfl]
    have : ∃ cs, v = .agg cs := by
      rw [hc] at hagg
      unfold Value.okWide at hval
      rw [hu] at hval
      cases desc <;> simp at hagg <;> (obtain ⟨cs, h1, _⟩ := hval; exact ⟨cs, h1⟩)
    obtain ⟨cs, rfl⟩ := this
    simp only [Has]
    exact ⟨cs.toList, by simp, (by simpa [Value.cells] using h2 : DatL (M0 w) ds cs.toList).hasL⟩
  | false =>
    rw [if_neg (by simp)]
    have hcell : v.cells.toList = [v] ∨ ∃ cs, v = .agg cs := by
      cases v <;> first | exact .inl rfl | exact .inr ⟨_, rfl⟩
    have hsz : (T t).size = 1 := by
      split at h <;> simp_all
    rw [hsz] at h1
    obtain ⟨d0, rfl⟩ : ∃ d0, ds = [d0] := by
      match ds, h1 with
      | [d0], _ => exact ⟨d0, rfl⟩
    rcases hcell with hcell | ⟨cs, rfl⟩
    · rw [hcell] at h2
      simp only [List.headD_cons, Has]
      exact h2.1
    · exfalso
      rw [hc] at hagg
      unfold Value.okWide at hval
      rw [hu] at hval
      cases desc <;> simp [Cell.okWide, hu, Cell.ok] at hagg hval
theorem args_of (hT : TabOk P T) {f : Nat} {H : Type} {enc : TypeId × Value → H} {b0 base : Nat} {r : Reach} {spare : Nat → Bool} {held : Bool} : ∀ (ts : List Nat) (vs : List Value) (ds : List (DataW H)) (p : List MemPlace), (ts.all fun t => okD T f t) = true →
    DataW.TrodAll enc P w base spare held ts vs ds p → (∀ (j : Nat) t v, ts[j]? = some t → vs[j]? = some v → Value.okWide P w r b0 t v) → (∀ n ∈ DataW.weightsEach P ts ds, n ≤ reachBytes) → ∃ dss, HasL (M0 w) (avTys T ts dss) vs ∧ tyRs T f ts dss
  | [], vs, ds, p, _, h, _, _ => by
    obtain ⟨rfl, rfl, rfl⟩ := trodAll_nil h
    exact ⟨[], by simp only [avTys, HasL], trivial⟩
  | t :: ts, vs, ds, p, hok, h, hval, hz => by
    simp only [List.all_cons, Bool.and_eq_true] at hok
    obtain ⟨v, vs', d, ds', p', q', rfl, rfl, rfl, h1, h2⟩ := trodAll_cons h
    obtain ⟨dd, k1, k2⟩ := arg_of hT hok.1 h1 (hval 0 t v rfl rfl) (fun n hn => hz n (by simp only [DataW.weightsEach, List.mem_append]; exact .inl hn))
    obtain ⟨dss, k3, k4⟩ := args_of hT ts vs' ds' q' hok.2 h2 (fun j t' v' ht hv => hval (j + 1) t' v' (by simpa using ht) (by simpa using hv)) (fun n hn => hz n (by simp only [DataW.weightsEach, List.mem_append]; exact .inr hn))
    refine ⟨dd :: dss, ?_, k2, k4⟩
    simp only [avTys, HasL]
    exact ⟨k1, k3⟩
theorem below_trodAll {H : Type} {enc : TypeId × Value → H} (hl : laidOutB P = true) {W W' : World} (hb : Below W.heap.size W W') : ∀ (ts : List Nat) (vs : List Value) (ds : List (DataW H)) (p : List MemPlace), (ts.all fun t => P.readableRec t && decide (t < P.types.size)) = true →
    DataW.TrodAll enc P W 0 (fun _ => true) true ts vs ds p → DataW.TrodAll enc P W' 0 (fun b => decide (b < W.heap.size)) true ts vs ds p
  | [], vs, ds, p, _, h => by
    obtain ⟨rfl, rfl, rfl⟩ := trodAll_nil h
    exact trodAll_mk0
  | t :: ts, vs, ds, p, hok, h => by
    simp only [List.all_cons, Bool.and_eq_true, decide_eq_true_eq] at hok
    obtain ⟨v, vs', d, ds', p', q', rfl, rfl, rfl, h1, h2⟩ := trodAll_cons h
    refine trodAll_cons_mk (Below.trod hl hok.1.1 hok.1.2 h1 hb ?_) (below_trodAll hl hb ts vs' ds' q' hok.2 h2)
    obtain ⟨m, hm⟩ := h1
    exact DataW.trod_lt m _ _ _ hm
theorem Spec.call {f : Nat} {args : List AV} (hW : w.ShapedOpen P) (hL : Laid (M0 w)) (hs : Spec P f args (.d (.lit (.bool true)))) {vs : List Value} (hv : HasL (M0 w) args vs) : Calls P f vs.toArray w fun e w' => e = .returned (.bool true) ∧ Below w.heap.size w w' :=
  (hs.2 w hW (fun b => b < w.heap.size) ⟨fun b h => h, hL⟩ vs hv).mono fun e w' ⟨v, h1, h2, h3⟩ => by
    simp only [Has, Rep] at h3
    rw [h3.1] at h1
    exact ⟨h1, h2⟩
end
end Go.Proofs.YtopigomfhggkoaaDoor.A
