/- Values and slices that are built out of parts. -/
import Derived.Test.YtopigomfhggkoaaDoorJB1
set_option linter.unusedVariables false
set_option linter.unusedSimpArgs false
namespace Go.Proofs.YtopigomfhggkoaaDoor.A
open Go.RowKit
section
variable {E : Env} {o : Oper} {σ : St} {T : Tab}
theorem foldl_set {α : Type} (off : Nat) : ∀ (vs : List α) (k : Nat) (cells : Array α), off + k + vs.length ≤ cells.size →
    (vs.zipIdx k).foldl (fun (cs : Array α) (p : α × Nat) => cs.setIfInBounds (off + p.2) p.1) cells = (setMany cells.toList (off + k) vs).toArray
  | [], k, cells, h => by simp [setMany]
  | v :: vs, k, cells, h => by
    simp only [List.zipIdx_cons, List.foldl_cons]
    have hl : off + (k + 1) + vs.length ≤ (cells.setIfInBounds (off + k) v).size := by simp at h ⊢; omega
    rw [foldl_set off vs (k + 1) (cells.setIfInBounds (off + k) v) hl]
    congr 1
    apply List.ext_getElem?
    intro j
    have hl2 : off + k + (v :: vs).length ≤ cells.toList.length := by simpa using h
    rw [setMany_get (by simp at h ⊢; omega), setMany_get hl2, Array.toList_setIfInBounds, List.getElem?_set]
    have hk : off + k < cells.toList.length := by simp at h ⊢; omega
    by_cases h1 : j < off + k
    · rw [if_pos (show j < off + (k + 1) by omega), if_neg (show ¬ off + k = j by omega), if_pos h1]
    · rw [if_neg h1]
      by_cases h2 : j = off + k
      · subst h2
        rw [if_pos (show off + k < off + (k + 1) by omega), if_pos rfl, if_pos hk, if_pos (by simp)]
        simp
      · rw [if_neg (show ¬ j < off + (k + 1) by omega)]
        by_cases h3 : j < off + k + (v :: vs).length
        · rw [if_pos h3, if_pos (by simp at h3; omega)]
          rw [show j - (off + k) = (j - (off + (k + 1))) + 1 from by omega]
          simp
        · rw [if_neg h3, if_neg (by simp at h3; omega), if_neg (by omega)]
def fillA (place : Nat → Option (Nat × Nat)) : List AV → List (Nat × AV) → Option (List AV)
  | cs, [] => some cs
  | cs, (i, x) :: rest => match place i, cellsA x with
    | some (off, size), some ys => if ys.length = size ∧ off + size ≤ cs.length ∧ oneCells ys = true then fillA place (setMany cs off ys) rest else none
    | _, _ => none
def PartsL (m : Mem) : List (Nat × AV) → List (Nat × Value) → Prop
  | [], [] => True
  | (i, x) :: ps, (j, v) :: qs => i = j ∧ Has m x v ∧ PartsL m ps qs
  | _, _ => False
theorem fill_has {m : Mem} {place : Nat → Option (Nat × Nat)} : ∀ (ps : List (Nat × AV)) (qs : List (Nat × Value)), PartsL m ps qs → ∀ (cs cs' : List AV) (vs : List Value), HasL m cs vs → (∀ y ∈ vs, y.oneCell' = true) → fillA place cs ps = some cs' →
    ∃ vs' : List Value, Instr.fill place vs.toArray qs = some vs'.toArray ∧ HasL m cs' vs' ∧ ∀ y ∈ vs', y.oneCell' = true
  | [], [], _, cs, cs', vs, hv, h1, h => by
    simp only [fillA, Option.some.injEq] at h
    subst h
    exact ⟨vs, rfl, hv, h1⟩
  | (i, x) :: ps, (j, v) :: qs, hp, cs, cs', vs, hv, h1, h => by
    obtain ⟨rfl, hx, hp⟩ := hp
    simp only [fillA] at h
    split at h
    · rename_i off size ys hpl hys
      split at h
      · rename_i hc
        obtain ⟨us, u1, u2, u3⟩ := cellsA_has hys hx
        have hul := u2.length
        have hvl := hv.length
        have hs : v.cells.size = size := by rw [u1]; simp; omega
        have hn : ¬ (v.cells.size ≠ size || decide (off + v.cells.size > vs.toArray.size)) = true := by
          simp [hs, hvl]; omega
        have hst := hv.setMany u2 off
        obtain ⟨vs', r1, r2, r3⟩ := fill_has ps qs hp _ cs' _ hst (by
          intro z hz
          unfold setMany at hz
          rcases List.mem_append.1 hz with hz | hz
          · rcases List.mem_append.1 hz with hz | hz
            · exact h1 z (List.mem_of_mem_take hz)
            · exact u3 hc.2.2 z hz
          · exact h1 z (List.mem_of_mem_drop hz)) h
        refine ⟨vs', ?_, r2, r3⟩
        have hf := foldl_set off us 0 vs.toArray (by simp; omega)
        simp only [Instr.fill, hpl]
        rw [if_neg hn, u1]
        have : (us.toArray.zipIdx.foldl (fun (cs : Array Value) (p : Value × Nat) => cs.setIfInBounds (off + p.2) p.1) vs.toArray) = (setMany vs off us).toArray := by
          rw [← Array.foldl_toList, Array.toList_zipIdx]
          simpa using hf
        rw [← r1, ← this]
      · cases h
    · cases h
  | [], _ :: _, hp, _, _, _, _, _, _ => hp.elim
  | _ :: _, [], hp, _, _, _, _, _, _ => hp.elim
theorem parts_eval {a : Act} {w : World} (hs : Sat E σ a w) : ∀ (ps : List (Nat × Operand)), (ps.all fun p => opOk p.2) = true → PartsL (E.mem σ.o w) (ps.map fun p => (p.1, σ.eval p.2)) (ps.map fun p => (p.1, a.eval p.2))
  | [], _ => trivial
  | p :: ps, h => by
    simp only [List.all_cons, Bool.and_eq_true] at h
    exact ⟨rfl, hs.eval p.2 h.1, parts_eval hs ps h.2⟩
def placeS (T : Tab) (t : Nat) (i : Nat) : Option (Nat × Nat) := match (T t).fields[i]? with
  | some (fo, ft) => some (fo, (T ft).size)
  | none => none
def placeE (T : Tab) (e : Nat) (i : Nat) : Option (Nat × Nat) := some (i * (T e).size, (T e).size)
theorem run_places (hT : TabOk E.P T) (w : World) : ∀ (fs : List Field), (∀ f ∈ fs, (T f.type).known = true) →
    (fs.mapM fun f => (do pure (f.offset, ← sizeOf f.type) : Sem (Nat × Nat))).run E.P w = .ok (fs.map fun f => (f.offset, (T f.type).size)) w
  | [], _ => by simp
  | f :: fs, h => by
    have h1 := run_sizeOf' hT (h f (by simp)) w
    have h2 := run_places hT w fs (fun g hg => h g (by simp [hg]))
    simp only [List.mapM_cons, Sem.run_bind, h1, h2, Result.andThen_ok, Sem.run_pure, List.map_cons]
def buildR (T : Tab) (t : Nat) (ps : List (Nat × AV)) : Res := match (T t).kind with
  | 2 => match fillA (placeS T t) ((T t).zero.map fun z => .d (.lit z)) ps with
    | some cs => R0 ((T t).known = true ∧ ((T t).fields.all fun f => (T f.2).known) = true) (.agg cs)
    | none => Rno
  | 3 => match fillA (placeE T (T t).elem) ((T t).zero.map fun z => .d (.lit z)) ps with
    | some cs => R0 ((T t).known = true ∧ (T (T t).elem).known = true) (.agg cs)
    | none => Rno
  | _ => Rno
theorem sound_build (hT : TabOk E.P T) {t : TypeId} {ps : List (Nat × Operand)} (ho : o.op = .build t ps.toArray) (hx : (ps.all fun p => opOk p.2) = true) : Sound E o σ (buildR T t (ps.map fun p => (p.1, σ.eval p.2))) := by
  unfold buildR
  split
  · rename_i h2
    split
    · rename_i cs hcs
      refine Sound.pure ?_
      rintro ⟨h1, h3⟩ a w hs
      obtain ⟨fs, k1, k2⟩ := ti_struct hT h1 h2
      obtain ⟨z, hz, hz'⟩ := run_zero hT h1 w
      obtain ⟨_, _, _, _, _, _, _, hone, _⟩ := ti hT h1
      obtain ⟨vs', r1, r2, r3⟩ := fill_has _ _ (parts_eval hs ps hx) _ cs _ (lits_hasL (m := E.mem σ.o w) hone) (fun x hx => by simpa using List.all_eq_true.1 hone x hx) hcs
      have hpl := run_places hT w fs.toList (fun f hf => by
        have := List.all_eq_true.1 h3 (f.offset, f.type) (by rw [← k2]; exact List.mem_map.2 ⟨f, hf, rfl⟩)
        exact this)
      have hzc : z.cells = (T t).zero.toArray := by rw [← hz']
      have hplace : (fun i => ((fs.toList.map fun f => (f.offset, (T f.type).size)).toArray)[i]?) = placeS T t := by
        funext i
        unfold placeS
        rw [← k2]
        simp only [List.getElem?_toArray, List.getElem?_map]
        cases fs.toList[i]? <;> rfl
      refine ⟨.agg vs'.toArray, ?_, by simp only [Has]; exact ⟨vs', rfl, r2⟩⟩
      have hm : (fs.mapM fun f => (do pure (f.offset, ← sizeOf f.type) : Sem (Nat × Nat))).run E.P w = .ok (fs.toList.map fun f => (f.offset, (T f.type).size)).toArray w := by
        rw [Array.mapM_eq_mapM_toList]
        simp only [Sem.run_map, hpl]
        rfl
      simp only [execOp, ho, Instr.build, Sem.run_bind, hz, Result.andThen_ok, run_underlying k1, hm, hplace, hzc]
      have e : (Array.map (fun x : Nat × Operand => (x.fst, a.eval x.snd)) ps.toArray).toList = ps.map fun p => (p.1, a.eval p.2) := by simp
      rw [e, show (fun x => placeS T t x) = placeS T t from rfl, r1]
      rfl
    · exact Sound.no
  · rename_i h2
    split
    · rename_i cs hcs
      refine Sound.pure ?_
      rintro ⟨h1, h3⟩ a w hs
      have k1 := ti_array hT h1 h2
      obtain ⟨z, hz, hz'⟩ := run_zero hT h1 w
      obtain ⟨_, _, _, _, _, _, _, hone, _⟩ := ti hT h1
      obtain ⟨vs', r1, r2, r3⟩ := fill_has _ _ (parts_eval hs ps hx) _ cs _ (lits_hasL (m := E.mem σ.o w) hone) (fun x hx => by simpa using List.all_eq_true.1 hone x hx) hcs
      have hzc : z.cells = (T t).zero.toArray := by rw [← hz']
      refine ⟨.agg vs'.toArray, ?_, by simp only [Has]; exact ⟨vs', rfl, r2⟩⟩
      simp only [execOp, ho, Instr.build, Sem.run_bind, hz, Result.andThen_ok, run_underlying k1, run_sizeOf' hT h3, hzc]
      have e : (Array.map (fun x : Nat × Operand => (x.fst, a.eval x.snd)) ps.toArray).toList = ps.map fun p => (p.1, a.eval p.2) := by simp
      rw [e, show (fun i => some (i * (T (T t).elem).size, (T (T t).elem).size)) = placeE T (T t).elem from rfl, r1]
      rfl
    · exact Sound.no
  · exact Sound.no
def chunks {α : Type} (sz : Nat) : Nat → List α → List (List α)
  | 0, _ => []
  | n + 1, ds => ds.take sz :: chunks sz n (ds.drop sz)
theorem chunks_length {α : Type} (sz : Nat) : ∀ (n : Nat) (ds : List α), (chunks sz n ds).length = n
  | 0, _ => rfl
  | n + 1, ds => by simp [chunks, chunks_length sz n]
theorem chunks_vals {m : Mem} {sz : Nat} : ∀ {n : Nat} {ds : List Dat} {vs : List Value}, DatL m ds vs → ds.length = n * sz → RowVals m sz (chunks sz n ds) vs
  | 0, ds, vs, h, hl => by
    have : vs = [] := List.eq_nil_of_length_eq_zero (by rw [h.length, hl]; simp)
    exact this
  | n + 1, ds, vs, h, hl => by
    refine ⟨?_, h.take sz, chunks_vals (h.drop sz) ?_⟩
    · rw [List.length_take, hl, Nat.add_mul]; omega
    · rw [List.length_drop, hl, Nat.add_mul]; omega
def clP (o : List AObj) (ps : List (Nat × AV)) : List (Nat × AV) := ps.map fun p => (p.1, cl o p.2)
theorem partsL_mk {m : Mem} : ∀ {ps : List (Nat × AV)} {qs : List (Nat × Value)}, ps.map (·.1) = qs.map (·.1) → HasL m (ps.map (·.2)) (qs.map (·.2)) → PartsL m ps qs
  | [], [], _, _ => trivial
  | (i, x) :: ps, (j, v) :: qs, h, hh => by
    simp only [List.map_cons, List.cons.injEq] at h
    simp only [List.map_cons, HasL] at hh
    exact ⟨h.1, hh.1, partsL_mk h.2 hh.2⟩
  | [], _ :: _, h, _ => by simp at h
  | _ :: _, [], h, _ => by simp at h
theorem clL_map (o : List AObj) : ∀ (xs : List AV), clL o xs = xs.map (cl o)
  | [] => rfl
  | x :: xs => by simp [clL, clL_map o xs]
def zerosA (T : Tab) (e n : Nat) : List AV := (List.replicate n ((T e).zero.map fun z => AV.d (.lit z))).flatten
def buildSliceR (T : Tab) (ob : List AObj) (n : Nat) (dst : Option Nat) (t len : Nat) (ps : List (Nat × AV)) : Res := match dst, fillA (placeE T (T t).elem) (zerosA T (T t).elem len) (clP ob ps) with
  | some d, some cs => match allD cs with
    | some ds => ⟨(T t).known = true ∧ (T t).kind = 1 ∧ (T (T t).elem).known = true ∧ 0 < (T (T t).elem).size ∧ len * (T (T t).elem).size ≤ 16777216 ∧ ds.length = len * (T (T t).elem).size ∧ d < n ∧ clOkL ob (ps.map (·.2)),
        fun _ v => .own d v, fun _ v => frzEff ob (idsOfL (ps.map (·.2))) ++ [(d, .row v (T t).elem (T (T t).elem).size (chunks (T (T t).elem).size len ds))]⟩
    | none => Rno
  | _, _ => Rno
theorem applyEff_append (es : List (Nat × AObj)) (d : Nat) (x : AObj) (o : List AObj) : applyEff (es ++ [(d, x)]) o = (applyEff es o).set d x := by
  simp [applyEff, List.foldl_append]
theorem zerosA_has (hT : TabOk E.P T) {e : Nat} (hk : (T e).known = true) {m : Mem} {z : Array Value} (hz : z.toList = (T e).zero) (hp : 0 < z.size) : ∀ n, ∃ vs : List Value, HasL m (zerosA T e n) vs ∧ vs.toArray = madeCells z (n * z.size) ∧ ∀ y ∈ vs, y.oneCell' = true := by
  intro n
  obtain ⟨_, _, _, _, _, _, _, hone, _⟩ := ti hT hk
  have h := madeCells_rows (m := m) (z := z) (by rw [hz]; exact hone) hp n
  refine ⟨(madeCells z (n * z.size)).toList, ?_, by simp, h.one⟩
  have gen : ∀ (n : Nat) (xs : List Value), RowVals m z.size (List.replicate n (z.toList.map fun v => Dat.lit v)) xs → HasL m (zerosA T e n) xs := by
    intro n
    induction n with
    | zero => intro xs h; rw [show xs = [] from h]; simp only [zerosA, List.replicate_zero, List.flatten_nil, HasL]
    | succ n ih =>
      intro xs h
      rw [List.replicate_succ] at h
      obtain ⟨h1, h2, h3⟩ := h
      have := h2.hasL.append (ih _ h3)
      rw [List.take_append_drop] at this
      simp only [zerosA, List.replicate_succ, List.flatten_cons]
      simp only [List.map_map, hz] at this
      exact this
  exact gen n _ h
theorem sound_buildSlice (hT : TabOk E.P T) {t : TypeId} {len : Nat} {ps : List (Nat × Operand)} (ho : o.op = .buildSlice t len ps.toArray) (hx : (ps.all fun p => opOk p.2) = true) :
    Sound E o σ (buildSliceR T σ.o σ.o.length o.dst t len (ps.map fun p => (p.1, σ.eval p.2))) := by
  unfold buildSliceR
  split
  · rename_i d cs hd' hcs
    split
    · rename_i ds hds
      refine Sound.of ?_
      rintro ⟨h1, h2, h3, h4, h5, h6, hd, hok⟩ a w hs
      have hev : HasL (E.mem σ.o w) ((ps.map fun p => (p.1, σ.eval p.2)).map (·.2)) (ps.map fun p => a.eval p.2) := by
        have := evalL hs (l := ps.map (·.2)) (by simpa [List.all_map] using hx)
        simpa [List.map_map, Function.comp_def] using this
      obtain ⟨hc1, hc2⟩ := hs.close _ _ hev hok
      obtain ⟨info, k1, k2, k3, z, k4, k5, k6, k7⟩ := ti hT h3
      have hzs : z.cells.size = (T (T t).elem).size := by rw [← k7, ← k5]; simp
      obtain ⟨vs, z1, z2, z3⟩ := zerosA_has hT h3 (m := E.mem (applyEff (frzEff σ.o (idsOfL ((ps.map fun p => (p.1, σ.eval p.2)).map (·.2)))) σ.o) w) k5 (by omega) len
      have hpl : PartsL (E.mem (applyEff (frzEff σ.o (idsOfL ((ps.map fun p => (p.1, σ.eval p.2)).map (·.2)))) σ.o) w) (clP σ.o (ps.map fun p => (p.1, σ.eval p.2))) (ps.map fun p => (p.1, a.eval p.2)) := by
        refine partsL_mk (by simp [clP]) ?_
        rw [clL_map] at hc2
        simpa [clP, List.map_map, Function.comp_def] using hc2
      obtain ⟨vs', r1, r2, r3⟩ := fill_has _ _ hpl _ cs vs z1 z3 hcs
      have hdl := allD_hasL hds r2
      have hrun : (execOp a.eval o).run E.P w = .ok (.value (.slice (some ⟨w.heap.size, 0, none⟩) len len)) (w.alloc (.cells vs'.toArray (T t).elem)) := by
        have hn : ¬ len * (T (T t).elem).size > 16777216 := by omega
        have hn' : ¬ 16777216 < len * (T (T t).elem).size := hn
        have e : (Array.map (fun x : Nat × Operand => (x.fst, a.eval x.snd)) ps.toArray).toList = ps.map fun p => (p.1, a.eval p.2) := by simp
        have hmade : vs.toArray = (Array.range (len * (T (T t).elem).size)).map (z.cells[· % z.cells.size]!) := by rw [z2]; rw [show len * z.cells.size = len * (T (T t).elem).size from by rw [hzs]]; rfl
        have hpf : (fun i => some (i * (T (T t).elem).size, (T (T t).elem).size)) = placeE T (T t).elem := rfl
        have hzv : (zeroValue (T t).elem).run E.P w = .ok z w := by simp [zeroValue, typeInfo, k1, k4]
        by_cases h0 : len * (T (T t).elem).size = 0
        · have hl0 : len = 0 := by
            rcases Nat.mul_eq_zero.1 h0 with h | h
            · exact h
            · omega
          subst hl0
          have hv0 : vs = [] := by
            have := congrArg Array.size z2
            simp [size_madeCells] at this
            exact this
          subst hv0
          simp only [execOp, ho, Instr.buildSlice, Sem.run_bind, run_underlying (ti_slice hT h1 h2), Result.andThen_ok, run_sizeOf' hT h3, e, hpf]
          simp [newRow, newObj, Sem.run, r1, Array.range_zero']
        · have he : (Array.map (fun x => z.cells[x % z.cells.size]!) (Array.range (len * (T (T t).elem).size))) = vs.toArray := hmade.symm
          simp only [execOp, ho, Instr.buildSlice, Sem.run_bind, run_underlying (ti_slice hT h1 h2), Result.andThen_ok, run_sizeOf' hT h3, e, hpf]
          simp [h0, hn', hzv, he, newRow, newObj, Sem.run, r1]
      refine ⟨0, .slice (some ⟨w.heap.size, 0, none⟩) len len, _, _, hrun, ?_, ?_⟩
      · show Sat E ⟨σ.t, applyEff (frzEff σ.o (idsOfL ((ps.map fun p => (p.1, σ.eval p.2)).map (·.2))) ++ [(d, .row (.slice (some ⟨w.heap.size, 0, none⟩) len len) (T t).elem (T (T t).elem).size (chunks (T (T t).elem).size len ds))]) σ.o⟩ a _
        rw [applyEff_append]
        have hd2 : d < (applyEff (frzEff σ.o (idsOfL ((ps.map fun p => (p.1, σ.eval p.2)).map (·.2)))) σ.o).length := by rw [applyEff_length]; exact hd
        refine hc1.turn (objD_get hd2) (rb := none) (World.grownBy_alloc w _ none) (by simp) (fun b hb => ?_) fun hle => ?_
        · have hb' : w.heap.size = b := by simpa [AObj.blk, Value.ownBlock] using hb
          subst hb'
          exact ⟨.inr (Nat.le_refl _), by simp⟩
        · have hvl : vs'.length = len * (T (T t).elem).size := by rw [hdl.length, h6]
          refine ⟨vs', ⟨by rw [chunks_length, hvl], .inr ⟨w.heap.size, len, _, by rw [chunks_length], heap_alloc_new w _, by rw [chunks_length]; exact Nat.le_refl _, ?_, by simp [hvl], ?_⟩⟩, (chunks_vals hdl h6).mono hle⟩
          · have : len ≤ len * (T (T t).elem).size := Nat.le_mul_of_pos_right _ h4
            simp only [maxLen]; omega
          · rw [chunks_length, ← hvl, List.toList_toArray, List.take_length]
      · simp only [Has]; exact ⟨trivial, rfl⟩
    · exact Sound.no
  · exact Sound.no
end
end Go.Proofs.YtopigomfhggkoaaDoor.A
