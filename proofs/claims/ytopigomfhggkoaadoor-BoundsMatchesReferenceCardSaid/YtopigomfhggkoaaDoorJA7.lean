/- Stores; fields; elements; lengths; slices; and other operations. -/
import Derived.Test.YtopigomfhggkoaaDoorJA6
set_option linter.unusedVariables false
set_option linter.unusedSimpArgs false
namespace Go.Proofs.YtopigomfhggkoaaDoor.A
open Go.RowKit
section
variable {E : Env} {o : Oper} {σ : St} {T : Tab}
def setMany {α : Type} (cs : List α) (off : Nat) (ys : List α) : List α := cs.take off ++ ys ++ cs.drop (off + ys.length)
theorem setMany_length {α : Type} {cs ys : List α} {off : Nat} (h : off + ys.length ≤ cs.length) : (setMany cs off ys).length = cs.length := by
  simp only [setMany, List.length_append, List.length_take, List.length_drop]; omega
theorem setMany_get {α : Type} {cs ys : List α} {off : Nat} (h : off + ys.length ≤ cs.length) (j : Nat) : (setMany cs off ys)[j]? = if j < off then cs[j]? else if j < off + ys.length then ys[j - off]? else cs[j]? := by
  have h1 : (cs.take off).length = off := by rw [List.length_take]; omega
  unfold setMany
  rw [List.append_assoc, List.getElem?_append, h1]
  split
  · rw [List.getElem?_take, if_pos (by assumption)]
  · rw [List.getElem?_append]
    by_cases h2 : j - off < ys.length
    · rw [if_pos h2, if_pos (by omega)]
    · rw [if_neg h2, if_neg (by omega), List.getElem?_drop]
      congr 1
      omega
theorem setMany_inner {α : Type} {cs ys : List α} {a n off N : Nat} (hN : N ≤ cs.length) (ha : a + n ≤ N) (ho : off + ys.length ≤ n) :
    (setMany cs (a + off) ys).take N = setMany (cs.take N) a (setMany (((cs.take N).drop a).take n) off ys) := by
  have l1 : (cs.take N).length = N := by rw [List.length_take]; omega
  have l2 : (((cs.take N).drop a).take n).length = n := by rw [List.length_take, List.length_drop, l1]; omega
  have l3 : (setMany (((cs.take N).drop a).take n) off ys).length = n := by rw [setMany_length (by omega), l2]
  apply List.ext_getElem?
  intro j
  rw [setMany_get (by rw [l1, l3]; exact ha), l3, List.getElem?_take, setMany_get (by omega)]
  by_cases hj : j < N
  · rw [if_pos hj]
    by_cases h1 : j < a
    · rw [if_pos h1, if_pos (by omega), List.getElem?_take, if_pos hj]
    · rw [if_neg h1]
      by_cases h2 : j < a + n
      · rw [if_pos h2, setMany_get (by omega)]
        by_cases h3 : j < a + off
        · rw [if_pos h3, if_pos (show j - a < off by omega), List.getElem?_take, if_pos (show j - a < n by omega), List.getElem?_drop, List.getElem?_take, if_pos (show a + (j - a) < N by omega)]
          congr 1; omega
        · rw [if_neg h3, if_neg (show ¬ j - a < off by omega)]
          by_cases h4 : j < a + off + ys.length
          · rw [if_pos h4, if_pos (show j - a < off + ys.length by omega)]
            congr 1; omega
          · rw [if_neg h4, if_neg (show ¬ j - a < off + ys.length by omega), List.getElem?_take, if_pos (show j - a < n by omega), List.getElem?_drop, List.getElem?_take, if_pos (show a + (j - a) < N by omega)]
            congr 1; omega
      · rw [if_neg h2, if_neg (show ¬ j < a + off by omega), if_neg (show ¬ j < a + off + ys.length by omega), List.getElem?_take, if_pos hj]
  · rw [if_neg hj, if_neg (show ¬ j < a by omega), if_neg (show ¬ j < a + n by omega), List.getElem?_take, if_neg hj]
theorem HasL.setMany {m : Mem} {cs ys : List AV} {vs us : List Value} (h : HasL m cs vs) (h' : HasL m ys us) (off : Nat) : HasL m (A.setMany cs off ys) (A.setMany vs off us) := by
  unfold A.setMany
  rw [h'.length]
  exact ((h.take off).append h').append (h.drop _)
theorem DatL.setMany {m : Mem} {cs ys : List Dat} {vs us : List Value} (h : DatL m cs vs) (h' : DatL m ys us) (off : Nat) : DatL m (A.setMany cs off ys) (A.setMany vs off us) := by
  unfold A.setMany
  rw [h'.length]
  exact ((h.take off).append h').append (h.drop _)
theorem run_storeVar_at (hT : TabOk E.P T) {t : Nat} (hk : (T t).known = true) {g off : Nat} {v : Value} {vs : List Value} (hv : v.cells = vs.toArray) (hl : vs.length = (T t).size) (h1 : ∀ y ∈ vs, y.oneCell' = true)
    {cur : Array Value} {et : TypeId} {w : World} (hg : w.heap[g]? = some (.cells cur et (0, 0))) (hf : off + vs.length ≤ cur.size) :
    (storeVar t ⟨g, off, none⟩ v).run E.P w = .ok () (w.setRow g (setMany cur.toList off vs).toArray) := by
  have hst := run_storeCells_at E.P g off et vs 0 cur w hg (by simpa using hf) h1
  simp only [Nat.add_zero] at hst
  have hs : ¬ (v.cells.size ≠ (T t).size) := by rw [hv]; simp [hl]
  simp [storeVar, run_sizeOf' hT hk, hv, hl, hst, setMany]
theorem grownBy_setRow (w : World) (g : Nat) (c : Array Value) : w.grownBy (w.setRow g c) (some g) :=
  ⟨rfl, rfl, rfl, by simp [World.setRow], fun k _ hk => setRow_other w g k _ (fun e => hk (by rw [e]))⟩
theorem setRow_size (w : World) (g : Nat) (c : Array Value) : (w.setRow g c).heap.size = w.heap.size := by simp [World.setRow]
def storeR (T : Tab) (n : Nat) (t : Nat) (x : AV) (ob : AObj) (y : AV) : Res := match x, ob, cellsA y with
  | .ptr d g off, .box g' cs, some ys => ⟨g = g' ∧ d < n ∧ (T t).known = true ∧ ys.length = (T t).size ∧ off + ys.length ≤ cs.length ∧ oneCells ys = true, fun _ _ => .any, fun _ _ => [(d, .box g (setMany cs off ys))]⟩
  | .elo d u sz i off, .row v e sz' rows, some ys => match allD ys with
    | some ds => ⟨u = v ∧ sz = sz' ∧ d < n ∧ i < rows.length ∧ (T t).known = true ∧ ys.length = (T t).size ∧ off + ys.length ≤ sz, fun _ _ => .any, fun _ _ => [(d, .row v e sz (rows.set i (setMany (rows.getD i []) off ds)))]⟩
    | none => Rno
  | _, _, _ => Rno
theorem RowVals.set {m : Mem} {sz : Nat} : ∀ {rows : List (List Dat)} {xs : List Value}, RowVals m sz rows xs → ∀ {i : Nat} {r : List Dat} {ys : List Value}, i < rows.length → r.length = sz → DatL m r ys → RowVals m sz (rows.set i r) (setMany xs (i * sz) ys)
  | [], _, _, i, r, ys, hi, _, _ => by simp at hi
  | x :: rs, xs, hr, i, r, ys, hi, hl, hy => by
    have hyl : ys.length = sz := by rw [hy.length, hl]
    have hxl : sz ≤ xs.length := by
      have h1 := hr.2.1.length
      rw [List.length_take, hr.1] at h1
      omega
    cases i with
    | zero =>
      simp only [List.set_cons_zero, setMany, Nat.zero_mul, List.take_zero, List.nil_append, Nat.zero_add, hyl]
      exact RowVals.cons hy hl hr.2.2
    | succ i =>
      simp only [List.set_cons_succ]
      refine ⟨hr.1, ?_, ?_⟩
      · have : (setMany xs ((i + 1) * sz) ys).take sz = xs.take sz := by
          have h2 : sz ≤ ((i + 1) * sz) := by rw [Nat.add_mul]; omega
          have hL := RowVals.length hr.2.2
          have h3 : (xs.take ((i + 1) * sz)).length = (i + 1) * sz := by
            rw [List.length_take]
            have : i * sz + sz ≤ rs.length * sz := by
              have := Nat.mul_le_mul_right sz (show i + 1 ≤ rs.length by simp at hi; omega)
              rwa [Nat.add_mul, Nat.one_mul] at this
            rw [List.length_drop] at hL
            rw [Nat.add_mul]
            omega
          unfold setMany
          rw [List.append_assoc, List.take_append_of_le_length (by omega), List.take_take, Nat.min_eq_left h2]
        rw [this]; exact hr.2.1
      · have : (setMany xs ((i + 1) * sz) ys).drop sz = setMany (xs.drop sz) (i * sz) ys := by
          have hL := RowVals.length hr.2.2
          rw [List.length_drop] at hL
          have h4 : i * sz + sz ≤ rs.length * sz := by
            have := Nat.mul_le_mul_right sz (show i + 1 ≤ rs.length by simp at hi; omega)
            rwa [Nat.add_mul, Nat.one_mul] at this
          have h3 : sz ≤ (xs.take ((i + 1) * sz)).length := by
            rw [List.length_take, Nat.add_mul]; omega
          unfold setMany
          rw [List.append_assoc, List.drop_append_of_le_length h3, List.append_assoc, List.drop_take, List.drop_drop]
          congr 1
          · congr 1; rw [Nat.add_mul]; omega
          · congr 2; rw [Nat.add_mul]; omega
        rw [this]
        exact RowVals.set hr.2.2 (by simpa using hi) hl hy
theorem store_at (hT : TabOk E.P T) {t : TypeId} {x y : Operand} (ho : o.op = .store t x y) (hx : opOk x = true) (ob : AObj)
    (hO : ∀ d, names (σ.eval x) d → ob = objD σ.o d) {a : Act} {w : World} (hs : Sat E σ a w) (yv : AV) (hyv : Has (E.mem σ.o w) yv (a.eval y)) (hc : (storeR T σ.o.length t (σ.eval x) ob yv).cond) :
    ∃ g u w', (execOp a.eval o).run E.P w = .ok .skip w' ∧ Sat E ⟨σ.t, applyEff ((storeR T σ.o.length t (σ.eval x) ob yv).eff g u) σ.o⟩ a w' := by
  revert hc
  unfold storeR
  split
  · rename_i d g off g' cs ys e eys
    rintro ⟨rfl, hd, hk, hyl, hf, hone⟩
    have hp := hs.eval x hx
    have hob := hO d (by rw [e]; rfl)
    rw [e] at hp
    simp only [Has] at hp
    obtain ⟨us, hu1, hu2, hu3⟩ := cellsA_has eys hyv
    have h0 := objAt_objD hs.o d
    rw [← hob] at h0
    obtain ⟨et, vs, k1, k2, k3⟩ := h0
    rw [show (E.mem σ.o w).heap = w.heap from rfl] at k1
    have hul : us.length = ys.length := hu2.length
    have hvl : vs.length = cs.length := k2.length
    have hst := run_storeVar_at hT hk (off := off) hu1 (by rw [hul, hyl]) (hu3 hone) k1 (by simp; omega)
    refine ⟨0, .nilFunc, _, by simp only [execOp, ho, hp, Instr.storeAt, Instr.sureAddr, Sem.run_bind, Sem.run_pure, Result.andThen_ok, hst]; rfl, ?_⟩
    refine hs.turn (objD_get hd) (rb := some g) (grownBy_setRow _ _ _) (fun b hb => by rw [← hob]; simpa [AObj.blk] using hb) (fun b hb => ?_) fun hle => ?_
    · have hb' : g = b := by simpa [AObj.blk] using hb
      subst hb'
      refine ⟨.inl (by rw [← hob]; rfl), ?_⟩
      rw [setRow_size]
      exact (hs.own d _ g (objD_get hd) (by rw [← hob]; rfl)).2
    · refine ⟨et, setMany vs off us, ?_, (k2.setMany hu2 off).mono hle, ?_⟩
      · show (w.setRow g (setMany vs.toArray.toList off us).toArray).heap[g]? = _
        rw [List.toList_toArray]
        exact setRow_heap w g vs.toArray (setMany vs off us).toArray et (0, 0) k1
      · intro z hz
        unfold setMany at hz
        rcases List.mem_append.1 hz with hz | hz
        · rcases List.mem_append.1 hz with hz | hz
          · exact k3 z (List.mem_of_mem_take hz)
          · exact hu3 hone z hz
        · exact k3 z (List.mem_of_mem_drop hz)
  · rename_i d u sz i off v e' sz' rows ys e eys
    split
    · rename_i ds hds
      rintro ⟨rfl, rfl, hd, hi, hk, hyl, hf⟩
      have hp := hs.eval x hx
      have hob := hO d (by rw [e]; rfl)
      rw [e] at hp
      simp only [Has] at hp
      obtain ⟨b, len, c, rfl, hp⟩ := hp
      obtain ⟨us, hu1, hu2, hu3⟩ := cellsA_has eys hyv
      have hud := allD_hasL hds hu2
      have h0 := objAt_objD hs.o d
      rw [← hob] at h0
      obtain ⟨xs, ⟨hxl, hxs⟩, hrv⟩ := h0
      rcases hxs with ⟨hnil, h0⟩ | ⟨g, cap, cur, hv, hg, hcap, hcm, hcs, ht⟩
      · omega
      · injection hv with hv hlen hcap'
        injection hv with hv
        injection hv with hv _ _
        subst hv
        rw [show (E.mem σ.o w).heap = w.heap from rfl] at hg
        have hul : us.length = ys.length := hu2.length
        have hmul : i * sz + sz ≤ cur.size := by
          rw [hcs]
          have := Nat.mul_le_mul_right sz (show i + 1 ≤ cap by omega)
          rwa [Nat.add_mul, Nat.one_mul] at this
        have hst := run_storeVar_at hT hk (off := i * sz + off) hu1 (by rw [hul, hyl]) (hud.one) hg (by omega)
        refine ⟨0, .nilFunc, _, by simp only [execOp, ho, hp, Instr.storeAt, Instr.sureAddr, Sem.run_bind, Sem.run_pure, Result.andThen_ok, hst]; rfl, ?_⟩
        obtain ⟨hrl, hrd⟩ := hrv.get i (rows.getD i []) (by rw [List.getD_eq_getElem?_getD, List.getElem?_eq_getElem hi]; rfl)
        refine hs.turn (objD_get hd) (rb := some b) (grownBy_setRow _ _ _) (fun b' hb => by rw [← hob]; simpa [AObj.blk, Value.ownBlock] using hb) (fun b' hb => ?_) fun hle => ?_
        · have hb' : b = b' := by simpa [AObj.blk, Value.ownBlock] using hb
          subst hb'
          refine ⟨.inl (by rw [← hob]; rfl), ?_⟩
          rw [setRow_size]
          exact (hs.own d _ b (objD_get hd) (by rw [← hob]; rfl)).2
        · have hdl : ds.length = us.length := hud.length.symm
          refine ⟨setMany xs (i * sz) (setMany ((xs.drop (i * sz)).take sz) off us), ⟨?_, .inr ⟨b, c, _, by rw [List.length_set, hlen], setRow_heap w b cur _ e' _ hg, by rw [List.length_set]; omega, by omega, by rw [List.size_toArray, setMany_length (by simp; omega)]; simp [hcs, hcap'], ?_⟩⟩, ?_⟩
          · have h1 : (setMany ((xs.drop (i * sz)).take sz) off us).length = sz := by
              have := hrd.length
              rw [setMany_length (by rw [this]; omega), this, hrl]
            have h2 : i * sz + sz ≤ xs.length := by
              rw [hxl]
              have := Nat.mul_le_mul_right sz (show i + 1 ≤ rows.length by omega)
              rwa [Nat.add_mul, Nat.one_mul] at this
            rw [setMany_length (by omega), hxl, List.length_set]
          · have h2 : i * sz + sz ≤ rows.length * sz := by
              have := Nat.mul_le_mul_right sz (show i + 1 ≤ rows.length by omega)
              rwa [Nat.add_mul, Nat.one_mul] at this
            have h3 : rows.length * sz ≤ cur.toList.length := by
              have h5 : cur.toList.length = cap * sz := by rw [← hcs]; exact Array.length_toList
              rw [h5]
              exact Nat.mul_le_mul_right sz hcap
            rw [List.length_set, ← ht]
            exact setMany_inner h3 h2 (by omega)
          · refine RowVals.mono hle (RowVals.set hrv hi ?_ (hrd.setMany hud off))
            rw [setMany_length (by omega), hrl]
    · exact fun h => h.elim
  · exact fun h => h.elim
theorem storeR_av (n t : Nat) (x : AV) (ob : AObj) (y : AV) (g : Nat) (u : Value) : (storeR T n t x ob y).av g u = .any := by
  unfold storeR
  split
  · rfl
  · split <;> rfl
  · rfl
theorem sound_store (hT : TabOk E.P T) {t : TypeId} {x y : Operand} (ho : o.op = .store t x y) (hx : opOk x = true) (hy : opOk y = true) (ob : AObj)
    (hO : ∀ d, names (σ.eval x) d → ob = objD σ.o d) : Sound E o σ (storeR T σ.o.length t (σ.eval x) ob (σ.eval y)) :=
  sound_eff (fun hc a w hs => store_at hT ho hx ob hO hs _ (hs.eval y hy) hc) (storeR_av _ _ _ _ _)
def notIn (d : Nat) : List Nat → Prop
  | [] => True
  | a :: r => a ≠ d ∧ notIn d r
theorem notIn_frz {d : Nat} : ∀ {ids : List Nat} {o o' : List AObj}, notIn d ids → objD (applyEff (frzEff o ids) o') d = objD o' d
  | [], _, _, _ => rfl
  | a :: r, o, o', h => by
    show objD (applyEff (frzEff o r) (o'.set a _)) d = _
    rw [notIn_frz h.2, objD_set, if_neg (fun e => h.1 e.1)]
def storeC (T : Tab) (o : List AObj) (t : Nat) (x : AV) (ob : AObj) (y : AV) : Res :=
  ⟨clOk o y ∧ (match x with | .elo d _ _ _ _ => notIn d (idsOf y) | _ => False) ∧ (storeR T o.length t x ob (cl o y)).cond, fun _ _ => .any, fun g u => frzEff o (idsOf y) ++ (storeR T o.length t x ob (cl o y)).eff g u⟩
def storeX (T : Tab) (o : List AObj) (t : Nat) (x : AV) (ob : AObj) (y : AV) : Res := match x with
  | .elo d u sz i off => (match y with | .d z => storeR T o.length t (.elo d u sz i off) ob (.d z) | y => storeC T o t (.elo d u sz i off) ob y)
  | x => storeR T o.length t x ob y
theorem sound_storeX (hT : TabOk E.P T) {t : TypeId} {x y : Operand} (ho : o.op = .store t x y) (hx : opOk x = true) (hy : opOk y = true) (ob : AObj)
    (hO : ∀ d, names (σ.eval x) d → ob = objD σ.o d) : Sound E o σ (storeX T σ.o t (σ.eval x) ob (σ.eval y)) := by
  unfold storeX
  split
  · rename_i d u sz i off e
    split
    · rename_i z ez
      rw [← e, ← ez]
      exact sound_store hT ho hx hy ob hO
    · rename_i y' hne
      rw [← e]
      refine sound_eff ?_ (fun _ _ => rfl)
      rintro ⟨hok, hni, hc⟩ a w hs
      rw [e] at hni
      have hv := hs.eval y hy
      have hl : HasL (E.mem σ.o w) [σ.eval y] [a.eval y] := by simp only [HasL]; exact ⟨hv, trivial⟩
      obtain ⟨h1, h2⟩ := hs.close [σ.eval y] [a.eval y] hl ⟨hok, trivial⟩
      simp only [idsOfL, List.append_nil] at h1 h2
      simp only [clL, HasL] at h2
      have hob : ∀ d', names (σ.eval x) d' → ob = objD (applyEff (frzEff σ.o (idsOf (σ.eval y))) σ.o) d' := fun d' hd => by
        rw [hO d' hd]
        rw [e] at hd
        have : d' = d := by simpa only [names, eq_comm] using hd
        subst this
        exact (notIn_frz hni).symm
      have hlen : (applyEff (frzEff σ.o (idsOf (σ.eval y))) σ.o).length = σ.o.length := applyEff_length ..
      obtain ⟨g, u', w', hr, hs'⟩ := store_at (σ := ⟨σ.t, applyEff (frzEff σ.o (idsOf (σ.eval y))) σ.o⟩) hT ho hx ob hob h1 (cl σ.o (σ.eval y)) h2.1 (by
        rw [hlen]; exact hc)
      refine ⟨g, u', w', hr, ?_⟩
      have ha : applyEff (frzEff σ.o (idsOf (σ.eval y)) ++ (storeR T σ.o.length t (σ.eval x) ob (cl σ.o (σ.eval y))).eff g u') σ.o = applyEff ((storeR T σ.o.length t (σ.eval x) ob (cl σ.o (σ.eval y))).eff g u') (applyEff (frzEff σ.o (idsOf (σ.eval y))) σ.o) := by
        simp only [applyEff, List.foldl_append]
      show Sat E ⟨σ.t, applyEff (frzEff σ.o (idsOf (σ.eval y)) ++ _) σ.o⟩ a w'
      rw [ha]
      rw [hlen] at hs'
      exact hs'
  · exact sound_store hT ho hx hy ob hO
end
end Go.Proofs.YtopigomfhggkoaaDoor.A
