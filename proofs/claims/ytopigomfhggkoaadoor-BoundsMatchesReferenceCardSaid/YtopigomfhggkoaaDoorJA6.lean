/- The operations on memory: new variables, loads, stores, fields, elements. -/
import Derived.Test.YtopigomfhggkoaaDoorJA5
set_option linter.unusedVariables false
set_option linter.unusedSimpArgs false
namespace Go.Proofs.YtopigomfhggkoaaDoor.A
open Go.RowKit
def names : AV → Nat → Prop
  | .own t _, d => t = d
  | .ptr t _ _, d => t = d
  | .elo t _ _ _ _, d => t = d
  | _, _ => False
section
variable {E : Env} {o : Oper} {σ : St} {T : Tab}
theorem sound_eff {r : Res} (h : r.cond → ∀ a w, Sat E σ a w → ∃ g u w', (execOp a.eval o).run E.P w = .ok .skip w' ∧ Sat E ⟨σ.t, applyEff (r.eff g u) σ.o⟩ a w') (hav : ∀ g u, r.av g u = .any) : Sound E o σ r := fun hc a w Q hs => by
  obtain ⟨g, u, w', hr, h1⟩ := h hc a w hs
  unfold Oper.wp
  rw [hr]
  exact ⟨g, u, undef, rfl, h1, by rw [hav]; simp only [Has]⟩
theorem ti (hT : TabOk E.P T) {t : Nat} (hk : (T t).known = true) : ∃ info, E.P.info? t = some info ∧ info.size = (T t).size ∧ info.bytes = (T t).bytes ∧ ∃ z, info.zero = some z ∧ z.cells.toList = (T t).zero ∧
    ((T t).zero.all (·.oneCell') = true) ∧ (T t).zero.length = (T t).size := by
  obtain ⟨info, d, h1, h2, h3, h4, h5, h6, h7, _⟩ := hT t hk
  obtain ⟨z, hz, hz'⟩ := Option.map_eq_some_iff.1 h5
  exact ⟨info, h1, h3, h4, z, hz, hz', h6, h7⟩
theorem ti_slice (hT : TabOk E.P T) {t : Nat} (hk : (T t).known = true) (h : (T t).kind = 1) : E.P.underlying t = some (.slice (T t).elem) := by
  obtain ⟨info, d, h1, h2, h3, h4, h5, h6, h7, h8, k1, k2, k3, k4, k5, k6, k7⟩ := hT t hk
  rw [h2, k1 h]
theorem ti_struct (hT : TabOk E.P T) {t : Nat} (hk : (T t).known = true) (h : (T t).kind = 2) : ∃ fs, E.P.underlying t = some (.struct fs) ∧ fs.toList.map (fun f => (f.offset, f.type)) = (T t).fields := by
  obtain ⟨info, d, h1, h2, h3, h4, h5, h6, h7, h8, k1, k2, k3, k4, k5, k6, k7⟩ := hT t hk
  obtain ⟨fs, e, h'⟩ := k2 h
  exact ⟨fs, by rw [h2, e], h'⟩
theorem ti_array (hT : TabOk E.P T) {t : Nat} (hk : (T t).known = true) (h : (T t).kind = 3) : E.P.underlying t = some (.array (T t).alen (T t).elem) := by
  obtain ⟨info, d, h1, h2, h3, h4, h5, h6, h7, h8, k1, k2, k3, k4, k5, k6, k7⟩ := hT t hk
  rw [h2, k3 h]
theorem ti_string (hT : TabOk E.P T) {t : Nat} (hk : (T t).known = true) (h : (T t).kind = 4) : E.P.underlying t = some .string := by
  obtain ⟨info, d, h1, h2, h3, h4, h5, h6, h7, h8, k1, k2, k3, k4, k5, k6, k7⟩ := hT t hk
  rw [h2, k4 h]
theorem ti_int (hT : TabOk E.P T) {t : Nat} (hk : (T t).known = true) (h : (T t).kind = 5) : E.P.underlying t = some (.int (T t).ik) := by
  obtain ⟨info, d, h1, h2, h3, h4, h5, h6, h7, h8, k1, k2, k3, k4, k5, k6, k7⟩ := hT t hk
  rw [h2, k5 h]
theorem run_sizeOf' (hT : TabOk E.P T) {t : Nat} (hk : (T t).known = true) (w : World) : (sizeOf t).run E.P w = .ok (T t).size w := by
  obtain ⟨info, h1, h2, _⟩ := ti hT hk
  simp [sizeOf, typeInfo, h1, h2]
theorem run_isAgg (hT : TabOk E.P T) {t : Nat} (hk : (T t).known = true) (w : World) : (isAgg t).run E.P w = .ok (T t).agg w := by
  obtain ⟨info, d, h1, h2, h3, h4, h5, h6, h7, h8, _⟩ := hT t hk
  rw [← h8]
  simp only [isAgg, Sem.run_bind, run_underlying h2, Result.andThen_ok]
  cases d <;> rfl
theorem run_zero (hT : TabOk E.P T) {t : Nat} (hk : (T t).known = true) (w : World) : ∃ z, (zeroValue t).run E.P w = .ok z w ∧ z.cells.toList = (T t).zero := by
  obtain ⟨info, h1, h2, h3, z, hz, hz', _⟩ := ti hT hk
  exact ⟨z, by simp [zeroValue, typeInfo, h1, hz], hz'⟩
theorem objD_get {o : List AObj} {d : Nat} (h : d < o.length) : o[d]? = some (objD o d) := by
  rw [objD, List.getD_eq_getElem?_getD, List.getElem?_eq_getElem h]; rfl
theorem Sat.newBox {a : Act} {w : World} (h : Sat E σ a w) {d : Nat} (hd : d < σ.o.length) {cs : List AV} {vs : List Value} (hv : HasL (E.mem σ.o w) cs vs) (h1 : ∀ x ∈ vs, x.oneCell' = true) (t : TypeId) :
    Sat E ⟨σ.t, σ.o.set d (.box w.heap.size cs)⟩ a (w.alloc (.cells vs.toArray t)) := by
  refine h.turn (objD_get hd) (rb := none) (World.grownBy_alloc w _ none) (by simp) (fun b hb => ?_) fun hle => ?_
  · simp only [AObj.blk, Option.some.injEq] at hb
    subst hb
    exact ⟨.inr (Nat.le_refl _), by simp⟩
  · exact ⟨t, vs, heap_alloc_new w _, hv.mono hle, h1⟩
theorem lits_hasL {m : Mem} {zs : List Value} (h : zs.all (·.oneCell') = true) : HasL m (zs.map fun z => .d (.lit z)) zs := hasL_lits h
def allocR (T : Tab) (n : Nat) (dst : Option Nat) (t : Nat) : Res := match dst with
  | some d => ⟨(T t).known = true ∧ d < n, fun g _ => .ptr d g 0, fun g _ => [(d, .box g ((T t).zero.map fun z => .d (.lit z)))]⟩
  | none => Rno
theorem sound_alloc (hT : TabOk E.P T) {t : TypeId} (ho : o.op = .alloc t) : Sound E o σ (allocR T σ.o.length o.dst t) := by
  unfold allocR
  split
  · rename_i d hd
    refine Sound.of ?_
    rintro ⟨hk, hl⟩ a w hs
    obtain ⟨z, hz, hz'⟩ := run_zero hT hk w
    obtain ⟨_, _, _, _, _, _, _, hone, _⟩ := ti hT hk
    have hn := hs.newBox (d := d) hl (lits_hasL (m := E.mem σ.o w) hone) (fun x hx => by simpa using List.all_eq_true.1 hone x hx) t
    refine ⟨w.heap.size, .nilFunc, .pointer (some ⟨w.heap.size, 0, none⟩), w.alloc (.cells (T t).zero.toArray t), ?_, hn, by simp only [Has]⟩
    simp [execOp, ho, Instr.alloc, hz, newVar, newRow, newObj, Sem.run, ← hz']
  · exact Sound.no
def cellsA : AV → Option (List AV)
  | .agg cs => some cs
  | .any => none
  | .tup _ => none
  | x => some [x]
theorem cellsA_has {m : Mem} : ∀ {x : AV} {cs : List AV}, cellsA x = some cs → ∀ {v : Value}, Has m x v → ∃ vs, v.cells = vs.toArray ∧ HasL m cs vs ∧ (cs.all (fun c => match c with | .any => false | .agg _ => false | .tup _ => false | _ => true) = true → ∀ y ∈ vs, y.oneCell' = true) := by
  have one : ∀ {c : AV} {v : Value}, Has m c v → (match c with | .any => false | .agg _ => false | .tup _ => false | _ => true) = true → v.oneCell' = true := by
    intro c v h hc
    cases c with
    | any => cases hc
    | agg cs => cases hc
    | tup cs => cases hc
    | d x => simp only [Has] at h; exact h.one
    | own t u => simp only [Has] at h; exact h.2
    | ptr t g off => simp only [Has] at h; rw [h]; rfl
    | el row off => simp only [Has] at h; obtain ⟨b, o, rfl, _⟩ := h; rfl
    | elo t u sz n off => simp only [Has] at h; obtain ⟨b, l, c, _, rfl⟩ := h; rfl
    | clo f cs => simp only [Has] at h; obtain ⟨vs, rfl, _⟩ := h; rfl
  have all : ∀ {cs : List AV} {vs : List Value}, HasL m cs vs → cs.all (fun c => match c with | .any => false | .agg _ => false | .tup _ => false | _ => true) = true → ∀ y ∈ vs, y.oneCell' = true := by
    intro cs
    induction cs with
    | nil => intro vs h _ y hy; cases vs with | nil => simp at hy | cons _ _ => simp only [HasL] at h
    | cons c cs ih =>
      intro vs h hc y hy
      cases vs with
      | nil => simp only [HasL] at h
      | cons v vs =>
        simp only [HasL] at h
        simp only [List.all_cons, Bool.and_eq_true] at hc
        rcases List.mem_cons.1 hy with rfl | hy
        · exact one h.1 hc.1
        · exact ih h.2 hc.2 y hy
  intro x cs hx v hv
  have single : ∀ y : AV, x = y → cs = [y] → (match y with | .any => false | .agg _ => false | .tup _ => false | _ => true) = true → ∃ vs, v.cells = vs.toArray ∧ HasL m cs vs ∧ (cs.all (fun c => match c with | .any => false | .agg _ => false | .tup _ => false | _ => true) = true → ∀ y ∈ vs, y.oneCell' = true) := by
    rintro y rfl rfl hy
    have h1 := one hv hy
    have hc : v.cells = #[v] := by cases v <;> first | rfl | simp [Value.oneCell'] at h1
    exact ⟨[v], by rw [hc], by simp only [HasL]; exact ⟨hv, trivial⟩, fun _ z hz => by simp at hz; subst hz; exact h1⟩
  cases x with
  | agg ds =>
    simp only [cellsA, Option.some.injEq] at hx
    subst hx
    simp only [Has] at hv
    obtain ⟨vs, rfl, hv⟩ := hv
    exact ⟨vs, rfl, hv, all hv⟩
  | any => simp [cellsA] at hx
  | tup _ => simp [cellsA] at hx
  | _ => simp only [cellsA, Option.some.injEq] at hx; exact single _ rfl hx.symm rfl
def oneCells (cs : List AV) : Bool := cs.all (fun c => match c with | .any => false | .agg _ => false | .tup _ => false | _ => true)
def boxR (n : Nat) (dst : Option Nat) (x : AV) : Res := match dst, cellsA x with
  | some d, some cs => ⟨d < n ∧ oneCells cs = true, fun g _ => .ptr d g 0, fun g _ => [(d, .box g cs)]⟩
  | _, _ => Rno
theorem sound_box {t : TypeId} {x : Operand} (ho : o.op = .box t x) (hx : opOk x = true) : Sound E o σ (boxR σ.o.length o.dst (σ.eval x)) := by
  unfold boxR
  split
  · rename_i d cs hd hcs
    refine Sound.of ?_
    rintro ⟨hl, hone⟩ a w hs
    obtain ⟨vs, h1, h2, h3⟩ := cellsA_has hcs (hs.eval x hx)
    have hn := hs.newBox (d := d) hl h2 (h3 hone) t
    refine ⟨w.heap.size, .nilFunc, .pointer (some ⟨w.heap.size, 0, none⟩), w.alloc (.cells vs.toArray t), ?_, hn, by simp only [Has]⟩
    simp [execOp, ho, Instr.box, newVar, newRow, newObj, Sem.run, h1]
  · exact Sound.no
theorem run_loadVar_cells (hT : TabOk E.P T) {t : Nat} (hk : (T t).known = true) {b off : Nat} {vs : List Value} (hl : vs.length = (T t).size) {w : World} (h : ∀ i v, vs[i]? = some v → cellH w.heap b (off + i) = some v) :
    (loadVar t ⟨b, off, none⟩).run E.P w = .ok (if (T t).agg = true then .agg vs.toArray else vs.headD undef) w ∨ (T t).agg = false ∧ vs = [] := by
  have hc : ∀ j v, vs[j]? = some v → w.cell? ((⟨b, off, none⟩ : Addr).add j) = some v := fun j v hv => by rw [Addr.add_lit, cellH_cell]; exact h j v hv
  cases ha : (T t).agg with
  | true =>
    left
    have h2 := run_loadCells_list (P := E.P) w ⟨b, off, none⟩ vs hc
    rw [hl] at h2
    simp [loadVar, run_isAgg hT hk, ha, run_sizeOf' hT hk, h2]
  | false =>
    cases vs with
    | nil => exact .inr ⟨rfl, rfl⟩
    | cons v vs =>
      left
      have h0 := h 0 v rfl
      rw [Nat.add_zero, ← cellH_cell] at h0
      simp [loadVar, run_isAgg hT hk, ha, load, Sem.run, h0]
def takeA (T : Tab) (t : Nat) (cs : List AV) (off : Nat) : AV := if (T t).agg = true then .agg ((cs.drop off).take (T t).size) else cs.getD off .any
def loadR (T : Tab) (t : Nat) (x : AV) (ob : AObj) : Res := match x, ob with
  | .ptr _ g off, .box g' cs => R0 (g = g' ∧ (T t).known = true ∧ off + (T t).size ≤ cs.length ∧ ((T t).agg = true ∨ (T t).size = 1)) (takeA T t cs off)
  | .ptr _ g off, .fzb g' ds => R0 (g = g' ∧ (T t).known = true ∧ off + (T t).size ≤ ds.length ∧ ((T t).agg = true ∨ (T t).size = 1)) (takeA T t (ds.map .d) off)
  | .el row off, _ => R0 ((T t).known = true ∧ off + (T t).size ≤ row.length ∧ ((T t).agg = true ∨ (T t).size = 1)) (takeA T t (row.map .d) off)
  | .elo _ u sz n off, .row v _ sz' rows => R0 (u = v ∧ sz = sz' ∧ n < rows.length ∧ (T t).known = true ∧ off + (T t).size ≤ sz ∧ ((T t).agg = true ∨ (T t).size = 1)) (takeA T t ((rows.getD n []).map .d) off)
  | _, _ => Rno
theorem load_known (hT : TabOk E.P T) {t : Nat} {x : Operand} (ho : o.op = .load t x) {a : Act} {w : World} {b off0 off : Nat} {m : Mem} {cs : List AV} {vs : List Value} (hv : HasL m cs vs) (hc : ∀ i v, vs[i]? = some v → cellH w.heap b (off0 + i) = some v)
    (hx : a.eval x = .pointer (some ⟨b, off0 + off, none⟩)) (hk : (T t).known = true) (hl : off + (T t).size ≤ cs.length) (h1 : (T t).agg = true ∨ (T t).size = 1) :
    ∃ v, (execOp a.eval o).run E.P w = .ok (.value v) w ∧ Has m (takeA T t cs off) v := by
  have hvl := hv.length
  have hlen : ((vs.drop off).take (T t).size).length = (T t).size := by rw [List.length_take, List.length_drop]; omega
  have hr := run_loadVar_cells hT hk hlen (b := b) (off := off0 + off) (w := w) (fun i v hi => by
    rw [List.getElem?_take] at hi
    split at hi
    · rw [List.getElem?_drop] at hi
      rw [Nat.add_assoc]
      exact hc _ v hi
    · cases hi)
  rcases hr with hr | ⟨ha, he⟩
  · refine ⟨_, by simp only [execOp, ho, hx, Instr.loadAt, Instr.sureAddr, Sem.run_bind, Sem.run_pure, Result.andThen_ok, hr]; rfl, ?_⟩
    unfold takeA
    cases ha : (T t).agg with
    | true => simp only [if_true, Has]; exact ⟨_, rfl, (hv.drop off).take _⟩
    | false =>
      have hs1 : (T t).size = 1 := h1.resolve_left (by simp [ha])
      simp only [Bool.false_eq_true, if_false]
      have hlt : off < cs.length := by omega
      obtain ⟨u, hu, hh⟩ := hv.get off cs[off] (List.getElem?_eq_getElem hlt)
      rw [List.getD_eq_getElem?_getD, List.getElem?_eq_getElem hlt]
      have : ((vs.drop off).take (T t).size).headD undef = u := by
        rw [hs1, List.headD_eq_head?_getD, List.head?_take, if_neg (by omega), List.head?_drop, hu]; rfl
      rw [this]
      exact hh
  · have hs1 : (T t).size = 1 := h1.resolve_left (by simp [ha])
    rw [he, hs1] at hlen
    simp at hlen
theorem sound_load (hT : TabOk E.P T) {t : TypeId} {x : Operand} (ho : o.op = .load t x) (hx : opOk x = true) (hob : ∀ d, d ∈ idsOf (σ.eval x) → True) (ob : AObj) (hO : ∀ m, (∀ (i : Nat) y, σ.o[i]? = some y → ObjAt m y) → ObjAt m ob) : Sound E o σ (loadR T t (σ.eval x) ob) := by
  unfold loadR
  split
  · rename_i d g off g' cs e
    refine Sound.pure ?_
    rintro ⟨rfl, hk, hl, h1⟩ a w hs
    have hp := hs.eval x hx
    rw [e] at hp
    simp only [Has] at hp
    obtain ⟨t', vs, k1, k2, k3⟩ := hO _ hs.o
    rw [show (E.mem σ.o w).heap = w.heap from rfl] at k1
    exact load_known hT ho k2 (off0 := 0) (b := g) (fun i v hi => by rw [cellH_of k1]; simpa using hi) (by rw [hp, Nat.zero_add]) hk hl h1
  · rename_i d g off g' ds e
    refine Sound.pure ?_
    rintro ⟨rfl, hk, hl, h1⟩ a w hs
    have hp := hs.eval x hx
    rw [e] at hp
    simp only [Has] at hp
    have hoo : RepCells _ g 0 ds := hO _ hs.o
    obtain ⟨vs, k1, k2⟩ := RepCells.vals hoo
    exact load_known hT ho k1.hasL (off0 := 0) (b := g) k2 (by rw [hp, Nat.zero_add]) hk (by simpa using hl) h1
  · rename_i row off e
    refine Sound.pure ?_
    rintro ⟨hk, hl, h1⟩ a w hs
    have hp := hs.eval x hx
    rw [e] at hp
    simp only [Has] at hp
    obtain ⟨b, o', hp, hr⟩ := hp
    obtain ⟨vs, k1, k2⟩ := RepCells.vals hr
    exact load_known hT ho k1.hasL (off0 := o') (b := b) k2 hp hk (by simpa using hl) h1
  · rename_i d u sz n off v e' sz' rows e
    refine Sound.pure ?_
    rintro ⟨rfl, rfl, hn, hk, hl, h1⟩ a w hs
    have hp := hs.eval x hx
    rw [e] at hp
    simp only [Has] at hp
    obtain ⟨b, len, c, rfl, hp⟩ := hp
    obtain ⟨xs, ⟨hxl, hxs⟩, hrv⟩ := hO _ hs.o
    rcases hxs with ⟨hnil, h0⟩ | ⟨g, cap, cur, hv, hg, _, _, _, ht⟩
    · omega
    · injection hv with hv
      injection hv with hv
      injection hv with hv _ _
      subst hv
      obtain ⟨hrl, hrd⟩ := hrv.get n (rows.getD n []) (by rw [List.getD_eq_getElem?_getD, List.getElem?_eq_getElem hn]; rfl)
      exact load_known hT ho hrd.hasL (off0 := n * sz) (b := b) (fun i y hi => by
        rw [List.getElem?_take] at hi
        split at hi
        · rw [List.getElem?_drop, ← ht, List.getElem?_take] at hi
          split at hi
          · rw [show (E.mem σ.o w).heap = w.heap from rfl] at hg
            rw [cellH_of hg]; simpa using hi
          · cases hi
        · cases hi) hp hk (by rw [List.length_map, hrl]; exact hl) h1
  · exact Sound.no
end
end Go.Proofs.YtopigomfhggkoaaDoor.A
