/- What a function hands back. -/
import Derived.Test.YtopigomfhggkoaaDoorJC3
set_option linter.unusedVariables false
set_option linter.unusedSimpArgs false
namespace Go.Proofs.YtopigomfhggkoaaDoor.A
open Go.RowKit
section
variable {E : Env} {o : Oper} {σ : St} {T : Tab}
def Pur (E : Env) (o : Oper) (σ : St) (r : Res) : Prop := r.cond → ∀ a w, Sat E σ a w → ∃ v, (execOp a.eval o).run E.P w = .ok (.value v) w ∧ Has (E.mem σ.o w) (r.av 0 .nilFunc) v
theorem Pur.mk {c : Prop} {x : AV} (h : c → ∀ a w, Sat E σ a w → ∃ v, (execOp a.eval o).run E.P w = .ok (.value v) w ∧ Has (E.mem σ.o w) x v) : Pur E o σ (R0 c x) := h
theorem Pur.no : Pur E o σ Rno := fun h => h.elim
theorem pur_load (hT : TabOk E.P T) {t : TypeId} {x : Operand} (ho : o.op = .load t x) (hx : opOk x = true) (ob : AObj) (hO : ∀ m, (∀ (i : Nat) y, σ.o[i]? = some y → ObjAt m y) → ObjAt m ob) (hc0 : True) : Pur E o σ (loadR T t (σ.eval x) ob) := by
  unfold loadR
  split
  · rename_i d g off g' cs e
    refine Pur.mk ?_
    rintro ⟨rfl, hk, hl, h1⟩ a w hs
    have hp := hs.eval x hx
    rw [e] at hp
    simp only [Has] at hp
    obtain ⟨t', vs, k1, k2, k3⟩ := hO _ hs.o
    rw [show (E.mem σ.o w).heap = w.heap from rfl] at k1
    exact load_known hT ho k2 (off0 := 0) (b := g) (fun i v hi => by rw [cellH_of k1]; simpa using hi) (by rw [hp, Nat.zero_add]) hk hl h1
  · rename_i d g off g' ds e
    refine Pur.mk ?_
    rintro ⟨rfl, hk, hl, h1⟩ a w hs
    have hp := hs.eval x hx
    rw [e] at hp
    simp only [Has] at hp
    have hoo : RepCells _ g 0 ds := hO _ hs.o
    obtain ⟨vs, k1, k2⟩ := RepCells.vals hoo
    exact load_known hT ho k1.hasL (off0 := 0) (b := g) k2 (by rw [hp, Nat.zero_add]) hk (by simpa using hl) h1
  · rename_i row off e
    refine Pur.mk ?_
    rintro ⟨hk, hl, h1⟩ a w hs
    have hp := hs.eval x hx
    rw [e] at hp
    simp only [Has] at hp
    obtain ⟨b, o', hp, hr⟩ := hp
    obtain ⟨vs, k1, k2⟩ := RepCells.vals hr
    exact load_known hT ho k1.hasL (off0 := o') (b := b) k2 hp hk (by simpa using hl) h1
  · rename_i d u sz n off v e' sz' rows e
    refine Pur.mk ?_
    rintro ⟨rfl, rfl, hn, hk, hl, h1⟩ a w hs
    have hp := hs.eval x hx
    rw [e] at hp
    simp only [Has] at hp
    obtain ⟨b, len, c, rfl, hp⟩ := hp
    obtain ⟨xs, ⟨hxl, hxs⟩, hrv⟩ := hO _ hs.o
    rcases hxs with ⟨hnil, h0⟩ | ⟨g, cap, cur, hv, hg, _, _, _, ht⟩
    · omega
    · injection hv with hv
      injection hv with hv
      injection hv with hv _ _
      subst hv
      obtain ⟨hrl, hrd⟩ := hrv.get n (rows.getD n []) (by rw [List.getD_eq_getElem?_getD, List.getElem?_eq_getElem hn]; rfl)
      exact load_known hT ho hrd.hasL (off0 := n * sz) (b := b) (fun i y hi => by
        rw [List.getElem?_take] at hi
        split at hi
        · rw [List.getElem?_drop, ← ht, List.getElem?_take] at hi
          split at hi
          · rw [show (E.mem σ.o w).heap = w.heap from rfl] at hg
            rw [cellH_of hg]; simpa using hi
          · cases hi
        · cases hi) hp hk (by rw [List.length_map, hrl]; exact hl) h1
  · exact Pur.no
def resA (T : Tab) (σ : St) : ResultVar → Res
  | .tmp t => R0 True (σ.t.getD t .any)
  | .cell t ty => loadR T ty (σ.t.getD t .any) (obOf σ (σ.t.getD t .any))
def resM (a : Act) (w : World) : ResultVar → Sem Value
  | .tmp t => pure (a.tmps.getD t undef)
  | .cell t ty => do loadVar ty (← asAddr (a.tmps.getD t undef))
theorem resA_run (hT : TabOk E.P T) (rv : ResultVar) (hc : (resA T σ rv).cond) {a : Act} {w : World} (hs : Sat E σ a w) : ∃ v, (resM a w rv).run E.P w = .ok v w ∧ Has (E.mem σ.o w) ((resA T σ rv).av 0 .nilFunc) v := by
  cases rv with
  | tmp t =>
    refine ⟨a.tmps.getD t undef, rfl, ?_⟩
    exact hs.eval (.tmp t) rfl
  | cell t ty =>
    let o : Oper := { dst := none, op := .load ty (.tmp t), type := 0, pos := "", after := #[], guard := none }
    obtain ⟨v, h1, h2⟩ := pur_load (o := o) (σ := σ) hT (t := ty) (x := .tmp t) rfl rfl (obOf σ (σ.eval (.tmp t))) (fun m h => obOf_at _ h) trivial hc a w hs
    refine ⟨v, ?_, h2⟩
    have h1' : ((Instr.loadAt ty (a.tmps.getD t undef)).run E.P w).andThen (fun v w => .ok (.value v) w) = .ok (Next.value v) w := by
      simpa [o, execOp, Act.eval] using h1
    have hp : ∀ x : Value, ((Instr.loadAt ty x).run E.P w).andThen (fun v w => .ok (Next.value v) w) = .ok (.value v) w → ((do loadVar ty (← asAddr x) : Sem Value).run E.P w) = .ok v w := by
      intro x hx
      cases x with
      | pointer p =>
        cases p with
        | none => simp [Instr.loadAt, Instr.sureAddr, stuck, Sem.run] at hx
        | some ad =>
          simp only [Instr.loadAt, Instr.sureAddr, Sem.run_bind, Sem.run_pure, Result.andThen_ok] at hx
          simp only [asAddr, Sem.run_bind, Sem.run_pure, Result.andThen_ok]
          cases hl : (loadVar ty ad).run E.P w with
          | ok v' w' => rw [hl] at hx; simp at hx; rw [hx.1, hx.2]
          | halt h w' => rw [hl] at hx; simp at hx
      | _ => simp [Instr.loadAt, Instr.sureAddr, stuck, Sem.run] at hx
    exact hp _ h1'
theorem resM_list (hT : TabOk E.P T) {a : Act} {w : World} (hs : Sat E σ a w) : ∀ (l : List ResultVar), (∀ rv ∈ l, (resA T σ rv).cond) → ∃ vs, (l.mapM (resM a w)).run E.P w = .ok vs w ∧ HasL (E.mem σ.o w) (l.map fun rv => (resA T σ rv).av 0 .nilFunc) vs
  | [], _ => ⟨[], by simp, by simp only [List.map_nil, HasL]⟩
  | rv :: l, h => by
    obtain ⟨v, h1, h2⟩ := resA_run hT rv (h rv (by simp)) hs
    obtain ⟨vs, h3, h4⟩ := resM_list hT hs l (fun x hx => h x (by simp [hx]))
    refine ⟨v :: vs, ?_, by simp only [List.map_cons, HasL]; exact ⟨h2, h4⟩⟩
    simp only [List.mapM_cons, Sem.run_bind, h1, h3, Result.andThen_ok, Sem.run_pure]
theorem run_results {fn : Func} {l : List ResultVar} (hl : fn.results = l.toArray) {a : Act} {w : World} {vs : List Value} (h : (l.mapM (resM a w)).run E.P w = .ok vs w) :
    (results fn a.tmps).run E.P w = .ok (if h : vs.toArray.size = 1 then vs.toArray[0] else .tuple vs.toArray) w := by
  have hm : (fn.results.mapM (resM a w)).run E.P w = .ok vs.toArray w := by
    rw [hl, Array.mapM_eq_mapM_toList]
    simp only [Sem.run_map, h]
    rfl
  have he : results fn a.tmps = (fn.results.mapM (resM a w) >>= fun vs => pure (if h : vs.size = 1 then vs[0] else .tuple vs)) := by
    unfold results
    congr 1
  rw [he, Sem.run_bind, hm]
  rfl
theorem resR_one {P : Program} {fn : Func} {rv : ResultVar} {r : AV} {σ : St} (hT : TabOk P T) (hl : fn.results = #[rv]) (y : AV) (hy : (resA T σ rv).av 0 .nilFunc = y) (hc : (resA T σ rv).cond) (hk : clOk σ.o y) (hr : LeA (cl σ.o y) r) : resR P fn r σ := by
  subst hy
  rintro E a w rfl hs
  obtain ⟨vs, h1, h2⟩ := resM_list hT hs [rv] (by intro x hx; simp at hx; subst hx; exact hc)
  obtain ⟨v, rfl⟩ : ∃ v, vs = [v] := by
    have := h2.length
    match vs, this with
    | [v], _ => exact ⟨v, rfl⟩
  refine ⟨v, _, [v], ?_, h2, by simpa only [List.map_cons, List.map_nil, clOkL, and_true] using hk, fun m hm => ?_⟩
  · rw [run_results (l := [rv]) hl h1]; rfl
  · simp only [List.map_cons, List.map_nil, clL, HasL] at hm
    exact hr _ _ hm.1
theorem resR_more {P : Program} {fn : Func} {l : List ResultVar} {rs : List AV} {σ : St} (hT : TabOk P T) (hl : fn.results = l.toArray) (hn : l.length ≠ 1) (ys : List AV) (hy : l.map (fun rv => (resA T σ rv).av 0 .nilFunc) = ys) (hc : ∀ rv ∈ l, (resA T σ rv).cond)
    (hk : clOkL σ.o ys) (hr : LeL (clL σ.o ys) rs) : resR P fn (.tup rs) σ := by
  subst hy
  rintro E a w rfl hs
  obtain ⟨vs, h1, h2⟩ := resM_list hT hs l hc
  have hvl := h2.length
  refine ⟨.tuple vs.toArray, _, vs, ?_, h2, hk, fun m hm => ?_⟩
  · rw [run_results hl h1, dif_neg]
    simp only [List.size_toArray]
    rw [hvl, List.length_map]
    exact hn
  · simp only [Has]
    exact ⟨vs, rfl, hr.has hm⟩
theorem resF_one {P : Program} {fn : Func} {t d e sz : Nat} {v : Value} {rows : List (List Dat)} {σ : St} (hT : TabOk P T) (hl : fn.results = #[.tmp t]) (hy : σ.t.getD t .any = .own d v) (ho : σ.o[d]? = some (.row v e sz rows)) : resF P fn e sz rows σ := by
  rintro E a w rfl hs
  obtain ⟨vs, h1, h2⟩ := resM_list hT hs [.tmp t] (by intro x hx; simp at hx; subst hx; trivial)
  obtain ⟨u, rfl⟩ : ∃ v, vs = [v] := by
    have := h2.length
    match vs, this with
    | [v], _ => exact ⟨v, rfl⟩
  simp only [List.map_cons, List.map_nil, HasL, resA, R0, hy] at h2
  have h3 := h2.1
  simp only [Has] at h3
  obtain ⟨rfl, _⟩ := h3
  exact ⟨u, d, σ, (run_results (l := [.tmp t]) hl h1).trans rfl, hs, ho⟩
end
end Go.Proofs.YtopigomfhggkoaaDoor.A
