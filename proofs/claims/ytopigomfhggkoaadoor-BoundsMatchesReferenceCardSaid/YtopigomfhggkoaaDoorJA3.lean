/- Own objects that are written no more; closed values; what a call of a function says. -/
import Derived.Test.YtopigomfhggkoaaDoorJA2
set_option linter.unusedVariables false
set_option linter.unusedSimpArgs false
namespace Go.Proofs.YtopigomfhggkoaaDoor.A
open Go.RowKit
def objD (o : List AObj) (t : Nat) : AObj := o.getD t .no
mutual
def asD : AV → Option Dat
  | .d x => some x
  | .el row off => some (.ptr row off)
  | .clo f cs => match allD cs with | some ds => some (.fn f ds) | none => none
  | _ => none
def allD : List AV → Option (List Dat)
  | [] => some []
  | a :: r => match asD a with | some x => (match allD r with | some ds => some (x :: ds) | none => none) | none => none
end
mutual
theorem asD_has {m : Mem} : ∀ {c : AV} {d : Dat}, asD c = some d → ∀ {v : Value}, Has m c v → Rep m d v
  | .d x, d, h, v, hv => by
    simp only [asD, Option.some.injEq] at h; subst h
    simpa only [Has] using hv
  | .el row off, d, h, v, hv => by
    simp only [asD, Option.some.injEq] at h; subst h
    simp only [Has] at hv
    simp only [Rep]
    exact hv
  | .clo f cs, d, h, v, hv => by
    simp only [asD] at h
    cases hd : allD cs with
    | none => rw [hd] at h; cases h
    | some ds =>
      rw [hd] at h
      simp only [Option.some.injEq] at h; subst h
      simp only [Has] at hv
      obtain ⟨vs, rfl, hv⟩ := hv
      simp only [Rep]
      exact ⟨vs, rfl, (allD_hasL hd hv).repL⟩
  | .any, _, h, _, _ => by simp [asD] at h
  | .own _ _, _, h, _, _ => by simp [asD] at h
  | .ptr _ _ _, _, h, _, _ => by simp [asD] at h
  | .elo _ _ _ _ _, _, h, _, _ => by simp [asD] at h
  | .agg _, _, h, _, _ => by simp [asD] at h
  | .tup _, _, h, _, _ => by simp [asD] at h
theorem allD_hasL {m : Mem} : ∀ {cs : List AV} {ds : List Dat}, allD cs = some ds → ∀ {vs : List Value}, HasL m cs vs → DatL m ds vs
  | [], ds, h, [], _ => by simp [allD] at h; subst h; trivial
  | [], _, _, _ :: _, hr => by simp only [HasL] at hr
  | a :: r, ds, h, [], hr => by simp only [HasL] at hr
  | a :: r, ds, h, v :: vs, hr => by
    simp only [HasL] at hr
    simp only [allD] at h
    cases ha : asD a with
    | none => rw [ha] at h; cases h
    | some x =>
      rw [ha] at h
      cases hd : allD r with
      | none => rw [hd] at h; cases h
      | some ds' =>
        rw [hd] at h
        cases h
        exact ⟨asD_has ha hr.1, allD_hasL hd hr.2⟩
end
def frz : AObj → AObj
  | .row v e sz rows => .fz v sz rows
  | .box g cs => match allD cs with | some ds => .fzb g ds | none => .box g cs
  | x => x
section
variable {E : Env} {σ : St} {a : Act} {w w' : World}
theorem grownBy_refl (w : World) (rb : Option Nat) : w.grownBy w rb := ⟨rfl, rfl, rfl, Nat.le_refl _, fun _ _ _ => rfl⟩
theorem cellH_of {h : Array Obj} {b : Nat} {c : Array Value} {t : TypeId} {f : Nat × Nat} (hb : h[b]? = some (.cells c t f)) (o : Nat) : cellH h b o = c[o]? := by simp [cellH, hb]
theorem frz_rep {m m' : Mem} {v : Value} {e : TypeId} {sz : Nat} {rows : List (List Dat)} (hle : MemLe m m') (hh : m'.heap = m.heap) (hC : ∀ b, v.ownBlock = some b → m'.C b) (h : ObjAt m (.row v e sz rows)) : Rep m' (.sl sz rows) v := by
  obtain ⟨xs, ⟨hl, h1⟩, h2⟩ := h
  simp only [Rep]
  rcases h1 with ⟨rfl, hn⟩ | ⟨g, cap, cur, rfl, hg, hc, hm, hs, ht⟩
  · have : rows = [] := List.eq_nil_of_length_eq_zero hn
    subst this
    exact ⟨none, 0, rfl, by simp, by simp [maxLen], .inl rfl⟩
  · refine ⟨_, cap, rfl, hc, hm, .inr ⟨g, 0, rfl, RepRows.mk (hC g rfl) (h2.mono hle) fun i x hx => ?_⟩⟩
    rw [hh, cellH_of hg, Nat.zero_add]
    rw [← ht, List.getElem?_take] at hx
    split at hx
    · simpa using hx
    · cases hx
theorem Sat.frz (h : Sat E σ a w) (t : Nat) : Sat E { σ with o := σ.o.set t (frz (objD σ.o t)) } a w := by
  rcases Nat.lt_or_ge t σ.o.length with hl | hl
  · have hid : σ.o[t]? = some σ.o[t] := List.getElem?_eq_getElem hl
    have hd : objD σ.o t = σ.o[t] := by rw [objD, List.getD_eq_getElem?_getD, hid]; rfl
    rw [hd]
    refine h.turn hid (rb := none) (grownBy_refl w _) (by simp) ?_ ?_
    · intro b hb
      cases hx : σ.o[t] with
      | no => rw [hx] at hb; simp [A.frz, AObj.blk] at hb
      | fz v sz rows => rw [hx] at hb; simp [A.frz, AObj.blk] at hb
      | fzb g ds => rw [hx] at hb; simp [A.frz, AObj.blk] at hb
      | room v e sz rows ys => rw [hx] at hb; simp [A.frz, AObj.blk] at hb
      | hold g x =>
        rw [hx] at hb
        have h2 := h.own t _ b hid (by rw [hx]; exact hb)
        exact ⟨.inl hb, h2.2⟩
      | row v e sz rows => rw [hx] at hb; simp [A.frz, AObj.blk] at hb
      | box g cs =>
        rw [hx] at hb
        have : AObj.blk (.box g cs) = some b := by
          simp only [A.frz] at hb
          split at hb
          · simp [AObj.blk] at hb
          · exact hb
        have h2 := h.own t _ b hid (by rw [hx]; exact this)
        exact ⟨.inl this, h2.2⟩
    · intro hle
      have ho := h.o t _ hid
      have hnone : ∀ b, (σ.o[t]).blk = some b → (A.frz σ.o[t]).blk = none → (E.mem (σ.o.set t (A.frz σ.o[t])) w).C b := by
        intro b hb hn
        have h2 := h.own t _ b hid hb
        refine .inr ⟨h2.1, h2.2, fun x hx e => ?_⟩
        obtain ⟨j, hj⟩ := List.mem_iff_getElem?.1 hx
        rw [List.getElem?_set] at hj
        by_cases hjt : t = j
        · rw [if_pos hjt, if_pos hl] at hj
          have := Option.some.inj hj
          rw [← this, hn] at e
          cases e
        · rw [if_neg hjt] at hj
          exact hjt (h.inj t j _ x b hid hj hb e)
      cases hx : σ.o[t] with
      | no => trivial
      | hold g x => rw [hx] at ho; exact ho
      | room v e sz rows ys => rw [hx] at ho hle; exact ObjAt.mono hle (fun _ _ => rfl) ho
      | fz v sz rows => rw [hx] at ho; simp only [A.frz]; exact Rep.mono (by rw [hx] at hle; exact hle) _ _ ho
      | fzb g ds => rw [hx] at ho; simp only [A.frz]; exact RepCells.mono (by rw [hx] at hle; exact hle) _ _ _ ho
      | row v e sz rows =>
        rw [hx] at ho hle hnone
        simp only [A.frz]
        exact frz_rep hle rfl (fun b hb => hnone b hb rfl) ho
      | box g cs =>
        rw [hx] at ho hle hnone
        simp only [A.frz] at hle hnone ⊢
        split
        · rename_i ds hds
          simp only [hds] at hle hnone
          obtain ⟨t', vs, h1, h2, h3⟩ := ho
          refine RepCells.mk (hnone g rfl rfl) (allD_hasL hds (h2.mono hle)) fun i v hv => ?_
          rw [show (E.mem (σ.o.set t (AObj.fzb g ds)) w).heap = (E.mem σ.o w).heap from rfl, cellH_of h1]
          simpa using hv
        · rename_i hds
          simp only [hds] at hle
          exact ObjAt.mono hle (fun _ _ => rfl) ho
  · rw [List.set_eq_of_length_le hl]
    exact h
def applyEff (es : List (Nat × AObj)) (o : List AObj) : List AObj := es.foldl (fun o e => o.set e.1 e.2) o
def frzEff (o : List AObj) (ids : List Nat) : List (Nat × AObj) := ids.map fun t => (t, A.frz (objD o t))
theorem frz_frz (x : AObj) : A.frz (A.frz x) = A.frz x := by
  cases x with
  | box g cs =>
    simp only [A.frz]
    cases h : allD cs <;> simp [A.frz, h]
  | _ => rfl
theorem objD_set (o : List AObj) (t i : Nat) (x : AObj) : objD (o.set t x) i = if t = i ∧ t < o.length then x else objD o i := by
  simp only [objD, List.getD_eq_getElem?_getD, List.getElem?_set]
  by_cases h : t = i
  · subst h
    by_cases hl : t < o.length
    · simp [hl]
    · simp [hl, List.getElem?_eq_none (Nat.le_of_not_lt hl)]
  · simp [h]
theorem Sat.frzs (h : Sat E σ a w) : ∀ (ids : List Nat) (o' : List AObj), (∀ t, objD o' t = objD σ.o t ∨ objD o' t = A.frz (objD σ.o t)) → Sat E { σ with o := o' } a w →
    Sat E { σ with o := applyEff (frzEff σ.o ids) o' } a w ∧ (∀ t, objD (applyEff (frzEff σ.o ids) o') t = objD σ.o t ∨ objD (applyEff (frzEff σ.o ids) o') t = A.frz (objD σ.o t)) ∧
    (∀ t, (t ∈ ids ∨ objD o' t = A.frz (objD σ.o t)) → objD (applyEff (frzEff σ.o ids) o') t = A.frz (objD σ.o t)) := by
  intro ids
  induction ids with
  | nil => intro o' h1 h2; exact ⟨h2, h1, fun t ht => ht.resolve_left (by simp)⟩
  | cons i ids ih =>
    intro o' h1 h2
    have h3 : A.frz (objD o' i) = A.frz (objD σ.o i) := by
      rcases h1 i with h | h
      · rw [h]
      · rw [h, frz_frz]
    have h4 := h2.frz i
    simp only [h3] at h4
    have h5 : ∀ t, objD (o'.set i (A.frz (objD σ.o i))) t = objD σ.o t ∨ objD (o'.set i (A.frz (objD σ.o i))) t = A.frz (objD σ.o t) := by
      intro t
      rw [objD_set]
      split
      · rename_i hc; rw [hc.1]; exact .inr rfl
      · exact h1 t
    obtain ⟨k1, k2, k3⟩ := ih _ h5 h4
    refine ⟨k1, k2, fun t ht => k3 t ?_⟩
    rw [objD_set]
    split
    · rename_i hc; rw [hc.1]; exact .inr rfl
    · rename_i hc
      rcases ht with ht | ht
      · rcases List.mem_cons.1 ht with rfl | ht
        · have hl : ¬ t < o'.length := fun hl => hc ⟨rfl, hl⟩
          have hn : objD o' t = .no := by simp [objD, List.getD_eq_getElem?_getD, List.getElem?_eq_none (Nat.le_of_not_lt hl)]
          refine .inr ?_
          rcases h1 t with h | h
          · rw [h] at hn; rw [h, hn]; rfl
          · exact h
        · exact .inl ht
      · exact .inr ht
mutual
def idsOf : AV → List Nat
  | .own t _ => [t]
  | .ptr t _ _ => [t]
  | .elo t _ _ _ _ => [t]
  | .agg cs => idsOfL cs
  | .tup cs => idsOfL cs
  | .clo _ cs => idsOfL cs
  | _ => []
def idsOfL : List AV → List Nat
  | [] => []
  | c :: cs => idsOf c ++ idsOfL cs
end
mutual
def cl (o : List AObj) : AV → AV
  | .own t _ => match objD o t with | .row _ _ sz rows => .d (.sl sz rows) | .fz _ sz rows => .d (.sl sz rows) | _ => .any
  | .ptr t _ off => match objD o t with
    | .box _ cs => (match allD cs with | some ds => .el ds off | none => .any)
    | .fzb _ ds => .el ds off
    | _ => .any
  | .elo _ _ _ _ _ => .any
  | .agg cs => .agg (clL o cs)
  | .tup cs => .tup (clL o cs)
  | .clo f cs => .clo f (clL o cs)
  | .any => .any
  | .d x => .d x
  | .el r off => .el r off
def clL (o : List AObj) : List AV → List AV
  | [] => []
  | c :: cs => cl o c :: clL o cs
end
mutual
def clOk (o : List AObj) : AV → Prop
  | .own t u => match objD o t with | .row v _ _ _ => u = v | .fz v _ _ => u = v | _ => True
  | .ptr t g _ => match objD o t with | .box g' _ => g = g' | .fzb g' _ => g = g' | _ => True
  | .agg cs => clOkL o cs
  | .tup cs => clOkL o cs
  | .clo _ cs => clOkL o cs
  | _ => True
def clOkL (o : List AObj) : List AV → Prop
  | [] => True
  | c :: cs => clOk o c ∧ clOkL o cs
end
theorem cap_ids (ds : List Dat) : idsOfL (ds.map capA) = [] := by
  induction ds with
  | nil => rfl
  | cons d ds ih => simp only [List.map_cons, idsOfL, ih]; cases d <;> rfl
theorem objAt_objD {m : Mem} {o : List AObj} (h : ∀ (i : Nat) x, o[i]? = some x → ObjAt m x) (t : Nat) : ObjAt m (objD o t) := by
  rw [objD, List.getD_eq_getElem?_getD]
  cases hx : o[t]? with
  | none => trivial
  | some x => exact h t x hx
mutual
theorem Has.cl {m : Mem} {o o' : List AObj} (ho : ∀ (i : Nat) x, o'[i]? = some x → ObjAt m x) : ∀ (x : AV) (v : Value), (∀ t ∈ idsOf x, objD o' t = A.frz (objD o t)) → clOk o x → Has m x v → Has m (A.cl o x) v
  | .any, _, _, _, _ => by simp only [A.cl, Has]
  | .d x, v, _, _, hr => by simpa only [A.cl] using hr
  | .el r off, v, _, _, hr => by simpa only [A.cl] using hr
  | .elo _ _ _ _ _, v, _, _, hr => by simp only [A.cl, Has]
  | .own t u, v, hf, hk, hr => by
    simp only [Has] at hr
    obtain ⟨rfl, _⟩ := hr
    have h1 := objAt_objD ho t
    rw [hf t (by simp [idsOf])] at h1
    cases hx : objD o t with
    | row v' e sz rows =>
      simp only [clOk, hx] at hk
      subst hk
      simp only [hx, A.frz] at h1
      simp only [A.cl, hx, Has]
      exact h1
    | fz v' sz rows =>
      simp only [clOk, hx] at hk
      subst hk
      simp only [hx, A.frz] at h1
      simp only [A.cl, hx, Has]
      exact h1
    | _ => simp only [A.cl, hx, Has]
  | .ptr t g off, v, hf, hk, hr => by
    simp only [Has] at hr
    subst hr
    have h1 := objAt_objD ho t
    rw [hf t (by simp [idsOf])] at h1
    cases hx : objD o t with
    | box g' cs =>
      simp only [clOk, hx] at hk
      subst hk
      simp only [hx, A.frz] at h1
      simp only [A.cl, hx]
      cases hd : allD cs with
      | none => simp only [Has]
      | some ds =>
        simp only [hd] at h1
        simp only [Has]
        exact ⟨g, 0, by simp, h1⟩
    | fzb g' ds =>
      simp only [clOk, hx] at hk
      subst hk
      simp only [hx, A.frz] at h1
      simp only [A.cl, hx, Has]
      exact ⟨g, 0, by simp, h1⟩
    | _ => simp only [A.cl, hx, Has]
  | .agg cs, v, hf, hk, hr => by
    simp only [Has] at hr
    obtain ⟨vs, e, hr⟩ := hr
    simp only [A.cl, Has]
    exact ⟨vs, e, HasL.cl ho cs vs (fun t ht => hf t (by simpa only [idsOf] using ht)) (by simpa only [clOk] using hk) hr⟩
  | .tup cs, v, hf, hk, hr => by
    simp only [Has] at hr
    obtain ⟨vs, e, hr⟩ := hr
    simp only [A.cl, Has]
    exact ⟨vs, e, HasL.cl ho cs vs (fun t ht => hf t (by simpa only [idsOf] using ht)) (by simpa only [clOk] using hk) hr⟩
  | .clo f cs, v, hf, hk, hr => by
    simp only [Has] at hr
    obtain ⟨vs, e, hr⟩ := hr
    simp only [A.cl, Has]
    exact ⟨vs, e, HasL.cl ho cs vs (fun t ht => hf t (by simpa only [idsOf] using ht)) (by simpa only [clOk] using hk) hr⟩
theorem HasL.cl {m : Mem} {o o' : List AObj} (ho : ∀ (i : Nat) x, o'[i]? = some x → ObjAt m x) : ∀ (xs : List AV) (vs : List Value), (∀ t ∈ idsOfL xs, objD o' t = A.frz (objD o t)) → clOkL o xs → HasL m xs vs → HasL m (clL o xs) vs
  | [], [], _, _, _ => by simp only [clL, HasL]
  | x :: xs, v :: vs, hf, hk, hr => by
    simp only [HasL] at hr
    simp only [clOkL] at hk
    simp only [clL, HasL]
    exact ⟨Has.cl ho x v (fun t ht => hf t (by simp only [idsOfL]; exact List.mem_append.2 (.inl ht))) hk.1 hr.1,
      HasL.cl ho xs vs (fun t ht => hf t (by simp only [idsOfL]; exact List.mem_append.2 (.inr ht))) hk.2 hr.2⟩
  | [], _ :: _, _, _, hr => by simp only [HasL] at hr
  | _ :: _, [], _, _, hr => by simp only [HasL] at hr
end
theorem Sat.close (h : Sat E σ a w) (xs : List AV) (vs : List Value) (hx : HasL (E.mem σ.o w) xs vs) (hk : clOkL σ.o xs) :
    Sat E { σ with o := applyEff (frzEff σ.o (idsOfL xs)) σ.o } a w ∧ HasL (E.mem (applyEff (frzEff σ.o (idsOfL xs)) σ.o) w) (clL σ.o xs) vs := by
  obtain ⟨h1, h2, h3⟩ := h.frzs (idsOfL xs) σ.o (fun t => .inl rfl) h
  refine ⟨h1, HasL.cl h1.o xs vs (fun t ht => h3 t (.inl ht)) hk (hx.mono ?_)⟩
  refine ⟨fun b hb => ?_, fun b hb => rfl⟩
  rcases hb with hb | hb
  · exact .inl hb
  · refine .inr ⟨hb.1, hb.2.1, fun x hx' e => ?_⟩
    obtain ⟨j, hj⟩ := List.mem_iff_getElem?.1 hx'
    have hd : objD (applyEff (frzEff σ.o (idsOfL xs)) σ.o) j = x := by rw [objD, List.getD_eq_getElem?_getD, hj]; rfl
    have hsub : ∀ y : AObj, (A.frz y).blk = some b → y.blk = some b := by
      intro y hy
      cases y with
      | box g cs =>
        simp only [A.frz] at hy
        split at hy
        · simp [AObj.blk] at hy
        · exact hy
      | hold g x => exact hy
      | _ => simp [A.frz, AObj.blk] at hy
    have hbk : (objD σ.o j).blk = some b := by
      rcases h2 j with h4 | h4
      · rw [← h4, hd]; exact e
      · exact hsub _ (by rw [← h4, hd]; exact e)
    rw [objD, List.getD_eq_getElem?_getD] at hbk
    cases hy : σ.o[j]? with
    | none => rw [hy] at hbk; simp [AObj.blk] at hbk
    | some y =>
      rw [hy] at hbk
      exact hb.2.2 y (List.mem_of_getElem? hy) hbk
end
end Go.Proofs.YtopigomfhggkoaaDoor.A
