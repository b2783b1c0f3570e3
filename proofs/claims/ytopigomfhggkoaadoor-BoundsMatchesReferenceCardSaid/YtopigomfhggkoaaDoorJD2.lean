/- Regions whose order is open: one walk of the order of the text. -/
import Derived.Test.YtopigomfhggkoaaDoorJD1
set_option linter.unusedVariables false
set_option linter.unusedSimpArgs false
namespace Go.Proofs.YtopigomfhggkoaaDoor.A
open Go.RowKit
theorem objD_applyEff {t : Nat} : ∀ (es : List (Nat × AObj)) (o : List AObj), (∀ e ∈ es, e.1 ≠ t) → objD (applyEff es o) t = objD o t
  | [], _, _ => rfl
  | e :: es, o, h => by
    have := objD_applyEff es (o.set e.1 e.2) fun e' he' => h e' (List.mem_cons_of_mem _ he')
    simp only [applyEff, List.foldl_cons] at this ⊢
    rw [this]
    simp only [objD, List.getD_eq_getElem?_getD]
    rw [List.getElem?_set_ne (h e (List.mem_cons_self ..))]
theorem applyEff_set {t : Nat} {y : AObj} : ∀ (es : List (Nat × AObj)) (o : List AObj), (∀ e ∈ es, e.1 ≠ t) → applyEff es (o.set t y) = (applyEff es o).set t y
  | [], _, _ => rfl
  | e :: es, o, h => by
    simp only [applyEff, List.foldl_cons]
    rw [List.set_comm _ _ (Ne.symm (h e (List.mem_cons_self ..)))]
    exact applyEff_set es (o.set e.1 e.2) fun e' he' => h e' (List.mem_cons_of_mem _ he')
theorem applyEff_comm : ∀ (es fs : List (Nat × AObj)) (o : List AObj), (∀ e ∈ es, ∀ f ∈ fs, e.1 ≠ f.1) → applyEff es (applyEff fs o) = applyEff fs (applyEff es o)
  | es, [], o, _ => rfl
  | es, f :: fs, o, h => by
    have h1 := applyEff_comm es fs (o.set f.1 f.2) fun e he f' hf' => h e he f' (List.mem_cons_of_mem _ hf')
    have h2 := applyEff_set (t := f.1) (y := f.2) es o fun e he => h e he f (List.mem_cons_self ..)
    simp only [applyEff, List.foldl_cons] at h1 h2 ⊢
    rw [h1, h2]
section
variable {P : Program} {T : Tab} {H : Hints} {gd : Nat → Option Nat}
def idsG (gd : Nat → Option Nat) (o : Oper) (σ : St) : List Nat := match o.guard with
  | some (j, want) => match gd j with
    | some d => if slotB σ d = some (!want) ∨ slotU σ d = true then [] else idsOp o σ
    | none => idsOp o σ
  | none => idsOp o σ
abbrev LogH := Hints × Log
def dfl : LogH := ([], [], [])
def Lg (P : Program) (T : Tab) (gd : Nat → Option Nat) (a : LogH) (o : Oper) (σ : St) : Prop :=
  (stepR P T a.1 gd o σ).cond ∧ (∀ t ∈ idsG gd o σ, t ∈ a.2.1) ∧ ∀ g u, ∀ e ∈ (stepR P T a.1 gd o σ).eff g u, e.1 ∈ a.2.2
theorem eval_put {σ : St} {dst : Option Nat} {x : AV} {os : List AObj} {y : Operand} (h : ∀ d, dst = some d → tmpOf y ≠ some d) : (St.put ⟨σ.t, os⟩ dst x).eval y = σ.eval y := by
  cases y with
  | tmp t =>
    cases dst with
    | none => rfl
    | some d =>
      have : d ≠ t := fun e => h d rfl (by rw [e]; rfl)
      simp only [St.eval, St.put, List.getD_eq_getElem?_getD]
      rw [List.getElem?_set_ne this]
  | _ => cases dst <;> rfl
theorem idsG_congr {o : Oper} {σ σ' : St} (he : ∀ x ∈ opsOf o, σ.eval x = σ'.eval x) (hg : ∀ j b, o.guard = some (j, b) → ∀ d, gd j = some d → slotB σ d = slotB σ' d ∧ slotU σ d = slotU σ' d) : idsG gd o σ = idsG gd o σ' := by
  have hI : ∀ x ∈ opsI o, σ.eval x = σ'.eval x := fun x hx => by
    unfold opsI at hx
    split at hx
    · cases hx
    · exact he x hx
  have h : idsOp o σ = idsOp o σ' := by unfold idsOp; rw [List.map_congr_left hI]
  unfold idsG
  rw [h]
  cases hgd : o.guard with
  | none => rfl
  | some p =>
    obtain ⟨j, want⟩ := p
    simp only
    cases hj : gd j with
    | none => rfl
    | some d => simp only; rw [(hg j want hgd d hj).1, (hg j want hgd d hj).2]
theorem stepR_congr {o : Oper} {σ σ' : St} (hl : σ.o.length = σ'.o.length) (he : ∀ x ∈ opsOf o, σ.eval x = σ'.eval x) (ho : ∀ t ∈ idsG gd o σ, objD σ.o t = objD σ'.o t)
    (hg : ∀ j b, o.guard = some (j, b) → ∀ d, gd j = some d → slotB σ d = slotB σ' d ∧ slotU σ d = slotU σ' d) : stepR P T H gd o σ = stepR P T H gd o σ' := by
  unfold stepR
  unfold idsG at ho
  cases hgd : o.guard with
  | none =>
    rw [hgd] at ho
    exact opRes_congr hl he ho
  | some p =>
    obtain ⟨j, want⟩ := p
    simp only [hgd] at ho ⊢
    cases hj : gd j with
    | none => rfl
    | some d =>
      simp only [hj] at ho ⊢
      rw [← (hg j want hgd d hj).1, ← (hg j want hgd d hj).2]
      cases hb : slotB σ d with
      | none => rfl
      | some b =>
        simp only
        by_cases hbw : b = want
        · rw [if_pos hbw, if_pos hbw]
          refine opRes_congr hl he fun t ht => ho t ?_
          rw [if_neg (by rw [hb, hbw, not_or]; exact ⟨by cases want <;> simp, by unfold slotU; unfold slotB at hb; split at hb <;> simp_all⟩)]
          exact ht
        · rw [if_neg hbw, if_neg hbw]
theorem after_same {oj : Oper} {σ : St} {ri : Res} {di : Option Nat} {g : Nat} {u : Value} {ai aj : Log} (hd : ∀ d, di = some d → d ∉ slotsOf gd oj) (hw : ∀ e ∈ ri.eff g u, e.1 ∈ ai.2) (hO : ∀ t ∈ ai.2, t ∉ aj.1)
    (hr : (∀ t ∈ idsG gd oj (σ.after ri di g u), t ∈ aj.1) ∨ (∀ t ∈ idsG gd oj σ, t ∈ aj.1)) :
    stepR P T H gd oj (σ.after ri di g u) = stepR P T H gd oj σ ∧ idsG gd oj (σ.after ri di g u) = idsG gd oj σ := by
  have hev : ∀ x ∈ opsOf oj, (σ.after ri di g u).eval x = σ.eval x := fun x hx => eval_put fun d hdd hx' => hd d hdd (by
    unfold slotsOf
    exact List.mem_append_left _ (List.mem_filterMap.2 ⟨x, hx, hx'⟩))
  have hgs : ∀ j b, oj.guard = some (j, b) → ∀ d, gd j = some d → slotB (σ.after ri di g u) d = slotB σ d ∧ slotU (σ.after ri di g u) d = slotU σ d := by
    intro j b hg d hj
    cases di with
    | none => exact ⟨rfl, rfl⟩
    | some d' =>
      have : d' ≠ d := fun heq => hd d' rfl (by
        unfold slotsOf
        rw [hg]
        exact List.mem_append_right _ (by simp [hj, heq]))
      simp only [slotB, slotU, St.after, St.put]
      rw [List.getElem?_set_ne this]
      exact ⟨rfl, rfl⟩
  have hids : idsG gd oj (σ.after ri di g u) = idsG gd oj σ := idsG_congr hev hgs
  refine ⟨stepR_congr ?_ hev ?_ hgs, hids⟩
  · cases di <;> simp only [St.after, St.put, applyEff_length]
  · intro t ht
    have hta : t ∈ aj.1 := by
      rcases hr with hr | hr
      · exact hr t ht
      · exact hr t (hids ▸ ht)
    have : objD (applyEff (ri.eff g u) σ.o) t = objD σ.o t := objD_applyEff _ _ fun e he heq => hO e.1 (hw e he) (by rw [heq]; exact hta)
    cases di <;> simpa only [St.after, St.put] using this
theorem after_comm {σ : St} {ri rj : Res} {di dj : Option Nat} {g g' : Nat} {u u' : Value} (hne : ∀ d, di = some d → dj ≠ some d) (hw : ∀ e ∈ ri.eff g u, ∀ f ∈ rj.eff g' u', e.1 ≠ f.1) :
    (σ.after ri di g u).after rj dj g' u' = (σ.after rj dj g' u').after ri di g u := by
  have h1 := applyEff_comm (ri.eff g u) (rj.eff g' u') σ.o hw
  cases di with
  | none => cases dj <;> simp only [St.after, St.put, h1]
  | some d =>
    cases dj with
    | none => simp only [St.after, St.put, h1]
    | some d' =>
      have : d ≠ d' := fun e => hne d rfl (by rw [e])
      simp only [St.after, St.put, h1]
      rw [List.set_comm _ _ this]
variable {ops : Array Oper} {A : List LogH}
def evOp (P : Program) (T : Tab) (ops : Array Oper) (A : List LogH) (i : Nat) (K : St → Prop) (σ : St) : Prop := match ops[i]? with
  | none => K σ
  | some o => Lg P T (gdOf ops) (A.getD i dfl) o σ ∧ ∀ g u, K (σ.after (stepR P T (A.getD i dfl).1 (gdOf ops) o σ) o.dst g u)
def evAny (P : Program) (T : Tab) (ops : Array Oper) (A : List LogH) (K : St → Prop) : Nat → Array Bool → St → Prop
  | 0, listed, σ => Region.ready .any ops listed = [] ∧ K σ
  | fuel + 1, listed, σ => (Region.ready .any ops listed = [] → K σ) ∧ ∀ i ∈ Region.ready .any ops listed, evOp P T ops A i (evAny P T ops A K fuel (listed.setIfInBounds i true)) σ
theorem evOp_mono {i : Nat} {K K' : St → Prop} (h : ∀ s, K s → K' s) {σ : St} (hh : evOp P T ops A i K σ) : evOp P T ops A i K' σ := by
  unfold evOp at *
  split
  · rename_i ho; simp only [ho] at hh; exact h _ hh
  · rename_i o ho; simp only [ho] at hh; exact ⟨hh.1, fun g u => h _ (hh.2 g u)⟩
theorem evOp_put {i j : Nat} {oi oj : Oper} (hj : ops[j]? = some oj) (hS : apartS (gdOf ops) oi oj = true) (hO : apartO (A.getD i dfl).2 (A.getD j dfl).2 = true) {K : St → Prop} {σ : St} (hL : Lg P T (gdOf ops) (A.getD i dfl) oi σ)
    (h : ∀ g u, evOp P T ops A j K (σ.after (stepR P T (A.getD i dfl).1 (gdOf ops) oi σ) oi.dst g u)) :
    evOp P T ops A j (fun s => Lg P T (gdOf ops) (A.getD i dfl) oi s ∧ ∀ g u, K (s.after (stepR P T (A.getD i dfl).1 (gdOf ops) oi s) oi.dst g u)) σ := by
  obtain ⟨s1, s2, s3⟩ := apartS_spec hS
  obtain ⟨o1, o2⟩ := apartO_spec hO
  unfold evOp at *
  simp only [hj] at *
  have same : ∀ g u, stepR P T (A.getD j dfl).1 (gdOf ops) oj (σ.after (stepR P T (A.getD i dfl).1 (gdOf ops) oi σ) oi.dst g u) = stepR P T (A.getD j dfl).1 (gdOf ops) oj σ ∧ idsG (gdOf ops) oj (σ.after (stepR P T (A.getD i dfl).1 (gdOf ops) oi σ) oi.dst g u) = idsG (gdOf ops) oj σ := fun g u =>
    after_same s1 (hL.2.2 g u) (fun t ht => (o1 t ht).1) (.inl (h g u).1.2.1)
  have hj0 : Lg P T (gdOf ops) (A.getD j dfl) oj σ := by
    have h0 := (h 0 .nilFunc).1
    obtain ⟨e1, e2⟩ := same 0 .nilFunc
    unfold Lg at h0 ⊢
    rw [e1, e2] at h0
    exact h0
  refine ⟨hj0, fun g' u' => ?_⟩
  obtain ⟨f1, f2⟩ := after_same (P := P) (T := T) (H := (A.getD i dfl).1) (gd := gdOf ops) (oj := oi) (σ := σ) (ri := stepR P T (A.getD j dfl).1 (gdOf ops) oj σ) (di := oj.dst) (g := g') (u := u') (aj := (A.getD i dfl).2) s3 (hj0.2.2 g' u') o2 (.inr hL.2.1)
  refine ⟨by unfold Lg; rw [f1, f2]; exact hL, fun g u => ?_⟩
  rw [f1]
  rw [← after_comm s2 fun e he f hf heq => (o1 e.1 (hL.2.2 g u e he)).2 (by rw [heq]; exact hj0.2.2 g' u' f hf)]
  have := (h g u).2 g' u'
  rw [(same g u).1] at this
  exact this
inductive DepS (ops : Array Oper) : Nat → Nat → Prop
  | one {j i : Nat} {o : Oper} {e : Edge} (ho : ops[j]? = some o) (he : e ∈ o.after) (hb : Region.binds .any e = true) (hi : e.on = i) : DepS ops j i
  | more {j i : Nat} {o : Oper} {e : Edge} (ho : ops[j]? = some o) (he : e ∈ o.after) (hb : Region.binds .any e = true) (h : DepS ops e.on i) : DepS ops j i
def DC (ops : Array Oper) (listed : Array Bool) : Prop := ∀ (k : Nat) (o : Oper), ops[k]? = some o → listed.getD k false = true → ∀ e ∈ o.after, Region.binds .any e = true → listed.getD e.on false = true
theorem DC.dep {listed : Array Bool} (h : DC ops listed) {j i : Nat} (hd : DepS ops j i) (hj : listed.getD j false = true) : listed.getD i false = true := by
  induction hd with
  | one ho he hb hi => exact hi ▸ h _ _ ho hj _ he hb
  | more ho he hb _ ih => exact ih (h _ _ ho hj _ he hb)
theorem DC.ready {listed : Array Bool} (h : DC ops listed) {j i : Nat} (hd : DepS ops j i) (hj : j ∈ Region.ready .any ops listed) : listed.getD i false = true := by
  obtain ⟨_, o, ho, hall⟩ := mem_ready.1 hj
  cases hd with
  | one ho' he hb hi => rw [ho] at ho'; cases ho'; exact hi ▸ hall _ he hb
  | more ho' he hb hd' => rw [ho] at ho'; cases ho'; exact h.dep hd' (hall _ he hb)
theorem DC.list {listed : Array Bool} (h : DC ops listed) {j : Nat} (hj : j ∈ Region.ready .any ops listed) : DC ops (listed.setIfInBounds j true) := by
  obtain ⟨_, oj, hoj, hall⟩ := mem_ready.1 hj
  intro k o ho hk e he hb
  by_cases hjk : j = k
  · subst hjk
    rw [hoj] at ho
    cases ho
    exact getD_set_true (hall e he hb)
  · rw [getD_set_ne false hjk] at hk
    exact getD_set_true (h k o ho hk e he hb)
theorem evAny_first {K : St → Prop} {i : Nat} {oi : Oper} (hi : ops[i]? = some oi) : ∀ (fuel : Nat) (listed : Array Bool) (σ : St), DC ops listed →
      (∀ j oj, ops[j]? = some oj → j ≠ i → listed.getD j true = false → ¬ DepS ops j i → apartS (gdOf ops) oi oj = true ∧ apartO (A.getD i dfl).2 (A.getD j dfl).2 = true) →
      i ∈ Region.ready .any ops listed → Lg P T (gdOf ops) (A.getD i dfl) oi σ →
      (∀ g u, evAny P T ops A K fuel (listed.setIfInBounds i true) (σ.after (stepR P T (A.getD i dfl).1 (gdOf ops) oi σ) oi.dst g u)) → evAny P T ops A K (fuel + 1) listed σ := by
  intro fuel
  induction fuel with
  | zero =>
    intro listed σ hdc _ hr hL hH
    refine ⟨fun h => (by rw [h] at hr; cases hr), fun j hj => ?_⟩
    by_cases hji : j = i
    · subst hji; unfold evOp; simp only [hi]; exact ⟨hL, hH⟩
    · have := ready_mono hj hji
      rw [(hH 0 .nilFunc).1] at this
      cases this
  | succ fuel ih =>
    intro listed σ hdc hfree hr hL hH
    refine ⟨fun h => (by rw [h] at hr; cases hr), fun j hj => ?_⟩
    by_cases hji : j = i
    · subst hji; unfold evOp; simp only [hi]; exact ⟨hL, hH⟩
    · have h1 := fun g u => (hH g u).2 j (ready_mono hj hji)
      obtain ⟨hjun, oj, hoj, hall⟩ := mem_ready.1 hj
      have hnot : ¬ DepS ops j i := fun hd => by
        have h1 := hdc.ready hd hj
        have h0 := (mem_ready.1 hr).1
        rcases Nat.lt_or_ge i listed.size with h' | h'
        · simp [h'] at h0 h1; rw [h0] at h1; cases h1
        · simp [Array.getElem?_eq_none h'] at h1
      obtain ⟨ap1, ap2⟩ := hfree j oj hoj hji hjun hnot
      have h2 := evOp_put hoj ap1 ap2 hL h1
      have hfree' : ∀ k ok, ops[k]? = some ok → k ≠ i → (listed.setIfInBounds j true).getD k true = false →
          ¬ DepS ops k i → apartS (gdOf ops) oi ok = true ∧ apartO (A.getD i dfl).2 (A.getD k dfl).2 = true := fun k ok hk hki hun hno => by
        refine hfree k ok hk hki ?_ hno
        by_cases hjk : j = k
        · subst hjk; exact hjun
        · rw [getD_set_ne true hjk] at hun; exact hun
      refine evOp_mono (fun s h3 => ih (listed.setIfInBounds j true) s (hdc.list hj) hfree' (ready_mono hr (Ne.symm hji)) h3.1 fun g u => ?_) h2
      rw [Array.setIfInBounds_comm _ _ hji]
      exact h3.2 g u
def addIn (acc : List Nat) (x : Nat) : List Nat := if acc.contains x then acc else x :: acc
def rowD (tab : List (List Nat)) (o : Oper) : List Nat := (o.after.toList.filter (Region.binds .any)).foldl (fun acc e => (e.on :: tab.getD e.on []).foldl addIn acc) []
def tabD : List Oper → List (List Nat) → List (List Nat)
  | [], tab => tab
  | o :: l, tab => tabD l (tab ++ [rowD tab o])
theorem mem_addIn {l : List Nat} : ∀ {acc : List Nat} {x : Nat}, x ∈ l.foldl addIn acc → x ∈ l ∨ x ∈ acc := by
  induction l with
  | nil => intro acc x h; exact .inr h
  | cons y l ih =>
    intro acc x h
    rcases ih h with h | h
    · exact .inl (List.mem_cons_of_mem _ h)
    · unfold addIn at h
      split at h
      · exact .inr h
      · rcases List.mem_cons.1 h with rfl | h
        · exact .inl (List.mem_cons_self ..)
        · exact .inr h
theorem mem_rowD {tab : List (List Nat)} (es : List Edge) : ∀ {acc : List Nat} {x : Nat}, x ∈ es.foldl (fun acc e => (e.on :: tab.getD e.on []).foldl addIn acc) acc → (∃ e ∈ es, x = e.on ∨ x ∈ tab.getD e.on []) ∨ x ∈ acc := by
  induction es with
  | nil => intro acc x h; exact .inr h
  | cons e es ih =>
    intro acc x h
    rcases ih h with ⟨e', he', h⟩ | h
    · exact .inl ⟨e', List.mem_cons_of_mem _ he', h⟩
    · rcases mem_addIn h with h | h
      · exact .inl ⟨e, List.mem_cons_self .., List.mem_cons.1 h⟩
      · exact .inr h
theorem tabD_dep : ∀ (l : List Oper) (tab : List (List Nat)), (∀ k, l[k]? = ops[tab.length + k]?) → (∀ j x, x ∈ tab.getD j [] → DepS ops j x) → ∀ j x, x ∈ (tabD l tab).getD j [] → DepS ops j x
  | [], tab, _, h, j, x, hx => h j x hx
  | o :: l, tab, hl, h, j, x, hx => by
    refine tabD_dep l (tab ++ [rowD tab o]) (fun k => ?_) (fun j x hx => ?_) j x hx
    · have := hl (k + 1)
      simpa [Nat.add_assoc, Nat.add_comm 1 k] using this
    · rcases Nat.lt_trichotomy j tab.length with hj | hj | hj
      · rw [List.getD_eq_getElem?_getD, List.getElem?_append_left hj] at hx
        exact h j x (by rw [List.getD_eq_getElem?_getD]; exact hx)
      · subst hj
        rw [List.getD_eq_getElem?_getD, List.getElem?_append_right (Nat.le_refl _)] at hx
        simp only [Nat.sub_self, List.getElem?_cons_zero, Option.getD_some] at hx
        have ho : ops[tab.length]? = some o := by simpa using (hl 0).symm
        rcases mem_rowD _ hx with ⟨e, he, hh⟩ | hh
        · rw [List.mem_filter] at he
          rcases hh with hh | hh
          · exact .one ho (Array.mem_toList_iff.1 he.1) he.2 hh.symm
          · exact .more ho (Array.mem_toList_iff.1 he.1) he.2 (h _ _ hh)
        · cases hh
      · rw [List.getD_eq_getElem?_getD, List.getElem?_eq_none (by simp; omega)] at hx
        cases hx
def freeB (ops : Array Oper) (D : List (List Nat)) (A : List LogH) (listed : Array Bool) (i : Nat) : Bool :=
  match ops[i]? with
  | none => false
  | some oi => (List.range ops.size).all fun j => j == i || listed.getD j true || match ops[j]? with
      | some oj => (D.getD j []).contains i || (apartS (gdOf ops) oi oj && apartO (A.getD i dfl).2 (A.getD j dfl).2)
      | none => true
theorem freeB_spec {D : List (List Nat)} (hD : ∀ j x, x ∈ D.getD j [] → DepS ops j x) {i : Nat} {oi : Oper} {listed : Array Bool} (hi : ops[i]? = some oi) (h : freeB ops D A listed i = true) (j : Nat) (oj : Oper)
    (hj : ops[j]? = some oj) (hne : j ≠ i) (hun : listed.getD j true = false) (hno : ¬ DepS ops j i) :
    apartS (gdOf ops) oi oj = true ∧ apartO (A.getD i dfl).2 (A.getD j dfl).2 = true := by
  simp only [freeB, hi, List.all_eq_true, List.mem_range] at h
  have h1 := h j (Array.getElem?_eq_some_iff.1 hj).1
  simp only [hj, Bool.or_eq_true, beq_iff_eq, hne, false_or, hun, Bool.false_eq_true] at h1
  rcases h1 with h1 | h1
  · exact absurd (hD j i (by simpa using h1)) hno
  · simpa [Bool.and_eq_true] using h1
def lexF (ops : Array Oper) (D : List (List Nat)) (A : List LogH) : Nat → Nat → Array Bool → Bool
  | 0, _, listed => (Region.ready .any ops listed).isEmpty
  | fuel + 1, k, listed => (Region.ready .any ops listed).contains k && freeB ops D A listed k && lexF ops D A fuel (k + 1) (listed.setIfInBounds k true)
def lexD (ops : Array Oper) (A : List LogH) (n k : Nat) (listed : Array Bool) : Bool := lexF ops (tabD ops.toList []) A n k listed
def evD (P : Program) (T : Tab) (gd : Nat → Option Nat) : List Oper → List LogH → St → (St → Prop) → Prop
  | [], _, σ, K => K σ
  | o :: rest, A, σ, K => Lg P T gd (A.headD dfl) o σ ∧ ∀ g u, evD P T gd rest A.tail (σ.after (stepR P T (A.headD dfl).1 gd o σ) o.dst g u) K
theorem evAny_lexF {K : St → Prop} {D : List (List Nat)} (hD : ∀ j x, x ∈ D.getD j [] → DepS ops j x) : ∀ (l : List Oper) (k : Nat) (listed : Array Bool) (σ : St), DC ops listed → (∀ j, l[j]? = ops[k + j]?) →
    lexF ops D A l.length k listed = true → evD P T (gdOf ops) l (A.drop k) σ K → evAny P T ops A K l.length listed σ
  | [], _, _, _, _, _, hB, h => ⟨by simpa [lexF] using hB, h⟩
  | o :: l, k, listed, σ, hdc, hl, hB, h => by
    have h0 : ops[k]? = some o := by simpa using (hl 0).symm
    simp only [List.length_cons, lexF, Bool.and_eq_true] at hB
    obtain ⟨⟨hr, hf⟩, hB'⟩ := hB
    have hA : (A.drop k).headD dfl = A.getD k dfl := by
      rw [List.headD_eq_head?_getD, List.head?_drop, List.getD_eq_getElem?_getD]
    have hT : (A.drop k).tail = A.drop (k + 1) := by simp
    obtain ⟨h1, h2⟩ := h
    rw [hA] at h1 h2
    rw [hT] at h2
    have hr' : k ∈ Region.ready .any ops listed := by simpa using hr
    exact evAny_first h0 l.length listed σ hdc (freeB_spec hD h0 hf) hr' h1 fun g u =>
      evAny_lexF hD l (k + 1) _ _ (hdc.list hr') (fun j => by have := hl (j + 1); simpa [Nat.add_assoc, Nat.add_comm 1 j] using this) hB' (h2 g u)
theorem evAny_lex {K : St → Prop} (l : List Oper) (σ : St) (hl : ops = l.toArray) (hB : lexD ops A l.length 0 (Array.replicate l.length false) = true) (h : evD P T (gdOf ops) l A σ K) : evAny P T ops A K l.length (Array.replicate l.length false) σ := by
  refine evAny_lexF (D := tabD ops.toList []) (tabD_dep _ _ (by simp) (by simp)) l 0 _ σ ?_ (by subst hl; simp) hB (by simpa using h)
  intro k o ho hk
  simp only [Array.getD_eq_getD_getElem?, Array.getElem?_replicate] at hk
  split at hk <;> cases hk
end
section
variable {E : Env} {T : Tab} {ops : Array Oper} {A : List LogH}
theorem wpAny_ev (hT : TabOk E.P T) (hok : ∀ (i : Nat) (o : Oper), ops[i]? = some o → opersOk o = true) {Q : Exit → Act → World → Prop} {K : St → Prop} (hQ : ∀ s a w, K s → Sat E s a w → Q .normal a w) : ∀ (fuel : Nat) (listed : Array Bool) (σ : St) (a : Act) (w : World), Sat E σ a w →
    evAny E.P T ops A K fuel listed σ → wpAnyIn E.F 0 E.P .any ops Q fuel listed a w
  | 0, _, _, _, _, hs, h => ⟨h.1, hQ _ _ _ h.2 hs⟩
  | fuel + 1, listed, σ, a, w, hs, h => ⟨fun h0 => hQ _ _ _ (h.1 h0) hs, fun i hi => by
      have h1 := h.2 i hi
      obtain ⟨_, o, ho, _⟩ := mem_ready.1 hi
      unfold evOp at h1
      simp only [ho] at h1
      exact wpOp_step hT (H := (A.getD i dfl).1) ho (hok i o ho) hs h1.1.1 fun g u a' w' hs' => wpAny_ev hT hok hQ fuel _ _ a' w' hs' (h1.2 g u)⟩
theorem awp_draw (T : Tab) (hT : TabOk E.P T) {σ : St} {id : Nat} {Q : Exit → St → Prop} {l : List Oper} (hm : E.P.follows .mixedOrders = true) (hok : (l.all opersOk = true)) (A : List LogH)
    (h : ∀ K : St → Prop, (∀ s, Q .normal s → K s) → evD E.P T (gdOf l.toArray) l A σ K) (hB : lexD l.toArray A l.length 0 (Array.replicate l.length false) = true) : AWp E (.region id l.toArray true) Q σ := fun a w hs => by
  refine wpIn_region_any hm ?_
  have h1 := evAny_lex (ops := l.toArray) (A := A) l σ rfl hB (h (fun s => Q .normal s) fun _ h => h)
  have := wpAny_ev hT (ops := l.toArray) (A := A) (fun i o ho => List.all_eq_true.1 hok o (by simpa using List.mem_of_getElem? (by simpa using ho))) (Q := fun e a' w' => ∃ σ', Q e σ' ∧ Sat E σ' a' w') (K := fun s => Q .normal s) (fun s a w h1 h2 => ⟨s, h1, h2⟩) l.length _ σ a _ hs.drew h1
  simpa using this
end
end Go.Proofs.YtopigomfhggkoaaDoor.A
