/- Regions whose order is open: the order of the text serves every order, where what one operation writes no other one looks at. -/
import Derived.Test.YtopigomfhggkoaaDoorJC4
set_option linter.unusedVariables false
set_option linter.unusedSimpArgs false
namespace Go.Proofs.YtopigomfhggkoaaDoor.A
open Go.RowKit
def opsOf (o : Oper) : List Operand := match o.op with
  | .call c => (match c.callee with | .value x => [x] | _ => []) ++ c.args.toList
  | .slice _ x l h m => x :: (l.toList ++ h.toList ++ m.toList)
  | .build _ ps | .buildSlice _ _ ps => ps.toList.map (·.2)
  | op => op.operands.toList
def opsI (o : Oper) : List Operand := match o.op with
  | .move _ => []
  | _ => opsOf o
def idsOp (o : Oper) (σ : St) : List Nat := idsOfL ((opsI o).map σ.eval)
def tmpOf : Operand → Option Nat
  | .tmp t => some t
  | _ => none
def slotsOf (gd : Nat → Option Nat) (o : Oper) : List Nat := (opsOf o).filterMap tmpOf ++ (match o.guard with | some (j, _) => (gd j).toList | none => [])
abbrev Log := List Nat × List Nat
def apartS (gd : Nat → Option Nat) (x y : Oper) : Bool :=
  (match x.dst with | some d => !(slotsOf gd y).contains d && y.dst != some d | none => true) && (match y.dst with | some d => !(slotsOf gd x).contains d | none => true)
def apartO (a b : Log) : Bool := a.2.all (fun t => !b.1.contains t && !b.2.contains t) && b.2.all (fun t => !a.1.contains t)
theorem apartS_spec {gd : Nat → Option Nat} {x y : Oper} (h : apartS gd x y = true) :
    (∀ d, x.dst = some d → d ∉ slotsOf gd y) ∧ (∀ d, x.dst = some d → y.dst ≠ some d) ∧ (∀ d, y.dst = some d → d ∉ slotsOf gd x) := by
  refine ⟨fun d hd => ?_, fun d hd => ?_, fun d hd => ?_⟩ <;> simp [apartS, hd] at h
  · exact h.1.1
  · exact h.1.2
  · exact h.2
theorem apartO_spec {a b : Log} (h : apartO a b = true) : (∀ t ∈ a.2, t ∉ b.1 ∧ t ∉ b.2) ∧ ∀ t ∈ b.2, t ∉ a.1 := by
  simp only [apartO, Bool.and_eq_true, List.all_eq_true] at h
  refine ⟨fun t ht => ?_, fun t ht => ?_⟩
  · have := h.1 t ht
    simpa using this
  · have := h.2 t ht
    simpa using this
mutual
theorem cl_congr {o o' : List AObj} : ∀ (x : AV), (∀ t ∈ idsOf x, objD o t = objD o' t) → A.cl o x = A.cl o' x
  | .any, _ => rfl
  | .d _, _ => rfl
  | .el _ _, _ => rfl
  | .elo _ _ _ _ _, _ => rfl
  | .own t _, h => by simp only [A.cl, h t (by simp [idsOf])]
  | .ptr t _ _, h => by simp only [A.cl, h t (by simp [idsOf])]
  | .agg cs, h => by simp only [A.cl, clL_congr cs (by simpa only [idsOf] using h)]
  | .tup cs, h => by simp only [A.cl, clL_congr cs (by simpa only [idsOf] using h)]
  | .clo _ cs, h => by simp only [A.cl, clL_congr cs (by simpa only [idsOf] using h)]
theorem clL_congr {o o' : List AObj} : ∀ (xs : List AV), (∀ t ∈ idsOfL xs, objD o t = objD o' t) → clL o xs = clL o' xs
  | [], _ => rfl
  | x :: xs, h => by
    simp only [idsOfL, List.mem_append] at h
    simp only [clL, cl_congr x fun t ht => h t (.inl ht), clL_congr xs fun t ht => h t (.inr ht)]
end
mutual
theorem clOk_congr {o o' : List AObj} : ∀ (x : AV), (∀ t ∈ idsOf x, objD o t = objD o' t) → clOk o x = clOk o' x
  | .any, _ => rfl
  | .d _, _ => rfl
  | .el _ _, _ => rfl
  | .elo _ _ _ _ _, _ => rfl
  | .own t _, h => by simp only [clOk, h t (by simp [idsOf])]
  | .ptr t _ _, h => by simp only [clOk, h t (by simp [idsOf])]
  | .agg cs, h => by simp only [clOk, clOkL_congr cs (by simpa only [idsOf] using h)]
  | .tup cs, h => by simp only [clOk, clOkL_congr cs (by simpa only [idsOf] using h)]
  | .clo _ cs, h => by simp only [clOk, clOkL_congr cs (by simpa only [idsOf] using h)]
theorem clOkL_congr {o o' : List AObj} : ∀ (xs : List AV), (∀ t ∈ idsOfL xs, objD o t = objD o' t) → clOkL o xs = clOkL o' xs
  | [], _ => rfl
  | x :: xs, h => by
    simp only [idsOfL, List.mem_append] at h
    simp only [clOkL, clOk_congr x fun t ht => h t (.inl ht), clOkL_congr xs fun t ht => h t (.inr ht)]
end
theorem frzEff_congr {o o' : List AObj} (ids : List Nat) (h : ∀ t ∈ ids, objD o t = objD o' t) : frzEff o ids = frzEff o' ids := by
  unfold frzEff
  exact List.map_congr_left fun t ht => by rw [h t ht]
theorem idsOfL_mem {x : AV} {xs : List AV} (hx : x ∈ xs) {t : Nat} (ht : t ∈ idsOf x) : t ∈ idsOfL xs := by
  induction xs with
  | nil => cases hx
  | cons y ys ih =>
    simp only [idsOfL, List.mem_append]
    rcases List.mem_cons.1 hx with rfl | h
    · exact .inl ht
    · exact .inr (ih h)
theorem idsOfL_append (xs ys : List AV) : idsOfL (xs ++ ys) = idsOfL xs ++ idsOfL ys := by
  induction xs with
  | nil => rfl
  | cons x xs ih => simp [idsOfL, ih]
theorem obOf_congr {σ σ' : St} (x : AV) (h : ∀ t ∈ idsOf x, objD σ.o t = objD σ'.o t) : obOf σ x = obOf σ' x := by
  cases x <;> simp only [obOf] <;> exact h _ (by simp [idsOf])
section
variable {P : Program} {T : Tab} {H : Hints} {gd : Nat → Option Nat} {o : Oper}
theorem opRes_congr {σ σ' : St} (hl : σ.o.length = σ'.o.length) (he : ∀ x ∈ opsOf o, σ.eval x = σ'.eval x) (ho : ∀ t ∈ idsOp o σ, objD σ.o t = objD σ'.o t) : opRes P T H o σ = opRes P T H o σ' := by
  by_cases hmv : ∃ x, o.op = .move x
  · obtain ⟨x, hop⟩ := hmv
    unfold opRes
    simp only [hop]
    rw [he x (by simp [opsOf, hop, Op.operands])]
  have hI : opsI o = opsOf o := by
    unfold opsI
    split
    · rename_i x hop; exact absurd ⟨x, hop⟩ hmv
    · rfl
  unfold idsOp at ho
  rw [hI] at ho
  have ob : ∀ x ∈ opsOf o, obOf σ (σ.eval x) = obOf σ' (σ'.eval x) := fun x hx => by
    rw [← he x hx]
    exact obOf_congr _ fun t ht => ho t (idsOfL_mem (List.mem_map.2 ⟨x, hx, rfl⟩) ht)
  have cR : ∀ (f : Nat) (xs : List AV), (∀ t ∈ idsOfL xs, objD σ.o t = objD σ'.o t) → callR P H σ o.dst f xs = callR P H σ' o.dst f xs := fun f xs h => by
    unfold callR
    rw [clL_congr xs h, clOkL_congr xs h, frzEff_congr _ h, hl]
  have mp : ∀ (l : List Operand), (∀ x ∈ l, x ∈ opsOf o) → l.map σ.eval = l.map σ'.eval := fun l h => List.map_congr_left fun x hx => he x (h x hx)
  have mpn : ∀ (l : List (Nat × Operand)), (∀ p ∈ l, p.2 ∈ opsOf o) → l.map (fun p => (p.1, σ.eval p.2)) = l.map (fun p => (p.1, σ'.eval p.2)) := fun l h => List.map_congr_left fun p hp => by rw [he p.2 (h p hp)]
  unfold opRes
  unfold opsOf at he ob ho mp mpn
  cases hop : o.op <;> simp only [hop, Op.operands] at he ob ho mp mpn ⊢
  case move x => rw [he x (by simp)]
  case assign x => rw [he x (by simp)]
  case pick c x y => rw [he c (by simp), he x (by simp), he y (by simp)]
  case unOp op t x => rw [he x (by simp)]
  case binOp op t x y u => rw [he x (by simp), he y (by simp)]
  case alloc t => rw [hl]
  case box t x => rw [he x (by simp), hl]
  case build t ps => rw [mpn ps.toList (fun p hp => List.mem_map.2 ⟨p, hp, rfl⟩)]
  case buildSlice t n ps =>
    rw [mpn ps.toList (fun p hp => List.mem_map.2 ⟨p, hp, rfl⟩), hl]
    have hids : ∀ t ∈ idsOfL ((ps.toList.map fun p => (p.1, σ'.eval p.2)).map (·.2)), objD σ.o t = objD σ'.o t := fun t ht => by
      rw [← mpn ps.toList (fun p hp => List.mem_map.2 ⟨p, hp, rfl⟩)] at ht
      refine ho t ?_
      simpa [List.map_map, Function.comp_def] using ht
    unfold buildSliceR
    have h1 : ∀ (qs : List (Nat × AV)), (∀ t ∈ idsOfL (qs.map (·.2)), objD σ.o t = objD σ'.o t) → clP σ.o qs = clP σ'.o qs := fun qs hq => by
      unfold clP
      exact List.map_congr_left fun p hp => by rw [cl_congr p.2 fun t ht => hq t (idsOfL_mem (List.mem_map.2 ⟨p, hp, rfl⟩) ht)]
    rw [h1 _ hids, clOkL_congr _ hids, frzEff_congr _ hids]
  case load t x => rw [ob x (by simp), he x (by simp)]
  case store t x y =>
    have hids : ∀ t ∈ idsOf (σ'.eval y), objD σ.o t = objD σ'.o t := fun t ht => by
      refine ho t (idsOfL_mem (x := σ'.eval y) ?_ ht)
      rw [← he y (by simp)]; exact List.mem_map.2 ⟨y, by simp, rfl⟩
    have hidl : ∀ t ∈ idsOfL [σ'.eval y], objD σ.o t = objD σ'.o t := fun t ht => by
      simp only [idsOfL, List.append_nil] at ht
      exact hids t ht
    have c1 := cl_congr (σ'.eval y) hids
    have c2 := clOkL_congr [σ'.eval y] hidl
    simp only [clOkL, and_true] at c2
    have c3 := frzEff_congr _ hids
    rw [ob x (by simp), he x (by simp), he y (by simp)]
    have hC : ∀ xv ob, storeC T σ.o t xv ob (σ'.eval y) = storeC T σ'.o t xv ob (σ'.eval y) := fun xv ob => by
      unfold storeC
      rw [hl, c1, c2, c3]
    generalize σ'.eval y = yv at *
    unfold storeX
    split
    · split
      · rw [hl]
      · exact hC _ _
    · rw [hl]
  case fieldAddr s x f => rw [he x (by simp)]
  case field s x f => rw [he x (by simp)]
  case indexAddr t x i => rw [ob x (by simp), he x (by simp), he i (by simp)]
  case index t x i => rw [he x (by simp), he i (by simp)]
  case slice t x lo hi m =>
    cases m
    · have hlo : lo.map σ.eval = lo.map σ'.eval := by cases lo with | none => rfl | some l => simp only [Option.map_some]; rw [he l (by simp)]
      have hhi : hi.map σ.eval = hi.map σ'.eval := by cases hi with | none => rfl | some l => simp only [Option.map_some]; rw [he l (by simp)]
      simp only
      rw [ob x (by simp), he x (by simp), hl, hlo, hhi]
    · rename_i m
      cases lo with
      | some l => rfl
      | none =>
        cases hi with
        | none => rfl
        | some h =>
          simp only
          rw [he x (by simp), he h (by simp), he m (by simp)]
  case makeSlice t l c => rw [he l (by simp), he c (by simp), hl]
  case makeFunc fn first caps => rw [mp caps.toList (by intro x hx; simp [hx])]
  case convert s t x => rw [ob x (by simp), he x (by simp)]
  case extract x i => rw [he x (by simp)]
  case nilCheck x => rw [he x (by simp)]
  case lookup t x i ok => rw [he x (by simp), he i (by simp)]
  case call c =>
    unfold calleeR
    cases hc : c.callee with
    | builtin b =>
      simp only [hc] at he ob ho mp
      have ha : ∀ x ∈ c.args.toList, σ.eval x = σ'.eval x ∧ obOf σ (σ.eval x) = obOf σ' (σ'.eval x) := fun x hx => ⟨he x (by simpa using hx), ob x (by simpa using hx)⟩
      cases b <;> simp only <;> (generalize c.args.toList = l at ha; split <;> first
        | rfl
        | (rename_i s x t t' _; rw [(ha s (by simp)).2, (ha s (by simp)).1, (ha x (by simp)).2, (ha x (by simp)).1, hl])
        | (rename_i x t _; rw [(ha x (by simp)).2, (ha x (by simp)).1]; done)
        | (rename_i x y; rw [(ha x (by simp)).1, (ha y (by simp)).1]; done))
    | value x =>
      simp only [hc] at he ob ho mp
      have hm : c.args.toList.map σ.eval = c.args.toList.map σ'.eval := mp _ (fun y hy => by simp at hy ⊢; exact .inr hy)
      have hids : ∀ t ∈ idsOfL (c.args.toList.map σ'.eval), objD σ.o t = objD σ'.o t := fun t ht => ho t (by
        rw [List.map_append, idsOfL_append, List.mem_append, hm]
        exact .inr ht)
      have hx := he x (by simp)
      simp only
      rw [hm, ← hx]
      split
      · split
        · exact cR _ _ hids
        · rfl
      · rename_i f caps hcl
        refine cR _ _ fun t ht => ?_
        rw [idsOfL_append, List.mem_append] at ht
        rcases ht with ht | ht
        · exact hids t ht
        · refine ho t (idsOfL_mem (x := σ.eval x) (List.mem_map.2 ⟨x, by simp, rfl⟩) ?_)
          rw [hcl]
          simpa [idsOf] using ht
      · refine cR _ _ fun t ht => ?_
        rw [idsOfL_append, cap_ids, List.append_nil] at ht
        exact hids t ht
      · rfl
    | _ => rfl
end
end Go.Proofs.YtopigomfhggkoaaDoor.A
