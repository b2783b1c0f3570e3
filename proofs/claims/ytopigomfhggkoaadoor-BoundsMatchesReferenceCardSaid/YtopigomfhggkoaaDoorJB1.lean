/- append, make; values and slices that are built. -/
import Derived.Test.YtopigomfhggkoaaDoorJA9
set_option linter.unusedVariables false
set_option linter.unusedSimpArgs false
namespace Go.Proofs.YtopigomfhggkoaaDoor.A
open Go.RowKit
section
variable {E : Env} {o : Oper} {σ : St} {T : Tab}
def rowsA (sz : Nat) (x : AV) (ob : AObj) : Option (List (List Dat)) := match x, ob with
  | .d (.lit (.slice none 0 0)), _ => some []
  | .d (.sl _ rows), _ => some rows
  | .own _ _, .row _ _ _ rows => some rows
  | .own _ _, .fz _ _ rows => some rows
  | _, _ => none
def rowsOk (sz : Nat) (x : AV) (ob : AObj) : Prop := match x, ob with
  | .d (.lit (.slice none 0 0)), _ => True
  | .d (.sl s _), _ => s = sz
  | .own _ u, .row v _ s _ => u = v ∧ s = sz
  | .own _ u, .fz v s _ => u = v ∧ s = sz
  | _, _ => False
theorem rows_read {x : AV} {ob : AObj} {sz : Nat} {rows : List (List Dat)} (h : rowsA sz x ob = some rows) (hk : rowsOk sz x ob) {m : Mem} {v : Value} (hv : Has m x v) (ho : ObjAt m ob) :
    (v = .slice none 0 0 ∧ rows = []) ∨ ∃ A c, v = .slice A rows.length c ∧ ((rows = []) ∨ ∃ b off xs, A = some ⟨b, off, none⟩ ∧ RowVals m sz rows xs ∧ ∀ i y, xs[i]? = some y → cellH m.heap b (off + i) = some y) := by
  unfold rowsA at h
  split at h
  · cases h
    have := has_lit hv
    exact .inl ⟨this, rfl⟩
  · cases h
    simp only [rowsOk] at hk
    subst hk
    simp only [Has, Rep] at hv
    obtain ⟨A, c, rfl, _, _, hr⟩ := hv
    refine .inr ⟨A, c, rfl, ?_⟩
    rcases hr with hr | ⟨b, off, rfl, hr⟩
    · exact .inl hr
    · obtain ⟨xs, h1, h2⟩ := hr.vals
      exact .inr ⟨b, off, xs, rfl, h1, h2⟩
  · rename_i u v' e s rows'
    cases h
    simp only [rowsOk] at hk
    obtain ⟨rfl, rfl⟩ := hk
    simp only [Has] at hv
    obtain ⟨rfl, _⟩ := hv
    obtain ⟨xs, ⟨hl, hxs⟩, hr⟩ := ho
    rcases hxs with ⟨rfl, h0⟩ | ⟨g, cap, cur, rfl, hg, _, _, _, ht⟩
    · exact .inl ⟨rfl, List.eq_nil_of_length_eq_zero h0⟩
    · refine .inr ⟨_, cap, rfl, .inr ⟨g, 0, xs, rfl, hr, fun i y hy => ?_⟩⟩
      rw [cellH_of hg, Nat.zero_add]
      rw [← ht, List.getElem?_take] at hy
      split at hy
      · simpa using hy
      · cases hy
  · rename_i u v' s rows'
    cases h
    simp only [rowsOk] at hk
    obtain ⟨rfl, rfl⟩ := hk
    simp only [Has] at hv
    obtain ⟨rfl, _⟩ := hv
    simp only [ObjAt, Rep] at ho
    obtain ⟨A, c, rfl, _, _, hr⟩ := ho
    refine .inr ⟨A, c, rfl, ?_⟩
    rcases hr with hr | ⟨b, off, rfl, hr⟩
    · exact .inl hr
    · obtain ⟨xs, h1, h2⟩ := hr.vals
      exact .inr ⟨b, off, xs, rfl, h1, h2⟩
  · cases h
def appendOk (T : Tab) (t : Nat) (n m : Nat) : Prop := (T t).known = true ∧ (T t).kind = 1 ∧ (T (T t).elem).known = true ∧ 0 < (T (T t).elem).size ∧ (n + m) * (T (T t).elem).bytes ≤ 140737488355328 ∧ n + m ≤ 9223372036854775807
def appendR (T : Tab) (n : Nat) (dst : Option Nat) (t : Nat) (s : AV) (os : AObj) (x : AV) (ox : AObj) : Res := match rowsA (T (T t).elem).size x ox with
  | some ys => match s, os with
    | .own d u, .row v e sz rows => ⟨appendOk T t rows.length ys.length ∧ rowsOk sz x ox ∧ u = v ∧ e = (T t).elem ∧ sz = (T (T t).elem).size ∧ d < n, fun _ v' => .own d v', fun _ v' => [(d, .row v' e sz (rows ++ ys))]⟩
    | .d (.lit (.slice none 0 0)), _ => match dst with
      | some d => ⟨appendOk T t 0 ys.length ∧ rowsOk (T (T t).elem).size x ox ∧ d < n, fun _ v' => .own d v', fun _ v' => [(d, .row v' (T t).elem (T (T t).elem).size ys)]⟩
      | none => Rno
    | _, _ => Rno
  | none => Rno
theorem run_call_append {P : Program} {t : Nat} {s x : Operand} {a : Act} {w w' : World} {vs vx v' : Value} (ho : o.op = .call { callee := .builtin .append, args := #[s, x], argTypes := #[t, t] }) (hs : a.eval s = vs) (hx : a.eval x = vx)
    (h : (Builtin.append_ #[t, t] o.type #[vs, vx]).run P w = .ok v' w') : (execOp a.eval o).run P w = .ok (.value v') w' := by
  simp [execOp, ho, resolve, invoke, builtin, hs, hx, h]
theorem run_append_any (hT : TabOk E.P T) {t ty : Nat} {w : World} {v : Value} {n : Nat} {xs : List Value} (hc : (T t).known = true ∧ (T t).kind = 1 ∧ (T (T t).elem).known = true ∧ 0 < (T (T t).elem).size)
    (hown : w.ownsRow 0 (T t).elem (T (T t).elem).size v n xs) {m : Nat} {vx : Value} {mm : Mem} {rows : List (List Dat)} (hm : mm.heap = w.heap) (hr : rows.length = m)
    (hx : (vx = .slice none 0 0 ∧ rows = []) ∨ ∃ A c, vx = .slice A rows.length c ∧ ((rows = []) ∨ ∃ b off ys, A = some ⟨b, off, none⟩ ∧ RowVals mm (T (T t).elem).size rows ys ∧ ∀ i y, ys[i]? = some y → cellH mm.heap b (off + i) = some y))
    (hb : (n + m) * (T (T t).elem).bytes ≤ 140737488355328) (hl : n + m ≤ 9223372036854775807) :
    ∃ v' w' ys, (Builtin.append_ #[t, t] ty #[v, vx]).run E.P w = .ok v' w' ∧ RowVals mm (T (T t).elem).size rows ys ∧ w'.ownsRow 0 (T t).elem (T (T t).elem).size v' (n + m) (xs ++ ys) ∧ w.grownBy w' v.ownBlock ∧ (v'.ownBlock = v.ownBlock ∨ v'.ownBlock = some w.heap.size) := by
  obtain ⟨h1, h2, h3, h4⟩ := hc
  have ht := ti_slice hT h1 h2
  obtain ⟨info, k1, k2, k3, z, k4, k5, k6, k7⟩ := ti hT h3
  have hzs : z.cells.size = (T (T t).elem).size := by rw [← k7, ← k5]; simp
  have hnil : rows = [] → ∀ A c, vx = .slice A 0 c → ∃ v' w' ys, (Builtin.append_ #[t, t] ty #[v, vx]).run E.P w = .ok v' w' ∧ RowVals mm (T (T t).elem).size rows ys ∧ w'.ownsRow 0 (T t).elem (T (T t).elem).size v' (n + m) (xs ++ ys) ∧ w.grownBy w' v.ownBlock ∧ (v'.ownBlock = v.ownBlock ∨ v'.ownBlock = some w.heap.size) := by
    rintro rfl A c rfl
    have hm0 : m = 0 := by simpa using hr.symm
    subst hm0
    refine ⟨v, w, [], ?_, rfl, by simpa using hown, grownBy_refl _ _, .inl rfl⟩
    have hfc : ∀ sz, (Builtin.firstCells sz 0 (.slice A 0 c)).run E.P w = .ok #[] w := by
      intro sz
      cases A <;> simp [Builtin.firstCells, loadCells, loadCellsFrom]
    rcases hown.2 with ⟨rfl, rfl⟩ | ⟨g, cap, cur, rfl, _, _, hnc, _⟩
    · simp [Builtin.append_, run_underlying ht, sizeOf, typeInfo, k1, Builtin.lenOf, hfc]
    · simp [Builtin.append_, run_underlying ht, sizeOf, typeInfo, k1, Builtin.lenOf, hfc, hnc, storeCells]
  rcases hx with ⟨rfl, rfl⟩ | ⟨A, c, rfl, hx⟩
  · exact hnil rfl none 0 rfl
  · rcases hx with rfl | ⟨b, off, ys, rfl, hrv, hcl⟩
    · exact hnil rfl A c rfl
    · subst hr
      obtain ⟨v', w', r1, r2, r3, _, r5⟩ := run_append_own_at (P := E.P) w 0 t ty (T t).elem info z (T (T t).elem).size (T (T t).elem).bytes ht k1 k4 k2 k3 hzs h4 v n xs hown ⟨b, off, none⟩ rows.length c ys hrv.length
        (fun j u hu => by rw [Addr.add_lit, cellH_cell, ← hm]; exact hcl j u hu) hrv.one (by simpa [maxLen] using hl) hb (Nat.zero_le _)
      exact ⟨v', w', ys, r1, hrv, r2, r3, r5⟩
theorem sound_append (hT : TabOk E.P T) {t : TypeId} {s x : Operand} (ho : o.op = .call { callee := .builtin .append, args := #[s, x], argTypes := #[t, t] }) (hs' : opOk s = true) (hx : opOk x = true)
    (os ox : AObj) (hOs : ∀ d, names (σ.eval s) d → os = objD σ.o d) (hOx : ∀ m, (∀ (i : Nat) y, σ.o[i]? = some y → ObjAt m y) → ObjAt m ox) : Sound E o σ (appendR T σ.o.length o.dst t (σ.eval s) os (σ.eval x) ox) := by
  unfold appendR
  split
  · rename_i ys hys
    split
    · rename_i d u v e sz rows es
      refine Sound.of ?_
      rintro ⟨⟨h1, h2, h3, h4, h5, h6⟩, hro, rfl, rfl, rfl, hd⟩ a w hs
      have hp := hs.eval s hs'
      have hob := hOs d (by rw [es]; rfl)
      rw [es] at hp
      simp only [Has] at hp
      have h0 := objAt_objD hs.o d
      rw [← hob] at h0
      obtain ⟨xs, hxs, hrv⟩ := h0
      have hown : w.ownsRow 0 (T t).elem (T (T t).elem).size u rows.length xs := ownsH_row.1 hxs
      obtain ⟨v', w', zs, r1, r2, r3, r4, r5⟩ := run_append_any hT (ty := o.type) (m := ys.length) (mm := E.mem σ.o w) ⟨h1, h2, h3, h4⟩ hown rfl rfl (rows_read hys hro (hs.eval x hx) (hOx _ hs.o)) h5 h6
      refine ⟨0, v', v', w', run_call_append ho hp.1 rfl r1, ?_, ?_⟩
      · refine hs.turn (objD_get hd) (rb := u.ownBlock) r4 (fun b hb => by rw [← hob]; exact hb) (fun b hb => ?_) fun hle => ?_
        · refine ⟨?_, (r3.lt b hb).2⟩
          rcases r5 with r5 | r5
          · left; rw [← hob]; show u.ownBlock = some b; rw [← r5]; exact hb
          · right
            have : v'.ownBlock = some b := hb
            rw [r5] at this
            cases this
            exact Nat.le_refl _
        · exact ⟨xs ++ zs, ownsH_row.2 (by rw [List.length_append]; exact r3), (hrv.append r2).mono hle⟩
      · simp only [Has]
        refine ⟨trivial, ?_⟩
        rcases r3.2 with ⟨rfl, _⟩ | ⟨g, cap, cur, rfl, _⟩ <;> rfl
    · rename_i es
      split
      · rename_i d hd'
        refine Sound.of ?_
        rintro ⟨⟨h1, h2, h3, h4, h5, h6⟩, hro, hd⟩ a w hs
        have hv := has_lit (by have := hs.eval s hs'; rwa [es] at this)
        have hown := World.ownsRow_nil w 0 (T t).elem (T (T t).elem).size
        obtain ⟨v', w', zs, r1, r2, r3, r4, r5⟩ := run_append_any hT (ty := o.type) (m := ys.length) (mm := E.mem σ.o w) ⟨h1, h2, h3, h4⟩ hown rfl rfl (rows_read hys hro (hs.eval x hx) (hOx _ hs.o)) h5 h6
        refine ⟨0, v', v', w', run_call_append ho hv rfl r1, ?_, ?_⟩
        · refine hs.turn (objD_get hd) (rb := none) r4 (by simp) (fun b hb => ?_) fun hle => ?_
          · refine ⟨?_, (r3.lt b hb).2⟩
            have : v'.ownBlock = some b := hb
            rcases r5 with r5 | r5
            · rw [r5] at this; simp [Value.ownBlock] at this
            · right
              rw [r5] at this
              cases this
              exact Nat.le_refl _
          · exact ⟨zs, ownsH_row.2 (by simpa using r3), r2.mono hle⟩
        · simp only [Has]
          refine ⟨trivial, ?_⟩
          rcases r3.2 with ⟨rfl, _⟩ | ⟨g, cap, cur, rfl, _⟩ <;> rfl
      · exact Sound.no
    · exact Sound.no
  · exact Sound.no
theorem madeCells_rows {m : Mem} {z : Array Value} (hz : z.toList.all (·.oneCell') = true) (hp : 0 < z.size) : ∀ n, RowVals m z.size (List.replicate n (z.toList.map fun v => Dat.lit v)) (madeCells z (n * z.size)).toList
  | 0 => by simp [RowVals, madeCells]
  | n + 1 => by
    have hsplit : (madeCells z ((n + 1) * z.size)).toList = z.toList ++ (madeCells z (n * z.size)).toList := by
      apply List.ext_getElem?
      intro i
      rw [List.getElem?_append]
      simp only [madeCells, Array.toList_map, Array.toList_range, List.getElem?_map, Array.length_toList]
      by_cases h1 : i < (n + 1) * z.size
      · rw [List.getElem?_range h1]
        by_cases h2 : i < z.size
        · rw [if_pos h2]
          simp [Nat.mod_eq_of_lt h2, h2]
        · rw [if_neg h2, List.getElem?_range (by rw [Nat.add_mul] at h1; omega)]
          simp only [Option.map_some]
          congr 2
          conv => lhs; rw [show i = (i - z.size) + z.size from by omega]
          rw [Nat.add_mod_right]
      · rw [List.getElem?_eq_none (by simp; omega)]
        by_cases h2 : i < z.size
        · exfalso; rw [Nat.add_mul] at h1; omega
        · rw [if_neg h2, List.getElem?_eq_none (by simp; rw [Nat.add_mul] at h1; omega)]
    rw [hsplit, List.replicate_succ]
    refine RowVals.cons ?_ (by simp) (madeCells_rows hz hp n)
    have : ∀ {l : List Value}, l.all (·.oneCell') = true → DatL m (l.map fun v => Dat.lit v) l := by
      intro l
      induction l with
      | nil => intro _; trivial
      | cons x l ih =>
        intro h
        simp only [List.all_cons, Bool.and_eq_true] at h
        exact ⟨by simp only [Rep]; exact ⟨trivial, h.1⟩, ih h.2⟩
    exact this hz
def makeR (T : Tab) (n : Nat) (dst : Option Nat) (t : Nat) (l c : AV) : Res := match dst, l, c with
  | some d, .d (.lit (.int _ a)), .d (.lit (.int _ b)) =>
    ⟨(T t).known = true ∧ (T t).kind = 1 ∧ (T (T t).elem).known = true ∧ 0 < (T (T t).elem).size ∧ d < n ∧ a = b ∧ 0 ≤ a ∧ a * (T (T t).elem).bytes ≤ 281474976710656 ∧ a ≤ 9223372036854775807,
      fun _ v => .own d v, fun _ v => [(d, .row v (T t).elem (T (T t).elem).size (List.replicate a.toNat ((T (T t).elem).zero.map .lit)))]⟩
  | _, _, _ => Rno
theorem sound_make (hT : TabOk E.P T) {t : TypeId} {l c : Operand} (ho : o.op = .makeSlice t l c) (hl : opOk l = true) (hc : opOk c = true) : Sound E o σ (makeR T σ.o.length o.dst t (σ.eval l) (σ.eval c)) := by
  unfold makeR
  split
  · rename_i d k a k' b hd' e1 e2
    refine Sound.of ?_
    rintro ⟨h1, h2, h3, h4, hd, rfl, h5, h6, h7⟩ ac w hs
    have v1 := has_lit (by have := hs.eval l hl; rwa [e1] at this)
    have v2 := has_lit (by have := hs.eval c hc; rwa [e2] at this)
    have ht := ti_slice hT h1 h2
    obtain ⟨info, k1, k2, k3, z, k4, k5, k6, k7⟩ := ti hT h3
    have hzs : z.cells.size = (T (T t).elem).size := by rw [← k7, ← k5]; simp
    have hr := run_make (P := E.P) w t (T t).elem info z ht k1 k4 k k' a a h5 (Int.le_refl _) (by rw [k3, Int.mul_comm]; exact h6) h7
    rw [k2] at hr
    refine ⟨0, .slice (some ⟨w.heap.size, 0, none⟩) a.toNat a.toNat, _, _, by simp only [execOp, ho, v1, v2, Sem.run_bind, hr, Result.andThen_ok]; rfl, ?_, ?_⟩
    · refine hs.turn (objD_get hd) (rb := none) (World.grownBy_alloc w _ none) (by simp) (fun b hb => ?_) fun hle => ?_
      · have hb' : w.heap.size = b := by simpa [AObj.blk, Value.ownBlock] using hb
        subst hb'
        exact ⟨.inr (Nat.le_refl _), by simp⟩
      · refine ⟨(madeCells z.cells (a.toNat * (T (T t).elem).size)).toList, ⟨by rw [Array.length_toList, size_madeCells, List.length_replicate], .inr ⟨w.heap.size, a.toNat, _, by rw [List.length_replicate], heap_alloc_new w _, by rw [List.length_replicate]; exact Nat.le_refl _, by simp only [maxLen]; omega, size_madeCells _ _, ?_⟩⟩, ?_⟩
        · rw [List.length_replicate, List.take_of_length_le]
          rw [Array.length_toList, size_madeCells]
          exact Nat.le_refl _
        · have := madeCells_rows (m := E.mem (σ.o.set d (.row (.slice (some ⟨w.heap.size, 0, none⟩) a.toNat a.toNat) (T t).elem (T (T t).elem).size (List.replicate a.toNat ((T (T t).elem).zero.map .lit)))) (w.alloc (.cells (madeCells z.cells (a.toNat * (T (T t).elem).size)) (T t).elem))) (z := z.cells) (by rw [k5]; exact k6) (by omega) a.toNat
          rw [k5, hzs] at this
          exact this
    · simp only [Has]; exact ⟨trivial, rfl⟩
  · exact Sound.no
end
end Go.Proofs.YtopigomfhggkoaaDoor.A
