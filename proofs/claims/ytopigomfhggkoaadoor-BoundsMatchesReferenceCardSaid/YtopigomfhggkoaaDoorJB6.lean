/- append, whose result becomes data: the row that was appended to keeps what there is behind it. -/
import Derived.Test.YtopigomfhggkoaaDoorJB5
set_option linter.unusedVariables false
set_option linter.unusedSimpArgs false
namespace Go.Proofs.YtopigomfhggkoaaDoor.A
open Go.RowKit
theorem DatL.same {m m' : Mem} : ∀ {ds : List Dat} {vs us : List Value}, ds.all litD = true → DatL m ds vs → DatL m' ds us → vs = us
  | [], [], [], _, _, _ => rfl
  | .lit v :: ds, x :: vs, y :: us, h, hr, hs => by
    simp only [List.all_cons, Bool.and_eq_true] at h
    have h1 := hr.1
    have h2 := hs.1
    simp only [Rep] at h1 h2
    rw [h1.1, h2.1, DatL.same h.2 hr.2 hs.2]
  | .sl _ _ :: _, _ :: _, _, h, _, _ => by simp [litD] at h
  | .ptr _ _ :: _, _ :: _, _, h, _, _ => by simp [litD] at h
  | .fn _ _ :: _, _ :: _, _, h, _, _ => by simp [litD] at h
  | .mp _ :: _, _ :: _, _, h, _, _ => by simp [litD] at h
  | [], _ :: _, _, _, h, _ => h.elim
  | [], [], _ :: _, _, _, h => h.elim
  | _ :: _, [], _, _, h, _ => h.elim
  | _ :: _, _ :: _, [], _, _, h => h.elim
theorem RowVals.same {m m' : Mem} {sz : Nat} : ∀ {rows : List (List Dat)} {xs ys : List Value}, flatRows rows → RowVals m sz rows xs → RowVals m' sz rows ys → xs = ys
  | [], xs, ys, _, h, k => by rw [show xs = [] from h, show ys = [] from k]
  | r :: rs, xs, ys, h, hr, hs => by
    have h1 := DatL.same (h r (List.mem_cons_self ..)) hr.2.1 hs.2.1
    have h2 := RowVals.same (fun x hx => h x (List.mem_cons_of_mem _ hx)) hr.2.2 hs.2.2
    rw [← List.take_append_drop sz xs, ← List.take_append_drop sz ys, h1, h2]
theorem RowVals.cut {m : Mem} {sz : Nat} : ∀ {a b : List (List Dat)} {xs : List Value}, RowVals m sz (a ++ b) xs → RowVals m sz a (xs.take (a.length * sz)) ∧ RowVals m sz b (xs.drop (a.length * sz))
  | [], b, xs, h => by simpa [RowVals] using h
  | r :: a, b, xs, h => by
    obtain ⟨h1, h2, h3⟩ := h
    have ih := RowVals.cut h3
    have e : (r :: a).length * sz = sz + a.length * sz := by rw [List.length_cons, Nat.add_mul]; omega
    rw [e]
    refine ⟨⟨h1, ?_, ?_⟩, ?_⟩
    · rw [List.take_take, Nat.min_eq_left (by omega)]; exact h2
    · rw [List.drop_take, Nat.add_sub_cancel_left]; exact ih.1
    · rw [← List.drop_drop]; exact ih.2
section
variable {E : Env} {o : Oper} {σ : St} {T : Tab}
theorem run_append_more (hT : TabOk E.P T) {t ty : Nat} {w : World} {v : Value} {n : Nat} {xs : List Value} (hc : (T t).known = true ∧ (T t).kind = 1 ∧ (T (T t).elem).known = true ∧ 0 < (T (T t).elem).size)
    (hown : w.ownsRow 0 (T t).elem (T (T t).elem).size v n xs) {m : Nat} {vx : Value} {mm : Mem} {rows : List (List Dat)} (hm : mm.heap = w.heap) (hr : rows.length = m)
    (hx : (vx = .slice none 0 0 ∧ rows = []) ∨ ∃ A c, vx = .slice A rows.length c ∧ ((rows = []) ∨ ∃ b off ys, A = some ⟨b, off, none⟩ ∧ RowVals mm (T (T t).elem).size rows ys ∧ ∀ i y, ys[i]? = some y → cellH mm.heap b (off + i) = some y))
    (hb : (n + m) * (T (T t).elem).bytes ≤ 140737488355328) (hl : n + m ≤ 9223372036854775807) :
    ∃ v' w' ys, (Builtin.append_ #[t, t] ty #[v, vx]).run E.P w = .ok v' w' ∧ RowVals mm (T (T t).elem).size rows ys ∧ w'.ownsRow 0 (T t).elem (T (T t).elem).size v' (n + m) (xs ++ ys) ∧ w.grownBy w' v.ownBlock ∧ (v'.ownBlock = v.ownBlock ∨ v'.ownBlock = some w.heap.size) ∧
      ∃ A c, v = .slice A n c ∧ ((n + m ≤ c ∧ v' = .slice A (n + m) c ∧ ∀ g cur, A = some ⟨g, 0, none⟩ → w.heap[g]? = some (.cells cur (T t).elem (0, 0)) →
          w'.heap[g]? = some (.cells (cur.toList.take (n * (T (T t).elem).size) ++ ys ++ cur.toList.drop (n * (T (T t).elem).size + ys.length)).toArray (T t).elem (0, 0)))
        ∨ (c < n + m ∧ v'.ownBlock = some w.heap.size ∧ ∀ k, k < w.heap.size → w'.heap[k]? = w.heap[k]?)) := by
  obtain ⟨h1, h2, h3, h4⟩ := hc
  have ht := ti_slice hT h1 h2
  obtain ⟨info, k1, k2, k3, z, k4, k5, k6, k7⟩ := ti hT h3
  have hzs : z.cells.size = (T (T t).elem).size := by rw [← k7, ← k5]; simp
  have hnil : rows = [] → ∀ A c, vx = .slice A 0 c → ∃ v' w' ys, (Builtin.append_ #[t, t] ty #[v, vx]).run E.P w = .ok v' w' ∧ RowVals mm (T (T t).elem).size rows ys ∧ w'.ownsRow 0 (T t).elem (T (T t).elem).size v' (n + m) (xs ++ ys) ∧ w.grownBy w' v.ownBlock ∧ (v'.ownBlock = v.ownBlock ∨ v'.ownBlock = some w.heap.size) ∧
      ∃ A c, v = .slice A n c ∧ ((n + m ≤ c ∧ v' = .slice A (n + m) c ∧ ∀ g cur, A = some ⟨g, 0, none⟩ → w.heap[g]? = some (.cells cur (T t).elem (0, 0)) →
          w'.heap[g]? = some (.cells (cur.toList.take (n * (T (T t).elem).size) ++ ys ++ cur.toList.drop (n * (T (T t).elem).size + ys.length)).toArray (T t).elem (0, 0)))
        ∨ (c < n + m ∧ v'.ownBlock = some w.heap.size ∧ ∀ k, k < w.heap.size → w'.heap[k]? = w.heap[k]?)) := by
    rintro rfl A c rfl
    have hm0 : m = 0 := by simpa using hr.symm
    subst hm0
    have hfc : ∀ sz, (Builtin.firstCells sz 0 (.slice A 0 c)).run E.P w = .ok #[] w := by
      intro sz
      cases A <;> simp [Builtin.firstCells, loadCells, loadCellsFrom]
    refine ⟨v, w, [], ?_, rfl, by simpa using hown, grownBy_refl _ _, .inl rfl, ?_⟩
    · rcases hown.2 with ⟨rfl, rfl⟩ | ⟨g, cap, cur, rfl, _, _, hnc, _⟩
      · simp [Builtin.append_, run_underlying ht, sizeOf, typeInfo, k1, Builtin.lenOf, hfc]
      · simp [Builtin.append_, run_underlying ht, sizeOf, typeInfo, k1, Builtin.lenOf, hfc, hnc, storeCells]
    · have hsame : ∀ (g : Nat) (cur : Array Value), w.heap[g]? = some (.cells cur (T t).elem (0, 0)) → w.heap[g]? = some (.cells (cur.toList.take (n * (T (T t).elem).size) ++ [] ++ cur.toList.drop (n * (T (T t).elem).size + ([] : List Value).length)).toArray (T t).elem (0, 0)) := fun g cur hg => by
        rw [hg]; simp
      rcases hown.2 with ⟨rfl, rfl⟩ | ⟨g, cap, cur, rfl, _, _, hnc, _⟩
      · exact ⟨none, 0, rfl, .inl ⟨Nat.le_refl _, rfl, fun g cur hg _ => by cases hg⟩⟩
      · exact ⟨_, cap, rfl, .inl ⟨hnc, rfl, fun g' cur' _ hg' => hsame g' cur' hg'⟩⟩
  rcases hx with ⟨rfl, rfl⟩ | ⟨A, c, rfl, hx⟩
  · exact hnil rfl none 0 rfl
  · rcases hx with rfl | ⟨b, off, ys, rfl, hrv, hcl⟩
    · exact hnil rfl A c rfl
    · subst hr
      by_cases hr0 : rows = []
      · exact hnil hr0 (some ⟨b, off, none⟩) c (by rw [hr0]; rfl)
      have hpos : 0 < rows.length := List.length_pos_iff.2 hr0
      have hcells : ∀ j u, ys[j]? = some u → w.cell? ((⟨b, off, none⟩ : Addr).add j) = some u := fun j u hu => by rw [Addr.add_lit, cellH_cell, ← hm]; exact hcl j u hu
      have hylen : ys.length = rows.length * info.size := by rw [hrv.length, k2]
      obtain ⟨v', w', r1, r2, r3, _, r5⟩ := run_append_own_at (P := E.P) w 0 t ty (T t).elem info z (T (T t).elem).size (T (T t).elem).bytes ht k1 k4 k2 k3 hzs h4 v n xs hown ⟨b, off, none⟩ rows.length c ys hrv.length
        hcells hrv.one (by simpa [maxLen] using hl) hb (Nat.zero_le _)
      refine ⟨v', w', ys, r1, hrv, r2, r3, r5, ?_⟩
      rcases hown.2 with ⟨rfl, rfl⟩ | ⟨g, cap, cur, rfl, _, hg, hnc, hcm, hcs, htake⟩
      · refine ⟨none, 0, rfl, .inr ⟨by omega, ?_, fun k hk => r3.block k hk (by simp [Value.ownBlock])⟩⟩
        rcases r5 with r5 | r5
        · exfalso
          rcases r2.2 with ⟨_, hh⟩ | ⟨g, cap, cur, hh, _⟩
          · omega
          · rw [hh] at r5; simp [Value.ownBlock] at r5
        · exact r5
      · refine ⟨_, cap, rfl, ?_⟩
        by_cases hroom : n + rows.length ≤ cap
        · have hfit : n * info.size + ys.length ≤ cur.size := by rw [hylen, hcs, ← Nat.add_mul, k2]; exact Nat.mul_le_mul_right _ hroom
          have hr' := run_append_room (P := E.P) w t ty (T t).elem info ht k1 g n cap cur hg ⟨b, off, none⟩ rows.length c ys hylen hcells hrv.one hroom hfit
          rw [r1] at hr'
          injection hr' with e1 e2
          subst e1; subst e2
          refine .inl ⟨hroom, rfl, fun g' cur' hg1 hg2 => ?_⟩
          injection hg1 with hg1
          injection hg1 with hg1
          subst hg1
          rw [hg] at hg2
          injection hg2 with hg2
          injection hg2 with hg2
          subst hg2
          rw [setRow_heap w g cur _ _ _ hg, k2]
        · have holds : ∀ j u, xs[j]? = some u → w.cell? ((⟨g, 0, none⟩ : Addr).add j) = some u := hown.cells (g := g) rfl
          have hr' := run_append_grow (P := E.P) w t ty (T t).elem info z ht k1 k4 ⟨g, 0, none⟩ n cap xs (by rw [hown.1, k2]) holds ⟨b, off, none⟩ rows.length c ys hylen hcells (by omega) (by omega) (growslice_fits (by omega) (by rw [k3]; exact hb))
          rw [r1] at hr'
          injection hr' with e1 e2
          subst e1; subst e2
          refine .inr ⟨by omega, rfl, fun k hk => heap_alloc_old w.drew _ hk⟩
def appendK (T : Tab) (n : Nat) (t : Nat) (s : AV) (os : AObj) (x : AV) (ox : AObj) : Res := match rowsA (T (T t).elem).size x ox with
  | some ys => match s, os with
    | .own d u, .row v e sz rows => ⟨appendOk T t rows.length ys.length ∧ rowsOk sz x ox ∧ u = v ∧ e = (T t).elem ∧ sz = (T (T t).elem).size ∧ d < n, fun _ _ => .d (.sl sz (rows ++ ys)), fun _ _ => [(d, .room u e sz rows ys)]⟩
    | _, _ => Rno
  | none => Rno
def roomR (T : Tab) (n : Nat) (t : Nat) (d : Nat) (u v : Value) (e sz : Nat) (rows ys : List (List Dat)) (x : AV) (ox : AObj) : Res := match rowsA (T (T t).elem).size x ox with
  | some zs => ⟨appendOk T t rows.length ys.length ∧ rowsOk sz x ox ∧ u = v ∧ zs = ys ∧ flatRows ys ∧ e = (T t).elem ∧ sz = (T (T t).elem).size ∧ d < n, fun _ _ => .d (.sl sz (rows ++ ys)), fun _ _ => []⟩
  | none => Rno
def appendH (T : Tab) (k : Bool) (n : Nat) (dst : Option Nat) (t : Nat) (s : AV) (os : AObj) (x : AV) (ox : AObj) : Res := match s, os with
  | .own d u, .room v e sz rows ys => roomR T n t d u v e sz rows ys x ox
  | _, _ => if k = true then appendK T n t s os x ox else appendR T n dst t s os x ox
theorem Sat.freed {a : Act} {w : World} (hs : Sat E σ a w) {d : Nat} {old new : AObj} (hid : σ.o[d]? = some old) (hn : new.blk = none) {w' : World} (hsz : w.heap.size ≤ w'.heap.size) {b : Nat} (hb : old.blk = some b) : (E.mem (σ.o.set d new) w').C b := by
  have hl : d < σ.o.length := (List.getElem?_eq_some_iff.1 hid).1
  have h2 := hs.own d _ b hid hb
  refine .inr ⟨h2.1, Nat.lt_of_lt_of_le h2.2 hsz, fun x hx e => ?_⟩
  obtain ⟨j, hj⟩ := List.mem_iff_getElem?.1 hx
  rw [List.getElem?_set] at hj
  by_cases hjt : d = j
  · rw [if_pos hjt, if_pos hl] at hj
    have := Option.some.inj hj
    rw [← this, hn] at e
    cases e
  · rw [if_neg hjt] at hj
    exact hjt (hs.inj d j _ x b hid hj hb e)
theorem Sat.fresh {a : Act} {w : World} (hs : Sat E σ a w) {d : Nat} {new : AObj} (hn : new.blk = none) {w' : World} (hsz : w.heap.size < w'.heap.size) : (E.mem (σ.o.set d new) w').C w.heap.size := by
  refine .inr ⟨.inl hs.fr.size, hsz, fun x hx e => ?_⟩
  obtain ⟨j, hj⟩ := List.mem_iff_getElem?.1 hx
  rw [List.getElem?_set] at hj
  split at hj
  · split at hj
    · have := Option.some.inj hj
      rw [← this, hn] at e
      cases e
    · cases hj
  · have := (hs.own j x _ hj e).2
    omega
theorem frz_rep' {m : Mem} {v : Value} {e : TypeId} {sz : Nat} {rows : List (List Dat)} {xs : List Value} (h1 : ownsH m.heap e sz v rows.length xs) (h2 : RowVals m sz rows xs) (hC : ∀ b, v.ownBlock = some b → m.C b) : Rep m (.sl sz rows) v :=
  frz_rep (MemLe.refl m) rfl hC ⟨xs, h1, h2⟩
theorem sound_appendK (hT : TabOk E.P T) {t : TypeId} {s x : Operand} (ho : o.op = .call { callee := .builtin .append, args := #[s, x], argTypes := #[t, t] }) (hs' : opOk s = true) (hx : opOk x = true)
    (os ox : AObj) (hOs : ∀ d, names (σ.eval s) d → os = objD σ.o d) (hOx : ∀ m, (∀ (i : Nat) y, σ.o[i]? = some y → ObjAt m y) → ObjAt m ox) : Sound E o σ (appendK T σ.o.length t (σ.eval s) os (σ.eval x) ox) := by
  unfold appendK
  split
  · rename_i ys hys
    split
    · rename_i d u v e sz rows es
      refine Sound.of ?_
      rintro ⟨⟨h1, h2, h3, h4, h5, h6⟩, hro, rfl, rfl, rfl, hd⟩ a w hs
      have hp := hs.eval s hs'
      have hob := hOs d (by rw [es]; rfl)
      rw [es] at hp
      simp only [Has] at hp
      have h0 := objAt_objD hs.o d
      rw [← hob] at h0
      obtain ⟨xs, hxs, hrv⟩ := h0
      have hown : w.ownsRow 0 (T t).elem (T (T t).elem).size u rows.length xs := ownsH_row.1 hxs
      obtain ⟨v', w', zs, r1, r2, r3, r4, r5, A, c, hu, r6⟩ := run_append_more hT (ty := o.type) (m := ys.length) (mm := E.mem σ.o w) ⟨h1, h2, h3, h4⟩ hown rfl rfl (rows_read hys hro (hs.eval x hx) (hOx _ hs.o)) h5 h6
      have hid := objD_get hd
      rw [← hob] at hid
      have hCu : ∀ b, u.ownBlock = some b → (E.mem (σ.o.set d (.room u (T t).elem (T (T t).elem).size rows ys)) w').C b := fun b hb => hs.freed hid rfl r4.size hb
      have hCv : ∀ b, v'.ownBlock = some b → (E.mem (σ.o.set d (.room u (T t).elem (T (T t).elem).size rows ys)) w').C b := fun b hb => by
        rcases r5 with r5 | r5
        · exact hCu b (by rw [← r5]; exact hb)
        · rw [r5] at hb
          cases hb
          exact hs.fresh rfl (r3.lt _ r5).2
      have hle := hs.turn_le (new := .room u (T t).elem (T (T t).elem).size rows ys) (rb := u.ownBlock) hid r4 (fun b hb => hb) (fun b hb => by cases hb)
      have hrv' := (hrv.append r2).mono hle
      have hov : ownsH w'.heap (T t).elem (T (T t).elem).size v' (rows.length + ys.length) (xs ++ zs) := ownsH_row.2 r3
      refine ⟨0, v', v', w', run_call_append ho hp.1 rfl r1, hs.turn hid (rb := u.ownBlock) r4 (fun b hb => hb) (fun b hb => by cases hb) fun _ => ⟨A, c, hu, hCu, ?_⟩, ?_⟩
      · rcases r6 with ⟨q1, q2, _⟩ | ⟨q1, _, q2⟩
        · subst q2
          exact .inl ⟨q1, _, hov, hrv'⟩
        · refine .inr ⟨q1, xs, ⟨hxs.1, hxs.2.imp (fun h => h) ?_⟩, hrv.mono hle⟩
          rintro ⟨g, cap, cur, rfl, hg, rest⟩
          exact ⟨g, cap, cur, rfl, (q2 g (hs.own d _ g hid rfl).2).trans hg, rest⟩
      · simp only [Has]
        exact frz_rep' (by rw [List.length_append]; exact hov) hrv' hCv
    · exact Sound.no
  · exact Sound.no
theorem sound_room (hT : TabOk E.P T) {t : TypeId} {s x : Operand} (ho : o.op = .call { callee := .builtin .append, args := #[s, x], argTypes := #[t, t] }) (hs' : opOk s = true) (hx : opOk x = true)
    (ox : AObj) (hOx : ∀ m, (∀ (i : Nat) y, σ.o[i]? = some y → ObjAt m y) → ObjAt m ox) {d : Nat} {u v : Value} {e sz : Nat} {rows ys : List (List Dat)} (es : σ.eval s = .own d u) (hob : objD σ.o d = .room v e sz rows ys) : Sound E o σ (roomR T σ.o.length t d u v e sz rows ys (σ.eval x) ox) := by
  unfold roomR
  split
  · rename_i zs hzs
    refine Sound.of ?_
    rintro ⟨⟨h1, h2, h3, h4, h5, h6⟩, hro, rfl, rfl, hfl, rfl, rfl, hd⟩ a w hs
    have hp := hs.eval s hs'
    rw [es] at hp
    simp only [Has] at hp
    have hid := objD_get hd
    have h0 := objAt_objD hs.o d
    rw [hob] at h0
    obtain ⟨A, c, rfl, hC, h0⟩ := h0
    have hrd := rows_read hzs hro (hs.eval x hx) (hOx _ hs.o)
    have hfin : ∀ (w' : World) (v' : Value) (xs : List Value), w.grownBy w' none → ownsH w'.heap (T t).elem (T (T t).elem).size v' (rows.length + zs.length) xs → RowVals (E.mem σ.o w) (T (T t).elem).size (rows ++ zs) xs →
        (∀ b, v'.ownBlock = some b → b < w.heap.size → (E.mem σ.o w).C b) → (∀ b, v'.ownBlock = some b → ¬ b < w.heap.size → b = w.heap.size ∧ b < w'.heap.size) →
        Sat E ⟨σ.t, σ.o⟩ a w' ∧ Has (E.mem σ.o w') (.d (.sl (T (T t).elem).size (rows ++ zs))) v' := by
      intro w' v' xs hg ho' hrv hC1 hC2
      have e0 : σ.o.set d (objD σ.o d) = σ.o := by
        apply List.ext_getElem?
        intro i
        rw [List.getElem?_set]
        split
        · rename_i hi; subst hi; first | exact hid.symm | rw [if_pos hd, hid]
        · rfl
      have hle := hs.turn_le (new := objD σ.o d) (rb := none) hid hg (by simp) (fun b hb => by rw [hob] at hb; cases hb)
      have hsat := hs.turn (new := objD σ.o d) (rb := none) hid hg (by simp) (fun b hb => by rw [hob] at hb; cases hb) (fun hle => ObjAt.mono hle (fun b hb => by rw [hob] at hb; cases hb) (objAt_objD hs.o d))
      rw [e0] at hle hsat
      refine ⟨hsat, ?_⟩
      simp only [Has]
      refine frz_rep' (by rw [List.length_append]; exact ho') (hrv.mono hle) fun b hb => ?_
      by_cases hlt : b < w.heap.size
      · exact hle.C b (hC1 b hb hlt)
      · obtain ⟨rfl, h7⟩ := hC2 b hb hlt
        refine .inr ⟨.inl hs.fr.size, h7, fun y hy e => ?_⟩
        obtain ⟨j, hj⟩ := List.mem_iff_getElem?.1 hy
        exact absurd (hs.own j y _ hj e).2 (Nat.lt_irrefl _)
    rcases h0 with ⟨q1, xs, q2, q3⟩ | ⟨q1, xs, q2, q3⟩
    · have hcut := q3.cut
      have hpre : w.ownsRow 0 (T t).elem (T (T t).elem).size (.slice A rows.length c) rows.length (xs.take (rows.length * (T (T t).elem).size)) := by
        refine ⟨by rw [List.length_take, q2.1]; exact Nat.min_eq_left (Nat.mul_le_mul_right _ (by omega)), ?_⟩
        rcases q2.2 with ⟨h7, h8⟩ | ⟨g, cap, cur, h7, hg, h8, h9, h10, h11⟩
        · injection h7 with e1 e2 e3
          subst e1; subst e3
          exact .inl ⟨by rw [show rows.length = 0 by omega], by omega⟩
        · injection h7 with e1 e2 e3
          subst e1; subst e3
          exact .inr ⟨g, c, cur, rfl, Nat.zero_le _, hg, by omega, h9, h10, by rw [← h11, List.take_take, Nat.min_eq_left (Nat.mul_le_mul_right _ (by omega))]⟩
      obtain ⟨v', w', us, r1, r2, r3, r4, r5, A', c', hu, r6⟩ := run_append_more hT (ty := o.type) (m := zs.length) (mm := E.mem σ.o w) ⟨h1, h2, h3, h4⟩ hpre rfl rfl hrd h5 h6
      injection hu with e1 _ e3
      subst e1; subst e3
      rcases r6 with ⟨p1, p2, p3⟩ | ⟨p1, _⟩
      · subst p2
        have hus : us = xs.drop (rows.length * (T (T t).elem).size) := RowVals.same hfl r2 hcut.2
        have hw : ∀ k, k < w.heap.size → w'.heap[k]? = w.heap[k]? := by
          intro k hk
          by_cases hkb : Value.ownBlock (.slice A rows.length c) = some k
          · rcases q2.2 with ⟨h7, h8⟩ | ⟨g, cap, cur, h7, hg, h8, h9, h10, h11⟩
            · injection h7 with e1 _ _
              subst e1
              simp [Value.ownBlock] at hkb
            · injection h7 with e1 e2 e3
              subst e1; subst e3
              simp only [Value.ownBlock, Option.some.injEq] at hkb
              subst hkb
              rw [p3 g cur rfl hg]
              have hgc : w.heap[g]? = some (.cells cur (T t).elem (0, 0)) := hg
              rw [hgc]
              congr 2
              apply Array.ext'
              rw [List.toList_toArray]
              have hl1 : (rows.length + zs.length) * (T (T t).elem).size = rows.length * (T (T t).elem).size + zs.length * (T (T t).elem).size := Nat.add_mul ..
              have hl2 : us.length = zs.length * (T (T t).elem).size := r2.length
              have e5 : cur.toList.take (rows.length * (T (T t).elem).size) ++ us = cur.toList.take ((rows.length + zs.length) * (T (T t).elem).size) := by
                rw [hus, ← h11, List.drop_take, hl1, Nat.add_sub_cancel_left, List.take_add]
              rw [e5, hl2, ← hl1, List.take_append_drop]
          · exact r4.block k hk fun e => hkb e.symm
        obtain ⟨k1, k2⟩ := hfin w' (.slice A (rows.length + zs.length) c) xs ⟨r4.os, r4.tape, r4.output, r4.size, fun k hk _ => hw k hk⟩ (by
          refine ⟨q2.1, q2.2.imp (fun h => h) ?_⟩
          rintro ⟨g, cap, cur, h7, hg, rest⟩
          have hgl : g < w.heap.size := by
            have hgc : w.heap[g]? = some (.cells cur (T t).elem (0, 0)) := hg
            exact (Array.getElem?_eq_some_iff.1 hgc).1
          exact ⟨g, cap, cur, h7, (hw g hgl).trans hg, rest⟩) q3 (fun b hb hlt => hC b (by cases A with | none => simp [Value.ownBlock] at hb | some a => simpa [Value.ownBlock] using hb)) (fun b hb hlt => absurd (hs.lt_C (hC b (by cases A with | none => simp [Value.ownBlock] at hb | some a => simpa [Value.ownBlock] using hb))) hlt)
        exact ⟨0, .nilFunc, _, w', run_call_append ho hp.1 rfl r1, k1, k2⟩
      · omega
    · have hpre : w.ownsRow 0 (T t).elem (T (T t).elem).size (.slice A rows.length c) rows.length xs := ownsH_row.1 q2
      obtain ⟨v', w', us, r1, r2, r3, r4, r5, A', c', hu, r6⟩ := run_append_more hT (ty := o.type) (m := zs.length) (mm := E.mem σ.o w) ⟨h1, h2, h3, h4⟩ hpre rfl rfl hrd h5 h6
      injection hu with e1 _ e3
      subst e1; subst e3
      rcases r6 with ⟨p1, _⟩ | ⟨_, p2, p3⟩
      · omega
      · obtain ⟨k1, k2⟩ := hfin w' v' (xs ++ us) ⟨r4.os, r4.tape, r4.output, r4.size, fun k hk _ => p3 k hk⟩ (ownsH_row.2 r3) (q3.append r2) (fun b hb hlt => by rw [p2] at hb; cases hb; exact absurd hlt (Nat.lt_irrefl _)) (fun b hb hlt => by
          have := (r3.lt b hb).2
          rw [p2] at hb; cases hb; exact ⟨rfl, this⟩)
        exact ⟨0, .nilFunc, v', w', run_call_append ho hp.1 rfl r1, k1, k2⟩
  · exact Sound.no
theorem sound_appendH (hT : TabOk E.P T) (k : Bool) {t : TypeId} {s x : Operand} (ho : o.op = .call { callee := .builtin .append, args := #[s, x], argTypes := #[t, t] }) (hs' : opOk s = true) (hx : opOk x = true)
    (os ox : AObj) (hOs : ∀ d, names (σ.eval s) d → os = objD σ.o d) (hOx : ∀ m, (∀ (i : Nat) y, σ.o[i]? = some y → ObjAt m y) → ObjAt m ox) : Sound E o σ (appendH T k σ.o.length o.dst t (σ.eval s) os (σ.eval x) ox) := by
  unfold appendH
  split
  · rename_i d u v e sz rows ys es
    exact sound_room hT ho hs' hx ox hOx es (hOs d (by rw [es]; rfl)).symm
  · split
    · exact sound_appendK hT ho hs' hx _ ox hOs hOx
    · exact sound_append hT ho hs' hx _ ox hOs hOx
end
end Go.Proofs.YtopigomfhggkoaaDoor.A
