/- Wider bounds of columns, parts of conditions: the plain law. BoundsMonotone: the law. The package's variables, of what the rows tell of them. (Written by mk28.py.) The rows' condition gives the walks' one; a world that meets it. Data of the arguments' types. BoundsMonotone, for whatever reads as its arguments. -/
import Derived.Test.YtopigomfhggkoaaDoorXY4
import Derived.Test.YtopigomfhggkoaaDoorXT
import Derived.Test.YtopigomfhggkoaaDoorXM1
import Derived.Test.YtopigomfhggkoaaDoorRows
import Derived.LaidSub
import Derived.LaidHandle
import Derived.LaidLaws
import Derived.Test.YtopigomfhggkoaaDoorXR2
namespace Go.Proofs.YtopigomfhggkoaaDoor.A
section
set_option linter.unusedVariables false
set_option linter.unusedSimpArgs false
open Go.RowKit
theorem typ_okC {ts : List Ty} {k : Int} {e : Ex} (h : Typ ts k e) : okC e := by
  induction h with
  | con _ _ _ => show (1 : Int) ≠ 6; decide
  | col c _ => show (2 : Int) ≠ 6; decide
  | not _ _ => show (8 : Int) ≠ 6; decide
  | isn _ _ => show (9 : Int) ≠ 6; decide
  | cmp hop _ _ ih1 ih2 => exact fun h => by omega
  | log hop _ _ ih1 ih2 => exact fun _ => ⟨ih1, ih2⟩
  | num hop _ _ ih1 ih2 => exact fun h => by omega
  | pre _ _ ih1 ih2 => exact fun h => by omega
theorem conj_len : ∀ e : Ex, (conj e).length ≤ sizeE e
  | .leaf _ _ _ => Nat.le_refl _
  | .un _ a => by simp only [conj, sizeE, List.length_cons, List.length_nil]; omega
  | .bi op a b => by
    have h1 := conj_len a
    have h2 := conj_len b
    unfold conj
    split
    · rw [List.length_append]; simp only [sizeE]; omega
    · simp only [sizeE, List.length_cons, List.length_nil]; omega
theorem typ_and {ts : List Ty} {k : Int} {e : Ex} (h : Typ ts k e) : ∀ a b : Ex, e = .bi 6 a b → Typ ts 1 a ∧ Typ ts 1 b := by
  cases h with
  | con _ _ _ => intro a b e; cases e
  | col c _ => intro a b e; cases e
  | not _ => intro a b e; cases e
  | isn _ => intro a b e; cases e
  | cmp hop _ _ => intro a b e; cases e; omega
  | log hop h1 h2 => intro a b e; cases e; exact ⟨h1, h2⟩
  | num hop _ _ => intro a b e; cases e; omega
  | pre _ _ => intro a b e; cases e
theorem typ_conj {ts : List Ty} : ∀ (e : Ex), Typ ts 1 e → ∀ p ∈ conj e, Typ ts 1 p
  | .leaf op c v, h, p, hp => by
    rw [show conj (.leaf op c v) = [.leaf op c v] from rfl, List.mem_singleton] at hp
    rw [hp]; exact h
  | .un op a, h, p, hp => by
    rw [show conj (.un op a) = [.un op a] from rfl, List.mem_singleton] at hp
    rw [hp]; exact h
  | .bi op a b, h, p, hp => by
    unfold conj at hp
    split at hp
    · rename_i h6
      have hab : Typ ts 1 a ∧ Typ ts 1 b := typ_and h a b (by rw [h6])
      rcases List.mem_append.1 hp with hp | hp
      · exact typ_conj a hab.1 p hp
      · exact typ_conj b hab.2 p hp
    · rw [List.mem_singleton] at hp
      rw [hp]; exact h
theorem never_mono {F G : Ex → Sp} : ∀ {l : List Ex}, (∀ p ∈ l, yesM (G p) = true → yesM (F p) = true) → neverM F l = true → neverM G l = true
  | [], _, h => h
  | e :: l, hl, h => by
    unfold neverM at h ⊢
    by_cases hy : yesM (G e) = true
    · rw [if_pos hy]
      rw [if_pos (hl e (List.mem_cons_self ..) hy)] at h
      exact never_mono (fun p hp => hl p (List.mem_cons_of_mem _ hp)) h
    · rw [if_neg hy]
/-- Rows of types. -/
def RowsOk (ts : List Ty) (rows : List (List Vl)) : Prop := rows.length ≤ 1000 ∧ ∀ r ∈ rows, r.length = ts.length ∧ ∀ i, i < ts.length → Drawn (ts.getD i dTy) (r.getD i dV)
theorem RowsOk.take {ts : List Ty} {rows : List (List Vl)} (h : RowsOk ts rows) (n : Nat) : RowsOk ts (rows.take n) :=
  ⟨by rw [List.length_take]; have := h.1; omega, fun r hr => h.2 r (List.mem_of_mem_take hr)⟩
theorem getD_at {α : Type} {l : List α} {d v : α} (h : v ∈ l) : ∃ i, i < l.length ∧ l.getD i d = v := by
  obtain ⟨i, hi, rfl⟩ := List.getElem_of_mem h
  exact ⟨i, hi, by simp [List.getD_eq_getElem?_getD, hi]⟩
theorem RowsOk.vals {ts : List Ty} {rows : List (List Vl)} (h : RowsOk ts rows) : ∀ r ∈ rows, r.length = ts.length ∧ ∀ v ∈ r, VlOk v := by
  intro r hr
  have hh := h.2 r hr
  refine ⟨hh.1, fun v hv => ?_⟩
  obtain ⟨i, hi, rfl⟩ := getD_at (d := dV) hv
  have := hh.2 i (by omega)
  exact wide_ok this.wide this.num
theorem rowM_ok {ts : List Ty} (hts : ∀ t ∈ ts, TyOk t) {b : List Int} (hb : ∀ x ∈ b, 0 ≤ x ∧ x < 256) : (rowM ts b).length = ts.length ∧ ∀ i, i < ts.length → Drawn (ts.getD i dTy) ((rowM ts b).getD i dV) := by
  refine ⟨rowM_len ts b, fun i hi => ?_⟩
  have e : (rowM ts b).getD i dV = cellM ts b i := by
    unfold rowM
    simp [List.getD_eq_getElem?_getD, hi]
  rw [e]
  exact drawn (hts _ (mem_at ts dTy hi)) (byte_mem hb _)
theorem rowsM_ok {ts : List Ty} (hts : ∀ t ∈ ts, TyOk t) {bs : List (List Int)} (hb : ∀ b ∈ bs, ∀ x ∈ b, 0 ≤ x ∧ x < 256) : RowsOk ts (rowsM ts bs) ∧ (rowsM ts bs).length ≤ 12 := by
  have hl : (rowsM ts bs).length ≤ 12 := by unfold rowsM; rw [List.length_map, List.length_take]; omega
  refine ⟨⟨by omega, fun r hr => ?_⟩, hl⟩
  simp only [rowsM, List.mem_map] at hr
  obtain ⟨b, hb', rfl⟩ := hr
  exact rowM_ok hts (hb b (List.mem_of_mem_take hb'))
theorem col_gd {ts : List Ty} {rows : List (List Vl)} (h : RowsOk ts rows) {i : Nat} (hi : i < ts.length) : Gd (ts.getD i dTy).k (colM rows i) := by
  have hd : ∀ v ∈ colM rows i, Drawn (ts.getD i dTy) v := by
    intro v hv
    simp only [colM, List.mem_map] at hv
    obtain ⟨r, hr, rfl⟩ := hv
    exact (h.2 r hr).2 i hi
  exact ⟨fun v hv => (hd v hv).wide, fun v hv => (hd v hv).kind, fun v hv => (hd v hv).num⟩
theorem col_len (rows : List (List Vl)) (i : Nat) : (colM rows i).length = rows.length := by simp [colM]
theorem columns_at {n : Nat} {rows : List (List Vl)} {i : Nat} (h : i < n) : (columnsM n rows).getD i zeroBd = (ofM (colM rows i)).1 := by
  simp [columnsM, List.getD_eq_getElem?_getD, h]
theorem col_is {ts : List Ty} {rows : List (List Vl)} (h : RowsOk ts rows) {i : Nat} (hi : i < ts.length) : IsS (colM rows i) ((columnsM ts.length rows).getD i zeroBd) ∧ (ofM (colM rows i)).2 = 0 := by
  obtain ⟨c, h1, h2⟩ := ofM_is (col_gd h hi) (by rw [col_len]; exact h.1)
  rw [columns_at hi, h1]
  exact ⟨h2, rfl⟩
theorem kv_of {k : Int} {l : List Vl} (hg : Gd k l) (hk : k = 1 ∨ k = 2 ∨ k = 3) {v : Vl} (hv : v ∈ nn l) : KV k v := by
  have hm := mem_nn.1 hv
  have h1 := hg.kind v hm.1 hm.2
  have h2 := hg.num v hm.1
  have := KV.ofWide (hg.wide v hm.1) (by omega) (by rw [h1]; exact hk)
  rwa [h1] at this
theorem is_ks {k : Int} {l : List Vl} {b : Bd} (h : IsS l b) (hg : Gd k l) (hk : k = 1 ∨ k = 2 ∨ k = 3) : KS k (colS b) := by
  refine ⟨fun hh => ?_, fun hh => h.no hh⟩
  have h1 := h.lo hh
  have h2 := h.hi hh
  exact ⟨kv_of hg hk h1.1, kv_of hg hk h2.1, h1.2 _ h2.1⟩
theorem columns_ok {ts : List Ty} (hts : ∀ t ∈ ts, TyOk t) {rows : List (List Vl)} (h : RowsOk ts rows) : BdsOk ts (columnsM ts.length rows) :=
  ⟨by rw [columnsM_len]; exact Nat.le_refl _, fun i hi => is_ks (col_is h hi).1 (col_gd h hi) (hts _ (mem_at ts dTy hi)).k⟩
theorem columns_bd {ts : List Ty} {rows : List (List Vl)} (h : RowsOk ts rows) : ∀ b ∈ columnsM ts.length rows, BdOk b := by
  intro b hb
  obtain ⟨i, hi, rfl⟩ := getD_at (d := zeroBd) hb
  rw [columnsM_len] at hi
  exact (col_is h hi).1.ok (col_gd h hi) (by rw [col_len]; exact h.1)
theorem col_sub {ts : List Ty} {rows : List (List Vl)} (h : RowsOk ts rows) (n : Nat) {i : Nat} (hi : i < ts.length) : SubS (colS ((columnsM ts.length (rows.take n)).getD i zeroBd)) (colS ((columnsM ts.length rows).getD i zeroBd)) := by
  have h1 := (col_is h hi).1
  have h2 := (col_is (h.take n) hi).1
  have e : colM rows i = colM (rows.take n) i ++ colM (rows.drop n) i := by
    unfold colM
    rw [← List.map_append, List.take_append_drop]
  generalize (columnsM ts.length (rows.take n)).getD i zeroBd = c at *
  generalize (columnsM ts.length rows).getD i zeroBd = b at *
  have hs : ∀ w ∈ nn (colM (rows.take n) i), w ∈ nn (colM rows i) := by
    intro w hw
    rw [e, nn_append]
    exact List.mem_append_left _ hw
  have hn : nullsN (colM (rows.take n) i) ≤ nullsN (colM rows i) := by rw [e, nullsN_append]; omega
  refine ⟨fun hh => ?_, fun hh => ?_⟩
  · simp only [colS, decide_eq_true_eq] at hh ⊢
    have q1 := h1.nulls
    have q2 := h2.nulls
    omega
  · have hc : c.has = true := hh
    have l2 := h2.lo hc
    have r2 := h2.hi hc
    have hb : b.has = true := h1.has.2 (List.ne_nil_of_mem (hs _ l2.1))
    exact ⟨hb, (h1.lo hb).2 _ (hs _ l2.1), (h1.hi hb).2 _ (hs _ r2.1)⟩
end
section
set_option linter.unusedVariables false
set_option linter.unusedSimpArgs false
open Go.RowKit
attribute [local irreducible] Spec SpecF SpecN
attribute [local irreducible] AWp evOps evD
set_option maxHeartbeats 16000000 in
set_option maxRecDepth 100000 in
theorem f6_spec (b0 b1 : List Int) (bs : List (List Int)) (n : Int) (hn : 0 ≤ n ∧ n < 256) (hb0 : ∀ x ∈ b0, 0 ≤ x ∧ x < 256) (hb1 : ∀ x ∈ b1, 0 ≤ x ∧ x < 256) (hbs : ∀ b ∈ bs, ∀ x ∈ b, 0 ≤ x ∧ x < 256) : Spec Tryd.prog 6 [.agg [.d (bytesD b0), .d (bytesD b1)], .d (lists bs), litI .u8 n] (litB true) := by
  have h7 := f7_spec
  have h8 := f8_spec b0 hb0
  have hts := typesM_ok b0
  have hl : (typesM b0).length ≤ 6 := by rw [typesM_len]; omega
  generalize typesM b0 = ts at *
  obtain ⟨e, he, hsz, h9⟩ := made hl hb1
  have h10 := f10_spec ts hts hl bs hbs
  obtain ⟨ro, rl⟩ := rowsM_ok hts hbs
  generalize rowsM ts bs = R at *
  have m1 := Int.tmod_nonneg (a := n) ((R.length : Int) + 1) hn.1
  have m2 := Int.tmod_lt_of_pos n (b := (R.length : Int) + 1) (by omega)
  obtain ⟨m, hm⟩ : ∃ m : Nat, n.tmod ((R.length : Int) + 1) = m := ⟨(n.tmod ((R.length : Int) + 1)).toNat, by omega⟩
  have w1 : IntKind.i64.wrap n = n := wrap_id (by omega)
  have w2 : IntKind.i64.wrap ((R.length : Int) + 1) = (R.length : Int) + 1 := wrap_id (by omega)
  have hz : ¬ (R.length : Int) + 1 = 0 := by omega
  have po := ro.take m
  have c1 := f11_spec ts hl R ro.1 ro.vals
  have c2 := f11_spec ts hl (R.take m) po.1 po.vals
  have o1 := columns_ok hts ro
  have o2 := columns_ok hts po
  have hsub := fun i hi => col_sub ro m (i := i) hi
  have s1 := f20_spec ts hts hl (columnsM ts.length R) (columnsM_len _ _) (columns_bd ro) e he (by omega)
  have s2 := f20_spec ts hts hl (columnsM ts.length (R.take m)) (columnsM_len _ _) (columns_bd po) e he (by omega)
  generalize columnsM ts.length R = B at *
  generalize columnsM ts.length (R.take m) = C at *
  have q1 := f21_spec (bds B) e _ (range_spec o1 he)
  have q2 := f21_spec (bds C) e _ (range_spec o2 he)
  have hc := conj_len e
  have h49 := f49_spec e (typ_okC he) (by omega)
  have n1 := f23_spec (bds B) e (conj e) (rangeM B) (fun p hp => range_spec o1 (typ_conj e he p hp)) h49 (by omega)
  have n2 := f23_spec (bds C) e (conj e) (rangeM C) (fun p hp => range_spec o2 (typ_conj e he p hp)) h49 (by omega)
  have hN : neverM (rangeM B) (conj e) = true → neverM (rangeM C) (conj e) = true :=
    never_mono fun p hp hy => (range_mono o1 o2 hsub (typ_conj e he p hp)).yes (range_ks o1 (typ_conj e he p hp)) hy
  have hS := range_mono o1 o2 hsub he
  have hK := range_ks o1 he
  have t0 : noM (rangeM C e) = true → noM (rangeM B e) = true := hS.no hK
  have t1 : yesM (rangeM C e) = true → yesM (rangeM B e) = true := hS.yes hK
  have t2 : (rangeM C e).null = true → (rangeM B e).null = true := hS.null
  unfold truthsM at q1 q2
  generalize noM (rangeM B e) = x0 at *
  generalize yesM (rangeM B e) = x1 at *
  generalize (rangeM B e).null = x2 at *
  generalize noM (rangeM C e) = y0 at *
  generalize yesM (rangeM C e) = y1 at *
  generalize (rangeM C e).null = y2 at *
  generalize neverM (rangeM B) (conj e) = nB at *
  generalize neverM (rangeM C) (conj e) = nC at *
  generalize suitsM ts B (List.range ts.length) = sB at *
  generalize suitsM ts C (List.range ts.length) = sC at *
  have hP : (R.map fun r => [vls r]).take m = (R.take m).map (fun r => [vls r]) := List.map_take.symm
  generalize hRm : R.take m = P at *
  have hmR : m ≤ R.length := by omega
  clear hS hK hsub o1 o2 po ro he h49 hc
  simp only [exA] at h9 s1 s2 q1 q2 n1 n2
  have hfl : (flat (AV.d (argsD e)) && false) = false := Bool.and_false _
  cases sB with
  | false =>
    refine spec_of_awp (fn := Tryd.f6) Tryd.func6 (by kernel_rfl) rfl ?_
    intro w0 C0
    simp only [Tryd.ntmps6, litI, litB, litS, List.length_cons, List.length_nil, Nat.reduceAdd, Nat.reduceSub, List.replicate_succ, List.replicate_zero, List.cons_append, List.nil_append]
    repeat' first
      | refine awp_seq ?_
      | refine awp_block ?_
      | refine awp_skip ?_
      | (refine reg _ (by (simp only [List.map_cons, List.map_nil]; rfl)) rfl ?_; intro K hK)
      | (apply ev_guardU; (case hj | hu | hσ => (simp only [go_sem, w1, w2, hz, hm, hfl, hP, hRm, Int.reduceToNat, Bool.and_false, ite_self]; try rfl)))
      | ((first | refine awp_cond _ (by rfl) ?_ ?_ | refine ev_guardT _ _ (by (simp only [go_sem, w1, w2, hz, hm, hfl, hP, hRm, Int.reduceToNat, Bool.and_false, ite_self]; rfl)) (by (simp only [go_sem, w1, w2, hz, hm, hfl, hP, hRm, Int.reduceToNat, Bool.and_false, ite_self]; rfl)) ?_ ?_ | refine ev_guardF _ _ (by (simp only [go_sem, w1, w2, hz, hm, hfl, hP, hRm, Int.reduceToNat, Bool.and_false, ite_self]; rfl)) (by (simp only [go_sem, w1, w2, hz, hm, hfl, hP, hRm, Int.reduceToNat, Bool.and_false, ite_self]; rfl)) ?_ ?_) <;> (intro hb; first | (cases hb; done) | (have ht : true = true := hb; clear ht hb) | (have ht : false = false := hb; clear ht hb) | (simp only [hb]) | skip))
      | (refine awp_exit ?_; simp only [thenA, blockA, scopeA, reduceIte, RetQ, Nat.reduceEqDiff])
      | (refine awp_ret ?_; simp only [thenA, blockA, scopeA, RetQ])
      | (refine ev_nil (hK _ ?_); clear hK K)
      | (apply ev_call0; (case hys => (simp only [go_sem, w1, w2, hz, hm, hfl, hP, hRm, Int.reduceToNat, Bool.and_false, ite_self]; try rfl)); (case hs => first | exact h7 .. | exact h8 .. | exact h9 .. | exact h10 .. | exact c1 .. | exact c2 .. | exact s1 ..); (case hok | hσ => (simp only [go_sem, w1, w2, hz, hm, hfl, hP, hRm, Int.reduceToNat, Bool.and_false, ite_self]; try rfl)))
      | (apply ev_step0; (case hr | hσ => (simp only [go_sem, w1, w2, hz, hm, hfl, hP, hRm, Int.reduceToNat, Bool.and_false, ite_self]; try rfl)); (case hc => exact hcA))
      | (apply ev_step; (case hr => (simp only [go_sem, w1, w2, hz, hm, hfl, hP, hRm, Int.reduceToNat, Bool.and_false, ite_self]; try rfl)); (case hσ => (intro g u; simp only [go_sem, w1, w2, hz, hm, hfl, hP, hRm, Int.reduceToNat, Bool.and_false, ite_self]; try rfl)); (case hc => exact hcA); intro g u; (try clear u); (try clear g))
      | fail
    all_goals (refine resR_oneA ?_; simp only [go_sem])
    exact LeA.refl _
  | true =>
  cases sC with
  | false =>
    refine spec_of_awp (fn := Tryd.f6) Tryd.func6 (by kernel_rfl) rfl ?_
    intro w0 C0
    simp only [Tryd.ntmps6, litI, litB, litS, List.length_cons, List.length_nil, Nat.reduceAdd, Nat.reduceSub, List.replicate_succ, List.replicate_zero, List.cons_append, List.nil_append]
    repeat' first
      | refine awp_seq ?_
      | refine awp_block ?_
      | refine awp_skip ?_
      | (refine reg _ (by (simp only [List.map_cons, List.map_nil]; rfl)) rfl ?_; intro K hK)
      | (apply ev_guardU; (case hj | hu | hσ => (simp only [go_sem, w1, w2, hz, hm, hfl, hP, hRm, Int.reduceToNat, Bool.and_false, ite_self]; try rfl)))
      | ((first | refine awp_cond _ (by rfl) ?_ ?_ | refine ev_guardT _ _ (by (simp only [go_sem, w1, w2, hz, hm, hfl, hP, hRm, Int.reduceToNat, Bool.and_false, ite_self]; rfl)) (by (simp only [go_sem, w1, w2, hz, hm, hfl, hP, hRm, Int.reduceToNat, Bool.and_false, ite_self]; rfl)) ?_ ?_ | refine ev_guardF _ _ (by (simp only [go_sem, w1, w2, hz, hm, hfl, hP, hRm, Int.reduceToNat, Bool.and_false, ite_self]; rfl)) (by (simp only [go_sem, w1, w2, hz, hm, hfl, hP, hRm, Int.reduceToNat, Bool.and_false, ite_self]; rfl)) ?_ ?_) <;> (intro hb; first | (cases hb; done) | (have ht : true = true := hb; clear ht hb) | (have ht : false = false := hb; clear ht hb) | (simp only [hb]) | skip))
      | (refine awp_exit ?_; simp only [thenA, blockA, scopeA, reduceIte, RetQ, Nat.reduceEqDiff])
      | (refine awp_ret ?_; simp only [thenA, blockA, scopeA, RetQ])
      | (refine ev_nil (hK _ ?_); clear hK K)
      | (apply ev_call0; (case hys => (simp only [go_sem, w1, w2, hz, hm, hfl, hP, hRm, Int.reduceToNat, Bool.and_false, ite_self]; try rfl)); (case hs => first | exact h7 .. | exact h8 .. | exact h9 .. | exact h10 .. | exact c1 .. | exact c2 .. | exact s1 .. | exact s2 ..); (case hok | hσ => (simp only [go_sem, w1, w2, hz, hm, hfl, hP, hRm, Int.reduceToNat, Bool.and_false, ite_self]; try rfl)))
      | (apply ev_step0; (case hr | hσ => (simp only [go_sem, w1, w2, hz, hm, hfl, hP, hRm, Int.reduceToNat, Bool.and_false, ite_self]; try rfl)); (case hc => exact hcA))
      | (apply ev_step; (case hr => (simp only [go_sem, w1, w2, hz, hm, hfl, hP, hRm, Int.reduceToNat, Bool.and_false, ite_self]; try rfl)); (case hσ => (intro g u; simp only [go_sem, w1, w2, hz, hm, hfl, hP, hRm, Int.reduceToNat, Bool.and_false, ite_self]; try rfl)); (case hc => exact hcA); intro g u; (try clear u); (try clear g))
      | fail
    all_goals (refine resR_oneA ?_; simp only [go_sem])
    exact LeA.refl _
  | true =>
    refine spec_of_awp (fn := Tryd.f6) Tryd.func6 (by kernel_rfl) rfl ?_
    intro w0 C0
    simp only [Tryd.ntmps6, litI, litB, litS, List.length_cons, List.length_nil, Nat.reduceAdd, Nat.reduceSub, List.replicate_succ, List.replicate_zero, List.cons_append, List.nil_append]
    repeat' first
      | refine awp_seq ?_
      | refine awp_block ?_
      | refine awp_skip ?_
      | (refine reg _ (by (simp only [List.map_cons, List.map_nil]; rfl)) rfl ?_; intro K hK)
      | (apply ev_guardU; (case hj | hu | hσ => (simp only [go_sem, w1, w2, hz, hm, hfl, hP, hRm, Int.reduceToNat, Bool.and_false, ite_self]; try rfl)))
      | ((first | refine awp_cond _ (by rfl) ?_ ?_ | refine ev_guardT _ _ (by (simp only [go_sem, w1, w2, hz, hm, hfl, hP, hRm, Int.reduceToNat, Bool.and_false, ite_self]; rfl)) (by (simp only [go_sem, w1, w2, hz, hm, hfl, hP, hRm, Int.reduceToNat, Bool.and_false, ite_self]; rfl)) ?_ ?_ | refine ev_guardF _ _ (by (simp only [go_sem, w1, w2, hz, hm, hfl, hP, hRm, Int.reduceToNat, Bool.and_false, ite_self]; rfl)) (by (simp only [go_sem, w1, w2, hz, hm, hfl, hP, hRm, Int.reduceToNat, Bool.and_false, ite_self]; rfl)) ?_ ?_) <;> (intro hb; first | (cases hb; done) | (have ht : true = true := hb; clear ht hb) | (have ht : false = false := hb; clear ht hb) | (simp only [hb]) | skip))
      | (refine awp_exit ?_; simp only [thenA, blockA, scopeA, reduceIte, RetQ, Nat.reduceEqDiff])
      | (refine awp_ret ?_; simp only [thenA, blockA, scopeA, RetQ])
      | (refine ev_nil (hK _ ?_); clear hK K)
      | (apply ev_call0; (case hys => (simp only [go_sem, w1, w2, hz, hm, hfl, hP, hRm, Int.reduceToNat, Bool.and_false, ite_self]; try rfl)); (case hs => first | exact h7 .. | exact h8 .. | exact h9 .. | exact h10 .. | exact c1 .. | exact c2 .. | exact s1 .. | exact s2 .. | exact q1 .. | exact q2 ..); (case hok | hσ => (simp only [go_sem, w1, w2, hz, hm, hfl, hP, hRm, Int.reduceToNat, Bool.and_false, ite_self]; try rfl)))
      | (apply regD; (case hd => (simp only [List.map_cons, List.map_nil]; rfl)); (case hok => rfl); (case' h => (intro K hK; (repeat' first
        | (apply evd_nil; refine (hK _ ?_); clear hK K)
        | (apply evd_call0; (case hi | hys => (simp only [go_sem, w1, w2, hz, hm, hfl, hP, hRm, Int.reduceToNat, Bool.and_false, ite_self]; try rfl)); (case hs => first | exact h7 .. | exact h8 .. | exact h9 .. | exact h10 .. | exact c1 .. | exact c2 .. | exact s1 .. | exact s2 .. | exact q1 .. | exact q2 ..); (case hok | hw | hσ => (simp only [go_sem, w1, w2, hz, hm, hfl, hP, hRm, Int.reduceToNat, Bool.and_false, ite_self]; try rfl)))
        | (apply evd_step0; (case hr | hi | hσ => (simp only [go_sem, w1, w2, hz, hm, hfl, hP, hRm, Int.reduceToNat, Bool.and_false, ite_self]; try rfl)); (case hc => exact hcA))
        | (apply evd_step; (case hr | hi => (simp only [go_sem, w1, w2, hz, hm, hfl, hP, hRm, Int.reduceToNat, Bool.and_false, ite_self]; try rfl)); (case hc => exact hcA); (case hw | hσ => (intro g u; simp only [go_sem, w1, w2, hz, hm, hfl, hP, hRm, Int.reduceToNat, Bool.and_false, ite_self]; try rfl)); (case' hk => (intro g u; (try clear u); (try clear g))))
        | fail))); (case hB => kernel_rfl))
      | (apply ev_step0; (case hr | hσ => (simp only [go_sem, w1, w2, hz, hm, hfl, hP, hRm, Int.reduceToNat, Bool.and_false, ite_self]; try rfl)); (case hc => exact hcA))
      | (apply ev_step; (case hr => (simp only [go_sem, w1, w2, hz, hm, hfl, hP, hRm, Int.reduceToNat, Bool.and_false, ite_self]; try rfl)); (case hσ => (intro g u; simp only [go_sem, w1, w2, hz, hm, hfl, hP, hRm, Int.reduceToNat, Bool.and_false, ite_self]; try rfl)); (case hc => exact hcA); intro g u; (try clear u); (try clear g))
      | fail
    rename_i g3 g9 g14
    revert g; intro g15
    refine awp_loopI (fun i : Nat => i ≤ 3) (fun i => 3 - i) (fun i => ⟨[.any, .any, .any, .any, .any, .any, litB false, litB true, .any, .ptr 9 g9 0, .any, .any, .d (bds B), .d (bds C), .ptr 14 g14 0, .ptr 15 g15 0, litI .i64 (i : Int), .any, .any, .any, .any, .any, .any, .any, .any, .any, .any, .any, .any, .any, .any, .any, .any, .any, .any, .any, .any, .any, .any, .any, .any, .any, .any, .any, .any, .any, .any, .any, .any, .any, .any, .any, .any, .any, .any, .any, .any, .any, .any, .any, .any, .any, .any, .any, .any, .any, .any, .any, .any, .any, .any, .any, .any, .any, .any, .any, .any, .any, .any, .any, .any, .any, .any, .any, .any, .any, .any, .any], [.no, .no, .no, .no, .no, .no, .no, .no, .no, .box g9 [litI .i64 (opE e), litI .i64 (cE e), litI .i64 (vE e).k, litI .i64 (vE e).i, litS (vE e).s, .d (argsD e)], .no, .no, .no, .no, .box g14 [litB x0, litB x1, litB x2], .box g15 [litB y0, litB y1, litB y2], .no, .no, .no, .no, .no, .no, .no, .no, .no, .no, .no, .no, .no, .no, .no, .no, .no, .no, .no, .no, .no, .no, .no, .no, .no, .no, .no, .no, .no, .no, .no, .no, .no, .no, .no, .no, .no, .no, .no, .no, .no, .no, .no, .no, .no, .no, .no, .no, .no, .no, .no, .no, .no, .no, .no, .no, .no, .no, .no, .no, .no, .no, .no, .no, .no, .no, .no, .no, .no, .no, .no, .no]⟩) 0 (by omega) ?_ ?_
    · exact wkA
    intro i hi
    simp only [litI, litB, litS] at hi n1 n2 ⊢
    obtain rfl | rfl | rfl | rfl : i = 0 ∨ i = 1 ∨ i = 2 ∨ i = 3 := by omega
    · have d1 : decide (((0 : Nat) : Int) < 3) = true := by decide
      have w5 : IntKind.i64.wrap (((0 : Nat) : Int) + 1) = 1 := by decide
      cases y0 with
      | true =>
        have hw := t0 rfl
        subst hw
        repeat' first
          | refine awp_seq ?_
          | refine awp_block ?_
          | refine awp_skip ?_
          | (refine reg _ (by (simp only [List.map_cons, List.map_nil]; rfl)) rfl ?_; intro K hK)
          | (apply ev_guardU; (case hj | hu | hσ => (simp only [go_sem, d1, w5, Int.reduceToNat]; try rfl)))
          | ((first | refine awp_cond _ (by rfl) ?_ ?_ | refine ev_guardT _ _ (by (simp only [go_sem, d1, w5, Int.reduceToNat]; rfl)) (by (simp only [go_sem, d1, w5, Int.reduceToNat]; rfl)) ?_ ?_ | refine ev_guardF _ _ (by (simp only [go_sem, d1, w5, Int.reduceToNat]; rfl)) (by (simp only [go_sem, d1, w5, Int.reduceToNat]; rfl)) ?_ ?_) <;> (intro hb; first | (cases hb; done) | (have ht : true = true := hb; clear ht hb) | (have ht : false = false := hb; clear ht hb) | (simp only [hb]) | skip))
          | (refine awp_exit ?_; simp only [thenA, blockA, scopeA, reduceIte, RetQ, Nat.reduceEqDiff])
          | (refine awp_ret ?_; simp only [thenA, blockA, scopeA, RetQ])
          | (refine ev_nil (hK _ ?_); clear hK K)
          | (apply ev_step0; (case hr | hσ => (simp only [go_sem, d1, w5, Int.reduceToNat]; try rfl)); (case hc => exact hcA))
          | (apply ev_step; (case hr => (simp only [go_sem, d1, w5, Int.reduceToNat]; try rfl)); (case hσ => (intro g u; simp only [go_sem, d1, w5, Int.reduceToNat]; try rfl)); (case hc => exact hcA); intro g u; (try clear u); (try clear g))
          | fail
        refine Exists.intro 1 ⟨by omega, by omega, ?_⟩
        exact wkA
      | false =>
        repeat' first
          | refine awp_seq ?_
          | refine awp_block ?_
          | refine awp_skip ?_
          | (refine reg _ (by (simp only [List.map_cons, List.map_nil]; rfl)) rfl ?_; intro K hK)
          | (apply ev_guardU; (case hj | hu | hσ => (simp only [go_sem, d1, w5, Int.reduceToNat]; try rfl)))
          | ((first | refine awp_cond _ (by rfl) ?_ ?_ | refine ev_guardT _ _ (by (simp only [go_sem, d1, w5, Int.reduceToNat]; rfl)) (by (simp only [go_sem, d1, w5, Int.reduceToNat]; rfl)) ?_ ?_ | refine ev_guardF _ _ (by (simp only [go_sem, d1, w5, Int.reduceToNat]; rfl)) (by (simp only [go_sem, d1, w5, Int.reduceToNat]; rfl)) ?_ ?_) <;> (intro hb; first | (cases hb; done) | (have ht : true = true := hb; clear ht hb) | (have ht : false = false := hb; clear ht hb) | (simp only [hb]) | skip))
          | (refine awp_exit ?_; simp only [thenA, blockA, scopeA, reduceIte, RetQ, Nat.reduceEqDiff])
          | (refine awp_ret ?_; simp only [thenA, blockA, scopeA, RetQ])
          | (refine ev_nil (hK _ ?_); clear hK K)
          | (apply ev_step0; (case hr | hσ => (simp only [go_sem, d1, w5, Int.reduceToNat]; try rfl)); (case hc => exact hcA))
          | (apply ev_step; (case hr => (simp only [go_sem, d1, w5, Int.reduceToNat]; try rfl)); (case hσ => (intro g u; simp only [go_sem, d1, w5, Int.reduceToNat]; try rfl)); (case hc => exact hcA); intro g u; (try clear u); (try clear g))
          | fail
        refine Exists.intro 1 ⟨by omega, by omega, ?_⟩
        exact wkA
    · have d1 : decide (((1 : Nat) : Int) < 3) = true := by decide
      have w5 : IntKind.i64.wrap (((1 : Nat) : Int) + 1) = 2 := by decide
      cases y1 with
      | true =>
        have hw := t1 rfl
        subst hw
        repeat' first
          | refine awp_seq ?_
          | refine awp_block ?_
          | refine awp_skip ?_
          | (refine reg _ (by (simp only [List.map_cons, List.map_nil]; rfl)) rfl ?_; intro K hK)
          | (apply ev_guardU; (case hj | hu | hσ => (simp only [go_sem, d1, w5, Int.reduceToNat]; try rfl)))
          | ((first | refine awp_cond _ (by rfl) ?_ ?_ | refine ev_guardT _ _ (by (simp only [go_sem, d1, w5, Int.reduceToNat]; rfl)) (by (simp only [go_sem, d1, w5, Int.reduceToNat]; rfl)) ?_ ?_ | refine ev_guardF _ _ (by (simp only [go_sem, d1, w5, Int.reduceToNat]; rfl)) (by (simp only [go_sem, d1, w5, Int.reduceToNat]; rfl)) ?_ ?_) <;> (intro hb; first | (cases hb; done) | (have ht : true = true := hb; clear ht hb) | (have ht : false = false := hb; clear ht hb) | (simp only [hb]) | skip))
          | (refine awp_exit ?_; simp only [thenA, blockA, scopeA, reduceIte, RetQ, Nat.reduceEqDiff])
          | (refine awp_ret ?_; simp only [thenA, blockA, scopeA, RetQ])
          | (refine ev_nil (hK _ ?_); clear hK K)
          | (apply ev_step0; (case hr | hσ => (simp only [go_sem, d1, w5, Int.reduceToNat]; try rfl)); (case hc => exact hcA))
          | (apply ev_step; (case hr => (simp only [go_sem, d1, w5, Int.reduceToNat]; try rfl)); (case hσ => (intro g u; simp only [go_sem, d1, w5, Int.reduceToNat]; try rfl)); (case hc => exact hcA); intro g u; (try clear u); (try clear g))
          | fail
        refine Exists.intro 2 ⟨by omega, by omega, ?_⟩
        exact wkA
      | false =>
        repeat' first
          | refine awp_seq ?_
          | refine awp_block ?_
          | refine awp_skip ?_
          | (refine reg _ (by (simp only [List.map_cons, List.map_nil]; rfl)) rfl ?_; intro K hK)
          | (apply ev_guardU; (case hj | hu | hσ => (simp only [go_sem, d1, w5, Int.reduceToNat]; try rfl)))
          | ((first | refine awp_cond _ (by rfl) ?_ ?_ | refine ev_guardT _ _ (by (simp only [go_sem, d1, w5, Int.reduceToNat]; rfl)) (by (simp only [go_sem, d1, w5, Int.reduceToNat]; rfl)) ?_ ?_ | refine ev_guardF _ _ (by (simp only [go_sem, d1, w5, Int.reduceToNat]; rfl)) (by (simp only [go_sem, d1, w5, Int.reduceToNat]; rfl)) ?_ ?_) <;> (intro hb; first | (cases hb; done) | (have ht : true = true := hb; clear ht hb) | (have ht : false = false := hb; clear ht hb) | (simp only [hb]) | skip))
          | (refine awp_exit ?_; simp only [thenA, blockA, scopeA, reduceIte, RetQ, Nat.reduceEqDiff])
          | (refine awp_ret ?_; simp only [thenA, blockA, scopeA, RetQ])
          | (refine ev_nil (hK _ ?_); clear hK K)
          | (apply ev_step0; (case hr | hσ => (simp only [go_sem, d1, w5, Int.reduceToNat]; try rfl)); (case hc => exact hcA))
          | (apply ev_step; (case hr => (simp only [go_sem, d1, w5, Int.reduceToNat]; try rfl)); (case hσ => (intro g u; simp only [go_sem, d1, w5, Int.reduceToNat]; try rfl)); (case hc => exact hcA); intro g u; (try clear u); (try clear g))
          | fail
        refine Exists.intro 2 ⟨by omega, by omega, ?_⟩
        exact wkA
    · have d1 : decide (((2 : Nat) : Int) < 3) = true := by decide
      have w5 : IntKind.i64.wrap (((2 : Nat) : Int) + 1) = 3 := by decide
      cases y2 with
      | true =>
        have hw := t2 rfl
        subst hw
        repeat' first
          | refine awp_seq ?_
          | refine awp_block ?_
          | refine awp_skip ?_
          | (refine reg _ (by (simp only [List.map_cons, List.map_nil]; rfl)) rfl ?_; intro K hK)
          | (apply ev_guardU; (case hj | hu | hσ => (simp only [go_sem, d1, w5, Int.reduceToNat]; try rfl)))
          | ((first | refine awp_cond _ (by rfl) ?_ ?_ | refine ev_guardT _ _ (by (simp only [go_sem, d1, w5, Int.reduceToNat]; rfl)) (by (simp only [go_sem, d1, w5, Int.reduceToNat]; rfl)) ?_ ?_ | refine ev_guardF _ _ (by (simp only [go_sem, d1, w5, Int.reduceToNat]; rfl)) (by (simp only [go_sem, d1, w5, Int.reduceToNat]; rfl)) ?_ ?_) <;> (intro hb; first | (cases hb; done) | (have ht : true = true := hb; clear ht hb) | (have ht : false = false := hb; clear ht hb) | (simp only [hb]) | skip))
          | (refine awp_exit ?_; simp only [thenA, blockA, scopeA, reduceIte, RetQ, Nat.reduceEqDiff])
          | (refine awp_ret ?_; simp only [thenA, blockA, scopeA, RetQ])
          | (refine ev_nil (hK _ ?_); clear hK K)
          | (apply ev_step0; (case hr | hσ => (simp only [go_sem, d1, w5, Int.reduceToNat]; try rfl)); (case hc => exact hcA))
          | (apply ev_step; (case hr => (simp only [go_sem, d1, w5, Int.reduceToNat]; try rfl)); (case hσ => (intro g u; simp only [go_sem, d1, w5, Int.reduceToNat]; try rfl)); (case hc => exact hcA); intro g u; (try clear u); (try clear g))
          | fail
        refine Exists.intro 3 ⟨by omega, by omega, ?_⟩
        exact wkA
      | false =>
        repeat' first
          | refine awp_seq ?_
          | refine awp_block ?_
          | refine awp_skip ?_
          | (refine reg _ (by (simp only [List.map_cons, List.map_nil]; rfl)) rfl ?_; intro K hK)
          | (apply ev_guardU; (case hj | hu | hσ => (simp only [go_sem, d1, w5, Int.reduceToNat]; try rfl)))
          | ((first | refine awp_cond _ (by rfl) ?_ ?_ | refine ev_guardT _ _ (by (simp only [go_sem, d1, w5, Int.reduceToNat]; rfl)) (by (simp only [go_sem, d1, w5, Int.reduceToNat]; rfl)) ?_ ?_ | refine ev_guardF _ _ (by (simp only [go_sem, d1, w5, Int.reduceToNat]; rfl)) (by (simp only [go_sem, d1, w5, Int.reduceToNat]; rfl)) ?_ ?_) <;> (intro hb; first | (cases hb; done) | (have ht : true = true := hb; clear ht hb) | (have ht : false = false := hb; clear ht hb) | (simp only [hb]) | skip))
          | (refine awp_exit ?_; simp only [thenA, blockA, scopeA, reduceIte, RetQ, Nat.reduceEqDiff])
          | (refine awp_ret ?_; simp only [thenA, blockA, scopeA, RetQ])
          | (refine ev_nil (hK _ ?_); clear hK K)
          | (apply ev_step0; (case hr | hσ => (simp only [go_sem, d1, w5, Int.reduceToNat]; try rfl)); (case hc => exact hcA))
          | (apply ev_step; (case hr => (simp only [go_sem, d1, w5, Int.reduceToNat]; try rfl)); (case hσ => (intro g u; simp only [go_sem, d1, w5, Int.reduceToNat]; try rfl)); (case hc => exact hcA); intro g u; (try clear u); (try clear g))
          | fail
        refine Exists.intro 3 ⟨by omega, by omega, ?_⟩
        exact wkA
    have d1 : decide (((3 : Nat) : Int) < 3) = false := by decide
    cases nC with
    | true =>
      repeat' first
        | refine awp_seq ?_
        | refine awp_block ?_
        | refine awp_skip ?_
        | (refine reg _ (by (simp only [List.map_cons, List.map_nil]; rfl)) rfl ?_; intro K hK)
        | (apply ev_guardU; (case hj | hu | hσ => (simp only [go_sem, d1, hfl, Int.reduceToNat, Bool.and_false, ite_self]; try rfl)))
        | ((first | refine awp_cond _ (by rfl) ?_ ?_ | refine ev_guardT _ _ (by (simp only [go_sem, d1, hfl, Int.reduceToNat, Bool.and_false, ite_self]; rfl)) (by (simp only [go_sem, d1, hfl, Int.reduceToNat, Bool.and_false, ite_self]; rfl)) ?_ ?_ | refine ev_guardF _ _ (by (simp only [go_sem, d1, hfl, Int.reduceToNat, Bool.and_false, ite_self]; rfl)) (by (simp only [go_sem, d1, hfl, Int.reduceToNat, Bool.and_false, ite_self]; rfl)) ?_ ?_) <;> (intro hb; first | (cases hb; done) | (have ht : true = true := hb; clear ht hb) | (have ht : false = false := hb; clear ht hb) | (simp only [hb]) | skip))
        | (refine awp_exit ?_; simp only [thenA, blockA, scopeA, reduceIte, RetQ, Nat.reduceEqDiff])
        | (refine awp_ret ?_; simp only [thenA, blockA, scopeA, RetQ])
        | (refine ev_nil (hK _ ?_); clear hK K)
        | (apply ev_call0; (case hys => (simp only [go_sem, d1, hfl, Int.reduceToNat, Bool.and_false, ite_self]; try rfl)); (case hs => first | exact n1 .. | exact n2 ..); (case hok | hσ => (simp only [go_sem, d1, hfl, Int.reduceToNat, Bool.and_false, ite_self]; try rfl)))
        | (apply ev_step0; (case hr | hσ => (simp only [go_sem, d1, hfl, Int.reduceToNat, Bool.and_false, ite_self]; try rfl)); (case hc => exact hcA))
        | (apply ev_step; (case hr => (simp only [go_sem, d1, hfl, Int.reduceToNat, Bool.and_false, ite_self]; try rfl)); (case hσ => (intro g u; simp only [go_sem, d1, hfl, Int.reduceToNat, Bool.and_false, ite_self]; try rfl)); (case hc => exact hcA); intro g u; (try clear u); (try clear g))
        | fail
      all_goals (refine resR_oneA ?_; simp only [go_sem])
      exact LeA.refl _
    | false =>
      have hw : nB = false := by
        cases nB with
        | true => cases hN rfl
        | false => rfl
      subst hw
      repeat' first
        | refine awp_seq ?_
        | refine awp_block ?_
        | refine awp_skip ?_
        | (refine reg _ (by (simp only [List.map_cons, List.map_nil]; rfl)) rfl ?_; intro K hK)
        | (apply ev_guardU; (case hj | hu | hσ => (simp only [go_sem, d1, hfl, Int.reduceToNat, Bool.and_false, ite_self]; try rfl)))
        | ((first | refine awp_cond _ (by rfl) ?_ ?_ | refine ev_guardT _ _ (by (simp only [go_sem, d1, hfl, Int.reduceToNat, Bool.and_false, ite_self]; rfl)) (by (simp only [go_sem, d1, hfl, Int.reduceToNat, Bool.and_false, ite_self]; rfl)) ?_ ?_ | refine ev_guardF _ _ (by (simp only [go_sem, d1, hfl, Int.reduceToNat, Bool.and_false, ite_self]; rfl)) (by (simp only [go_sem, d1, hfl, Int.reduceToNat, Bool.and_false, ite_self]; rfl)) ?_ ?_) <;> (intro hb; first | (cases hb; done) | (have ht : true = true := hb; clear ht hb) | (have ht : false = false := hb; clear ht hb) | (simp only [hb]) | skip))
        | (refine awp_exit ?_; simp only [thenA, blockA, scopeA, reduceIte, RetQ, Nat.reduceEqDiff])
        | (refine awp_ret ?_; simp only [thenA, blockA, scopeA, RetQ])
        | (refine ev_nil (hK _ ?_); clear hK K)
        | (apply ev_call0; (case hys => (simp only [go_sem, d1, hfl, Int.reduceToNat, Bool.and_false, ite_self]; try rfl)); (case hs => first | exact n1 .. | exact n2 ..); (case hok | hσ => (simp only [go_sem, d1, hfl, Int.reduceToNat, Bool.and_false, ite_self]; try rfl)))
        | (apply ev_step0; (case hr | hσ => (simp only [go_sem, d1, hfl, Int.reduceToNat, Bool.and_false, ite_self]; try rfl)); (case hc => exact hcA))
        | (apply ev_step; (case hr => (simp only [go_sem, d1, hfl, Int.reduceToNat, Bool.and_false, ite_self]; try rfl)); (case hσ => (intro g u; simp only [go_sem, d1, hfl, Int.reduceToNat, Bool.and_false, ite_self]; try rfl)); (case hc => exact hcA); intro g u; (try clear u); (try clear g))
        | fail
      all_goals (refine resR_oneA ?_; simp only [go_sem])
      exact LeA.refl _
end
section
set_option linter.unusedVariables false
set_option linter.unusedSimpArgs false
open Go.RowKit
theorem gNull : Tryd.prog.globalNamed "chapman/bounds.null" = some 0 := by kernel_rfl
theorem tNull : (Tryd.prog.globals[0]?).map (·.type) = some 26 := by kernel_rfl
theorem gLogic : Tryd.prog.globalNamed "chapman/bounds.logic" = some 1 := by kernel_rfl
theorem tLogic : (Tryd.prog.globals[1]?).map (·.type) = some 111 := by kernel_rfl
theorem gStrict : Tryd.prog.globalNamed "chapman/bounds.strict" = some 2 := by kernel_rfl
theorem tStrict : (Tryd.prog.globals[2]?).map (·.type) = some 111 := by kernel_rfl
theorem gBools : Tryd.prog.globalNamed "chapman/bounds.bools" = some 3 := by kernel_rfl
theorem tBools : (Tryd.prog.globals[3]?).map (·.type) = some 112 := by kernel_rfl
theorem gChecks : Tryd.prog.globalNamed "chapman/value.checks" = some 4 := by kernel_rfl
theorem tChecks : (Tryd.prog.globals[4]?).map (·.type) = some 124 := by kernel_rfl
theorem c3 : Tryd.prog.cellsOf 3 = 1 := by kernel_rfl
theorem c9 : Tryd.prog.cellsOf 9 = 1 := by kernel_rfl
theorem c26 : Tryd.prog.cellsOf 26 = 3 := by kernel_rfl
theorem c103 : Tryd.prog.cellsOf 103 = 1 := by kernel_rfl
theorem c124 : Tryd.prog.cellsOf 124 = 4 := by kernel_rfl
theorem list3 {α : Type} {l : List α} (h : l.length = 3) : ∃ a b c, l = [a, b, c] := by
  match l, h with
  | [a, b, c], _ => exact ⟨a, b, c, rfl⟩
theorem list4 {α : Type} {l : List α} (h : l.length = 4) : ∃ a b c d, l = [a, b, c, d] := by
  match l, h with
  | [a, b, c, d], _ => exact ⟨a, b, c, d, rfl⟩
theorem val26 {H : Type} {enc : TypeId × Value → H} {w : World} {base : Nat} {sp : Nat → Bool} {held : Bool} {fuel : Nat} {cs : List Value} {a b : Int} {s : List UInt8} {p : List MemPlace}
    (h : DataW.trod enc Tryd.prog w base sp held fuel 26 cs = some (.agg [.lit (.int .i64 a), .lit (.int .i64 b), .lit (.string s)], p)) : cs = [.int .i64 a, .int .i64 b, .string ⟨s.toArray⟩] := by
  obtain ⟨xs, m, rfl, hx, hlen, hxl, hel⟩ := DataW.trod_struct Tryd.underlying26 h
  rw [c26] at hlen
  obtain ⟨k0, k1, k2, rfl⟩ := list3 hlen
  have hxl : xs.length = 3 := hxl
  obtain ⟨x0, x1, x2, rfl⟩ := list3 hxl
  have h0 := hel 0 { name := "K", type := 3, offset := 0, embedded := false, tag := "", pkgPath := "", byteOffset := 0 } rfl
  have h1 := hel 1 { name := "I", type := 3, offset := 1, embedded := false, tag := "", pkgPath := "", byteOffset := 8 } rfl
  have h2 := hel 2 { name := "S", type := 9, offset := 2, embedded := false, tag := "", pkgPath := "", byteOffset := 16 } rfl
  simp only [c3, c9, List.drop_zero, List.drop_succ_cons, List.take_succ_cons, List.take_zero, List.getElem?_cons_zero, List.getElem?_cons_succ] at h0 h1 h2
  obtain ⟨n0, e0, r0, _⟩ := DataW.trod_int Tryd.underlying3 h0
  obtain ⟨n1, e1, r1, _⟩ := DataW.trod_int Tryd.underlying3 h1
  obtain ⟨s2, e2, r2, _⟩ := DataW.trod_string Tryd.underlying9 h2
  simp only [Prod.mk.injEq, DataW.agg.injEq, List.map_cons, List.map_nil, List.cons.injEq, r0, r1, r2, DataW.lit.injEq, Lit.int.injEq, Lit.string.injEq, true_and, and_true] at hx
  obtain ⟨⟨hx0, hx1, hx2⟩, _⟩ := hx
  replace e0 := (List.cons.inj e0).1
  replace e1 := (List.cons.inj e1).1
  replace e2 := (List.cons.inj e2).1
  rw [e0, e1, e2, hx0, hx1, hx2]
theorem fn_name {w : World} {base : Nat} {sp : Nat → Bool} {fuel t : Nat} {x : Value} {b : UInt8} {r : List UInt8} {q : List MemPlace} {f0 : FuncId} {ps rs : Array TypeId} {va : Bool} (ht : Tryd.prog.underlying t = some (.func ps rs va)) (hone : ((List.range Tryd.prog.funcs.size).filter fun f => (Tryd.prog.funcs[f]?).any (·.name.toUTF8.data.toList == b :: r)) = [f0])
    (hf : x.formed Tryd.prog t = true) (h : DataW.trod (funcToken Tryd.prog) Tryd.prog w base sp true fuel t x.cells.toList = some (.held (b :: r), q)) : x = .func (.func f0) #[] #[] := by
  rw [formed_one ht rfl hf] at h
  exact func_of_trod ht hone h
theorem one105 : ((List.range Tryd.prog.funcs.size).filter fun f => (Tryd.prog.funcs[f]?).any (·.name.toUTF8.data.toList == [40, 99, 104, 97, 112, 109, 97, 110, 47, 98, 111, 117, 110, 100, 115, 46, 115, 112, 97, 110, 41, 46, 97, 110, 100])) = [105] := by kernel_rfl
theorem one106 : ((List.range Tryd.prog.funcs.size).filter fun f => (Tryd.prog.funcs[f]?).any (·.name.toUTF8.data.toList == [40, 99, 104, 97, 112, 109, 97, 110, 47, 98, 111, 117, 110, 100, 115, 46, 115, 112, 97, 110, 41, 46, 111, 114])) = [106] := by kernel_rfl
theorem one107 : ((List.range Tryd.prog.funcs.size).filter fun f => (Tryd.prog.funcs[f]?).any (·.name.toUTF8.data.toList == [40, 99, 104, 97, 112, 109, 97, 110, 47, 98, 111, 117, 110, 100, 115, 46, 115, 112, 97, 110, 41, 46, 110, 111, 116])) = [107] := by kernel_rfl
theorem one108 : ((List.range Tryd.prog.funcs.size).filter fun f => (Tryd.prog.funcs[f]?).any (·.name.toUTF8.data.toList == [40, 99, 104, 97, 112, 109, 97, 110, 47, 98, 111, 117, 110, 100, 115, 46, 115, 112, 97, 110, 41, 46, 105, 115, 78, 117, 108, 108])) = [108] := by kernel_rfl
def glogicF : Lit × DataW (List UInt8) → Value × Value := fun x => match x.1 with
  | .int _ n => (.int .i64 n, if n = 6 then .func (.func 105) #[] #[] else if n = 7 then .func (.func 106) #[] #[] else if n = 8 then .func (.func 107) #[] #[] else if n = 9 then .func (.func 108) #[] #[] else .nilFunc)
  | _ => (.nilFunc, .nilFunc)
theorem laid_logic {W : World} (h : funcsAt Tryd.prog W "chapman/bounds.logic" (.map [(.int .i64 6, .iface "func" (.lit (.string [40, 99, 104, 97, 112, 109, 97, 110, 47, 98, 111, 117, 110, 100, 115, 46, 115, 112, 97, 110, 41, 46, 97, 110, 100]))), (.int .i64 7, .iface "func" (.lit (.string [40, 99, 104, 97, 112, 109, 97, 110, 47, 98, 111, 117, 110, 100, 115, 46, 115, 112, 97, 110, 41, 46, 111, 114]))), (.int .i64 8, .iface "func" (.lit (.string [40, 99, 104, 97, 112, 109, 97, 110, 47, 98, 111, 117, 110, 100, 115, 46, 115, 112, 97, 110, 41, 46, 110, 111, 116]))), (.int .i64 9, .iface "func" (.lit (.string [40, 99, 104, 97, 112, 109, 97, 110, 47, 98, 111, 117, 110, 100, 115, 46, 115, 112, 97, 110, 41, 46, 105, 115, 78, 117, 108, 108])))])) : ∃ b en cl, W.cell? ⟨1, 0, none⟩ = some (.map (some b)) ∧ W.heap[b]? = some (.map en cl) ∧ (en.toList.map fun e => (e.key, e.val)).Perm [(.int .i64 6, .func (.func 105) #[] #[]), (.int .i64 7, .func (.func 106) #[] #[]), (.int .i64 8, .func (.func 107) #[] #[]), (.int .i64 9, .func (.func 108) #[] #[])] := by
  obtain ⟨g, t, cs, fuel, p, hg, ht, hv, hd⟩ := h
  obtain rfl := Option.some.inj (gLogic.symm.trans hg)
  obtain rfl := Option.some.inj (tLogic.symm.trans ht)
  have hd' : DataW.trod (funcToken Tryd.prog) Tryd.prog W 0 (fun _ => true) true fuel 111 cs.toList = some (.map [(.int .i64 6, .held [40, 99, 104, 97, 112, 109, 97, 110, 47, 98, 111, 117, 110, 100, 115, 46, 115, 112, 97, 110, 41, 46, 97, 110, 100]), (.int .i64 7, .held [40, 99, 104, 97, 112, 109, 97, 110, 47, 98, 111, 117, 110, 100, 115, 46, 115, 112, 97, 110, 41, 46, 111, 114]), (.int .i64 8, .held [40, 99, 104, 97, 112, 109, 97, 110, 47, 98, 111, 117, 110, 100, 115, 46, 115, 112, 97, 110, 41, 46, 110, 111, 116]), (.int .i64 9, .held [40, 99, 104, 97, 112, 109, 97, 110, 47, 98, 111, 117, 110, 100, 115, 46, 115, 112, 97, 110, 41, 46, 105, 115, 78, 117, 108, 108])], p) := hd
  obtain ⟨b, es, cl, hcs, hb, hp⟩ := map_open Tryd.underlying111 hd' glogicF (fun n x key d q hk hf hr hm => by
    simp only [List.mem_cons, List.not_mem_nil, or_false, Prod.mk.injEq] at hm
    rcases hm with ⟨rfl, rfl⟩ | ⟨rfl, rfl⟩ | ⟨rfl, rfl⟩ | ⟨rfl, rfl⟩
    · rw [key_int Tryd.underlying3 hk, fn_name Tryd.underlying109 one105 hf hr]; rfl
    · rw [key_int Tryd.underlying3 hk, fn_name Tryd.underlying109 one106 hf hr]; rfl
    · rw [key_int Tryd.underlying3 hk, fn_name Tryd.underlying109 one107 hf hr]; rfl
    · rw [key_int Tryd.underlying3 hk, fn_name Tryd.underlying109 one108 hf hr]; rfl)
  refine ⟨b, es, cl, ?_, hb, hp⟩
  have := World.var?_cell hg hv 0
  rw [Array.eq_one_of_toList hcs] at this
  simpa using this
theorem one110 : ((List.range Tryd.prog.funcs.size).filter fun f => (Tryd.prog.funcs[f]?).any (·.name.toUTF8.data.toList == [40, 99, 104, 97, 112, 109, 97, 110, 47, 98, 111, 117, 110, 100, 115, 46, 115, 112, 97, 110, 41, 46, 101, 113, 117, 97, 108])) = [110] := by kernel_rfl
theorem one111 : ((List.range Tryd.prog.funcs.size).filter fun f => (Tryd.prog.funcs[f]?).any (·.name.toUTF8.data.toList == [40, 99, 104, 97, 112, 109, 97, 110, 47, 98, 111, 117, 110, 100, 115, 46, 115, 112, 97, 110, 41, 46, 108, 101, 115, 115])) = [111] := by kernel_rfl
theorem one112 : ((List.range Tryd.prog.funcs.size).filter fun f => (Tryd.prog.funcs[f]?).any (·.name.toUTF8.data.toList == [40, 99, 104, 97, 112, 109, 97, 110, 47, 98, 111, 117, 110, 100, 115, 46, 115, 112, 97, 110, 41, 46, 109, 111, 115, 116])) = [112] := by kernel_rfl
theorem one114 : ((List.range Tryd.prog.funcs.size).filter fun f => (Tryd.prog.funcs[f]?).any (·.name.toUTF8.data.toList == [40, 99, 104, 97, 112, 109, 97, 110, 47, 98, 111, 117, 110, 100, 115, 46, 115, 112, 97, 110, 41, 46, 112, 108, 117, 115])) = [114] := by kernel_rfl
theorem one115 : ((List.range Tryd.prog.funcs.size).filter fun f => (Tryd.prog.funcs[f]?).any (·.name.toUTF8.data.toList == [40, 99, 104, 97, 112, 109, 97, 110, 47, 98, 111, 117, 110, 100, 115, 46, 115, 112, 97, 110, 41, 46, 109, 105, 110, 117, 115])) = [115] := by kernel_rfl
theorem one113 : ((List.range Tryd.prog.funcs.size).filter fun f => (Tryd.prog.funcs[f]?).any (·.name.toUTF8.data.toList == [40, 99, 104, 97, 112, 109, 97, 110, 47, 98, 111, 117, 110, 100, 115, 46, 115, 112, 97, 110, 41, 46, 112, 114, 101, 102, 105, 120])) = [113] := by kernel_rfl
def gstrictF : Lit × DataW (List UInt8) → Value × Value := fun x => match x.1 with
  | .int _ n => (.int .i64 n, if n = 3 then .func (.func 110) #[] #[] else if n = 4 then .func (.func 111) #[] #[] else if n = 5 then .func (.func 112) #[] #[] else if n = 10 then .func (.func 114) #[] #[] else if n = 11 then .func (.func 115) #[] #[] else if n = 12 then .func (.func 113) #[] #[] else .nilFunc)
  | _ => (.nilFunc, .nilFunc)
theorem laid_strict {W : World} (h : funcsAt Tryd.prog W "chapman/bounds.strict" (.map [(.int .i64 3, .iface "func" (.lit (.string [40, 99, 104, 97, 112, 109, 97, 110, 47, 98, 111, 117, 110, 100, 115, 46, 115, 112, 97, 110, 41, 46, 101, 113, 117, 97, 108]))), (.int .i64 4, .iface "func" (.lit (.string [40, 99, 104, 97, 112, 109, 97, 110, 47, 98, 111, 117, 110, 100, 115, 46, 115, 112, 97, 110, 41, 46, 108, 101, 115, 115]))), (.int .i64 5, .iface "func" (.lit (.string [40, 99, 104, 97, 112, 109, 97, 110, 47, 98, 111, 117, 110, 100, 115, 46, 115, 112, 97, 110, 41, 46, 109, 111, 115, 116]))), (.int .i64 10, .iface "func" (.lit (.string [40, 99, 104, 97, 112, 109, 97, 110, 47, 98, 111, 117, 110, 100, 115, 46, 115, 112, 97, 110, 41, 46, 112, 108, 117, 115]))), (.int .i64 11, .iface "func" (.lit (.string [40, 99, 104, 97, 112, 109, 97, 110, 47, 98, 111, 117, 110, 100, 115, 46, 115, 112, 97, 110, 41, 46, 109, 105, 110, 117, 115]))), (.int .i64 12, .iface "func" (.lit (.string [40, 99, 104, 97, 112, 109, 97, 110, 47, 98, 111, 117, 110, 100, 115, 46, 115, 112, 97, 110, 41, 46, 112, 114, 101, 102, 105, 120])))])) : ∃ b en cl, W.cell? ⟨2, 0, none⟩ = some (.map (some b)) ∧ W.heap[b]? = some (.map en cl) ∧ (en.toList.map fun e => (e.key, e.val)).Perm [(.int .i64 3, .func (.func 110) #[] #[]), (.int .i64 4, .func (.func 111) #[] #[]), (.int .i64 5, .func (.func 112) #[] #[]), (.int .i64 10, .func (.func 114) #[] #[]), (.int .i64 11, .func (.func 115) #[] #[]), (.int .i64 12, .func (.func 113) #[] #[])] := by
  obtain ⟨g, t, cs, fuel, p, hg, ht, hv, hd⟩ := h
  obtain rfl := Option.some.inj (gStrict.symm.trans hg)
  obtain rfl := Option.some.inj (tStrict.symm.trans ht)
  have hd' : DataW.trod (funcToken Tryd.prog) Tryd.prog W 0 (fun _ => true) true fuel 111 cs.toList = some (.map [(.int .i64 3, .held [40, 99, 104, 97, 112, 109, 97, 110, 47, 98, 111, 117, 110, 100, 115, 46, 115, 112, 97, 110, 41, 46, 101, 113, 117, 97, 108]), (.int .i64 4, .held [40, 99, 104, 97, 112, 109, 97, 110, 47, 98, 111, 117, 110, 100, 115, 46, 115, 112, 97, 110, 41, 46, 108, 101, 115, 115]), (.int .i64 5, .held [40, 99, 104, 97, 112, 109, 97, 110, 47, 98, 111, 117, 110, 100, 115, 46, 115, 112, 97, 110, 41, 46, 109, 111, 115, 116]), (.int .i64 10, .held [40, 99, 104, 97, 112, 109, 97, 110, 47, 98, 111, 117, 110, 100, 115, 46, 115, 112, 97, 110, 41, 46, 112, 108, 117, 115]), (.int .i64 11, .held [40, 99, 104, 97, 112, 109, 97, 110, 47, 98, 111, 117, 110, 100, 115, 46, 115, 112, 97, 110, 41, 46, 109, 105, 110, 117, 115]), (.int .i64 12, .held [40, 99, 104, 97, 112, 109, 97, 110, 47, 98, 111, 117, 110, 100, 115, 46, 115, 112, 97, 110, 41, 46, 112, 114, 101, 102, 105, 120])], p) := hd
  obtain ⟨b, es, cl, hcs, hb, hp⟩ := map_open Tryd.underlying111 hd' gstrictF (fun n x key d q hk hf hr hm => by
    simp only [List.mem_cons, List.not_mem_nil, or_false, Prod.mk.injEq] at hm
    rcases hm with ⟨rfl, rfl⟩ | ⟨rfl, rfl⟩ | ⟨rfl, rfl⟩ | ⟨rfl, rfl⟩ | ⟨rfl, rfl⟩ | ⟨rfl, rfl⟩
    · rw [key_int Tryd.underlying3 hk, fn_name Tryd.underlying109 one110 hf hr]; rfl
    · rw [key_int Tryd.underlying3 hk, fn_name Tryd.underlying109 one111 hf hr]; rfl
    · rw [key_int Tryd.underlying3 hk, fn_name Tryd.underlying109 one112 hf hr]; rfl
    · rw [key_int Tryd.underlying3 hk, fn_name Tryd.underlying109 one114 hf hr]; rfl
    · rw [key_int Tryd.underlying3 hk, fn_name Tryd.underlying109 one115 hf hr]; rfl
    · rw [key_int Tryd.underlying3 hk, fn_name Tryd.underlying109 one113 hf hr]; rfl)
  refine ⟨b, es, cl, ?_, hb, hp⟩
  have := World.var?_cell hg hv 0
  rw [Array.eq_one_of_toList hcs] at this
  simpa using this
def gboolsF {H : Type} : Lit × DataW H → Value × Value := fun x => match x.1 with
  | .bool b => (.bool b, .agg #[.int .i64 1, .int .i64 (if b = true then 1 else 0), .string ⟨#[]⟩])
  | _ => (.nilFunc, .nilFunc)
theorem laid_bools {W : World} {t cs fuel p} (ht : (Tryd.prog.globals[3]?).map (·.type) = some t) (hv : W.var? Tryd.prog "chapman/bounds.bools" = some cs) (hd : DataW.trod (fun _ => ()) Tryd.prog W 0 (fun _ => true) false fuel t cs.toList = some (.map [(.bool false, .agg [.lit (.int .i64 1), .lit (.int .i64 0), .lit (.string [])]), (.bool true, .agg [.lit (.int .i64 1), .lit (.int .i64 1), .lit (.string [])])], p)) :
    ∃ b en cl, W.cell? ⟨3, 0, none⟩ = some (.map (some b)) ∧ W.heap[b]? = some (.map en cl) ∧ (en.toList.map fun e => (e.key, e.val)).Perm [(.bool false, .agg #[.int .i64 1, .int .i64 0, .string ⟨#[]⟩]), (.bool true, .agg #[.int .i64 1, .int .i64 1, .string ⟨#[]⟩])] := by
  obtain rfl := Option.some.inj (tBools.symm.trans ht)
  obtain ⟨b, es, cl, hcs, hb, hp⟩ := map_open Tryd.underlying112 hd gboolsF (fun n x key d q hk hf hr hm => by
    obtain ⟨ar, har⟩ := formed_agg Tryd.underlying26 hf
    simp only [List.mem_cons, List.not_mem_nil, or_false, Prod.mk.injEq] at hm
    rcases hm with ⟨rfl, rfl⟩ | ⟨rfl, rfl⟩
    · have e := val26 hr
      rw [har] at e ⊢
      have e' : ar.toList = _ := e
      rw [key_bool Tryd.underlying4 hk, ← Array.toArray_toList (xs := ar), e']; rfl
    · have e := val26 hr
      rw [har] at e ⊢
      have e' : ar.toList = _ := e
      rw [key_bool Tryd.underlying4 hk, ← Array.toArray_toList (xs := ar), e']; rfl)
  refine ⟨b, es, cl, ?_, hb, hp⟩
  have := World.var?_cell gBools hv 0
  rw [Array.eq_one_of_toList hcs] at this
  simpa using this
theorem laid_null {W : World} {t cs fuel p} (ht : (Tryd.prog.globals[0]?).map (·.type) = some t) (hv : W.var? Tryd.prog "chapman/bounds.null" = some cs) (hd : DataW.trod (fun _ => ()) Tryd.prog W 0 (fun _ => true) false fuel t cs.toList = some (.agg [.lit (.int .i64 0), .lit (.int .i64 0), .lit (.string [])], p)) :
    ∀ i v, [Value.int .i64 0, .int .i64 0, .string ⟨#[]⟩][i]? = some v → W.cell? ⟨0, i, none⟩ = some v := by
  obtain rfl := Option.some.inj (tNull.symm.trans ht)
  have e := val26 hd
  intro i v hi
  rw [World.var?_cell gNull hv i, ← Array.getElem?_toList, e]
  exact hi
theorem one120 : ((List.range Tryd.prog.funcs.size).filter fun f => (Tryd.prog.funcs[f]?).any (·.name.toUTF8.data.toList == [99, 104, 97, 112, 109, 97, 110, 47, 118, 97, 108, 117, 101, 46, 99, 104, 101, 99, 107, 115, 36, 49])) = [120] := by kernel_rfl
theorem one121 : ((List.range Tryd.prog.funcs.size).filter fun f => (Tryd.prog.funcs[f]?).any (·.name.toUTF8.data.toList == [99, 104, 97, 112, 109, 97, 110, 47, 118, 97, 108, 117, 101, 46, 99, 104, 101, 99, 107, 115, 36, 50])) = [121] := by kernel_rfl
theorem one122 : ((List.range Tryd.prog.funcs.size).filter fun f => (Tryd.prog.funcs[f]?).any (·.name.toUTF8.data.toList == [99, 104, 97, 112, 109, 97, 110, 47, 118, 97, 108, 117, 101, 46, 99, 104, 101, 99, 107, 115, 36, 51])) = [122] := by kernel_rfl
theorem one123 : ((List.range Tryd.prog.funcs.size).filter fun f => (Tryd.prog.funcs[f]?).any (·.name.toUTF8.data.toList == [99, 104, 97, 112, 109, 97, 110, 47, 118, 97, 108, 117, 101, 46, 99, 104, 101, 99, 107, 115, 36, 52])) = [123] := by kernel_rfl
theorem laid_checks {W : World} (h : funcsAt Tryd.prog W "chapman/value.checks" (.agg [.iface "func" (.lit (.string [99, 104, 97, 112, 109, 97, 110, 47, 118, 97, 108, 117, 101, 46, 99, 104, 101, 99, 107, 115, 36, 49])), .iface "func" (.lit (.string [99, 104, 97, 112, 109, 97, 110, 47, 118, 97, 108, 117, 101, 46, 99, 104, 101, 99, 107, 115, 36, 50])), .iface "func" (.lit (.string [99, 104, 97, 112, 109, 97, 110, 47, 118, 97, 108, 117, 101, 46, 99, 104, 101, 99, 107, 115, 36, 51])), .iface "func" (.lit (.string [99, 104, 97, 112, 109, 97, 110, 47, 118, 97, 108, 117, 101, 46, 99, 104, 101, 99, 107, 115, 36, 52]))])) : ∀ i v, [Value.func (.func 120) #[] #[], Value.func (.func 121) #[] #[], Value.func (.func 122) #[] #[], Value.func (.func 123) #[] #[]][i]? = some v → W.cell? ⟨4, i, none⟩ = some v := by
  obtain ⟨g, t, cs, fuel, p, hg, ht, hv, hd⟩ := h
  obtain rfl := Option.some.inj (gChecks.symm.trans hg)
  obtain rfl := Option.some.inj (tChecks.symm.trans ht)
  have hd' : DataW.trod (funcToken Tryd.prog) Tryd.prog W 0 (fun _ => true) true fuel 124 cs.toList = some (.agg [.held [99, 104, 97, 112, 109, 97, 110, 47, 118, 97, 108, 117, 101, 46, 99, 104, 101, 99, 107, 115, 36, 49], .held [99, 104, 97, 112, 109, 97, 110, 47, 118, 97, 108, 117, 101, 46, 99, 104, 101, 99, 107, 115, 36, 50], .held [99, 104, 97, 112, 109, 97, 110, 47, 118, 97, 108, 117, 101, 46, 99, 104, 101, 99, 107, 115, 36, 51], .held [99, 104, 97, 112, 109, 97, 110, 47, 118, 97, 108, 117, 101, 46, 99, 104, 101, 99, 107, 115, 36, 52]], p) := hd
  obtain ⟨xs, m, rfl, hx, hlen, hxl, hel⟩ := DataW.trod_array Tryd.underlying124 hd'
  rw [c124] at hlen
  obtain ⟨k0, k1, k2, k3, e⟩ := list4 hlen
  obtain ⟨x0, x1, x2, x3, rfl⟩ := list4 hxl
  have h0 := hel 0 (by decide)
  have h1 := hel 1 (by decide)
  have h2 := hel 2 (by decide)
  have h3 := hel 3 (by decide)
  rw [e] at h0 h1 h2 h3
  simp only [c103, Nat.zero_mul, Nat.one_mul, Nat.mul_one, List.drop_zero, List.drop_succ_cons, List.take_succ_cons, List.take_zero, List.getElem?_cons_zero, List.getElem?_cons_succ] at h0 h1 h2 h3
  simp only [Prod.mk.injEq, DataW.agg.injEq, List.map_cons, List.map_nil, List.cons.injEq, and_true] at hx
  obtain ⟨⟨hx0, hx1, hx2, hx3⟩, _⟩ := hx
  obtain ⟨d0, p0⟩ := x0
  obtain ⟨d1, p1⟩ := x1
  obtain ⟨d2, p2⟩ := x2
  obtain ⟨d3, p3⟩ := x3
  simp only at hx0 hx1 hx2 hx3
  subst hx0 hx1 hx2 hx3
  obtain rfl := func_of_trod Tryd.underlying103 one120 h0
  obtain rfl := func_of_trod Tryd.underlying103 one121 h1
  obtain rfl := func_of_trod Tryd.underlying103 one122 h2
  obtain rfl := func_of_trod Tryd.underlying103 one123 h3
  intro i v hi
  rw [World.var?_cell hg hv i, ← Array.getElem?_toList, e]
  exact hi
end
section
set_option linter.unusedVariables false
set_option linter.unusedSimpArgs false
open Go.RowKit
abbrev laidL : List (String × DataW Unit) := [("chapman/value.checks", Rows.laid_chapman_value_checks), ("chapman/bounds.null", Rows.laid_chapman_bounds_null), ("chapman/bounds.bools", Rows.laid_chapman_bounds_bools), ("chapman/bounds.logic", Rows.laid_chapman_bounds_logic), ("chapman/bounds.strict", Rows.laid_chapman_bounds_strict)]
theorem heap_lt {W : World} {b : Nat} {o : Obj} (h : W.heap[b]? = some o) : b < W.heap.size := by
  by_cases hg : b < W.heap.size
  · exact hg
  · rw [Array.getElem?_eq_none (by omega)] at h; cases h
theorem laid_M0 {W : World} (h : laidMetH Tryd.prog laidL W) : Laid (M0 W) := by
  have h1 := (laidMetH_iff.1 h).1
  have e : (laidL.filter fun x => x.2.handleName?.isNone) = [("chapman/bounds.null", Rows.laid_chapman_bounds_null), ("chapman/bounds.bools", Rows.laid_chapman_bounds_bools)] := by kernel_rfl
  rw [e] at h1
  obtain ⟨ps, ⟨g0, t0, cs0, f0, p0, q0, hg0, ht0, hv0, hd0, ⟨g3, t3, cs3, f3, p3, q3, hg3, ht3, hv3, hd3, _, _⟩, _⟩, _, _⟩ := h1
  obtain rfl := Option.some.inj (gNull.symm.trans hg0)
  obtain rfl := Option.some.inj (gBools.symm.trans hg3)
  have a0 := laid_null ht0 hv0 hd0
  obtain ⟨b3, en3, cl3, c3', hb3, hp3⟩ := laid_bools ht3 hv3 hd3
  have a4 := laid_checks (h.funcs (n := "chapman/value.checks") (.head _))
  obtain ⟨b1, en1, cl1, c1', hb1, hp1⟩ := laid_logic (h.funcs (n := "chapman/bounds.logic") (.tail _ (.tail _ (.tail _ (.head _)))))
  obtain ⟨b2, en2, cl2, c2', hb2, hp2⟩ := laid_strict (h.funcs (n := "chapman/bounds.strict") (.tail _ (.tail _ (.tail _ (.tail _ (.head _))))))
  intro p hp
  simp only [globs, List.mem_cons, List.not_mem_nil, or_false] at hp
  rcases hp with rfl | rfl | rfl | rfl | rfl
  · refine ⟨repCell (a0 0 _ rfl) ?_, repCell (a0 1 _ rfl) ?_, repCell (a0 2 _ rfl) ?_, trivial⟩
    all_goals (simp only [Rep]; exact ⟨trivial, rfl⟩)
  · refine ⟨repCell c1' ?_, trivial⟩
    simp only [Rep]
    exact ⟨b1, en1, cl1, rfl, heap_lt hb1, hb1, hp1⟩
  · refine ⟨repCell c2' ?_, trivial⟩
    simp only [Rep]
    exact ⟨b2, en2, cl2, rfl, heap_lt hb2, hb2, hp2⟩
  · refine ⟨repCell c3' ?_, trivial⟩
    simp only [Rep]
    exact ⟨b3, en3, cl3, rfl, heap_lt hb3, hb3, hp3⟩
  · refine ⟨repCell (a4 0 _ rfl) ?_, repCell (a4 1 _ rfl) ?_, repCell (a4 2 _ rfl) ?_, repCell (a4 3 _ rfl) ?_, trivial⟩
    all_goals (simp only [Rep]; exact ⟨trivial, rfl⟩)
set_option maxRecDepth 100000 in
theorem door_met (os : Os) (args : Array Value) : laidMetH Tryd.prog laidL ((World.doorLaid Tryd.prog 96 os).forCall (fun _ _ => 0) ⟨#[], args, []⟩).memory :=
  laidMetH_of_parts3 (fuel := 8) (laidMet_of_run' 8 (by kernel_rfl) (by kernel_rfl)) (by kernel_rfl) (by kernel_rfl)
end
section
set_option linter.unusedVariables false
set_option linter.unusedSimpArgs false
open Go.RowKit
theorem ty5 {f : Nat} {ds : List Dat} (h : tyR T (f + 1) 5 ds) : ∃ n : Int, ds = [.lit (.int .u8 n)] ∧ 0 ≤ n ∧ n < 256 := by
  simp only [tyR, T5, ti5] at h
  obtain ⟨n, h1, h2⟩ := h
  have := bounds_u8 h2
  exact ⟨n, h1, by omega⟩
theorem cut_eqs {ds a r : List Dat} {k : Nat} (h1 : ds.take k = a) (h2 : ds.drop k = r) : ds = a ++ r := by
  rw [← h1, ← h2, List.take_append_drop]
theorem ty23 {f : Nat} {ds : List Dat} (h : tyR T (f + 2) 23 ds) : ∃ b : List Int, ds = [bytesD b] ∧ ∀ x ∈ b, 0 ≤ x ∧ x < 256 := by
  rw [tyR] at h
  simp only [T23, ti23, T5, ti5] at h
  obtain ⟨rows, rfl, h⟩ := h
  obtain ⟨l, rfl, hl⟩ := rows_of (f := fun n : Int => [Dat.lit (.int .u8 n)]) (Q := fun x => 0 ≤ x ∧ x < 256) h fun r hr => ty5 hr
  exact ⟨l, rfl, hl⟩
theorem ty24 {f : Nat} {ds : List Dat} (h : tyR T (f + 3) 24 ds) : ∃ b c d : List Int, ds = [bytesD b, bytesD c, bytesD d] ∧ (∀ x ∈ b, 0 ≤ x ∧ x < 256) ∧ (∀ x ∈ c, 0 ≤ x ∧ x < 256) ∧ ∀ x ∈ d, 0 ≤ x ∧ x < 256 := by
  rw [tyR] at h
  simp only [T24, ti24, T23, ti23, List.replicate_succ, List.replicate_zero, StructR] at h
  obtain ⟨h1, h2, h3, h4⟩ := h
  obtain ⟨b, h1, hb⟩ := ty23 h1
  obtain ⟨c, h2, hc⟩ := ty23 h2
  obtain ⟨d, h3, hd⟩ := ty23 h3
  exact ⟨b, c, d, cut_eqs h1 (cut_eqs h2 (cut_eqs h3 h4)), hb, hc, hd⟩
theorem tyRs_one {f t : Nat} {ts : List Nat} {dss : List (List Dat)} (h : tyRs T f (t :: ts) dss) : ∃ ds r, dss = ds :: r ∧ tyR T f t ds ∧ tyRs T f ts r := by
  cases dss with
  | nil => exact h.elim
  | cons ds r => exact ⟨ds, r, rfl, h.1, h.2⟩
theorem tyRs_nil {f : Nat} {dss : List (List Dat)} (h : tyRs T f [] dss) : dss = [] := by
  cases dss with
  | nil => rfl
  | cons ds r => exact h.elim
end
section
set_option linter.unusedVariables false
set_option linter.unusedSimpArgs false
open Go.RowKit
theorem ty58 {f : Nat} {ds : List Dat} (h : tyR T (f + 3) 58 ds) : ∃ b c : List Int, ds = [bytesD b, bytesD c] ∧ (∀ x ∈ b, 0 ≤ x ∧ x < 256) ∧ ∀ x ∈ c, 0 ≤ x ∧ x < 256 := by
  rw [tyR] at h
  simp only [T58, ti58, T23, ti23, List.replicate_succ, List.replicate_zero, StructR] at h
  obtain ⟨h1, h2, h3⟩ := h
  obtain ⟨b, h1, hb⟩ := ty23 h1
  obtain ⟨c, h2, hc⟩ := ty23 h2
  exact ⟨b, c, cut_eqs h1 (cut_eqs h2 h3), hb, hc⟩
theorem ty39 {f : Nat} {ds : List Dat} (h : tyR T (f + 3) 39 ds) : ∃ bs : List (List Int), ds = [lists bs] ∧ ∀ b ∈ bs, ∀ x ∈ b, 0 ≤ x ∧ x < 256 := by
  rw [tyR] at h
  simp only [T39, ti39, T23, ti23] at h
  obtain ⟨rows, rfl, h⟩ := h
  obtain ⟨l, rfl, hl⟩ := rows_of (f := fun b : List Int => [bytesD b]) (Q := fun b => ∀ x ∈ b, 0 ≤ x ∧ x < 256) h fun r hr => ty23 hr
  exact ⟨l, rfl, hl⟩
theorem law6_spec : ∀ dss, tyRs T 8 [58, 39, 5] dss → Spec Tryd.prog 6 (avTys T [58, 39, 5] dss) (.d (.lit (.bool true))) := by
  intro dss h
  obtain ⟨d0, r0, rfl, h0, h⟩ := tyRs_one h
  obtain ⟨d1, r1, rfl, h1, h⟩ := tyRs_one h
  obtain ⟨d2, r2, rfl, h2, h⟩ := tyRs_one h
  obtain rfl := tyRs_nil h
  obtain ⟨b, c, rfl, hb, hc⟩ := ty58 h0
  obtain ⟨bs, rfl, hbs⟩ := ty39 h1
  obtain ⟨k, rfl, hk⟩ := ty5 h2
  have := f6_spec b c bs k hk hb hc hbs
  simp only [avTys, avTy, T5, ti5, T58, ti58, T39, ti39, List.map_cons, List.map_nil, List.headD_cons, if_true, Bool.false_eq_true, if_false]
  exact this
end
end Go.Proofs.YtopigomfhggkoaaDoor.A
