/- Plain: sums of parts, and of what was moved. Data of the arguments' types. ConstraintSums: the walk. The law ConstraintSums. -/
import Derived.Test.YtlkfbhhopkoopaaY5
import Derived.Test.YtlkfbhhopkoopaaR2
namespace Go.Proofs.Ytlkfbhhopkoopaa.A
attribute [local go_sem] Nat.reduceAdd Nat.reduceSub Nat.reduceMul Nat.reduceLT Nat.reduceLeDiff Nat.reduceEqDiff Nat.reduceBEq reduceIte reduceCtorEq e_step_none e_slotU e_slotB e_move e_assign e_pick e_unOp e_binOp e_alloc e_box e_build e_buildSlice e_load e_store e_fieldAddr e_field e_indexAddr e_index e_slice e_makeSlice e_makeFunc e_convert e_extract e_nilCheck e_len e_append e_max e_min e_call e_callV e_fn e_cap_ptr e_cap_lit e_cap_sl e_cap_fn e_fnOf_clo e_fnOf_fn e_flat_fn e_clo e_ev_tmp e_ev_int e_ev_bool e_ev_string e_ev_slice e_ev_nilFunc e_ev_nilIface e_ev_pointer e_ev_agg e_ev_func e_pickT e_pickF e_not e_neg e_add e_sub e_mul e_quo e_rem e_eql e_neq e_lss e_leq e_gtr e_geq e_shl e_shr e_and e_or e_xor e_andNot e_beq e_bne e_sadd e_seql e_sneq e_b2_d e_b2_nil e_b2_nnil e_b2_agg e_lits_nil e_lits_cons e_litC e_eqR e_eqO_e e_eqO_n e_eqV4 e_eqV3 e_eqV2 e_eqV1 e_eqFs_nil e_eqFs_cons e_and2 e_eq1 e_eqL_i e_eqL_s e_eqL_b e_allocR e_boxR e_box_agg e_box_d e_box_own e_box_clo e_one_nil e_one_d e_one_own e_one_clo e_one_ptr e_cells_agg e_cells_d e_cells_own e_cells_clo e_cells_ptr e_ob_own e_ob_ptr e_ob_elo e_ob_d e_ob_el e_ob_agg e_load_box e_load_fzb e_load_el e_load_elo e_storeX_ptr e_storeX_d e_storeX_own e_storeX_agg e_storeX_el e_storeC' e_notIn_nil e_notIn_cons e_store_box e_storeB e_store_elo e_store_elo_agg e_storeE e_fa_ptr e_fa_el e_fa_elo e_faR e_fd e_fdR e_ia_d e_ia_row e_ia_fz e_ia_ptr e_ia_el e_ix_s e_ix_a e_len_s e_len_nil e_len_d e_len_row e_len_fz e_conv_i e_conv_s e_extr e_maxR e_minR e_nil_ptr e_nil_el e_nil_elo e_rows_nil e_rows_d e_rows_row e_rows_fz e_rok_nil e_rok_d e_rok_row e_rok_fz e_app_row e_appR e_app_nil e_appN e_make e_bnd_none e_bnd_some e_optmap_none e_optmap_some e_slR e_slRe e_sl_s e_sl_d e_sl_nil e_sl_row e_sl_fz e_fill_nil e_fill_cons e_fill1 e_placeS e_plS e_placeE e_buildO e_build1 e_build2 e_build3 e_bindD e_bs e_bsR e_allD_nil e_allD_cons e_allD_el e_allD_clo e_allD2 e_allD1 e_chunk0 e_chunkS e_clP_nil e_clP_cons e_cl_d e_cl_any e_cl_el e_cl_agg e_cl_tup e_cl_clo e_cl_own e_clOwn_row e_clOwn_fz e_cl_ptr e_clPtr_box e_clBox e_clPtr_fzb e_clL_nil e_clL_cons e_ok_d e_ok_any e_ok_el e_ok_agg e_ok_tup e_ok_clo e_ok_own e_okOwn_row e_okOwn_fz e_ok_ptr e_okPtr_box e_okPtr_fzb e_okL_nil e_okL_cons e_ids_d e_ids_any e_ids_el e_ids_own e_ids_ptr e_ids_agg e_ids_tup e_ids_clo e_idsL_nil e_idsL_cons e_frz_nil e_frz_cons e_frz_row e_frz_fz e_frz_fzb e_frz_box e_frzB e_flat_lit e_flat_sl e_flat_agg e_flat_tup e_flat_any e_flat_clo e_flatL_nil e_flatL_cons e_new_lit e_new_agg e_new_tup e_new_own e_newOwn_row e_newL_nil e_newL_cons e_objD e_setMany e_takeA e_zerosA e_gdL e_idsG e_idsOp e_callV' e_callN' e_callF' e_o_move e_o_assign e_o_pick e_o_unOp e_o_binOp e_o_alloc e_o_box e_o_build e_o_buildSlice e_o_load e_o_store e_o_fieldAddr e_o_field e_o_indexAddr e_o_index e_o_slice0 e_o_slice1 e_o_slice2 e_o_slice3 e_o_makeSlice e_o_makeFunc e_o_convert e_o_extract e_o_nilCheck e_o_bcall e_o_vcall litI litB litS
attribute [local go_sem] List.map_cons List.map_nil List.getD_cons_zero List.getD_cons_succ List.getD_nil List.getElem?_cons_zero List.getElem?_cons_succ List.getElem?_nil Option.getD_some Option.getD_none Option.map_some Option.map_none List.length_cons List.length_nil List.all_cons List.all_nil Bool.and_true Bool.true_and and_true true_and and_self List.take_zero List.take_succ_cons List.drop_zero List.drop_succ_cons List.nil_append List.cons_append List.append_nil List.replicate_succ List.replicate_zero List.flatten_cons List.flatten_nil Nat.zero_add Nat.add_zero Nat.mul_one Nat.zero_mul Nat.one_mul Nat.mul_zero List.set_cons_zero List.set_cons_succ List.foldl_cons List.foldl_nil appendOk rowsOk inB sliceOk cutRows mtake mdrop List.length_append List.length_take List.length_drop if_true if_false or_false or_true true_or Bool.not_true Bool.not_false Bool.false_eq_true List.length_map Int.toNat_natCast Int.toNat_zero Int.toNat_one eq_self St.after St.put applyEff R0 T1 T2 T3 T4 T5 T9 T15 T22 T24 T25 T26 T28 T29 T30 T32 T34 T36 T39 T42 T44 T47 T49 T51 T52 T54 T55 T57 T58 T60 T64 T68 T70 T72 T74 T76 T81 T83 T87 T90 T94 T97 T102 T113 T116 T119 T131 T134 T143 T145 T149 T151 T154 ti1 ti2 ti3 ti4 ti5 ti9 ti15 ti22 ti24 ti25 ti26 ti28 ti29 ti30 ti32 ti34 ti36 ti39 ti42 ti44 ti47 ti49 ti51 ti52 ti54 ti55 ti57 ti58 ti60 ti64 ti68 ti70 ti72 ti74 ti76 ti81 ti83 ti87 ti90 ti94 ti97 ti102 ti113 ti116 ti119 ti131 ti134 ti143 ti145 ti149 ti151 ti154
section
set_option linter.unusedVariables false
set_option linter.unusedSimpArgs false
open Go.RowKit
theorem colSum_append (c : Nat) : ∀ a b : List Rw, colSum c (a ++ b) = colSum c a + colSum c b
  | [], b => by simp [colSum]
  | x :: a, b => by simp only [List.cons_append, colSum, colSum_append c a b]; omega
def numAt (c : Nat) (r : Rw) : Int := numV (r.getD c nullC).v
theorem colSum_sum (c : Nat) : ∀ l : List Rw, colSum c l = (l.map (numAt c)).sum
  | [] => rfl
  | x :: l => by simp only [colSum, List.map_cons, List.sum_cons, colSum_sum c l]; rfl
theorem sum_set : ∀ {a : List Int} {i : Nat} (x : Int), i < a.length → (a.set i x).sum + a.getD i 0 = a.sum + x
  | [], i, x, h => by simp at h
  | y :: a, 0, x, _ => by simp; omega
  | y :: a, i + 1, x, h => by
    have := sum_set (a := a) (i := i) x (by simpa using h)
    simp only [List.set_cons_succ, List.sum_cons, List.getD_cons_succ] at *
    omega
theorem numV_small {v : Vl} (h : VOk v) : -1000000000 ≤ numV v ∧ numV v ≤ 1000000000 := by
  unfold numV
  split
  · exact ⟨h.2.1, h.2.2.1⟩
  · omega
theorem colSum_small {c n : Nat} : ∀ {l : List Rw}, (∀ r ∈ l, RowV n r) → -1000000000 * (l.length : Int) ≤ colSum c l ∧ colSum c l ≤ 1000000000 * (l.length : Int)
  | [], _ => by simp [colSum]
  | x :: l, h => by
    have h1 := colSum_small (c := c) (l := l) fun r hr => h r (List.mem_cons_of_mem _ hr)
    have h2 : VOk (x.getD c nullC).v := by
      rcases Nat.lt_or_ge c x.length with hc | hc
      · exact (h x (List.mem_cons_self ..)).2 _ (getD_mem' hc nullC)
      · rw [List.getD_eq_getElem?_getD, List.getElem?_eq_none hc]; exact VOk.null
    have h3 := numV_small h2
    simp only [colSum, List.length_cons]
    push_cast
    omega
theorem StV.part {s : Sch} {st : Stt} (h : StV s st) {t : Nat} (ht : t < s.tables.length) {l : List Rw} (hl : l.Sublist (st.getD t [])) : StV s (st.set t l) :=
  h.set ht (fun r hr => h.rows t ht r (hl.subset hr)) ((h.srt t ht).sublist hl)
def movedL (n : Nat) (i j : Nat) (x y : Int) : List Int := ((List.replicate n (4000000000000000001 : Int)).set i x).set j y
theorem moved_len (n i j : Nat) (x y : Int) : (movedL n i j x y).length = n := by simp [movedL]
theorem moved_get {n i j : Nat} (x y : Int) {m : Nat} (hm : m < n) : (movedL n i j x y).getD m 0 = if j = m then y else if i = m then x else 4000000000000000001 := by
  simp only [movedL, List.getD_eq_getElem?_getD, List.getElem?_set, List.length_set, List.length_replicate]
  split
  · rename_i e; subst e; rw [if_pos hm]; rfl
  · split
    · rename_i e; subst e; rw [if_pos hm]; rfl
    · rw [List.getElem?_replicate, if_pos hm]; rfl
theorem numAt_set {r : Rw} {c : Nat} (hc : c < r.length) (n : Int) : numAt c (setV r c ⟨2, n, ⟨#[]⟩⟩) = n := by
  simp [numAt, setV, List.getD_eq_getElem?_getD, hc, numV]
/-- What was taken from one row and given to another one. -/
theorem moved_sum {c : Nat} {l : List Rw} {i j : Nat} (hij : i ≠ j) (hi : i < l.length) (hj : j < l.length) (hc : ∀ r ∈ l, c < r.length) {k : Int} (h1 : small (numAt c (l.getD i []) - k) = true) (h2 : small (numAt c (l.getD j []) + k) = true) :
    colSum c (oddRows c (movedL l.length i j (numAt c (l.getD i []) - k) (numAt c (l.getD j []) + k)) l) = colSum c l := by
  rw [colSum_sum, colSum_sum]
  have e : (oddRows c (movedL l.length i j (numAt c (l.getD i []) - k) (numAt c (l.getD j []) + k)) l).map (numAt c) = ((l.map (numAt c)).set i (numAt c (l.getD i []) - k)).set j (numAt c (l.getD j []) + k) := by
    apply List.ext_getElem
    · simp [oddRows]
    · intro m h3 h4
      have hm : m < l.length := by simpa [oddRows] using h3
      have hcm := hc _ (getD_mem' hm [])
      have hg := moved_get (i := i) (j := j) (numAt c (l.getD i []) - k) (numAt c (l.getD j []) + k) hm
      have hgl := moved_len l.length i j (numAt c (l.getD i []) - k) (numAt c (l.getD j []) + k)
      simp only [oddRows, List.getElem_map, List.getElem_range, List.getElem_set, oddRow]
      generalize movedL l.length i j (numAt c (l.getD i []) - k) (numAt c (l.getD j []) + k) = mv at *
      rw [hg, hgl, decide_eq_true hm, Bool.true_and]
      by_cases e1 : j = m
      · subst e1
        rw [if_pos rfl, if_pos rfl, if_pos h2, numAt_set hcm]
      · rw [if_neg e1, if_neg e1]
        by_cases e2 : i = m
        · subst e2
          rw [if_pos rfl, if_pos rfl, if_pos h1, numAt_set hcm]
        · rw [if_neg e2, if_neg e2, if_neg (by rw [small_f (by omega)]; exact Bool.false_ne_true), getD_get hm]
  rw [e]
  have hl : (l.map (numAt c)).length = l.length := List.length_map ..
  have a1 := sum_set (a := (l.map (numAt c)).set i (numAt c (l.getD i []) - k)) (i := j) (numAt c (l.getD j []) + k) (by rw [List.length_set, hl]; exact hj)
  have a2 := sum_set (a := l.map (numAt c)) (i := i) (numAt c (l.getD i []) - k) (by rw [hl]; exact hi)
  have g1 : ((l.map (numAt c)).set i (numAt c (l.getD i []) - k)).getD j 0 = numAt c (l.getD j []) := by
    simp only [List.getD_eq_getElem?_getD, List.getElem?_set, if_neg hij, List.getElem?_map, List.getElem?_eq_getElem hj]
    rfl
  have g2 : (l.map (numAt c)).getD i 0 = numAt c (l.getD i []) := by
    simp only [List.getD_eq_getElem?_getD, List.getElem?_map, List.getElem?_eq_getElem hi]
    rfl
  rw [g1] at a1
  rw [g2] at a2
  omega
theorem sumIn_at {s : Sch} {st : Stt} {y : Tt} (hs : s.totals = [y]) (h : small (sumOf st y) = true) : sumIn s st 0 = (sumOf st y, 0) := by
  have e0 : s.totals.getD (0 : Int).toNat ttN = y := by rw [hs]; rfl
  rw [sumIn, if_neg (by rw [hs]; simp), e0, if_pos h]
theorem sumOf_set {st : Stt} {y : Tt} (h : y.table < st.length) (l : List Rw) : sumOf (st.set y.table l) y = colSum y.column l := by
  rw [sumOf, getD_set' h, if_pos rfl]
end
section
set_option linter.unusedVariables false
set_option linter.unusedSimpArgs false
open Go.RowKit
theorem ty3 {f : Nat} {ds : List Dat} (h : tyR T (f + 1) 3 ds) : ∃ n : Int, ds = [.lit (.int .i64 n)] := by
  simp only [tyR, T3, ti3] at h
  obtain ⟨n, h1, _⟩ := h
  exact ⟨n, h1⟩
theorem ty5 {f : Nat} {ds : List Dat} (h : tyR T (f + 1) 5 ds) : ∃ n : Int, ds = [.lit (.int .u8 n)] ∧ 0 ≤ n ∧ n < 256 := by
  simp only [tyR, T5, ti5] at h
  obtain ⟨n, h1, h2⟩ := h
  have := bounds_u8 h2
  exact ⟨n, h1, by omega⟩
theorem cut_eqs {ds a r : List Dat} {k : Nat} (h1 : ds.take k = a) (h2 : ds.drop k = r) : ds = a ++ r := by
  rw [← h1, ← h2, List.take_append_drop]
theorem ty22 {f : Nat} {ds : List Dat} (h : tyR T (f + 2) 22 ds) : ∃ b : List Int, ds = [bytesD b] ∧ ∀ x ∈ b, 0 ≤ x ∧ x < 256 := by
  rw [tyR] at h
  simp only [T22, ti22, T5, ti5] at h
  obtain ⟨rows, rfl, h⟩ := h
  obtain ⟨l, rfl, hl⟩ := rows_of (f := fun n : Int => [Dat.lit (.int .u8 n)]) (Q := fun x => 0 ≤ x ∧ x < 256) h fun r hr => ty5 hr
  exact ⟨l, rfl, hl⟩
theorem ty26 {f : Nat} {ds : List Dat} (h : tyR T (f + 2) 26 ds) : ∃ b : List Int, ds = [ints b] := by
  rw [tyR] at h
  simp only [T26, ti26, T3, ti3] at h
  obtain ⟨rows, rfl, h⟩ := h
  obtain ⟨l, rfl, hl⟩ := rows_of (f := fun n : Int => [Dat.lit (.int .i64 n)]) (Q := fun x => True) h fun r hr => by
    obtain ⟨n, h⟩ := ty3 hr
    exact ⟨n, h, trivial⟩
  exact ⟨l, rfl⟩
theorem ty24 {f : Nat} {ds : List Dat} (h : tyR T (f + 3) 24 ds) : ∃ b : List Int, ds = [bytesD b] ∧ ∀ x ∈ b, 0 ≤ x ∧ x < 256 := by
  rw [tyR] at h
  simp only [T24, ti24, T22, ti22, List.map_cons, List.map_nil, StructR] at h
  obtain ⟨h1, h2⟩ := h
  obtain ⟨b, h1, hb⟩ := ty22 h1
  exact ⟨b, cut_eqs h1 h2, hb⟩
theorem ty25 {f : Nat} {ds : List Dat} (h : tyR T (f + 3) 25 ds) : ∃ b c : List Int, ds = [bytesD b, bytesD c] ∧ (∀ x ∈ b, 0 ≤ x ∧ x < 256) ∧ ∀ x ∈ c, 0 ≤ x ∧ x < 256 := by
  rw [tyR] at h
  simp only [T25, ti25, T22, ti22, List.replicate_succ, List.replicate_zero, StructR] at h
  obtain ⟨h1, h2, h3⟩ := h
  obtain ⟨b, h1, hb⟩ := ty22 h1
  obtain ⟨c, h2, hc⟩ := ty22 h2
  exact ⟨b, c, cut_eqs h1 (cut_eqs h2 h3), hb, hc⟩
theorem ty81 {f : Nat} {ds : List Dat} (h : tyR T (f + 2) 81 ds) : ∃ a b : Int, ds = [.lit (.int .u8 a), .lit (.int .u8 b)] ∧ (0 ≤ a ∧ a < 256) ∧ 0 ≤ b ∧ b < 256 := by
  rw [tyR] at h
  simp only [T81, ti81, T5, ti5, List.replicate_succ, List.replicate_zero, StructR] at h
  obtain ⟨h1, h2, h3⟩ := h
  obtain ⟨b, h1, hb⟩ := ty5 h1
  obtain ⟨c, h2, hc⟩ := ty5 h2
  exact ⟨b, c, cut_eqs h1 (cut_eqs h2 h3), hb, hc⟩
theorem ty87 {f : Nat} {ds : List Dat} (h : tyR T (f + 2) 87 ds) : ∃ a b c : Int, ds = [.lit (.int .u8 a), .lit (.int .u8 b), .lit (.int .u8 c)] ∧ (0 ≤ a ∧ a < 256) ∧ (0 ≤ b ∧ b < 256) ∧ 0 ≤ c ∧ c < 256 := by
  rw [tyR] at h
  simp only [T87, ti87, T5, ti5, List.replicate_succ, List.replicate_zero, StructR] at h
  obtain ⟨h1, h2, h3, h4⟩ := h
  obtain ⟨b, h1, hb⟩ := ty5 h1
  obtain ⟨c, h2, hc⟩ := ty5 h2
  obtain ⟨d, h3, hd⟩ := ty5 h3
  exact ⟨b, c, d, cut_eqs h1 (cut_eqs h2 (cut_eqs h3 h4)), hb, hc, hd⟩
theorem tyRs_one {f t : Nat} {ts : List Nat} {dss : List (List Dat)} (h : tyRs T f (t :: ts) dss) : ∃ ds r, dss = ds :: r ∧ tyR T f t ds ∧ tyRs T f ts r := by
  cases dss with
  | nil => exact h.elim
  | cons ds r => exact ⟨ds, r, rfl, h.1, h.2⟩
theorem tyRs_nil {f : Nat} {dss : List (List Dat)} (h : tyRs T f [] dss) : dss = [] := by
  cases dss with
  | nil => rfl
  | cons ds r => exact h.elim
end
section
set_option linter.unusedVariables false
set_option linter.unusedSimpArgs false
open Go.RowKit
attribute [local irreducible] AWp evOps evD
theorem set_self {st : Stt} {t : Nat} (h : t < st.length) : st.set t (st.getD t []) = st := by
  apply List.ext_getElem
  · simp
  · intro i h1 h2
    rw [List.getElem_set]
    split
    · rename_i e; subst e; rw [getD_get h2]
    · rfl
theorem rem_nat {a : Int} (ha : 0 ≤ a) {n : Nat} (hn : 0 < n) : ∃ t : Nat, a.tmod (n : Int) = t ∧ t < n := by
  have h1 := Int.tmod_nonneg (n : Int) ha
  have h2 := Int.tmod_lt_of_pos a (b := (n : Int)) (by omega)
  exact ⟨(a.tmod (n : Int)).toNat, by omega, by omega⟩
theorem f19_at {s : Sch} {st : Stt} {y : Tt} {i : Nat} {l : List Rw} (h : SchOk s) (hst : StV s st) (hc : cnt st ≤ 15) (hy : s.totals = [y]) (hi : i < s.totals.length) (hl : l.Sublist (st.getD y.table [])) :
    Spec Try.prog 19 [.agg (schA s), .agg (stA (st.set y.table l)), litI .i64 (i : Int)] (.agg [litI .i64 (colSum y.column l), litI .i64 0]) := by
  have ht := (h.tots y (by rw [hy]; exact List.mem_cons_self ..)).1
  have htl : y.table < st.length := by rw [hst.len]; exact ht
  have hv := hst.part ht hl
  have hcs := cnt_set (st := st) (t := y.table) htl l
  have hll := hl.length_le
  have hcl := cnt_le (st := st) y.table
  have hok := hv.ok (by omega)
  have := f19_spec s (st.set y.table l) i h hok
  have hi0 : i = 0 := by rw [hy] at hi; simp at hi; exact hi
  subst hi0
  have hb := colSum_small (c := y.column) (l := l) fun r hr => hst.rows _ ht r (hl.subset hr)
  have hs := sumIn_at (st := st.set y.table l) hy (by rw [sumOf_set htl]; exact small_t (by omega))
  rw [show ((0 : Nat) : Int) = 0 from rfl, hs, sumOf_set htl] at this
  exact this
theorem f19_odd {s : Sch} {st : Stt} {y : Tt} {i j : Nat} {k : Int} (h : SchOk s) (hst : StV s st) (hc : cnt st ≤ 15) (hy : s.totals = [y]) (hij : i ≠ j) (hi : i < (st.getD y.table []).length) (hj : j < (st.getD y.table []).length) (hk : 0 ≤ k ∧ k < 256)
    (e1 : (((st.getD y.table []).getD i []).getD y.column nullC).v.k = 2) (e2 : (((st.getD y.table []).getD j []).getD y.column nullC).v.k = 2) :
    Spec Try.prog 19 [.agg (schA s), .agg (stA (oddM s st (movedL (st.getD y.table []).length i j ((((st.getD y.table []).getD i []).getD y.column nullC).v.i - k) ((((st.getD y.table []).getD j []).getD y.column nullC).v.i + k)))), litI .i64 0] (.agg [litI .i64 (colSum y.column (st.getD y.table [])), litI .i64 0]) := by
  obtain ⟨ht, ht2, -⟩ := h.tots y (by rw [hy]; exact List.mem_cons_self ..)
  have htl : y.table < st.length := by rw [hst.len]; exact ht
  have hcl := cnt_le (st := st) y.table
  have hrows := hst.rows _ ht
  have hso := odd_sts h (hst.sts (by omega)) (movedL (st.getD y.table []).length i j ((((st.getD y.table []).getD i []).getD y.column nullC).v.i - k) ((((st.getD y.table []).getD j []).getD y.column nullC).v.i + k))
  have := f19_spec s _ 0 h hso.toStOk
  have hb := colSum_small (c := y.column) hrows
  have n1 : numAt y.column ((st.getD y.table []).getD i []) = (((st.getD y.table []).getD i []).getD y.column nullC).v.i := by rw [numAt, numV, if_pos e1]
  have n2 : numAt y.column ((st.getD y.table []).getD j []) = (((st.getD y.table []).getD j []).getD y.column nullC).v.i := by rw [numAt, numV, if_pos e2]
  have hri := hrows _ (getD_mem' hi [])
  have hrj := hrows _ (getD_mem' hj [])
  have b1 := hri.2 _ (getD_mem' (by rw [hri.1]; exact ht2) nullC)
  have b2 := hrj.2 _ (getD_mem' (by rw [hrj.1]; exact ht2) nullC)
  have b1a := b1.2.1
  have b1b := b1.2.2.1
  have b2a := b2.2.1
  have b2b := b2.2.2.1
  have hm := moved_sum (c := y.column) (k := k) hij hi hj (fun r hr => by rw [(hrows r hr).1]; exact ht2) (small_t (by rw [n1]; omega)) (small_t (by rw [n2]; omega))
  rw [n1, n2] at hm
  have ho : ∀ mv, oddM s st mv = st.set y.table (oddRows y.column mv (st.getD y.table [])) := fun mv => by
    unfold oddM; rw [hy]
  rw [ho] at this ⊢
  have hs := sumIn_at (st := st.set y.table (oddRows y.column (movedL (st.getD y.table []).length i j ((((st.getD y.table []).getD i []).getD y.column nullC).v.i - k) ((((st.getD y.table []).getD j []).getD y.column nullC).v.i + k)) (st.getD y.table []))) hy (by rw [sumOf_set htl, hm]; exact small_t (by omega))
  rw [hs, sumOf_set htl, hm] at this
  exact this
def mvT (n m : Nat) : List Int := List.replicate m 4000000000000000001 ++ List.replicate (n - m) 0
theorem mvT_len {n m : Nat} (h : m ≤ n) : (mvT n m).length = n := by simp [mvT]; omega
theorem mvT_succ {n m : Nat} (h : m < n) : (mvT n m).set m 4000000000000000001 = mvT n (m + 1) := by
  unfold mvT
  rw [List.set_append_right _ _ (by simp)]
  simp only [List.length_replicate, Nat.sub_self]
  obtain ⟨d, hd⟩ : ∃ d, n - m = d + 1 := ⟨n - m - 1, by omega⟩
  rw [hd, show n - (m + 1) = d from by omega, List.replicate_succ, List.set_cons_zero, List.replicate_succ', List.append_assoc]
  rfl
theorem mvT_all (n : Nat) : mvT n n = List.replicate n 4000000000000000001 := by simp [mvT]
set_option maxHeartbeats 32000000 in
set_option maxRecDepth 10000 in
theorem f8_spec (b b0 : List Int) (ka kb kc : Int) (hb : ∀ x ∈ b, 0 ≤ x ∧ x < 256) (hb0 : ∀ x ∈ b0, 0 ≤ x ∧ x < 256) (hka : 0 ≤ ka ∧ ka < 256) (hkb : 0 ≤ kb ∧ kb < 256) (hkc : 0 ≤ kc ∧ kc < 256) : Spec Try.prog 8 [.agg [.d (bytesD b)], .d (bytesD b0), .agg [litI .u8 ka, litI .u8 kb, litI .u8 kc]] (litB true) := by
  have h := madeS_ok hb
  have h10 := f10_spec b hb
  generalize madeS b = s at *
  have k0 := madeM_ok h hb0
  have h110 := f11_spec s b0 h hb0
  generalize madeM s b0 = st at *
  obtain ⟨hst, hcnt⟩ := k0
  have hrl := h.rlen
  have htl := h.totlen
  have htb := h.tlen
  have hsl := hst.len
  have wa : IntKind.i64.wrap ka = ka := wrap_id (by omega)
  have wb : IntKind.i64.wrap kb = kb := wrap_id (by omega)
  have wc : IntKind.i64.wrap kc = kc := wrap_id (by omega)
  refine spec_of_awp (fn := Try.f8) Try.func8 (by kernel_rfl) rfl ?_
  intro w0 C0
  simp only [Try.ntmps8, litI, litB, litS, List.length_cons, List.length_nil, Nat.reduceAdd, Nat.reduceSub, List.replicate_succ, List.replicate_zero, List.cons_append, List.nil_append]
  repeat' first
    | refine awp_seq ?_
    | refine awp_block ?_
    | refine awp_skip ?_
    | (refine reg _ (by (simp only [List.map_cons, List.map_nil]; rfl)) rfl ?_; intro K hK)
    | (refine awp_cond _ (by rfl) ?_ ?_ <;> (intro hb; first | (cases hb; done) | (have ht : true = true := hb; clear ht hb) | (have ht : false = false := hb; clear ht hb) | (simp only [hb]) | skip))
    | (refine awp_exit ?_; simp only [thenA, blockA, scopeA, reduceIte, RetQ, Nat.reduceEqDiff])
    | (refine awp_ret ?_; simp only [thenA, blockA, scopeA, RetQ])
    | (refine ev_nil (hK _ ?_); clear hK K)
    | (apply ev_guardU; (case hj | hu | hσ => (simp only [go_sem, Bool.and_false, Bool.false_and, Bool.and_self]; try rfl)))
    | (refine ev_guardT _ _ (by (simp only [go_sem, Bool.and_false, Bool.false_and, Bool.and_self]; rfl)) (by (simp only [go_sem, Bool.and_false, Bool.false_and, Bool.and_self]; rfl)) ?_ ?_ <;> (intro hb; first | (cases hb; done) | (have ht : true = true := hb; clear ht hb) | (have ht : false = false := hb; clear ht hb) | (simp only [hb]) | skip))
    | (refine ev_guardF _ _ (by (simp only [go_sem, Bool.and_false, Bool.false_and, Bool.and_self]; rfl)) (by (simp only [go_sem, Bool.and_false, Bool.false_and, Bool.and_self]; rfl)) ?_ ?_ <;> (intro hb; first | (cases hb; done) | (have ht : true = true := hb; clear ht hb) | (have ht : false = false := hb; clear ht hb) | (simp only [hb]) | skip))
    | (apply ev_call0; (case hys => (simp only [go_sem, Bool.and_false, Bool.false_and, Bool.and_self]; try rfl)); (case hs => first | exact f9_spec .. | exact h10 .. | exact h110 ..); (case hok | hσ => (simp only [go_sem, Bool.and_false, Bool.false_and, Bool.and_self]; try rfl)))
    | (apply regD; (case hd => (simp only [List.map_cons, List.map_nil]; rfl)); (case hok => rfl); (case' h => (intro K hK; (repeat' first
        | (apply evd_nil; refine (hK _ ?_); clear hK K)
        | (apply evd_call0; (case hi | hys => (simp only [go_sem, Bool.and_false, Bool.false_and, Bool.and_self]; try rfl)); (case hs => first | exact f9_spec .. | exact h10 .. | exact h110 ..); (case hok | hw | hσ => (simp only [go_sem, Bool.and_false, Bool.false_and, Bool.and_self]; try rfl)))
        | (apply evd_step0; (case hr | hi | hσ => (simp only [go_sem, Bool.and_false, Bool.false_and, Bool.and_self]; try rfl)); (case hc => (first | trivial | decide | (simp only [inB, sliceOk, appendOk, rowsOk]; omega) | (simp [inB, sliceOk, appendOk, rowsOk]; omega))))
        | (apply evd_step; (case hr | hi => (simp only [go_sem, Bool.and_false, Bool.false_and, Bool.and_self]; try rfl)); (case hc => (first | trivial | decide | (simp only [inB, sliceOk, appendOk, rowsOk]; omega) | (simp [inB, sliceOk, appendOk, rowsOk]; omega))); (case hw | hσ => (intro g u; simp only [go_sem, Bool.and_false, Bool.false_and, Bool.and_self]; try rfl)); (case' hk => (intro g u; (try clear u); (try clear g))))
        | fail))); (case hB => kernel_rfl))
    | (apply ev_step0; (case hr | hσ => (simp only [go_sem, Bool.and_false, Bool.false_and, Bool.and_self]; try rfl)); (case hc => (first | trivial | decide | (simp only [inB, sliceOk, appendOk, rowsOk]; omega) | (simp [inB, sliceOk, appendOk, rowsOk]; omega))))
    | (apply ev_step; (case hr => (simp only [go_sem, Bool.and_false, Bool.false_and, Bool.and_self]; try rfl)); (case hσ => (intro g u; simp only [go_sem, Bool.and_false, Bool.false_and, Bool.and_self]; try rfl)); (case hc => (first | trivial | decide | (simp only [inB, sliceOk, appendOk, rowsOk]; omega) | (simp [inB, sliceOk, appendOk, rowsOk]; omega))); intro g u; (try clear u); (try clear g))
    | fail
  rename_i g3 g5 g8
  revert g; intro g9
  clear h10 h110
  refine awp_loopI (fun i : Nat => i ≤ s.totals.length) (fun i => s.totals.length - i) (fun i => ⟨[.any, .any, .any, .any, .any, .ptr 5 g5 0, .any, litB true, .ptr 8 g8 0, .ptr 9 g9 0, litI .i64 i, .any, .any, .any, .any, .any, .any, .any, .any, .any, .any, .any, .any, .any, .any, .any, .any, .any, .any, .any, .any, .any, .any, .any, .any, .any, .any, .any, .any, .any, .any, .any, .any, .any, .any, .any, .any, .any, .any, .any, .any, .any, .any, .any, .any, .any, .any, .any, .any, .any, .any, .any, .any, .any, .any, .any, .any, .any, .any, .any, .any, .any, .any, .any, .any, .any, .any, .any, .any, .any, .any, .any, .any, .any, .any, .any, .any, .any, .any, .any, .any, .any, .any, .any, .any, .any, .any, .any, .any, .any, .any, .any, .any, .any, .any, .any, .any, .any, .any, .any, .any, .any, .any, .any, .any, .any, .any, .any, .any, .any, .any, .any, .any, .any, .any, .any, .any, .any, .any, .any, .any, .any, .any, .any, .any, .any, .any, .any, .any, .any, .any, .any, .any, .any, .any, .any, .any, .any, .any, .any, .any, .any, .any, .any, .any, .any, .any, .any, .any, .any, .any, .any, .any, .any, .any, .any, .any, .any, .any, .any, .any, .any, .any, .any, .any, .any, .any, .any, .any, .any, .any, .any, .any, .any, .any, .any, .any, .any, .any, .any, .any, .any, .any, .any, .any, .any, .any, .any, .any, .any, .any, .any, .any, .any, .any, .any, .any, .any, .any, .any, .any, .any, .any, .any, .any], [.no, .no, .no, .no, .no, .box g5 [litI .u8 ka, litI .u8 kb, litI .u8 kc], .no, .no, .box g8 (schA s), .box g9 (stA st), .no, .no, .no, .no, .no, .no, .no, .no, .no, .no, .no, .no, .no, .no, .no, .no, .no, .no, .no, .no, .no, .no, .no, .no, .no, .no, .no, .no, .no, .no, .no, .no, .no, .no, .no, .no, .no, .no, .no, .no, .no, .no, .no, .no, .no, .no, .no, .no, .no, .no, .no, .no, .no, .no, .no, .no, .no, .no, .no, .no, .no, .no, .no, .no, .no, .no, .no, .no, .no, .no, .no, .no, .no, .no, .no, .no, .no, .no, .no, .no, .no, .no, .no, .no, .no, .no, .no, .no, .no, .no, .no, .no, .no, .no, .no, .no, .no, .no, .no, .no, .no, .no, .no, .no, .no, .no, .no, .no, .no, .no, .no, .no, .no, .no, .no, .no, .no, .no, .no, .no, .no, .no, .no, .no, .no, .no, .no, .no, .no, .no, .no, .no, .no, .no, .no, .no, .no, .no, .no, .no, .no, .no, .no, .no, .no, .no, .no, .no, .no, .no, .no, .no, .no, .no, .no, .no, .no, .no, .no, .no, .no, .no, .no, .no, .no, .no, .no, .no, .no, .no, .no, .no, .no, .no, .no, .no, .no, .no, .no, .no, .no, .no, .no, .no, .no, .no, .no, .no, .no, .no, .no, .no, .no, .no, .no, .no, .no, .no, .no, .no, .no, .no, .no, .no, .no]⟩) 0 (by omega) ?_ ?_
  · refine Wk.mk ?_ ?_
    all_goals (repeat' first | exact trivial | exact LeA.refl _ | exact LeA.any _ | exact LeO.refl _ | exact LeO.no _ | exact LeA.nil _ | exact LeA.nilOwn _ | exact LeO.nil _ _ _ | refine LeO.box ?_ | (refine LeA.i ?_; (first | rfl | (push_cast; rfl) | (rw [wrap_id (by omega)]; push_cast; omega) | (simp [wrap_id]; omega))) | refine ⟨?_, ?_⟩)
  intro t ht
  simp only [litI, litB] at ht ⊢
  by_cases h1 : t < s.totals.length
  rotate_left
  · have d1 : decide ((t : Int) < (s.totals.length : Int)) = false := decide_eq_false (by omega)
    repeat' first
      | refine awp_seq ?_
      | refine awp_block ?_
      | refine awp_skip ?_
      | (refine reg _ (by (simp only [List.map_cons, List.map_nil]; rfl)) rfl ?_; intro K hK)
      | (refine awp_cond _ (by rfl) ?_ ?_ <;> (intro hb; first | (cases hb; done) | (have ht : true = true := hb; clear ht hb) | (have ht : false = false := hb; clear ht hb) | (simp only [hb]) | skip))
      | (refine awp_exit ?_; simp only [thenA, blockA, scopeA, reduceIte, RetQ, Nat.reduceEqDiff])
      | (refine awp_ret ?_; simp only [thenA, blockA, scopeA, RetQ])
      | (refine ev_nil (hK _ ?_); clear hK K)
      | (apply ev_guardU; (case hj | hu | hσ => (simp only [go_sem, d1]; try rfl)))
      | (refine ev_guardT _ _ (by (simp only [go_sem, d1]; rfl)) (by (simp only [go_sem, d1]; rfl)) ?_ ?_ <;> (intro hb; first | (cases hb; done) | (have ht : true = true := hb; clear ht hb) | (have ht : false = false := hb; clear ht hb) | (simp only [hb]) | skip))
      | (refine ev_guardF _ _ (by (simp only [go_sem, d1]; rfl)) (by (simp only [go_sem, d1]; rfl)) ?_ ?_ <;> (intro hb; first | (cases hb; done) | (have ht : true = true := hb; clear ht hb) | (have ht : false = false := hb; clear ht hb) | (simp only [hb]) | skip))
      | (apply regD; (case hd => (simp only [List.map_cons, List.map_nil]; rfl)); (case hok => rfl); (case' h => (intro K hK; (repeat' first
        | (apply evd_nil; refine (hK _ ?_); clear hK K)
        | (apply evd_step0; (case hr | hi | hσ => (simp only [go_sem, d1]; try rfl)); (case hc => (first | trivial | decide | (simp only [inB, sliceOk, appendOk, rowsOk]; omega) | (simp [inB, sliceOk, appendOk, rowsOk]; omega))))
        | (apply evd_step; (case hr | hi => (simp only [go_sem, d1]; try rfl)); (case hc => (first | trivial | decide | (simp only [inB, sliceOk, appendOk, rowsOk]; omega) | (simp [inB, sliceOk, appendOk, rowsOk]; omega))); (case hw | hσ => (intro g u; simp only [go_sem, d1]; try rfl)); (case' hk => (intro g u; (try clear u); (try clear g))))
        | fail))); (case hB => kernel_rfl))
      | (apply ev_step0; (case hr | hσ => (simp only [go_sem, d1]; try rfl)); (case hc => (first | trivial | decide | (simp only [inB, sliceOk, appendOk, rowsOk]; omega) | (simp [inB, sliceOk, appendOk, rowsOk]; omega))))
      | (apply ev_step; (case hr => (simp only [go_sem, d1]; try rfl)); (case hσ => (intro g u; simp only [go_sem, d1]; try rfl)); (case hc => (first | trivial | decide | (simp only [inB, sliceOk, appendOk, rowsOk]; omega) | (simp [inB, sliceOk, appendOk, rowsOk]; omega))); intro g u; (try clear u); (try clear g))
      | fail
    all_goals (refine resR_one T_ok rfl _ (by (simp only [go_sem, resA]; rfl)) (by first | trivial | (simp only [go_sem, resA])) (by first | trivial | (simp only [go_sem])) ?_; simp only [go_sem])
    exact LeA.refl _
  have d1 : decide ((t : Int) < (s.totals.length : Int)) = true := decide_eq_true (by omega)
  have hx := tts_at s.totals h1
  obtain ⟨y, hy⟩ : ∃ y, s.totals = [y] := by
    cases htt : s.totals with
    | nil => rw [htt] at h1; simp at h1
    | cons y l =>
      rw [htt] at htl
      have : l = [] := List.eq_nil_of_length_eq_zero (by simp only [List.length_cons] at htl; omega)
      exact ⟨y, by rw [this]⟩
  have ht0 : t = 0 := by rw [hy] at h1; simp at h1; exact h1
  have hy0 : s.totals.getD t ttN = y := by rw [hy, ht0]; rfl
  have hcut : List.drop t (List.take (t + 1) s.totals) = s.totals := by rw [hy, ht0]; rfl
  have w1 : IntKind.i64.wrap ((t : Int) + 1) = ((t + 1 : Nat) : Int) := by rw [wrap_id (by omega)]; push_cast; rfl
  rw [hy0] at hx
  clear hy0 ht0
  obtain ⟨hyt, hyc, -⟩ := h.tots y (by rw [hy]; exact List.mem_cons_self ..)
  have hkc2 := h.keys _ hyt
  have hylt : y.table < st.length := by omega
  have hr := stt_at st hylt
  have hcl := cnt_le (st := st) y.table
  have hrv := hst.rows _ hyt
  have c19 := fun (l : List Rw) hl => f19_at (y := y) (i := t) (l := l) h hst hcnt hy h1 hl
  have c19o := fun (i j : Nat) hij hi hj e1 e2 => f19_odd (k := ka) (i := i) (j := j) h hst hcnt hy hij hi hj hka e1 e2
  have c13 := fun n => f13_spec s st n h (hst.ok (by omega))
  have c19a := c19 _ (List.Sublist.refl _)
  rw [set_self hylt] at c19a
  generalize st.getD y.table [] = R at *
  obtain ⟨nn, hnn, hnl⟩ := rem_nat (n := R.length + 1) hka.1 (by omega)
  push_cast at hnn
  have w2 : IntKind.i64.wrap ((R.length : Int) + 1) = (R.length : Int) + 1 := wrap_id (by omega)
  have c19b := c19 _ (List.take_sublist nn R)
  have c19c := c19 _ (List.drop_sublist nn R)
  have hpq := colSum_append y.column (R.take nn) (R.drop nn)
  rw [List.take_append_drop] at hpq
  have hQ : List.drop nn (List.take R.length R) = R.drop nn := by rw [List.take_length]
  have hb1 := colSum_small (c := y.column) (l := R.take nn) fun r hr => hrv r (List.mem_of_mem_take hr)
  have hb2 := colSum_small (c := y.column) (l := R.drop nn) fun r hr => hrv r (List.mem_of_mem_drop hr)
  have hs1 : ((st.map fun t => [rwsD t]).set y.table [rwsD (R.take nn)]) = (st.set y.table (R.take nn)).map fun t => [rwsD t] := by rw [List.map_set]
  have hs2 : ((st.map fun t => [rwsD t]).set y.table [rwsD (R.drop nn)]) = (st.set y.table (R.drop nn)).map fun t => [rwsD t] := by rw [List.map_set]
  have hl1 : (R.take nn).length ≤ 15 := by rw [List.length_take]; omega
  have hl2 : (R.drop nn).length ≤ 15 := by rw [List.length_drop]; omega
  rw [hpq] at c19a c19o
  generalize colSum y.column (R.take nn) = p at *
  generalize colSum y.column (R.drop nn) = q at *
  obtain ⟨P, hP⟩ : ∃ P, R.take nn = P := ⟨_, rfl⟩
  rw [hP] at c19b hb1 hs1 hl1
  generalize R.drop nn = Q at *
  have hne : ((p + q) != (p + q)) = false := by simp
  clear hpq
  have hz0 : ((0 : Int) != 0) = false := rfl
  have wpq : IntKind.i64.wrap (p + q) = p + q := wrap_id (by omega)
  cases hn : decide ((R.length : Int) < 2) with
  | true =>
    repeat' first
      | refine awp_seq ?_
      | refine awp_block ?_
      | refine awp_skip ?_
      | (refine reg _ (by (simp only [List.map_cons, List.map_nil]; rfl)) rfl ?_; intro K hK)
      | (refine awp_cond _ (by rfl) ?_ ?_ <;> (intro hb; first | (cases hb; done) | (have ht : true = true := hb; clear ht hb) | (have ht : false = false := hb; clear ht hb) | (simp only [hb]) | skip))
      | (refine awp_exit ?_; simp only [thenA, blockA, scopeA, reduceIte, RetQ, Nat.reduceEqDiff])
      | (refine awp_ret ?_; simp only [thenA, blockA, scopeA, RetQ])
      | (refine ev_nil (hK _ ?_); clear hK K)
      | (apply ev_guardU; (case hj | hu | hσ => (simp only [go_sem, Int.reduceToNat, hz0, wpq, d1, hx, hr, w2, wa, hnn, hP, hQ, hs1, hs2, hne, hn]; try rfl)))
      | (refine ev_guardT _ _ (by (simp only [go_sem, Int.reduceToNat, hz0, wpq, d1, hx, hr, w2, wa, hnn, hP, hQ, hs1, hs2, hne, hn]; rfl)) (by (simp only [go_sem, Int.reduceToNat, hz0, wpq, d1, hx, hr, w2, wa, hnn, hP, hQ, hs1, hs2, hne, hn]; rfl)) ?_ ?_ <;> (intro hb; first | (cases hb; done) | (have ht : true = true := hb; clear ht hb) | (have ht : false = false := hb; clear ht hb) | (simp only [hb]) | skip))
      | (refine ev_guardF _ _ (by (simp only [go_sem, Int.reduceToNat, hz0, wpq, d1, hx, hr, w2, wa, hnn, hP, hQ, hs1, hs2, hne, hn]; rfl)) (by (simp only [go_sem, Int.reduceToNat, hz0, wpq, d1, hx, hr, w2, wa, hnn, hP, hQ, hs1, hs2, hne, hn]; rfl)) ?_ ?_ <;> (intro hb; first | (cases hb; done) | (have ht : true = true := hb; clear ht hb) | (have ht : false = false := hb; clear ht hb) | (simp only [hb]) | skip))
      | (apply ev_call0; (case hys => (simp only [go_sem, Int.reduceToNat, hz0, wpq, d1, hx, hr, w2, wa, hnn, hP, hQ, hs1, hs2, hne, hn]; try rfl)); (case hs => first | exact c19a .. | exact c19b .. | exact c19c ..); (case hok | hσ => (simp only [go_sem, Int.reduceToNat, hz0, wpq, d1, hx, hr, w2, wa, hnn, hP, hQ, hs1, hs2, hne, hn]; try rfl)))
      | (apply regD; (case hd => (simp only [List.map_cons, List.map_nil]; rfl)); (case hok => rfl); (case' h => (intro K hK; (repeat' first
        | (apply evd_nil; refine (hK _ ?_); clear hK K)
        | (apply evd_call0; (case hi | hys => (simp only [go_sem, Int.reduceToNat, hz0, wpq, d1, hx, hr, w2, wa, hnn, hP, hQ, hs1, hs2, hne, hn]; try rfl)); (case hs => first | exact c19a .. | exact c19b .. | exact c19c ..); (case hok | hw | hσ => (simp only [go_sem, Int.reduceToNat, hz0, wpq, d1, hx, hr, w2, wa, hnn, hP, hQ, hs1, hs2, hne, hn]; try rfl)))
        | (apply evd_step0; (case hr | hi | hσ => (simp only [go_sem, Int.reduceToNat, hz0, wpq, d1, hx, hr, w2, wa, hnn, hP, hQ, hs1, hs2, hne, hn]; try rfl)); (case hc => (first | trivial | decide | (simp only [inB, sliceOk, appendOk, rowsOk]; omega) | (simp [inB, sliceOk, appendOk, rowsOk]; omega))))
        | (apply evd_step; (case hr | hi => (simp only [go_sem, Int.reduceToNat, hz0, wpq, d1, hx, hr, w2, wa, hnn, hP, hQ, hs1, hs2, hne, hn]; try rfl)); (case hc => (first | trivial | decide | (simp only [inB, sliceOk, appendOk, rowsOk]; omega) | (simp [inB, sliceOk, appendOk, rowsOk]; omega))); (case hw | hσ => (intro g u; simp only [go_sem, Int.reduceToNat, hz0, wpq, d1, hx, hr, w2, wa, hnn, hP, hQ, hs1, hs2, hne, hn]; try rfl)); (case' hk => (intro g u; (try clear u); (try clear g))))
        | fail))); (case hB => kernel_rfl))
      | (apply ev_step0; (case hr | hσ => (simp only [go_sem, Int.reduceToNat, hz0, wpq, d1, hx, hr, w2, wa, hnn, hP, hQ, hs1, hs2, hne, hn]; try rfl)); (case hc => (first | trivial | decide | (simp only [inB, sliceOk, appendOk, rowsOk]; omega) | (simp [inB, sliceOk, appendOk, rowsOk]; omega))))
      | (apply ev_step; (case hr => (simp only [go_sem, Int.reduceToNat, hz0, wpq, d1, hx, hr, w2, wa, hnn, hP, hQ, hs1, hs2, hne, hn]; try rfl)); (case hσ => (intro g u; simp only [go_sem, Int.reduceToNat, hz0, wpq, d1, hx, hr, w2, wa, hnn, hP, hQ, hs1, hs2, hne, hn]; try rfl)); (case hc => (first | trivial | decide | (simp only [inB, sliceOk, appendOk, rowsOk]; omega) | (simp [inB, sliceOk, appendOk, rowsOk]; omega))); intro g u; (try clear u); (try clear g))
      | fail
    refine Exists.intro (t + 1) ⟨by omega, by omega, ?_⟩
    refine Wk.mk ?_ ?_
    all_goals (repeat' first | exact trivial | exact LeA.refl _ | exact LeA.any _ | exact LeO.refl _ | exact LeO.no _ | exact LeA.nil _ | exact LeA.nilOwn _ | exact LeO.nil _ _ _ | refine LeO.box ?_ | (refine LeA.i ?_; (first | rfl | (push_cast; rfl) | (rw [wrap_id (by omega)]; push_cast; omega) | (simp [wrap_id]; omega))) | refine ⟨?_, ?_⟩)
  | false =>
  have hlp : 2 ≤ R.length := by have := of_decide_eq_false hn; omega
  obtain ⟨i, hi, hil⟩ := rem_nat (n := R.length) hkb.1 (by omega)
  obtain ⟨j, hj, hjl⟩ := rem_nat (n := R.length) hkc.1 (by omega)
  have c19d := fun hij => c19o i j hij hil hjl
  have hwi := rws_at R hil
  have hwj := rws_at R hjl
  have hri := hrv _ (getD_mem' hil [])
  have hrj := hrv _ (getD_mem' hjl [])
  generalize R.getD i [] = ri at *
  generalize R.getD j [] = rj at *
  have hli := hri.1
  have hlj := hrj.1
  have hci := cls_at ri (i := y.column) (by omega)
  have hcj := cls_at rj (i := y.column) (by omega)
  have hvi := hri.2 _ (getD_mem' (l := ri) (i := y.column) (by omega) nullC)
  have hvj := hrj.2 _ (getD_mem' (l := rj) (i := y.column) (by omega) nullC)
  generalize ri.getD y.column nullC = ci at *
  generalize rj.getD y.column nullC = cj at *
  have b1a := hvi.2.1
  have b1b := hvi.2.2.1
  have b2a := hvj.2.1
  have b2b := hvj.2.2.1
  cases e0 : ((i : Int) == (j : Int)) with
  | true =>
    repeat' first
      | refine awp_seq ?_
      | refine awp_block ?_
      | refine awp_skip ?_
      | (refine reg _ (by (simp only [List.map_cons, List.map_nil]; rfl)) rfl ?_; intro K hK)
      | (refine awp_cond _ (by rfl) ?_ ?_ <;> (intro hb; first | (cases hb; done) | (have ht : true = true := hb; clear ht hb) | (have ht : false = false := hb; clear ht hb) | (simp only [hb]) | skip))
      | (refine awp_exit ?_; simp only [thenA, blockA, scopeA, reduceIte, RetQ, Nat.reduceEqDiff])
      | (refine awp_ret ?_; simp only [thenA, blockA, scopeA, RetQ])
      | (refine ev_nil (hK _ ?_); clear hK K)
      | (apply ev_guardU; (case hj | hu | hσ => (simp only [go_sem, Int.reduceToNat, hz0, wpq, d1, hx, hr, w2, wa, wb, wc, hnn, hP, hQ, hs1, hs2, hne, hn, hi, hj, hwi, hwj, hci, hcj, e0]; try rfl)))
      | (refine ev_guardT _ _ (by (simp only [go_sem, Int.reduceToNat, hz0, wpq, d1, hx, hr, w2, wa, wb, wc, hnn, hP, hQ, hs1, hs2, hne, hn, hi, hj, hwi, hwj, hci, hcj, e0]; rfl)) (by (simp only [go_sem, Int.reduceToNat, hz0, wpq, d1, hx, hr, w2, wa, wb, wc, hnn, hP, hQ, hs1, hs2, hne, hn, hi, hj, hwi, hwj, hci, hcj, e0]; rfl)) ?_ ?_ <;> (intro hb; first | (cases hb; done) | (have ht : true = true := hb; clear ht hb) | (have ht : false = false := hb; clear ht hb) | (simp only [hb]) | skip))
      | (refine ev_guardF _ _ (by (simp only [go_sem, Int.reduceToNat, hz0, wpq, d1, hx, hr, w2, wa, wb, wc, hnn, hP, hQ, hs1, hs2, hne, hn, hi, hj, hwi, hwj, hci, hcj, e0]; rfl)) (by (simp only [go_sem, Int.reduceToNat, hz0, wpq, d1, hx, hr, w2, wa, wb, wc, hnn, hP, hQ, hs1, hs2, hne, hn, hi, hj, hwi, hwj, hci, hcj, e0]; rfl)) ?_ ?_ <;> (intro hb; first | (cases hb; done) | (have ht : true = true := hb; clear ht hb) | (have ht : false = false := hb; clear ht hb) | (simp only [hb]) | skip))
      | (apply ev_call0; (case hys => (simp only [go_sem, Int.reduceToNat, hz0, wpq, d1, hx, hr, w2, wa, wb, wc, hnn, hP, hQ, hs1, hs2, hne, hn, hi, hj, hwi, hwj, hci, hcj, e0]; try rfl)); (case hs => first | exact c19a .. | exact c19b .. | exact c19c ..); (case hok | hσ => (simp only [go_sem, Int.reduceToNat, hz0, wpq, d1, hx, hr, w2, wa, wb, wc, hnn, hP, hQ, hs1, hs2, hne, hn, hi, hj, hwi, hwj, hci, hcj, e0]; try rfl)))
      | (apply regD; (case hd => (simp only [List.map_cons, List.map_nil]; rfl)); (case hok => rfl); (case' h => (intro K hK; (repeat' first
        | (apply evd_nil; refine (hK _ ?_); clear hK K)
        | (apply evd_call0; (case hi | hys => (simp only [go_sem, Int.reduceToNat, hz0, wpq, d1, hx, hr, w2, wa, wb, wc, hnn, hP, hQ, hs1, hs2, hne, hn, hi, hj, hwi, hwj, hci, hcj, e0]; try rfl)); (case hs => first | exact c19a .. | exact c19b .. | exact c19c ..); (case hok | hw | hσ => (simp only [go_sem, Int.reduceToNat, hz0, wpq, d1, hx, hr, w2, wa, wb, wc, hnn, hP, hQ, hs1, hs2, hne, hn, hi, hj, hwi, hwj, hci, hcj, e0]; try rfl)))
        | (apply evd_step0; (case hr | hi | hσ => (simp only [go_sem, Int.reduceToNat, hz0, wpq, d1, hx, hr, w2, wa, wb, wc, hnn, hP, hQ, hs1, hs2, hne, hn, hi, hj, hwi, hwj, hci, hcj, e0]; try rfl)); (case hc => (first | trivial | decide | (simp only [inB, sliceOk, appendOk, rowsOk]; omega) | (simp [inB, sliceOk, appendOk, rowsOk]; omega))))
        | (apply evd_step; (case hr | hi => (simp only [go_sem, Int.reduceToNat, hz0, wpq, d1, hx, hr, w2, wa, wb, wc, hnn, hP, hQ, hs1, hs2, hne, hn, hi, hj, hwi, hwj, hci, hcj, e0]; try rfl)); (case hc => (first | trivial | decide | (simp only [inB, sliceOk, appendOk, rowsOk]; omega) | (simp [inB, sliceOk, appendOk, rowsOk]; omega))); (case hw | hσ => (intro g u; simp only [go_sem, Int.reduceToNat, hz0, wpq, d1, hx, hr, w2, wa, wb, wc, hnn, hP, hQ, hs1, hs2, hne, hn, hi, hj, hwi, hwj, hci, hcj, e0]; try rfl)); (case' hk => (intro g u; (try clear u); (try clear g))))
        | fail))); (case hB => kernel_rfl))
      | (apply ev_step0; (case hr | hσ => (simp only [go_sem, Int.reduceToNat, hz0, wpq, d1, hx, hr, w2, wa, wb, wc, hnn, hP, hQ, hs1, hs2, hne, hn, hi, hj, hwi, hwj, hci, hcj, e0]; try rfl)); (case hc => (first | trivial | decide | (simp only [inB, sliceOk, appendOk, rowsOk]; omega) | (simp [inB, sliceOk, appendOk, rowsOk]; omega))))
      | (apply ev_step; (case hr => (simp only [go_sem, Int.reduceToNat, hz0, wpq, d1, hx, hr, w2, wa, wb, wc, hnn, hP, hQ, hs1, hs2, hne, hn, hi, hj, hwi, hwj, hci, hcj, e0]; try rfl)); (case hσ => (intro g u; simp only [go_sem, Int.reduceToNat, hz0, wpq, d1, hx, hr, w2, wa, wb, wc, hnn, hP, hQ, hs1, hs2, hne, hn, hi, hj, hwi, hwj, hci, hcj, e0]; try rfl)); (case hc => (first | trivial | decide | (simp only [inB, sliceOk, appendOk, rowsOk]; omega) | (simp [inB, sliceOk, appendOk, rowsOk]; omega))); intro g u; (try clear u); (try clear g))
      | fail
    refine Exists.intro (t + 1) ⟨by omega, by omega, ?_⟩
    refine Wk.mk ?_ ?_
    all_goals (repeat' first | exact trivial | exact LeA.refl _ | exact LeA.any _ | exact LeO.refl _ | exact LeO.no _ | exact LeA.nil _ | exact LeA.nilOwn _ | exact LeO.nil _ _ _ | refine LeO.box ?_ | (refine LeA.i ?_; (first | rfl | (push_cast; rfl) | (rw [wrap_id (by omega)]; push_cast; omega) | (simp [wrap_id]; omega))) | refine ⟨?_, ?_⟩)
  | false =>
  cases e1 : (ci.v.k != 2) with
  | true =>
    repeat' first
      | refine awp_seq ?_
      | refine awp_block ?_
      | refine awp_skip ?_
      | (refine reg _ (by (simp only [List.map_cons, List.map_nil]; rfl)) rfl ?_; intro K hK)
      | (refine awp_cond _ (by rfl) ?_ ?_ <;> (intro hb; first | (cases hb; done) | (have ht : true = true := hb; clear ht hb) | (have ht : false = false := hb; clear ht hb) | (simp only [hb]) | skip))
      | (refine awp_exit ?_; simp only [thenA, blockA, scopeA, reduceIte, RetQ, Nat.reduceEqDiff])
      | (refine awp_ret ?_; simp only [thenA, blockA, scopeA, RetQ])
      | (refine ev_nil (hK _ ?_); clear hK K)
      | (apply ev_guardU; (case hj | hu | hσ => (simp only [go_sem, Int.reduceToNat, hz0, wpq, d1, hx, hr, w2, wa, wb, wc, hnn, hP, hQ, hs1, hs2, hne, hn, hi, hj, hwi, hwj, hci, hcj, e0, e1]; try rfl)))
      | (refine ev_guardT _ _ (by (simp only [go_sem, Int.reduceToNat, hz0, wpq, d1, hx, hr, w2, wa, wb, wc, hnn, hP, hQ, hs1, hs2, hne, hn, hi, hj, hwi, hwj, hci, hcj, e0, e1]; rfl)) (by (simp only [go_sem, Int.reduceToNat, hz0, wpq, d1, hx, hr, w2, wa, wb, wc, hnn, hP, hQ, hs1, hs2, hne, hn, hi, hj, hwi, hwj, hci, hcj, e0, e1]; rfl)) ?_ ?_ <;> (intro hb; first | (cases hb; done) | (have ht : true = true := hb; clear ht hb) | (have ht : false = false := hb; clear ht hb) | (simp only [hb]) | skip))
      | (refine ev_guardF _ _ (by (simp only [go_sem, Int.reduceToNat, hz0, wpq, d1, hx, hr, w2, wa, wb, wc, hnn, hP, hQ, hs1, hs2, hne, hn, hi, hj, hwi, hwj, hci, hcj, e0, e1]; rfl)) (by (simp only [go_sem, Int.reduceToNat, hz0, wpq, d1, hx, hr, w2, wa, wb, wc, hnn, hP, hQ, hs1, hs2, hne, hn, hi, hj, hwi, hwj, hci, hcj, e0, e1]; rfl)) ?_ ?_ <;> (intro hb; first | (cases hb; done) | (have ht : true = true := hb; clear ht hb) | (have ht : false = false := hb; clear ht hb) | (simp only [hb]) | skip))
      | (apply ev_call0; (case hys => (simp only [go_sem, Int.reduceToNat, hz0, wpq, d1, hx, hr, w2, wa, wb, wc, hnn, hP, hQ, hs1, hs2, hne, hn, hi, hj, hwi, hwj, hci, hcj, e0, e1]; try rfl)); (case hs => first | exact c19a .. | exact c19b .. | exact c19c ..); (case hok | hσ => (simp only [go_sem, Int.reduceToNat, hz0, wpq, d1, hx, hr, w2, wa, wb, wc, hnn, hP, hQ, hs1, hs2, hne, hn, hi, hj, hwi, hwj, hci, hcj, e0, e1]; try rfl)))
      | (apply regD; (case hd => (simp only [List.map_cons, List.map_nil]; rfl)); (case hok => rfl); (case' h => (intro K hK; (repeat' first
        | (apply evd_nil; refine (hK _ ?_); clear hK K)
        | (apply evd_call0; (case hi | hys => (simp only [go_sem, Int.reduceToNat, hz0, wpq, d1, hx, hr, w2, wa, wb, wc, hnn, hP, hQ, hs1, hs2, hne, hn, hi, hj, hwi, hwj, hci, hcj, e0, e1]; try rfl)); (case hs => first | exact c19a .. | exact c19b .. | exact c19c ..); (case hok | hw | hσ => (simp only [go_sem, Int.reduceToNat, hz0, wpq, d1, hx, hr, w2, wa, wb, wc, hnn, hP, hQ, hs1, hs2, hne, hn, hi, hj, hwi, hwj, hci, hcj, e0, e1]; try rfl)))
        | (apply evd_step0; (case hr | hi | hσ => (simp only [go_sem, Int.reduceToNat, hz0, wpq, d1, hx, hr, w2, wa, wb, wc, hnn, hP, hQ, hs1, hs2, hne, hn, hi, hj, hwi, hwj, hci, hcj, e0, e1]; try rfl)); (case hc => (first | trivial | decide | (simp only [inB, sliceOk, appendOk, rowsOk]; omega) | (simp [inB, sliceOk, appendOk, rowsOk]; omega))))
        | (apply evd_step; (case hr | hi => (simp only [go_sem, Int.reduceToNat, hz0, wpq, d1, hx, hr, w2, wa, wb, wc, hnn, hP, hQ, hs1, hs2, hne, hn, hi, hj, hwi, hwj, hci, hcj, e0, e1]; try rfl)); (case hc => (first | trivial | decide | (simp only [inB, sliceOk, appendOk, rowsOk]; omega) | (simp [inB, sliceOk, appendOk, rowsOk]; omega))); (case hw | hσ => (intro g u; simp only [go_sem, Int.reduceToNat, hz0, wpq, d1, hx, hr, w2, wa, wb, wc, hnn, hP, hQ, hs1, hs2, hne, hn, hi, hj, hwi, hwj, hci, hcj, e0, e1]; try rfl)); (case' hk => (intro g u; (try clear u); (try clear g))))
        | fail))); (case hB => kernel_rfl))
      | (apply ev_step0; (case hr | hσ => (simp only [go_sem, Int.reduceToNat, hz0, wpq, d1, hx, hr, w2, wa, wb, wc, hnn, hP, hQ, hs1, hs2, hne, hn, hi, hj, hwi, hwj, hci, hcj, e0, e1]; try rfl)); (case hc => (first | trivial | decide | (simp only [inB, sliceOk, appendOk, rowsOk]; omega) | (simp [inB, sliceOk, appendOk, rowsOk]; omega))))
      | (apply ev_step; (case hr => (simp only [go_sem, Int.reduceToNat, hz0, wpq, d1, hx, hr, w2, wa, wb, wc, hnn, hP, hQ, hs1, hs2, hne, hn, hi, hj, hwi, hwj, hci, hcj, e0, e1]; try rfl)); (case hσ => (intro g u; simp only [go_sem, Int.reduceToNat, hz0, wpq, d1, hx, hr, w2, wa, wb, wc, hnn, hP, hQ, hs1, hs2, hne, hn, hi, hj, hwi, hwj, hci, hcj, e0, e1]; try rfl)); (case hc => (first | trivial | decide | (simp only [inB, sliceOk, appendOk, rowsOk]; omega) | (simp [inB, sliceOk, appendOk, rowsOk]; omega))); intro g u; (try clear u); (try clear g))
      | fail
    refine Exists.intro (t + 1) ⟨by omega, by omega, ?_⟩
    refine Wk.mk ?_ ?_
    all_goals (repeat' first | exact trivial | exact LeA.refl _ | exact LeA.any _ | exact LeO.refl _ | exact LeO.no _ | exact LeA.nil _ | exact LeA.nilOwn _ | exact LeO.nil _ _ _ | refine LeO.box ?_ | (refine LeA.i ?_; (first | rfl | (push_cast; rfl) | (rw [wrap_id (by omega)]; push_cast; omega) | (simp [wrap_id]; omega))) | refine ⟨?_, ?_⟩)
  | false =>
  cases e2 : (cj.v.k != 2) with
  | true =>
    repeat' first
      | refine awp_seq ?_
      | refine awp_block ?_
      | refine awp_skip ?_
      | (refine reg _ (by (simp only [List.map_cons, List.map_nil]; rfl)) rfl ?_; intro K hK)
      | (refine awp_cond _ (by rfl) ?_ ?_ <;> (intro hb; first | (cases hb; done) | (have ht : true = true := hb; clear ht hb) | (have ht : false = false := hb; clear ht hb) | (simp only [hb]) | skip))
      | (refine awp_exit ?_; simp only [thenA, blockA, scopeA, reduceIte, RetQ, Nat.reduceEqDiff])
      | (refine awp_ret ?_; simp only [thenA, blockA, scopeA, RetQ])
      | (refine ev_nil (hK _ ?_); clear hK K)
      | (apply ev_guardU; (case hj | hu | hσ => (simp only [go_sem, Int.reduceToNat, hz0, wpq, d1, hx, hr, w2, wa, wb, wc, hnn, hP, hQ, hs1, hs2, hne, hn, hi, hj, hwi, hwj, hci, hcj, e0, e1, e2]; try rfl)))
      | (refine ev_guardT _ _ (by (simp only [go_sem, Int.reduceToNat, hz0, wpq, d1, hx, hr, w2, wa, wb, wc, hnn, hP, hQ, hs1, hs2, hne, hn, hi, hj, hwi, hwj, hci, hcj, e0, e1, e2]; rfl)) (by (simp only [go_sem, Int.reduceToNat, hz0, wpq, d1, hx, hr, w2, wa, wb, wc, hnn, hP, hQ, hs1, hs2, hne, hn, hi, hj, hwi, hwj, hci, hcj, e0, e1, e2]; rfl)) ?_ ?_ <;> (intro hb; first | (cases hb; done) | (have ht : true = true := hb; clear ht hb) | (have ht : false = false := hb; clear ht hb) | (simp only [hb]) | skip))
      | (refine ev_guardF _ _ (by (simp only [go_sem, Int.reduceToNat, hz0, wpq, d1, hx, hr, w2, wa, wb, wc, hnn, hP, hQ, hs1, hs2, hne, hn, hi, hj, hwi, hwj, hci, hcj, e0, e1, e2]; rfl)) (by (simp only [go_sem, Int.reduceToNat, hz0, wpq, d1, hx, hr, w2, wa, wb, wc, hnn, hP, hQ, hs1, hs2, hne, hn, hi, hj, hwi, hwj, hci, hcj, e0, e1, e2]; rfl)) ?_ ?_ <;> (intro hb; first | (cases hb; done) | (have ht : true = true := hb; clear ht hb) | (have ht : false = false := hb; clear ht hb) | (simp only [hb]) | skip))
      | (apply ev_call0; (case hys => (simp only [go_sem, Int.reduceToNat, hz0, wpq, d1, hx, hr, w2, wa, wb, wc, hnn, hP, hQ, hs1, hs2, hne, hn, hi, hj, hwi, hwj, hci, hcj, e0, e1, e2]; try rfl)); (case hs => first | exact c19a .. | exact c19b .. | exact c19c ..); (case hok | hσ => (simp only [go_sem, Int.reduceToNat, hz0, wpq, d1, hx, hr, w2, wa, wb, wc, hnn, hP, hQ, hs1, hs2, hne, hn, hi, hj, hwi, hwj, hci, hcj, e0, e1, e2]; try rfl)))
      | (apply regD; (case hd => (simp only [List.map_cons, List.map_nil]; rfl)); (case hok => rfl); (case' h => (intro K hK; (repeat' first
        | (apply evd_nil; refine (hK _ ?_); clear hK K)
        | (apply evd_call0; (case hi | hys => (simp only [go_sem, Int.reduceToNat, hz0, wpq, d1, hx, hr, w2, wa, wb, wc, hnn, hP, hQ, hs1, hs2, hne, hn, hi, hj, hwi, hwj, hci, hcj, e0, e1, e2]; try rfl)); (case hs => first | exact c19a .. | exact c19b .. | exact c19c ..); (case hok | hw | hσ => (simp only [go_sem, Int.reduceToNat, hz0, wpq, d1, hx, hr, w2, wa, wb, wc, hnn, hP, hQ, hs1, hs2, hne, hn, hi, hj, hwi, hwj, hci, hcj, e0, e1, e2]; try rfl)))
        | (apply evd_step0; (case hr | hi | hσ => (simp only [go_sem, Int.reduceToNat, hz0, wpq, d1, hx, hr, w2, wa, wb, wc, hnn, hP, hQ, hs1, hs2, hne, hn, hi, hj, hwi, hwj, hci, hcj, e0, e1, e2]; try rfl)); (case hc => (first | trivial | decide | (simp only [inB, sliceOk, appendOk, rowsOk]; omega) | (simp [inB, sliceOk, appendOk, rowsOk]; omega))))
        | (apply evd_step; (case hr | hi => (simp only [go_sem, Int.reduceToNat, hz0, wpq, d1, hx, hr, w2, wa, wb, wc, hnn, hP, hQ, hs1, hs2, hne, hn, hi, hj, hwi, hwj, hci, hcj, e0, e1, e2]; try rfl)); (case hc => (first | trivial | decide | (simp only [inB, sliceOk, appendOk, rowsOk]; omega) | (simp [inB, sliceOk, appendOk, rowsOk]; omega))); (case hw | hσ => (intro g u; simp only [go_sem, Int.reduceToNat, hz0, wpq, d1, hx, hr, w2, wa, wb, wc, hnn, hP, hQ, hs1, hs2, hne, hn, hi, hj, hwi, hwj, hci, hcj, e0, e1, e2]; try rfl)); (case' hk => (intro g u; (try clear u); (try clear g))))
        | fail))); (case hB => kernel_rfl))
      | (apply ev_step0; (case hr | hσ => (simp only [go_sem, Int.reduceToNat, hz0, wpq, d1, hx, hr, w2, wa, wb, wc, hnn, hP, hQ, hs1, hs2, hne, hn, hi, hj, hwi, hwj, hci, hcj, e0, e1, e2]; try rfl)); (case hc => (first | trivial | decide | (simp only [inB, sliceOk, appendOk, rowsOk]; omega) | (simp [inB, sliceOk, appendOk, rowsOk]; omega))))
      | (apply ev_step; (case hr => (simp only [go_sem, Int.reduceToNat, hz0, wpq, d1, hx, hr, w2, wa, wb, wc, hnn, hP, hQ, hs1, hs2, hne, hn, hi, hj, hwi, hwj, hci, hcj, e0, e1, e2]; try rfl)); (case hσ => (intro g u; simp only [go_sem, Int.reduceToNat, hz0, wpq, d1, hx, hr, w2, wa, wb, wc, hnn, hP, hQ, hs1, hs2, hne, hn, hi, hj, hwi, hwj, hci, hcj, e0, e1, e2]; try rfl)); (case hc => (first | trivial | decide | (simp only [inB, sliceOk, appendOk, rowsOk]; omega) | (simp [inB, sliceOk, appendOk, rowsOk]; omega))); intro g u; (try clear u); (try clear g))
      | fail
    refine Exists.intro (t + 1) ⟨by omega, by omega, ?_⟩
    refine Wk.mk ?_ ?_
    all_goals (repeat' first | exact trivial | exact LeA.refl _ | exact LeA.any _ | exact LeO.refl _ | exact LeO.no _ | exact LeA.nil _ | exact LeA.nilOwn _ | exact LeO.nil _ _ _ | refine LeO.box ?_ | (refine LeA.i ?_; (first | rfl | (push_cast; rfl) | (rw [wrap_id (by omega)]; push_cast; omega) | (simp [wrap_id]; omega))) | refine ⟨?_, ?_⟩)
  | false =>
  have c19e := c19d (by rintro rfl; simp at e0) (by simpa using e1) (by simpa using e2)
  repeat' first
    | refine awp_seq ?_
    | refine awp_block ?_
    | refine awp_skip ?_
    | (refine reg _ (by (simp only [List.map_cons, List.map_nil]; rfl)) rfl ?_; intro K hK)
    | (refine awp_cond _ (by rfl) ?_ ?_ <;> (intro hb; first | (cases hb; done) | (have ht : true = true := hb; clear ht hb) | (have ht : false = false := hb; clear ht hb) | (simp only [hb]) | skip))
    | (refine awp_exit ?_; simp only [thenA, blockA, scopeA, reduceIte, RetQ, Nat.reduceEqDiff])
    | (refine awp_ret ?_; simp only [thenA, blockA, scopeA, RetQ])
    | (refine ev_nil (hK _ ?_); clear hK K)
    | (apply ev_guardU; (case hj | hu | hσ => (simp only [go_sem, Int.reduceToNat, hz0, wpq, d1, hx, hr, w2, wa, wb, wc, hnn, hP, hQ, hs1, hs2, hne, hn, hi, hj, hwi, hwj, hci, hcj, e0, e1, e2]; try rfl)))
    | (refine ev_guardT _ _ (by (simp only [go_sem, Int.reduceToNat, hz0, wpq, d1, hx, hr, w2, wa, wb, wc, hnn, hP, hQ, hs1, hs2, hne, hn, hi, hj, hwi, hwj, hci, hcj, e0, e1, e2]; rfl)) (by (simp only [go_sem, Int.reduceToNat, hz0, wpq, d1, hx, hr, w2, wa, wb, wc, hnn, hP, hQ, hs1, hs2, hne, hn, hi, hj, hwi, hwj, hci, hcj, e0, e1, e2]; rfl)) ?_ ?_ <;> (intro hb; first | (cases hb; done) | (have ht : true = true := hb; clear ht hb) | (have ht : false = false := hb; clear ht hb) | (simp only [hb]) | skip))
    | (refine ev_guardF _ _ (by (simp only [go_sem, Int.reduceToNat, hz0, wpq, d1, hx, hr, w2, wa, wb, wc, hnn, hP, hQ, hs1, hs2, hne, hn, hi, hj, hwi, hwj, hci, hcj, e0, e1, e2]; rfl)) (by (simp only [go_sem, Int.reduceToNat, hz0, wpq, d1, hx, hr, w2, wa, wb, wc, hnn, hP, hQ, hs1, hs2, hne, hn, hi, hj, hwi, hwj, hci, hcj, e0, e1, e2]; rfl)) ?_ ?_ <;> (intro hb; first | (cases hb; done) | (have ht : true = true := hb; clear ht hb) | (have ht : false = false := hb; clear ht hb) | (simp only [hb]) | skip))
    | (apply ev_call0; (case hys => (simp only [go_sem, Int.reduceToNat, hz0, wpq, d1, hx, hr, w2, wa, wb, wc, hnn, hP, hQ, hs1, hs2, hne, hn, hi, hj, hwi, hwj, hci, hcj, e0, e1, e2]; try rfl)); (case hs => first | exact c19a .. | exact c19b .. | exact c19c ..); (case hok | hσ => (simp only [go_sem, Int.reduceToNat, hz0, wpq, d1, hx, hr, w2, wa, wb, wc, hnn, hP, hQ, hs1, hs2, hne, hn, hi, hj, hwi, hwj, hci, hcj, e0, e1, e2]; try rfl)))
    | (apply regD; (case hd => (simp only [List.map_cons, List.map_nil]; rfl)); (case hok => rfl); (case' h => (intro K hK; (repeat' first
        | (apply evd_nil; refine (hK _ ?_); clear hK K)
        | (apply evd_call0; (case hi | hys => (simp only [go_sem, Int.reduceToNat, hz0, wpq, d1, hx, hr, w2, wa, wb, wc, hnn, hP, hQ, hs1, hs2, hne, hn, hi, hj, hwi, hwj, hci, hcj, e0, e1, e2]; try rfl)); (case hs => first | exact c19a .. | exact c19b .. | exact c19c ..); (case hok | hw | hσ => (simp only [go_sem, Int.reduceToNat, hz0, wpq, d1, hx, hr, w2, wa, wb, wc, hnn, hP, hQ, hs1, hs2, hne, hn, hi, hj, hwi, hwj, hci, hcj, e0, e1, e2]; try rfl)))
        | (apply evd_step0; (case hr | hi | hσ => (simp only [go_sem, Int.reduceToNat, hz0, wpq, d1, hx, hr, w2, wa, wb, wc, hnn, hP, hQ, hs1, hs2, hne, hn, hi, hj, hwi, hwj, hci, hcj, e0, e1, e2]; try rfl)); (case hc => (first | trivial | decide | (simp only [inB, sliceOk, appendOk, rowsOk]; omega) | (simp [inB, sliceOk, appendOk, rowsOk]; omega))))
        | (apply evd_step; (case hr | hi => (simp only [go_sem, Int.reduceToNat, hz0, wpq, d1, hx, hr, w2, wa, wb, wc, hnn, hP, hQ, hs1, hs2, hne, hn, hi, hj, hwi, hwj, hci, hcj, e0, e1, e2]; try rfl)); (case hc => (first | trivial | decide | (simp only [inB, sliceOk, appendOk, rowsOk]; omega) | (simp [inB, sliceOk, appendOk, rowsOk]; omega))); (case hw | hσ => (intro g u; simp only [go_sem, Int.reduceToNat, hz0, wpq, d1, hx, hr, w2, wa, wb, wc, hnn, hP, hQ, hs1, hs2, hne, hn, hi, hj, hwi, hwj, hci, hcj, e0, e1, e2]; try rfl)); (case' hk => (intro g u; (try clear u); (try clear g))))
        | fail))); (case hB => kernel_rfl))
    | (apply ev_step0; (case hr | hσ => (simp only [go_sem, Int.reduceToNat, hz0, wpq, d1, hx, hr, w2, wa, wb, wc, hnn, hP, hQ, hs1, hs2, hne, hn, hi, hj, hwi, hwj, hci, hcj, e0, e1, e2]; try rfl)); (case hc => (first | trivial | decide | (simp only [inB, sliceOk, appendOk, rowsOk]; omega) | (simp [inB, sliceOk, appendOk, rowsOk]; omega))))
    | (apply ev_step; (case hr => (simp only [go_sem, Int.reduceToNat, hz0, wpq, d1, hx, hr, w2, wa, wb, wc, hnn, hP, hQ, hs1, hs2, hne, hn, hi, hj, hwi, hwj, hci, hcj, e0, e1, e2]; try rfl)); (case hσ => (intro g u; simp only [go_sem, Int.reduceToNat, hz0, wpq, d1, hx, hr, w2, wa, wb, wc, hnn, hP, hQ, hs1, hs2, hne, hn, hi, hj, hwi, hwj, hci, hcj, e0, e1, e2]; try rfl)); (case hc => (first | trivial | decide | (simp only [inB, sliceOk, appendOk, rowsOk]; omega) | (simp [inB, sliceOk, appendOk, rowsOk]; omega))); intro g u; (try clear u); (try clear g))
    | fail
  rename_i g11 v1 v2 v3 v4 g14 g15 g16 g17 g18 g21
  revert g; intro g22
  refine awp_loopI (fun m : Nat => m ≤ R.length) (fun m => R.length - m) (fun m => ⟨[.any, .any, .any, .any, .any, .ptr 5 g5 0, .any, litB true, .ptr 8 g8 0, .ptr 9 g9 0, litI .i64 t, .any, .d (rwsD R), .any, .any, .any, .ptr 16 g16 0, .any, .any, litI .i64 i, litI .i64 j, .ptr 21 g21 0, .ptr 22 g22 0, .own 170 u, litI .i64 m, .any, .any, .any, .any, .any, .any, .any, .any, .any, .any, .any, .any, .any, .any, .any, .any, .any, .any, .any, .any, .any, .any, .any, .any, .any, .any, .any, .any, .any, .any, .any, .any, .any, .any, .any, .any, .any, .any, .any, .any, .any, .any, .any, .any, .any, .any, .any, .any, .any, .any, .any, .any, .any, .any, .any, .any, .any, .any, .any, .any, .any, .any, .any, .any, .any, .any, .any, .any, .any, .any, .any, .any, .any, .any, .any, .any, .any, .any, .any, .any, .any, .any, .any, .any, .any, .any, .any, .any, .any, .any, .any, .any, .any, .any, .any, .any, .any, .any, .any, .any, .any, .any, .any, .any, .any, .any, .any, .any, .any, .any, .any, .any, .any, .any, .any, .any, .any, .any, .any, .any, .any, .any, .any, .any, .any, .any, .any, .any, .any, .any, .any, .any, .any, .any, .any, .any, .any, .any, .any, .any, .any, .any, .any, .any, .any, .any, .any, .any, .any, .any, .any, .any, .any, .any, .any, .any, .any, .any, .any, .any, .any, .any, .any, .any, .any, .any, .any, .any, .any, .any, .any, .any, .any, .any, .any, .any, .any, .any, .any, .any, .any, .any, .any, .any, .any, .any, .any, .any, .any, .any], [.no, .no, .no, .no, .no, .box g5 [litI .u8 ka, litI .u8 kb, litI .u8 kc], .no, .no, .box g8 (schA s), .box g9 (stA st), .no, .no, .no, .no, .no, .no, .box g16 [litI .i64 (p + q), litI .i64 0], .no, .no, .no, .no, .box g21 (vl ci.v), .box g22 (vl cj.v), .no, .no, .no, .no, .no, .no, .no, .no, .no, .no, .no, .no, .no, .no, .no, .no, .no, .no, .no, .no, .no, .no, .no, .no, .no, .no, .no, .no, .no, .no, .no, .no, .no, .no, .no, .no, .no, .no, .no, .no, .no, .no, .no, .no, .no, .no, .no, .no, .no, .no, .no, .no, .no, .no, .no, .no, .no, .no, .no, .no, .no, .no, .no, .no, .no, .no, .no, .no, .no, .no, .no, .no, .no, .no, .no, .no, .no, .no, .no, .no, .no, .no, .no, .no, .no, .no, .no, .no, .no, .no, .no, .no, .no, .no, .no, .no, .no, .no, .no, .no, .no, .no, .no, .no, .no, .no, .no, .no, .no, .no, .no, .no, .no, .no, .no, .no, .no, .no, .no, .no, .no, .no, .no, .no, .no, .no, .no, .no, .no, .no, .no, .no, .no, .no, .no, .no, .no, .no, .no, .no, .no, .no, .no, .no, .no, .no, .no, .row u 3 1 ((mvT R.length m).map fun n => [.lit (.int .i64 n)]), .no, .no, .no, .no, .no, .no, .no, .no, .no, .no, .no, .no, .no, .no, .no, .no, .no, .no, .no, .no, .no, .no, .no, .no, .no, .no, .no, .no, .no, .no, .no, .no, .no, .no, .no, .no, .no, .no, .no, .no, .no, .no, .no, .no]⟩) 0 (by omega) ?_ ?_
  · rw [show ((mvT R.length 0).map fun n => [Dat.lit (.int .i64 n)]) = List.replicate R.length [Dat.lit (.int .i64 0)] from by simp [mvT]]
    refine Wk.mk ?_ ?_
    all_goals (repeat' first | exact trivial | exact LeA.refl _ | exact LeA.any _ | exact LeO.refl _ | exact LeO.no _ | exact LeA.nil _ | exact LeA.nilOwn _ | exact LeO.nil _ _ _ | refine LeO.box ?_ | (refine LeA.i ?_; (first | rfl | (push_cast; rfl) | (rw [wrap_id (by omega)]; push_cast; omega) | (simp [wrap_id]; omega))) | refine ⟨?_, ?_⟩)
  intro m hm
  simp only [litI, litB] at hm ⊢
  clear c19 c19o c19a c19b c19c c19d
  by_cases h5 : m < R.length
  · have d5 : decide ((m : Int) < (R.length : Int)) = true := decide_eq_true (by omega)
    have hlen := mvT_len (n := R.length) (m := m) (by omega)
    have hset : ((mvT R.length m).map fun n => [Dat.lit (.int .i64 n)]).set m [.lit (.int .i64 4000000000000000001)] = (mvT R.length (m + 1)).map fun n => [.lit (.int .i64 n)] := by rw [← mvT_succ h5, List.map_set]
    have hget := ints_at (mvT R.length m) (i := m) (by omega)
    repeat' first
      | refine awp_seq ?_
      | refine awp_block ?_
      | refine awp_skip ?_
      | (refine reg _ (by (simp only [List.map_cons, List.map_nil]; rfl)) rfl ?_; intro K hK)
      | (refine awp_cond _ (by rfl) ?_ ?_ <;> (intro hb; first | (cases hb; done) | (have ht : true = true := hb; clear ht hb) | (have ht : false = false := hb; clear ht hb) | (simp only [hb]) | skip))
      | (refine awp_exit ?_; simp only [thenA, blockA, scopeA, reduceIte, RetQ, Nat.reduceEqDiff])
      | (refine awp_ret ?_; simp only [thenA, blockA, scopeA, RetQ])
      | (refine ev_nil (hK _ ?_); clear hK K)
      | (apply ev_guardU; (case hj | hu | hσ => (simp only [go_sem, d5, hlen, hset, hget]; try rfl)))
      | (refine ev_guardT _ _ (by (simp only [go_sem, d5, hlen, hset, hget]; rfl)) (by (simp only [go_sem, d5, hlen, hset, hget]; rfl)) ?_ ?_ <;> (intro hb; first | (cases hb; done) | (have ht : true = true := hb; clear ht hb) | (have ht : false = false := hb; clear ht hb) | (simp only [hb]) | skip))
      | (refine ev_guardF _ _ (by (simp only [go_sem, d5, hlen, hset, hget]; rfl)) (by (simp only [go_sem, d5, hlen, hset, hget]; rfl)) ?_ ?_ <;> (intro hb; first | (cases hb; done) | (have ht : true = true := hb; clear ht hb) | (have ht : false = false := hb; clear ht hb) | (simp only [hb]) | skip))
      | (apply regD; (case hd => (simp only [List.map_cons, List.map_nil]; rfl)); (case hok => rfl); (case' h => (intro K hK; (repeat' first
        | (apply evd_nil; refine (hK _ ?_); clear hK K)
        | (apply evd_step0; (case hr | hi | hσ => (simp only [go_sem, d5, hlen, hset, hget]; try rfl)); (case hc => (first | trivial | decide | (simp only [inB, sliceOk, appendOk, rowsOk]; omega) | (simp [inB, sliceOk, appendOk, rowsOk]; omega))))
        | (apply evd_step; (case hr | hi => (simp only [go_sem, d5, hlen, hset, hget]; try rfl)); (case hc => (first | trivial | decide | (simp only [inB, sliceOk, appendOk, rowsOk]; omega) | (simp [inB, sliceOk, appendOk, rowsOk]; omega))); (case hw | hσ => (intro g u; simp only [go_sem, d5, hlen, hset, hget]; try rfl)); (case' hk => (intro g u; (try clear u); (try clear g))))
        | fail))); (case hB => kernel_rfl))
      | (apply ev_step0; (case hr | hσ => (simp only [go_sem, d5, hlen, hset, hget]; try rfl)); (case hc => (first | trivial | decide | (simp only [inB, sliceOk, appendOk, rowsOk]; omega) | (simp [inB, sliceOk, appendOk, rowsOk]; omega))))
      | (apply ev_step; (case hr => (simp only [go_sem, d5, hlen, hset, hget]; try rfl)); (case hσ => (intro g u; simp only [go_sem, d5, hlen, hset, hget]; try rfl)); (case hc => (first | trivial | decide | (simp only [inB, sliceOk, appendOk, rowsOk]; omega) | (simp [inB, sliceOk, appendOk, rowsOk]; omega))); intro g u; (try clear u); (try clear g))
      | fail
    refine Exists.intro (m + 1) ⟨by omega, by omega, ?_⟩
    refine Wk.mk ?_ ?_
    all_goals (repeat' first | exact trivial | exact LeA.refl _ | exact LeA.any _ | exact LeO.refl _ | exact LeO.no _ | exact LeA.nil _ | exact LeA.nilOwn _ | exact LeO.nil _ _ _ | refine LeO.box ?_ | (refine LeA.i ?_; (first | rfl | (push_cast; rfl) | (rw [wrap_id (by omega)]; push_cast; omega) | (simp [wrap_id]; omega))) | refine ⟨?_, ?_⟩)
  have d5 : decide ((m : Int) < (R.length : Int)) = false := decide_eq_false (by omega)
  have hme : m = R.length := by omega
  subst hme
  have hlen := mvT_len (n := R.length) (m := R.length) (by omega)
  have w3 : IntKind.i64.wrap (ci.v.i - ka) = ci.v.i - ka := wrap_id (by omega)
  have w4 : IntKind.i64.wrap (cj.v.i + ka) = cj.v.i + ka := wrap_id (by omega)
  have hlen2 : ((mvT R.length R.length).set i (ci.v.i - ka)).length = R.length := by rw [List.length_set, hlen]
  have hset : ((mvT R.length R.length).map fun n => [Dat.lit (.int .i64 n)]).set i [.lit (.int .i64 (ci.v.i - ka))] = ((mvT R.length R.length).set i (ci.v.i - ka)).map fun n => [.lit (.int .i64 n)] := by rw [List.map_set]
  have hset2 : (((mvT R.length R.length).set i (ci.v.i - ka)).map fun n => [Dat.lit (.int .i64 n)]).set j [.lit (.int .i64 (cj.v.i + ka))] = (movedL R.length i j (ci.v.i - ka) (cj.v.i + ka)).map fun n => [.lit (.int .i64 n)] := by
    rw [show movedL R.length i j (ci.v.i - ka) (cj.v.i + ka) = ((mvT R.length R.length).set i (ci.v.i - ka)).set j (cj.v.i + ka) from by rw [movedL, mvT_all]]
    exact List.map_set.symm
  have hget := ints_at (mvT R.length R.length) (i := i) (by omega)
  have hget2 := ints_at ((mvT R.length R.length).set i (ci.v.i - ka)) (i := j) (by omega)
  have h13 := c13 (movedL R.length i j (ci.v.i - ka) (cj.v.i + ka))
  have hml := moved_len R.length i j (ci.v.i - ka) (cj.v.i + ka)
  generalize oddM s st (movedL R.length i j (ci.v.i - ka) (cj.v.i + ka)) = od at *
  generalize movedL R.length i j (ci.v.i - ka) (cj.v.i + ka) = mv at *
  clear c13
  repeat' first
    | refine awp_seq ?_
    | refine awp_block ?_
    | refine awp_skip ?_
    | (refine reg _ (by (simp only [List.map_cons, List.map_nil]; rfl)) rfl ?_; intro K hK)
    | (refine awp_cond _ (by rfl) ?_ ?_ <;> (intro hb; first | (cases hb; done) | (have ht : true = true := hb; clear ht hb) | (have ht : false = false := hb; clear ht hb) | (simp only [hb]) | skip))
    | (refine awp_exit ?_; simp only [thenA, blockA, scopeA, reduceIte, RetQ, Nat.reduceEqDiff])
    | (refine awp_ret ?_; simp only [thenA, blockA, scopeA, RetQ])
    | (refine ev_nil (hK _ ?_); clear hK K)
    | (apply ev_guardU; (case hj | hu | hσ => (simp only [go_sem, d5, hlen, hlen2, hget, hget2, hset, hset2, w3, w4, wa, w1, hcut, beq_self_eq_true, Bool.and_self]; try rfl)))
    | (refine ev_guardT _ _ (by (simp only [go_sem, d5, hlen, hlen2, hget, hget2, hset, hset2, w3, w4, wa, w1, hcut, beq_self_eq_true, Bool.and_self]; rfl)) (by (simp only [go_sem, d5, hlen, hlen2, hget, hget2, hset, hset2, w3, w4, wa, w1, hcut, beq_self_eq_true, Bool.and_self]; rfl)) ?_ ?_ <;> (intro hb; first | (cases hb; done) | (have ht : true = true := hb; clear ht hb) | (have ht : false = false := hb; clear ht hb) | (simp only [hb]) | skip))
    | (refine ev_guardF _ _ (by (simp only [go_sem, d5, hlen, hlen2, hget, hget2, hset, hset2, w3, w4, wa, w1, hcut, beq_self_eq_true, Bool.and_self]; rfl)) (by (simp only [go_sem, d5, hlen, hlen2, hget, hget2, hset, hset2, w3, w4, wa, w1, hcut, beq_self_eq_true, Bool.and_self]; rfl)) ?_ ?_ <;> (intro hb; first | (cases hb; done) | (have ht : true = true := hb; clear ht hb) | (have ht : false = false := hb; clear ht hb) | (simp only [hb]) | skip))
    | (apply ev_call0; (case hys => (simp only [go_sem, d5, hlen, hlen2, hget, hget2, hset, hset2, w3, w4, wa, w1, hcut, beq_self_eq_true, Bool.and_self]; try rfl)); (case hs => first | exact h13 .. | exact c19e ..); (case hok | hσ => (simp only [go_sem, d5, hlen, hlen2, hget, hget2, hset, hset2, w3, w4, wa, w1, hcut, beq_self_eq_true, Bool.and_self]; try rfl)))
    | (apply regD; (case hd => (simp only [List.map_cons, List.map_nil]; rfl)); (case hok => rfl); (case' h => (intro K hK; (repeat' first
        | (apply evd_nil; refine (hK _ ?_); clear hK K)
        | (apply evd_call0; (case hi | hys => (simp only [go_sem, d5, hlen, hlen2, hget, hget2, hset, hset2, w3, w4, wa, w1, hcut, beq_self_eq_true, Bool.and_self]; try rfl)); (case hs => first | exact h13 .. | exact c19e ..); (case hok | hw | hσ => (simp only [go_sem, d5, hlen, hlen2, hget, hget2, hset, hset2, w3, w4, wa, w1, hcut, beq_self_eq_true, Bool.and_self]; try rfl)))
        | (apply evd_step0; (case hr | hi | hσ => (simp only [go_sem, d5, hlen, hlen2, hget, hget2, hset, hset2, w3, w4, wa, w1, hcut, beq_self_eq_true, Bool.and_self]; try rfl)); (case hc => (first | trivial | decide | (simp only [inB, sliceOk, appendOk, rowsOk]; omega) | (simp [inB, sliceOk, appendOk, rowsOk]; omega))))
        | (apply evd_step; (case hr | hi => (simp only [go_sem, d5, hlen, hlen2, hget, hget2, hset, hset2, w3, w4, wa, w1, hcut, beq_self_eq_true, Bool.and_self]; try rfl)); (case hc => (first | trivial | decide | (simp only [inB, sliceOk, appendOk, rowsOk]; omega) | (simp [inB, sliceOk, appendOk, rowsOk]; omega))); (case hw | hσ => (intro g u; simp only [go_sem, d5, hlen, hlen2, hget, hget2, hset, hset2, w3, w4, wa, w1, hcut, beq_self_eq_true, Bool.and_self]; try rfl)); (case' hk => (intro g u; (try clear u); (try clear g))))
        | fail))); (case hB => kernel_rfl))
    | (apply ev_step0; (case hr | hσ => (simp only [go_sem, d5, hlen, hlen2, hget, hget2, hset, hset2, w3, w4, wa, w1, hcut, beq_self_eq_true, Bool.and_self]; try rfl)); (case hc => (first | trivial | decide | (simp only [inB, sliceOk, appendOk, rowsOk]; omega) | (simp [inB, sliceOk, appendOk, rowsOk]; omega))))
    | (apply ev_step; (case hr => (simp only [go_sem, d5, hlen, hlen2, hget, hget2, hset, hset2, w3, w4, wa, w1, hcut, beq_self_eq_true, Bool.and_self]; try rfl)); (case hσ => (intro g u; simp only [go_sem, d5, hlen, hlen2, hget, hget2, hset, hset2, w3, w4, wa, w1, hcut, beq_self_eq_true, Bool.and_self]; try rfl)); (case hc => (first | trivial | decide | (simp only [inB, sliceOk, appendOk, rowsOk]; omega) | (simp [inB, sliceOk, appendOk, rowsOk]; omega))); intro g u; (try clear u); (try clear g))
    | fail
  refine Exists.intro (t + 1) ⟨by omega, by omega, ?_⟩
  refine Wk.mk ?_ ?_
  all_goals (repeat' first | exact trivial | exact LeA.refl _ | exact LeA.any _ | exact LeO.refl _ | exact LeO.no _ | exact LeA.nil _ | exact LeA.nilOwn _ | exact LeO.nil _ _ _ | refine LeO.box ?_ | (refine LeA.i ?_; (first | rfl | (push_cast; rfl) | (rw [wrap_id (by omega)]; push_cast; omega) | (simp [wrap_id]; omega))) | refine ⟨?_, ?_⟩)
end
section
set_option linter.unusedVariables false
set_option linter.unusedSimpArgs false
/-- The law, for whatever reads as its arguments. -/
theorem law8_spec : ∀ dss, tyRs T 8 [24, 22, 87] dss → Spec Try.prog 8 (avTys T [24, 22, 87] dss) (.d (.lit (.bool true))) := by
  intro dss h
  obtain ⟨d0, r0, rfl, h0, h⟩ := tyRs_one h
  obtain ⟨d1, r1, rfl, h1, h⟩ := tyRs_one h
  obtain ⟨d2, r2, rfl, h2, h⟩ := tyRs_one h
  obtain rfl := tyRs_nil h
  obtain ⟨b, rfl, hb⟩ := ty24 h0
  obtain ⟨b0, rfl, hb0⟩ := ty22 h1
  obtain ⟨ka, kb, kc, rfl, hka, hkb, hkc⟩ := ty87 h2
  have := f8_spec b b0 ka kb kc hb hb0 hka hkb hkc
  simp only [avTys, avTy, T24, ti24, T22, ti22, T87, ti87, List.map_cons, List.map_nil, if_true]
  exact this
end
end Go.Proofs.Ytlkfbhhopkoopaa.A
