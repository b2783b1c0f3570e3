/- The program: Referred. The program: rows that are the same; keys of rows. The program: what comes and what is gone. The program: changes. The program: Keeps. -/
import Derived.Test.YtlkfbhhopkoopaaY2
namespace Go.Proofs.Ytlkfbhhopkoopaa.A
attribute [local go_sem] Nat.reduceAdd Nat.reduceSub Nat.reduceMul Nat.reduceLT Nat.reduceLeDiff Nat.reduceEqDiff Nat.reduceBEq reduceIte reduceCtorEq e_step_none e_slotU e_slotB e_move e_assign e_pick e_unOp e_binOp e_alloc e_box e_build e_buildSlice e_load e_store e_fieldAddr e_field e_indexAddr e_index e_slice e_makeSlice e_makeFunc e_convert e_extract e_nilCheck e_len e_append e_max e_min e_call e_callV e_fn e_cap_ptr e_cap_lit e_cap_sl e_cap_fn e_fnOf_clo e_fnOf_fn e_flat_fn e_clo e_ev_tmp e_ev_int e_ev_bool e_ev_string e_ev_slice e_ev_nilFunc e_ev_nilIface e_ev_pointer e_ev_agg e_ev_func e_pickT e_pickF e_not e_neg e_add e_sub e_mul e_quo e_rem e_eql e_neq e_lss e_leq e_gtr e_geq e_shl e_shr e_and e_or e_xor e_andNot e_beq e_bne e_sadd e_seql e_sneq e_b2_d e_b2_nil e_b2_nnil e_b2_agg e_lits_nil e_lits_cons e_litC e_eqR e_eqO_e e_eqO_n e_eqV4 e_eqV3 e_eqV2 e_eqV1 e_eqFs_nil e_eqFs_cons e_and2 e_eq1 e_eqL_i e_eqL_s e_eqL_b e_allocR e_boxR e_box_agg e_box_d e_box_own e_box_clo e_one_nil e_one_d e_one_own e_one_clo e_one_ptr e_cells_agg e_cells_d e_cells_own e_cells_clo e_cells_ptr e_ob_own e_ob_ptr e_ob_elo e_ob_d e_ob_el e_ob_agg e_load_box e_load_fzb e_load_el e_load_elo e_storeX_ptr e_storeX_d e_storeX_own e_storeX_agg e_storeX_el e_storeC' e_notIn_nil e_notIn_cons e_store_box e_storeB e_store_elo e_store_elo_agg e_storeE e_fa_ptr e_fa_el e_fa_elo e_faR e_fd e_fdR e_ia_d e_ia_row e_ia_fz e_ia_ptr e_ia_el e_ix_s e_ix_a e_len_s e_len_nil e_len_d e_len_row e_len_fz e_conv_i e_conv_s e_extr e_maxR e_minR e_nil_ptr e_nil_el e_nil_elo e_rows_nil e_rows_d e_rows_row e_rows_fz e_rok_nil e_rok_d e_rok_row e_rok_fz e_app_row e_appR e_app_nil e_appN e_make e_bnd_none e_bnd_some e_optmap_none e_optmap_some e_slR e_slRe e_sl_s e_sl_d e_sl_nil e_sl_row e_sl_fz e_fill_nil e_fill_cons e_fill1 e_placeS e_plS e_placeE e_buildO e_build1 e_build2 e_build3 e_bindD e_bs e_bsR e_allD_nil e_allD_cons e_allD_el e_allD_clo e_allD2 e_allD1 e_chunk0 e_chunkS e_clP_nil e_clP_cons e_cl_d e_cl_any e_cl_el e_cl_agg e_cl_tup e_cl_clo e_cl_own e_clOwn_row e_clOwn_fz e_cl_ptr e_clPtr_box e_clBox e_clPtr_fzb e_clL_nil e_clL_cons e_ok_d e_ok_any e_ok_el e_ok_agg e_ok_tup e_ok_clo e_ok_own e_okOwn_row e_okOwn_fz e_ok_ptr e_okPtr_box e_okPtr_fzb e_okL_nil e_okL_cons e_ids_d e_ids_any e_ids_el e_ids_own e_ids_ptr e_ids_agg e_ids_tup e_ids_clo e_idsL_nil e_idsL_cons e_frz_nil e_frz_cons e_frz_row e_frz_fz e_frz_fzb e_frz_box e_frzB e_flat_lit e_flat_sl e_flat_agg e_flat_tup e_flat_any e_flat_clo e_flatL_nil e_flatL_cons e_new_lit e_new_agg e_new_tup e_new_own e_newOwn_row e_newL_nil e_newL_cons e_objD e_setMany e_takeA e_zerosA e_gdL e_idsG e_idsOp e_callV' e_callN' e_callF' e_o_move e_o_assign e_o_pick e_o_unOp e_o_binOp e_o_alloc e_o_box e_o_build e_o_buildSlice e_o_load e_o_store e_o_fieldAddr e_o_field e_o_indexAddr e_o_index e_o_slice0 e_o_slice1 e_o_slice2 e_o_slice3 e_o_makeSlice e_o_makeFunc e_o_convert e_o_extract e_o_nilCheck e_o_bcall e_o_vcall litI litB litS
attribute [local go_sem] List.map_cons List.map_nil List.getD_cons_zero List.getD_cons_succ List.getD_nil List.getElem?_cons_zero List.getElem?_cons_succ List.getElem?_nil Option.getD_some Option.getD_none Option.map_some Option.map_none List.length_cons List.length_nil List.all_cons List.all_nil Bool.and_true Bool.true_and and_true true_and and_self List.take_zero List.take_succ_cons List.drop_zero List.drop_succ_cons List.nil_append List.cons_append List.append_nil List.replicate_succ List.replicate_zero List.flatten_cons List.flatten_nil Nat.zero_add Nat.add_zero Nat.mul_one Nat.zero_mul Nat.one_mul Nat.mul_zero List.set_cons_zero List.set_cons_succ List.foldl_cons List.foldl_nil appendOk rowsOk inB sliceOk cutRows mtake mdrop List.length_append List.length_take List.length_drop if_true if_false or_false or_true true_or Bool.not_true Bool.not_false Bool.false_eq_true List.length_map Int.toNat_natCast Int.toNat_zero Int.toNat_one eq_self St.after St.put applyEff R0 T1 T2 T3 T4 T5 T9 T15 T22 T24 T25 T26 T28 T29 T30 T32 T34 T36 T39 T42 T44 T47 T49 T51 T52 T54 T55 T57 T58 T60 T64 T68 T70 T72 T74 T76 T81 T83 T87 T90 T94 T97 T102 T113 T116 T119 T131 T134 T143 T145 T149 T151 T154 ti1 ti2 ti3 ti4 ti5 ti9 ti15 ti22 ti24 ti25 ti26 ti28 ti29 ti30 ti32 ti34 ti36 ti39 ti42 ti44 ti47 ti49 ti51 ti52 ti54 ti55 ti57 ti58 ti60 ti64 ti68 ti70 ti72 ti74 ti76 ti81 ti83 ti87 ti90 ti94 ti97 ti102 ti113 ti116 ti119 ti131 ti134 ti143 ti145 ti149 ti151 ti154
section
set_option linter.unusedVariables false
set_option linter.unusedSimpArgs false
open Go.RowKit
attribute [local irreducible] AWp evOps evD
theorem vlEq_false {a b : Vl} (h : vlEq a b = false) : cmpW a b ≠ 0 := fun e => by
  have := (vlEq_iff a b).2 ((cmpW_cmp.eq _ _).1 e)
  rw [h] at this; cases this
theorem f45_spec (a b : List Vl) : Spec Try.prog 45 [.d (vls a), .d (vls b)] (litB (cmpVs a b == 0)) := by
  by_cases hl : a.length = b.length
  rotate_left
  · have d : (((a.length : Int)) != (b.length : Int)) = true := by simp; omega
    have hz : (cmpVs a b == 0) = false := by
      have : cmpVs a b ≠ 0 := fun e => hl (by rw [(cmpVs_cmp.eq _ _).1 e])
      simpa using this
    rw [hz]
    refine spec_of_awp (fn := Try.f45) Try.func45 (by kernel_rfl) rfl ?_
    intro w0 C0
    simp only [Try.ntmps45, litI, litB, litS, List.length_cons, List.length_nil, Nat.reduceAdd, Nat.reduceSub, List.replicate_succ, List.replicate_zero, List.cons_append, List.nil_append]
    repeat' first
      | refine awp_seq ?_
      | refine awp_block ?_
      | refine awp_skip ?_
      | (refine reg _ (by (simp only [List.map_cons, List.map_nil]; rfl)) rfl ?_; intro K hK)
      | (refine awp_cond _ (by rfl) ?_ ?_ <;> (intro hb; first | (cases hb; done) | (have ht : true = true := hb; clear ht hb) | (have ht : false = false := hb; clear ht hb) | (simp only [hb]) | skip))
      | (refine awp_exit ?_; simp only [thenA, blockA, scopeA, reduceIte, RetQ, Nat.reduceEqDiff])
      | (refine awp_ret ?_; simp only [thenA, blockA, scopeA, RetQ])
      | (refine ev_nil (hK _ ?_); clear hK K)
      | (apply ev_step0; (case hr | hσ => (simp only [go_sem, d]; try rfl)); (case hc => (first | trivial | decide | (simp only [inB, sliceOk, appendOk, rowsOk]; omega) | (simp [inB, sliceOk, appendOk, rowsOk]; omega))))
      | (apply ev_step; (case hr => (simp only [go_sem, d]; try rfl)); (case hσ => (intro g u; simp only [go_sem, d]; try rfl)); (case hc => (first | trivial | decide | (simp only [inB, sliceOk, appendOk, rowsOk]; omega) | (simp [inB, sliceOk, appendOk, rowsOk]; omega))); intro g u; (try clear u); (try clear g))
      | fail
    all_goals (refine resR_one T_ok rfl _ (by (simp only [go_sem, resA]; rfl)) (by first | trivial | (simp only [go_sem, resA])) (by first | trivial | (simp only [go_sem])) ?_; simp only [go_sem])
    exact LeA.refl _
  have d : (((a.length : Int)) != (b.length : Int)) = false := by simp; omega
  refine spec_of_awp (fn := Try.f45) Try.func45 (by kernel_rfl) rfl ?_
  intro w0 C0
  simp only [Try.ntmps45, litI, litB, litS, List.length_cons, List.length_nil, Nat.reduceAdd, Nat.reduceSub, List.replicate_succ, List.replicate_zero, List.cons_append, List.nil_append]
  refine awp_len 0 rfl fun hll => ?_
  simp only [List.length_map] at hll
  repeat' first
    | refine awp_seq ?_
    | refine awp_block ?_
    | refine awp_skip ?_
    | (refine reg _ (by (simp only [List.map_cons, List.map_nil]; rfl)) rfl ?_; intro K hK)
    | (refine awp_cond _ (by rfl) ?_ ?_ <;> (intro hb; first | (cases hb; done) | (have ht : true = true := hb; clear ht hb) | (have ht : false = false := hb; clear ht hb) | (simp only [hb]) | skip))
    | (refine awp_exit ?_; simp only [thenA, blockA, scopeA, reduceIte, RetQ, Nat.reduceEqDiff])
    | (refine awp_ret ?_; simp only [thenA, blockA, scopeA, RetQ])
    | (refine ev_nil (hK _ ?_); clear hK K)
    | (apply ev_step0; (case hr | hσ => (simp only [go_sem, d]; try rfl)); (case hc => (first | trivial | decide | (simp only [inB, sliceOk, appendOk, rowsOk]; omega) | (simp [inB, sliceOk, appendOk, rowsOk]; omega))))
    | (apply ev_step; (case hr => (simp only [go_sem, d]; try rfl)); (case hσ => (intro g u; simp only [go_sem, d]; try rfl)); (case hc => (first | trivial | decide | (simp only [inB, sliceOk, appendOk, rowsOk]; omega) | (simp [inB, sliceOk, appendOk, rowsOk]; omega))); intro g u; (try clear u); (try clear g))
    | fail
  refine awp_loopI (fun i : Nat => i ≤ a.length ∧ cmpVs a b = cmpVs (a.drop i) (b.drop i)) (fun i => a.length - i) (fun i => ⟨[.d (vls a), .d (vls b), .any, .any, .any, .any, .any, .any, .any, .any, .any, .any, litI .i64 a.length, litI .i64 i, .any, .any, .any, .any, .any, .any, .any, .any, .any, .any, .any, .any], [.no, .no, .no, .no, .no, .no, .no, .no, .no, .no, .no, .no, .no, .no, .no, .no, .no, .no, .no, .no, .no, .no, .no, .no, .no, .no]⟩) 0 ⟨by omega, rfl⟩ ?_ ?_
  · refine Wk.mk ?_ ?_
    all_goals (repeat' first | exact trivial | exact LeA.refl _ | exact LeA.any _ | exact LeO.refl _ | exact LeO.no _ | exact LeA.nil _ | exact LeA.nilOwn _ | exact LeO.nil _ _ _ | refine LeO.box ?_ | (refine LeA.i ?_; (first | rfl | (push_cast; rfl) | (rw [wrap_id (by omega)]; push_cast; omega) | (simp [wrap_id]; omega))) | refine ⟨?_, ?_⟩)
  rintro i ⟨hi, hc⟩
  simp only [litI, litB] at hi hc ⊢
  by_cases h1 : i < a.length
  · have d1 : decide ((i : Int) < (a.length : Int)) = true := decide_eq_true (by omega)
    have hx := vls_at a h1
    have hy := vls_at b (i := i) (by omega)
    rw [drop_at a nullV h1, drop_at b nullV (by omega)] at hc
    simp only [cmpVs] at hc
    generalize a.getD i nullV = x at *
    generalize b.getD i nullV = y at *
    have hv : (x.k == y.k && (x.i == y.i && x.s.toList == y.s.toList)) = vlEq x y := rfl
    cases he : vlEq x y with
    | true =>
      have : cmpW x y = 0 := (cmpW_cmp.eq _ _).2 ((vlEq_iff _ _).1 he)
      rw [if_neg (by simpa using this)] at hc
      repeat' first
        | refine awp_seq ?_
        | refine awp_block ?_
        | refine awp_skip ?_
        | (refine reg _ (by (simp only [List.map_cons, List.map_nil]; rfl)) rfl ?_; intro K hK)
        | (refine awp_cond _ (by rfl) ?_ ?_ <;> (intro hb; first | (cases hb; done) | (have ht : true = true := hb; clear ht hb) | (have ht : false = false := hb; clear ht hb) | (simp only [hb]) | skip))
        | (refine awp_exit ?_; simp only [thenA, blockA, scopeA, reduceIte, RetQ, Nat.reduceEqDiff])
        | (refine awp_ret ?_; simp only [thenA, blockA, scopeA, RetQ])
        | (refine ev_nil (hK _ ?_); clear hK K)
        | (apply regD; (case hd => (simp only [List.map_cons, List.map_nil]; rfl)); (case hok => rfl); (case' h => (intro K hK; (repeat' first
        | (apply evd_nil; refine (hK _ ?_); clear hK K)
        | (apply evd_step0; (case hr | hi | hσ => (simp only [go_sem, d1, hx, hy, hv, he]; try rfl)); (case hc => (first | trivial | decide | (simp only [inB, sliceOk, appendOk, rowsOk]; omega) | (simp [inB, sliceOk, appendOk, rowsOk]; omega))))
        | (apply evd_step; (case hr | hi => (simp only [go_sem, d1, hx, hy, hv, he]; try rfl)); (case hc => (first | trivial | decide | (simp only [inB, sliceOk, appendOk, rowsOk]; omega) | (simp [inB, sliceOk, appendOk, rowsOk]; omega))); (case hw | hσ => (intro g u; simp only [go_sem, d1, hx, hy, hv, he]; try rfl)); (case' hk => (intro g u; (try clear u); (try clear g))))
        | fail))); (case hB => kernel_rfl))
        | (apply ev_step0; (case hr | hσ => (simp only [go_sem, d1, hx, hy, hv, he]; try rfl)); (case hc => (first | trivial | decide | (simp only [inB, sliceOk, appendOk, rowsOk]; omega) | (simp [inB, sliceOk, appendOk, rowsOk]; omega))))
        | (apply ev_step; (case hr => (simp only [go_sem, d1, hx, hy, hv, he]; try rfl)); (case hσ => (intro g u; simp only [go_sem, d1, hx, hy, hv, he]; try rfl)); (case hc => (first | trivial | decide | (simp only [inB, sliceOk, appendOk, rowsOk]; omega) | (simp [inB, sliceOk, appendOk, rowsOk]; omega))); intro g u; (try clear u); (try clear g))
        | fail
      refine Exists.intro (i + 1) ⟨⟨by omega, hc⟩, by omega, ?_⟩
      refine Wk.mk ?_ ?_
      all_goals (repeat' first | exact trivial | exact LeA.refl _ | exact LeA.any _ | exact LeO.refl _ | exact LeO.no _ | exact LeA.nil _ | exact LeA.nilOwn _ | exact LeO.nil _ _ _ | refine LeO.box ?_ | (refine LeA.i ?_; (first | rfl | (push_cast; rfl) | (rw [wrap_id (by omega)]; push_cast; omega) | (simp [wrap_id]; omega))) | refine ⟨?_, ?_⟩)
    | false =>
      have := vlEq_false he
      rw [if_pos this] at hc
      repeat' first
        | refine awp_seq ?_
        | refine awp_block ?_
        | refine awp_skip ?_
        | (refine reg _ (by (simp only [List.map_cons, List.map_nil]; rfl)) rfl ?_; intro K hK)
        | (refine awp_cond _ (by rfl) ?_ ?_ <;> (intro hb; first | (cases hb; done) | (have ht : true = true := hb; clear ht hb) | (have ht : false = false := hb; clear ht hb) | (simp only [hb]) | skip))
        | (refine awp_exit ?_; simp only [thenA, blockA, scopeA, reduceIte, RetQ, Nat.reduceEqDiff])
        | (refine awp_ret ?_; simp only [thenA, blockA, scopeA, RetQ])
        | (refine ev_nil (hK _ ?_); clear hK K)
        | (apply regD; (case hd => (simp only [List.map_cons, List.map_nil]; rfl)); (case hok => rfl); (case' h => (intro K hK; (repeat' first
        | (apply evd_nil; refine (hK _ ?_); clear hK K)
        | (apply evd_step0; (case hr | hi | hσ => (simp only [go_sem, d1, hx, hy, hv, he]; try rfl)); (case hc => (first | trivial | decide | (simp only [inB, sliceOk, appendOk, rowsOk]; omega) | (simp [inB, sliceOk, appendOk, rowsOk]; omega))))
        | (apply evd_step; (case hr | hi => (simp only [go_sem, d1, hx, hy, hv, he]; try rfl)); (case hc => (first | trivial | decide | (simp only [inB, sliceOk, appendOk, rowsOk]; omega) | (simp [inB, sliceOk, appendOk, rowsOk]; omega))); (case hw | hσ => (intro g u; simp only [go_sem, d1, hx, hy, hv, he]; try rfl)); (case' hk => (intro g u; (try clear u); (try clear g))))
        | fail))); (case hB => kernel_rfl))
        | (apply ev_step0; (case hr | hσ => (simp only [go_sem, d1, hx, hy, hv, he]; try rfl)); (case hc => (first | trivial | decide | (simp only [inB, sliceOk, appendOk, rowsOk]; omega) | (simp [inB, sliceOk, appendOk, rowsOk]; omega))))
        | (apply ev_step; (case hr => (simp only [go_sem, d1, hx, hy, hv, he]; try rfl)); (case hσ => (intro g u; simp only [go_sem, d1, hx, hy, hv, he]; try rfl)); (case hc => (first | trivial | decide | (simp only [inB, sliceOk, appendOk, rowsOk]; omega) | (simp [inB, sliceOk, appendOk, rowsOk]; omega))); intro g u; (try clear u); (try clear g))
        | fail
      all_goals (refine resR_one T_ok rfl _ (by (simp only [go_sem, resA]; rfl)) (by first | trivial | (simp only [go_sem, resA])) (by first | trivial | (simp only [go_sem])) ?_; simp only [go_sem])
      exact LeA.b (by rw [hc]; simpa using this)
  · have d1 : decide ((i : Int) < (a.length : Int)) = false := decide_eq_false (by omega)
    rw [List.drop_eq_nil_of_le (by omega), List.drop_eq_nil_of_le (by omega)] at hc
    repeat' first
      | refine awp_seq ?_
      | refine awp_block ?_
      | refine awp_skip ?_
      | (refine reg _ (by (simp only [List.map_cons, List.map_nil]; rfl)) rfl ?_; intro K hK)
      | (refine awp_cond _ (by rfl) ?_ ?_ <;> (intro hb; first | (cases hb; done) | (have ht : true = true := hb; clear ht hb) | (have ht : false = false := hb; clear ht hb) | (simp only [hb]) | skip))
      | (refine awp_exit ?_; simp only [thenA, blockA, scopeA, reduceIte, RetQ, Nat.reduceEqDiff])
      | (refine awp_ret ?_; simp only [thenA, blockA, scopeA, RetQ])
      | (refine ev_nil (hK _ ?_); clear hK K)
      | (apply ev_step0; (case hr | hσ => (simp only [go_sem, d1]; try rfl)); (case hc => (first | trivial | decide | (simp only [inB, sliceOk, appendOk, rowsOk]; omega) | (simp [inB, sliceOk, appendOk, rowsOk]; omega))))
      | (apply ev_step; (case hr => (simp only [go_sem, d1]; try rfl)); (case hσ => (intro g u; simp only [go_sem, d1]; try rfl)); (case hc => (first | trivial | decide | (simp only [inB, sliceOk, appendOk, rowsOk]; omega) | (simp [inB, sliceOk, appendOk, rowsOk]; omega))); intro g u; (try clear u); (try clear g))
      | fail
    all_goals (refine resR_one T_ok rfl _ (by (simp only [go_sem, resA]; rfl)) (by first | trivial | (simp only [go_sem, resA])) (by first | trivial | (simp only [go_sem])) ?_; simp only [go_sem])
    exact LeA.b (by rw [hc]; rfl)
abbrev schD (s : Sch) : List Dat := [tbsD s.tables, rfsD s.refs, ttsD s.totals]
theorem f43_spec (s : Sch) (r : Rf) (key : List Vl) (l : Rw) (hto : r.to < s.tables.length) (hc : r.column + keyN s r.to ≤ l.length) (hll : l.length ≤ 1000) : Spec Try.prog 43 [.agg (rwA l), .el (schD s) 0, .el (rfD r) 0, .el [vls key] 0] (litB (refsTo s r key l)) := by
  have h44 := f44_spec s r l hto hc hll
  have h45 := f45_spec (toV s r l) key
  rw [refsTo]
  generalize toV s r l = k at *
  cases hn : nothing k with
  | true =>
    rw [hn] at h44
    simp only [Bool.not_true] at h44
    refine spec_of_awp (fn := Try.f43) Try.func43 (by kernel_rfl) rfl ?_
    intro w0 C0
    simp only [Try.ntmps43, litI, litB, litS, List.length_cons, List.length_nil, Nat.reduceAdd, Nat.reduceSub, List.replicate_succ, List.replicate_zero, List.cons_append, List.nil_append]
    repeat' first
      | refine awp_seq ?_
      | refine awp_block ?_
      | refine awp_skip ?_
      | (refine reg _ (by (simp only [List.map_cons, List.map_nil]; rfl)) rfl ?_; intro K hK)
      | (refine awp_cond _ (by rfl) ?_ ?_ <;> (intro hb; first | (cases hb; done) | (have ht : true = true := hb; clear ht hb) | (have ht : false = false := hb; clear ht hb) | (simp only [hb]) | skip))
      | (refine awp_exit ?_; simp only [thenA, blockA, scopeA, reduceIte, RetQ, Nat.reduceEqDiff])
      | (refine awp_ret ?_; simp only [thenA, blockA, scopeA, RetQ])
      | (refine ev_nil (hK _ ?_); clear hK K)
      | (apply ev_guardU; (case hj | hu | hσ => (simp only [go_sem]; try rfl)))
      | (refine ev_guardT _ _ (by (simp only [go_sem]; rfl)) (by (simp only [go_sem]; rfl)) ?_ ?_ <;> (intro hb; first | (cases hb; done) | (have ht : true = true := hb; clear ht hb) | (have ht : false = false := hb; clear ht hb) | (simp only [hb]) | skip))
      | (refine ev_guardF _ _ (by (simp only [go_sem]; rfl)) (by (simp only [go_sem]; rfl)) ?_ ?_ <;> (intro hb; first | (cases hb; done) | (have ht : true = true := hb; clear ht hb) | (have ht : false = false := hb; clear ht hb) | (simp only [hb]) | skip))
      | (apply ev_call0; (case hys => (simp only [go_sem]; try rfl)); (case hs => first | exact h44 .. | exact h45 ..); (case hok | hσ => (simp only [go_sem]; try rfl)))
      | (apply ev_step0; (case hr | hσ => (simp only [go_sem]; try rfl)); (case hc => (first | trivial | decide | (simp only [inB, sliceOk, appendOk, rowsOk]; omega) | (simp [inB, sliceOk, appendOk, rowsOk]; omega))))
      | (apply ev_step; (case hr => (simp only [go_sem]; try rfl)); (case hσ => (intro g u; simp only [go_sem]; try rfl)); (case hc => (first | trivial | decide | (simp only [inB, sliceOk, appendOk, rowsOk]; omega) | (simp [inB, sliceOk, appendOk, rowsOk]; omega))); intro g u; (try clear u); (try clear g))
      | fail
    all_goals (refine resR_one T_ok rfl _ (by (simp only [go_sem, resA]; rfl)) (by first | trivial | (simp only [go_sem, resA])) (by first | trivial | (simp only [go_sem])) ?_; simp only [go_sem])
    exact LeA.refl _
  | false =>
    rw [hn] at h44
    simp only [Bool.not_false] at h44
    refine spec_of_awp (fn := Try.f43) Try.func43 (by kernel_rfl) rfl ?_
    intro w0 C0
    simp only [Try.ntmps43, litI, litB, litS, List.length_cons, List.length_nil, Nat.reduceAdd, Nat.reduceSub, List.replicate_succ, List.replicate_zero, List.cons_append, List.nil_append]
    repeat' first
      | refine awp_seq ?_
      | refine awp_block ?_
      | refine awp_skip ?_
      | (refine reg _ (by (simp only [List.map_cons, List.map_nil]; rfl)) rfl ?_; intro K hK)
      | (refine awp_cond _ (by rfl) ?_ ?_ <;> (intro hb; first | (cases hb; done) | (have ht : true = true := hb; clear ht hb) | (have ht : false = false := hb; clear ht hb) | (simp only [hb]) | skip))
      | (refine awp_exit ?_; simp only [thenA, blockA, scopeA, reduceIte, RetQ, Nat.reduceEqDiff])
      | (refine awp_ret ?_; simp only [thenA, blockA, scopeA, RetQ])
      | (refine ev_nil (hK _ ?_); clear hK K)
      | (apply ev_guardU; (case hj | hu | hσ => (simp only [go_sem]; try rfl)))
      | (refine ev_guardT _ _ (by (simp only [go_sem]; rfl)) (by (simp only [go_sem]; rfl)) ?_ ?_ <;> (intro hb; first | (cases hb; done) | (have ht : true = true := hb; clear ht hb) | (have ht : false = false := hb; clear ht hb) | (simp only [hb]) | skip))
      | (refine ev_guardF _ _ (by (simp only [go_sem]; rfl)) (by (simp only [go_sem]; rfl)) ?_ ?_ <;> (intro hb; first | (cases hb; done) | (have ht : true = true := hb; clear ht hb) | (have ht : false = false := hb; clear ht hb) | (simp only [hb]) | skip))
      | (apply ev_call0; (case hys => (simp only [go_sem]; try rfl)); (case hs => first | exact h44 .. | exact h45 ..); (case hok | hσ => (simp only [go_sem]; try rfl)))
      | (apply ev_step0; (case hr | hσ => (simp only [go_sem]; try rfl)); (case hc => (first | trivial | decide | (simp only [inB, sliceOk, appendOk, rowsOk]; omega) | (simp [inB, sliceOk, appendOk, rowsOk]; omega))))
      | (apply ev_step; (case hr => (simp only [go_sem]; try rfl)); (case hσ => (intro g u; simp only [go_sem]; try rfl)); (case hc => (first | trivial | decide | (simp only [inB, sliceOk, appendOk, rowsOk]; omega) | (simp [inB, sliceOk, appendOk, rowsOk]; omega))); intro g u; (try clear u); (try clear g))
      | fail
    all_goals (refine resR_one T_ok rfl _ (by (simp only [go_sem, resA]; rfl)) (by first | trivial | (simp only [go_sem, resA])) (by first | trivial | (simp only [go_sem])) ?_; simp only [go_sem])
    exact LeA.refl _
def idxR (p : Rw → Bool) : List Rw → Nat → Int
  | [], _ => -1
  | a :: l, k => if p a = true then k else idxR p l (k + 1)
theorem idxR_any (p : Rw → Bool) (l : List Rw) (k : Nat) : decide (idxR p l k ≥ 0) = l.any p := by
  induction l generalizing k with
  | nil => rfl
  | cons a l ih =>
    simp only [idxR, List.any_cons]
    by_cases h : p a = true
    · simp [h]
    · simp only [h]
      simpa using ih (k + 1)
theorem f64_spec {fv : AV} {f : Nat} {caps : List AV} (hfn : IsFn fv f caps) (l : List Rw) (p : Rw → Bool) (hp : ∀ r ∈ l, Spec Try.prog f ([.agg (rwA r)] ++ caps) (litB (p r))) : Spec Try.prog 64 [.d (rwsD l), fv] (litI .i64 (idxR p l 0)) := by
  have hcl := hfn.cl
  have hok := hfn.ok
  have hids := hfn.ids
  refine spec_of_awp (fn := Try.f64) Try.func64 (by kernel_rfl) rfl ?_
  intro w0 C0
  simp only [Try.ntmps64, litI, litB, litS, List.length_cons, List.length_nil, Nat.reduceAdd, Nat.reduceSub, List.replicate_succ, List.replicate_zero, List.cons_append, List.nil_append]
  refine awp_len 0 rfl fun hl => ?_
  simp only [List.length_map] at hl
  repeat' first
    | refine awp_seq ?_
    | refine awp_block ?_
    | refine awp_skip ?_
    | (refine reg _ (by (simp only [List.map_cons, List.map_nil]; rfl)) rfl ?_; intro K hK)
    | (refine awp_cond _ (by rfl) ?_ ?_ <;> (intro hb; first | (cases hb; done) | (have ht : true = true := hb; clear ht hb) | (have ht : false = false := hb; clear ht hb) | (simp only [hb]) | skip))
    | (refine awp_exit ?_; simp only [thenA, blockA, scopeA, reduceIte, RetQ, Nat.reduceEqDiff])
    | (refine awp_ret ?_; simp only [thenA, blockA, scopeA, RetQ])
    | (refine ev_nil (hK _ ?_); clear hK K)
    | (apply ev_step0; (case hr | hσ => (simp only [go_sem, hcl, hok, hids]; try rfl)); (case hc => (first | trivial | decide | (simp only [inB, sliceOk, appendOk, rowsOk]; omega) | (simp [inB, sliceOk, appendOk, rowsOk]; omega))))
    | (apply ev_step; (case hr => (simp only [go_sem, hcl, hok, hids]; try rfl)); (case hσ => (intro g u; simp only [go_sem, hcl, hok, hids]; try rfl)); (case hc => (first | trivial | decide | (simp only [inB, sliceOk, appendOk, rowsOk]; omega) | (simp [inB, sliceOk, appendOk, rowsOk]; omega))); intro g u; (try clear u); (try clear g))
    | fail
  refine awp_loopI (fun i => i ≤ l.length ∧ idxR p l 0 = idxR p (l.drop i) i) (fun i => l.length - i) (fun i => ⟨[.d (rwsD l), fv, .any, .any, litI .i64 0, .any, .d (rwsD l), litI .i64 l.length, litI .i64 i, .any, .any, .any, .any, .any, .any, .any, .any, .any, .any], [.no, .no, .no, .no, .no, .no, .no, .no, .no, .no, .no, .no, .no, .no, .no, .no, .no, .no, .no]⟩) 0 ⟨by omega, rfl⟩ ?_ ?_
  · refine Wk.mk ?_ ?_
    all_goals (repeat' first | exact trivial | exact LeA.refl _ | exact LeA.any _ | exact LeO.refl _ | exact LeO.no _ | exact LeA.nil _ | exact LeA.nilOwn _ | exact LeO.nil _ _ _ | refine LeO.box ?_ | (refine LeA.i ?_; (first | rfl | (push_cast; rfl) | (rw [wrap_id (by omega)]; push_cast; omega) | (simp [wrap_id]; omega))) | refine ⟨?_, ?_⟩)
  rintro i ⟨hi, hfi⟩
  simp only [litI, litB]
  by_cases hlt : i < l.length
  rotate_left
  have hdec : decide ((i : Int) < (l.length : Int)) = false := by simp; omega
  · repeat' first
      | refine awp_seq ?_
      | refine awp_block ?_
      | refine awp_skip ?_
      | (refine reg _ (by (simp only [List.map_cons, List.map_nil]; rfl)) rfl ?_; intro K hK)
      | (refine awp_cond _ (by rfl) ?_ ?_ <;> (intro hb; first | (cases hb; done) | (have ht : true = true := hb; clear ht hb) | (have ht : false = false := hb; clear ht hb) | (simp only [hb]) | skip))
      | (refine awp_exit ?_; simp only [thenA, blockA, scopeA, reduceIte, RetQ, Nat.reduceEqDiff])
      | (refine awp_ret ?_; simp only [thenA, blockA, scopeA, RetQ])
      | (refine ev_nil (hK _ ?_); clear hK K)
      | (apply ev_step0; (case hr | hσ => (simp only [go_sem, hdec, hcl, hok, hids]; try rfl)); (case hc => (first | trivial | decide | (simp only [inB, sliceOk, appendOk, rowsOk]; omega) | (simp [inB, sliceOk, appendOk, rowsOk]; omega))))
      | (apply ev_step; (case hr => (simp only [go_sem, hdec, hcl, hok, hids]; try rfl)); (case hσ => (intro g u; simp only [go_sem, hdec, hcl, hok, hids]; try rfl)); (case hc => (first | trivial | decide | (simp only [inB, sliceOk, appendOk, rowsOk]; omega) | (simp [inB, sliceOk, appendOk, rowsOk]; omega))); intro g u; (try clear u); (try clear g))
      | fail
    all_goals (refine resR_one T_ok rfl _ (by (simp only [go_sem, resA]; rfl)) (by first | trivial | (simp only [go_sem, resA])) (by first | trivial | (simp only [go_sem])) ?_; simp only [go_sem])
    refine LeA.i ?_
    rw [hfi, List.drop_eq_nil_of_le (by omega)]; rfl
  have hdec : decide ((i : Int) < (l.length : Int)) = true := by simp; omega
  have hx := rws_at l hlt
  have hpx := hp _ (getD_mem' hlt [])
  rw [drop_at l [] hlt] at hfi
  simp only [idxR] at hfi
  generalize l.getD i [] = x at *
  cases hq : p x with
  | true =>
    rw [hq] at hpx
    rw [hq, if_pos rfl] at hfi
    repeat' first
      | refine awp_seq ?_
      | refine awp_block ?_
      | refine awp_skip ?_
      | (refine reg _ (by (simp only [List.map_cons, List.map_nil]; rfl)) rfl ?_; intro K hK)
      | (refine awp_cond _ (by rfl) ?_ ?_ <;> (intro hb; first | (cases hb; done) | (have ht : true = true := hb; clear ht hb) | (have ht : false = false := hb; clear ht hb) | (simp only [hb]) | skip))
      | (refine awp_exit ?_; simp only [thenA, blockA, scopeA, reduceIte, RetQ, Nat.reduceEqDiff])
      | (refine awp_ret ?_; simp only [thenA, blockA, scopeA, RetQ])
      | (refine ev_nil (hK _ ?_); clear hK K)
      | refine ev_callFn hfn _ _ (by (simp only [go_sem, hdec, hx, hcl, hok, hids])) (by (simp only [go_sem, hdec, hx, hcl, hok, hids]; try rfl)) (hpx) (by (simp only [go_sem, hdec, hx, hcl, hok, hids])) _ (by (simp only [go_sem, hdec, hx, hcl, hok, hids]; rfl)) ?_
      | (apply ev_step0; (case hr | hσ => (simp only [go_sem, hdec, hx, hcl, hok, hids]; try rfl)); (case hc => (first | trivial | decide | (simp only [inB, sliceOk, appendOk, rowsOk]; omega) | (simp [inB, sliceOk, appendOk, rowsOk]; omega))))
      | (apply ev_step; (case hr => (simp only [go_sem, hdec, hx, hcl, hok, hids]; try rfl)); (case hσ => (intro g u; simp only [go_sem, hdec, hx, hcl, hok, hids]; try rfl)); (case hc => (first | trivial | decide | (simp only [inB, sliceOk, appendOk, rowsOk]; omega) | (simp [inB, sliceOk, appendOk, rowsOk]; omega))); intro g u; (try clear u); (try clear g))
      | fail
    all_goals (refine resR_one T_ok rfl _ (by (simp only [go_sem, resA]; rfl)) (by first | trivial | (simp only [go_sem, resA])) (by first | trivial | (simp only [go_sem])) ?_; simp only [go_sem])
    exact LeA.i hfi.symm
  | false =>
    rw [hq] at hpx
    rw [hq, if_neg Bool.false_ne_true] at hfi
    repeat' first
      | refine awp_seq ?_
      | refine awp_block ?_
      | refine awp_skip ?_
      | (refine reg _ (by (simp only [List.map_cons, List.map_nil]; rfl)) rfl ?_; intro K hK)
      | (refine awp_cond _ (by rfl) ?_ ?_ <;> (intro hb; first | (cases hb; done) | (have ht : true = true := hb; clear ht hb) | (have ht : false = false := hb; clear ht hb) | (simp only [hb]) | skip))
      | (refine awp_exit ?_; simp only [thenA, blockA, scopeA, reduceIte, RetQ, Nat.reduceEqDiff])
      | (refine awp_ret ?_; simp only [thenA, blockA, scopeA, RetQ])
      | (refine ev_nil (hK _ ?_); clear hK K)
      | refine ev_callFn hfn _ _ (by (simp only [go_sem, hdec, hx, hcl, hok, hids])) (by (simp only [go_sem, hdec, hx, hcl, hok, hids]; try rfl)) (hpx) (by (simp only [go_sem, hdec, hx, hcl, hok, hids])) _ (by (simp only [go_sem, hdec, hx, hcl, hok, hids]; rfl)) ?_
      | (apply ev_step0; (case hr | hσ => (simp only [go_sem, hdec, hx, hcl, hok, hids]; try rfl)); (case hc => (first | trivial | decide | (simp only [inB, sliceOk, appendOk, rowsOk]; omega) | (simp [inB, sliceOk, appendOk, rowsOk]; omega))))
      | (apply ev_step; (case hr => (simp only [go_sem, hdec, hx, hcl, hok, hids]; try rfl)); (case hσ => (intro g u; simp only [go_sem, hdec, hx, hcl, hok, hids]; try rfl)); (case hc => (first | trivial | decide | (simp only [inB, sliceOk, appendOk, rowsOk]; omega) | (simp [inB, sliceOk, appendOk, rowsOk]; omega))); intro g u; (try clear u); (try clear g))
      | fail
    refine Exists.intro (i + 1) ⟨⟨by omega, hfi⟩, by omega, ?_⟩
    refine Wk.mk ?_ ?_
    all_goals (repeat' first | exact trivial | exact LeA.refl _ | exact LeA.any _ | exact LeO.refl _ | exact LeO.no _ | exact LeA.nil _ | exact LeA.nilOwn _ | exact LeO.nil _ _ _ | refine LeO.box ?_ | (refine LeA.i ?_; (first | rfl | (push_cast; rfl) | (rw [wrap_id (by omega)]; push_cast; omega) | (simp [wrap_id]; omega))) | refine ⟨?_, ?_⟩)
theorem f46_spec {fv : AV} {f : Nat} {caps : List AV} (hfn : IsFn fv f caps) (l : List Rw) (p : Rw → Bool) (hp : ∀ r ∈ l, Spec Try.prog f ([.agg (rwA r)] ++ caps) (litB (p r))) : Spec Try.prog 46 [.d (rwsD l), fv] (litB (l.any p)) := by
  have h64 := f64_spec hfn l p hp
  have hcl := hfn.cl
  have hok := hfn.ok
  have hids := hfn.ids
  refine spec_of_awp (fn := Try.f46) Try.func46 (by kernel_rfl) rfl ?_
  intro w0 C0
  simp only [Try.ntmps46, litI, litB, litS, List.length_cons, List.length_nil, Nat.reduceAdd, Nat.reduceSub, List.replicate_succ, List.replicate_zero, List.cons_append, List.nil_append]
  repeat' first
    | refine awp_seq ?_
    | refine awp_block ?_
    | refine awp_skip ?_
    | (refine reg _ (by (simp only [List.map_cons, List.map_nil]; rfl)) rfl ?_; intro K hK)
    | (refine awp_cond _ (by rfl) ?_ ?_ <;> (intro hb; first | (cases hb; done) | (have ht : true = true := hb; clear ht hb) | (have ht : false = false := hb; clear ht hb) | (simp only [hb]) | skip))
    | (refine awp_exit ?_; simp only [thenA, blockA, scopeA, reduceIte, RetQ, Nat.reduceEqDiff])
    | (refine awp_ret ?_; simp only [thenA, blockA, scopeA, RetQ])
    | (refine ev_nil (hK _ ?_); clear hK K)
    | (apply ev_call0; (case hys => (simp only [go_sem, hcl, hok, hids]; try rfl)); (case hs => first | exact h64 ..); (case hok | hσ => (simp only [go_sem, hcl, hok, hids]; try rfl)))
    | (apply ev_step0; (case hr | hσ => (simp only [go_sem, hcl, hok, hids]; try rfl)); (case hc => (first | trivial | decide | (simp only [inB, sliceOk, appendOk, rowsOk]; omega) | (simp [inB, sliceOk, appendOk, rowsOk]; omega))))
    | (apply ev_step; (case hr => (simp only [go_sem, hcl, hok, hids]; try rfl)); (case hσ => (intro g u; simp only [go_sem, hcl, hok, hids]; try rfl)); (case hc => (first | trivial | decide | (simp only [inB, sliceOk, appendOk, rowsOk]; omega) | (simp [inB, sliceOk, appendOk, rowsOk]; omega))); intro g u; (try clear u); (try clear g))
    | fail
  all_goals (refine resR_one T_ok rfl _ (by (simp only [go_sem, resA]; rfl)) (by first | trivial | (simp only [go_sem, resA])) (by first | trivial | (simp only [go_sem])) ?_; simp only [go_sem])
  exact LeA.b (idxR_any p l 0)
set_option maxHeartbeats 4000000 in
set_option maxRecDepth 10000 in
theorem f22_spec (s : Sch) (st : Stt) (t : Int) (key : List Vl) (h : SchOk s) (hs : StOk s st) : Spec Try.prog 22 [.agg (schA s), .agg (stA st), litI .i64 t, .d (vls key)] (litB (refdR s st t key)) := by
  have hrl := h.rlen
  refine spec_of_awp (fn := Try.f22) Try.func22 (by kernel_rfl) rfl ?_
  intro w0 C0
  simp only [Try.ntmps22, litI, litB, litS, List.length_cons, List.length_nil, Nat.reduceAdd, Nat.reduceSub, List.replicate_succ, List.replicate_zero, List.cons_append, List.nil_append]
  repeat' first
    | refine awp_seq ?_
    | refine awp_block ?_
    | refine awp_skip ?_
    | (refine reg _ (by (simp only [List.map_cons, List.map_nil]; rfl)) rfl ?_; intro K hK)
    | (refine awp_cond _ (by rfl) ?_ ?_ <;> (intro hb; first | (cases hb; done) | (have ht : true = true := hb; clear ht hb) | (have ht : false = false := hb; clear ht hb) | (simp only [hb]) | skip))
    | (refine awp_exit ?_; simp only [thenA, blockA, scopeA, reduceIte, RetQ, Nat.reduceEqDiff])
    | (refine awp_ret ?_; simp only [thenA, blockA, scopeA, RetQ])
    | (refine ev_nil (hK _ ?_); clear hK K)
    | (apply ev_step0; (case hr | hσ => (simp only [go_sem]; try rfl)); (case hc => (first | trivial | decide | (simp only [inB, sliceOk, appendOk, rowsOk]; omega) | (simp [inB, sliceOk, appendOk, rowsOk]; omega))))
    | (apply ev_step; (case hr => (simp only [go_sem]; try rfl)); (case hσ => (intro g u; simp only [go_sem]; try rfl)); (case hc => (first | trivial | decide | (simp only [inB, sliceOk, appendOk, rowsOk]; omega) | (simp [inB, sliceOk, appendOk, rowsOk]; omega))); intro g u; (try clear u); (try clear g))
    | fail
  rename_i g4 g5
  revert g; intro g7
  refine awp_loopI (fun i : Nat => i ≤ s.refs.length ∧ refdR s st t key = ((s.refs.drop i).any fun r => ((r.to : Int) == t) && (st.getD r.table []).any (refsTo s r key))) (fun i => s.refs.length - i) (fun i => ⟨[.any, .any, litI .i64 t, .any, .ptr 4 g4 0, .ptr 5 g5 0, .any, .ptr 7 g7 0, .any, .any, .any, .any, .any, .d (rfsD s.refs), litI .i64 s.refs.length, litI .i64 i, .any, .any, .any, .any, .any, .any, .any, .any, .any, .any, .any, .any, .any, .any, .any, .any, .any], [.no, .no, .no, .no, .box g4 (schA s), .box g5 (stA st), .no, .box g7 [.d (vls key)], .no, .no, .no, .no, .no, .no, .no, .no, .no, .no, .no, .no, .no, .no, .no, .no, .no, .no, .no, .no, .no, .no, .no, .no, .no]⟩) 0 ⟨by omega, rfl⟩ ?_ ?_
  · refine Wk.mk ?_ ?_
    all_goals (repeat' first | exact trivial | exact LeA.refl _ | exact LeA.any _ | exact LeO.refl _ | exact LeO.no _ | exact LeA.nil _ | exact LeA.nilOwn _ | exact LeO.nil _ _ _ | refine LeO.box ?_ | (refine LeA.i ?_; (first | rfl | (push_cast; rfl) | (rw [wrap_id (by omega)]; push_cast; omega) | (simp [wrap_id]; omega))) | refine ⟨?_, ?_⟩)
  rintro i ⟨hi, hR⟩
  simp only [litI, litB] at hi hR ⊢
  by_cases h1 : i < s.refs.length
  · have d1 : decide ((i : Int) < (s.refs.length : Int)) = true := decide_eq_true (by omega)
    have hx := rfs_at s.refs h1
    obtain ⟨r, hr, r1, r2, r3, r4, r5, r6⟩ := ref_at h h1 hs
    rw [hr] at hx
    have hy := stt_at st r5
    rw [drop_at s.refs rfN h1, hr, List.any_cons] at hR
    have hrows := hs.rows _ r1
    have h46 := f46_spec (IsFn.clo 43 [.el (schD s) 0, .el (rfD r) 0, .el [vls key] 0] (fun _ => rfl) (fun _ => by simp [clOkL, clOk]) rfl) (st.getD r.table []) (refsTo s r key) (fun l hl => f43_spec s r key l r2 (by rw [(hrows l hl).1]; exact r3) (by rw [(hrows l hl).1]; omega))
    cases ht : ((r.to : Int) == t) with
    | false =>
      rw [ht, Bool.false_and, Bool.false_or] at hR
      have ht' : ((r.to : Int) != t) = true := by simpa [bne] using ht
      repeat' first
        | refine awp_seq ?_
        | refine awp_block ?_
        | refine awp_skip ?_
        | (refine reg _ (by (simp only [List.map_cons, List.map_nil]; rfl)) rfl ?_; intro K hK)
        | (refine awp_cond _ (by rfl) ?_ ?_ <;> (intro hb; first | (cases hb; done) | (have ht : true = true := hb; clear ht hb) | (have ht : false = false := hb; clear ht hb) | (simp only [hb]) | skip))
        | (refine awp_exit ?_; simp only [thenA, blockA, scopeA, reduceIte, RetQ, Nat.reduceEqDiff])
        | (refine awp_ret ?_; simp only [thenA, blockA, scopeA, RetQ])
        | (refine ev_nil (hK _ ?_); clear hK K)
        | (apply ev_step0; (case hr | hσ => (simp only [go_sem, d1, hx, hy, ht']; try rfl)); (case hc => (first | trivial | decide | (simp only [inB, sliceOk, appendOk, rowsOk]; omega) | (simp [inB, sliceOk, appendOk, rowsOk]; omega))))
        | (apply ev_step; (case hr => (simp only [go_sem, d1, hx, hy, ht']; try rfl)); (case hσ => (intro g u; simp only [go_sem, d1, hx, hy, ht']; try rfl)); (case hc => (first | trivial | decide | (simp only [inB, sliceOk, appendOk, rowsOk]; omega) | (simp [inB, sliceOk, appendOk, rowsOk]; omega))); intro g u; (try clear u); (try clear g))
        | fail
      refine Exists.intro (i + 1) ⟨⟨by omega, hR⟩, by omega, ?_⟩
      refine Wk.mk ?_ ?_
      all_goals (repeat' first | exact trivial | exact LeA.refl _ | exact LeA.any _ | exact LeO.refl _ | exact LeO.no _ | exact LeA.nil _ | exact LeA.nilOwn _ | exact LeO.nil _ _ _ | refine LeO.box ?_ | (refine LeA.i ?_; (first | rfl | (push_cast; rfl) | (rw [wrap_id (by omega)]; push_cast; omega) | (simp [wrap_id]; omega))) | refine ⟨?_, ?_⟩)
    | true =>
      rw [ht, Bool.true_and] at hR
      have ht' : ((r.to : Int) != t) = false := by simpa [bne] using ht
      generalize (st.getD r.table []).any (refsTo s r key) = b at *
      cases b with
      | true =>
        repeat' first
          | refine awp_seq ?_
          | refine awp_block ?_
          | refine awp_skip ?_
          | (refine reg _ (by (simp only [List.map_cons, List.map_nil]; rfl)) rfl ?_; intro K hK)
          | (refine awp_cond _ (by rfl) ?_ ?_ <;> (intro hb; first | (cases hb; done) | (have ht : true = true := hb; clear ht hb) | (have ht : false = false := hb; clear ht hb) | (simp only [hb]) | skip))
          | (refine awp_exit ?_; simp only [thenA, blockA, scopeA, reduceIte, RetQ, Nat.reduceEqDiff])
          | (refine awp_ret ?_; simp only [thenA, blockA, scopeA, RetQ])
          | (refine ev_nil (hK _ ?_); clear hK K)
          | (apply ev_call0; (case hys => (simp only [go_sem, d1, hx, hy, ht']; try rfl)); (case hs => first | exact h46 ..); (case hok | hσ => (simp only [go_sem, d1, hx, hy, ht']; try rfl)))
          | (apply ev_step0; (case hr | hσ => (simp only [go_sem, d1, hx, hy, ht']; try rfl)); (case hc => (first | trivial | decide | (simp only [inB, sliceOk, appendOk, rowsOk]; omega) | (simp [inB, sliceOk, appendOk, rowsOk]; omega))))
          | (apply ev_step; (case hr => (simp only [go_sem, d1, hx, hy, ht']; try rfl)); (case hσ => (intro g u; simp only [go_sem, d1, hx, hy, ht']; try rfl)); (case hc => (first | trivial | decide | (simp only [inB, sliceOk, appendOk, rowsOk]; omega) | (simp [inB, sliceOk, appendOk, rowsOk]; omega))); intro g u; (try clear u); (try clear g))
          | fail
        all_goals (refine resR_one T_ok rfl _ (by (simp only [go_sem, resA]; rfl)) (by first | trivial | (simp only [go_sem, resA])) (by first | trivial | (simp only [go_sem])) ?_; simp only [go_sem])
        exact LeA.b (by rw [hR, Bool.true_or])
      | false =>
        rw [Bool.false_or] at hR
        repeat' first
          | refine awp_seq ?_
          | refine awp_block ?_
          | refine awp_skip ?_
          | (refine reg _ (by (simp only [List.map_cons, List.map_nil]; rfl)) rfl ?_; intro K hK)
          | (refine awp_cond _ (by rfl) ?_ ?_ <;> (intro hb; first | (cases hb; done) | (have ht : true = true := hb; clear ht hb) | (have ht : false = false := hb; clear ht hb) | (simp only [hb]) | skip))
          | (refine awp_exit ?_; simp only [thenA, blockA, scopeA, reduceIte, RetQ, Nat.reduceEqDiff])
          | (refine awp_ret ?_; simp only [thenA, blockA, scopeA, RetQ])
          | (refine ev_nil (hK _ ?_); clear hK K)
          | (apply ev_call0; (case hys => (simp only [go_sem, d1, hx, hy, ht']; try rfl)); (case hs => first | exact h46 ..); (case hok | hσ => (simp only [go_sem, d1, hx, hy, ht']; try rfl)))
          | (apply ev_step0; (case hr | hσ => (simp only [go_sem, d1, hx, hy, ht']; try rfl)); (case hc => (first | trivial | decide | (simp only [inB, sliceOk, appendOk, rowsOk]; omega) | (simp [inB, sliceOk, appendOk, rowsOk]; omega))))
          | (apply ev_step; (case hr => (simp only [go_sem, d1, hx, hy, ht']; try rfl)); (case hσ => (intro g u; simp only [go_sem, d1, hx, hy, ht']; try rfl)); (case hc => (first | trivial | decide | (simp only [inB, sliceOk, appendOk, rowsOk]; omega) | (simp [inB, sliceOk, appendOk, rowsOk]; omega))); intro g u; (try clear u); (try clear g))
          | fail
        refine Exists.intro (i + 1) ⟨⟨by omega, hR⟩, by omega, ?_⟩
        refine Wk.mk ?_ ?_
        all_goals (repeat' first | exact trivial | exact LeA.refl _ | exact LeA.any _ | exact LeO.refl _ | exact LeO.no _ | exact LeA.nil _ | exact LeA.nilOwn _ | exact LeO.nil _ _ _ | refine LeO.box ?_ | (refine LeA.i ?_; (first | rfl | (push_cast; rfl) | (rw [wrap_id (by omega)]; push_cast; omega) | (simp [wrap_id]; omega))) | refine ⟨?_, ?_⟩)
  · have d1 : decide ((i : Int) < (s.refs.length : Int)) = false := decide_eq_false (by omega)
    rw [List.drop_eq_nil_of_le (by omega), List.any_nil] at hR
    repeat' first
      | refine awp_seq ?_
      | refine awp_block ?_
      | refine awp_skip ?_
      | (refine reg _ (by (simp only [List.map_cons, List.map_nil]; rfl)) rfl ?_; intro K hK)
      | (refine awp_cond _ (by rfl) ?_ ?_ <;> (intro hb; first | (cases hb; done) | (have ht : true = true := hb; clear ht hb) | (have ht : false = false := hb; clear ht hb) | (simp only [hb]) | skip))
      | (refine awp_exit ?_; simp only [thenA, blockA, scopeA, reduceIte, RetQ, Nat.reduceEqDiff])
      | (refine awp_ret ?_; simp only [thenA, blockA, scopeA, RetQ])
      | (refine ev_nil (hK _ ?_); clear hK K)
      | (apply ev_step0; (case hr | hσ => (simp only [go_sem, d1]; try rfl)); (case hc => (first | trivial | decide | (simp only [inB, sliceOk, appendOk, rowsOk]; omega) | (simp [inB, sliceOk, appendOk, rowsOk]; omega))))
      | (apply ev_step; (case hr => (simp only [go_sem, d1]; try rfl)); (case hσ => (intro g u; simp only [go_sem, d1]; try rfl)); (case hc => (first | trivial | decide | (simp only [inB, sliceOk, appendOk, rowsOk]; omega) | (simp [inB, sliceOk, appendOk, rowsOk]; omega))); intro g u; (try clear u); (try clear g))
      | fail
    all_goals (refine resR_one T_ok rfl _ (by (simp only [go_sem, resA]; rfl)) (by first | trivial | (simp only [go_sem, resA])) (by first | trivial | (simp only [go_sem])) ?_; simp only [go_sem])
    exact LeA.b hR.symm
end
section
set_option linter.unusedVariables false
set_option linter.unusedSimpArgs false
open Go.RowKit
attribute [local irreducible] AWp evOps evD
def sameM (n : Nat) (a b : Rw) : Bool := cmpVs (keyR a n) (keyR b n) == 0
set_option maxHeartbeats 4000000 in
theorem f70_spec (a b : Rw) (n : Nat) (ha : n ≤ a.length) (hb : n ≤ b.length) (hn : n ≤ 1000) : Spec Try.prog 70 [.agg (rwA a), .agg (rwA b), litI .i64 (n : Int)] (litB (sameM n a b)) := by
  have la : (keyR a n).length = n := by rw [keyR_len]; omega
  have lb : (keyR b n).length = n := by rw [keyR_len]; omega
  rw [sameM]
  refine spec_of_awp (fn := Try.f70) Try.func70 (by kernel_rfl) rfl ?_
  intro w0 C0
  simp only [Try.ntmps70, litI, litB, litS, List.length_cons, List.length_nil, Nat.reduceAdd, Nat.reduceSub, List.replicate_succ, List.replicate_zero, List.cons_append, List.nil_append]
  repeat' first
    | refine awp_seq ?_
    | refine awp_block ?_
    | refine awp_skip ?_
    | (refine reg _ (by (simp only [List.map_cons, List.map_nil]; rfl)) rfl ?_; intro K hK)
    | (refine awp_cond _ (by rfl) ?_ ?_ <;> (intro hb; first | (cases hb; done) | (have ht : true = true := hb; clear ht hb) | (have ht : false = false := hb; clear ht hb) | (simp only [hb]) | skip))
    | (refine awp_exit ?_; simp only [thenA, blockA, scopeA, reduceIte, RetQ, Nat.reduceEqDiff])
    | (refine awp_ret ?_; simp only [thenA, blockA, scopeA, RetQ])
    | (refine ev_nil (hK _ ?_); clear hK K)
    | (apply ev_step0; (case hr | hσ => (simp only [go_sem]; try rfl)); (case hc => (first | trivial | decide | (simp only [inB, sliceOk, appendOk, rowsOk]; omega) | (simp [inB, sliceOk, appendOk, rowsOk]; omega))))
    | (apply ev_step; (case hr => (simp only [go_sem]; try rfl)); (case hσ => (intro g u; simp only [go_sem]; try rfl)); (case hc => (first | trivial | decide | (simp only [inB, sliceOk, appendOk, rowsOk]; omega) | (simp [inB, sliceOk, appendOk, rowsOk]; omega))); intro g u; (try clear u); (try clear g))
    | fail
  rename_i g3
  refine awp_loopI (fun i : Nat => i ≤ n ∧ cmpVs (keyR a n) (keyR b n) = cmpVs ((keyR a n).drop i) ((keyR b n).drop i)) (fun i => n - i) (fun i => ⟨[.any, .any, .any, .ptr 3 g3 0, .ptr 4 g 0, .any, .any, .any, litI .i64 n, litI .i64 i, .any, .any, .any, .any, .any, .any, .any, .any, .any, .any, .any, .any, .any, .any, .any, .any], [.no, .no, .no, .box g3 (rwA a), .box g (rwA b), .no, .no, .no, .no, .no, .no, .no, .no, .no, .no, .no, .no, .no, .no, .no, .no, .no, .no, .no, .no, .no]⟩) 0 ⟨by omega, rfl⟩ ?_ ?_
  · refine Wk.mk ?_ ?_
    all_goals (repeat' first | exact trivial | exact LeA.refl _ | exact LeA.any _ | exact LeO.refl _ | exact LeO.no _ | exact LeA.nil _ | exact LeA.nilOwn _ | exact LeO.nil _ _ _ | refine LeO.box ?_ | (refine LeA.i ?_; (first | rfl | (push_cast; rfl) | (rw [wrap_id (by omega)]; push_cast; omega) | (simp [wrap_id]; omega))) | refine ⟨?_, ?_⟩)
  rintro i ⟨hi, hc⟩
  simp only [litI, litB] at hi hc ⊢
  by_cases h1 : i < n
  · have d1 : decide ((i : Int) < (n : Int)) = true := decide_eq_true (by omega)
    have hx := cls_at a (i := i) (by omega)
    have hy := cls_at b (i := i) (by omega)
    have ka : (keyR a n).getD i nullV = (a.getD i nullC).v := by
      have : i < a.length := by omega
      simp [keyR, List.getD_eq_getElem?_getD, List.getElem?_take, h1, this]
    have kb : (keyR b n).getD i nullV = (b.getD i nullC).v := by
      have : i < b.length := by omega
      simp [keyR, List.getD_eq_getElem?_getD, List.getElem?_take, h1, this]
    rw [drop_at _ nullV (by omega), drop_at (keyR b n) nullV (by omega), ka, kb] at hc
    simp only [cmpVs] at hc
    have hal : i < a.length := by omega
    have hbl : i < b.length := by omega
    generalize a.getD i nullC = x at *
    generalize b.getD i nullC = y at *
    have hv : (x.v.k == y.v.k && (x.v.i == y.v.i && x.v.s.toList == y.v.s.toList)) = vlEq x.v y.v := rfl
    cases he : vlEq x.v y.v with
    | true =>
      have : cmpW x.v y.v = 0 := (cmpW_cmp.eq _ _).2 ((vlEq_iff _ _).1 he)
      rw [if_neg (by simpa using this)] at hc
      repeat' first
        | refine awp_seq ?_
        | refine awp_block ?_
        | refine awp_skip ?_
        | (refine reg _ (by (simp only [List.map_cons, List.map_nil]; rfl)) rfl ?_; intro K hK)
        | (refine awp_cond _ (by rfl) ?_ ?_ <;> (intro hb; first | (cases hb; done) | (have ht : true = true := hb; clear ht hb) | (have ht : false = false := hb; clear ht hb) | (simp only [hb]) | skip))
        | (refine awp_exit ?_; simp only [thenA, blockA, scopeA, reduceIte, RetQ, Nat.reduceEqDiff])
        | (refine awp_ret ?_; simp only [thenA, blockA, scopeA, RetQ])
        | (refine ev_nil (hK _ ?_); clear hK K)
        | (apply regD; (case hd => (simp only [List.map_cons, List.map_nil]; rfl)); (case hok => rfl); (case' h => (intro K hK; (repeat' first
        | (apply evd_nil; refine (hK _ ?_); clear hK K)
        | (apply evd_step0; (case hr | hi | hσ => (simp only [go_sem, d1, hx, hy, hv, he]; try rfl)); (case hc => (first | trivial | decide | (simp only [inB, sliceOk, appendOk, rowsOk]; omega) | (simp [inB, sliceOk, appendOk, rowsOk]; omega))))
        | (apply evd_step; (case hr | hi => (simp only [go_sem, d1, hx, hy, hv, he]; try rfl)); (case hc => (first | trivial | decide | (simp only [inB, sliceOk, appendOk, rowsOk]; omega) | (simp [inB, sliceOk, appendOk, rowsOk]; omega))); (case hw | hσ => (intro g u; simp only [go_sem, d1, hx, hy, hv, he]; try rfl)); (case' hk => (intro g u; (try clear u); (try clear g))))
        | fail))); (case hB => kernel_rfl))
        | (apply ev_step0; (case hr | hσ => (simp only [go_sem, d1, hx, hy, hv, he]; try rfl)); (case hc => (first | trivial | decide | (simp only [inB, sliceOk, appendOk, rowsOk]; omega) | (simp [inB, sliceOk, appendOk, rowsOk]; omega))))
        | (apply ev_step; (case hr => (simp only [go_sem, d1, hx, hy, hv, he]; try rfl)); (case hσ => (intro g u; simp only [go_sem, d1, hx, hy, hv, he]; try rfl)); (case hc => (first | trivial | decide | (simp only [inB, sliceOk, appendOk, rowsOk]; omega) | (simp [inB, sliceOk, appendOk, rowsOk]; omega))); intro g u; (try clear u); (try clear g))
        | fail
      refine Exists.intro (i + 1) ⟨⟨by omega, hc⟩, by omega, ?_⟩
      refine Wk.mk ?_ ?_
      all_goals (repeat' first | exact trivial | exact LeA.refl _ | exact LeA.any _ | exact LeO.refl _ | exact LeO.no _ | exact LeA.nil _ | exact LeA.nilOwn _ | exact LeO.nil _ _ _ | refine LeO.box ?_ | (refine LeA.i ?_; (first | rfl | (push_cast; rfl) | (rw [wrap_id (by omega)]; push_cast; omega) | (simp [wrap_id]; omega))) | refine ⟨?_, ?_⟩)
    | false =>
      have := vlEq_false he
      rw [if_pos this] at hc
      repeat' first
        | refine awp_seq ?_
        | refine awp_block ?_
        | refine awp_skip ?_
        | (refine reg _ (by (simp only [List.map_cons, List.map_nil]; rfl)) rfl ?_; intro K hK)
        | (refine awp_cond _ (by rfl) ?_ ?_ <;> (intro hb; first | (cases hb; done) | (have ht : true = true := hb; clear ht hb) | (have ht : false = false := hb; clear ht hb) | (simp only [hb]) | skip))
        | (refine awp_exit ?_; simp only [thenA, blockA, scopeA, reduceIte, RetQ, Nat.reduceEqDiff])
        | (refine awp_ret ?_; simp only [thenA, blockA, scopeA, RetQ])
        | (refine ev_nil (hK _ ?_); clear hK K)
        | (apply regD; (case hd => (simp only [List.map_cons, List.map_nil]; rfl)); (case hok => rfl); (case' h => (intro K hK; (repeat' first
        | (apply evd_nil; refine (hK _ ?_); clear hK K)
        | (apply evd_step0; (case hr | hi | hσ => (simp only [go_sem, d1, hx, hy, hv, he]; try rfl)); (case hc => (first | trivial | decide | (simp only [inB, sliceOk, appendOk, rowsOk]; omega) | (simp [inB, sliceOk, appendOk, rowsOk]; omega))))
        | (apply evd_step; (case hr | hi => (simp only [go_sem, d1, hx, hy, hv, he]; try rfl)); (case hc => (first | trivial | decide | (simp only [inB, sliceOk, appendOk, rowsOk]; omega) | (simp [inB, sliceOk, appendOk, rowsOk]; omega))); (case hw | hσ => (intro g u; simp only [go_sem, d1, hx, hy, hv, he]; try rfl)); (case' hk => (intro g u; (try clear u); (try clear g))))
        | fail))); (case hB => kernel_rfl))
        | (apply ev_step0; (case hr | hσ => (simp only [go_sem, d1, hx, hy, hv, he]; try rfl)); (case hc => (first | trivial | decide | (simp only [inB, sliceOk, appendOk, rowsOk]; omega) | (simp [inB, sliceOk, appendOk, rowsOk]; omega))))
        | (apply ev_step; (case hr => (simp only [go_sem, d1, hx, hy, hv, he]; try rfl)); (case hσ => (intro g u; simp only [go_sem, d1, hx, hy, hv, he]; try rfl)); (case hc => (first | trivial | decide | (simp only [inB, sliceOk, appendOk, rowsOk]; omega) | (simp [inB, sliceOk, appendOk, rowsOk]; omega))); intro g u; (try clear u); (try clear g))
        | fail
      all_goals (refine resR_one T_ok rfl _ (by (simp only [go_sem, resA]; rfl)) (by first | trivial | (simp only [go_sem, resA])) (by first | trivial | (simp only [go_sem])) ?_; simp only [go_sem])
      exact LeA.b (by rw [hc]; simpa using this)
  · have d1 : decide ((i : Int) < (n : Int)) = false := decide_eq_false (by omega)
    rw [List.drop_eq_nil_of_le (by omega), List.drop_eq_nil_of_le (by omega)] at hc
    repeat' first
      | refine awp_seq ?_
      | refine awp_block ?_
      | refine awp_skip ?_
      | (refine reg _ (by (simp only [List.map_cons, List.map_nil]; rfl)) rfl ?_; intro K hK)
      | (refine awp_cond _ (by rfl) ?_ ?_ <;> (intro hb; first | (cases hb; done) | (have ht : true = true := hb; clear ht hb) | (have ht : false = false := hb; clear ht hb) | (simp only [hb]) | skip))
      | (refine awp_exit ?_; simp only [thenA, blockA, scopeA, reduceIte, RetQ, Nat.reduceEqDiff])
      | (refine awp_ret ?_; simp only [thenA, blockA, scopeA, RetQ])
      | (refine ev_nil (hK _ ?_); clear hK K)
      | (apply ev_step0; (case hr | hσ => (simp only [go_sem, d1]; try rfl)); (case hc => (first | trivial | decide | (simp only [inB, sliceOk, appendOk, rowsOk]; omega) | (simp [inB, sliceOk, appendOk, rowsOk]; omega))))
      | (apply ev_step; (case hr => (simp only [go_sem, d1]; try rfl)); (case hσ => (intro g u; simp only [go_sem, d1]; try rfl)); (case hc => (first | trivial | decide | (simp only [inB, sliceOk, appendOk, rowsOk]; omega) | (simp [inB, sliceOk, appendOk, rowsOk]; omega))); intro g u; (try clear u); (try clear g))
      | fail
    all_goals (refine resR_one T_ok rfl _ (by (simp only [go_sem, resA]; rfl)) (by first | trivial | (simp only [go_sem, resA])) (by first | trivial | (simp only [go_sem])) ?_; simp only [go_sem])
    exact LeA.b (by rw [hc]; rfl)
set_option maxHeartbeats 4000000 in
theorem f66_spec (t : Tb) (l : Rw) (hk : t.key ≤ l.length) (hll : l.length ≤ 1000) : Spec Try.prog 66 [.agg (rwA l), .el (tbD t) 0] (.d (vls (keyR l t.key))) := by
  obtain ⟨kk, hkk⟩ : ∃ kk, l.take t.key = kk := ⟨_, rfl⟩
  have hkl : kk.length = t.key := by rw [← hkk]; simp; omega
  have hcut : List.drop 0 (List.take t.key l) = kk := hkk
  rw [keyR_vs, hkk]
  refine spec_of_awp (fn := Try.f66) Try.func66 (by kernel_rfl) rfl ?_
  intro w0 C0
  simp only [Try.ntmps66, litI, litB, litS, List.length_cons, List.length_nil, Nat.reduceAdd, Nat.reduceSub, List.replicate_succ, List.replicate_zero, List.cons_append, List.nil_append]
  repeat' first
    | refine awp_seq ?_
    | refine awp_block ?_
    | refine awp_skip ?_
    | (refine reg _ (by (simp only [List.map_cons, List.map_nil]; rfl)) rfl ?_; intro K hK)
    | (refine awp_cond _ (by rfl) ?_ ?_ <;> (intro hb; first | (cases hb; done) | (have ht : true = true := hb; clear ht hb) | (have ht : false = false := hb; clear ht hb) | (simp only [hb]) | skip))
    | (refine awp_exit ?_; simp only [thenA, blockA, scopeA, reduceIte, RetQ, Nat.reduceEqDiff])
    | (refine awp_ret ?_; simp only [thenA, blockA, scopeA, RetQ])
    | (refine ev_nil (hK _ ?_); clear hK K)
    | (apply ev_step0; (case hr | hσ => (simp only [go_sem, hkk]; try rfl)); (case hc => (first | trivial | decide | (simp only [inB, sliceOk, appendOk, rowsOk]; omega) | (simp [inB, sliceOk, appendOk, rowsOk]; omega))))
    | (apply ev_step; (case hr => (simp only [go_sem, hkk]; try rfl)); (case hσ => (intro g u; simp only [go_sem, hkk]; try rfl)); (case hc => (first | trivial | decide | (simp only [inB, sliceOk, appendOk, rowsOk]; omega) | (simp [inB, sliceOk, appendOk, rowsOk]; omega))); intro g u; (try clear u); (try clear g))
    | fail
  revert g; intro g2
  refine awp_loopI (fun j : Nat × Value => j.1 ≤ kk.length) (fun j => kk.length - j.1) (fun j => ⟨[.any, .any, .ptr 2 g2 0, .any, .own 21 j.2, .any, .any, .any, .any, .any, .any, .d (clsD kk), litI .i64 kk.length, litI .i64 j.1, .any, .any, .any, .any, .any, .any, .any, .any, .any, .any], [.no, .no, .box g2 (rwA l), .no, .no, .no, .no, .no, .no, .no, .no, .no, .no, .no, .no, .no, .no, .no, .no, .no, .no, .row j.2 70 3 ((vsOf (kk.take j.1)).map vlD), .no, .no]⟩) (0, .slice none 0 0) (by simp) ?_ ?_
  · refine Wk.mk ?_ ?_
    all_goals (repeat' first | exact trivial | exact LeA.refl _ | exact LeA.any _ | exact LeO.refl _ | exact LeO.no _ | exact LeA.nil _ | exact LeA.nilOwn _ | exact LeO.nil _ _ _ | refine LeO.box ?_ | (refine LeA.i ?_; (first | rfl | (push_cast; rfl) | (rw [wrap_id (by omega)]; push_cast; omega) | (simp [wrap_id]; omega))) | refine ⟨?_, ?_⟩)
  rintro ⟨j, v⟩ hj
  simp only [litI, litB] at hj ⊢
  by_cases h1 : j < kk.length
  · have d1 : decide ((j : Int) < (kk.length : Int)) = true := decide_eq_true (by omega)
    have hz := cls_at kk h1
    have hm : (vsOf (kk.take (j + 1))).map vlD = (vsOf (kk.take j)).map vlD ++ [vlD (kk.getD j nullC).v] := by
      rw [take_succ3 kk nullC h1]; simp [vsOf]
    have hll' : (vsOf (kk.take j)).length = j := by simp [vsOf]; omega
    generalize kk.getD j nullC = x at *
    generalize vsOf (kk.take j) = q at *
    repeat' first
      | refine awp_seq ?_
      | refine awp_block ?_
      | refine awp_skip ?_
      | (refine reg _ (by (simp only [List.map_cons, List.map_nil]; rfl)) rfl ?_; intro K hK)
      | (refine awp_cond _ (by rfl) ?_ ?_ <;> (intro hb; first | (cases hb; done) | (have ht : true = true := hb; clear ht hb) | (have ht : false = false := hb; clear ht hb) | (simp only [hb]) | skip))
      | (refine awp_exit ?_; simp only [thenA, blockA, scopeA, reduceIte, RetQ, Nat.reduceEqDiff])
      | (refine awp_ret ?_; simp only [thenA, blockA, scopeA, RetQ])
      | (refine ev_nil (hK _ ?_); clear hK K)
      | (apply ev_step0; (case hr | hσ => (simp only [go_sem, d1, hz, hll']; try rfl)); (case hc => (first | trivial | decide | (simp only [inB, sliceOk, appendOk, rowsOk]; omega) | (simp [inB, sliceOk, appendOk, rowsOk]; omega))))
      | (apply ev_step; (case hr => (simp only [go_sem, d1, hz, hll']; try rfl)); (case hσ => (intro g u; simp only [go_sem, d1, hz, hll']; try rfl)); (case hc => (first | trivial | decide | (simp only [inB, sliceOk, appendOk, rowsOk]; omega) | (simp [inB, sliceOk, appendOk, rowsOk]; omega))); intro g u; (try clear u); (try clear g))
      | fail
    refine Exists.intro (j + 1, u) ⟨by show j + 1 ≤ kk.length; omega, by show kk.length - (j + 1) < kk.length - j; omega, ?_⟩
    simp only [hm]
    refine Wk.mk ?_ ?_
    all_goals (repeat' first | exact trivial | exact LeA.refl _ | exact LeA.any _ | exact LeO.refl _ | exact LeO.no _ | exact LeA.nil _ | exact LeA.nilOwn _ | exact LeO.nil _ _ _ | refine LeO.box ?_ | (refine LeA.i ?_; (first | rfl | (push_cast; rfl) | (rw [wrap_id (by omega)]; push_cast; omega) | (simp [wrap_id]; omega))) | refine ⟨?_, ?_⟩)
  · have d1 : decide ((j : Int) < (kk.length : Int)) = false := decide_eq_false (by omega)
    have : j = kk.length := by omega
    subst this
    rw [List.take_length]
    repeat' first
      | refine awp_seq ?_
      | refine awp_block ?_
      | refine awp_skip ?_
      | (refine reg _ (by (simp only [List.map_cons, List.map_nil]; rfl)) rfl ?_; intro K hK)
      | (refine awp_cond _ (by rfl) ?_ ?_ <;> (intro hb; first | (cases hb; done) | (have ht : true = true := hb; clear ht hb) | (have ht : false = false := hb; clear ht hb) | (simp only [hb]) | skip))
      | (refine awp_exit ?_; simp only [thenA, blockA, scopeA, reduceIte, RetQ, Nat.reduceEqDiff])
      | (refine awp_ret ?_; simp only [thenA, blockA, scopeA, RetQ])
      | (refine ev_nil (hK _ ?_); clear hK K)
      | (apply ev_step0; (case hr | hσ => (simp only [go_sem, d1]; try rfl)); (case hc => (first | trivial | decide | (simp only [inB, sliceOk, appendOk, rowsOk]; omega) | (simp [inB, sliceOk, appendOk, rowsOk]; omega))))
      | (apply ev_step; (case hr => (simp only [go_sem, d1]; try rfl)); (case hσ => (intro g u; simp only [go_sem, d1]; try rfl)); (case hc => (first | trivial | decide | (simp only [inB, sliceOk, appendOk, rowsOk]; omega) | (simp [inB, sliceOk, appendOk, rowsOk]; omega))); intro g u; (try clear u); (try clear g))
      | fail
    all_goals (refine resR_one T_ok rfl _ (by (simp only [go_sem, resA]; rfl)) (by first | trivial | (simp only [go_sem, resA])) (by first | trivial | (simp only [go_sem])) ?_; simp only [go_sem])
    exact LeA.s rfl
theorem f68_spec (t : Tb) (x r : Rw) (hk : t.key ≤ r.length) (hrl : r.length ≤ 1000) (hx : t.key ≤ x.length) (hxl : x.length ≤ 1000) : Spec Try.prog 68 [.agg (rwA x), .el [.fn (.func 66) [.ptr (tbD t) 0]] 0, .el (rwD r) 0] (litI .i64 (cmpK (keyR r t.key) x)) := by
  have h66 := f66_spec t r hk hrl
  have hkl : (keyR r t.key).length = t.key := by rw [keyR_len]; omega
  have h69 := f69_spec x (keyR r t.key) (by omega) hxl
  refine spec_of_awp (fn := Try.f68) Try.func68 (by kernel_rfl) rfl ?_
  intro w0 C0
  simp only [Try.ntmps68, litI, litB, litS, List.length_cons, List.length_nil, Nat.reduceAdd, Nat.reduceSub, List.replicate_succ, List.replicate_zero, List.cons_append, List.nil_append]
  repeat' first
    | refine awp_seq ?_
    | refine awp_block ?_
    | refine awp_skip ?_
    | (refine reg _ (by (simp only [List.map_cons, List.map_nil]; rfl)) rfl ?_; intro K hK)
    | (refine awp_cond _ (by rfl) ?_ ?_ <;> (intro hb; first | (cases hb; done) | (have ht : true = true := hb; clear ht hb) | (have ht : false = false := hb; clear ht hb) | (simp only [hb]) | skip))
    | (refine awp_exit ?_; simp only [thenA, blockA, scopeA, reduceIte, RetQ, Nat.reduceEqDiff])
    | (refine awp_ret ?_; simp only [thenA, blockA, scopeA, RetQ])
    | (refine ev_nil (hK _ ?_); clear hK K)
    | (apply regD; (case hd => (simp only [List.map_cons, List.map_nil]; rfl)); (case hok => rfl); (case' h => (intro K hK; (repeat' first
        | (apply evd_nil; refine (hK _ ?_); clear hK K)
        | (apply evd_call0; (case hi | hys => (simp only [go_sem]; try rfl)); (case hs => first | exact h66 .. | exact h69 ..); (case hok | hw | hσ => (simp only [go_sem]; try rfl)))
        | (apply evd_callC; (case hf | hi | hys => (simp only [go_sem]; try rfl)); (case hs => first | exact h66 .. | exact h69 ..); (case hok | hw | hσ => (simp only [go_sem]; try rfl)))
        | (apply evd_step0; (case hr | hi | hσ => (simp only [go_sem]; try rfl)); (case hc => (first | trivial | decide | (simp only [inB, sliceOk, appendOk, rowsOk]; omega) | (simp [inB, sliceOk, appendOk, rowsOk]; omega))))
        | (apply evd_step; (case hr | hi => (simp only [go_sem]; try rfl)); (case hc => (first | trivial | decide | (simp only [inB, sliceOk, appendOk, rowsOk]; omega) | (simp [inB, sliceOk, appendOk, rowsOk]; omega))); (case hw | hσ => (intro g u; simp only [go_sem]; try rfl)); (case' hk => (intro g u; (try clear u); (try clear g))))
        | fail))); (case hB => kernel_rfl))
    | (apply ev_step0; (case hr | hσ => (simp only [go_sem]; try rfl)); (case hc => (first | trivial | decide | (simp only [inB, sliceOk, appendOk, rowsOk]; omega) | (simp [inB, sliceOk, appendOk, rowsOk]; omega))))
    | (apply ev_step; (case hr => (simp only [go_sem]; try rfl)); (case hσ => (intro g u; simp only [go_sem]; try rfl)); (case hc => (first | trivial | decide | (simp only [inB, sliceOk, appendOk, rowsOk]; omega) | (simp [inB, sliceOk, appendOk, rowsOk]; omega))); intro g u; (try clear u); (try clear g))
    | fail
  all_goals (refine resR_one T_ok rfl _ (by (simp only [go_sem, resA]; rfl)) (by first | trivial | (simp only [go_sem, resA])) (by first | trivial | (simp only [go_sem])) ?_; simp only [go_sem])
  exact LeA.refl _
end
section
set_option linter.unusedVariables false
set_option linter.unusedSimpArgs false
open Go.RowKit
attribute [local irreducible] AWp evOps evD
theorem f50_spec (s : Sch) (now : Stt) (tno : Nat) (r : Rf) (l : Rw) (h : SchOk s) (hs : StS s now) (hr : r ∈ s.refs) (hl : RowOk (colN s tno) l) : Spec Try.prog 50 [.agg (rfA r), .el [.lit (.int .i64 (tno : Int))] 0, .el (schD s) 0, .el [sttD now] 0, .el (rwD l) 0] (litB (((r.table : Int) == (tno : Int)) && brk s now r l)) := by
  cases ht : ((r.table : Int) == (tno : Int)) with
  | false =>
    refine spec_of_awp (fn := Try.f50) Try.func50 (by kernel_rfl) rfl ?_
    intro w0 C0
    simp only [Try.ntmps50, litI, litB, litS, List.length_cons, List.length_nil, Nat.reduceAdd, Nat.reduceSub, List.replicate_succ, List.replicate_zero, List.cons_append, List.nil_append]
    repeat' first
      | refine awp_seq ?_
      | refine awp_block ?_
      | refine awp_skip ?_
      | (refine reg _ (by (simp only [List.map_cons, List.map_nil]; rfl)) rfl ?_; intro K hK)
      | (refine awp_cond _ (by rfl) ?_ ?_ <;> (intro hb; first | (cases hb; done) | (have ht : true = true := hb; clear ht hb) | (have ht : false = false := hb; clear ht hb) | (simp only [hb]) | skip))
      | (refine awp_exit ?_; simp only [thenA, blockA, scopeA, reduceIte, RetQ, Nat.reduceEqDiff])
      | (refine awp_ret ?_; simp only [thenA, blockA, scopeA, RetQ])
      | (refine ev_nil (hK _ ?_); clear hK K)
      | (apply ev_guardU; (case hj | hu | hσ => (simp only [go_sem, ht]; try rfl)))
      | (refine ev_guardT _ _ (by (simp only [go_sem, ht]; rfl)) (by (simp only [go_sem, ht]; rfl)) ?_ ?_ <;> (intro hb; first | (cases hb; done) | (have ht : true = true := hb; clear ht hb) | (have ht : false = false := hb; clear ht hb) | (simp only [hb]) | skip))
      | (refine ev_guardF _ _ (by (simp only [go_sem, ht]; rfl)) (by (simp only [go_sem, ht]; rfl)) ?_ ?_ <;> (intro hb; first | (cases hb; done) | (have ht : true = true := hb; clear ht hb) | (have ht : false = false := hb; clear ht hb) | (simp only [hb]) | skip))
      | (apply ev_step0; (case hr | hσ => (simp only [go_sem, ht]; try rfl)); (case hc => (first | trivial | decide | (simp only [inB, sliceOk, appendOk, rowsOk]; omega) | (simp [inB, sliceOk, appendOk, rowsOk]; omega))))
      | (apply ev_step; (case hr => (simp only [go_sem, ht]; try rfl)); (case hσ => (intro g u; simp only [go_sem, ht]; try rfl)); (case hc => (first | trivial | decide | (simp only [inB, sliceOk, appendOk, rowsOk]; omega) | (simp [inB, sliceOk, appendOk, rowsOk]; omega))); intro g u; (try clear u); (try clear g))
      | fail
    all_goals (refine resR_one T_ok rfl _ (by (simp only [go_sem, resA]; rfl)) (by first | trivial | (simp only [go_sem, resA])) (by first | trivial | (simp only [go_sem])) ?_; simp only [go_sem])
    exact LeA.refl _
  | true =>
    have e : r.table = tno := by have := ht; simp at this; omega
    have h37 := f37_spec s now r l h hs hr (by rw [e]; exact hl)
    refine spec_of_awp (fn := Try.f50) Try.func50 (by kernel_rfl) rfl ?_
    intro w0 C0
    simp only [Try.ntmps50, litI, litB, litS, List.length_cons, List.length_nil, Nat.reduceAdd, Nat.reduceSub, List.replicate_succ, List.replicate_zero, List.cons_append, List.nil_append]
    repeat' first
      | refine awp_seq ?_
      | refine awp_block ?_
      | refine awp_skip ?_
      | (refine reg _ (by (simp only [List.map_cons, List.map_nil]; rfl)) rfl ?_; intro K hK)
      | (refine awp_cond _ (by rfl) ?_ ?_ <;> (intro hb; first | (cases hb; done) | (have ht : true = true := hb; clear ht hb) | (have ht : false = false := hb; clear ht hb) | (simp only [hb]) | skip))
      | (refine awp_exit ?_; simp only [thenA, blockA, scopeA, reduceIte, RetQ, Nat.reduceEqDiff])
      | (refine awp_ret ?_; simp only [thenA, blockA, scopeA, RetQ])
      | (refine ev_nil (hK _ ?_); clear hK K)
      | (apply ev_guardU; (case hj | hu | hσ => (simp only [go_sem, ht]; try rfl)))
      | (refine ev_guardT _ _ (by (simp only [go_sem, ht]; rfl)) (by (simp only [go_sem, ht]; rfl)) ?_ ?_ <;> (intro hb; first | (cases hb; done) | (have ht : true = true := hb; clear ht hb) | (have ht : false = false := hb; clear ht hb) | (simp only [hb]) | skip))
      | (refine ev_guardF _ _ (by (simp only [go_sem, ht]; rfl)) (by (simp only [go_sem, ht]; rfl)) ?_ ?_ <;> (intro hb; first | (cases hb; done) | (have ht : true = true := hb; clear ht hb) | (have ht : false = false := hb; clear ht hb) | (simp only [hb]) | skip))
      | (apply ev_call0; (case hys => (simp only [go_sem, ht]; try rfl)); (case hs => first | exact h37 ..); (case hok | hσ => (simp only [go_sem, ht]; try rfl)))
      | (apply ev_step0; (case hr | hσ => (simp only [go_sem, ht]; try rfl)); (case hc => (first | trivial | decide | (simp only [inB, sliceOk, appendOk, rowsOk]; omega) | (simp [inB, sliceOk, appendOk, rowsOk]; omega))))
      | (apply ev_step; (case hr => (simp only [go_sem, ht]; try rfl)); (case hσ => (intro g u; simp only [go_sem, ht]; try rfl)); (case hc => (first | trivial | decide | (simp only [inB, sliceOk, appendOk, rowsOk]; omega) | (simp [inB, sliceOk, appendOk, rowsOk]; omega))); intro g u; (try clear u); (try clear g))
      | fail
    all_goals (refine resR_one T_ok rfl _ (by (simp only [go_sem, resA]; rfl)) (by first | trivial | (simp only [go_sem, resA])) (by first | trivial | (simp only [go_sem])) ?_; simp only [go_sem])
    exact LeA.refl _
def idxF (p : Rf → Bool) : List Rf → Nat → Int
  | [], _ => -1
  | a :: l, k => if p a = true then k else idxF p l (k + 1)
theorem idxF_any (p : Rf → Bool) (l : List Rf) (k : Nat) : decide (idxF p l k ≥ 0) = l.any p := by
  induction l generalizing k with
  | nil => rfl
  | cons a l ih =>
    simp only [idxF, List.any_cons]
    by_cases h : p a = true
    · simp [h]
    · simp only [h]
      simpa using ih (k + 1)
theorem f65_spec {fv : AV} {f : Nat} {caps : List AV} (hfn : IsFn fv f caps) (l : List Rf) (p : Rf → Bool) (hp : ∀ r ∈ l, Spec Try.prog f ([.agg (rfA r)] ++ caps) (litB (p r))) : Spec Try.prog 65 [.d (rfsD l), fv] (litI .i64 (idxF p l 0)) := by
  have hcl := hfn.cl
  have hok := hfn.ok
  have hids := hfn.ids
  refine spec_of_awp (fn := Try.f65) Try.func65 (by kernel_rfl) rfl ?_
  intro w0 C0
  simp only [Try.ntmps65, litI, litB, litS, List.length_cons, List.length_nil, Nat.reduceAdd, Nat.reduceSub, List.replicate_succ, List.replicate_zero, List.cons_append, List.nil_append]
  refine awp_len 0 rfl fun hl => ?_
  simp only [List.length_map] at hl
  repeat' first
    | refine awp_seq ?_
    | refine awp_block ?_
    | refine awp_skip ?_
    | (refine reg _ (by (simp only [List.map_cons, List.map_nil]; rfl)) rfl ?_; intro K hK)
    | (refine awp_cond _ (by rfl) ?_ ?_ <;> (intro hb; first | (cases hb; done) | (have ht : true = true := hb; clear ht hb) | (have ht : false = false := hb; clear ht hb) | (simp only [hb]) | skip))
    | (refine awp_exit ?_; simp only [thenA, blockA, scopeA, reduceIte, RetQ, Nat.reduceEqDiff])
    | (refine awp_ret ?_; simp only [thenA, blockA, scopeA, RetQ])
    | (refine ev_nil (hK _ ?_); clear hK K)
    | (apply ev_step0; (case hr | hσ => (simp only [go_sem, hcl, hok, hids]; try rfl)); (case hc => (first | trivial | decide | (simp only [inB, sliceOk, appendOk, rowsOk]; omega) | (simp [inB, sliceOk, appendOk, rowsOk]; omega))))
    | (apply ev_step; (case hr => (simp only [go_sem, hcl, hok, hids]; try rfl)); (case hσ => (intro g u; simp only [go_sem, hcl, hok, hids]; try rfl)); (case hc => (first | trivial | decide | (simp only [inB, sliceOk, appendOk, rowsOk]; omega) | (simp [inB, sliceOk, appendOk, rowsOk]; omega))); intro g u; (try clear u); (try clear g))
    | fail
  refine awp_loopI (fun i => i ≤ l.length ∧ idxF p l 0 = idxF p (l.drop i) i) (fun i => l.length - i) (fun i => ⟨[.d (rfsD l), fv, .any, .any, litI .i64 0, .any, .d (rfsD l), litI .i64 l.length, litI .i64 i, .any, .any, .any, .any, .any, .any, .any, .any, .any, .any], [.no, .no, .no, .no, .no, .no, .no, .no, .no, .no, .no, .no, .no, .no, .no, .no, .no, .no, .no]⟩) 0 ⟨by omega, rfl⟩ ?_ ?_
  · refine Wk.mk ?_ ?_
    all_goals (repeat' first | exact trivial | exact LeA.refl _ | exact LeA.any _ | exact LeO.refl _ | exact LeO.no _ | exact LeA.nil _ | exact LeA.nilOwn _ | exact LeO.nil _ _ _ | refine LeO.box ?_ | (refine LeA.i ?_; (first | rfl | (push_cast; rfl) | (rw [wrap_id (by omega)]; push_cast; omega) | (simp [wrap_id]; omega))) | refine ⟨?_, ?_⟩)
  rintro i ⟨hi, hfi⟩
  simp only [litI, litB]
  by_cases hlt : i < l.length
  rotate_left
  have hdec : decide ((i : Int) < (l.length : Int)) = false := by simp; omega
  · repeat' first
      | refine awp_seq ?_
      | refine awp_block ?_
      | refine awp_skip ?_
      | (refine reg _ (by (simp only [List.map_cons, List.map_nil]; rfl)) rfl ?_; intro K hK)
      | (refine awp_cond _ (by rfl) ?_ ?_ <;> (intro hb; first | (cases hb; done) | (have ht : true = true := hb; clear ht hb) | (have ht : false = false := hb; clear ht hb) | (simp only [hb]) | skip))
      | (refine awp_exit ?_; simp only [thenA, blockA, scopeA, reduceIte, RetQ, Nat.reduceEqDiff])
      | (refine awp_ret ?_; simp only [thenA, blockA, scopeA, RetQ])
      | (refine ev_nil (hK _ ?_); clear hK K)
      | (apply ev_step0; (case hr | hσ => (simp only [go_sem, hdec, hcl, hok, hids]; try rfl)); (case hc => (first | trivial | decide | (simp only [inB, sliceOk, appendOk, rowsOk]; omega) | (simp [inB, sliceOk, appendOk, rowsOk]; omega))))
      | (apply ev_step; (case hr => (simp only [go_sem, hdec, hcl, hok, hids]; try rfl)); (case hσ => (intro g u; simp only [go_sem, hdec, hcl, hok, hids]; try rfl)); (case hc => (first | trivial | decide | (simp only [inB, sliceOk, appendOk, rowsOk]; omega) | (simp [inB, sliceOk, appendOk, rowsOk]; omega))); intro g u; (try clear u); (try clear g))
      | fail
    all_goals (refine resR_one T_ok rfl _ (by (simp only [go_sem, resA]; rfl)) (by first | trivial | (simp only [go_sem, resA])) (by first | trivial | (simp only [go_sem])) ?_; simp only [go_sem])
    refine LeA.i ?_
    rw [hfi, List.drop_eq_nil_of_le (by omega)]; rfl
  have hdec : decide ((i : Int) < (l.length : Int)) = true := by simp; omega
  have hx := rfs_at l hlt
  have hpx := hp _ (getD_mem' hlt rfN)
  rw [drop_at l rfN hlt] at hfi
  simp only [idxF] at hfi
  generalize l.getD i rfN = x at *
  cases hq : p x with
  | true =>
    rw [hq] at hpx
    rw [hq, if_pos rfl] at hfi
    repeat' first
      | refine awp_seq ?_
      | refine awp_block ?_
      | refine awp_skip ?_
      | (refine reg _ (by (simp only [List.map_cons, List.map_nil]; rfl)) rfl ?_; intro K hK)
      | (refine awp_cond _ (by rfl) ?_ ?_ <;> (intro hb; first | (cases hb; done) | (have ht : true = true := hb; clear ht hb) | (have ht : false = false := hb; clear ht hb) | (simp only [hb]) | skip))
      | (refine awp_exit ?_; simp only [thenA, blockA, scopeA, reduceIte, RetQ, Nat.reduceEqDiff])
      | (refine awp_ret ?_; simp only [thenA, blockA, scopeA, RetQ])
      | (refine ev_nil (hK _ ?_); clear hK K)
      | refine ev_callFn hfn _ _ (by (simp only [go_sem, hdec, hx, hcl, hok, hids])) (by (simp only [go_sem, hdec, hx, hcl, hok, hids]; try rfl)) (hpx) (by (simp only [go_sem, hdec, hx, hcl, hok, hids])) _ (by (simp only [go_sem, hdec, hx, hcl, hok, hids]; rfl)) ?_
      | (apply ev_step0; (case hr | hσ => (simp only [go_sem, hdec, hx, hcl, hok, hids]; try rfl)); (case hc => (first | trivial | decide | (simp only [inB, sliceOk, appendOk, rowsOk]; omega) | (simp [inB, sliceOk, appendOk, rowsOk]; omega))))
      | (apply ev_step; (case hr => (simp only [go_sem, hdec, hx, hcl, hok, hids]; try rfl)); (case hσ => (intro g u; simp only [go_sem, hdec, hx, hcl, hok, hids]; try rfl)); (case hc => (first | trivial | decide | (simp only [inB, sliceOk, appendOk, rowsOk]; omega) | (simp [inB, sliceOk, appendOk, rowsOk]; omega))); intro g u; (try clear u); (try clear g))
      | fail
    all_goals (refine resR_one T_ok rfl _ (by (simp only [go_sem, resA]; rfl)) (by first | trivial | (simp only [go_sem, resA])) (by first | trivial | (simp only [go_sem])) ?_; simp only [go_sem])
    exact LeA.i hfi.symm
  | false =>
    rw [hq] at hpx
    rw [hq, if_neg Bool.false_ne_true] at hfi
    repeat' first
      | refine awp_seq ?_
      | refine awp_block ?_
      | refine awp_skip ?_
      | (refine reg _ (by (simp only [List.map_cons, List.map_nil]; rfl)) rfl ?_; intro K hK)
      | (refine awp_cond _ (by rfl) ?_ ?_ <;> (intro hb; first | (cases hb; done) | (have ht : true = true := hb; clear ht hb) | (have ht : false = false := hb; clear ht hb) | (simp only [hb]) | skip))
      | (refine awp_exit ?_; simp only [thenA, blockA, scopeA, reduceIte, RetQ, Nat.reduceEqDiff])
      | (refine awp_ret ?_; simp only [thenA, blockA, scopeA, RetQ])
      | (refine ev_nil (hK _ ?_); clear hK K)
      | refine ev_callFn hfn _ _ (by (simp only [go_sem, hdec, hx, hcl, hok, hids])) (by (simp only [go_sem, hdec, hx, hcl, hok, hids]; try rfl)) (hpx) (by (simp only [go_sem, hdec, hx, hcl, hok, hids])) _ (by (simp only [go_sem, hdec, hx, hcl, hok, hids]; rfl)) ?_
      | (apply ev_step0; (case hr | hσ => (simp only [go_sem, hdec, hx, hcl, hok, hids]; try rfl)); (case hc => (first | trivial | decide | (simp only [inB, sliceOk, appendOk, rowsOk]; omega) | (simp [inB, sliceOk, appendOk, rowsOk]; omega))))
      | (apply ev_step; (case hr => (simp only [go_sem, hdec, hx, hcl, hok, hids]; try rfl)); (case hσ => (intro g u; simp only [go_sem, hdec, hx, hcl, hok, hids]; try rfl)); (case hc => (first | trivial | decide | (simp only [inB, sliceOk, appendOk, rowsOk]; omega) | (simp [inB, sliceOk, appendOk, rowsOk]; omega))); intro g u; (try clear u); (try clear g))
      | fail
    refine Exists.intro (i + 1) ⟨⟨by omega, hfi⟩, by omega, ?_⟩
    refine Wk.mk ?_ ?_
    all_goals (repeat' first | exact trivial | exact LeA.refl _ | exact LeA.any _ | exact LeO.refl _ | exact LeO.no _ | exact LeA.nil _ | exact LeA.nilOwn _ | exact LeO.nil _ _ _ | refine LeO.box ?_ | (refine LeA.i ?_; (first | rfl | (push_cast; rfl) | (rw [wrap_id (by omega)]; push_cast; omega) | (simp [wrap_id]; omega))) | refine ⟨?_, ?_⟩)
theorem f49_spec {fv : AV} {f : Nat} {caps : List AV} (hfn : IsFn fv f caps) (l : List Rf) (p : Rf → Bool) (hp : ∀ r ∈ l, Spec Try.prog f ([.agg (rfA r)] ++ caps) (litB (p r))) : Spec Try.prog 49 [.d (rfsD l), fv] (litB (l.any p)) := by
  have h65 := f65_spec hfn l p hp
  have hcl := hfn.cl
  have hok := hfn.ok
  have hids := hfn.ids
  refine spec_of_awp (fn := Try.f49) Try.func49 (by kernel_rfl) rfl ?_
  intro w0 C0
  simp only [Try.ntmps49, litI, litB, litS, List.length_cons, List.length_nil, Nat.reduceAdd, Nat.reduceSub, List.replicate_succ, List.replicate_zero, List.cons_append, List.nil_append]
  repeat' first
    | refine awp_seq ?_
    | refine awp_block ?_
    | refine awp_skip ?_
    | (refine reg _ (by (simp only [List.map_cons, List.map_nil]; rfl)) rfl ?_; intro K hK)
    | (refine awp_cond _ (by rfl) ?_ ?_ <;> (intro hb; first | (cases hb; done) | (have ht : true = true := hb; clear ht hb) | (have ht : false = false := hb; clear ht hb) | (simp only [hb]) | skip))
    | (refine awp_exit ?_; simp only [thenA, blockA, scopeA, reduceIte, RetQ, Nat.reduceEqDiff])
    | (refine awp_ret ?_; simp only [thenA, blockA, scopeA, RetQ])
    | (refine ev_nil (hK _ ?_); clear hK K)
    | (apply ev_call0; (case hys => (simp only [go_sem, hcl, hok, hids]; try rfl)); (case hs => first | exact h65 ..); (case hok | hσ => (simp only [go_sem, hcl, hok, hids]; try rfl)))
    | (apply ev_step0; (case hr | hσ => (simp only [go_sem, hcl, hok, hids]; try rfl)); (case hc => (first | trivial | decide | (simp only [inB, sliceOk, appendOk, rowsOk]; omega) | (simp [inB, sliceOk, appendOk, rowsOk]; omega))))
    | (apply ev_step; (case hr => (simp only [go_sem, hcl, hok, hids]; try rfl)); (case hσ => (intro g u; simp only [go_sem, hcl, hok, hids]; try rfl)); (case hc => (first | trivial | decide | (simp only [inB, sliceOk, appendOk, rowsOk]; omega) | (simp [inB, sliceOk, appendOk, rowsOk]; omega))); intro g u; (try clear u); (try clear g))
    | fail
  all_goals (refine resR_one T_ok rfl _ (by (simp only [go_sem, resA]; rfl)) (by first | trivial | (simp only [go_sem, resA])) (by first | trivial | (simp only [go_sem])) ?_; simp only [go_sem])
  exact LeA.b (idxF_any p l 0)
def comeM (s : Sch) (now : Stt) (tno : Nat) (l : Rw) : Bool := !s.refs.any fun r => ((r.table : Int) == (tno : Int)) && brk s now r l
theorem f48_spec (s : Sch) (now : Stt) (tno : Nat) (l : Rw) (h : SchOk s) (hs : StS s now) (hl : RowOk (colN s tno) l) : Spec Try.prog 48 [.agg (rwA l), .el (schD s) 0, .el [.lit (.int .i64 (tno : Int))] 0, .el [sttD now] 0] (litB (comeM s now tno l)) := by
  have h49 := f49_spec (IsFn.clo 50 [.el [.lit (.int .i64 (tno : Int))] 0, .el (schD s) 0, .el [sttD now] 0, .el (rwD l) 0] (fun _ => rfl) (fun _ => by simp [clOkL, clOk]) rfl) s.refs _ (fun r hr => f50_spec s now tno r l h hs hr hl)
  refine spec_of_awp (fn := Try.f48) Try.func48 (by kernel_rfl) rfl ?_
  intro w0 C0
  simp only [Try.ntmps48, litI, litB, litS, List.length_cons, List.length_nil, Nat.reduceAdd, Nat.reduceSub, List.replicate_succ, List.replicate_zero, List.cons_append, List.nil_append]
  repeat' first
    | refine awp_seq ?_
    | refine awp_block ?_
    | refine awp_skip ?_
    | (refine reg _ (by (simp only [List.map_cons, List.map_nil]; rfl)) rfl ?_; intro K hK)
    | (refine awp_cond _ (by rfl) ?_ ?_ <;> (intro hb; first | (cases hb; done) | (have ht : true = true := hb; clear ht hb) | (have ht : false = false := hb; clear ht hb) | (simp only [hb]) | skip))
    | (refine awp_exit ?_; simp only [thenA, blockA, scopeA, reduceIte, RetQ, Nat.reduceEqDiff])
    | (refine awp_ret ?_; simp only [thenA, blockA, scopeA, RetQ])
    | (refine ev_nil (hK _ ?_); clear hK K)
    | (apply ev_call0; (case hys => (simp only [go_sem]; try rfl)); (case hs => first | exact h49 ..); (case hok | hσ => (simp only [go_sem]; try rfl)))
    | (apply ev_step0; (case hr | hσ => (simp only [go_sem]; try rfl)); (case hc => (first | trivial | decide | (simp only [inB, sliceOk, appendOk, rowsOk]; omega) | (simp [inB, sliceOk, appendOk, rowsOk]; omega))))
    | (apply ev_step; (case hr => (simp only [go_sem]; try rfl)); (case hσ => (intro g u; simp only [go_sem]; try rfl)); (case hc => (first | trivial | decide | (simp only [inB, sliceOk, appendOk, rowsOk]; omega) | (simp [inB, sliceOk, appendOk, rowsOk]; omega))); intro g u; (try clear u); (try clear g))
    | fail
  all_goals (refine resR_one T_ok rfl _ (by (simp only [go_sem, resA]; rfl)) (by first | trivial | (simp only [go_sem, resA])) (by first | trivial | (simp only [go_sem])) ?_; simp only [go_sem])
  exact LeA.refl _
def goneM (s : Sch) (now : Stt) (tno : Nat) (l : Rw) : Bool := !refdR s now (tno : Int) (keyR l (keyN s tno))
set_option maxHeartbeats 4000000 in
theorem f51_spec (s : Sch) (now : Stt) (tno : Nat) (l : Rw) (h : SchOk s) (hs : StOk s now) (ht : tno < s.tables.length) (hl : RowOk (colN s tno) l) : Spec Try.prog 51 [.agg (rwA l), .el (tbD (s.tables.getD tno tbN)) 0, .el (schD s) 0, .el [sttD now] 0, .el [.lit (.int .i64 (tno : Int))] 0] (litB (goneM s now tno l)) := by
  have hkc := h.keys tno ht
  have hln := hl.1
  have h22 := f22_spec s now (tno : Int) (keyR l (keyN s tno)) h hs
  rw [goneM]
  simp only [keyN] at hkc h22 ⊢
  generalize s.tables.getD tno tbN = t at *
  obtain ⟨kk, hkk⟩ : ∃ kk, l.take t.key = kk := ⟨_, rfl⟩
  have hkl : kk.length = t.key := by rw [← hkk]; simp; omega
  rw [keyR_vs, hkk] at h22 ⊢
  generalize refdR s now (tno : Int) (vsOf kk) = R at *
  refine spec_of_awp (fn := Try.f51) Try.func51 (by kernel_rfl) rfl ?_
  intro w0 C0
  simp only [Try.ntmps51, litI, litB, litS, List.length_cons, List.length_nil, Nat.reduceAdd, Nat.reduceSub, List.replicate_succ, List.replicate_zero, List.cons_append, List.nil_append]
  repeat' first
    | refine awp_seq ?_
    | refine awp_block ?_
    | refine awp_skip ?_
    | (refine reg _ (by (simp only [List.map_cons, List.map_nil]; rfl)) rfl ?_; intro K hK)
    | (refine awp_cond _ (by rfl) ?_ ?_ <;> (intro hb; first | (cases hb; done) | (have ht : true = true := hb; clear ht hb) | (have ht : false = false := hb; clear ht hb) | (simp only [hb]) | skip))
    | (refine awp_exit ?_; simp only [thenA, blockA, scopeA, reduceIte, RetQ, Nat.reduceEqDiff])
    | (refine awp_ret ?_; simp only [thenA, blockA, scopeA, RetQ])
    | (refine ev_nil (hK _ ?_); clear hK K)
    | (apply ev_step0; (case hr | hσ => (simp only [go_sem, hkk]; try rfl)); (case hc => (first | trivial | decide | (simp only [inB, sliceOk, appendOk, rowsOk]; omega) | (simp [inB, sliceOk, appendOk, rowsOk]; omega))))
    | (apply ev_step; (case hr => (simp only [go_sem, hkk]; try rfl)); (case hσ => (intro g u; simp only [go_sem, hkk]; try rfl)); (case hc => (first | trivial | decide | (simp only [inB, sliceOk, appendOk, rowsOk]; omega) | (simp [inB, sliceOk, appendOk, rowsOk]; omega))); intro g u; (try clear u); (try clear g))
    | fail
  revert g; intro g5
  refine awp_loopI (fun j : Nat × Value => j.1 ≤ kk.length) (fun j => kk.length - j.1) (fun j => ⟨[.any, .el (tbD t) 0, .el (schD s) 0, .el [sttD now] 0, .el [.lit (.int .i64 (tno : Int))] 0, .ptr 5 g5 0, .any, .own 24 j.2, .any, .any, .any, .any, .any, .any, .d (clsD kk), litI .i64 kk.length, litI .i64 j.1, .any, .any, .any, .any, .any, .any, .any, .any, .any, .any, .any, .any, .any, .any, .any], [.no, .no, .no, .no, .no, .box g5 (rwA l), .no, .no, .no, .no, .no, .no, .no, .no, .no, .no, .no, .no, .no, .no, .no, .no, .no, .no, .row j.2 70 3 ((vsOf (kk.take j.1)).map vlD), .no, .no, .no, .no, .no, .no, .no]⟩) (0, .slice none 0 0) (by simp) ?_ ?_
  · refine Wk.mk ?_ ?_
    all_goals (repeat' first | exact trivial | exact LeA.refl _ | exact LeA.any _ | exact LeO.refl _ | exact LeO.no _ | exact LeA.nil _ | exact LeA.nilOwn _ | exact LeO.nil _ _ _ | refine LeO.box ?_ | (refine LeA.i ?_; (first | rfl | (push_cast; rfl) | (rw [wrap_id (by omega)]; push_cast; omega) | (simp [wrap_id]; omega))) | refine ⟨?_, ?_⟩)
  rintro ⟨j, v⟩ hj
  simp only [litI, litB] at hj ⊢
  by_cases h1 : j < kk.length
  · have d1 : decide ((j : Int) < (kk.length : Int)) = true := decide_eq_true (by omega)
    have hz := cls_at kk h1
    have hm : (vsOf (kk.take (j + 1))).map vlD = (vsOf (kk.take j)).map vlD ++ [vlD (kk.getD j nullC).v] := by
      rw [take_succ3 kk nullC h1]; simp [vsOf]
    have hll' : (vsOf (kk.take j)).length = j := by simp [vsOf]; omega
    generalize kk.getD j nullC = x at *
    generalize vsOf (kk.take j) = q at *
    repeat' first
      | refine awp_seq ?_
      | refine awp_block ?_
      | refine awp_skip ?_
      | (refine reg _ (by (simp only [List.map_cons, List.map_nil]; rfl)) rfl ?_; intro K hK)
      | (refine awp_cond _ (by rfl) ?_ ?_ <;> (intro hb; first | (cases hb; done) | (have ht : true = true := hb; clear ht hb) | (have ht : false = false := hb; clear ht hb) | (simp only [hb]) | skip))
      | (refine awp_exit ?_; simp only [thenA, blockA, scopeA, reduceIte, RetQ, Nat.reduceEqDiff])
      | (refine awp_ret ?_; simp only [thenA, blockA, scopeA, RetQ])
      | (refine ev_nil (hK _ ?_); clear hK K)
      | (apply ev_step0; (case hr | hσ => (simp only [go_sem, d1, hz, hll']; try rfl)); (case hc => (first | trivial | decide | (simp only [inB, sliceOk, appendOk, rowsOk]; omega) | (simp [inB, sliceOk, appendOk, rowsOk]; omega))))
      | (apply ev_step; (case hr => (simp only [go_sem, d1, hz, hll']; try rfl)); (case hσ => (intro g u; simp only [go_sem, d1, hz, hll']; try rfl)); (case hc => (first | trivial | decide | (simp only [inB, sliceOk, appendOk, rowsOk]; omega) | (simp [inB, sliceOk, appendOk, rowsOk]; omega))); intro g u; (try clear u); (try clear g))
      | fail
    refine Exists.intro (j + 1, u) ⟨by show j + 1 ≤ kk.length; omega, by show kk.length - (j + 1) < kk.length - j; omega, ?_⟩
    simp only [hm]
    refine Wk.mk ?_ ?_
    all_goals (repeat' first | exact trivial | exact LeA.refl _ | exact LeA.any _ | exact LeO.refl _ | exact LeO.no _ | exact LeA.nil _ | exact LeA.nilOwn _ | exact LeO.nil _ _ _ | refine LeO.box ?_ | (refine LeA.i ?_; (first | rfl | (push_cast; rfl) | (rw [wrap_id (by omega)]; push_cast; omega) | (simp [wrap_id]; omega))) | refine ⟨?_, ?_⟩)
  · have d1 : decide ((j : Int) < (kk.length : Int)) = false := decide_eq_false (by omega)
    have : j = kk.length := by omega
    subst this
    rw [List.take_length]
    repeat' first
      | refine awp_seq ?_
      | refine awp_block ?_
      | refine awp_skip ?_
      | (refine reg _ (by (simp only [List.map_cons, List.map_nil]; rfl)) rfl ?_; intro K hK)
      | (refine awp_cond _ (by rfl) ?_ ?_ <;> (intro hb; first | (cases hb; done) | (have ht : true = true := hb; clear ht hb) | (have ht : false = false := hb; clear ht hb) | (simp only [hb]) | skip))
      | (refine awp_exit ?_; simp only [thenA, blockA, scopeA, reduceIte, RetQ, Nat.reduceEqDiff])
      | (refine awp_ret ?_; simp only [thenA, blockA, scopeA, RetQ])
      | (refine ev_nil (hK _ ?_); clear hK K)
      | (apply ev_call0; (case hys => (simp only [go_sem, d1]; try rfl)); (case hs => first | exact h22 ..); (case hok | hσ => (simp only [go_sem, d1]; try rfl)))
      | (apply ev_step0; (case hr | hσ => (simp only [go_sem, d1]; try rfl)); (case hc => (first | trivial | decide | (simp only [inB, sliceOk, appendOk, rowsOk]; omega) | (simp [inB, sliceOk, appendOk, rowsOk]; omega))))
      | (apply ev_step; (case hr => (simp only [go_sem, d1]; try rfl)); (case hσ => (intro g u; simp only [go_sem, d1]; try rfl)); (case hc => (first | trivial | decide | (simp only [inB, sliceOk, appendOk, rowsOk]; omega) | (simp [inB, sliceOk, appendOk, rowsOk]; omega))); intro g u; (try clear u); (try clear g))
      | fail
    all_goals (refine resR_one T_ok rfl _ (by (simp only [go_sem, resA]; rfl)) (by first | trivial | (simp only [go_sem, resA])) (by first | trivial | (simp only [go_sem])) ?_; simp only [go_sem])
    exact LeA.refl _
theorem f54_spec (s : Sch) (now : Stt) (t : Tt) (h : SchOk s) (hs : StOk s now) (ht : t ∈ s.totals) : Spec Try.prog 54 [.agg (ttA t), .el [sttD now] 0] (litB (over now t)) := by
  have h38 := f38_spec s now t h hs ht
  refine spec_of_awp (fn := Try.f54) Try.func54 (by kernel_rfl) rfl ?_
  intro w0 C0
  simp only [Try.ntmps54, litI, litB, litS, List.length_cons, List.length_nil, Nat.reduceAdd, Nat.reduceSub, List.replicate_succ, List.replicate_zero, List.cons_append, List.nil_append]
  repeat' first
    | refine awp_seq ?_
    | refine awp_block ?_
    | refine awp_skip ?_
    | (refine reg _ (by (simp only [List.map_cons, List.map_nil]; rfl)) rfl ?_; intro K hK)
    | (refine awp_cond _ (by rfl) ?_ ?_ <;> (intro hb; first | (cases hb; done) | (have ht : true = true := hb; clear ht hb) | (have ht : false = false := hb; clear ht hb) | (simp only [hb]) | skip))
    | (refine awp_exit ?_; simp only [thenA, blockA, scopeA, reduceIte, RetQ, Nat.reduceEqDiff])
    | (refine awp_ret ?_; simp only [thenA, blockA, scopeA, RetQ])
    | (refine ev_nil (hK _ ?_); clear hK K)
    | (apply ev_call0; (case hys => (simp only [go_sem]; try rfl)); (case hs => first | exact h38 ..); (case hok | hσ => (simp only [go_sem]; try rfl)))
    | (apply ev_step0; (case hr | hσ => (simp only [go_sem]; try rfl)); (case hc => (first | trivial | decide | (simp only [inB, sliceOk, appendOk, rowsOk]; omega) | (simp [inB, sliceOk, appendOk, rowsOk]; omega))))
    | (apply ev_step; (case hr => (simp only [go_sem]; try rfl)); (case hσ => (intro g u; simp only [go_sem]; try rfl)); (case hc => (first | trivial | decide | (simp only [inB, sliceOk, appendOk, rowsOk]; omega) | (simp [inB, sliceOk, appendOk, rowsOk]; omega))); intro g u; (try clear u); (try clear g))
    | fail
  all_goals (refine resR_one T_ok rfl _ (by (simp only [go_sem, resA]; rfl)) (by first | trivial | (simp only [go_sem, resA])) (by first | trivial | (simp only [go_sem])) ?_; simp only [go_sem])
  exact LeA.refl _
def idxT (p : Tt → Bool) : List Tt → Nat → Int
  | [], _ => -1
  | a :: l, k => if p a = true then k else idxT p l (k + 1)
theorem idxT_any (p : Tt → Bool) (l : List Tt) (k : Nat) : decide (idxT p l k ≥ 0) = l.any p := by
  induction l generalizing k with
  | nil => rfl
  | cons a l ih =>
    simp only [idxT, List.any_cons]
    by_cases h : p a = true
    · simp [h]
    · simp only [h]
      simpa using ih (k + 1)
theorem f71_spec {fv : AV} {f : Nat} {caps : List AV} (hfn : IsFn fv f caps) (l : List Tt) (p : Tt → Bool) (hp : ∀ r ∈ l, Spec Try.prog f ([.agg (ttA r)] ++ caps) (litB (p r))) : Spec Try.prog 71 [.d (ttsD l), fv] (litI .i64 (idxT p l 0)) := by
  have hcl := hfn.cl
  have hok := hfn.ok
  have hids := hfn.ids
  refine spec_of_awp (fn := Try.f71) Try.func71 (by kernel_rfl) rfl ?_
  intro w0 C0
  simp only [Try.ntmps71, litI, litB, litS, List.length_cons, List.length_nil, Nat.reduceAdd, Nat.reduceSub, List.replicate_succ, List.replicate_zero, List.cons_append, List.nil_append]
  refine awp_len 0 rfl fun hl => ?_
  simp only [List.length_map] at hl
  repeat' first
    | refine awp_seq ?_
    | refine awp_block ?_
    | refine awp_skip ?_
    | (refine reg _ (by (simp only [List.map_cons, List.map_nil]; rfl)) rfl ?_; intro K hK)
    | (refine awp_cond _ (by rfl) ?_ ?_ <;> (intro hb; first | (cases hb; done) | (have ht : true = true := hb; clear ht hb) | (have ht : false = false := hb; clear ht hb) | (simp only [hb]) | skip))
    | (refine awp_exit ?_; simp only [thenA, blockA, scopeA, reduceIte, RetQ, Nat.reduceEqDiff])
    | (refine awp_ret ?_; simp only [thenA, blockA, scopeA, RetQ])
    | (refine ev_nil (hK _ ?_); clear hK K)
    | (apply ev_step0; (case hr | hσ => (simp only [go_sem, hcl, hok, hids]; try rfl)); (case hc => (first | trivial | decide | (simp only [inB, sliceOk, appendOk, rowsOk]; omega) | (simp [inB, sliceOk, appendOk, rowsOk]; omega))))
    | (apply ev_step; (case hr => (simp only [go_sem, hcl, hok, hids]; try rfl)); (case hσ => (intro g u; simp only [go_sem, hcl, hok, hids]; try rfl)); (case hc => (first | trivial | decide | (simp only [inB, sliceOk, appendOk, rowsOk]; omega) | (simp [inB, sliceOk, appendOk, rowsOk]; omega))); intro g u; (try clear u); (try clear g))
    | fail
  refine awp_loopI (fun i => i ≤ l.length ∧ idxT p l 0 = idxT p (l.drop i) i) (fun i => l.length - i) (fun i => ⟨[.d (ttsD l), fv, .any, .any, litI .i64 0, .any, .d (ttsD l), litI .i64 l.length, litI .i64 i, .any, .any, .any, .any, .any, .any, .any, .any, .any, .any], [.no, .no, .no, .no, .no, .no, .no, .no, .no, .no, .no, .no, .no, .no, .no, .no, .no, .no, .no]⟩) 0 ⟨by omega, rfl⟩ ?_ ?_
  · refine Wk.mk ?_ ?_
    all_goals (repeat' first | exact trivial | exact LeA.refl _ | exact LeA.any _ | exact LeO.refl _ | exact LeO.no _ | exact LeA.nil _ | exact LeA.nilOwn _ | exact LeO.nil _ _ _ | refine LeO.box ?_ | (refine LeA.i ?_; (first | rfl | (push_cast; rfl) | (rw [wrap_id (by omega)]; push_cast; omega) | (simp [wrap_id]; omega))) | refine ⟨?_, ?_⟩)
  rintro i ⟨hi, hfi⟩
  simp only [litI, litB]
  by_cases hlt : i < l.length
  rotate_left
  have hdec : decide ((i : Int) < (l.length : Int)) = false := by simp; omega
  · repeat' first
      | refine awp_seq ?_
      | refine awp_block ?_
      | refine awp_skip ?_
      | (refine reg _ (by (simp only [List.map_cons, List.map_nil]; rfl)) rfl ?_; intro K hK)
      | (refine awp_cond _ (by rfl) ?_ ?_ <;> (intro hb; first | (cases hb; done) | (have ht : true = true := hb; clear ht hb) | (have ht : false = false := hb; clear ht hb) | (simp only [hb]) | skip))
      | (refine awp_exit ?_; simp only [thenA, blockA, scopeA, reduceIte, RetQ, Nat.reduceEqDiff])
      | (refine awp_ret ?_; simp only [thenA, blockA, scopeA, RetQ])
      | (refine ev_nil (hK _ ?_); clear hK K)
      | (apply ev_step0; (case hr | hσ => (simp only [go_sem, hdec, hcl, hok, hids]; try rfl)); (case hc => (first | trivial | decide | (simp only [inB, sliceOk, appendOk, rowsOk]; omega) | (simp [inB, sliceOk, appendOk, rowsOk]; omega))))
      | (apply ev_step; (case hr => (simp only [go_sem, hdec, hcl, hok, hids]; try rfl)); (case hσ => (intro g u; simp only [go_sem, hdec, hcl, hok, hids]; try rfl)); (case hc => (first | trivial | decide | (simp only [inB, sliceOk, appendOk, rowsOk]; omega) | (simp [inB, sliceOk, appendOk, rowsOk]; omega))); intro g u; (try clear u); (try clear g))
      | fail
    all_goals (refine resR_one T_ok rfl _ (by (simp only [go_sem, resA]; rfl)) (by first | trivial | (simp only [go_sem, resA])) (by first | trivial | (simp only [go_sem])) ?_; simp only [go_sem])
    refine LeA.i ?_
    rw [hfi, List.drop_eq_nil_of_le (by omega)]; rfl
  have hdec : decide ((i : Int) < (l.length : Int)) = true := by simp; omega
  have hx := tts_at l hlt
  have hpx := hp _ (getD_mem' hlt ttN)
  rw [drop_at l ttN hlt] at hfi
  simp only [idxT] at hfi
  generalize l.getD i ttN = x at *
  cases hq : p x with
  | true =>
    rw [hq] at hpx
    rw [hq, if_pos rfl] at hfi
    repeat' first
      | refine awp_seq ?_
      | refine awp_block ?_
      | refine awp_skip ?_
      | (refine reg _ (by (simp only [List.map_cons, List.map_nil]; rfl)) rfl ?_; intro K hK)
      | (refine awp_cond _ (by rfl) ?_ ?_ <;> (intro hb; first | (cases hb; done) | (have ht : true = true := hb; clear ht hb) | (have ht : false = false := hb; clear ht hb) | (simp only [hb]) | skip))
      | (refine awp_exit ?_; simp only [thenA, blockA, scopeA, reduceIte, RetQ, Nat.reduceEqDiff])
      | (refine awp_ret ?_; simp only [thenA, blockA, scopeA, RetQ])
      | (refine ev_nil (hK _ ?_); clear hK K)
      | refine ev_callFn hfn _ _ (by (simp only [go_sem, hdec, hx, hcl, hok, hids])) (by (simp only [go_sem, hdec, hx, hcl, hok, hids]; try rfl)) (hpx) (by (simp only [go_sem, hdec, hx, hcl, hok, hids])) _ (by (simp only [go_sem, hdec, hx, hcl, hok, hids]; rfl)) ?_
      | (apply ev_step0; (case hr | hσ => (simp only [go_sem, hdec, hx, hcl, hok, hids]; try rfl)); (case hc => (first | trivial | decide | (simp only [inB, sliceOk, appendOk, rowsOk]; omega) | (simp [inB, sliceOk, appendOk, rowsOk]; omega))))
      | (apply ev_step; (case hr => (simp only [go_sem, hdec, hx, hcl, hok, hids]; try rfl)); (case hσ => (intro g u; simp only [go_sem, hdec, hx, hcl, hok, hids]; try rfl)); (case hc => (first | trivial | decide | (simp only [inB, sliceOk, appendOk, rowsOk]; omega) | (simp [inB, sliceOk, appendOk, rowsOk]; omega))); intro g u; (try clear u); (try clear g))
      | fail
    all_goals (refine resR_one T_ok rfl _ (by (simp only [go_sem, resA]; rfl)) (by first | trivial | (simp only [go_sem, resA])) (by first | trivial | (simp only [go_sem])) ?_; simp only [go_sem])
    exact LeA.i hfi.symm
  | false =>
    rw [hq] at hpx
    rw [hq, if_neg Bool.false_ne_true] at hfi
    repeat' first
      | refine awp_seq ?_
      | refine awp_block ?_
      | refine awp_skip ?_
      | (refine reg _ (by (simp only [List.map_cons, List.map_nil]; rfl)) rfl ?_; intro K hK)
      | (refine awp_cond _ (by rfl) ?_ ?_ <;> (intro hb; first | (cases hb; done) | (have ht : true = true := hb; clear ht hb) | (have ht : false = false := hb; clear ht hb) | (simp only [hb]) | skip))
      | (refine awp_exit ?_; simp only [thenA, blockA, scopeA, reduceIte, RetQ, Nat.reduceEqDiff])
      | (refine awp_ret ?_; simp only [thenA, blockA, scopeA, RetQ])
      | (refine ev_nil (hK _ ?_); clear hK K)
      | refine ev_callFn hfn _ _ (by (simp only [go_sem, hdec, hx, hcl, hok, hids])) (by (simp only [go_sem, hdec, hx, hcl, hok, hids]; try rfl)) (hpx) (by (simp only [go_sem, hdec, hx, hcl, hok, hids])) _ (by (simp only [go_sem, hdec, hx, hcl, hok, hids]; rfl)) ?_
      | (apply ev_step0; (case hr | hσ => (simp only [go_sem, hdec, hx, hcl, hok, hids]; try rfl)); (case hc => (first | trivial | decide | (simp only [inB, sliceOk, appendOk, rowsOk]; omega) | (simp [inB, sliceOk, appendOk, rowsOk]; omega))))
      | (apply ev_step; (case hr => (simp only [go_sem, hdec, hx, hcl, hok, hids]; try rfl)); (case hσ => (intro g u; simp only [go_sem, hdec, hx, hcl, hok, hids]; try rfl)); (case hc => (first | trivial | decide | (simp only [inB, sliceOk, appendOk, rowsOk]; omega) | (simp [inB, sliceOk, appendOk, rowsOk]; omega))); intro g u; (try clear u); (try clear g))
      | fail
    refine Exists.intro (i + 1) ⟨⟨by omega, hfi⟩, by omega, ?_⟩
    refine Wk.mk ?_ ?_
    all_goals (repeat' first | exact trivial | exact LeA.refl _ | exact LeA.any _ | exact LeO.refl _ | exact LeO.no _ | exact LeA.nil _ | exact LeA.nilOwn _ | exact LeO.nil _ _ _ | refine LeO.box ?_ | (refine LeA.i ?_; (first | rfl | (push_cast; rfl) | (rw [wrap_id (by omega)]; push_cast; omega) | (simp [wrap_id]; omega))) | refine ⟨?_, ?_⟩)
theorem f53_spec {fv : AV} {f : Nat} {caps : List AV} (hfn : IsFn fv f caps) (l : List Tt) (p : Tt → Bool) (hp : ∀ r ∈ l, Spec Try.prog f ([.agg (ttA r)] ++ caps) (litB (p r))) : Spec Try.prog 53 [.d (ttsD l), fv] (litB (l.any p)) := by
  have h71 := f71_spec hfn l p hp
  have hcl := hfn.cl
  have hok := hfn.ok
  have hids := hfn.ids
  refine spec_of_awp (fn := Try.f53) Try.func53 (by kernel_rfl) rfl ?_
  intro w0 C0
  simp only [Try.ntmps53, litI, litB, litS, List.length_cons, List.length_nil, Nat.reduceAdd, Nat.reduceSub, List.replicate_succ, List.replicate_zero, List.cons_append, List.nil_append]
  repeat' first
    | refine awp_seq ?_
    | refine awp_block ?_
    | refine awp_skip ?_
    | (refine reg _ (by (simp only [List.map_cons, List.map_nil]; rfl)) rfl ?_; intro K hK)
    | (refine awp_cond _ (by rfl) ?_ ?_ <;> (intro hb; first | (cases hb; done) | (have ht : true = true := hb; clear ht hb) | (have ht : false = false := hb; clear ht hb) | (simp only [hb]) | skip))
    | (refine awp_exit ?_; simp only [thenA, blockA, scopeA, reduceIte, RetQ, Nat.reduceEqDiff])
    | (refine awp_ret ?_; simp only [thenA, blockA, scopeA, RetQ])
    | (refine ev_nil (hK _ ?_); clear hK K)
    | (apply ev_call0; (case hys => (simp only [go_sem, hcl, hok, hids]; try rfl)); (case hs => first | exact h71 ..); (case hok | hσ => (simp only [go_sem, hcl, hok, hids]; try rfl)))
    | (apply ev_step0; (case hr | hσ => (simp only [go_sem, hcl, hok, hids]; try rfl)); (case hc => (first | trivial | decide | (simp only [inB, sliceOk, appendOk, rowsOk]; omega) | (simp [inB, sliceOk, appendOk, rowsOk]; omega))))
    | (apply ev_step; (case hr => (simp only [go_sem, hcl, hok, hids]; try rfl)); (case hσ => (intro g u; simp only [go_sem, hcl, hok, hids]; try rfl)); (case hc => (first | trivial | decide | (simp only [inB, sliceOk, appendOk, rowsOk]; omega) | (simp [inB, sliceOk, appendOk, rowsOk]; omega))); intro g u; (try clear u); (try clear g))
    | fail
  all_goals (refine resR_one T_ok rfl _ (by (simp only [go_sem, resA]; rfl)) (by first | trivial | (simp only [go_sem, resA])) (by first | trivial | (simp only [go_sem])) ?_; simp only [go_sem])
  exact LeA.b (idxT_any p l 0)
end
section
set_option linter.unusedVariables false
set_option linter.unusedSimpArgs false
open Go.RowKit
attribute [local irreducible] AWp evOps evD
/-- What a box holds is written no more, as far as its contents name it. -/
theorem Wk.boxcl {E : Env} {t : List AV} {o : List AObj} (i g : Nat) (cs : List AV) (hi : objD o i = .box g cs) (hil : i < o.length) (hk : clOkL o cs) (hn : notIn i (idsOfL cs)) : Wk E ⟨t, o⟩ ⟨t, (applyEff (frzEff o (idsOfL cs)) o).set i (.box g (clL o cs))⟩ := fun a w hs => by
  have hb := objAt_objD hs.o i
  rw [hi] at hb
  obtain ⟨ty, vs, h1, h2, h3⟩ := hb
  obtain ⟨k1, k2⟩ := hs.close cs vs h2 hk
  have hid : (applyEff (frzEff o (idsOfL cs)) o)[i]? = some (.box g cs) := by
    have := notIn_frz (d := i) (o := o) (o' := o) hn
    rw [hi, objD, List.getD_eq_getElem?_getD] at this
    have hlt : i < (applyEff (frzEff o (idsOfL cs)) o).length := by rw [applyEff_length]; exact hil
    rw [List.getElem?_eq_getElem hlt] at this ⊢
    exact congrArg some this
  refine k1.turn hid (rb := none) (grownBy_refl w _) (by simp) (fun b hb => ?_) (fun hle => ?_)
  · have hb' : (AObj.box g cs).blk = some b := hb
    exact ⟨.inl hb', (k1.own i _ b hid hb').2⟩
  · have : ObjAt (E.mem (applyEff (frzEff o (idsOfL cs)) o) w) (.box g (clL o cs)) := ⟨ty, vs, h1, k2, h3⟩
    exact this.mono hle fun _ _ => rfl
def chR (k n : Nat) (old : List Rw) (come : Rw → Bool) (r : Rw) : Bool := (hitR (cmpK (keyR r k)) old && sameM n (old.getD (lowR (cmpK (keyR r k)) old) []) r) || come r
def chG (k : Nat) (now : List Rw) (gone : Rw → Bool) (r : Rw) : Bool := (!decide (findR (keyR r k) now 0 < 0)) || gone r
def chM (s : Sch) (old now : Stt) (t : Nat) : Bool := (now.getD t []).all (chR (keyN s t) (colN s t) (old.getD t []) (comeM s now t)) && (old.getD t []).all (chG (keyN s t) (now.getD t []) (goneM s now t))
set_option maxHeartbeats 16000000 in
set_option maxRecDepth 10000 in
theorem f52_spec (s : Sch) (old now : Stt) (tno : Nat) (h : SchOk s) (hso : StS s old) (hsn : StS s now) (ht : tno < s.tables.length) : Spec Try.prog 52 [.agg (tbA (s.tables.getD tno tbN)), .d (rwsD (old.getD tno [])), .d (rwsD (now.getD tno [])), .clo (.func 48) [.el (schD s) 0, .el [.lit (.int .i64 (tno : Int))] 0, .el [sttD now] 0], .clo (.func 51) [.el (tbD (s.tables.getD tno tbN)) 0, .el (schD s) 0, .el [sttD now] 0, .el [.lit (.int .i64 (tno : Int))] 0]] (litB (chM s old now tno)) := by
  have hcome := fun l hl => f48_spec s now tno l h hsn hl
  have hgone := fun l hl => f51_spec s now tno l h hsn.toStOk ht hl
  have hkc := h.keys tno ht
  have hro := hso.rows tno ht
  have hrn := hsn.rows tno ht
  have hfo := hso.few tno ht
  have hfn := hsn.few tno ht
  have hss := hso.srt tno ht
  have hsn' := hsn.srt tno ht
  have hcn : colN s tno = (s.tables.getD tno tbN).cols.length := rfl
  have hkn : keyN s tno = (s.tables.getD tno tbN).key := rfl
  rw [chM]
  generalize comeM s now tno = come at *
  generalize goneM s now tno = gone at *
  generalize old.getD tno [] = lo at *
  generalize now.getD tno [] = ln at *
  generalize colN s tno = n at *
  generalize keyN s tno = kn at *
  generalize s.tables.getD tno tbN = t at *
  subst hkn
  subst hcn
  refine spec_of_awp (fn := Try.f52) Try.func52 (by kernel_rfl) rfl ?_
  intro w0 C0
  simp only [Try.ntmps52, litI, litB, litS, List.length_cons, List.length_nil, Nat.reduceAdd, Nat.reduceSub, List.replicate_succ, List.replicate_zero, List.cons_append, List.nil_append]
  repeat' first
    | refine awp_seq ?_
    | refine awp_block ?_
    | refine awp_skip ?_
    | refine awp_label ?_
    | refine awp_scope (by rfl) ?_
    | (refine reg _ (by (simp only [List.map_cons, List.map_nil]; rfl)) rfl ?_; intro K hK)
    | (refine awp_cond _ (by rfl) ?_ ?_ <;> (intro hb; first | (cases hb; done) | (have ht : true = true := hb; clear ht hb) | (have ht : false = false := hb; clear ht hb) | (simp only [hb]) | skip))
    | (refine awp_exit ?_; simp only [thenA, blockA, scopeA, reduceIte, RetQ, Nat.reduceEqDiff])
    | (refine awp_ret ?_; simp only [thenA, blockA, scopeA, RetQ])
    | (refine ev_nil (hK _ ?_); clear hK K)
    | (apply ev_guardU; (case hj | hu | hσ => (simp only [go_sem]; try rfl)))
    | (refine ev_guardT _ _ (by (simp only [go_sem]; rfl)) (by (simp only [go_sem]; rfl)) ?_ ?_ <;> (intro hb; first | (cases hb; done) | (have ht : true = true := hb; clear ht hb) | (have ht : false = false := hb; clear ht hb) | (simp only [hb]) | skip))
    | (refine ev_guardF _ _ (by (simp only [go_sem]; rfl)) (by (simp only [go_sem]; rfl)) ?_ ?_ <;> (intro hb; first | (cases hb; done) | (have ht : true = true := hb; clear ht hb) | (have ht : false = false := hb; clear ht hb) | (simp only [hb]) | skip))
    | (apply ev_step0; (case hr | hσ => (simp only [go_sem]; try rfl)); (case hc => (first | trivial | decide | (simp only [inB, sliceOk, appendOk, rowsOk]; omega) | (simp [inB, sliceOk, appendOk, rowsOk]; omega))))
    | (apply ev_step; (case hr => (simp only [go_sem]; try rfl)); (case hσ => (intro g u; simp only [go_sem]; try rfl)); (case hc => (first | trivial | decide | (simp only [inB, sliceOk, appendOk, rowsOk]; omega) | (simp [inB, sliceOk, appendOk, rowsOk]; omega))); intro g u; (try clear u); (try clear g))
    | fail
  rename_i g5
  revert g; intro g11
  have hcomeR : ∀ l ∈ ln, Spec Try.prog 48 ([.agg (rwA l)] ++ [.el (schD s) 0, .el [.lit (.int .i64 (tno : Int))] 0, .el [sttD now] 0]) (litB (come l)) := fun l hl => hcome l (hrn l hl)
  refine awp_loopI (fun i : Nat => i ≤ ln.length ∧ ln.all (chR t.key t.cols.length lo come) = (ln.drop i).all (chR t.key t.cols.length lo come)) (fun i => ln.length - i) (fun i => ⟨[.agg (tbA t), .d (rwsD lo), .d (rwsD ln), .clo (.func 48) [.el (schD s) 0, .el [.lit (.int .i64 (tno : Int))] 0, .el [sttD now] 0], .clo (.func 51) [.el (tbD t) 0, .el (schD s) 0, .el [sttD now] 0, .el [.lit (.int .i64 (tno : Int))] 0], .ptr 5 g5 0, .any, .any, .any, .any, .any, .ptr 11 g11 0, .any, .any, .any, .any, .any, .any, .any, .d (rwsD ln), litI .i64 ln.length, litI .i64 i, .any, .any, .any, .any, .any, .any, .any, .any, .any, .any, .any, .any, .any, .any, .any, .any, .any, .any, .any, .any, .any, .any, .any, .any, .any, .any, .any, .any, .any, .any, .any, .any, .any, .any, .any, .any, .any, .any, .any, .any, .any, .any, .any, .any, .any], [.no, .no, .no, .no, .no, .fzb g5 (tbD t), .no, .no, .no, .no, .no, .box g11 [.clo (.func 66) [.el (tbD t) 0]], .no, .no, .no, .no, .no, .no, .no, .no, .no, .no, .no, .no, .no, .no, .no, .no, .no, .no, .no, .no, .no, .no, .no, .no, .no, .no, .no, .no, .no, .no, .no, .no, .no, .no, .no, .no, .no, .no, .no, .no, .no, .no, .no, .no, .no, .no, .no, .no, .no, .no, .no, .no, .no, .no, .no]⟩) 0 ⟨by omega, rfl⟩ ?_ ?_
  · refine Wk.trans (Wk.boxcl 11 g11 [.clo (.func 66) [.ptr 5 g5 0]] rfl (by simp) (by simp only [go_sem]) (by simp only [go_sem]; first | trivial | decide)) ?_
    simp only [go_sem]
    refine Wk.mk ?_ ?_
    all_goals (repeat' first | exact trivial | exact LeA.refl _ | exact LeA.any _ | exact LeO.refl _ | exact LeO.no _ | exact LeA.nil _ | exact LeA.nilOwn _ | exact LeO.nil _ _ _ | refine LeO.box ?_ | (refine LeA.i ?_; (first | rfl | (push_cast; rfl) | (rw [wrap_id (by omega)]; push_cast; omega) | (simp [wrap_id]; omega))) | refine ⟨?_, ?_⟩)
  rintro i ⟨hi, hA⟩
  simp only [litI, litB] at hi hA ⊢
  by_cases h1 : i < ln.length
  · have d1 : decide ((i : Int) < (ln.length : Int)) = true := decide_eq_true (by omega)
    have hx := rws_at ln h1
    have hrr := hrn _ (getD_mem' h1 [])
    have hcr := hcomeR _ (getD_mem' h1 [])
    rw [drop_at ln [] h1, List.all_cons] at hA
    generalize ln.getD i [] = r at *
    have hrl := hrr.1
    have hkl : (keyR r t.key).length = t.key := by rw [keyR_len]; omega
    have h67 := f67_spec lo (cmpK (keyR r t.key)) 68 [.el [.fn (.func 66) [.ptr (tbD t) 0]] 0, .el (rwD r) 0] [.ptr [.fn (.func 66) [.ptr (tbD t) 0]] 0, .ptr (rwD r) 0] rfl rfl (fun _ => rfl) (fun _ => by simp [clOkL, clOk]) rfl
      (fun x hx' => f68_spec t x r (by omega) (by omega) (by have := (hro x hx').1; omega) (by have := (hro x hx').1; omega)) (mono_of_srt (by rw [hkl]; exact hss)) hfo
    have hch : chR t.key t.cols.length lo come r = ((hitR (cmpK (keyR r t.key)) lo && sameM t.cols.length (lo.getD (lowR (cmpK (keyR r t.key)) lo) []) r) || come r) := rfl
    obtain ⟨at', hat⟩ : ∃ n, lowR (cmpK (keyR r t.key)) lo = n := ⟨_, rfl⟩
    have hlt : hitR (cmpK (keyR r t.key)) lo = true → at' < lo.length := fun hh => by
      simp only [hitR, Bool.and_eq_true, decide_eq_true_eq] at hh
      rw [← hat]; exact hh.1
    rw [hat] at hch h67
    cases hh : hitR (cmpK (keyR r t.key)) lo with
    | false =>
      rw [hh] at hch h67
      rw [Bool.false_and, Bool.false_or] at hch
      cases hc : come r with
      | true =>
        rw [hc] at hch hcr
        rw [hch, Bool.true_and] at hA
        repeat' first
          | refine awp_seq ?_
          | refine awp_block ?_
          | refine awp_skip ?_
          | refine awp_label ?_
          | refine awp_scope (by rfl) ?_
          | (refine reg _ (by (simp only [List.map_cons, List.map_nil]; rfl)) rfl ?_; intro K hK)
          | (refine awp_cond _ (by rfl) ?_ ?_ <;> (intro hb; first | (cases hb; done) | (have ht : true = true := hb; clear ht hb) | (have ht : false = false := hb; clear ht hb) | (simp only [hb]) | skip))
          | (refine awp_exit ?_; simp only [thenA, blockA, scopeA, reduceIte, RetQ, Nat.reduceEqDiff])
          | (refine awp_ret ?_; simp only [thenA, blockA, scopeA, RetQ])
          | (refine ev_nil (hK _ ?_); clear hK K)
          | (apply ev_guardU; (case hj | hu | hσ => (simp only [go_sem, d1, hx]; try rfl)))
          | (refine ev_guardT _ _ (by (simp only [go_sem, d1, hx]; rfl)) (by (simp only [go_sem, d1, hx]; rfl)) ?_ ?_ <;> (intro hb; first | (cases hb; done) | (have ht : true = true := hb; clear ht hb) | (have ht : false = false := hb; clear ht hb) | (simp only [hb]) | skip))
          | (refine ev_guardF _ _ (by (simp only [go_sem, d1, hx]; rfl)) (by (simp only [go_sem, d1, hx]; rfl)) ?_ ?_ <;> (intro hb; first | (cases hb; done) | (have ht : true = true := hb; clear ht hb) | (have ht : false = false := hb; clear ht hb) | (simp only [hb]) | skip))
          | (apply ev_call0; (case hys => (simp only [go_sem, d1, hx]; try rfl)); (case hs => first | exact h67 .. | exact hcr ..); (case hok | hσ => (simp only [go_sem, d1, hx]; try rfl)))
          | (apply ev_callC; (case hf | hys => (simp only [go_sem, d1, hx]; try rfl)); (case hs => first | exact h67 .. | exact hcr ..); (case hok | hσ => (simp only [go_sem, d1, hx]; try rfl)))
          | (apply regD; (case hd => (simp only [List.map_cons, List.map_nil]; rfl)); (case hok => rfl); (case' h => (intro K hK; (repeat' first
        | (apply evd_nil; refine (hK _ ?_); clear hK K)
        | (apply evd_guardU0; (case hj | hu | hσ => (simp only [go_sem, d1, hx]; try rfl)))
        | (apply evd_guardU; (case hj | hu | hσ => (simp only [go_sem, d1, hx]; try rfl)))
        | (apply evd_skipT0; (case hj | hb | hσ => (simp only [go_sem, d1, hx]; try rfl)))
        | (apply evd_skipF0; (case hj | hb | hσ => (simp only [go_sem, d1, hx]; try rfl)))
        | (apply evd_skipT; (case hj | hb | hσ => (simp only [go_sem, d1, hx]; try rfl)))
        | (apply evd_skipF; (case hj | hb | hσ => (simp only [go_sem, d1, hx]; try rfl)))
        | (apply evd_guardT; (case hj | hb => (simp only [go_sem, d1, hx]; try rfl)); (case' h2 => (intro hb; first | (cases hb; done) | (simp only [hb]) | skip)); (case' h1 => (intro hb; first | (cases hb; done) | (simp only [hb]) | skip)))
        | (apply evd_guardF; (case hj | hb => (simp only [go_sem, d1, hx]; try rfl)); (case' h2 => (intro hb; first | (cases hb; done) | (simp only [hb]) | skip)); (case' h1 => (intro hb; first | (cases hb; done) | (simp only [hb]) | skip)))
        | (apply evd_call0; (case hi | hys => (simp only [go_sem, d1, hx]; try rfl)); (case hs => first | exact h67 .. | exact hcr ..); (case hok | hw | hσ => (simp only [go_sem, d1, hx]; try rfl)))
        | (apply evd_step0; (case hr | hi | hσ => (simp only [go_sem, d1, hx]; try rfl)); (case hc => (first | trivial | decide | (simp only [inB, sliceOk, appendOk, rowsOk]; omega) | (simp [inB, sliceOk, appendOk, rowsOk]; omega))))
        | (apply evd_step; (case hr | hi => (simp only [go_sem, d1, hx]; try rfl)); (case hc => (first | trivial | decide | (simp only [inB, sliceOk, appendOk, rowsOk]; omega) | (simp [inB, sliceOk, appendOk, rowsOk]; omega))); (case hw | hσ => (intro g u; simp only [go_sem, d1, hx]; try rfl)); (case' hk => (intro g u; (try clear u); (try clear g))))
        | fail))); (case hB => kernel_rfl))
          | (apply ev_step0; (case hr | hσ => (simp only [go_sem, d1, hx]; try rfl)); (case hc => (first | trivial | decide | (simp only [inB, sliceOk, appendOk, rowsOk]; omega) | (simp [inB, sliceOk, appendOk, rowsOk]; omega))))
          | (apply ev_step; (case hr => (simp only [go_sem, d1, hx]; try rfl)); (case hσ => (intro g u; simp only [go_sem, d1, hx]; try rfl)); (case hc => (first | trivial | decide | (simp only [inB, sliceOk, appendOk, rowsOk]; omega) | (simp [inB, sliceOk, appendOk, rowsOk]; omega))); intro g u; (try clear u); (try clear g))
          | fail
        refine Exists.intro (i + 1) ⟨⟨by omega, hA⟩, by omega, ?_⟩
        refine Wk.mk ?_ ?_
        all_goals (repeat' first | exact trivial | exact LeA.refl _ | exact LeA.any _ | exact LeO.refl _ | exact LeO.no _ | exact LeA.nil _ | exact LeA.nilOwn _ | exact LeO.nil _ _ _ | refine LeO.box ?_ | (refine LeA.i ?_; (first | rfl | (push_cast; rfl) | (rw [wrap_id (by omega)]; push_cast; omega) | (simp [wrap_id]; omega))) | refine ⟨?_, ?_⟩)
      | false =>
        rw [hc] at hch hcr
        rw [hch, Bool.false_and] at hA
        repeat' first
          | refine awp_seq ?_
          | refine awp_block ?_
          | refine awp_skip ?_
          | refine awp_label ?_
          | refine awp_scope (by rfl) ?_
          | (refine reg _ (by (simp only [List.map_cons, List.map_nil]; rfl)) rfl ?_; intro K hK)
          | (refine awp_cond _ (by rfl) ?_ ?_ <;> (intro hb; first | (cases hb; done) | (have ht : true = true := hb; clear ht hb) | (have ht : false = false := hb; clear ht hb) | (simp only [hb]) | skip))
          | (refine awp_exit ?_; simp only [thenA, blockA, scopeA, reduceIte, RetQ, Nat.reduceEqDiff])
          | (refine awp_ret ?_; simp only [thenA, blockA, scopeA, RetQ])
          | (refine ev_nil (hK _ ?_); clear hK K)
          | (apply ev_guardU; (case hj | hu | hσ => (simp only [go_sem, d1, hx]; try rfl)))
          | (refine ev_guardT _ _ (by (simp only [go_sem, d1, hx]; rfl)) (by (simp only [go_sem, d1, hx]; rfl)) ?_ ?_ <;> (intro hb; first | (cases hb; done) | (have ht : true = true := hb; clear ht hb) | (have ht : false = false := hb; clear ht hb) | (simp only [hb]) | skip))
          | (refine ev_guardF _ _ (by (simp only [go_sem, d1, hx]; rfl)) (by (simp only [go_sem, d1, hx]; rfl)) ?_ ?_ <;> (intro hb; first | (cases hb; done) | (have ht : true = true := hb; clear ht hb) | (have ht : false = false := hb; clear ht hb) | (simp only [hb]) | skip))
          | (apply ev_call0; (case hys => (simp only [go_sem, d1, hx]; try rfl)); (case hs => first | exact h67 .. | exact hcr ..); (case hok | hσ => (simp only [go_sem, d1, hx]; try rfl)))
          | (apply ev_callC; (case hf | hys => (simp only [go_sem, d1, hx]; try rfl)); (case hs => first | exact h67 .. | exact hcr ..); (case hok | hσ => (simp only [go_sem, d1, hx]; try rfl)))
          | (apply regD; (case hd => (simp only [List.map_cons, List.map_nil]; rfl)); (case hok => rfl); (case' h => (intro K hK; (repeat' first
        | (apply evd_nil; refine (hK _ ?_); clear hK K)
        | (apply evd_guardU0; (case hj | hu | hσ => (simp only [go_sem, d1, hx]; try rfl)))
        | (apply evd_guardU; (case hj | hu | hσ => (simp only [go_sem, d1, hx]; try rfl)))
        | (apply evd_skipT0; (case hj | hb | hσ => (simp only [go_sem, d1, hx]; try rfl)))
        | (apply evd_skipF0; (case hj | hb | hσ => (simp only [go_sem, d1, hx]; try rfl)))
        | (apply evd_skipT; (case hj | hb | hσ => (simp only [go_sem, d1, hx]; try rfl)))
        | (apply evd_skipF; (case hj | hb | hσ => (simp only [go_sem, d1, hx]; try rfl)))
        | (apply evd_guardT; (case hj | hb => (simp only [go_sem, d1, hx]; try rfl)); (case' h2 => (intro hb; first | (cases hb; done) | (simp only [hb]) | skip)); (case' h1 => (intro hb; first | (cases hb; done) | (simp only [hb]) | skip)))
        | (apply evd_guardF; (case hj | hb => (simp only [go_sem, d1, hx]; try rfl)); (case' h2 => (intro hb; first | (cases hb; done) | (simp only [hb]) | skip)); (case' h1 => (intro hb; first | (cases hb; done) | (simp only [hb]) | skip)))
        | (apply evd_call0; (case hi | hys => (simp only [go_sem, d1, hx]; try rfl)); (case hs => first | exact h67 .. | exact hcr ..); (case hok | hw | hσ => (simp only [go_sem, d1, hx]; try rfl)))
        | (apply evd_step0; (case hr | hi | hσ => (simp only [go_sem, d1, hx]; try rfl)); (case hc => (first | trivial | decide | (simp only [inB, sliceOk, appendOk, rowsOk]; omega) | (simp [inB, sliceOk, appendOk, rowsOk]; omega))))
        | (apply evd_step; (case hr | hi => (simp only [go_sem, d1, hx]; try rfl)); (case hc => (first | trivial | decide | (simp only [inB, sliceOk, appendOk, rowsOk]; omega) | (simp [inB, sliceOk, appendOk, rowsOk]; omega))); (case hw | hσ => (intro g u; simp only [go_sem, d1, hx]; try rfl)); (case' hk => (intro g u; (try clear u); (try clear g))))
        | fail))); (case hB => kernel_rfl))
          | (apply ev_step0; (case hr | hσ => (simp only [go_sem, d1, hx]; try rfl)); (case hc => (first | trivial | decide | (simp only [inB, sliceOk, appendOk, rowsOk]; omega) | (simp [inB, sliceOk, appendOk, rowsOk]; omega))))
          | (apply ev_step; (case hr => (simp only [go_sem, d1, hx]; try rfl)); (case hσ => (intro g u; simp only [go_sem, d1, hx]; try rfl)); (case hc => (first | trivial | decide | (simp only [inB, sliceOk, appendOk, rowsOk]; omega) | (simp [inB, sliceOk, appendOk, rowsOk]; omega))); intro g u; (try clear u); (try clear g))
          | fail
        all_goals (refine resR_one T_ok rfl _ (by (simp only [go_sem, resA]; rfl)) (by first | trivial | (simp only [go_sem, resA])) (by first | trivial | (simp only [go_sem])) ?_; simp only [go_sem])
        exact LeA.b (by rw [hA]; rfl)
    | true =>
      rw [hh] at hch h67
      rw [Bool.true_and] at hch
      have hal := hlt hh
      have hz := rws_at lo hal
      have hxl := (hro _ (getD_mem' hal [])).1
      have h70 := f70_spec (lo.getD at' []) r t.cols.length (by omega) (by omega) (by omega)
      generalize lo.getD at' [] = ro at *
      cases hsm : sameM t.cols.length ro r with
      | true =>
        rw [hsm, Bool.true_or] at hch
        rw [hsm] at h70
        rw [hch, Bool.true_and] at hA
        repeat' first
          | refine awp_seq ?_
          | refine awp_block ?_
          | refine awp_skip ?_
          | refine awp_label ?_
          | refine awp_scope (by rfl) ?_
          | (refine reg _ (by (simp only [List.map_cons, List.map_nil]; rfl)) rfl ?_; intro K hK)
          | (refine awp_cond _ (by rfl) ?_ ?_ <;> (intro hb; first | (cases hb; done) | (have ht : true = true := hb; clear ht hb) | (have ht : false = false := hb; clear ht hb) | (simp only [hb]) | skip))
          | (refine awp_exit ?_; simp only [thenA, blockA, scopeA, reduceIte, RetQ, Nat.reduceEqDiff])
          | (refine awp_ret ?_; simp only [thenA, blockA, scopeA, RetQ])
          | (refine ev_nil (hK _ ?_); clear hK K)
          | (apply ev_guardU; (case hj | hu | hσ => (simp only [go_sem, d1, hx, hz]; try rfl)))
          | (refine ev_guardT _ _ (by (simp only [go_sem, d1, hx, hz]; rfl)) (by (simp only [go_sem, d1, hx, hz]; rfl)) ?_ ?_ <;> (intro hb; first | (cases hb; done) | (have ht : true = true := hb; clear ht hb) | (have ht : false = false := hb; clear ht hb) | (simp only [hb]) | skip))
          | (refine ev_guardF _ _ (by (simp only [go_sem, d1, hx, hz]; rfl)) (by (simp only [go_sem, d1, hx, hz]; rfl)) ?_ ?_ <;> (intro hb; first | (cases hb; done) | (have ht : true = true := hb; clear ht hb) | (have ht : false = false := hb; clear ht hb) | (simp only [hb]) | skip))
          | (apply ev_call0; (case hys => (simp only [go_sem, d1, hx, hz]; try rfl)); (case hs => first | exact h67 .. | exact h70 ..); (case hok | hσ => (simp only [go_sem, d1, hx, hz]; try rfl)))
          | (apply ev_callC; (case hf | hys => (simp only [go_sem, d1, hx, hz]; try rfl)); (case hs => first | exact h67 .. | exact h70 ..); (case hok | hσ => (simp only [go_sem, d1, hx, hz]; try rfl)))
          | (apply regD; (case hd => (simp only [List.map_cons, List.map_nil]; rfl)); (case hok => rfl); (case' h => (intro K hK; (repeat' first
        | (apply evd_nil; refine (hK _ ?_); clear hK K)
        | (apply evd_guardU0; (case hj | hu | hσ => (simp only [go_sem, d1, hx, hz]; try rfl)))
        | (apply evd_guardU; (case hj | hu | hσ => (simp only [go_sem, d1, hx, hz]; try rfl)))
        | (apply evd_skipT0; (case hj | hb | hσ => (simp only [go_sem, d1, hx, hz]; try rfl)))
        | (apply evd_skipF0; (case hj | hb | hσ => (simp only [go_sem, d1, hx, hz]; try rfl)))
        | (apply evd_skipT; (case hj | hb | hσ => (simp only [go_sem, d1, hx, hz]; try rfl)))
        | (apply evd_skipF; (case hj | hb | hσ => (simp only [go_sem, d1, hx, hz]; try rfl)))
        | (apply evd_guardT; (case hj | hb => (simp only [go_sem, d1, hx, hz]; try rfl)); (case' h2 => (intro hb; first | (cases hb; done) | (simp only [hb]) | skip)); (case' h1 => (intro hb; first | (cases hb; done) | (simp only [hb]) | skip)))
        | (apply evd_guardF; (case hj | hb => (simp only [go_sem, d1, hx, hz]; try rfl)); (case' h2 => (intro hb; first | (cases hb; done) | (simp only [hb]) | skip)); (case' h1 => (intro hb; first | (cases hb; done) | (simp only [hb]) | skip)))
        | (apply evd_call0; (case hi | hys => (simp only [go_sem, d1, hx, hz]; try rfl)); (case hs => first | exact h67 .. | exact h70 ..); (case hok | hw | hσ => (simp only [go_sem, d1, hx, hz]; try rfl)))
        | (apply evd_step0; (case hr | hi | hσ => (simp only [go_sem, d1, hx, hz]; try rfl)); (case hc => (first | trivial | decide | (simp only [inB, sliceOk, appendOk, rowsOk]; omega) | (simp [inB, sliceOk, appendOk, rowsOk]; omega))))
        | (apply evd_step; (case hr | hi => (simp only [go_sem, d1, hx, hz]; try rfl)); (case hc => (first | trivial | decide | (simp only [inB, sliceOk, appendOk, rowsOk]; omega) | (simp [inB, sliceOk, appendOk, rowsOk]; omega))); (case hw | hσ => (intro g u; simp only [go_sem, d1, hx, hz]; try rfl)); (case' hk => (intro g u; (try clear u); (try clear g))))
        | fail))); (case hB => kernel_rfl))
          | (apply ev_step0; (case hr | hσ => (simp only [go_sem, d1, hx, hz]; try rfl)); (case hc => (first | trivial | decide | (simp only [inB, sliceOk, appendOk, rowsOk]; omega) | (simp [inB, sliceOk, appendOk, rowsOk]; omega))))
          | (apply ev_step; (case hr => (simp only [go_sem, d1, hx, hz]; try rfl)); (case hσ => (intro g u; simp only [go_sem, d1, hx, hz]; try rfl)); (case hc => (first | trivial | decide | (simp only [inB, sliceOk, appendOk, rowsOk]; omega) | (simp [inB, sliceOk, appendOk, rowsOk]; omega))); intro g u; (try clear u); (try clear g))
          | fail
        refine Exists.intro (i + 1) ⟨⟨by omega, hA⟩, by omega, ?_⟩
        refine Wk.mk ?_ ?_
        all_goals (repeat' first | exact trivial | exact LeA.refl _ | exact LeA.any _ | exact LeO.refl _ | exact LeO.no _ | exact LeA.nil _ | exact LeA.nilOwn _ | exact LeO.nil _ _ _ | refine LeO.box ?_ | (refine LeA.i ?_; (first | rfl | (push_cast; rfl) | (rw [wrap_id (by omega)]; push_cast; omega) | (simp [wrap_id]; omega))) | refine ⟨?_, ?_⟩)
      | false =>
        rw [hsm, Bool.false_or] at hch
        rw [hsm] at h70
        cases hc : come r with
        | true =>
          rw [hc] at hch hcr
          rw [hch, Bool.true_and] at hA
          repeat' first
            | refine awp_seq ?_
            | refine awp_block ?_
            | refine awp_skip ?_
            | refine awp_label ?_
            | refine awp_scope (by rfl) ?_
            | (refine reg _ (by (simp only [List.map_cons, List.map_nil]; rfl)) rfl ?_; intro K hK)
            | (refine awp_cond _ (by rfl) ?_ ?_ <;> (intro hb; first | (cases hb; done) | (have ht : true = true := hb; clear ht hb) | (have ht : false = false := hb; clear ht hb) | (simp only [hb]) | skip))
            | (refine awp_exit ?_; simp only [thenA, blockA, scopeA, reduceIte, RetQ, Nat.reduceEqDiff])
            | (refine awp_ret ?_; simp only [thenA, blockA, scopeA, RetQ])
            | (refine ev_nil (hK _ ?_); clear hK K)
            | (apply ev_guardU; (case hj | hu | hσ => (simp only [go_sem, d1, hx, hz]; try rfl)))
            | (refine ev_guardT _ _ (by (simp only [go_sem, d1, hx, hz]; rfl)) (by (simp only [go_sem, d1, hx, hz]; rfl)) ?_ ?_ <;> (intro hb; first | (cases hb; done) | (have ht : true = true := hb; clear ht hb) | (have ht : false = false := hb; clear ht hb) | (simp only [hb]) | skip))
            | (refine ev_guardF _ _ (by (simp only [go_sem, d1, hx, hz]; rfl)) (by (simp only [go_sem, d1, hx, hz]; rfl)) ?_ ?_ <;> (intro hb; first | (cases hb; done) | (have ht : true = true := hb; clear ht hb) | (have ht : false = false := hb; clear ht hb) | (simp only [hb]) | skip))
            | (apply ev_call0; (case hys => (simp only [go_sem, d1, hx, hz]; try rfl)); (case hs => first | exact h67 .. | exact hcr .. | exact h70 ..); (case hok | hσ => (simp only [go_sem, d1, hx, hz]; try rfl)))
            | (apply ev_callC; (case hf | hys => (simp only [go_sem, d1, hx, hz]; try rfl)); (case hs => first | exact h67 .. | exact hcr .. | exact h70 ..); (case hok | hσ => (simp only [go_sem, d1, hx, hz]; try rfl)))
            | (apply regD; (case hd => (simp only [List.map_cons, List.map_nil]; rfl)); (case hok => rfl); (case' h => (intro K hK; (repeat' first
        | (apply evd_nil; refine (hK _ ?_); clear hK K)
        | (apply evd_guardU0; (case hj | hu | hσ => (simp only [go_sem, d1, hx, hz]; try rfl)))
        | (apply evd_guardU; (case hj | hu | hσ => (simp only [go_sem, d1, hx, hz]; try rfl)))
        | (apply evd_skipT0; (case hj | hb | hσ => (simp only [go_sem, d1, hx, hz]; try rfl)))
        | (apply evd_skipF0; (case hj | hb | hσ => (simp only [go_sem, d1, hx, hz]; try rfl)))
        | (apply evd_skipT; (case hj | hb | hσ => (simp only [go_sem, d1, hx, hz]; try rfl)))
        | (apply evd_skipF; (case hj | hb | hσ => (simp only [go_sem, d1, hx, hz]; try rfl)))
        | (apply evd_guardT; (case hj | hb => (simp only [go_sem, d1, hx, hz]; try rfl)); (case' h2 => (intro hb; first | (cases hb; done) | (simp only [hb]) | skip)); (case' h1 => (intro hb; first | (cases hb; done) | (simp only [hb]) | skip)))
        | (apply evd_guardF; (case hj | hb => (simp only [go_sem, d1, hx, hz]; try rfl)); (case' h2 => (intro hb; first | (cases hb; done) | (simp only [hb]) | skip)); (case' h1 => (intro hb; first | (cases hb; done) | (simp only [hb]) | skip)))
        | (apply evd_call0; (case hi | hys => (simp only [go_sem, d1, hx, hz]; try rfl)); (case hs => first | exact h67 .. | exact hcr .. | exact h70 ..); (case hok | hw | hσ => (simp only [go_sem, d1, hx, hz]; try rfl)))
        | (apply evd_step0; (case hr | hi | hσ => (simp only [go_sem, d1, hx, hz]; try rfl)); (case hc => (first | trivial | decide | (simp only [inB, sliceOk, appendOk, rowsOk]; omega) | (simp [inB, sliceOk, appendOk, rowsOk]; omega))))
        | (apply evd_step; (case hr | hi => (simp only [go_sem, d1, hx, hz]; try rfl)); (case hc => (first | trivial | decide | (simp only [inB, sliceOk, appendOk, rowsOk]; omega) | (simp [inB, sliceOk, appendOk, rowsOk]; omega))); (case hw | hσ => (intro g u; simp only [go_sem, d1, hx, hz]; try rfl)); (case' hk => (intro g u; (try clear u); (try clear g))))
        | fail))); (case hB => kernel_rfl))
            | (apply ev_step0; (case hr | hσ => (simp only [go_sem, d1, hx, hz]; try rfl)); (case hc => (first | trivial | decide | (simp only [inB, sliceOk, appendOk, rowsOk]; omega) | (simp [inB, sliceOk, appendOk, rowsOk]; omega))))
            | (apply ev_step; (case hr => (simp only [go_sem, d1, hx, hz]; try rfl)); (case hσ => (intro g u; simp only [go_sem, d1, hx, hz]; try rfl)); (case hc => (first | trivial | decide | (simp only [inB, sliceOk, appendOk, rowsOk]; omega) | (simp [inB, sliceOk, appendOk, rowsOk]; omega))); intro g u; (try clear u); (try clear g))
            | fail
          refine Exists.intro (i + 1) ⟨⟨by omega, hA⟩, by omega, ?_⟩
          refine Wk.mk ?_ ?_
          all_goals (repeat' first | exact trivial | exact LeA.refl _ | exact LeA.any _ | exact LeO.refl _ | exact LeO.no _ | exact LeA.nil _ | exact LeA.nilOwn _ | exact LeO.nil _ _ _ | refine LeO.box ?_ | (refine LeA.i ?_; (first | rfl | (push_cast; rfl) | (rw [wrap_id (by omega)]; push_cast; omega) | (simp [wrap_id]; omega))) | refine ⟨?_, ?_⟩)
        | false =>
          rw [hc] at hch hcr
          rw [hch, Bool.false_and] at hA
          repeat' first
            | refine awp_seq ?_
            | refine awp_block ?_
            | refine awp_skip ?_
            | refine awp_label ?_
            | refine awp_scope (by rfl) ?_
            | (refine reg _ (by (simp only [List.map_cons, List.map_nil]; rfl)) rfl ?_; intro K hK)
            | (refine awp_cond _ (by rfl) ?_ ?_ <;> (intro hb; first | (cases hb; done) | (have ht : true = true := hb; clear ht hb) | (have ht : false = false := hb; clear ht hb) | (simp only [hb]) | skip))
            | (refine awp_exit ?_; simp only [thenA, blockA, scopeA, reduceIte, RetQ, Nat.reduceEqDiff])
            | (refine awp_ret ?_; simp only [thenA, blockA, scopeA, RetQ])
            | (refine ev_nil (hK _ ?_); clear hK K)
            | (apply ev_guardU; (case hj | hu | hσ => (simp only [go_sem, d1, hx, hz]; try rfl)))
            | (refine ev_guardT _ _ (by (simp only [go_sem, d1, hx, hz]; rfl)) (by (simp only [go_sem, d1, hx, hz]; rfl)) ?_ ?_ <;> (intro hb; first | (cases hb; done) | (have ht : true = true := hb; clear ht hb) | (have ht : false = false := hb; clear ht hb) | (simp only [hb]) | skip))
            | (refine ev_guardF _ _ (by (simp only [go_sem, d1, hx, hz]; rfl)) (by (simp only [go_sem, d1, hx, hz]; rfl)) ?_ ?_ <;> (intro hb; first | (cases hb; done) | (have ht : true = true := hb; clear ht hb) | (have ht : false = false := hb; clear ht hb) | (simp only [hb]) | skip))
            | (apply ev_call0; (case hys => (simp only [go_sem, d1, hx, hz]; try rfl)); (case hs => first | exact h67 .. | exact hcr .. | exact h70 ..); (case hok | hσ => (simp only [go_sem, d1, hx, hz]; try rfl)))
            | (apply ev_callC; (case hf | hys => (simp only [go_sem, d1, hx, hz]; try rfl)); (case hs => first | exact h67 .. | exact hcr .. | exact h70 ..); (case hok | hσ => (simp only [go_sem, d1, hx, hz]; try rfl)))
            | (apply regD; (case hd => (simp only [List.map_cons, List.map_nil]; rfl)); (case hok => rfl); (case' h => (intro K hK; (repeat' first
        | (apply evd_nil; refine (hK _ ?_); clear hK K)
        | (apply evd_guardU0; (case hj | hu | hσ => (simp only [go_sem, d1, hx, hz]; try rfl)))
        | (apply evd_guardU; (case hj | hu | hσ => (simp only [go_sem, d1, hx, hz]; try rfl)))
        | (apply evd_skipT0; (case hj | hb | hσ => (simp only [go_sem, d1, hx, hz]; try rfl)))
        | (apply evd_skipF0; (case hj | hb | hσ => (simp only [go_sem, d1, hx, hz]; try rfl)))
        | (apply evd_skipT; (case hj | hb | hσ => (simp only [go_sem, d1, hx, hz]; try rfl)))
        | (apply evd_skipF; (case hj | hb | hσ => (simp only [go_sem, d1, hx, hz]; try rfl)))
        | (apply evd_guardT; (case hj | hb => (simp only [go_sem, d1, hx, hz]; try rfl)); (case' h2 => (intro hb; first | (cases hb; done) | (simp only [hb]) | skip)); (case' h1 => (intro hb; first | (cases hb; done) | (simp only [hb]) | skip)))
        | (apply evd_guardF; (case hj | hb => (simp only [go_sem, d1, hx, hz]; try rfl)); (case' h2 => (intro hb; first | (cases hb; done) | (simp only [hb]) | skip)); (case' h1 => (intro hb; first | (cases hb; done) | (simp only [hb]) | skip)))
        | (apply evd_call0; (case hi | hys => (simp only [go_sem, d1, hx, hz]; try rfl)); (case hs => first | exact h67 .. | exact hcr .. | exact h70 ..); (case hok | hw | hσ => (simp only [go_sem, d1, hx, hz]; try rfl)))
        | (apply evd_step0; (case hr | hi | hσ => (simp only [go_sem, d1, hx, hz]; try rfl)); (case hc => (first | trivial | decide | (simp only [inB, sliceOk, appendOk, rowsOk]; omega) | (simp [inB, sliceOk, appendOk, rowsOk]; omega))))
        | (apply evd_step; (case hr | hi => (simp only [go_sem, d1, hx, hz]; try rfl)); (case hc => (first | trivial | decide | (simp only [inB, sliceOk, appendOk, rowsOk]; omega) | (simp [inB, sliceOk, appendOk, rowsOk]; omega))); (case hw | hσ => (intro g u; simp only [go_sem, d1, hx, hz]; try rfl)); (case' hk => (intro g u; (try clear u); (try clear g))))
        | fail))); (case hB => kernel_rfl))
            | (apply ev_step0; (case hr | hσ => (simp only [go_sem, d1, hx, hz]; try rfl)); (case hc => (first | trivial | decide | (simp only [inB, sliceOk, appendOk, rowsOk]; omega) | (simp [inB, sliceOk, appendOk, rowsOk]; omega))))
            | (apply ev_step; (case hr => (simp only [go_sem, d1, hx, hz]; try rfl)); (case hσ => (intro g u; simp only [go_sem, d1, hx, hz]; try rfl)); (case hc => (first | trivial | decide | (simp only [inB, sliceOk, appendOk, rowsOk]; omega) | (simp [inB, sliceOk, appendOk, rowsOk]; omega))); intro g u; (try clear u); (try clear g))
            | fail
          all_goals (refine resR_one T_ok rfl _ (by (simp only [go_sem, resA]; rfl)) (by first | trivial | (simp only [go_sem, resA])) (by first | trivial | (simp only [go_sem])) ?_; simp only [go_sem])
          exact LeA.b (by rw [hA]; rfl)
  · have d1 : decide ((i : Int) < (ln.length : Int)) = false := decide_eq_false (by omega)
    rw [List.drop_eq_nil_of_le (by omega), List.all_nil] at hA
    rw [hA, Bool.true_and]
    have hgoneR : ∀ l ∈ lo, Spec Try.prog 51 ([.agg (rwA l)] ++ [.el (tbD t) 0, .el (schD s) 0, .el [sttD now] 0, .el [.lit (.int .i64 (tno : Int))] 0]) (litB (gone l)) := fun l hl => hgone l (hro l hl)
    repeat' first
      | refine awp_seq ?_
      | refine awp_block ?_
      | refine awp_skip ?_
      | refine awp_label ?_
      | refine awp_scope (by rfl) ?_
      | (refine reg _ (by (simp only [List.map_cons, List.map_nil]; rfl)) rfl ?_; intro K hK)
      | (refine awp_cond _ (by rfl) ?_ ?_ <;> (intro hb; first | (cases hb; done) | (have ht : true = true := hb; clear ht hb) | (have ht : false = false := hb; clear ht hb) | (simp only [hb]) | skip))
      | (refine awp_exit ?_; simp only [thenA, blockA, scopeA, reduceIte, RetQ, Nat.reduceEqDiff])
      | (refine awp_ret ?_; simp only [thenA, blockA, scopeA, RetQ])
      | (refine ev_nil (hK _ ?_); clear hK K)
      | (apply ev_guardU; (case hj | hu | hσ => (simp only [go_sem, d1]; try rfl)))
      | (refine ev_guardT _ _ (by (simp only [go_sem, d1]; rfl)) (by (simp only [go_sem, d1]; rfl)) ?_ ?_ <;> (intro hb; first | (cases hb; done) | (have ht : true = true := hb; clear ht hb) | (have ht : false = false := hb; clear ht hb) | (simp only [hb]) | skip))
      | (refine ev_guardF _ _ (by (simp only [go_sem, d1]; rfl)) (by (simp only [go_sem, d1]; rfl)) ?_ ?_ <;> (intro hb; first | (cases hb; done) | (have ht : true = true := hb; clear ht hb) | (have ht : false = false := hb; clear ht hb) | (simp only [hb]) | skip))
      | (apply ev_step0; (case hr | hσ => (simp only [go_sem, d1]; try rfl)); (case hc => (first | trivial | decide | (simp only [inB, sliceOk, appendOk, rowsOk]; omega) | (simp [inB, sliceOk, appendOk, rowsOk]; omega))))
      | (apply ev_step; (case hr => (simp only [go_sem, d1]; try rfl)); (case hσ => (intro g u; simp only [go_sem, d1]; try rfl)); (case hc => (first | trivial | decide | (simp only [inB, sliceOk, appendOk, rowsOk]; omega) | (simp [inB, sliceOk, appendOk, rowsOk]; omega))); intro g u; (try clear u); (try clear g))
      | fail
    refine awp_loopI (fun i : Nat => i ≤ lo.length ∧ lo.all (chG t.key ln gone) = (lo.drop i).all (chG t.key ln gone)) (fun i => lo.length - i) (fun i => ⟨[.agg (tbA t), .d (rwsD lo), .d (rwsD ln), .any, .clo (.func 51) [.el (tbD t) 0, .el (schD s) 0, .el [sttD now] 0, .el [.lit (.int .i64 (tno : Int))] 0], .ptr 5 g5 0, .any, .any, .any, .any, .any, .ptr 11 g11 0, .any, .any, .any, .any, .any, .any, .any, .any, .any, .any, .any, .any, .any, .any, .any, .any, .any, .any, .any, .any, .any, .any, .any, .any, .any, .any, .any, .any, .any, .any, .any, .any, .any, .any, .any, .any, .d (rwsD lo), litI .i64 lo.length, litI .i64 i, .any, .any, .any, .any, .any, .any, .any, .any, .any, .any, .any, .any, .any, .any, .any, .any], [.no, .no, .no, .no, .no, .fzb g5 (tbD t), .no, .no, .no, .no, .no, .box g11 [.clo (.func 66) [.el (tbD t) 0]], .no, .no, .no, .no, .no, .no, .no, .no, .no, .no, .no, .no, .no, .no, .no, .no, .no, .no, .no, .no, .no, .no, .no, .no, .no, .no, .no, .no, .no, .no, .no, .no, .no, .no, .no, .no, .no, .no, .no, .no, .no, .no, .no, .no, .no, .no, .no, .no, .no, .no, .no, .no, .no, .no, .no]⟩) 0 ⟨by omega, rfl⟩ ?_ ?_
    · refine Wk.mk ?_ ?_
      all_goals (repeat' first | exact trivial | exact LeA.refl _ | exact LeA.any _ | exact LeO.refl _ | exact LeO.no _ | exact LeA.nil _ | exact LeA.nilOwn _ | exact LeO.nil _ _ _ | refine LeO.box ?_ | (refine LeA.i ?_; (first | rfl | (push_cast; rfl) | (rw [wrap_id (by omega)]; push_cast; omega) | (simp [wrap_id]; omega))) | refine ⟨?_, ?_⟩)
    rintro j ⟨hj, hB⟩
    simp only [litI, litB] at hj hB ⊢
    by_cases h2 : j < lo.length
    · have d2 : decide ((j : Int) < (lo.length : Int)) = true := decide_eq_true (by omega)
      have hx := rws_at lo h2
      have hrr := hro _ (getD_mem' h2 [])
      have hgr := hgoneR _ (getD_mem' h2 [])
      rw [drop_at lo [] h2, List.all_cons] at hB
      generalize lo.getD j [] = r at *
      have hrl := hrr.1
      have hkl : (keyR r t.key).length = t.key := by rw [keyR_len]; omega
      have h66 := f66_spec t r (by omega) (by omega)
      have h62 := f62_spec ln (keyR r t.key) (by rw [hkl]; exact hsn') (fun x hx' => by have := (hrn x hx').1; omega) hfn
      have hch : chG t.key ln gone r = ((!decide (findR (keyR r t.key) ln 0 < 0)) || gone r) := rfl
      generalize keyR r t.key = kr at *
      cases hf : decide (findR kr ln 0 < 0) with
      | false =>
        rw [hf, Bool.not_false] at h62
        rw [hf, Bool.not_false, Bool.true_or] at hch
        rw [hch, Bool.true_and] at hB
        repeat' first
          | refine awp_seq ?_
          | refine awp_block ?_
          | refine awp_skip ?_
          | refine awp_label ?_
          | refine awp_scope (by rfl) ?_
          | (refine reg _ (by (simp only [List.map_cons, List.map_nil]; rfl)) rfl ?_; intro K hK)
          | (refine awp_cond _ (by rfl) ?_ ?_ <;> (intro hb; first | (cases hb; done) | (have ht : true = true := hb; clear ht hb) | (have ht : false = false := hb; clear ht hb) | (simp only [hb]) | skip))
          | (refine awp_exit ?_; simp only [thenA, blockA, scopeA, reduceIte, RetQ, Nat.reduceEqDiff])
          | (refine awp_ret ?_; simp only [thenA, blockA, scopeA, RetQ])
          | (refine ev_nil (hK _ ?_); clear hK K)
          | (apply ev_guardU; (case hj | hu | hσ => (simp only [go_sem, d2, hx]; try rfl)))
          | (refine ev_guardT _ _ (by (simp only [go_sem, d2, hx]; rfl)) (by (simp only [go_sem, d2, hx]; rfl)) ?_ ?_ <;> (intro hb; first | (cases hb; done) | (have ht : true = true := hb; clear ht hb) | (have ht : false = false := hb; clear ht hb) | (simp only [hb]) | skip))
          | (refine ev_guardF _ _ (by (simp only [go_sem, d2, hx]; rfl)) (by (simp only [go_sem, d2, hx]; rfl)) ?_ ?_ <;> (intro hb; first | (cases hb; done) | (have ht : true = true := hb; clear ht hb) | (have ht : false = false := hb; clear ht hb) | (simp only [hb]) | skip))
          | (apply ev_call0; (case hys => (simp only [go_sem, d2, hx]; try rfl)); (case hs => first | exact h66 .. | exact h62 ..); (case hok | hσ => (simp only [go_sem, d2, hx]; try rfl)))
          | (apply ev_callC; (case hf | hys => (simp only [go_sem, d2, hx]; try rfl)); (case hs => first | exact h66 .. | exact h62 ..); (case hok | hσ => (simp only [go_sem, d2, hx]; try rfl)))
          | (apply regD; (case hd => (simp only [List.map_cons, List.map_nil]; rfl)); (case hok => rfl); (case' h => (intro K hK; (repeat' first
        | (apply evd_nil; refine (hK _ ?_); clear hK K)
        | (apply evd_guardU0; (case hj | hu | hσ => (simp only [go_sem, d2, hx]; try rfl)))
        | (apply evd_guardU; (case hj | hu | hσ => (simp only [go_sem, d2, hx]; try rfl)))
        | (apply evd_skipT0; (case hj | hb | hσ => (simp only [go_sem, d2, hx]; try rfl)))
        | (apply evd_skipF0; (case hj | hb | hσ => (simp only [go_sem, d2, hx]; try rfl)))
        | (apply evd_skipT; (case hj | hb | hσ => (simp only [go_sem, d2, hx]; try rfl)))
        | (apply evd_skipF; (case hj | hb | hσ => (simp only [go_sem, d2, hx]; try rfl)))
        | (apply evd_guardT; (case hj | hb => (simp only [go_sem, d2, hx]; try rfl)); (case' h2 => (intro hb; first | (cases hb; done) | (simp only [hb]) | skip)); (case' h1 => (intro hb; first | (cases hb; done) | (simp only [hb]) | skip)))
        | (apply evd_guardF; (case hj | hb => (simp only [go_sem, d2, hx]; try rfl)); (case' h2 => (intro hb; first | (cases hb; done) | (simp only [hb]) | skip)); (case' h1 => (intro hb; first | (cases hb; done) | (simp only [hb]) | skip)))
        | (apply evd_call0; (case hi | hys => (simp only [go_sem, d2, hx]; try rfl)); (case hs => first | exact h66 .. | exact h62 ..); (case hok | hw | hσ => (simp only [go_sem, d2, hx]; try rfl)))
        | (apply evd_step0; (case hr | hi | hσ => (simp only [go_sem, d2, hx]; try rfl)); (case hc => (first | trivial | decide | (simp only [inB, sliceOk, appendOk, rowsOk]; omega) | (simp [inB, sliceOk, appendOk, rowsOk]; omega))))
        | (apply evd_step; (case hr | hi => (simp only [go_sem, d2, hx]; try rfl)); (case hc => (first | trivial | decide | (simp only [inB, sliceOk, appendOk, rowsOk]; omega) | (simp [inB, sliceOk, appendOk, rowsOk]; omega))); (case hw | hσ => (intro g u; simp only [go_sem, d2, hx]; try rfl)); (case' hk => (intro g u; (try clear u); (try clear g))))
        | fail))); (case hB => kernel_rfl))
          | (apply ev_step0; (case hr | hσ => (simp only [go_sem, d2, hx]; try rfl)); (case hc => (first | trivial | decide | (simp only [inB, sliceOk, appendOk, rowsOk]; omega) | (simp [inB, sliceOk, appendOk, rowsOk]; omega))))
          | (apply ev_step; (case hr => (simp only [go_sem, d2, hx]; try rfl)); (case hσ => (intro g u; simp only [go_sem, d2, hx]; try rfl)); (case hc => (first | trivial | decide | (simp only [inB, sliceOk, appendOk, rowsOk]; omega) | (simp [inB, sliceOk, appendOk, rowsOk]; omega))); intro g u; (try clear u); (try clear g))
          | fail
        refine Exists.intro (j + 1) ⟨⟨by omega, hB⟩, by omega, ?_⟩
        refine Wk.mk ?_ ?_
        all_goals (repeat' first | exact trivial | exact LeA.refl _ | exact LeA.any _ | exact LeO.refl _ | exact LeO.no _ | exact LeA.nil _ | exact LeA.nilOwn _ | exact LeO.nil _ _ _ | refine LeO.box ?_ | (refine LeA.i ?_; (first | rfl | (push_cast; rfl) | (rw [wrap_id (by omega)]; push_cast; omega) | (simp [wrap_id]; omega))) | refine ⟨?_, ?_⟩)
      | true =>
        rw [hf, Bool.not_true] at h62
        rw [hf, Bool.not_true, Bool.false_or] at hch
        cases hc : gone r with
        | true =>
          rw [hc] at hch hgr
          rw [hch, Bool.true_and] at hB
          repeat' first
            | refine awp_seq ?_
            | refine awp_block ?_
            | refine awp_skip ?_
            | refine awp_label ?_
            | refine awp_scope (by rfl) ?_
            | (refine reg _ (by (simp only [List.map_cons, List.map_nil]; rfl)) rfl ?_; intro K hK)
            | (refine awp_cond _ (by rfl) ?_ ?_ <;> (intro hb; first | (cases hb; done) | (have ht : true = true := hb; clear ht hb) | (have ht : false = false := hb; clear ht hb) | (simp only [hb]) | skip))
            | (refine awp_exit ?_; simp only [thenA, blockA, scopeA, reduceIte, RetQ, Nat.reduceEqDiff])
            | (refine awp_ret ?_; simp only [thenA, blockA, scopeA, RetQ])
            | (refine ev_nil (hK _ ?_); clear hK K)
            | (apply ev_guardU; (case hj | hu | hσ => (simp only [go_sem, d2, hx]; try rfl)))
            | (refine ev_guardT _ _ (by (simp only [go_sem, d2, hx]; rfl)) (by (simp only [go_sem, d2, hx]; rfl)) ?_ ?_ <;> (intro hb; first | (cases hb; done) | (have ht : true = true := hb; clear ht hb) | (have ht : false = false := hb; clear ht hb) | (simp only [hb]) | skip))
            | (refine ev_guardF _ _ (by (simp only [go_sem, d2, hx]; rfl)) (by (simp only [go_sem, d2, hx]; rfl)) ?_ ?_ <;> (intro hb; first | (cases hb; done) | (have ht : true = true := hb; clear ht hb) | (have ht : false = false := hb; clear ht hb) | (simp only [hb]) | skip))
            | (apply ev_call0; (case hys => (simp only [go_sem, d2, hx]; try rfl)); (case hs => first | exact h66 .. | exact h62 .. | exact hgr ..); (case hok | hσ => (simp only [go_sem, d2, hx]; try rfl)))
            | (apply ev_callC; (case hf | hys => (simp only [go_sem, d2, hx]; try rfl)); (case hs => first | exact h66 .. | exact h62 .. | exact hgr ..); (case hok | hσ => (simp only [go_sem, d2, hx]; try rfl)))
            | (apply regD; (case hd => (simp only [List.map_cons, List.map_nil]; rfl)); (case hok => rfl); (case' h => (intro K hK; (repeat' first
        | (apply evd_nil; refine (hK _ ?_); clear hK K)
        | (apply evd_guardU0; (case hj | hu | hσ => (simp only [go_sem, d2, hx]; try rfl)))
        | (apply evd_guardU; (case hj | hu | hσ => (simp only [go_sem, d2, hx]; try rfl)))
        | (apply evd_skipT0; (case hj | hb | hσ => (simp only [go_sem, d2, hx]; try rfl)))
        | (apply evd_skipF0; (case hj | hb | hσ => (simp only [go_sem, d2, hx]; try rfl)))
        | (apply evd_skipT; (case hj | hb | hσ => (simp only [go_sem, d2, hx]; try rfl)))
        | (apply evd_skipF; (case hj | hb | hσ => (simp only [go_sem, d2, hx]; try rfl)))
        | (apply evd_guardT; (case hj | hb => (simp only [go_sem, d2, hx]; try rfl)); (case' h2 => (intro hb; first | (cases hb; done) | (simp only [hb]) | skip)); (case' h1 => (intro hb; first | (cases hb; done) | (simp only [hb]) | skip)))
        | (apply evd_guardF; (case hj | hb => (simp only [go_sem, d2, hx]; try rfl)); (case' h2 => (intro hb; first | (cases hb; done) | (simp only [hb]) | skip)); (case' h1 => (intro hb; first | (cases hb; done) | (simp only [hb]) | skip)))
        | (apply evd_call0; (case hi | hys => (simp only [go_sem, d2, hx]; try rfl)); (case hs => first | exact h66 .. | exact h62 .. | exact hgr ..); (case hok | hw | hσ => (simp only [go_sem, d2, hx]; try rfl)))
        | (apply evd_step0; (case hr | hi | hσ => (simp only [go_sem, d2, hx]; try rfl)); (case hc => (first | trivial | decide | (simp only [inB, sliceOk, appendOk, rowsOk]; omega) | (simp [inB, sliceOk, appendOk, rowsOk]; omega))))
        | (apply evd_step; (case hr | hi => (simp only [go_sem, d2, hx]; try rfl)); (case hc => (first | trivial | decide | (simp only [inB, sliceOk, appendOk, rowsOk]; omega) | (simp [inB, sliceOk, appendOk, rowsOk]; omega))); (case hw | hσ => (intro g u; simp only [go_sem, d2, hx]; try rfl)); (case' hk => (intro g u; (try clear u); (try clear g))))
        | fail))); (case hB => kernel_rfl))
            | (apply ev_step0; (case hr | hσ => (simp only [go_sem, d2, hx]; try rfl)); (case hc => (first | trivial | decide | (simp only [inB, sliceOk, appendOk, rowsOk]; omega) | (simp [inB, sliceOk, appendOk, rowsOk]; omega))))
            | (apply ev_step; (case hr => (simp only [go_sem, d2, hx]; try rfl)); (case hσ => (intro g u; simp only [go_sem, d2, hx]; try rfl)); (case hc => (first | trivial | decide | (simp only [inB, sliceOk, appendOk, rowsOk]; omega) | (simp [inB, sliceOk, appendOk, rowsOk]; omega))); intro g u; (try clear u); (try clear g))
            | fail
          refine Exists.intro (j + 1) ⟨⟨by omega, hB⟩, by omega, ?_⟩
          refine Wk.mk ?_ ?_
          all_goals (repeat' first | exact trivial | exact LeA.refl _ | exact LeA.any _ | exact LeO.refl _ | exact LeO.no _ | exact LeA.nil _ | exact LeA.nilOwn _ | exact LeO.nil _ _ _ | refine LeO.box ?_ | (refine LeA.i ?_; (first | rfl | (push_cast; rfl) | (rw [wrap_id (by omega)]; push_cast; omega) | (simp [wrap_id]; omega))) | refine ⟨?_, ?_⟩)
        | false =>
          rw [hc] at hch hgr
          rw [hch, Bool.false_and] at hB
          repeat' first
            | refine awp_seq ?_
            | refine awp_block ?_
            | refine awp_skip ?_
            | refine awp_label ?_
            | refine awp_scope (by rfl) ?_
            | (refine reg _ (by (simp only [List.map_cons, List.map_nil]; rfl)) rfl ?_; intro K hK)
            | (refine awp_cond _ (by rfl) ?_ ?_ <;> (intro hb; first | (cases hb; done) | (have ht : true = true := hb; clear ht hb) | (have ht : false = false := hb; clear ht hb) | (simp only [hb]) | skip))
            | (refine awp_exit ?_; simp only [thenA, blockA, scopeA, reduceIte, RetQ, Nat.reduceEqDiff])
            | (refine awp_ret ?_; simp only [thenA, blockA, scopeA, RetQ])
            | (refine ev_nil (hK _ ?_); clear hK K)
            | (apply ev_guardU; (case hj | hu | hσ => (simp only [go_sem, d2, hx]; try rfl)))
            | (refine ev_guardT _ _ (by (simp only [go_sem, d2, hx]; rfl)) (by (simp only [go_sem, d2, hx]; rfl)) ?_ ?_ <;> (intro hb; first | (cases hb; done) | (have ht : true = true := hb; clear ht hb) | (have ht : false = false := hb; clear ht hb) | (simp only [hb]) | skip))
            | (refine ev_guardF _ _ (by (simp only [go_sem, d2, hx]; rfl)) (by (simp only [go_sem, d2, hx]; rfl)) ?_ ?_ <;> (intro hb; first | (cases hb; done) | (have ht : true = true := hb; clear ht hb) | (have ht : false = false := hb; clear ht hb) | (simp only [hb]) | skip))
            | (apply ev_call0; (case hys => (simp only [go_sem, d2, hx]; try rfl)); (case hs => first | exact h66 .. | exact h62 .. | exact hgr ..); (case hok | hσ => (simp only [go_sem, d2, hx]; try rfl)))
            | (apply ev_callC; (case hf | hys => (simp only [go_sem, d2, hx]; try rfl)); (case hs => first | exact h66 .. | exact h62 .. | exact hgr ..); (case hok | hσ => (simp only [go_sem, d2, hx]; try rfl)))
            | (apply regD; (case hd => (simp only [List.map_cons, List.map_nil]; rfl)); (case hok => rfl); (case' h => (intro K hK; (repeat' first
        | (apply evd_nil; refine (hK _ ?_); clear hK K)
        | (apply evd_guardU0; (case hj | hu | hσ => (simp only [go_sem, d2, hx]; try rfl)))
        | (apply evd_guardU; (case hj | hu | hσ => (simp only [go_sem, d2, hx]; try rfl)))
        | (apply evd_skipT0; (case hj | hb | hσ => (simp only [go_sem, d2, hx]; try rfl)))
        | (apply evd_skipF0; (case hj | hb | hσ => (simp only [go_sem, d2, hx]; try rfl)))
        | (apply evd_skipT; (case hj | hb | hσ => (simp only [go_sem, d2, hx]; try rfl)))
        | (apply evd_skipF; (case hj | hb | hσ => (simp only [go_sem, d2, hx]; try rfl)))
        | (apply evd_guardT; (case hj | hb => (simp only [go_sem, d2, hx]; try rfl)); (case' h2 => (intro hb; first | (cases hb; done) | (simp only [hb]) | skip)); (case' h1 => (intro hb; first | (cases hb; done) | (simp only [hb]) | skip)))
        | (apply evd_guardF; (case hj | hb => (simp only [go_sem, d2, hx]; try rfl)); (case' h2 => (intro hb; first | (cases hb; done) | (simp only [hb]) | skip)); (case' h1 => (intro hb; first | (cases hb; done) | (simp only [hb]) | skip)))
        | (apply evd_call0; (case hi | hys => (simp only [go_sem, d2, hx]; try rfl)); (case hs => first | exact h66 .. | exact h62 .. | exact hgr ..); (case hok | hw | hσ => (simp only [go_sem, d2, hx]; try rfl)))
        | (apply evd_step0; (case hr | hi | hσ => (simp only [go_sem, d2, hx]; try rfl)); (case hc => (first | trivial | decide | (simp only [inB, sliceOk, appendOk, rowsOk]; omega) | (simp [inB, sliceOk, appendOk, rowsOk]; omega))))
        | (apply evd_step; (case hr | hi => (simp only [go_sem, d2, hx]; try rfl)); (case hc => (first | trivial | decide | (simp only [inB, sliceOk, appendOk, rowsOk]; omega) | (simp [inB, sliceOk, appendOk, rowsOk]; omega))); (case hw | hσ => (intro g u; simp only [go_sem, d2, hx]; try rfl)); (case' hk => (intro g u; (try clear u); (try clear g))))
        | fail))); (case hB => kernel_rfl))
            | (apply ev_step0; (case hr | hσ => (simp only [go_sem, d2, hx]; try rfl)); (case hc => (first | trivial | decide | (simp only [inB, sliceOk, appendOk, rowsOk]; omega) | (simp [inB, sliceOk, appendOk, rowsOk]; omega))))
            | (apply ev_step; (case hr => (simp only [go_sem, d2, hx]; try rfl)); (case hσ => (intro g u; simp only [go_sem, d2, hx]; try rfl)); (case hc => (first | trivial | decide | (simp only [inB, sliceOk, appendOk, rowsOk]; omega) | (simp [inB, sliceOk, appendOk, rowsOk]; omega))); intro g u; (try clear u); (try clear g))
            | fail
          all_goals (refine resR_one T_ok rfl _ (by (simp only [go_sem, resA]; rfl)) (by first | trivial | (simp only [go_sem, resA])) (by first | trivial | (simp only [go_sem])) ?_; simp only [go_sem])
          exact LeA.b (by rw [hB])
    · have d2 : decide ((j : Int) < (lo.length : Int)) = false := decide_eq_false (by omega)
      rw [List.drop_eq_nil_of_le (by omega), List.all_nil] at hB
      repeat' first
        | refine awp_seq ?_
        | refine awp_block ?_
        | refine awp_skip ?_
        | refine awp_label ?_
        | refine awp_scope (by rfl) ?_
        | (refine reg _ (by (simp only [List.map_cons, List.map_nil]; rfl)) rfl ?_; intro K hK)
        | (refine awp_cond _ (by rfl) ?_ ?_ <;> (intro hb; first | (cases hb; done) | (have ht : true = true := hb; clear ht hb) | (have ht : false = false := hb; clear ht hb) | (simp only [hb]) | skip))
        | (refine awp_exit ?_; simp only [thenA, blockA, scopeA, reduceIte, RetQ, Nat.reduceEqDiff])
        | (refine awp_ret ?_; simp only [thenA, blockA, scopeA, RetQ])
        | (refine ev_nil (hK _ ?_); clear hK K)
        | (apply ev_guardU; (case hj | hu | hσ => (simp only [go_sem, d2]; try rfl)))
        | (refine ev_guardT _ _ (by (simp only [go_sem, d2]; rfl)) (by (simp only [go_sem, d2]; rfl)) ?_ ?_ <;> (intro hb; first | (cases hb; done) | (have ht : true = true := hb; clear ht hb) | (have ht : false = false := hb; clear ht hb) | (simp only [hb]) | skip))
        | (refine ev_guardF _ _ (by (simp only [go_sem, d2]; rfl)) (by (simp only [go_sem, d2]; rfl)) ?_ ?_ <;> (intro hb; first | (cases hb; done) | (have ht : true = true := hb; clear ht hb) | (have ht : false = false := hb; clear ht hb) | (simp only [hb]) | skip))
        | (apply regD; (case hd => (simp only [List.map_cons, List.map_nil]; rfl)); (case hok => rfl); (case' h => (intro K hK; (repeat' first
        | (apply evd_nil; refine (hK _ ?_); clear hK K)
        | (apply evd_guardU0; (case hj | hu | hσ => (simp only [go_sem, d2]; try rfl)))
        | (apply evd_guardU; (case hj | hu | hσ => (simp only [go_sem, d2]; try rfl)))
        | (apply evd_skipT0; (case hj | hb | hσ => (simp only [go_sem, d2]; try rfl)))
        | (apply evd_skipF0; (case hj | hb | hσ => (simp only [go_sem, d2]; try rfl)))
        | (apply evd_skipT; (case hj | hb | hσ => (simp only [go_sem, d2]; try rfl)))
        | (apply evd_skipF; (case hj | hb | hσ => (simp only [go_sem, d2]; try rfl)))
        | (apply evd_guardT; (case hj | hb => (simp only [go_sem, d2]; try rfl)); (case' h2 => (intro hb; first | (cases hb; done) | (simp only [hb]) | skip)); (case' h1 => (intro hb; first | (cases hb; done) | (simp only [hb]) | skip)))
        | (apply evd_guardF; (case hj | hb => (simp only [go_sem, d2]; try rfl)); (case' h2 => (intro hb; first | (cases hb; done) | (simp only [hb]) | skip)); (case' h1 => (intro hb; first | (cases hb; done) | (simp only [hb]) | skip)))
        | (apply evd_step0; (case hr | hi | hσ => (simp only [go_sem, d2]; try rfl)); (case hc => (first | trivial | decide | (simp only [inB, sliceOk, appendOk, rowsOk]; omega) | (simp [inB, sliceOk, appendOk, rowsOk]; omega))))
        | (apply evd_step; (case hr | hi => (simp only [go_sem, d2]; try rfl)); (case hc => (first | trivial | decide | (simp only [inB, sliceOk, appendOk, rowsOk]; omega) | (simp [inB, sliceOk, appendOk, rowsOk]; omega))); (case hw | hσ => (intro g u; simp only [go_sem, d2]; try rfl)); (case' hk => (intro g u; (try clear u); (try clear g))))
        | fail))); (case hB => kernel_rfl))
        | (apply ev_step0; (case hr | hσ => (simp only [go_sem, d2]; try rfl)); (case hc => (first | trivial | decide | (simp only [inB, sliceOk, appendOk, rowsOk]; omega) | (simp [inB, sliceOk, appendOk, rowsOk]; omega))))
        | (apply ev_step; (case hr => (simp only [go_sem, d2]; try rfl)); (case hσ => (intro g u; simp only [go_sem, d2]; try rfl)); (case hc => (first | trivial | decide | (simp only [inB, sliceOk, appendOk, rowsOk]; omega) | (simp [inB, sliceOk, appendOk, rowsOk]; omega))); intro g u; (try clear u); (try clear g))
        | fail
      all_goals (refine resR_one T_ok rfl _ (by (simp only [go_sem, resA]; rfl)) (by first | trivial | (simp only [go_sem, resA])) (by first | trivial | (simp only [go_sem])) ?_; simp only [go_sem])
      exact LeA.b hB.symm
end
section
set_option linter.unusedVariables false
set_option linter.unusedSimpArgs false
open Go.RowKit
attribute [local irreducible] AWp evOps evD
def keepsM (s : Sch) (old now : Stt) : Bool := holdsM s old && ((List.range s.tables.length).all (chM s old now) && !s.totals.any (over now))
set_option maxHeartbeats 16000000 in
set_option maxRecDepth 10000 in
theorem f24_spec (s : Sch) (old now : Stt) (h : SchOk s) (hso : StS s old) (hsn : StS s now) : Spec Try.prog 24 [.agg (schA s), .agg (stA old), .agg (stA now)] (litB (keepsM s old now)) := by
  have h17 := f17_spec s old h hso
  have h52 := fun t ht => f52_spec s old now t h hso hsn ht
  have htl := h.tlen
  have hlo := hso.len
  have hln := hsn.len
  rw [keepsM]
  cases hh : holdsM s old with
  | false =>
    rw [hh] at h17
    refine spec_of_awp (fn := Try.f24) Try.func24 (by kernel_rfl) rfl ?_
    intro w0 C0
    simp only [Try.ntmps24, litI, litB, litS, List.length_cons, List.length_nil, Nat.reduceAdd, Nat.reduceSub, List.replicate_succ, List.replicate_zero, List.cons_append, List.nil_append]
    repeat' first
      | refine awp_seq ?_
      | refine awp_block ?_
      | refine awp_skip ?_
      | (refine reg _ (by (simp only [List.map_cons, List.map_nil]; rfl)) rfl ?_; intro K hK)
      | (refine awp_cond _ (by rfl) ?_ ?_ <;> (intro hb; first | (cases hb; done) | (have ht : true = true := hb; clear ht hb) | (have ht : false = false := hb; clear ht hb) | (simp only [hb]) | skip))
      | (refine awp_exit ?_; simp only [thenA, blockA, scopeA, reduceIte, RetQ, Nat.reduceEqDiff])
      | (refine awp_ret ?_; simp only [thenA, blockA, scopeA, RetQ])
      | (refine ev_nil (hK _ ?_); clear hK K)
      | (apply ev_call0; (case hys => (simp only [go_sem]; try rfl)); (case hs => first | exact h17 ..); (case hok | hσ => (simp only [go_sem]; try rfl)))
      | (apply ev_step0; (case hr | hσ => (simp only [go_sem]; try rfl)); (case hc => (first | trivial | decide | (simp only [inB, sliceOk, appendOk, rowsOk]; omega) | (simp [inB, sliceOk, appendOk, rowsOk]; omega))))
      | (apply ev_step; (case hr => (simp only [go_sem]; try rfl)); (case hσ => (intro g u; simp only [go_sem]; try rfl)); (case hc => (first | trivial | decide | (simp only [inB, sliceOk, appendOk, rowsOk]; omega) | (simp [inB, sliceOk, appendOk, rowsOk]; omega))); intro g u; (try clear u); (try clear g))
      | fail
    all_goals (refine resR_one T_ok rfl _ (by (simp only [go_sem, resA]; rfl)) (by first | trivial | (simp only [go_sem, resA])) (by first | trivial | (simp only [go_sem])) ?_; simp only [go_sem])
    exact LeA.refl _
  | true =>
  rw [hh] at h17
  rw [Bool.true_and]
  have h53 := f53_spec (IsFn.clo 54 [.el [sttD now] 0] (fun _ => rfl) (fun _ => by simp [clOkL, clOk]) rfl) s.totals (over now) (fun t ht => f54_spec s now t h hsn.toStOk ht)
  refine spec_of_awp (fn := Try.f24) Try.func24 (by kernel_rfl) rfl ?_
  intro w0 C0
  simp only [Try.ntmps24, litI, litB, litS, List.length_cons, List.length_nil, Nat.reduceAdd, Nat.reduceSub, List.replicate_succ, List.replicate_zero, List.cons_append, List.nil_append]
  repeat' first
    | refine awp_seq ?_
    | refine awp_block ?_
    | refine awp_skip ?_
    | (refine reg _ (by (simp only [List.map_cons, List.map_nil]; rfl)) rfl ?_; intro K hK)
    | (refine awp_cond _ (by rfl) ?_ ?_ <;> (intro hb; first | (cases hb; done) | (have ht : true = true := hb; clear ht hb) | (have ht : false = false := hb; clear ht hb) | (simp only [hb]) | skip))
    | (refine awp_exit ?_; simp only [thenA, blockA, scopeA, reduceIte, RetQ, Nat.reduceEqDiff])
    | (refine awp_ret ?_; simp only [thenA, blockA, scopeA, RetQ])
    | (refine ev_nil (hK _ ?_); clear hK K)
    | (apply ev_call0; (case hys => (simp only [go_sem]; try rfl)); (case hs => first | exact h17 ..); (case hok | hσ => (simp only [go_sem]; try rfl)))
    | (apply ev_step0; (case hr | hσ => (simp only [go_sem]; try rfl)); (case hc => (first | trivial | decide | (simp only [inB, sliceOk, appendOk, rowsOk]; omega) | (simp [inB, sliceOk, appendOk, rowsOk]; omega))))
    | (apply ev_step; (case hr => (simp only [go_sem]; try rfl)); (case hσ => (intro g u; simp only [go_sem]; try rfl)); (case hc => (first | trivial | decide | (simp only [inB, sliceOk, appendOk, rowsOk]; omega) | (simp [inB, sliceOk, appendOk, rowsOk]; omega))); intro g u; (try clear u); (try clear g))
    | fail
  rename_i g3 g4
  revert g; intro g5
  refine awp_loopI (fun i : Nat => i ≤ s.tables.length ∧ ∀ j, j < i → chM s old now j = true) (fun i => s.tables.length - i) (fun i => ⟨[.any, .any, .any, .ptr 3 g3 0, .ptr 4 g4 0, .ptr 5 g5 0, .any, .any, .any, .any, .any, .any, .any, .any, .any, .any, .d (tbsD s.tables), litI .i64 s.tables.length, litI .i64 i, .any, .any, .any, .any, .any, .any, .any, .any, .any, .any, .any, .any, .any, .any, .any, .any, .any, .any, .any, .any, .any, .any, .any, .any, .any, .any, .any], [.no, .no, .no, .box g3 (schA s), .box g4 (stA old), .box g5 (stA now), .no, .no, .no, .no, .no, .no, .no, .no, .no, .no, .no, .no, .no, .no, .no, .no, .no, .no, .no, .no, .no, .no, .no, .no, .no, .no, .no, .no, .no, .no, .no, .no, .no, .no, .no, .no, .no, .no, .no, .no]⟩) 0 ⟨by omega, fun j hj => by omega⟩ ?_ ?_
  · refine Wk.mk ?_ ?_
    all_goals (repeat' first | exact trivial | exact LeA.refl _ | exact LeA.any _ | exact LeO.refl _ | exact LeO.no _ | exact LeA.nil _ | exact LeA.nilOwn _ | exact LeO.nil _ _ _ | refine LeO.box ?_ | (refine LeA.i ?_; (first | rfl | (push_cast; rfl) | (rw [wrap_id (by omega)]; push_cast; omega) | (simp [wrap_id]; omega))) | refine ⟨?_, ?_⟩)
  rintro i ⟨hi, hA⟩
  simp only [litI, litB] at hi hA ⊢
  by_cases h1 : i < s.tables.length
  · have d1 : decide ((i : Int) < (s.tables.length : Int)) = true := decide_eq_true (by omega)
    have hx := tbs_at s.tables h1
    have hy := stt_at old (i := i) (by omega)
    have hz := stt_at now (i := i) (by omega)
    have h52i := h52 i h1
    cases hc : chM s old now i with
    | true =>
      rw [hc] at h52i
      generalize s.tables.getD i tbN = t at *
      repeat' first
        | refine awp_seq ?_
        | refine awp_block ?_
        | refine awp_skip ?_
        | (refine reg _ (by (simp only [List.map_cons, List.map_nil]; rfl)) rfl ?_; intro K hK)
        | (refine awp_cond _ (by rfl) ?_ ?_ <;> (intro hb; first | (cases hb; done) | (have ht : true = true := hb; clear ht hb) | (have ht : false = false := hb; clear ht hb) | (simp only [hb]) | skip))
        | (refine awp_exit ?_; simp only [thenA, blockA, scopeA, reduceIte, RetQ, Nat.reduceEqDiff])
        | (refine awp_ret ?_; simp only [thenA, blockA, scopeA, RetQ])
        | (refine ev_nil (hK _ ?_); clear hK K)
        | (apply ev_call0; (case hys => (simp only [go_sem, d1, hx, hy, hz]; try rfl)); (case hs => first | exact h52i ..); (case hok | hσ => (simp only [go_sem, d1, hx, hy, hz]; try rfl)))
        | (apply regD; (case hd => (simp only [List.map_cons, List.map_nil]; rfl)); (case hok => rfl); (case' h => (intro K hK; (repeat' first
        | (apply evd_nil; refine (hK _ ?_); clear hK K)
        | (apply evd_call0; (case hi | hys => (simp only [go_sem, d1, hx, hy, hz]; try rfl)); (case hs => first | exact h52i ..); (case hok | hw | hσ => (simp only [go_sem, d1, hx, hy, hz]; try rfl)))
        | (apply evd_step0; (case hr | hi | hσ => (simp only [go_sem, d1, hx, hy, hz]; try rfl)); (case hc => (first | trivial | decide | (simp only [inB, sliceOk, appendOk, rowsOk]; omega) | (simp [inB, sliceOk, appendOk, rowsOk]; omega))))
        | (apply evd_step; (case hr | hi => (simp only [go_sem, d1, hx, hy, hz]; try rfl)); (case hc => (first | trivial | decide | (simp only [inB, sliceOk, appendOk, rowsOk]; omega) | (simp [inB, sliceOk, appendOk, rowsOk]; omega))); (case hw | hσ => (intro g u; simp only [go_sem, d1, hx, hy, hz]; try rfl)); (case' hk => (intro g u; (try clear u); (try clear g))))
        | fail))); (case hB => kernel_rfl))
        | (apply ev_step0; (case hr | hσ => (simp only [go_sem, d1, hx, hy, hz]; try rfl)); (case hc => (first | trivial | decide | (simp only [inB, sliceOk, appendOk, rowsOk]; omega) | (simp [inB, sliceOk, appendOk, rowsOk]; omega))))
        | (apply ev_step; (case hr => (simp only [go_sem, d1, hx, hy, hz]; try rfl)); (case hσ => (intro g u; simp only [go_sem, d1, hx, hy, hz]; try rfl)); (case hc => (first | trivial | decide | (simp only [inB, sliceOk, appendOk, rowsOk]; omega) | (simp [inB, sliceOk, appendOk, rowsOk]; omega))); intro g u; (try clear u); (try clear g))
        | fail
      refine Exists.intro (i + 1) ⟨⟨by omega, fun j hj => ?_⟩, by omega, ?_⟩
      · rcases Nat.lt_or_ge j i with hji | hji
        · exact hA j hji
        · have : j = i := by omega
          subst this; exact hc
      · refine Wk.mk ?_ ?_
        all_goals (repeat' first | exact trivial | exact LeA.refl _ | exact LeA.any _ | exact LeO.refl _ | exact LeO.no _ | exact LeA.nil _ | exact LeA.nilOwn _ | exact LeO.nil _ _ _ | refine LeO.box ?_ | (refine LeA.i ?_; (first | rfl | (push_cast; rfl) | (rw [wrap_id (by omega)]; push_cast; omega) | (simp [wrap_id]; omega))) | refine ⟨?_, ?_⟩)
    | false =>
      have hf : (List.range s.tables.length).all (chM s old now) = false := by
        rw [List.all_eq_false]
        exact ⟨i, List.mem_range.2 h1, by rw [hc]; simp⟩
      rw [hf, Bool.false_and]
      rw [hc] at h52i
      generalize s.tables.getD i tbN = t at *
      repeat' first
        | refine awp_seq ?_
        | refine awp_block ?_
        | refine awp_skip ?_
        | (refine reg _ (by (simp only [List.map_cons, List.map_nil]; rfl)) rfl ?_; intro K hK)
        | (refine awp_cond _ (by rfl) ?_ ?_ <;> (intro hb; first | (cases hb; done) | (have ht : true = true := hb; clear ht hb) | (have ht : false = false := hb; clear ht hb) | (simp only [hb]) | skip))
        | (refine awp_exit ?_; simp only [thenA, blockA, scopeA, reduceIte, RetQ, Nat.reduceEqDiff])
        | (refine awp_ret ?_; simp only [thenA, blockA, scopeA, RetQ])
        | (refine ev_nil (hK _ ?_); clear hK K)
        | (apply ev_call0; (case hys => (simp only [go_sem, d1, hx, hy, hz]; try rfl)); (case hs => first | exact h52i ..); (case hok | hσ => (simp only [go_sem, d1, hx, hy, hz]; try rfl)))
        | (apply regD; (case hd => (simp only [List.map_cons, List.map_nil]; rfl)); (case hok => rfl); (case' h => (intro K hK; (repeat' first
        | (apply evd_nil; refine (hK _ ?_); clear hK K)
        | (apply evd_call0; (case hi | hys => (simp only [go_sem, d1, hx, hy, hz]; try rfl)); (case hs => first | exact h52i ..); (case hok | hw | hσ => (simp only [go_sem, d1, hx, hy, hz]; try rfl)))
        | (apply evd_step0; (case hr | hi | hσ => (simp only [go_sem, d1, hx, hy, hz]; try rfl)); (case hc => (first | trivial | decide | (simp only [inB, sliceOk, appendOk, rowsOk]; omega) | (simp [inB, sliceOk, appendOk, rowsOk]; omega))))
        | (apply evd_step; (case hr | hi => (simp only [go_sem, d1, hx, hy, hz]; try rfl)); (case hc => (first | trivial | decide | (simp only [inB, sliceOk, appendOk, rowsOk]; omega) | (simp [inB, sliceOk, appendOk, rowsOk]; omega))); (case hw | hσ => (intro g u; simp only [go_sem, d1, hx, hy, hz]; try rfl)); (case' hk => (intro g u; (try clear u); (try clear g))))
        | fail))); (case hB => kernel_rfl))
        | (apply ev_step0; (case hr | hσ => (simp only [go_sem, d1, hx, hy, hz]; try rfl)); (case hc => (first | trivial | decide | (simp only [inB, sliceOk, appendOk, rowsOk]; omega) | (simp [inB, sliceOk, appendOk, rowsOk]; omega))))
        | (apply ev_step; (case hr => (simp only [go_sem, d1, hx, hy, hz]; try rfl)); (case hσ => (intro g u; simp only [go_sem, d1, hx, hy, hz]; try rfl)); (case hc => (first | trivial | decide | (simp only [inB, sliceOk, appendOk, rowsOk]; omega) | (simp [inB, sliceOk, appendOk, rowsOk]; omega))); intro g u; (try clear u); (try clear g))
        | fail
      all_goals (refine resR_one T_ok rfl _ (by (simp only [go_sem, resA]; rfl)) (by first | trivial | (simp only [go_sem, resA])) (by first | trivial | (simp only [go_sem])) ?_; simp only [go_sem])
      exact LeA.refl _
  · have d1 : decide ((i : Int) < (s.tables.length : Int)) = false := decide_eq_false (by omega)
    have hf : (List.range s.tables.length).all (chM s old now) = true := List.all_eq_true.2 fun j hj => hA j (by have := List.mem_range.1 hj; omega)
    rw [hf, Bool.true_and]
    repeat' first
      | refine awp_seq ?_
      | refine awp_block ?_
      | refine awp_skip ?_
      | (refine reg _ (by (simp only [List.map_cons, List.map_nil]; rfl)) rfl ?_; intro K hK)
      | (refine awp_cond _ (by rfl) ?_ ?_ <;> (intro hb; first | (cases hb; done) | (have ht : true = true := hb; clear ht hb) | (have ht : false = false := hb; clear ht hb) | (simp only [hb]) | skip))
      | (refine awp_exit ?_; simp only [thenA, blockA, scopeA, reduceIte, RetQ, Nat.reduceEqDiff])
      | (refine awp_ret ?_; simp only [thenA, blockA, scopeA, RetQ])
      | (refine ev_nil (hK _ ?_); clear hK K)
      | (apply ev_call0; (case hys => (simp only [go_sem, d1]; try rfl)); (case hs => first | exact h53 ..); (case hok | hσ => (simp only [go_sem, d1]; try rfl)))
      | (apply regD; (case hd => (simp only [List.map_cons, List.map_nil]; rfl)); (case hok => rfl); (case' h => (intro K hK; (repeat' first
        | (apply evd_nil; refine (hK _ ?_); clear hK K)
        | (apply evd_call0; (case hi | hys => (simp only [go_sem, d1]; try rfl)); (case hs => first | exact h53 ..); (case hok | hw | hσ => (simp only [go_sem, d1]; try rfl)))
        | (apply evd_step0; (case hr | hi | hσ => (simp only [go_sem, d1]; try rfl)); (case hc => (first | trivial | decide | (simp only [inB, sliceOk, appendOk, rowsOk]; omega) | (simp [inB, sliceOk, appendOk, rowsOk]; omega))))
        | (apply evd_step; (case hr | hi => (simp only [go_sem, d1]; try rfl)); (case hc => (first | trivial | decide | (simp only [inB, sliceOk, appendOk, rowsOk]; omega) | (simp [inB, sliceOk, appendOk, rowsOk]; omega))); (case hw | hσ => (intro g u; simp only [go_sem, d1]; try rfl)); (case' hk => (intro g u; (try clear u); (try clear g))))
        | fail))); (case hB => kernel_rfl))
      | (apply ev_step0; (case hr | hσ => (simp only [go_sem, d1]; try rfl)); (case hc => (first | trivial | decide | (simp only [inB, sliceOk, appendOk, rowsOk]; omega) | (simp [inB, sliceOk, appendOk, rowsOk]; omega))))
      | (apply ev_step; (case hr => (simp only [go_sem, d1]; try rfl)); (case hσ => (intro g u; simp only [go_sem, d1]; try rfl)); (case hc => (first | trivial | decide | (simp only [inB, sliceOk, appendOk, rowsOk]; omega) | (simp [inB, sliceOk, appendOk, rowsOk]; omega))); intro g u; (try clear u); (try clear g))
      | fail
    all_goals (refine resR_one T_ok rfl _ (by (simp only [go_sem, resA]; rfl)) (by first | trivial | (simp only [go_sem, resA])) (by first | trivial | (simp only [go_sem])) ?_; simp only [go_sem])
    exact LeA.refl _
end
end Go.Proofs.Ytlkfbhhopkoopaa.A
