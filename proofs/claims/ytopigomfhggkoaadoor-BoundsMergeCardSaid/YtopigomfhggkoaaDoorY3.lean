/- Ranges of expressions: operator 4. (Written by mk11.py.) Made expressions; conjuncts; Truths and Never: the walks. Examples: what they compute. Examples: the calls. Examples: the walk. Values that bytes describe: the walk. The order of values. Bounds of lists of values: the plain law. Drawn values are good; merged bounds: the plain law. BoundsMerge: the law. The package's variables, of what the rows tell of them. (Written by mk28.py.) The rows' condition gives the walks' one; a world that meets it. Data of the arguments' types. BoundsMerge, for whatever reads as its arguments. -/
import Derived.Test.YtopigomfhggkoaaDoorY2
import Derived.Test.YtopigomfhggkoaaDoorT
import Derived.Test.YtopigomfhggkoaaDoorM1
import Derived.Test.YtopigomfhggkoaaDoorRows
import Derived.LaidSub
import Derived.LaidHandle
import Derived.LaidLaws
import Derived.Test.YtopigomfhggkoaaDoorR2
namespace Go.Proofs.YtopigomfhggkoaaDoor.A
attribute [local go_sem] Int.reduceBEq Nat.reduceAdd Nat.reduceSub Nat.reduceMul Nat.reduceLT Nat.reduceLeDiff Nat.reduceEqDiff Nat.reduceBEq reduceIte reduceCtorEq e_step_none e_slotU e_slotB e_move e_assign e_pick e_unOp e_binOp e_alloc e_box e_build e_buildSlice e_load e_store e_fieldAddr e_field e_indexAddr e_index e_slice e_sliceM e_makeSlice e_makeFunc e_convert e_extract e_nilCheck e_lookup e_look e_lookS1 e_lookS0 e_find0 e_find1 e_findT e_findF e_sameI e_sameTT e_sameTF e_sameFT e_sameFF e_commaT e_commaF e_valAgg e_valFn e_valI e_len e_append e_max e_min e_call e_callV e_fn e_cap_ptr e_cap_lit e_cap_sl e_cap_fn e_fnOf_lit e_fnOf_clo e_fnOf_fn e_flat_mp e_cap_mp e_ev_global e_flat_fn e_clo e_ev_tmp e_ev_int e_ev_bool e_ev_string e_ev_slice e_ev_nilFunc e_ev_nilIface e_ev_pointer e_ev_agg e_ev_func e_pickT e_pickF e_not e_neg e_add e_sub e_mul e_quo e_rem e_eql e_neq e_lss e_leq e_gtr e_geq e_shl e_shr e_and e_or e_xor e_andNot e_beq e_bne e_sadd e_seql e_sneq e_b2_d e_b2_nil e_b2_nnil e_b2_agg e_lits_nil e_lits_cons e_litC e_eqR e_eqArr e_eqOnes_nil e_eqOnes_cons e_eqO_e e_eqO_n e_eqV4 e_eqV3 e_eqV2 e_eqV1 e_eqFs_nil e_eqFs_cons e_and2 e_eq1 e_eqL_i e_eqL_s e_eqL_b e_allocR e_boxR e_box_agg e_box_d e_box_own e_box_clo e_one_nil e_one_d e_one_own e_one_clo e_one_ptr e_cells_agg e_cells_d e_cells_own e_cells_clo e_cells_ptr e_ob_own e_ob_ptr e_ob_elo e_ob_d e_ob_el e_ob_agg e_load_box e_load_fzb e_load_el e_load_elo e_storeX_ptr e_storeX_d e_storeX_own e_storeX_agg e_storeX_el e_storeC' e_notIn_nil e_notIn_cons e_store_box e_storeB e_store_elo e_store_elo_agg e_storeE e_fa_ptr e_fa_el e_fa_elo e_faR e_fd e_fdR e_ia_d e_ia_row e_ia_fz e_ia_ptr e_ia_el e_ix_s e_ix_a e_len_s e_len_nil e_len_d e_len_row e_len_fz e_conv_i e_conv_s e_conv_own e_conv_sl e_extr e_maxR e_minR e_nil_ptr e_nil_el e_nil_elo e_rows_nil e_rows_d e_rows_row e_rows_fz e_rok_nil e_rok_d e_rok_row e_rok_fz e_app_row e_appR e_app_nil e_appN e_make e_bnd_none e_bnd_some e_optmap_none e_optmap_some e_slR e_slRe e_sl_s e_sl_d e_slM_d e_sl_nil e_sl_row e_sl_fz e_fill_nil e_fill_cons e_fill1 e_placeS e_plS e_placeE e_buildO e_build1 e_build2 e_build3 e_bindD e_bs e_bsR e_allD_nil e_allD_cons e_allD_el e_allD_clo e_allD2 e_allD1 e_chunk0 e_chunkS e_clP_nil e_clP_cons e_cl_d e_cl_any e_cl_el e_cl_agg e_cl_tup e_cl_clo e_cl_own e_clOwn_row e_clOwn_fz e_cl_ptr e_clPtr_box e_clBox e_clPtr_fzb e_clL_nil e_clL_cons e_ok_d e_ok_any e_ok_el e_ok_agg e_ok_tup e_ok_clo e_ok_own e_okOwn_row e_okOwn_fz e_ok_ptr e_okPtr_box e_okPtr_fzb e_okL_nil e_okL_cons e_ids_d e_ids_any e_ids_el e_ids_own e_ids_ptr e_ids_agg e_ids_tup e_ids_clo e_idsL_nil e_idsL_cons e_frz_nil e_frz_cons e_frz_row e_frz_fz e_frz_fzb e_frz_box e_frzB e_flat_lit e_flat_sl e_flat_agg e_flat_tup e_flat_any e_flat_clo e_flatL_nil e_flatL_cons e_new_lit e_new_agg e_new_tup e_new_own e_newOwn_row e_newL_nil e_newL_cons e_objD e_setMany e_takeA e_zerosA e_gdL e_idsG e_idsOp e_callV' e_callN' e_callF' e_o_move e_o_assign e_o_pick
attribute [local go_sem] e_o_unOp e_o_binOp e_o_alloc e_o_box e_o_build e_o_buildSlice e_o_load e_o_store e_o_fieldAddr e_o_field e_o_indexAddr e_o_index e_o_slice0 e_o_slice1 e_o_slice2 e_o_slice3 e_o_sliceM e_o_makeSlice e_o_makeFunc e_o_convert e_o_extract e_o_nilCheck e_o_lookup e_o_bcall e_o_vcall litI litB litS List.map_cons List.map_nil List.getD_cons_zero List.getD_cons_succ List.getD_nil List.getElem?_cons_zero List.getElem?_cons_succ List.getElem?_nil Option.getD_some Option.getD_none Option.map_some Option.map_none List.length_cons List.length_nil List.all_cons List.all_nil Bool.and_true Bool.true_and and_true true_and and_self List.take_zero List.take_succ_cons List.drop_zero List.drop_succ_cons List.nil_append List.cons_append List.append_nil List.replicate_succ List.replicate_zero List.flatten_cons List.flatten_nil Nat.zero_add Nat.add_zero Nat.mul_one Nat.zero_mul Nat.one_mul Nat.mul_zero List.set_cons_zero List.set_cons_succ List.foldl_cons List.foldl_nil appendOk rowsOk inB sliceOk cutRows mtake mdrop List.length_append List.length_take List.length_drop if_true if_false or_false or_true true_or Bool.not_true Bool.not_false Bool.false_eq_true List.length_map Int.toNat_natCast Int.toNat_zero Int.toNat_one eq_self St.after St.put applyEff R0 globA globF globs T1 T2 T3 T4 T5 T6 T7 T9 T10 T15 T22 T23 T24 T26 T28 T29 T31 T33 T35 T37 T39 T40 T42 T44 T49 T51 T58 T67 T69 T71 T76 T80 T84 T87 T90 T95 T100 T103 T108 T109 T111 T112 T113 T124 T128 T129 ti1 ti2 ti3 ti4 ti5 ti6 ti7 ti9 ti10 ti15 ti22 ti23 ti24 ti26 ti28 ti29 ti31 ti33 ti35 ti37 ti39 ti40 ti42 ti44 ti49 ti51 ti58 ti67 ti69 ti71 ti76 ti80 ti84 ti87 ti90 ti95 ti100 ti103 ti108 ti109 ti111 ti112 ti113 ti124 ti128 ti129
section
set_option linter.unusedVariables false
set_option linter.unusedSimpArgs false
open Go.RowKit
attribute [local irreducible] Spec SpecF SpecN
attribute [local irreducible] AWp evOps evD
set_option maxHeartbeats 4000000 in
theorem f43_op4 (B : Dat) (e1 e2 : Ex) (s t r : Sp) (h1 : Spec Tryd.prog 43 [.d B, .agg (exA e1)] (.agg (sp s))) (h2 : Spec Tryd.prog 43 [.d B, .agg (exA e2)] (.agg (sp t))) (hf : Spec Tryd.prog 111 [.agg (sp s), .agg (sp t)] (.agg (sp r))) : Spec Tryd.prog 43 [.d B, .agg (exA (.bi 4 e1 e2))] (.agg (sp (strictM s t r))) := by
  obtain ⟨sn, sh, slo, shi⟩ := s
  obtain ⟨tn, th, tlo, thi⟩ := t
  simp only [exA, opE_bi, cE_bi, vE_bi, argsD_bi] at h1 h2 ⊢
  refine spec_of_awp (fn := Tryd.f43) Tryd.func43 (by kernel_rfl) rfl ?_
  intro w0 C0
  simp only [Tryd.ntmps43, litI, litB, litS, List.length_cons, List.length_nil, Nat.reduceAdd, Nat.reduceSub, List.replicate_succ, List.replicate_zero, List.cons_append, List.nil_append]
  repeat' first
    | refine awp_seq ?_
    | refine awp_block ?_
    | refine awp_skip ?_
    | (refine reg _ (by (simp only [List.map_cons, List.map_nil]; rfl)) rfl ?_; intro K hK)
    | (refine awp_cond _ (by rfl) ?_ ?_ <;> (intro hb; first | (cases hb; done) | (have ht : true = true := hb; clear ht hb) | (have ht : false = false := hb; clear ht hb) | (simp only [hb]) | skip))
    | (refine awp_exit ?_; simp only [thenA, blockA, scopeA, reduceIte, RetQ, Nat.reduceEqDiff])
    | (refine awp_ret ?_; simp only [thenA, blockA, scopeA, RetQ])
    | (refine ev_nil (hK _ ?_); clear hK K)
    | (apply ev_guardU; (case hj | hu | hσ => (simp only [go_sem, Int.reduceBEq]; try rfl)))
    | (refine ev_guardT _ _ (by (simp only [go_sem, Int.reduceBEq]; rfl)) (by (simp only [go_sem, Int.reduceBEq]; rfl)) ?_ ?_ <;> (intro hb; first | (cases hb; done) | (have ht : true = true := hb; clear ht hb) | (have ht : false = false := hb; clear ht hb) | (simp only [hb]) | skip))
    | (refine ev_guardF _ _ (by (simp only [go_sem, Int.reduceBEq]; rfl)) (by (simp only [go_sem, Int.reduceBEq]; rfl)) ?_ ?_ <;> (intro hb; first | (cases hb; done) | (have ht : true = true := hb; clear ht hb) | (have ht : false = false := hb; clear ht hb) | (simp only [hb]) | skip))
    | (apply ev_step0; (case hr | hσ => (simp only [go_sem, Int.reduceBEq]; try rfl)); (case hc => (first | trivial | exact look_ok (by kernel_rfl) (by kernel_rfl) | decide | (simp only [inB, sliceOk, appendOk, rowsOk]; omega) | (simp [inB, sliceOk, appendOk, rowsOk]; omega))))
    | (apply ev_step; (case hr => (simp only [go_sem, Int.reduceBEq]; try rfl)); (case hσ => (intro g u; simp only [go_sem, Int.reduceBEq]; try rfl)); (case hc => (first | trivial | exact look_ok (by kernel_rfl) (by kernel_rfl) | decide | (simp only [inB, sliceOk, appendOk, rowsOk]; omega) | (simp [inB, sliceOk, appendOk, rowsOk]; omega))); intro g u; (try clear u); (try clear g))
    | fail
  rename_i g3 g4
  revert g; intro g6
  refine awp_loopI (fun i : Nat => i ≤ 2) (fun i => 2 - i) (fun i => ⟨[.d B, .any, .any, .ptr 3 g3 0, .ptr 4 g4 0, .any, .ptr 6 g6 0, .any, .any, .any, .any, .any, .any, .any, .any, .any, .any, .any, .any, .any, .any, .any, .any, .any, .any, .any, .any, .any, .any, .any, .any, .any, .any, .any, .any, .any, .any, .any, .any, .d (.sl 6 [exD e1, exD e2]), litI .i64 2, litI .i64 i, .any, .any, .any, .any, .any, .any, .any, .any, .any, .any, .any, .any, .any, .any, .any, .any, .any, .any, .any, .any, .any, .any, .any, .any, .any, .any, .any, .any, .any, .any, .any, .any, .any, .any, .any, .any, .any, .any, .any, .any, .any, .any, .any, .any, .any, .any, .any, .any, .any, .any, .any, .any, .any, .any, .any], [.no, .no, .no, .box g3 (exA (.bi 4 e1 e2)), .box g4 zsp, .no, .box g6 (arrS ⟨sn, sh, slo, shi⟩ ⟨tn, th, tlo, thi⟩ i), .no, .no, .no, .no, .no, .no, .no, .no, .no, .no, .no, .no, .no, .no, .no, .no, .no, .no, .no, .no, .no, .no, .no, .no, .no, .no, .no, .no, .no, .no, .no, .no, .no, .no, .no, .no, .no, .no, .no, .no, .no, .no, .no, .no, .no, .no, .no, .no, .no, .no, .no, .no, .no, .no, .no, .no, .no, .no, .no, .no, .no, .no, .no, .no, .no, .no, .no, .no, .no, .no, .no, .no, .no, .no, .no, .no, .no, .no, .no, .no, .no, .no, .no, .no, .no, .no, .no, .no, .no, .no]⟩) 0 (by omega) ?_ ?_
  · simp only [arrS, exA, opE_bi, cE_bi, vE_bi, argsD_bi]
    refine Wk.mk ?_ ?_
    all_goals (repeat' first | exact trivial | exact LeA.refl _ | exact LeA.any _ | exact LeO.refl _ | exact LeO.no _ | exact LeA.nil _ | exact LeA.nilOwn _ | exact LeO.nil _ _ _ | refine LeO.box ?_ | (refine LeA.i ?_; (first | rfl | (push_cast; rfl) | (rw [wrap_id (by omega)]; push_cast; omega) | (simp [wrap_id]; omega))) | refine ⟨?_, ?_⟩)
  intro i hi
  simp only [litI, litB, litS] at hi h1 h2 hf ⊢
  obtain rfl | rfl | rfl : i = 0 ∨ i = 1 ∨ i = 2 := by omega
  · simp only [arrS, exA, opE_bi, cE_bi, vE_bi, argsD_bi, litI, litB, litS]
    have d1 : decide (((0 : Nat) : Int) < 2) = true := by decide
    repeat' first
      | refine awp_seq ?_
      | refine awp_block ?_
      | refine awp_skip ?_
      | (refine reg _ (by (simp only [List.map_cons, List.map_nil]; rfl)) rfl ?_; intro K hK)
      | (refine awp_cond _ (by rfl) ?_ ?_ <;> (intro hb; first | (cases hb; done) | (have ht : true = true := hb; clear ht hb) | (have ht : false = false := hb; clear ht hb) | (simp only [hb]) | skip))
      | (refine awp_exit ?_; simp only [thenA, blockA, scopeA, reduceIte, RetQ, Nat.reduceEqDiff])
      | (refine awp_ret ?_; simp only [thenA, blockA, scopeA, RetQ])
      | (refine ev_nil (hK _ ?_); clear hK K)
      | (apply ev_guardU; (case hj | hu | hσ => (simp only [go_sem, d1, Int.reduceToNat]; try rfl)))
      | (refine ev_guardT _ _ (by (simp only [go_sem, d1, Int.reduceToNat]; rfl)) (by (simp only [go_sem, d1, Int.reduceToNat]; rfl)) ?_ ?_ <;> (intro hb; first | (cases hb; done) | (have ht : true = true := hb; clear ht hb) | (have ht : false = false := hb; clear ht hb) | (simp only [hb]) | skip))
      | (refine ev_guardF _ _ (by (simp only [go_sem, d1, Int.reduceToNat]; rfl)) (by (simp only [go_sem, d1, Int.reduceToNat]; rfl)) ?_ ?_ <;> (intro hb; first | (cases hb; done) | (have ht : true = true := hb; clear ht hb) | (have ht : false = false := hb; clear ht hb) | (simp only [hb]) | skip))
      | (apply ev_call0; (case hys => (simp only [go_sem, d1, Int.reduceToNat]; try rfl)); (case hs => first | exact h1 ..); (case hok | hσ => (simp only [go_sem, d1, Int.reduceToNat]; try rfl)))
      | (apply ev_callC; (case hf | hys => (simp only [go_sem, d1, Int.reduceToNat]; try rfl)); (case hs => first | exact h1 ..); (case hok | hσ => (simp only [go_sem, d1, Int.reduceToNat]; try rfl)))
      | (apply ev_step0; (case hr | hσ => (simp only [go_sem, d1, Int.reduceToNat]; try rfl)); (case hc => (first | trivial | exact look_ok (by kernel_rfl) (by kernel_rfl) | decide | (simp only [inB, sliceOk, appendOk, rowsOk]; omega) | (simp [inB, sliceOk, appendOk, rowsOk]; omega))))
      | (apply ev_step; (case hr => (simp only [go_sem, d1, Int.reduceToNat]; try rfl)); (case hσ => (intro g u; simp only [go_sem, d1, Int.reduceToNat]; try rfl)); (case hc => (first | trivial | exact look_ok (by kernel_rfl) (by kernel_rfl) | decide | (simp only [inB, sliceOk, appendOk, rowsOk]; omega) | (simp [inB, sliceOk, appendOk, rowsOk]; omega))); intro g u; (try clear u); (try clear g))
      | fail
    refine Exists.intro 1 ⟨by omega, by omega, ?_⟩
    simp only [arrS, exA, opE_bi, cE_bi, vE_bi, argsD_bi]
    refine Wk.mk ?_ ?_
    all_goals (repeat' first | exact trivial | exact LeA.refl _ | exact LeA.any _ | exact LeO.refl _ | exact LeO.no _ | exact LeA.nil _ | exact LeA.nilOwn _ | exact LeO.nil _ _ _ | refine LeO.box ?_ | (refine LeA.i ?_; (first | rfl | (push_cast; rfl) | (rw [wrap_id (by omega)]; push_cast; omega) | (simp [wrap_id]; omega))) | refine ⟨?_, ?_⟩)
  · simp only [arrS, exA, opE_bi, cE_bi, vE_bi, argsD_bi, litI, litB, litS]
    have d1 : decide (((1 : Nat) : Int) < 2) = true := by decide
    have w1 : IntKind.i64.wrap (((1 : Nat) : Int) + 1) = 2 := by decide
    repeat' first
      | refine awp_seq ?_
      | refine awp_block ?_
      | refine awp_skip ?_
      | (refine reg _ (by (simp only [List.map_cons, List.map_nil]; rfl)) rfl ?_; intro K hK)
      | (refine awp_cond _ (by rfl) ?_ ?_ <;> (intro hb; first | (cases hb; done) | (have ht : true = true := hb; clear ht hb) | (have ht : false = false := hb; clear ht hb) | (simp only [hb]) | skip))
      | (refine awp_exit ?_; simp only [thenA, blockA, scopeA, reduceIte, RetQ, Nat.reduceEqDiff])
      | (refine awp_ret ?_; simp only [thenA, blockA, scopeA, RetQ])
      | (refine ev_nil (hK _ ?_); clear hK K)
      | (apply ev_guardU; (case hj | hu | hσ => (simp only [go_sem, d1, w1, Int.reduceToNat]; try rfl)))
      | (refine ev_guardT _ _ (by (simp only [go_sem, d1, w1, Int.reduceToNat]; rfl)) (by (simp only [go_sem, d1, w1, Int.reduceToNat]; rfl)) ?_ ?_ <;> (intro hb; first | (cases hb; done) | (have ht : true = true := hb; clear ht hb) | (have ht : false = false := hb; clear ht hb) | (simp only [hb]) | skip))
      | (refine ev_guardF _ _ (by (simp only [go_sem, d1, w1, Int.reduceToNat]; rfl)) (by (simp only [go_sem, d1, w1, Int.reduceToNat]; rfl)) ?_ ?_ <;> (intro hb; first | (cases hb; done) | (have ht : true = true := hb; clear ht hb) | (have ht : false = false := hb; clear ht hb) | (simp only [hb]) | skip))
      | (apply ev_call0; (case hys => (simp only [go_sem, d1, w1, Int.reduceToNat]; try rfl)); (case hs => first | exact h2 ..); (case hok | hσ => (simp only [go_sem, d1, w1, Int.reduceToNat]; try rfl)))
      | (apply ev_callC; (case hf | hys => (simp only [go_sem, d1, w1, Int.reduceToNat]; try rfl)); (case hs => first | exact h2 ..); (case hok | hσ => (simp only [go_sem, d1, w1, Int.reduceToNat]; try rfl)))
      | (apply ev_step0; (case hr | hσ => (simp only [go_sem, d1, w1, Int.reduceToNat]; try rfl)); (case hc => (first | trivial | exact look_ok (by kernel_rfl) (by kernel_rfl) | decide | (simp only [inB, sliceOk, appendOk, rowsOk]; omega) | (simp [inB, sliceOk, appendOk, rowsOk]; omega))))
      | (apply ev_step; (case hr => (simp only [go_sem, d1, w1, Int.reduceToNat]; try rfl)); (case hσ => (intro g u; simp only [go_sem, d1, w1, Int.reduceToNat]; try rfl)); (case hc => (first | trivial | exact look_ok (by kernel_rfl) (by kernel_rfl) | decide | (simp only [inB, sliceOk, appendOk, rowsOk]; omega) | (simp [inB, sliceOk, appendOk, rowsOk]; omega))); intro g u; (try clear u); (try clear g))
      | fail
    refine Exists.intro 2 ⟨by omega, by omega, ?_⟩
    simp only [arrS, exA, opE_bi, cE_bi, vE_bi, argsD_bi]
    refine Wk.mk ?_ ?_
    all_goals (repeat' first | exact trivial | exact LeA.refl _ | exact LeA.any _ | exact LeO.refl _ | exact LeO.no _ | exact LeA.nil _ | exact LeA.nilOwn _ | exact LeO.nil _ _ _ | refine LeO.box ?_ | (refine LeA.i ?_; (first | rfl | (push_cast; rfl) | (rw [wrap_id (by omega)]; push_cast; omega) | (simp [wrap_id]; omega))) | refine ⟨?_, ?_⟩)
  simp only [arrS, exA, opE_bi, cE_bi, vE_bi, argsD_bi, litI, litB, litS]
  have d1 : decide (((2 : Nat) : Int) < 2) = false := by decide
  unfold strictM
  cases sh with
  | false =>
    simp only [Bool.false_and, Bool.false_eq_true, if_false]
    cases sn <;> cases tn
    all_goals
      repeat' first
        | refine awp_seq ?_
        | refine awp_block ?_
        | refine awp_skip ?_
        | (refine reg _ (by (simp only [List.map_cons, List.map_nil]; rfl)) rfl ?_; intro K hK)
        | (refine awp_cond _ (by rfl) ?_ ?_ <;> (intro hb; first | (cases hb; done) | (have ht : true = true := hb; clear ht hb) | (have ht : false = false := hb; clear ht hb) | (simp only [hb]) | skip))
        | (refine awp_exit ?_; simp only [thenA, blockA, scopeA, reduceIte, RetQ, Nat.reduceEqDiff])
        | (refine awp_ret ?_; simp only [thenA, blockA, scopeA, RetQ])
        | (refine ev_nil (hK _ ?_); clear hK K)
        | (apply ev_guardU; (case hj | hu | hσ => (simp only [go_sem, d1, Int.reduceToNat]; try rfl)))
        | (refine ev_guardT _ _ (by (simp only [go_sem, d1, Int.reduceToNat]; rfl)) (by (simp only [go_sem, d1, Int.reduceToNat]; rfl)) ?_ ?_ <;> (intro hb; first | (cases hb; done) | (have ht : true = true := hb; clear ht hb) | (have ht : false = false := hb; clear ht hb) | (simp only [hb]) | skip))
        | (refine ev_guardF _ _ (by (simp only [go_sem, d1, Int.reduceToNat]; rfl)) (by (simp only [go_sem, d1, Int.reduceToNat]; rfl)) ?_ ?_ <;> (intro hb; first | (cases hb; done) | (have ht : true = true := hb; clear ht hb) | (have ht : false = false := hb; clear ht hb) | (simp only [hb]) | skip))
        | (apply ev_step0; (case hr | hσ => (simp only [go_sem, d1, Int.reduceToNat]; try rfl)); (case hc => (first | trivial | exact look_ok (by kernel_rfl) (by kernel_rfl) | decide | (simp only [inB, sliceOk, appendOk, rowsOk]; omega) | (simp [inB, sliceOk, appendOk, rowsOk]; omega))))
        | (apply ev_step; (case hr => (simp only [go_sem, d1, Int.reduceToNat]; try rfl)); (case hσ => (intro g u; simp only [go_sem, d1, Int.reduceToNat]; try rfl)); (case hc => (first | trivial | exact look_ok (by kernel_rfl) (by kernel_rfl) | decide | (simp only [inB, sliceOk, appendOk, rowsOk]; omega) | (simp [inB, sliceOk, appendOk, rowsOk]; omega))); intro g u; (try clear u); (try clear g))
        | fail
      all_goals (refine resR_one T_ok rfl _ (by (simp only [go_sem, resA]; rfl)) (by first | trivial | (simp only [go_sem, resA])) (by first | trivial | (simp only [go_sem])) ?_; simp only [go_sem])
      exact LeA.refl _
  | true =>
  cases th with
  | false =>
    simp only [Bool.and_false, Bool.false_eq_true, if_false]
    cases sn <;> cases tn
    all_goals
      repeat' first
        | refine awp_seq ?_
        | refine awp_block ?_
        | refine awp_skip ?_
        | (refine reg _ (by (simp only [List.map_cons, List.map_nil]; rfl)) rfl ?_; intro K hK)
        | (refine awp_cond _ (by rfl) ?_ ?_ <;> (intro hb; first | (cases hb; done) | (have ht : true = true := hb; clear ht hb) | (have ht : false = false := hb; clear ht hb) | (simp only [hb]) | skip))
        | (refine awp_exit ?_; simp only [thenA, blockA, scopeA, reduceIte, RetQ, Nat.reduceEqDiff])
        | (refine awp_ret ?_; simp only [thenA, blockA, scopeA, RetQ])
        | (refine ev_nil (hK _ ?_); clear hK K)
        | (apply ev_guardU; (case hj | hu | hσ => (simp only [go_sem, d1, Int.reduceToNat]; try rfl)))
        | (refine ev_guardT _ _ (by (simp only [go_sem, d1, Int.reduceToNat]; rfl)) (by (simp only [go_sem, d1, Int.reduceToNat]; rfl)) ?_ ?_ <;> (intro hb; first | (cases hb; done) | (have ht : true = true := hb; clear ht hb) | (have ht : false = false := hb; clear ht hb) | (simp only [hb]) | skip))
        | (refine ev_guardF _ _ (by (simp only [go_sem, d1, Int.reduceToNat]; rfl)) (by (simp only [go_sem, d1, Int.reduceToNat]; rfl)) ?_ ?_ <;> (intro hb; first | (cases hb; done) | (have ht : true = true := hb; clear ht hb) | (have ht : false = false := hb; clear ht hb) | (simp only [hb]) | skip))
        | (apply ev_step0; (case hr | hσ => (simp only [go_sem, d1, Int.reduceToNat]; try rfl)); (case hc => (first | trivial | exact look_ok (by kernel_rfl) (by kernel_rfl) | decide | (simp only [inB, sliceOk, appendOk, rowsOk]; omega) | (simp [inB, sliceOk, appendOk, rowsOk]; omega))))
        | (apply ev_step; (case hr => (simp only [go_sem, d1, Int.reduceToNat]; try rfl)); (case hσ => (intro g u; simp only [go_sem, d1, Int.reduceToNat]; try rfl)); (case hc => (first | trivial | exact look_ok (by kernel_rfl) (by kernel_rfl) | decide | (simp only [inB, sliceOk, appendOk, rowsOk]; omega) | (simp [inB, sliceOk, appendOk, rowsOk]; omega))); intro g u; (try clear u); (try clear g))
        | fail
      all_goals (refine resR_one T_ok rfl _ (by (simp only [go_sem, resA]; rfl)) (by first | trivial | (simp only [go_sem, resA])) (by first | trivial | (simp only [go_sem])) ?_; simp only [go_sem])
      exact LeA.refl _
  | true =>
    simp only [Bool.and_self, if_true]
    obtain ⟨rn, rh, rlo, rhi⟩ := r
    cases rn <;> cases sn <;> cases tn
    all_goals
      repeat' first
        | refine awp_seq ?_
        | refine awp_block ?_
        | refine awp_skip ?_
        | (refine reg _ (by (simp only [List.map_cons, List.map_nil]; rfl)) rfl ?_; intro K hK)
        | (refine awp_cond _ (by rfl) ?_ ?_ <;> (intro hb; first | (cases hb; done) | (have ht : true = true := hb; clear ht hb) | (have ht : false = false := hb; clear ht hb) | (simp only [hb]) | skip))
        | (refine awp_exit ?_; simp only [thenA, blockA, scopeA, reduceIte, RetQ, Nat.reduceEqDiff])
        | (refine awp_ret ?_; simp only [thenA, blockA, scopeA, RetQ])
        | (refine ev_nil (hK _ ?_); clear hK K)
        | (apply ev_guardU; (case hj | hu | hσ => (simp only [go_sem, d1, Int.reduceToNat]; try rfl)))
        | (refine ev_guardT _ _ (by (simp only [go_sem, d1, Int.reduceToNat]; rfl)) (by (simp only [go_sem, d1, Int.reduceToNat]; rfl)) ?_ ?_ <;> (intro hb; first | (cases hb; done) | (have ht : true = true := hb; clear ht hb) | (have ht : false = false := hb; clear ht hb) | (simp only [hb]) | skip))
        | (refine ev_guardF _ _ (by (simp only [go_sem, d1, Int.reduceToNat]; rfl)) (by (simp only [go_sem, d1, Int.reduceToNat]; rfl)) ?_ ?_ <;> (intro hb; first | (cases hb; done) | (have ht : true = true := hb; clear ht hb) | (have ht : false = false := hb; clear ht hb) | (simp only [hb]) | skip))
        | (apply ev_call0; (case hys => (simp only [go_sem, d1, Int.reduceToNat]; try rfl)); (case hs => first | exact hf ..); (case hok | hσ => (simp only [go_sem, d1, Int.reduceToNat]; try rfl)))
        | (apply ev_callC; (case hf | hys => (simp only [go_sem, d1, Int.reduceToNat]; try rfl)); (case hs => first | exact hf ..); (case hok | hσ => (simp only [go_sem, d1, Int.reduceToNat]; try rfl)))
        | (apply ev_step0; (case hr | hσ => (simp only [go_sem, d1, Int.reduceToNat]; try rfl)); (case hc => (first | trivial | exact look_ok (by kernel_rfl) (by kernel_rfl) | decide | (simp only [inB, sliceOk, appendOk, rowsOk]; omega) | (simp [inB, sliceOk, appendOk, rowsOk]; omega))))
        | (apply ev_step; (case hr => (simp only [go_sem, d1, Int.reduceToNat]; try rfl)); (case hσ => (intro g u; simp only [go_sem, d1, Int.reduceToNat]; try rfl)); (case hc => (first | trivial | exact look_ok (by kernel_rfl) (by kernel_rfl) | decide | (simp only [inB, sliceOk, appendOk, rowsOk]; omega) | (simp [inB, sliceOk, appendOk, rowsOk]; omega))); intro g u; (try clear u); (try clear g))
        | fail
      all_goals (refine resR_one T_ok rfl _ (by (simp only [go_sem, resA]; rfl)) (by first | trivial | (simp only [go_sem, resA])) (by first | trivial | (simp only [go_sem])) ?_; simp only [go_sem])
      exact LeA.refl _
end
section
set_option linter.unusedVariables false
set_option linter.unusedSimpArgs false
open Go.RowKit
attribute [local irreducible] Spec SpecF SpecN
attribute [local irreducible] AWp evOps evD
theorem f31_spec (v : Vl) : Spec Tryd.prog 31 [.agg (vl v)] (.agg (exA (.leaf 1 0 v))) := by
  simp only [exA, opE, cE, vE, argsD]
  refine spec_of_awp (fn := Tryd.f31) Tryd.func31 (by kernel_rfl) rfl ?_
  intro w0 C0
  simp only [Tryd.ntmps31, litI, litB, litS, List.length_cons, List.length_nil, Nat.reduceAdd, Nat.reduceSub, List.replicate_succ, List.replicate_zero, List.cons_append, List.nil_append]
  repeat' first
    | refine awp_seq ?_
    | refine awp_block ?_
    | refine awp_skip ?_
    | (refine reg _ (by (simp only [List.map_cons, List.map_nil]; rfl)) rfl ?_; intro K hK)
    | (refine awp_cond _ (by rfl) ?_ ?_ <;> (intro hb; first | (cases hb; done) | (have ht : true = true := hb; clear ht hb) | (have ht : false = false := hb; clear ht hb) | (simp only [hb]) | skip))
    | (refine awp_exit ?_; simp only [thenA, blockA, scopeA, reduceIte, RetQ, Nat.reduceEqDiff])
    | (refine awp_ret ?_; simp only [thenA, blockA, scopeA, RetQ])
    | (refine ev_nil (hK _ ?_); clear hK K)
    | (apply ev_step0; (case hr | hσ => (simp only [go_sem]; try rfl)); (case hc => (first | trivial | exact look_ok (by kernel_rfl) (by kernel_rfl) | decide | (simp only [inB, sliceOk, appendOk, rowsOk]; omega) | (simp [inB, sliceOk, appendOk, rowsOk]; omega))))
    | (apply ev_step; (case hr => (simp only [go_sem]; try rfl)); (case hσ => (intro g u; simp only [go_sem]; try rfl)); (case hc => (first | trivial | exact look_ok (by kernel_rfl) (by kernel_rfl) | decide | (simp only [inB, sliceOk, appendOk, rowsOk]; omega) | (simp [inB, sliceOk, appendOk, rowsOk]; omega))); intro g u; (try clear u); (try clear g))
    | fail
  all_goals (refine resR_one T_ok rfl _ (by (simp only [go_sem, resA]; rfl)) (by first | trivial | (simp only [go_sem, resA])) (by first | trivial | (simp only [go_sem])) ?_; simp only [go_sem])
  exact LeA.refl _
theorem f32_spec : Spec Tryd.prog 32 [] (.agg (exA (.leaf 2 0 nullV))) := by
  simp only [exA, opE, cE, vE, argsD]
  refine spec_of_awp (fn := Tryd.f32) Tryd.func32 (by kernel_rfl) rfl ?_
  intro w0 C0
  simp only [Tryd.ntmps32, litI, litB, litS, List.length_cons, List.length_nil, Nat.reduceAdd, Nat.reduceSub, List.replicate_succ, List.replicate_zero, List.cons_append, List.nil_append]
  repeat' first
    | refine awp_seq ?_
    | refine awp_block ?_
    | refine awp_skip ?_
    | (refine reg _ (by (simp only [List.map_cons, List.map_nil]; rfl)) rfl ?_; intro K hK)
    | (refine awp_cond _ (by rfl) ?_ ?_ <;> (intro hb; first | (cases hb; done) | (have ht : true = true := hb; clear ht hb) | (have ht : false = false := hb; clear ht hb) | (simp only [hb]) | skip))
    | (refine awp_exit ?_; simp only [thenA, blockA, scopeA, reduceIte, RetQ, Nat.reduceEqDiff])
    | (refine awp_ret ?_; simp only [thenA, blockA, scopeA, RetQ])
    | (refine ev_nil (hK _ ?_); clear hK K)
    | (apply ev_step0; (case hr | hσ => (simp only [go_sem]; try rfl)); (case hc => (first | trivial | exact look_ok (by kernel_rfl) (by kernel_rfl) | decide | (simp only [inB, sliceOk, appendOk, rowsOk]; omega) | (simp [inB, sliceOk, appendOk, rowsOk]; omega))))
    | (apply ev_step; (case hr => (simp only [go_sem]; try rfl)); (case hσ => (intro g u; simp only [go_sem]; try rfl)); (case hc => (first | trivial | exact look_ok (by kernel_rfl) (by kernel_rfl) | decide | (simp only [inB, sliceOk, appendOk, rowsOk]; omega) | (simp [inB, sliceOk, appendOk, rowsOk]; omega))); intro g u; (try clear u); (try clear g))
    | fail
  all_goals (refine resR_one T_ok rfl _ (by (simp only [go_sem, resA]; rfl)) (by first | trivial | (simp only [go_sem, resA])) (by first | trivial | (simp only [go_sem])) ?_; simp only [go_sem])
  exact LeA.refl _
theorem f30_spec (op : Int) (a b : Ex) : Spec Tryd.prog 30 [litI .i64 op, .agg (exA a), .agg (exA b)] (.agg (exA (.bi op a b))) := by
  simp only [exA, opE_bi, cE_bi, vE_bi, argsD_bi]
  refine spec_of_awp (fn := Tryd.f30) Tryd.func30 (by kernel_rfl) rfl ?_
  intro w0 C0
  simp only [Tryd.ntmps30, litI, litB, litS, List.length_cons, List.length_nil, Nat.reduceAdd, Nat.reduceSub, List.replicate_succ, List.replicate_zero, List.cons_append, List.nil_append]
  repeat' first
    | refine awp_seq ?_
    | refine awp_block ?_
    | refine awp_skip ?_
    | (refine reg _ (by (simp only [List.map_cons, List.map_nil]; rfl)) rfl ?_; intro K hK)
    | (refine awp_cond _ (by rfl) ?_ ?_ <;> (intro hb; first | (cases hb; done) | (have ht : true = true := hb; clear ht hb) | (have ht : false = false := hb; clear ht hb) | (simp only [hb]) | skip))
    | (refine awp_exit ?_; simp only [thenA, blockA, scopeA, reduceIte, RetQ, Nat.reduceEqDiff])
    | (refine awp_ret ?_; simp only [thenA, blockA, scopeA, RetQ])
    | (refine ev_nil (hK _ ?_); clear hK K)
    | (apply ev_step0; (case hr | hσ => (simp only [go_sem]; try rfl)); (case hc => (first | trivial | exact look_ok (by kernel_rfl) (by kernel_rfl) | decide | (simp only [inB, sliceOk, appendOk, rowsOk]; omega) | (simp [inB, sliceOk, appendOk, rowsOk]; omega))))
    | (apply ev_step; (case hr => (simp only [go_sem]; try rfl)); (case hσ => (intro g u; simp only [go_sem]; try rfl)); (case hc => (first | trivial | exact look_ok (by kernel_rfl) (by kernel_rfl) | decide | (simp only [inB, sliceOk, appendOk, rowsOk]; omega) | (simp [inB, sliceOk, appendOk, rowsOk]; omega))); intro g u; (try clear u); (try clear g))
    | fail
  all_goals (refine resR_one T_ok rfl _ (by (simp only [go_sem, resA]; rfl)) (by first | trivial | (simp only [go_sem, resA])) (by first | trivial | (simp only [go_sem])) ?_; simp only [go_sem])
  exact LeA.refl _
theorem f49_one (e : Ex) (h : opE e ≠ 6) : SpecF Tryd.prog 49 [.agg (exA e)] 35 6 [exD e] := by
  have d1 : (opE e != 6) = true := by simpa using h
  simp only [exA, exD]
  refine specF_of_awp (fn := Tryd.f49) Tryd.func49 (by kernel_rfl) rfl ?_
  intro w0 C0
  simp only [Tryd.ntmps49, litI, litB, litS, List.length_cons, List.length_nil, Nat.reduceAdd, Nat.reduceSub, List.replicate_succ, List.replicate_zero, List.cons_append, List.nil_append]
  repeat' first
    | refine awp_seq ?_
    | refine awp_block ?_
    | refine awp_skip ?_
    | (refine reg _ (by (simp only [List.map_cons, List.map_nil]; rfl)) rfl ?_; intro K hK)
    | (refine awp_cond _ (by rfl) ?_ ?_ <;> (intro hb; first | (cases hb; done) | (have ht : true = true := hb; clear ht hb) | (have ht : false = false := hb; clear ht hb) | (simp only [hb]) | skip))
    | (refine awp_exit ?_; simp only [thenA, blockA, scopeA, reduceIte, RetQ, Nat.reduceEqDiff])
    | (refine awp_ret ?_; simp only [thenA, blockA, scopeA, RetQ])
    | (refine ev_nil (hK _ ?_); clear hK K)
    | (apply ev_step0; (case hr | hσ => (simp only [go_sem, d1]; try rfl)); (case hc => (first | trivial | exact look_ok (by kernel_rfl) (by kernel_rfl) | decide | (simp only [inB, sliceOk, appendOk, rowsOk]; omega) | (simp [inB, sliceOk, appendOk, rowsOk]; omega))))
    | (apply ev_step; (case hr => (simp only [go_sem, d1]; try rfl)); (case hσ => (intro g u; simp only [go_sem, d1]; try rfl)); (case hc => (first | trivial | exact look_ok (by kernel_rfl) (by kernel_rfl) | decide | (simp only [inB, sliceOk, appendOk, rowsOk]; omega) | (simp [inB, sliceOk, appendOk, rowsOk]; omega))); intro g u; (try clear u); (try clear g))
    | fail
  exact resF_one T_ok rfl rfl rfl
theorem f49_and (a b : Ex) (ra rb : List (List Dat)) (ha : SpecF Tryd.prog 49 [.agg (exA a)] 35 6 ra) (hb : SpecF Tryd.prog 49 [.agg (exA b)] 35 6 rb) (hl : ra.length + rb.length ≤ 1000000) : SpecF Tryd.prog 49 [.agg (exA (.bi 6 a b))] 35 6 (ra ++ rb) := by
  simp only [exA, opE_bi, cE_bi, vE_bi, argsD_bi] at ha hb ⊢
  refine specF_of_awp (fn := Tryd.f49) Tryd.func49 (by kernel_rfl) rfl ?_
  intro w0 C0
  simp only [Tryd.ntmps49, litI, litB, litS, List.length_cons, List.length_nil, Nat.reduceAdd, Nat.reduceSub, List.replicate_succ, List.replicate_zero, List.cons_append, List.nil_append]
  repeat' first
    | refine awp_seq ?_
    | refine awp_block ?_
    | refine awp_skip ?_
    | (refine reg _ (by (simp only [List.map_cons, List.map_nil]; rfl)) rfl ?_; intro K hK)
    | (refine awp_cond _ (by rfl) ?_ ?_ <;> (intro hb; first | (cases hb; done) | (have ht : true = true := hb; clear ht hb) | (have ht : false = false := hb; clear ht hb) | (simp only [hb]) | skip))
    | (refine awp_exit ?_; simp only [thenA, blockA, scopeA, reduceIte, RetQ, Nat.reduceEqDiff])
    | (refine awp_ret ?_; simp only [thenA, blockA, scopeA, RetQ])
    | (refine ev_nil (hK _ ?_); clear hK K)
    | (apply regD; (case hd => (simp only [List.map_cons, List.map_nil]; rfl)); (case hok => rfl); (case' h => (intro K hK; (repeat' first
        | (apply evd_nil; refine (hK _ ?_); clear hK K)
        | (apply evd_callF0; (case hi | hys => (simp only [go_sem, Int.reduceToNat]; try rfl)); (case hs => first | exact ha .. | exact hb ..); (case hok => (simp only [go_sem, Int.reduceToNat]; try rfl)); (case hd => simp); (case hw | hσ => (intro u; simp only [go_sem, Int.reduceToNat]; try rfl)); (case' hk => intro u))
        | (apply evd_step0; (case hr | hi | hσ => (simp only [go_sem, Int.reduceToNat]; try rfl)); (case hc => (first | trivial | exact look_ok (by kernel_rfl) (by kernel_rfl) | decide | (simp only [inB, sliceOk, appendOk, rowsOk]; omega) | (simp [inB, sliceOk, appendOk, rowsOk]; omega))))
        | (apply evd_step; (case hr | hi => (simp only [go_sem, Int.reduceToNat]; try rfl)); (case hc => (first | trivial | exact look_ok (by kernel_rfl) (by kernel_rfl) | decide | (simp only [inB, sliceOk, appendOk, rowsOk]; omega) | (simp [inB, sliceOk, appendOk, rowsOk]; omega))); (case hw | hσ => (intro g u; simp only [go_sem, Int.reduceToNat]; try rfl)); (case' hk => (intro g u; (try clear u); (try clear g))))
        | fail))); (case hB => kernel_rfl))
    | (apply ev_step0; (case hr | hσ => (simp only [go_sem, Int.reduceToNat]; try rfl)); (case hc => (first | trivial | exact look_ok (by kernel_rfl) (by kernel_rfl) | decide | (simp only [inB, sliceOk, appendOk, rowsOk]; omega) | (simp [inB, sliceOk, appendOk, rowsOk]; omega))))
    | (apply ev_step; (case hr => (simp only [go_sem, Int.reduceToNat]; try rfl)); (case hσ => (intro g u; simp only [go_sem, Int.reduceToNat]; try rfl)); (case hc => (first | trivial | exact look_ok (by kernel_rfl) (by kernel_rfl) | decide | (simp only [inB, sliceOk, appendOk, rowsOk]; omega) | (simp [inB, sliceOk, appendOk, rowsOk]; omega))); intro g u; (try clear u); (try clear g))
    | fail
  exact resF_one T_ok rfl rfl rfl
def conj : Ex → List Ex
  | .bi op a b => if op = 6 then conj a ++ conj b else [.bi op a b]
  | e => [e]
def okC : Ex → Prop
  | .leaf op _ _ => op ≠ 6
  | .un op _ => op ≠ 6
  | .bi op a b => op = 6 → okC a ∧ okC b
theorem f49_spec : ∀ (e : Ex), okC e → (conj e).length ≤ 1000000 → SpecF Tryd.prog 49 [.agg (exA e)] 35 6 ((conj e).map exD)
  | .leaf op c v, h, _ => f49_one (.leaf op c v) h
  | .un op a, h, _ => f49_one (.un op a) h
  | .bi op a b, h, hl => by
    unfold conj at hl ⊢
    by_cases h6 : op = 6
    · subst h6
      rw [if_pos rfl] at hl ⊢
      rw [List.length_append] at hl
      rw [List.map_append]
      have hh := h rfl
      exact f49_and a b _ _ (f49_spec a hh.1 (by omega)) (f49_spec b hh.2 (by omega)) (by rw [List.length_map, List.length_map]; exact hl)
    · rw [if_neg h6]
      exact f49_one (.bi op a b) h6
def truthsM (s : Sp) : List AV := [litB (noM s), litB (yesM s), litB s.null]
theorem f21_spec (B : Dat) (e : Ex) (s : Sp) (h : Spec Tryd.prog 43 [.d B, .agg (exA e)] (.agg (sp s))) : Spec Tryd.prog 21 [.d B, .agg (exA e)] (.agg (truthsM s)) := by
  have a1 := f44_spec s
  have a2 := f45_spec s
  unfold truthsM
  generalize noM s = n at *
  generalize yesM s = y at *
  simp only [exA] at h ⊢
  refine spec_of_awp (fn := Tryd.f21) Tryd.func21 (by kernel_rfl) rfl ?_
  intro w0 C0
  simp only [Tryd.ntmps21, litI, litB, litS, List.length_cons, List.length_nil, Nat.reduceAdd, Nat.reduceSub, List.replicate_succ, List.replicate_zero, List.cons_append, List.nil_append]
  repeat' first
    | refine awp_seq ?_
    | refine awp_block ?_
    | refine awp_skip ?_
    | (refine reg _ (by (simp only [List.map_cons, List.map_nil]; rfl)) rfl ?_; intro K hK)
    | (refine awp_cond _ (by rfl) ?_ ?_ <;> (intro hb; first | (cases hb; done) | (have ht : true = true := hb; clear ht hb) | (have ht : false = false := hb; clear ht hb) | (simp only [hb]) | skip))
    | (refine awp_exit ?_; simp only [thenA, blockA, scopeA, reduceIte, RetQ, Nat.reduceEqDiff])
    | (refine awp_ret ?_; simp only [thenA, blockA, scopeA, RetQ])
    | (refine ev_nil (hK _ ?_); clear hK K)
    | (apply ev_call0; (case hys => (simp only [go_sem]; try rfl)); (case hs => first | exact h .. | exact a1 .. | exact a2 ..); (case hok | hσ => (simp only [go_sem]; try rfl)))
    | (apply regD; (case hd => (simp only [List.map_cons, List.map_nil]; rfl)); (case hok => rfl); (case' h => (intro K hK; (repeat' first
        | (apply evd_nil; refine (hK _ ?_); clear hK K)
        | (apply evd_call0; (case hi | hys => (simp only [go_sem]; try rfl)); (case hs => first | exact h .. | exact a1 .. | exact a2 ..); (case hok | hw | hσ => (simp only [go_sem]; try rfl)))
        | (apply evd_step0; (case hr | hi | hσ => (simp only [go_sem]; try rfl)); (case hc => (first | trivial | exact look_ok (by kernel_rfl) (by kernel_rfl) | decide | (simp only [inB, sliceOk, appendOk, rowsOk]; omega) | (simp [inB, sliceOk, appendOk, rowsOk]; omega))))
        | (apply evd_step; (case hr | hi => (simp only [go_sem]; try rfl)); (case hc => (first | trivial | exact look_ok (by kernel_rfl) (by kernel_rfl) | decide | (simp only [inB, sliceOk, appendOk, rowsOk]; omega) | (simp [inB, sliceOk, appendOk, rowsOk]; omega))); (case hw | hσ => (intro g u; simp only [go_sem]; try rfl)); (case' hk => (intro g u; (try clear u); (try clear g))))
        | fail))); (case hB => kernel_rfl))
    | (apply ev_step0; (case hr | hσ => (simp only [go_sem]; try rfl)); (case hc => (first | trivial | exact look_ok (by kernel_rfl) (by kernel_rfl) | decide | (simp only [inB, sliceOk, appendOk, rowsOk]; omega) | (simp [inB, sliceOk, appendOk, rowsOk]; omega))))
    | (apply ev_step; (case hr => (simp only [go_sem]; try rfl)); (case hσ => (intro g u; simp only [go_sem]; try rfl)); (case hc => (first | trivial | exact look_ok (by kernel_rfl) (by kernel_rfl) | decide | (simp only [inB, sliceOk, appendOk, rowsOk]; omega) | (simp [inB, sliceOk, appendOk, rowsOk]; omega))); intro g u; (try clear u); (try clear g))
    | fail
  all_goals (refine resR_one T_ok rfl _ (by (simp only [go_sem, resA]; rfl)) (by first | trivial | (simp only [go_sem, resA])) (by first | trivial | (simp only [go_sem])) ?_; simp only [go_sem])
  exact LeA.refl _
def neverM (F : Ex → Sp) : List Ex → Bool
  | [] => false
  | e :: l => if yesM (F e) = true then neverM F l else true
theorem exs_at (l : List Ex) {i : Nat} (h : i < l.length) : (l.map exD).getD i [] = exD (l.getD i (.leaf 0 0 nullV)) := by
  simp [List.getD_eq_getElem?_getD, h]
theorem f23_spec (B : Dat) (e : Ex) (l : List Ex) (F : Ex → Sp) (hF : ∀ p ∈ l, Spec Tryd.prog 43 [.d B, .agg (exA p)] (.agg (sp (F p)))) (h49 : SpecF Tryd.prog 49 [.agg (exA e)] 35 6 (l.map exD)) (hl : l.length ≤ 1000000) : Spec Tryd.prog 23 [.d B, .agg (exA e)] (litB (neverM F l)) := by
  simp only [exA] at h49 ⊢
  refine spec_of_awp (fn := Tryd.f23) Tryd.func23 (by kernel_rfl) rfl ?_
  intro w0 C0
  simp only [Tryd.ntmps23, litI, litB, litS, List.length_cons, List.length_nil, Nat.reduceAdd, Nat.reduceSub, List.replicate_succ, List.replicate_zero, List.cons_append, List.nil_append]
  repeat' first
    | refine awp_seq ?_
    | refine awp_block ?_
    | refine awp_skip ?_
    | (refine reg _ (by (simp only [List.map_cons, List.map_nil]; rfl)) rfl ?_; intro K hK)
    | (refine awp_cond _ (by rfl) ?_ ?_ <;> (intro hb; first | (cases hb; done) | (have ht : true = true := hb; clear ht hb) | (have ht : false = false := hb; clear ht hb) | (simp only [hb]) | skip))
    | (refine awp_exit ?_; simp only [thenA, blockA, scopeA, reduceIte, RetQ, Nat.reduceEqDiff])
    | (refine awp_ret ?_; simp only [thenA, blockA, scopeA, RetQ])
    | (refine ev_nil (hK _ ?_); clear hK K)
    | (apply ev_callF0; (case hys => (simp only [go_sem]; try rfl)); (case hs => first | exact h49 ..); (case hok => (simp only [go_sem]; try rfl)); (case hd => simp); (case hσ => (intro u; simp only [go_sem]; try rfl)); intro u)
    | (apply ev_step0; (case hr | hσ => (simp only [go_sem]; try rfl)); (case hc => (first | trivial | exact look_ok (by kernel_rfl) (by kernel_rfl) | decide | (simp only [inB, sliceOk, appendOk, rowsOk]; omega) | (simp [inB, sliceOk, appendOk, rowsOk]; omega))))
    | (apply ev_step; (case hr => (simp only [go_sem]; try rfl)); (case hσ => (intro g u; simp only [go_sem]; try rfl)); (case hc => (first | trivial | exact look_ok (by kernel_rfl) (by kernel_rfl) | decide | (simp only [inB, sliceOk, appendOk, rowsOk]; omega) | (simp [inB, sliceOk, appendOk, rowsOk]; omega))); intro g u; (try clear u); (try clear g))
    | fail
  refine awp_loopI (fun i : Nat => i ≤ l.length ∧ neverM F l = neverM F (l.drop i)) (fun i => l.length - i) (fun i => ⟨[.d B, .any, .any, .any, litB false, .any, .any, .any, .own 8 u, litI .i64 l.length, litI .i64 i, .any, .any, .any, .any, .any, .any, .any, .any, .any], [.no, .no, .no, .no, .no, .no, .no, .no, .row u 35 6 (l.map exD), .no, .no, .no, .no, .no, .no, .no, .no, .no, .no, .no]⟩) 0 ⟨by omega, rfl⟩ ?_ ?_
  · refine Wk.mk ?_ ?_
    all_goals (repeat' first | exact trivial | exact LeA.refl _ | exact LeA.any _ | exact LeO.refl _ | exact LeO.no _ | exact LeA.nil _ | exact LeA.nilOwn _ | exact LeO.nil _ _ _ | refine LeO.box ?_ | (refine LeA.i ?_; (first | rfl | (push_cast; rfl) | (rw [wrap_id (by omega)]; push_cast; omega) | (simp [wrap_id]; omega))) | refine ⟨?_, ?_⟩)
  rintro i ⟨hi, hfi⟩
  simp only [litI, litB] at hi hfi ⊢
  by_cases hlt : i < l.length
  rotate_left
  have hdec : decide ((i : Int) < (l.length : Int)) = false := by simp; omega
  · repeat' first
      | refine awp_seq ?_
      | refine awp_block ?_
      | refine awp_skip ?_
      | (refine reg _ (by (simp only [List.map_cons, List.map_nil]; rfl)) rfl ?_; intro K hK)
      | (refine awp_cond _ (by rfl) ?_ ?_ <;> (intro hb; first | (cases hb; done) | (have ht : true = true := hb; clear ht hb) | (have ht : false = false := hb; clear ht hb) | (simp only [hb]) | skip))
      | (refine awp_exit ?_; simp only [thenA, blockA, scopeA, reduceIte, RetQ, Nat.reduceEqDiff])
      | (refine awp_ret ?_; simp only [thenA, blockA, scopeA, RetQ])
      | (refine ev_nil (hK _ ?_); clear hK K)
      | (apply ev_step0; (case hr | hσ => (simp only [go_sem, hdec]; try rfl)); (case hc => (first | trivial | exact look_ok (by kernel_rfl) (by kernel_rfl) | decide | (simp only [inB, sliceOk, appendOk, rowsOk]; omega) | (simp [inB, sliceOk, appendOk, rowsOk]; omega))))
      | (apply ev_step; (case hr => (simp only [go_sem, hdec]; try rfl)); (case hσ => (intro g u; simp only [go_sem, hdec]; try rfl)); (case hc => (first | trivial | exact look_ok (by kernel_rfl) (by kernel_rfl) | decide | (simp only [inB, sliceOk, appendOk, rowsOk]; omega) | (simp [inB, sliceOk, appendOk, rowsOk]; omega))); intro g u; (try clear u); (try clear g))
      | fail
    all_goals (refine resR_one T_ok rfl _ (by (simp only [go_sem, resA]; rfl)) (by first | trivial | (simp only [go_sem, resA])) (by first | trivial | (simp only [go_sem])) ?_; simp only [go_sem])
    refine LeA.b ?_
    rw [hfi, List.drop_eq_nil_of_le (by omega)]; rfl
  have hdec : decide ((i : Int) < (l.length : Int)) = true := by simp; omega
  have hx := exs_at l hlt
  have hm := hF _ (mem_at l (.leaf 0 0 nullV) hlt)
  rw [drop_at l (.leaf 0 0 nullV) hlt, neverM] at hfi
  generalize l.getD i (.leaf 0 0 nullV) = p at *
  have a2 := f45_spec (F p)
  generalize F p = s at *
  simp only [exA] at hm
  cases hy : yesM s with
  | true =>
    rw [hy] at a2
    rw [hy, if_pos rfl] at hfi
    repeat' first
      | refine awp_seq ?_
      | refine awp_block ?_
      | refine awp_skip ?_
      | (refine reg _ (by (simp only [List.map_cons, List.map_nil]; rfl)) rfl ?_; intro K hK)
      | (refine awp_cond _ (by rfl) ?_ ?_ <;> (intro hb; first | (cases hb; done) | (have ht : true = true := hb; clear ht hb) | (have ht : false = false := hb; clear ht hb) | (simp only [hb]) | skip))
      | (refine awp_exit ?_; simp only [thenA, blockA, scopeA, reduceIte, RetQ, Nat.reduceEqDiff])
      | (refine awp_ret ?_; simp only [thenA, blockA, scopeA, RetQ])
      | (refine ev_nil (hK _ ?_); clear hK K)
      | (apply ev_call0; (case hys => (simp only [go_sem, hdec, hx]; try rfl)); (case hs => first | exact hm .. | exact a2 ..); (case hok | hσ => (simp only [go_sem, hdec, hx]; try rfl)))
      | (apply ev_step0; (case hr | hσ => (simp only [go_sem, hdec, hx]; try rfl)); (case hc => (first | trivial | exact look_ok (by kernel_rfl) (by kernel_rfl) | decide | (simp only [inB, sliceOk, appendOk, rowsOk]; omega) | (simp [inB, sliceOk, appendOk, rowsOk]; omega))))
      | (apply ev_step; (case hr => (simp only [go_sem, hdec, hx]; try rfl)); (case hσ => (intro g u; simp only [go_sem, hdec, hx]; try rfl)); (case hc => (first | trivial | exact look_ok (by kernel_rfl) (by kernel_rfl) | decide | (simp only [inB, sliceOk, appendOk, rowsOk]; omega) | (simp [inB, sliceOk, appendOk, rowsOk]; omega))); intro g u; (try clear u); (try clear g))
      | fail
    refine Exists.intro (i + 1) ⟨⟨by omega, hfi⟩, by omega, ?_⟩
    refine Wk.mk ?_ ?_
    all_goals (repeat' first | exact trivial | exact LeA.refl _ | exact LeA.any _ | exact LeO.refl _ | exact LeO.no _ | exact LeA.nil _ | exact LeA.nilOwn _ | exact LeO.nil _ _ _ | refine LeO.box ?_ | (refine LeA.i ?_; (first | rfl | (push_cast; rfl) | (rw [wrap_id (by omega)]; push_cast; omega) | (simp [wrap_id]; omega))) | refine ⟨?_, ?_⟩)
  | false =>
    rw [hy] at a2
    rw [hy, if_neg Bool.false_ne_true] at hfi
    repeat' first
      | refine awp_seq ?_
      | refine awp_block ?_
      | refine awp_skip ?_
      | (refine reg _ (by (simp only [List.map_cons, List.map_nil]; rfl)) rfl ?_; intro K hK)
      | (refine awp_cond _ (by rfl) ?_ ?_ <;> (intro hb; first | (cases hb; done) | (have ht : true = true := hb; clear ht hb) | (have ht : false = false := hb; clear ht hb) | (simp only [hb]) | skip))
      | (refine awp_exit ?_; simp only [thenA, blockA, scopeA, reduceIte, RetQ, Nat.reduceEqDiff])
      | (refine awp_ret ?_; simp only [thenA, blockA, scopeA, RetQ])
      | (refine ev_nil (hK _ ?_); clear hK K)
      | (apply ev_call0; (case hys => (simp only [go_sem, hdec, hx]; try rfl)); (case hs => first | exact hm .. | exact a2 ..); (case hok | hσ => (simp only [go_sem, hdec, hx]; try rfl)))
      | (apply ev_step0; (case hr | hσ => (simp only [go_sem, hdec, hx]; try rfl)); (case hc => (first | trivial | exact look_ok (by kernel_rfl) (by kernel_rfl) | decide | (simp only [inB, sliceOk, appendOk, rowsOk]; omega) | (simp [inB, sliceOk, appendOk, rowsOk]; omega))))
      | (apply ev_step; (case hr => (simp only [go_sem, hdec, hx]; try rfl)); (case hσ => (intro g u; simp only [go_sem, hdec, hx]; try rfl)); (case hc => (first | trivial | exact look_ok (by kernel_rfl) (by kernel_rfl) | decide | (simp only [inB, sliceOk, appendOk, rowsOk]; omega) | (simp [inB, sliceOk, appendOk, rowsOk]; omega))); intro g u; (try clear u); (try clear g))
      | fail
    all_goals (refine resR_one T_ok rfl _ (by (simp only [go_sem, resA]; rfl)) (by first | trivial | (simp only [go_sem, resA])) (by first | trivial | (simp only [go_sem])) ?_; simp only [go_sem])
    rw [hfi]
    exact LeA.refl _
end
section
set_option linter.unusedVariables false
set_option linter.unusedSimpArgs false
open Go.RowKit
abbrev numV (n : Int) : Vl := ⟨2, n, ⟨#[]⟩⟩
abbrev noStr : Vl := ⟨3, 0, ⟨#[]⟩⟩
theorem noS_e : noS ⟨#[]⟩ = true := beq_self_eq_true _
theorem graphic_e : graphicB ⟨#[]⟩ = true := rfl
theorem wide_num (n : Int) : wideV (numV n) = small n := by
  have h : checkV (numV n) 4000000000000000000 = (decide (n ≥ -4000000000000000000) && decide (n ≤ 4000000000000000000) && noS ⟨#[]⟩) := by
    unfold checkV
    rw [if_neg (show ¬ (2 : Int) = 0 by decide), if_neg (show ¬ (2 : Int) = 1 by decide), if_pos rfl]
  rw [wideV, h, noS_e, Bool.and_true]; rfl
theorem wide_null : wideV nullV = true := by
  have h : checkV nullV 4000000000000000000 = ((0 : Int) == 0 && noS ⟨#[]⟩) := by
    unfold checkV
    rw [if_pos rfl]
  rw [wideV, h, noS_e]; rfl
theorem wide_str : wideV noStr = true := by
  have h : checkV noStr 4000000000000000000 = ((0 : Int) == 0 && decide (((⟨#[]⟩ : ByteArray).size : Int) ≤ 40) && graphicB ⟨#[]⟩) := by
    unfold checkV
    rw [if_neg (by decide), if_neg (by decide), if_neg (by decide), if_pos rfl]
  rw [wideV, h, graphic_e]; rfl
theorem null_num (n : Int) : isNull (numV n) = false := rfl
theorem null_null : isNull nullV = true := by
  show ((0 : Int) == 0 && ((0 : Int) == 0 && noS ⟨#[]⟩)) = true
  rw [noS_e]; rfl
theorem null_str : isNull noStr = false := rfl
theorem cmp_num (a b : Int) : cmpV (numV a) (numV b) = cmpI a b := by
  simp only [cmpV, cmpI_self, cmpB_self, firstNZ, if_true]
  split
  · rename_i h; exact h.symm
  · rfl
abbrev wantB : Bd := ⟨1, true, numV (-1500000), numV 3000000, 1500000⟩
theorem small_c {n : Int} (h : (decide (-4000000000000000000 ≤ n) && decide (n ≤ 4000000000000000000)) = true) : small n = true := h
theorem of_null (b : Bd) (l : List Vl) : ofS b (nullV :: l) = ofS ⟨b.nulls + 1, b.has, b.lo, b.hi, b.sum⟩ l := by
  have h1 : badV b nullV = false := by
    unfold badV
    rw [wide_null, null_null]; rfl
  rw [ofS, h1, if_neg Bool.false_ne_true, if_pos null_null]
theorem of_first (k s : Int) (x y v : Vl) (l : List Vl) (hw : wideV v = true) (hn : isNull v = false) : ofS ⟨k, false, x, y, s⟩ (v :: l) = ofS ⟨k, true, v, v, s⟩ l := by
  have h1 : badV ⟨k, false, x, y, s⟩ v = false := by
    unfold badV
    rw [hw, hn]; rfl
  have h2 : ofIn ⟨k, false, x, y, s⟩ v = ⟨k, true, v, v, s⟩ := by
    simp [ofIn, startV, lowV, highV, cmpV_self]
  rw [ofS, h1, if_neg Bool.false_ne_true, hn, if_neg Bool.false_ne_true, h2]
theorem of_num (k s a b n : Int) (l : List Vl) (hs : small n = true) : ofS ⟨k, true, numV a, numV b, s⟩ (numV n :: l) = ofS ⟨k, true, if cmpI n a < 0 then numV n else numV a, if cmpI n b > 0 then numV n else numV b, s⟩ l := by
  have h1 : badV ⟨k, true, numV a, numV b, s⟩ (numV n) = false := by
    unfold badV
    rw [wide_num, hs]; rfl
  have h2 : ofIn ⟨k, true, numV a, numV b, s⟩ (numV n) = ⟨k, true, if cmpI n a < 0 then numV n else numV a, if cmpI n b > 0 then numV n else numV b, s⟩ := by
    simp only [ofIn, startV, if_true, lowV, highV, cmp_num]
    by_cases c1 : cmpI n a < 0
    · simp only [c1, if_true, cmp_num]
      by_cases c2 : cmpI n b > 0 <;> simp only [c2, if_true, if_false]
    · simp only [c1, if_false, cmp_num]
      by_cases c2 : cmpI n b > 0 <;> simp only [c2, if_true, if_false]
  rw [ofS, h1, if_neg Bool.false_ne_true, null_num, if_neg Bool.false_ne_true, h2]
theorem ex1 : ofM [numV 3000000, nullV, numV (-1500000)] = (wantB, 0) := by
  have e1 : numsV [numV 3000000, nullV, numV (-1500000)] = [3000000, -1500000] := rfl
  have e2 : sumD [3000000, -1500000] = (1500000, 0) := rfl
  have e3 : ofS zeroBd [numV 3000000, nullV, numV (-1500000)] = some ⟨1, true, numV (-1500000), numV 3000000, 0⟩ := by
    rw [of_first _ _ _ _ _ _ (by rw [wide_num]; rfl) rfl, of_null, of_num _ _ _ _ _ _ rfl]
    rfl
  unfold ofM
  rw [e3, e1, e2]; rfl
theorem ex2 : ofM [numV 1000000, noStr] = (zeroBd, 6) := by
  have e3 : ofS zeroBd [numV 1000000, noStr] = none := by
    rw [of_first _ _ _ _ _ _ (by rw [wide_num]; rfl) rfl, ofS]
    simp only [badV, wide_str, null_str]
    rfl
  unfold ofM
  rw [e3]
theorem ex3 : ofM [numV 9000000] = (⟨0, true, numV 9000000, numV 9000000, 9000000⟩, 0) := by
  have e1 : numsV [numV 9000000] = [9000000] := rfl
  have e2 : sumD [9000000] = (9000000, 0) := rfl
  have e3 : ofS zeroBd [numV 9000000] = some ⟨0, true, numV 9000000, numV 9000000, 0⟩ := by
    rw [of_first _ _ _ _ _ _ (by rw [wide_num]; rfl) rfl, ofS]
  unfold ofM
  rw [e3, e1, e2]; rfl
theorem ex4 : ofM [noStr] = (⟨0, true, noStr, noStr, 0⟩, 0) := by
  have e1 : numsV [noStr] = [] := rfl
  have e2 : sumD [] = (0, 0) := rfl
  have e3 : ofS zeroBd [noStr] = some ⟨0, true, noStr, noStr, 0⟩ := by
    rw [of_first _ _ _ _ _ _ wide_str rfl, ofS]
  unfold ofM
  rw [e3, e1, e2]; rfl
theorem ex5 : ofM [numV 4000000000000000000, numV 1] = (zeroBd, 2) := by
  have e1 : numsV [numV 4000000000000000000, numV 1] = [4000000000000000000, 1] := rfl
  have e2 : sumD [4000000000000000000, 1] = (0, 2) := rfl
  have e3 : ofS zeroBd [numV 4000000000000000000, numV 1] = some ⟨0, true, numV 1, numV 4000000000000000000, 0⟩ := by
    rw [of_first _ _ _ _ _ _ (by rw [wide_num]; rfl) rfl, of_num _ _ _ _ _ _ rfl]
    rfl
  unfold ofM
  rw [e3, e1, e2]; rfl
theorem ex6 : ofM [] = (zeroBd, 0) := rfl
theorem valid_num {n lo hi s : Int} (hn : (decide (0 ≤ n) && decide (n ≤ 4000000000000000000) && small s && small lo && small hi && decide (cmpI lo hi ≤ 0)) = true) : validB ⟨n, true, numV lo, numV hi, s⟩ = true := by
  simp only [Bool.and_eq_true, decide_eq_true_eq] at hn
  obtain ⟨⟨⟨⟨⟨h1, h2⟩, h3⟩, h4⟩, h5⟩, h6⟩ := hn
  have h3' := small_iff.1 h3
  unfold validB
  simp only [wide_num, null_num, cmp_num, h4, h5]
  rw [if_neg (by rw [decide_eq_true_eq]; omega), if_neg (by rw [decide_eq_true_eq]; omega), if_neg (by rw [decide_eq_true_eq]; omega), if_neg (by rw [decide_eq_true_eq]; omega), if_neg (by decide), if_neg (by decide), if_neg (by decide), if_neg (by decide), if_neg (by decide), if_neg (by rw [decide_eq_true h6]; decide)]
  rfl
theorem valid_want : validB wantB = true := valid_num rfl
theorem valid_odd : validB ⟨0, true, nullV, nullV, 0⟩ = false := by
  unfold validB
  simp only [wide_null, null_null]
  rfl
theorem valid_str : validB ⟨0, true, noStr, noStr, 0⟩ = true := by
  unfold validB
  simp only [wide_str, null_str, cmpV_self]
  rfl
theorem in_null : containsB wantB nullV = true := by
  unfold containsB
  rw [valid_want, wide_null, null_null]; rfl
theorem in_num (n : Int) (h : small n = true) : containsB wantB (numV n) = (decide (cmpI (-1500000) n ≤ 0) && decide (cmpI n 3000000 ≤ 0)) := by
  unfold containsB
  rw [valid_want, wide_num, null_num, h]
  simp only [cmp_num]
  cases decide (cmpI (-1500000) n ≤ 0) <;> rfl
theorem merge1 : mergeM wantB ⟨0, true, numV 9000000, numV 9000000, 9000000⟩ = (⟨1, true, numV (-1500000), numV 9000000, 10500000⟩, 0) := by
  have e : validB ⟨0, true, numV 9000000, numV 9000000, 9000000⟩ = true := valid_num rfl
  unfold mergeM
  rw [valid_want, e]
  simp only [cmp_num]
  rfl
theorem merge2 : mergeM wantB ⟨0, true, noStr, noStr, 0⟩ = (zeroBd, 6) := by
  unfold mergeM
  rw [valid_want, valid_str]
  rfl
abbrev colSp : Sp := ⟨true, true, numV (-1500000), numV 3000000⟩
abbrev numSp (n : Int) : Sp := ⟨false, true, numV n, numV n⟩
theorem eqVl_self (v : Vl) : eqVl v v = true := by simp [eqVl]
theorem eqVl_num (a b : Int) : eqVl (numV a) (numV b) = (a == b) := by
  simp [eqVl]
theorem bool_eq (a b : Bool) : eqVl (boolV a) (boolV b) = (a == b) := by
  cases a <;> cases b <;> simp [eqVl, boolV]
theorem yes1 : yesM (strictM (numSp 3000000) colSp (lessM (numSp 3000000) colSp)) = false := by
  simp only [strictM, lessM, cmp_num, yesM, truthM]
  exact (bool_eq false true)
theorem yes2 : yesM (strictM colSp (numSp 4000000) (equalM colSp (numSp 4000000))) = false := by
  simp only [strictM, equalM, apartM, cmp_num, eqVl_num, yesM, truthM]
  exact (bool_eq false true)
theorem yes3 : truthsM (strictM colSp (numSp 0) (equalM colSp (numSp 0))) = [litB true, litB true, litB true] := by
  have h1 : yesM (strictM colSp (numSp 0) (equalM colSp (numSp 0))) = true := by
    simp only [strictM, equalM, apartM, cmp_num, eqVl_num, yesM, truthM]
    exact (bool_eq true true)
  have h2 : noM (strictM colSp (numSp 0) (equalM colSp (numSp 0))) = true := by
    simp only [strictM, equalM, apartM, cmp_num, eqVl_num, noM, truthM]
    exact (bool_eq false false)
  unfold truthsM
  rw [h1, h2]; rfl
theorem yes4 : yesM (strictM colSp (numSp 0) (equalM colSp (numSp 0))) = true := by
  simp only [strictM, equalM, apartM, cmp_num, eqVl_num, yesM, truthM]
  exact (bool_eq true true)
end
section
set_option linter.unusedVariables false
set_option linter.unusedSimpArgs false
open Go.RowKit
theorem ok_num {n : Int} (h : -9223372036854775808 ≤ n ∧ n ≤ 9223372036854775807) : VlOk (numV n) := ⟨h, by show (0 : Nat) ≤ _; omega⟩
theorem ok_null : VlOk nullV := ⟨by decide, by show (0 : Nat) ≤ _; omega⟩
theorem ok_str : VlOk noStr := ⟨by decide, by show (0 : Nat) ≤ _; omega⟩
theorem bok_want : BdOk wantB := ⟨ok_num (by decide), ok_num (by decide), by decide⟩
theorem w_spec (n m : Int) (h : n * 1000000 = m) (hn : -1000000 ≤ n ∧ n ≤ 1000000) : Spec Tryd.prog 26 [litI .i64 n] (.agg (vl (numV m))) := by
  have := f26_spec n hn
  rw [h] at this
  exact this
theorem o1 : Spec Tryd.prog 12 [.d (vls [numV 3000000, nullV, numV (-1500000)])] (.agg (got (wantB, 0))) := by
  have h := f12_spec [numV 3000000, nullV, numV (-1500000)] (by
    intro v hv
    simp only [List.mem_cons, List.not_mem_nil, or_false] at hv
    rcases hv with rfl | rfl | rfl
    · exact ok_num (by decide)
    · exact ok_null
    · exact ok_num (by decide)) (by decide)
  rw [ex1] at h
  exact h
theorem o2 : Spec Tryd.prog 12 [.d (vls [numV 1000000, noStr])] (.agg (got (zeroBd, 6))) := by
  have h := f12_spec [numV 1000000, noStr] (by
    intro v hv
    simp only [List.mem_cons, List.not_mem_nil, or_false] at hv
    rcases hv with rfl | rfl
    · exact ok_num (by decide)
    · exact ok_str) (by decide)
  rw [ex2] at h
  exact h
abbrev nineB : Bd := ⟨0, true, numV 9000000, numV 9000000, 9000000⟩
abbrev strB : Bd := ⟨0, true, noStr, noStr, 0⟩
theorem o3 : Spec Tryd.prog 12 [.d (vls [numV 9000000])] (.agg (got (nineB, 0))) := by
  have h := f12_spec [numV 9000000] (by
    intro v hv
    simp only [List.mem_cons, List.not_mem_nil, or_false] at hv
    subst hv
    exact ok_num (by decide)) (by decide)
  rw [ex3] at h
  exact h
theorem o4 : Spec Tryd.prog 12 [.d (vls [noStr])] (.agg (got (strB, 0))) := by
  have h := f12_spec [noStr] (by
    intro v hv
    simp only [List.mem_cons, List.not_mem_nil, or_false] at hv
    subst hv
    exact ok_str) (by decide)
  rw [ex4] at h
  exact h
theorem o5 : Spec Tryd.prog 12 [.d (vls [numV 4000000000000000000, numV 1])] (.agg (got (zeroBd, 2))) := by
  have h := f12_spec [numV 4000000000000000000, numV 1] (by
    intro v hv
    simp only [List.mem_cons, List.not_mem_nil, or_false] at hv
    rcases hv with rfl | rfl
    · exact ok_num (by decide)
    · exact ok_num (by decide)) (by decide)
  rw [ex5] at h
  exact h
theorem o6 : Spec Tryd.prog 12 [.d (vls [])] (.agg (got (zeroBd, 0))) := by
  have h := f12_spec [] (by intro v hv; cases hv) (by decide)
  rw [ex6] at h
  exact h
theorem Spec.args {P : Program} {f : Nat} {xs ys : List AV} {r : AV} (h : LeL xs ys) (hs : Spec P f ys r) : Spec P f xs r := ⟨hs.1, fun w hW C hC vs hvs => hs.2 w hW C hC vs (h.has hvs)⟩
theorem o6n : Spec Tryd.prog 12 [.d (.lit (.slice none 0 0))] (.agg (got (zeroBd, 0))) := Spec.args (ys := [.d (vls [])]) ⟨LeA.nil _, trivial⟩ o6
theorem v1 : Spec Tryd.prog 16 [.agg (bd wantB)] (litB true) := by
  have h := f16_spec wantB bok_want.lo.s bok_want.hi.s
  rw [valid_want] at h
  exact h
theorem v2 : Spec Tryd.prog 16 [.agg (bd ⟨0, true, nullV, nullV, 0⟩)] (litB false) := by
  have h := f16_spec ⟨0, true, nullV, nullV, 0⟩ ok_null.s ok_null.s
  rw [valid_odd] at h
  exact h
theorem i1 : Spec Tryd.prog 18 [.agg (bd wantB), .agg (vl nullV)] (litB true) := by
  have h := f18_spec wantB nullV bok_want ok_null.s
  rw [in_null] at h
  exact h
theorem i2 : Spec Tryd.prog 18 [.agg (bd wantB), .agg (vl (numV 0))] (litB true) := by
  have h := f18_spec wantB (numV 0) bok_want (ok_num (by decide)).s
  rw [in_num 0 rfl] at h
  exact h
theorem i3 : Spec Tryd.prog 18 [.agg (bd wantB), .agg (vl (numV 4000000))] (litB false) := by
  have h := f18_spec wantB (numV 4000000) bok_want (ok_num (by decide)).s
  rw [in_num 4000000 rfl] at h
  exact h
theorem m1 : Spec Tryd.prog 14 [.agg (bd wantB), .agg (bd nineB)] (.agg (got (⟨1, true, numV (-1500000), numV 9000000, 10500000⟩, 0))) := by
  have h := f14_spec wantB nineB bok_want ⟨ok_num (by decide), ok_num (by decide), by decide⟩
  rw [merge1] at h
  exact h
theorem m2 : Spec Tryd.prog 14 [.agg (bd wantB), .agg (bd strB)] (.agg (got (zeroBd, 6))) := by
  have h := f14_spec wantB strB bok_want ⟨ok_str, ok_str, by decide⟩
  rw [merge2] at h
  exact h
abbrev colE : Ex := .leaf 2 0 nullV
abbrev numE (n : Int) : Ex := .leaf 1 0 (numV n)
theorem r_col : Spec Tryd.prog 43 [.d (bds [wantB]), .agg (exA colE)] (.agg (sp colSp)) := f43_col [wantB] 0 nullV (by decide)
theorem r_num (n : Int) : Spec Tryd.prog 43 [.d (bds [wantB]), .agg (exA (numE n))] (.agg (sp (numSp n))) := f43_const _ 0 (numV n)
theorem n1 : Spec Tryd.prog 23 [.d (bds [wantB]), .agg (exA (.bi 4 (numE 3000000) colE))] (litB true) := by
  have h := f23_spec (bds [wantB]) (.bi 4 (numE 3000000) colE) [.bi 4 (numE 3000000) colE] (fun _ => strictM (numSp 3000000) colSp (lessM (numSp 3000000) colSp)) (fun p hp => by
    simp only [List.mem_cons, List.not_mem_nil, or_false] at hp
    subst hp
    exact f43_op4 _ _ _ _ _ _ (r_num 3000000) r_col (f111_spec _ _)) (f49_one _ (by decide)) (by decide)
  rw [neverM, yes1, if_neg Bool.false_ne_true] at h
  exact h
theorem r_eq (n : Int) : Spec Tryd.prog 43 [.d (bds [wantB]), .agg (exA (.bi 3 colE (numE n)))] (.agg (sp (strictM colSp (numSp n) (equalM colSp (numSp n))))) := f43_op3 _ _ _ _ _ _ r_col (r_num n) (f110_spec _ _)
theorem n2 : Spec Tryd.prog 23 [.d (bds [wantB]), .agg (exA (.bi 3 colE (numE 4000000)))] (litB true) := by
  have h := f23_spec (bds [wantB]) (.bi 3 colE (numE 4000000)) [.bi 3 colE (numE 4000000)] (fun _ => strictM colSp (numSp 4000000) (equalM colSp (numSp 4000000))) (fun p hp => by
    simp only [List.mem_cons, List.not_mem_nil, or_false] at hp
    subst hp
    exact r_eq 4000000) (f49_one _ (by decide)) (by decide)
  rw [neverM, yes2, if_neg Bool.false_ne_true] at h
  exact h
theorem n3 : Spec Tryd.prog 23 [.d (bds [wantB]), .agg (exA (.bi 3 colE (numE 0)))] (litB false) := by
  have h := f23_spec (bds [wantB]) (.bi 3 colE (numE 0)) [.bi 3 colE (numE 0)] (fun _ => strictM colSp (numSp 0) (equalM colSp (numSp 0))) (fun p hp => by
    simp only [List.mem_cons, List.not_mem_nil, or_false] at hp
    subst hp
    exact r_eq 0) (f49_one _ (by decide)) (by decide)
  rw [neverM, yes4, if_pos rfl] at h
  exact h
theorem t1 : Spec Tryd.prog 21 [.d (bds [wantB]), .agg (exA (.bi 3 colE (numE 0)))] (.agg [litB true, litB true, litB true]) := by
  have h := f21_spec (bds [wantB]) (.bi 3 colE (numE 0)) _ (r_eq 0)
  rw [yes3] at h
  exact h
end
section
set_option linter.unusedVariables false
set_option linter.unusedSimpArgs false
open Go.RowKit
attribute [local irreducible] Spec SpecF SpecN
attribute [local irreducible] AWp evOps evD
set_option maxHeartbeats 16000000 in
set_option maxRecDepth 100000 in
theorem f7_spec : Spec Tryd.prog 7 [] (litB true) := by
  have w3 := w_spec 3 3000000 (by decide) (by decide)
  have w0' := w_spec 0 0 (by decide) (by decide)
  have w4 := w_spec 4 4000000 (by decide) (by decide)
  have w1 := w_spec 1 1000000 (by decide) (by decide)
  have w9 := w_spec 9 9000000 (by decide) (by decide)
  have u1 := f28_spec (-1500000)
  have u2 := f28_spec 4000000000000000000
  have u3 := f28_spec 1
  have us := f29_spec ⟨#[]⟩
  have un := f27_spec
  have o1 := o1
  have o2 := o2
  have o3 := o3
  have o4 := o4
  have o5 := o5
  have o6 := o6n
  have v1 := v1
  have v2 := v2
  have i1 := i1
  have i2 := i2
  have i3 := i3
  have m1 := m1
  have m2 := m2
  have n1 := n1
  have n2 := n2
  have n3 := n3
  have t1 := t1
  have k3 := f31_spec (numV 3000000)
  have k4 := f31_spec (numV 4000000)
  have k0 := f31_spec (numV 0)
  have kc := f32_spec
  have q1 := f30_spec 4 (numE 3000000) colE
  have q2 := f30_spec 3 colE (numE 4000000)
  have q3 := f30_spec 3 colE (numE 0)
  simp only [vls, bds, List.map_cons, List.map_nil, exA, opE, cE, vE, argsD, opE_bi, cE_bi, vE_bi, argsD_bi] at *
  refine spec_of_awp (fn := Tryd.f7) Tryd.func7 (by kernel_rfl) rfl ?_
  intro w0 C0
  simp only [Tryd.ntmps7, litI, litB, litS, List.length_cons, List.length_nil, Nat.reduceAdd, Nat.reduceSub, List.replicate_succ, List.replicate_zero, List.cons_append, List.nil_append]
  repeat' first
    | refine awp_seq ?_
    | refine awp_block ?_
    | refine awp_skip ?_
    | (refine reg _ (by (simp only [List.map_cons, List.map_nil]; rfl)) rfl ?_; intro K hK)
    | (refine awp_cond _ (by rfl) ?_ ?_ <;> (intro hb; first | (cases hb; done) | (have ht : true = true := hb; clear ht hb) | (have ht : false = false := hb; clear ht hb) | (simp only [hb]) | skip))
    | (refine awp_exit ?_; simp only [thenA, blockA, scopeA, reduceIte, RetQ, Nat.reduceEqDiff])
    | (refine awp_ret ?_; simp only [thenA, blockA, scopeA, RetQ])
    | (refine ev_nil (hK _ ?_); clear hK K)
    | (apply ev_guardU; (case hj | hu | hσ => (simp only [go_sem, beq_self_eq_true, Bool.and_self]; try rfl)))
    | (refine ev_guardT _ _ (by (simp only [go_sem, beq_self_eq_true, Bool.and_self]; rfl)) (by (simp only [go_sem, beq_self_eq_true, Bool.and_self]; rfl)) ?_ ?_ <;> (intro hb; first | (cases hb; done) | (have ht : true = true := hb; clear ht hb) | (have ht : false = false := hb; clear ht hb) | (simp only [hb]) | skip))
    | (refine ev_guardF _ _ (by (simp only [go_sem, beq_self_eq_true, Bool.and_self]; rfl)) (by (simp only [go_sem, beq_self_eq_true, Bool.and_self]; rfl)) ?_ ?_ <;> (intro hb; first | (cases hb; done) | (have ht : true = true := hb; clear ht hb) | (have ht : false = false := hb; clear ht hb) | (simp only [hb]) | skip))
    | (apply ev_call0; (case hys => (simp only [go_sem, beq_self_eq_true, Bool.and_self]; try rfl)); (case hs => first | exact w3 .. | exact w0' .. | exact w4 .. | exact w1 .. | exact w9 .. | exact u1 .. | exact u2 .. | exact u3 .. | exact us .. | exact un .. | exact o1 .. | exact o2 .. | exact o3 .. | exact o4 .. | exact o5 .. | exact o6 .. | exact v1 .. | exact v2 .. | exact i1 .. | exact i2 .. | exact i3 .. | exact m1 .. | exact m2 .. | exact n1 .. | exact n2 .. | exact n3 .. | exact t1 .. | exact k3 .. | exact k4 .. | exact k0 .. | exact kc .. | exact q1 .. | exact q2 .. | exact q3 ..); (case hok | hσ => (simp only [go_sem, beq_self_eq_true, Bool.and_self]; try rfl)))
    | (apply regD; (case hd => (simp only [List.map_cons, List.map_nil]; rfl)); (case hok => rfl); (case' h => (intro K hK; (repeat' first
        | (apply evd_nil; refine (hK _ ?_); clear hK K)
        | (apply evd_guardU0; (case hj | hu | hσ => (simp only [go_sem, beq_self_eq_true, Bool.and_self]; try rfl)))
        | (apply evd_guardU; (case hj | hu | hσ => (simp only [go_sem, beq_self_eq_true, Bool.and_self]; try rfl)))
        | (apply evd_skipT0; (case hj | hb | hσ => (simp only [go_sem, beq_self_eq_true, Bool.and_self]; try rfl)))
        | (apply evd_skipF0; (case hj | hb | hσ => (simp only [go_sem, beq_self_eq_true, Bool.and_self]; try rfl)))
        | (apply evd_skipT; (case hj | hb | hσ => (simp only [go_sem, beq_self_eq_true, Bool.and_self]; try rfl)))
        | (apply evd_skipF; (case hj | hb | hσ => (simp only [go_sem, beq_self_eq_true, Bool.and_self]; try rfl)))
        | (apply evd_guardT; (case hj | hb => (simp only [go_sem, beq_self_eq_true, Bool.and_self]; try rfl)); (case' h2 => (intro hb; first | (cases hb; done) | (simp only [hb]) | skip)); (case' h1 => (intro hb; first | (cases hb; done) | (simp only [hb]) | skip)))
        | (apply evd_guardF; (case hj | hb => (simp only [go_sem, beq_self_eq_true, Bool.and_self]; try rfl)); (case' h2 => (intro hb; first | (cases hb; done) | (simp only [hb]) | skip)); (case' h1 => (intro hb; first | (cases hb; done) | (simp only [hb]) | skip)))
        | (apply evd_call0; (case hi | hys => (simp only [go_sem, beq_self_eq_true, Bool.and_self]; try rfl)); (case hs => first | exact w3 .. | exact w0' .. | exact w4 .. | exact w1 .. | exact w9 .. | exact u1 .. | exact u2 .. | exact u3 .. | exact us .. | exact un .. | exact o1 .. | exact o2 .. | exact o3 .. | exact o4 .. | exact o5 .. | exact o6 .. | exact v1 .. | exact v2 .. | exact i1 .. | exact i2 .. | exact i3 .. | exact m1 .. | exact m2 .. | exact n1 .. | exact n2 .. | exact n3 .. | exact t1 .. | exact k3 .. | exact k4 .. | exact k0 .. | exact kc .. | exact q1 .. | exact q2 .. | exact q3 ..); (case hok | hw | hσ => (simp only [go_sem, beq_self_eq_true, Bool.and_self]; try rfl)))
        | (apply evd_step0; (case hr | hi | hσ => (simp only [go_sem, beq_self_eq_true, Bool.and_self]; try rfl)); (case hc => (first | trivial | exact look_ok (by kernel_rfl) (by kernel_rfl) | decide | (simp only [inB, sliceOk, appendOk, rowsOk]; omega) | (simp [inB, sliceOk, appendOk, rowsOk]; omega))))
        | (apply evd_step; (case hr | hi => (simp only [go_sem, beq_self_eq_true, Bool.and_self]; try rfl)); (case hc => (first | trivial | exact look_ok (by kernel_rfl) (by kernel_rfl) | decide | (simp only [inB, sliceOk, appendOk, rowsOk]; omega) | (simp [inB, sliceOk, appendOk, rowsOk]; omega))); (case hw | hσ => (intro g u; simp only [go_sem, beq_self_eq_true, Bool.and_self]; try rfl)); (case' hk => (intro g u; (try clear u); (try clear g))))
        | fail))); (case hB => kernel_rfl))
    | (apply ev_step0; (case hr | hσ => (simp only [go_sem, beq_self_eq_true, Bool.and_self]; try rfl)); (case hc => (first | trivial | exact look_ok (by kernel_rfl) (by kernel_rfl) | decide | (simp only [inB, sliceOk, appendOk, rowsOk]; omega) | (simp [inB, sliceOk, appendOk, rowsOk]; omega))))
    | (apply ev_step; (case hr => (simp only [go_sem, beq_self_eq_true, Bool.and_self]; try rfl)); (case hσ => (intro g u; simp only [go_sem, beq_self_eq_true, Bool.and_self]; try rfl)); (case hc => (first | trivial | exact look_ok (by kernel_rfl) (by kernel_rfl) | decide | (simp only [inB, sliceOk, appendOk, rowsOk]; omega) | (simp [inB, sliceOk, appendOk, rowsOk]; omega))); intro g u; (try clear u); (try clear g))
    | fail
  all_goals (refine resR_one T_ok rfl _ (by (simp only [go_sem, resA]; rfl)) (by first | trivial | (simp only [go_sem, resA])) (by first | trivial | (simp only [go_sem])) ?_; simp only [go_sem])
  exact LeA.refl _
end
section
set_option linter.unusedVariables false
set_option linter.unusedSimpArgs false
open Go.RowKit
attribute [local irreducible] Spec SpecF SpecN
attribute [local irreducible] AWp evOps evD
def valAt (k : Int) (b : List Int) (j : Nat) : Vl := valM ⟨k, 0, true⟩ (b.getD (2 * j) 0) (b.getD (2 * j + 1) 0)
def valsTo (k : Int) (b : List Int) (n : Nat) : List Vl := (List.range n).map (valAt k b)
def valsN (b : List Int) : Nat := min (b.length / 2) 12
abbrev valsM (k : Int) (b : List Int) : List Vl := valsTo k b (valsN b)
theorem valsTo_succ (k : Int) (b : List Int) (n : Nat) : valsTo k b (n + 1) = valsTo k b n ++ [valAt k b n] := by
  simp [valsTo, List.range_succ]
theorem valsTo_len (k : Int) (b : List Int) (n : Nat) : (valsTo k b n).length = n := by simp [valsTo]
theorem byte_mem {b : List Int} (hb : ∀ x ∈ b, 0 ≤ x ∧ x < 256) (i : Nat) : 0 ≤ b.getD i 0 ∧ b.getD i 0 < 256 := by
  by_cases h : i < b.length
  · exact hb _ (mem_at b 0 h)
  · rw [List.getD_eq_getElem?_getD, List.getElem?_eq_none (by omega)]; simp
set_option maxHeartbeats 4000000 in
theorem f25_spec (k : Int) (b : List Int) (hb : ∀ x ∈ b, 0 ≤ x ∧ x < 256) : Spec Tryd.prog 25 [litI .i64 k, .d (bytesD b)] (.d (vls (valsM k b))) := by
  refine spec_of_awp (fn := Tryd.f25) Tryd.func25 (by kernel_rfl) rfl ?_
  intro w0 C0
  simp only [Tryd.ntmps25, litI, litB, litS, List.length_cons, List.length_nil, Nat.reduceAdd, Nat.reduceSub, List.replicate_succ, List.replicate_zero, List.cons_append, List.nil_append]
  repeat' first
    | refine awp_seq ?_
    | refine awp_block ?_
    | refine awp_skip ?_
    | (refine reg _ (by (simp only [List.map_cons, List.map_nil]; rfl)) rfl ?_; intro K hK)
    | (refine awp_cond _ (by rfl) ?_ ?_ <;> (intro hb; first | (cases hb; done) | (have ht : true = true := hb; clear ht hb) | (have ht : false = false := hb; clear ht hb) | (simp only [hb]) | skip))
    | (refine awp_exit ?_; simp only [thenA, blockA, scopeA, reduceIte, RetQ, Nat.reduceEqDiff])
    | (refine awp_ret ?_; simp only [thenA, blockA, scopeA, RetQ])
    | (refine ev_nil (hK _ ?_); clear hK K)
    | (apply ev_guardU; (case hj | hu | hσ => (simp only [go_sem]; try rfl)))
    | (refine ev_guardT _ _ (by (simp only [go_sem]; rfl)) (by (simp only [go_sem]; rfl)) ?_ ?_ <;> (intro hb; first | (cases hb; done) | (have ht : true = true := hb; clear ht hb) | (have ht : false = false := hb; clear ht hb) | (simp only [hb]) | skip))
    | (refine ev_guardF _ _ (by (simp only [go_sem]; rfl)) (by (simp only [go_sem]; rfl)) ?_ ?_ <;> (intro hb; first | (cases hb; done) | (have ht : true = true := hb; clear ht hb) | (have ht : false = false := hb; clear ht hb) | (simp only [hb]) | skip))
    | (apply ev_step0; (case hr | hσ => (simp only [go_sem]; try rfl)); (case hc => (first | trivial | exact look_ok (by kernel_rfl) (by kernel_rfl) | decide | (simp only [inB, sliceOk, appendOk, rowsOk]; omega) | (simp [inB, sliceOk, appendOk, rowsOk]; omega))))
    | (apply ev_step; (case hr => (simp only [go_sem]; try rfl)); (case hσ => (intro g u; simp only [go_sem]; try rfl)); (case hc => (first | trivial | exact look_ok (by kernel_rfl) (by kernel_rfl) | decide | (simp only [inB, sliceOk, appendOk, rowsOk]; omega) | (simp [inB, sliceOk, appendOk, rowsOk]; omega))); intro g u; (try clear u); (try clear g))
    | fail
  refine awp_loopI (fun j : Nat × Value => j.1 ≤ valsN b) (fun j => valsN b - j.1) (fun j => ⟨[litI .i64 k, .d (bytesD b), .any, .any, .any, .own 7 j.2, litI .i64 ((2 * j.1 : Nat) : Int), .any, .any, .any, .any, .any, .any, .any, .any, .any, .any, .any, .any, .any, .any, .any, .any, .any, .any, .any, .any, .any, .any, .any, .any, .any, .any, .any, .any, .any], [.no, .no, .no, .no, .no, .no, .no, .row j.2 26 3 ((valsTo k b j.1).map vlD), .no, .no, .no, .no, .no, .no, .no, .no, .no, .no, .no, .no, .no, .no, .no, .no, .no, .no, .no, .no, .no, .no, .no, .no, .no, .no, .no, .no]⟩) (0, u) (by simp) ?_ ?_
  · simp only [valsTo, List.range_zero, List.map_nil]
    refine Wk.mk ?_ ?_
    all_goals (repeat' first | exact trivial | exact LeA.refl _ | exact LeA.any _ | exact LeO.refl _ | exact LeO.no _ | exact LeA.nil _ | exact LeA.nilOwn _ | exact LeO.nil _ _ _ | refine LeO.box ?_ | (refine LeA.i ?_; (first | rfl | (push_cast; rfl) | (rw [wrap_id (by omega)]; push_cast; omega) | (simp [wrap_id]; omega))) | refine ⟨?_, ?_⟩)
  rintro ⟨j, v⟩ hj
  simp only [litI, litB] at hj ⊢
  have w1 : IntKind.i64.wrap (((2 * j : Nat) : Int) + 1) = ((2 * j + 1 : Nat) : Int) := by unfold valsN at hj; rw [wrap_id (by omega)]; push_cast; rfl
  by_cases hlt : j < valsN b
  · have h12 : 2 * j + 1 < b.length ∧ j < 12 := by unfold valsN at hlt; omega
    have d1 : decide (((2 * j + 1 : Nat) : Int) < (b.length : Int)) = true := decide_eq_true (by omega)
    have d2 : decide (((2 * j : Nat) : Int) < 24) = true := decide_eq_true (by omega)
    have w2 : IntKind.i64.wrap (((2 * j : Nat) : Int) + 2) = ((2 * (j + 1) : Nat) : Int) := by rw [wrap_id (by omega)]; push_cast; omega
    have hx := bytes_at b (i := 2 * j) (by omega)
    have hy := bytes_at b (i := 2 * j + 1) (by omega)
    have hs := valsTo_succ k b j
    have h50 := f50_spec ⟨k, 0, true⟩ (b.getD (2 * j) 0) (b.getD (2 * j + 1) 0) ⟨by show (0 : Int) ≤ 0; omega, by show (0 : Int) ≤ 6; omega⟩ (byte_mem hb _) (byte_mem hb _)
    have hvl := valsTo_len k b j
    have hbd : 2 * j < b.length := by omega
    have hbd2 : 2 * j + 1 < b.length := by omega
    unfold valAt at hs
    generalize valM ⟨k, 0, true⟩ (b.getD (2 * j) 0) (b.getD (2 * j + 1) 0) = x at *
    generalize valsTo k b j = vs at *
    generalize b.getD (2 * j) 0 = x1 at *
    generalize b.getD (2 * j + 1) 0 = x2 at *
    repeat' first
      | refine awp_seq ?_
      | refine awp_block ?_
      | refine awp_skip ?_
      | (refine reg _ (by (simp only [List.map_cons, List.map_nil]; rfl)) rfl ?_; intro K hK)
      | (refine awp_cond _ (by rfl) ?_ ?_ <;> (intro hb; first | (cases hb; done) | (have ht : true = true := hb; clear ht hb) | (have ht : false = false := hb; clear ht hb) | (simp only [hb]) | skip))
      | (refine awp_exit ?_; simp only [thenA, blockA, scopeA, reduceIte, RetQ, Nat.reduceEqDiff])
      | (refine awp_ret ?_; simp only [thenA, blockA, scopeA, RetQ])
      | (refine ev_nil (hK _ ?_); clear hK K)
      | (apply ev_guardU; (case hj | hu | hσ => (simp only [go_sem, d1, d2, w1, w2, hx, hy]; try rfl)))
      | (refine ev_guardT _ _ (by (simp only [go_sem, d1, d2, w1, w2, hx, hy]; rfl)) (by (simp only [go_sem, d1, d2, w1, w2, hx, hy]; rfl)) ?_ ?_ <;> (intro hb; first | (cases hb; done) | (have ht : true = true := hb; clear ht hb) | (have ht : false = false := hb; clear ht hb) | (simp only [hb]) | skip))
      | (refine ev_guardF _ _ (by (simp only [go_sem, d1, d2, w1, w2, hx, hy]; rfl)) (by (simp only [go_sem, d1, d2, w1, w2, hx, hy]; rfl)) ?_ ?_ <;> (intro hb; first | (cases hb; done) | (have ht : true = true := hb; clear ht hb) | (have ht : false = false := hb; clear ht hb) | (simp only [hb]) | skip))
      | (apply regD; (case hd => (simp only [List.map_cons, List.map_nil]; rfl)); (case hok => rfl); (case' h => (intro K hK; (repeat' first
        | (apply evd_nil; refine (hK _ ?_); clear hK K)
        | (apply evd_call0; (case hi | hys => (simp only [go_sem, d1, d2, w1, w2, hx, hy]; try rfl)); (case hs => first | exact h50 ..); (case hok | hw | hσ => (simp only [go_sem, d1, d2, w1, w2, hx, hy]; try rfl)))
        | (apply evd_step0; (case hr | hi | hσ => (simp only [go_sem, d1, d2, w1, w2, hx, hy]; try rfl)); (case hc => (first | trivial | exact look_ok (by kernel_rfl) (by kernel_rfl) | decide | (simp only [inB, sliceOk, appendOk, rowsOk]; omega) | (simp [inB, sliceOk, appendOk, rowsOk]; omega))))
        | (apply evd_step; (case hr | hi => (simp only [go_sem, d1, d2, w1, w2, hx, hy]; try rfl)); (case hc => (first | trivial | exact look_ok (by kernel_rfl) (by kernel_rfl) | decide | (simp only [inB, sliceOk, appendOk, rowsOk]; omega) | (simp [inB, sliceOk, appendOk, rowsOk]; omega))); (case hw | hσ => (intro g u; simp only [go_sem, d1, d2, w1, w2, hx, hy]; try rfl)); (case' hk => (intro g u; (try clear u); (try clear g))))
        | fail))); (case hB => kernel_rfl))
      | (apply ev_step0; (case hr | hσ => (simp only [go_sem, d1, d2, w1, w2, hx, hy]; try rfl)); (case hc => (first | trivial | exact look_ok (by kernel_rfl) (by kernel_rfl) | decide | (simp only [inB, sliceOk, appendOk, rowsOk]; omega) | (simp [inB, sliceOk, appendOk, rowsOk]; omega))))
      | (apply ev_step; (case hr => (simp only [go_sem, d1, d2, w1, w2, hx, hy]; try rfl)); (case hσ => (intro g u; simp only [go_sem, d1, d2, w1, w2, hx, hy]; try rfl)); (case hc => (first | trivial | exact look_ok (by kernel_rfl) (by kernel_rfl) | decide | (simp only [inB, sliceOk, appendOk, rowsOk]; omega) | (simp [inB, sliceOk, appendOk, rowsOk]; omega))); intro g u; (try clear u); (try clear g))
      | fail
    refine Exists.intro (j + 1, u) ⟨by show j + 1 ≤ _; omega, by show valsN b - (j + 1) < valsN b - j; omega, ?_⟩
    simp only [hs, List.map_append, List.map_cons, List.map_nil]
    refine Wk.mk ?_ ?_
    all_goals (repeat' first | exact trivial | exact LeA.refl _ | exact LeA.any _ | exact LeO.refl _ | exact LeO.no _ | exact LeA.nil _ | exact LeA.nilOwn _ | exact LeO.nil _ _ _ | refine LeO.box ?_ | (refine LeA.i ?_; (first | rfl | (push_cast; rfl) | (rw [wrap_id (by omega)]; push_cast; omega) | (simp [wrap_id]; omega))) | refine ⟨?_, ?_⟩)
  · have hjn : j = valsN b := by omega
    subst hjn
    by_cases h1 : 2 * valsN b + 1 < b.length
    · have d1 : decide (((2 * valsN b + 1 : Nat) : Int) < (b.length : Int)) = true := decide_eq_true (by omega)
      have d2 : decide (((2 * valsN b : Nat) : Int) < 24) = false := decide_eq_false (by unfold valsN at *; omega)
      repeat' first
        | refine awp_seq ?_
        | refine awp_block ?_
        | refine awp_skip ?_
        | (refine reg _ (by (simp only [List.map_cons, List.map_nil]; rfl)) rfl ?_; intro K hK)
        | (refine awp_cond _ (by rfl) ?_ ?_ <;> (intro hb; first | (cases hb; done) | (have ht : true = true := hb; clear ht hb) | (have ht : false = false := hb; clear ht hb) | (simp only [hb]) | skip))
        | (refine awp_exit ?_; simp only [thenA, blockA, scopeA, reduceIte, RetQ, Nat.reduceEqDiff])
        | (refine awp_ret ?_; simp only [thenA, blockA, scopeA, RetQ])
        | (refine ev_nil (hK _ ?_); clear hK K)
        | (apply ev_guardU; (case hj | hu | hσ => (simp only [go_sem, d1, d2, w1]; try rfl)))
        | (refine ev_guardT _ _ (by (simp only [go_sem, d1, d2, w1]; rfl)) (by (simp only [go_sem, d1, d2, w1]; rfl)) ?_ ?_ <;> (intro hb; first | (cases hb; done) | (have ht : true = true := hb; clear ht hb) | (have ht : false = false := hb; clear ht hb) | (simp only [hb]) | skip))
        | (refine ev_guardF _ _ (by (simp only [go_sem, d1, d2, w1]; rfl)) (by (simp only [go_sem, d1, d2, w1]; rfl)) ?_ ?_ <;> (intro hb; first | (cases hb; done) | (have ht : true = true := hb; clear ht hb) | (have ht : false = false := hb; clear ht hb) | (simp only [hb]) | skip))
        | (apply ev_step0; (case hr | hσ => (simp only [go_sem, d1, d2, w1]; try rfl)); (case hc => (first | trivial | exact look_ok (by kernel_rfl) (by kernel_rfl) | decide | (simp only [inB, sliceOk, appendOk, rowsOk]; omega) | (simp [inB, sliceOk, appendOk, rowsOk]; omega))))
        | (apply ev_step; (case hr => (simp only [go_sem, d1, d2, w1]; try rfl)); (case hσ => (intro g u; simp only [go_sem, d1, d2, w1]; try rfl)); (case hc => (first | trivial | exact look_ok (by kernel_rfl) (by kernel_rfl) | decide | (simp only [inB, sliceOk, appendOk, rowsOk]; omega) | (simp [inB, sliceOk, appendOk, rowsOk]; omega))); intro g u; (try clear u); (try clear g))
        | fail
      all_goals (refine resR_one T_ok rfl _ (by (simp only [go_sem, resA]; rfl)) (by first | trivial | (simp only [go_sem, resA])) (by first | trivial | (simp only [go_sem])) ?_; simp only [go_sem])
      exact LeA.refl _
    · have d1 : decide (((2 * valsN b + 1 : Nat) : Int) < (b.length : Int)) = false := decide_eq_false (by omega)
      repeat' first
        | refine awp_seq ?_
        | refine awp_block ?_
        | refine awp_skip ?_
        | (refine reg _ (by (simp only [List.map_cons, List.map_nil]; rfl)) rfl ?_; intro K hK)
        | (refine awp_cond _ (by rfl) ?_ ?_ <;> (intro hb; first | (cases hb; done) | (have ht : true = true := hb; clear ht hb) | (have ht : false = false := hb; clear ht hb) | (simp only [hb]) | skip))
        | (refine awp_exit ?_; simp only [thenA, blockA, scopeA, reduceIte, RetQ, Nat.reduceEqDiff])
        | (refine awp_ret ?_; simp only [thenA, blockA, scopeA, RetQ])
        | (refine ev_nil (hK _ ?_); clear hK K)
        | (apply ev_guardU; (case hj | hu | hσ => (simp only [go_sem, d1, w1]; try rfl)))
        | (refine ev_guardT _ _ (by (simp only [go_sem, d1, w1]; rfl)) (by (simp only [go_sem, d1, w1]; rfl)) ?_ ?_ <;> (intro hb; first | (cases hb; done) | (have ht : true = true := hb; clear ht hb) | (have ht : false = false := hb; clear ht hb) | (simp only [hb]) | skip))
        | (refine ev_guardF _ _ (by (simp only [go_sem, d1, w1]; rfl)) (by (simp only [go_sem, d1, w1]; rfl)) ?_ ?_ <;> (intro hb; first | (cases hb; done) | (have ht : true = true := hb; clear ht hb) | (have ht : false = false := hb; clear ht hb) | (simp only [hb]) | skip))
        | (apply ev_step0; (case hr | hσ => (simp only [go_sem, d1, w1]; try rfl)); (case hc => (first | trivial | exact look_ok (by kernel_rfl) (by kernel_rfl) | decide | (simp only [inB, sliceOk, appendOk, rowsOk]; omega) | (simp [inB, sliceOk, appendOk, rowsOk]; omega))))
        | (apply ev_step; (case hr => (simp only [go_sem, d1, w1]; try rfl)); (case hσ => (intro g u; simp only [go_sem, d1, w1]; try rfl)); (case hc => (first | trivial | exact look_ok (by kernel_rfl) (by kernel_rfl) | decide | (simp only [inB, sliceOk, appendOk, rowsOk]; omega) | (simp [inB, sliceOk, appendOk, rowsOk]; omega))); intro g u; (try clear u); (try clear g))
        | fail
      all_goals (refine resR_one T_ok rfl _ (by (simp only [go_sem, resA]; rfl)) (by first | trivial | (simp only [go_sem, resA])) (by first | trivial | (simp only [go_sem])) ?_; simp only [go_sem])
      exact LeA.refl _
end
section
set_option linter.unusedVariables false
set_option linter.unusedSimpArgs false
open Go.RowKit
/-- A comparison that is a linear order. -/
structure Cmp {α : Type} (c : α → α → Int) : Prop where
  eq : ∀ a b, c a b = 0 ↔ a = b
  anti : ∀ a b, c a b < 0 ↔ 0 < c b a
  trans : ∀ a b d, c a b < 0 → c b d < 0 → c a d < 0
theorem Cmp.gt {α : Type} {c : α → α → Int} (h : Cmp c) {a b : α} : 0 < c a b ↔ c b a < 0 := (h.anti b a).symm
theorem Cmp.self {α : Type} {c : α → α → Int} (h : Cmp c) (a : α) : c a a = 0 := (h.eq a a).2 rfl
theorem Cmp.irr {α : Type} {c : α → α → Int} (h : Cmp c) {a b : α} (hab : c a b < 0) : ¬ c b a < 0 := fun hba => by
  have := h.trans a b a hab hba
  rw [h.self] at this; omega
theorem cmpI_cmp : Cmp cmpI where
  eq a b := cmpI_zero
  anti a b := by unfold cmpI; constructor <;> intro h <;> (repeat' split at h) <;> (repeat' split) <;> omega
  trans a b d := by unfold cmpI; intro h k; (repeat' split at h) <;> (repeat' split at k) <;> (repeat' split) <;> omega
/-- The comparison of lists, the beginnings first. -/
def lexC {α : Type} (c : α → α → Int) : List α → List α → Int
  | [], [] => 0
  | [], _ :: _ => -1
  | _ :: _, [] => 1
  | a :: x, b :: y => if c a b ≠ 0 then c a b else lexC c x y
theorem lexC_cmp {α : Type} {c : α → α → Int} (h : Cmp c) : Cmp (lexC c) where
  eq := by
    intro a
    induction a with
    | nil => intro b; cases b <;> simp [lexC]
    | cons x a ih =>
      intro b
      cases b with
      | nil => simp [lexC]
      | cons y b =>
        simp only [lexC]
        by_cases hxy : c x y = 0
        · rw [if_neg (by simpa using hxy), ih b, (h.eq x y).1 hxy]; simp
        · rw [if_pos hxy]
          constructor
          · intro e; exact absurd e hxy
          · intro e; injection e with e1 _; exact absurd ((h.eq x y).2 e1) hxy
  anti := by
    intro a
    induction a with
    | nil => intro b; cases b <;> simp [lexC]
    | cons x a ih =>
      intro b
      cases b with
      | nil => simp [lexC]
      | cons y b =>
        simp only [lexC]
        by_cases hxy : c x y = 0
        · have hyx : c y x = 0 := by rw [h.eq] at hxy ⊢; exact hxy.symm
          rw [if_neg (by simpa using hxy), if_neg (by simpa using hyx)]; exact ih b
        · have hyx : ¬ c y x = 0 := by rw [h.eq] at hxy ⊢; exact fun e => hxy e.symm
          rw [if_pos hxy, if_pos hyx]; exact h.anti x y
  trans := by
    intro a
    induction a with
    | nil => intro b d; cases b <;> cases d <;> simp [lexC]
    | cons x a ih =>
      intro b d
      cases b with
      | nil => simp [lexC]
      | cons y b =>
        cases d with
        | nil =>
          intro _ h2
          simp [lexC] at h2
        | cons z d =>
          simp only [lexC]
          intro h1 h2
          by_cases hxy : c x y = 0
          · rw [if_neg (by simpa using hxy)] at h1
            have e := (h.eq x y).1 hxy
            subst e
            by_cases hyz : c x z = 0
            · rw [if_neg (by simpa using hyz)] at h2 ⊢; exact ih b d h1 h2
            · rw [if_pos hyz] at h2 ⊢; exact h2
          · rw [if_pos hxy] at h1
            by_cases hyz : c y z = 0
            · have e := (h.eq y z).1 hyz
              subst e
              rw [if_pos hxy]; exact h1
            · rw [if_pos hyz] at h2
              have h3 := h.trans x y z h1 h2
              rw [if_pos (by omega)]; exact h3
def cmpU (a b : UInt8) : Int := if a < b then -1 else if b < a then 1 else 0
theorem cmpU_cmp : Cmp cmpU where
  eq a b := by
    unfold cmpU
    simp only [UInt8.lt_iff_toNat_lt]
    constructor
    · intro h; apply UInt8.toNat_inj.1; (repeat' split at h) <;> omega
    · intro h; subst h; simp
  anti a b := by unfold cmpU; simp only [UInt8.lt_iff_toNat_lt]; constructor <;> intro h <;> (repeat' split at h) <;> (repeat' split) <;> omega
  trans a b d := by unfold cmpU; simp only [UInt8.lt_iff_toNat_lt]; intro h k; (repeat' split at h) <;> (repeat' split at k) <;> (repeat' split) <;> omega
theorem cmpL_lex : ∀ x y, cmpL x y = lexC cmpU x y
  | [], [] => rfl
  | [], _ :: _ => rfl
  | _ :: _, [] => rfl
  | a :: x, b :: y => by
    simp only [cmpL, lexC, cmpL_lex x y]
    by_cases h1 : a < b
    · have : cmpU a b = -1 := by unfold cmpU; rw [if_pos h1]
      rw [if_pos h1, this]; rfl
    · rw [if_neg h1]
      by_cases h2 : b < a
      · have : cmpU a b = 1 := by unfold cmpU; rw [if_neg h1, if_pos h2]
        rw [if_pos h2, this]; rfl
      · have : cmpU a b = 0 := by unfold cmpU; rw [if_neg h1, if_neg h2]
        rw [if_neg h2, this]; rfl
theorem cmpS_cmp : Cmp (fun a b : ByteArray => cmpL a.data.toList b.data.toList) where
  eq a b := by
    simp only [cmpL_lex, (lexC_cmp cmpU_cmp).eq]
    constructor
    · intro h
      obtain ⟨a⟩ := a; obtain ⟨b⟩ := b
      congr
      exact Array.toList_inj.1 h
    · intro h; rw [h]
  anti a b := by simp only [cmpL_lex]; exact (lexC_cmp cmpU_cmp).anti _ _
  trans a b d := by simp only [cmpL_lex]; exact (lexC_cmp cmpU_cmp).trans _ _ _
/-- One comparison behind another one. -/
theorem Cmp.pair {α β γ : Type} {c : α → α → Int} {d : β → β → Int} (hc : Cmp c) (hd : Cmp d) (f : γ → α) (g : γ → β) (hinj : ∀ x y, f x = f y → g x = g y → x = y) : Cmp (fun x y => if c (f x) (f y) ≠ 0 then c (f x) (f y) else d (g x) (g y)) where
  eq x y := by
    by_cases h : c (f x) (f y) = 0
    · simp only [if_neg (show ¬ (c (f x) (f y) ≠ 0) from by simpa using h), hd.eq]
      exact ⟨fun e => hinj x y ((hc.eq _ _).1 h) e, fun e => by rw [e]⟩
    · simp only [if_pos (show c (f x) (f y) ≠ 0 from h)]
      exact ⟨fun e => absurd e h, fun e => absurd ((hc.eq _ _).2 (by rw [e])) h⟩
  anti x y := by
    by_cases h : c (f x) (f y) = 0
    · have h' : c (f y) (f x) = 0 := by rw [hc.eq] at h ⊢; exact h.symm
      simp only [if_neg (show ¬ (c (f x) (f y) ≠ 0) from by simpa using h), if_neg (show ¬ (c (f y) (f x) ≠ 0) from by simpa using h')]
      exact hd.anti _ _
    · have h' : c (f y) (f x) ≠ 0 := fun e => h (by rw [hc.eq] at e ⊢; exact e.symm)
      simp only [if_pos (show c (f x) (f y) ≠ 0 from h), if_pos h']
      exact hc.anti _ _
  trans x y z := by
    intro h1 h2
    by_cases hxy : c (f x) (f y) = 0
    · rw [if_neg (by simpa using hxy)] at h1
      have e := (hc.eq _ _).1 hxy
      by_cases hyz : c (f y) (f z) = 0
      · rw [if_neg (by simpa using hyz)] at h2
        rw [if_neg (by rw [e]; simpa using hyz)]
        exact hd.trans _ _ _ h1 h2
      · rw [if_pos hyz] at h2
        rw [e, if_pos hyz]; exact h2
    · rw [if_pos hxy] at h1
      by_cases hyz : c (f y) (f z) = 0
      · have e := (hc.eq _ _).1 hyz
        rw [← e, if_pos hxy]; exact h1
      · rw [if_pos hyz] at h2
        have h3 := hc.trans _ _ _ h1 h2
        rw [if_pos (by omega)]; exact h3
theorem cmpW_cmp : Cmp cmpW :=
  Cmp.pair (γ := Vl) (f := fun v => v.k) (g := fun v => (v.i, v.s)) cmpI_cmp (d := fun a b : Int × ByteArray => if cmpI a.1 b.1 ≠ 0 then cmpI a.1 b.1 else cmpL a.2.data.toList b.2.data.toList)
    (Cmp.pair (γ := Int × ByteArray) (f := fun v => v.1) (g := fun v => v.2) cmpI_cmp cmpS_cmp (fun x y h1 h2 => Prod.ext h1 h2)) (fun x y h1 h2 => by
      cases x; cases y
      simp only [Prod.mk.injEq] at h1 h2
      obtain ⟨h2, h3⟩ := h2
      subst h1; subst h2; subst h3; rfl) |> fun h => by
  have e : cmpW = fun x y : Vl => if cmpI x.k y.k ≠ 0 then cmpI x.k y.k else if cmpI x.i y.i ≠ 0 then cmpI x.i y.i else cmpL x.s.data.toList y.s.data.toList := by
    funext x y
    unfold cmpW
    simp only [ne_eq, cmpI_zero]
  rw [e]; exact h
theorem eqVl_iff (a b : Vl) : eqVl a b = true ↔ a = b := by
  obtain ⟨ak, ai, a3⟩ := a
  obtain ⟨bk, bi, b3⟩ := b
  simp only [eqVl, Bool.and_eq_true, beq_iff_eq, Vl.mk.injEq, ByteArray.toList_eq]
  constructor
  · rintro ⟨h1, h2, h3⟩
    refine ⟨h1, h2, ?_⟩
    cases a3; cases b3
    congr
    exact Array.toList_inj.1 h3
  · rintro ⟨h1, h2, h3⟩; exact ⟨h1, h2, by rw [h3]⟩
theorem cmpV_cmp : Cmp cmpV := by
  have e : cmpV = cmpW := funext fun a => funext fun b => cmp_same a b
  rw [e]; exact cmpW_cmp
def leV (a b : Vl) : Prop := cmpV a b ≤ 0
theorem leV_refl (a : Vl) : leV a a := by unfold leV; rw [cmpV_cmp.self]; omega
theorem leV_lt {a b : Vl} (h : cmpV a b < 0) : leV a b := by unfold leV; omega
theorem leV_not {a b : Vl} (h : ¬ cmpV a b < 0) : leV b a := by
  unfold leV
  by_cases h0 : cmpV a b = 0
  · rw [(cmpV_cmp.eq _ _).1 h0, cmpV_cmp.self]; omega
  · have := cmpV_cmp.gt.1 (show 0 < cmpV a b by omega)
    omega
theorem leV_gt {a b : Vl} (h : cmpV a b > 0) : leV b a := leV_not (by omega)
theorem leV_trans {a b c : Vl} (h1 : leV a b) (h2 : leV b c) : leV a c := by
  unfold leV at *
  by_cases e1 : cmpV a b = 0
  · rw [(cmpV_cmp.eq _ _).1 e1]; exact h2
  by_cases e2 : cmpV b c = 0
  · rw [← (cmpV_cmp.eq _ _).1 e2]; exact h1
  have := cmpV_cmp.trans a b c (by omega) (by omega)
  omega
theorem leV_anti {a b : Vl} (h1 : leV a b) (h2 : leV b a) : a = b := by
  unfold leV at *
  by_cases e1 : cmpV a b = 0
  · exact (cmpV_cmp.eq _ _).1 e1
  have := (cmpV_cmp.anti a b).1 (by omega)
  omega
end
section
set_option linter.unusedVariables false
set_option linter.unusedSimpArgs false
open Go.RowKit
def nn (l : List Vl) : List Vl := l.filter fun v => !isNull v
def nullsN (l : List Vl) : Nat := (l.filter isNull).length
theorem nn_append (l m : List Vl) : nn (l ++ m) = nn l ++ nn m := List.filter_append ..
theorem nullsN_append (l m : List Vl) : nullsN (l ++ m) = nullsN l + nullsN m := by simp [nullsN, List.filter_append]
theorem nullsN_le (l : List Vl) : nullsN l ≤ l.length := List.length_filter_le _ _
theorem mem_nn {l : List Vl} {v : Vl} : v ∈ nn l ↔ v ∈ l ∧ isNull v = false := by simp [nn]
theorem numsV_append (l m : List Vl) : numsV (l ++ m) = numsV l ++ numsV m := by simp [numsV, List.filter_append]
theorem sumL_append (l m : List Int) : sumL (l ++ m) = sumL l + sumL m := by
  induction l with
  | nil => simp [sumL]
  | cons a l ih => simp only [sumL, List.cons_append, List.foldr_cons] at ih ⊢; rw [ih]; omega
theorem sumL_perm {l m : List Int} (h : l.Perm m) : sumL l = sumL m := by
  induction h with
  | nil => rfl
  | cons x _ ih => simp only [sumL, List.foldr_cons] at ih ⊢; rw [ih]
  | swap x y l => simp only [sumL, List.foldr_cons]; omega
  | trans _ _ h1 h2 => rw [h1, h2]
theorem numsV_perm {l m : List Vl} (h : l.Perm m) : sumL (numsV l) = sumL (numsV m) := sumL_perm ((h.filter _).map _)
/-- What bounds are of a list. -/
structure Is (l : List Vl) (b : Bd) : Prop where
  nulls : b.nulls = (nullsN l : Int)
  has : b.has = true ↔ nn l ≠ []
  lo : b.has = true → b.lo ∈ nn l ∧ ∀ w ∈ nn l, leV b.lo w
  hi : b.has = true → b.hi ∈ nn l ∧ ∀ w ∈ nn l, leV w b.hi
  no : b.has = false → b.lo = nullV ∧ b.hi = nullV
/-- Values of one kind, or null; wide, with small numbers. -/
structure Gd (k : Int) (l : List Vl) : Prop where
  wide : ∀ v ∈ l, wideV v = true
  kind : ∀ v ∈ l, isNull v = false → v.k = k
  num : ∀ v ∈ l, -40000000 ≤ v.i ∧ v.i ≤ 40000000
theorem Gd.sub {k : Int} {l m : List Vl} (h : Gd k l) (hs : ∀ v ∈ m, v ∈ l) : Gd k m := ⟨fun v hv => h.wide v (hs v hv), fun v hv => h.kind v (hs v hv), fun v hv => h.num v (hs v hv)⟩
theorem Gd.append {k : Int} {l m : List Vl} (h : Gd k l) (h' : Gd k m) : Gd k (l ++ m) :=
  ⟨fun v hv => (List.mem_append.1 hv).elim (h.wide v) (h'.wide v), fun v hv => (List.mem_append.1 hv).elim (h.kind v) (h'.kind v), fun v hv => (List.mem_append.1 hv).elim (h.num v) (h'.num v)⟩
theorem Is.zero : Is [] zeroBd := ⟨rfl, by simp [nn], fun h => by simp at h, fun h => by simp at h, fun _ => ⟨rfl, rfl⟩⟩
theorem Is.step_null {p : List Vl} {b : Bd} {v : Vl} (h : Is p b) (hv : isNull v = true) : Is (p ++ [v]) ⟨b.nulls + 1, b.has, b.lo, b.hi, b.sum⟩ := by
  have e : nn (p ++ [v]) = nn p := by rw [nn_append]; simp [nn, hv]
  refine ⟨?_, by rw [e]; exact h.has, by rw [e]; exact h.lo, by rw [e]; exact h.hi, h.no⟩
  rw [nullsN_append, h.nulls]
  simp [nullsN, hv]
theorem ofIn_false (b : Bd) (v : Vl) (h : b.has = false) : ofIn b v = ⟨b.nulls, true, v, v, b.sum⟩ := by
  simp [ofIn, startV, h, lowV, highV, cmpV_self]
theorem ofIn_true (b : Bd) (v : Vl) (h : b.has = true) : ofIn b v = ⟨b.nulls, true, if cmpV v b.lo < 0 then v else b.lo, if cmpV v b.hi > 0 then v else b.hi, b.sum⟩ := by
  obtain ⟨bn, bh, bl, bi, bs'⟩ := b
  simp only at h
  subst h
  simp only [ofIn, startV, if_true, lowV, highV]
  split <;> simp only <;> split <;> rfl
theorem Is.step_val {p : List Vl} {b : Bd} {v : Vl} (h : Is p b) (hv : isNull v = false) : Is (p ++ [v]) (ofIn b v) := by
  have e : nn (p ++ [v]) = nn p ++ [v] := by rw [nn_append]; simp [nn, hv]
  have en : nullsN (p ++ [v]) = nullsN p := by rw [nullsN_append]; simp [nullsN, hv]
  cases hh : b.has with
  | false =>
    have hn : nn p = [] := by
      have := h.has
      rw [hh] at this
      simpa using this
    rw [ofIn_false b v hh]
    refine ⟨by rw [en]; exact h.nulls, by rw [e]; simp, ?_, ?_, by simp⟩
    · intro _; rw [e, hn]
      refine ⟨by simp, fun w hw => ?_⟩
      simp at hw; subst hw; exact leV_refl _
    · intro _; rw [e, hn]
      refine ⟨by simp, fun w hw => ?_⟩
      simp at hw; subst hw; exact leV_refl _
  | true =>
    rw [ofIn_true b v hh]
    have hl := h.lo hh
    have hi := h.hi hh
    refine ⟨by rw [en]; exact h.nulls, by rw [e]; simp, ?_, ?_, by simp⟩
    · intro _; rw [e]
      by_cases c : cmpV v b.lo < 0
      · simp only [c, if_true]
        refine ⟨by simp, fun w hw => ?_⟩
        rcases List.mem_append.1 hw with hw | hw
        · exact leV_trans (leV_lt c) (hl.2 w hw)
        · simp at hw; subst hw; exact leV_refl _
      · simp only [c, if_false]
        refine ⟨List.mem_append.2 (.inl hl.1), fun w hw => ?_⟩
        rcases List.mem_append.1 hw with hw | hw
        · exact hl.2 w hw
        · simp at hw; subst hw; exact leV_not c
    · intro _; rw [e]
      by_cases c : cmpV v b.hi > 0
      · simp only [c, if_true]
        refine ⟨by simp, fun w hw => ?_⟩
        rcases List.mem_append.1 hw with hw | hw
        · exact leV_trans (hi.2 w hw) (leV_gt c)
        · simp at hw; subst hw; exact leV_refl _
      · simp only [c, if_false]
        refine ⟨List.mem_append.2 (.inl hi.1), fun w hw => ?_⟩
        rcases List.mem_append.1 hw with hw | hw
        · exact hi.2 w hw
        · simp at hw; subst hw
          unfold leV; omega
theorem ofIn_sum (b : Bd) (v : Vl) : (ofIn b v).sum = b.sum := by
  cases hh : b.has with
  | false => rw [ofIn_false b v hh]
  | true => rw [ofIn_true b v hh]
theorem ofS_is {k : Int} : ∀ (l p : List Vl) (b : Bd), Gd k (p ++ l) → Is p b → ∃ c, ofS b l = some c ∧ Is (p ++ l) c ∧ c.sum = b.sum
  | [], p, b, _, h => ⟨b, rfl, by rw [List.append_nil]; exact h, rfl⟩
  | v :: l, p, b, hg, h => by
    have hw := hg.wide v (by simp)
    have e : p ++ v :: l = (p ++ [v]) ++ l := by simp
    cases hn : isNull v with
    | true =>
      have hb : badV b v = false := by simp [badV, hw, hn]
      obtain ⟨c, h1, h2, h3⟩ := ofS_is l (p ++ [v]) _ (by rw [← e]; exact hg) (h.step_null hn)
      refine ⟨c, ?_, by rw [e]; exact h2, h3⟩
      rw [ofS, hb, if_neg Bool.false_ne_true, if_pos hn]; exact h1
    | false =>
      have hb : badV b v = false := by
        cases hh : b.has with
        | false => simp [badV, hw, hn, hh]
        | true =>
          have hm := (h.lo hh).1
          rw [mem_nn] at hm
          have e1 := hg.kind b.lo (by simp [hm.1]) hm.2
          have e2 := hg.kind v (by simp) hn
          simp [badV, hw, e1, e2]
      obtain ⟨c, h1, h2, h3⟩ := ofS_is l (p ++ [v]) _ (by rw [← e]; exact hg) (h.step_val hn)
      refine ⟨c, ?_, by rw [e]; exact h2, by rw [h3, ofIn_sum]⟩
      rw [ofS, hb, if_neg Bool.false_ne_true, hn, if_neg Bool.false_ne_true]; exact h1
theorem sum_bd : ∀ {l : List Int}, (∀ x ∈ l, -40000000 ≤ x ∧ x ≤ 40000000) → -(40000000 * l.length) ≤ sumL l ∧ sumL l ≤ 40000000 * l.length
  | [], _ => by simp [sumL]
  | a :: l, h => by
    have h1 := h a (by simp)
    have h2 := sum_bd (l := l) fun x hx => h x (by simp [hx])
    simp only [sumL, List.foldr_cons, List.length_cons] at h2 ⊢
    push_cast
    omega
theorem nums_bd {k : Int} {l : List Vl} (hg : Gd k l) : ∀ x ∈ numsV l, -40000000 ≤ x ∧ x ≤ 40000000 := by
  intro x hx
  simp only [numsV, List.mem_map, List.mem_filter] at hx
  obtain ⟨v, ⟨hv, _⟩, rfl⟩ := hx
  exact hg.num v hv
theorem sums_bd {k : Int} {l : List Vl} (hg : Gd k l) (hl : l.length ≤ 1000) : -40000000000 ≤ sumL (numsV l) ∧ sumL (numsV l) ≤ 40000000000 := by
  have h1 := sum_bd (nums_bd hg)
  have h2 := numsV_len l
  omega
theorem sumD_nums {k : Int} {l : List Vl} (hg : Gd k l) (hl : l.length ≤ 1000) : sumD (numsV l) = (sumL (numsV l), 0) := by
  have h := sums_bd hg hl
  unfold sumD
  rw [if_pos]
  rw [Bool.and_eq_true, List.all_eq_true]
  refine ⟨fun x hx => ?_, small_iff.2 (by omega)⟩
  have := nums_bd hg x hx
  exact small_iff.2 (by omega)
/-- Bounds of a list, with its sum. -/
structure IsS (l : List Vl) (b : Bd) : Prop extends Is l b where
  sum : b.sum = sumL (numsV l)
theorem ofM_is {k : Int} {l : List Vl} (hg : Gd k l) (hl : l.length ≤ 1000) : ∃ c, ofM l = (c, 0) ∧ IsS l c := by
  obtain ⟨c, h1, h2, h3⟩ := ofS_is l [] zeroBd hg Is.zero
  rw [List.nil_append] at h2
  refine ⟨⟨c.nulls, c.has, c.lo, c.hi, sumL (numsV l)⟩, ?_, ⟨h2.nulls, h2.has, h2.lo, h2.hi, h2.no⟩, rfl⟩
  unfold ofM
  rw [h1, sumD_nums hg hl]; rfl
theorem IsS.unique {l l' : List Vl} {b b' : Bd} (h : IsS l b) (h' : IsS l' b') (hn : nullsN l = nullsN l') (hm : ∀ w, w ∈ nn l ↔ w ∈ nn l') (hs : sumL (numsV l) = sumL (numsV l')) : b = b' := by
  have hh : b.has = b'.has := by
    rw [Bool.eq_iff_iff, h.has, h'.has]
    constructor
    · intro e e'
      refine e (List.eq_nil_iff_forall_not_mem.2 fun w hw => ?_)
      rw [hm, e'] at hw; cases hw
    · intro e e'
      refine e (List.eq_nil_iff_forall_not_mem.2 fun w hw => ?_)
      rw [← hm, e'] at hw; cases hw
  have e1 : b.nulls = b'.nulls := by rw [h.nulls, h'.nulls, hn]
  have e2 : b.sum = b'.sum := by rw [h.sum, h'.sum, hs]
  have e3 : b.lo = b'.lo ∧ b.hi = b'.hi := by
    cases hb : b.has with
    | false =>
      rw [(h.no hb).1, (h.no hb).2, (h'.no (hh ▸ hb)).1, (h'.no (hh ▸ hb)).2]; exact ⟨rfl, rfl⟩
    | true =>
      have a := h.lo hb
      have a' := h'.lo (hh ▸ hb)
      have c := h.hi hb
      have c' := h'.hi (hh ▸ hb)
      exact ⟨leV_anti (a.2 _ ((hm _).2 a'.1)) (a'.2 _ ((hm _).1 a.1)), leV_anti (c'.2 _ ((hm _).1 c.1)) (c.2 _ ((hm _).2 c'.1))⟩
  obtain ⟨_, _, _, _, _⟩ := b
  obtain ⟨_, _, _, _, _⟩ := b'
  simp only at hh e1 e2 e3
  obtain ⟨e3, e4⟩ := e3
  subst hh e1 e2 e3 e4
  rfl
theorem IsS.perm {l l' : List Vl} {b b' : Bd} (h : IsS l b) (h' : IsS l' b') (hp : l.Perm l') : b = b' :=
  h.unique h' (hp.filter _).length_eq (fun w => (hp.filter _).mem_iff) (numsV_perm hp)
theorem null_k {v : Vl} (h : isNull v = true) : v.k = 0 := by
  unfold isNull at h
  simp only [Bool.and_eq_true, beq_iff_eq] at h
  exact h.1
theorem nums_nil {k : Int} {l : List Vl} (hg : Gd k l) (h : nn l = [] ∨ k ≠ 2) : numsV l = [] := by
  unfold numsV
  rw [List.map_eq_nil_iff, List.filter_eq_nil_iff]
  intro v hv h2
  have h2 : v.k = 2 := by simpa using h2
  have hnn : isNull v = false := by
    cases hn : isNull v with
    | false => rfl
    | true => rw [null_k hn] at h2; cases h2
  rcases h with h | h
  · have : v ∈ nn l := mem_nn.2 ⟨hv, hnn⟩
    rw [h] at this; cases this
  · exact h ((hg.kind v hv hnn).symm.trans h2)
theorem IsS.valid {k : Int} {l : List Vl} {b : Bd} (h : IsS l b) (hg : Gd k l) (hl : l.length ≤ 1000) : validB b = true := by
  have hn := h.nulls
  have hnl := nullsN_le l
  have hs := sums_bd hg hl
  rw [← h.sum] at hs
  unfold validB
  rw [if_neg (by rw [decide_eq_true_eq]; omega), if_neg (by rw [decide_eq_true_eq]; omega), if_neg (by rw [decide_eq_true_eq]; omega), if_neg (by rw [decide_eq_true_eq]; omega)]
  cases hh : b.has with
  | false =>
    rw [if_pos rfl]
    have hz : nn l = [] := by
      have := h.has
      rw [hh] at this
      simpa using this
    have hs0 : b.sum = 0 := by rw [h.sum, nums_nil hg (.inl hz)]; rfl
    unfold bareB
    rw [(h.no hh).1, (h.no hh).2, hs0]
    show ((((0 : Int) == 0) && (((0 : Int) == 0) && noS ⟨#[]⟩)) && ((((0 : Int) == 0) && (((0 : Int) == 0) && noS ⟨#[]⟩)) && ((0 : Int) == 0))) = true
    rw [noS_e]; rfl
  | true =>
    have hlo := h.lo hh
    have hhi := h.hi hh
    have m1 := mem_nn.1 hlo.1
    have m2 := mem_nn.1 hhi.1
    have k1 := hg.kind _ m1.1 m1.2
    have k2 := hg.kind _ m2.1 m2.2
    rw [if_neg (by decide), hg.wide _ m1.1, if_neg (by decide), hg.wide _ m2.1, if_neg (by decide), m1.2, if_neg (by decide), k1, k2, if_neg (by simp), if_neg (by rw [decide_eq_true (show cmpV b.lo b.hi ≤ 0 from hlo.2 _ hhi.1)]; decide)]
    by_cases hk : k = 2
    · rw [if_pos (by simpa using hk)]
    · rw [if_neg (by simpa using hk), h.sum, nums_nil hg (.inr hk)]; rfl
theorem IsS.contains {k : Int} {l : List Vl} {b : Bd} (h : IsS l b) (hg : Gd k l) (hl : l.length ≤ 1000) {v : Vl} (hv : v ∈ l) : containsB b v = true := by
  unfold containsB
  rw [h.valid hg hl, if_neg (by decide), hg.wide v hv, if_neg (by decide)]
  cases hn : isNull v with
  | true =>
    rw [if_pos rfl, h.nulls, decide_eq_true_eq]
    have : v ∈ l.filter isNull := List.mem_filter.2 ⟨hv, hn⟩
    have := List.length_pos_of_mem this
    unfold nullsN; omega
  | false =>
    rw [if_neg (by decide)]
    have hm : v ∈ nn l := mem_nn.2 ⟨hv, hn⟩
    have hh : b.has = true := h.has.2 (List.ne_nil_of_mem hm)
    have hlo := h.lo hh
    have hhi := h.hi hh
    have m1 := mem_nn.1 hlo.1
    rw [hh, if_neg (by decide), hg.kind v hv hn, hg.kind _ m1.1 m1.2, if_neg (by simp), if_neg (by rw [decide_eq_true (show cmpV b.lo v ≤ 0 from hlo.2 _ hm)]; decide)]
    exact decide_eq_true (hhi.2 _ hm)
end
section
set_option linter.unusedVariables false
set_option linter.unusedSimpArgs false
open Go.RowKit
theorem ok_null' : VlOk nullV := ⟨by decide, by show (0 : Nat) ≤ _; omega⟩
theorem wide_bool (b : Bool) : wideV (boolV b) = true := by
  have h : checkV (boolV b) 4000000000000000000 = ((andNotI .i64 (boolV b).i 1 == 0) && noS ⟨#[]⟩) := by
    unfold checkV
    rw [if_neg (show ¬ (boolV b).k = 0 from (by decide : ¬ (1 : Int) = 0)), if_pos (show (boolV b).k = 1 from rfl)]
    rfl
  rw [wideV, h, noS_e, Bool.and_true]
  cases b <;> rfl
theorem null_bool (b : Bool) : isNull (boolV b) = false := rfl
def wordOk (s : ByteArray) : Bool := decide ((s.size : Int) ≤ 40) && graphicB s
theorem words_ok : wordsL.all wordOk = true := by decide +kernel
theorem wordM_ok (n : Int) : wordOk (wordM n) = true := by
  unfold wordM
  by_cases h : (n.tmod 15).toNat < wordsL.length
  · exact List.all_eq_true.1 words_ok _ (mem_at wordsL _ h)
  · rw [List.getD_eq_getElem?_getD, List.getElem?_eq_none (by omega)]; rfl
theorem wide_word (n : Int) : wideV ⟨3, 0, wordM n⟩ = true := by
  have h : checkV ⟨3, 0, wordM n⟩ 4000000000000000000 = (((0 : Int) == 0) && decide (((wordM n).size : Int) ≤ 40) && graphicB (wordM n)) := by
    unfold checkV
    rw [if_neg (show ¬ (3 : Int) = 0 by decide), if_neg (show ¬ (3 : Int) = 1 by decide), if_neg (show ¬ (3 : Int) = 2 by decide), if_pos rfl]
  have := wordM_ok n
  unfold wordOk at this
  rw [wideV, h, Bool.and_assoc, this]; rfl
theorem valM_gd {k a b : Int} (hk : k = 1 ∨ k = 2 ∨ k = 3) (hb : 0 ≤ b ∧ b < 256) : wideV (valM ⟨k, 0, true⟩ a b) = true ∧ (isNull (valM ⟨k, 0, true⟩ a b) = false → (valM ⟨k, 0, true⟩ a b).k = k) ∧ (-40000000 ≤ (valM ⟨k, 0, true⟩ a b).i ∧ (valM ⟨k, 0, true⟩ a b).i ≤ 40000000) := by
  have hb40 := Int.tmod_lt_of_pos b (b := 40) (by decide)
  have hb40' := Int.tmod_nonneg 40 hb.1
  unfold valM
  simp only [Bool.true_and]
  by_cases h0 : (a.tmod 5 == 0) = true
  · rw [if_pos h0]
    exact ⟨wide_null, (fun h => by rw [null_null] at h; cases h), by decide⟩
  rw [if_neg h0]
  rcases hk with rfl | rfl | rfl
  · rw [if_pos (show ((1 : Int) == 1) = true from rfl)]
    refine ⟨wide_bool _, fun _ => rfl, ?_⟩
    cases (b.tmod 2 == 1) <;> decide
  · rw [if_neg (show ¬ ((2 : Int) == 1) = true by decide), if_pos (show ((2 : Int) == 2) = true from rfl)]
    have e : (b.tmod 40 - 12) * stepV (0 : Int).toNat = (b.tmod 40 - 12) * 1000000 := rfl
    rw [e, ite_self]
    refine ⟨?_, fun _ => rfl, ?_⟩
    · rw [wide_num, small_iff]; omega
    · show -40000000 ≤ (b.tmod 40 - 12) * 1000000 ∧ (b.tmod 40 - 12) * 1000000 ≤ 40000000
      omega
  · rw [if_neg (show ¬ ((3 : Int) == 1) = true by decide), if_neg (show ¬ ((3 : Int) == 2) = true by decide)]
    exact ⟨wide_word b, fun _ => rfl, by show -40000000 ≤ (0 : Int) ∧ (0 : Int) ≤ 40000000; omega⟩
theorem valsM_gd {k : Int} {b : List Int} (hk : k = 1 ∨ k = 2 ∨ k = 3) (hb : ∀ x ∈ b, 0 ≤ x ∧ x < 256) : Gd k (valsM k b) := by
  have h : ∀ v ∈ valsM k b, ∃ j, v = valAt k b j := by
    intro v hv
    simp only [valsM, valsTo, List.mem_map] at hv
    obtain ⟨j, _, rfl⟩ := hv
    exact ⟨j, rfl⟩
  refine ⟨fun v hv => ?_, fun v hv => ?_, fun v hv => ?_⟩ <;> obtain ⟨j, rfl⟩ := h v hv
  · exact (valM_gd hk (byte_mem hb _)).1
  · exact (valM_gd hk (byte_mem hb _)).2.1
  · exact (valM_gd hk (byte_mem hb _)).2.2
theorem valsM_len (k : Int) (b : List Int) : (valsM k b).length ≤ 12 := by
  rw [valsM, valsTo_len]; unfold valsN; omega
theorem noS_size {s : ByteArray} (h : noS s = true) : s.size ≤ 40 := by
  unfold noS at h
  rw [beq_iff_eq, ByteArray.toList_eq, ByteArray.toList_eq] at h
  have : s.data.toList.length = 0 := by rw [h]; rfl
  have e : s.size = s.data.toList.length := by simp
  omega
theorem wide_ok {v : Vl} (h : wideV v = true) (hi : -40000000 ≤ v.i ∧ v.i ≤ 40000000) : VlOk v := by
  refine ⟨by omega, ?_⟩
  unfold wideV checkV at h
  have : v.s.size ≤ 40 := by
    split at h
    · simp only [Bool.and_eq_true] at h; exact noS_size h.2
    split at h
    · simp only [Bool.and_eq_true] at h; exact noS_size h.2
    split at h
    · simp only [Bool.and_eq_true] at h; exact noS_size h.2
    split at h
    · simp only [Bool.and_eq_true, decide_eq_true_eq] at h; omega
    · cases h
  omega
theorem Gd.ok {k : Int} {l : List Vl} (h : Gd k l) : ∀ v ∈ l, VlOk v := fun v hv => wide_ok (h.wide v hv) (h.num v hv)
theorem IsS.ok {k : Int} {l : List Vl} {b : Bd} (h : IsS l b) (hg : Gd k l) (hl : l.length ≤ 1000) : BdOk b := by
  have hs := sums_bd hg hl
  rw [← h.sum] at hs
  cases hh : b.has with
  | false =>
    refine ⟨?_, ?_, by omega⟩
    · rw [(h.no hh).1]; exact ok_null'
    · rw [(h.no hh).2]; exact ok_null'
  | true => exact ⟨hg.ok _ (mem_nn.1 (h.lo hh).1).1, hg.ok _ (mem_nn.1 (h.hi hh).1).1, by omega⟩
theorem merge_is {k : Int} {l m : List Vl} {a b : Bd} (ha : IsS l a) (hb : IsS m b) (gl : Gd k l) (gm : Gd k m) (hl : l.length ≤ 400) (hm : m.length ≤ 400) : ∃ c, mergeM a b = (c, 0) ∧ IsS (l ++ m) c := by
  have va := ha.valid gl (by omega)
  have vb := hb.valid gm (by omega)
  have sa := sums_bd gl (by omega)
  have sb := sums_bd gm (by omega)
  have na := ha.nulls
  have nb := hb.nulls
  have nla := nullsN_le l
  have nlb := nullsN_le m
  have hk : (a.has && b.has && (a.lo.k != b.lo.k)) = false := by
    cases h1 : a.has with
    | false => rfl
    | true =>
      cases h2 : b.has with
      | false => rfl
      | true =>
        have m1 := mem_nn.1 (ha.lo h1).1
        have m2 := mem_nn.1 (hb.lo h2).1
        rw [gl.kind _ m1.1 m1.2, gm.kind _ m2.1 m2.2]; simp
  have hsm : small (a.sum + b.sum) = true := by rw [ha.sum, hb.sum]; exact small_iff.2 (by omega)
  have hov : decide (a.nulls + b.nulls > 4000000000000000000) = false := decide_eq_false (by omega)
  refine ⟨_, by unfold mergeM; rw [va, vb, hk, hsm, hov]; rfl, ⟨?_, ?_, ?_, ?_, ?_⟩, ?_⟩
  · show a.nulls + b.nulls = _
    rw [na, nb, nullsN_append]; push_cast; rfl
  · show (a.has || b.has) = true ↔ _
    rw [nn_append, Bool.or_eq_true, ha.has, hb.has]
    simp only [ne_eq, List.append_eq_nil_iff, Classical.not_and_iff_not_or_not]
  · show (a.has || b.has) = true → (if (!a.has || (b.has && decide (cmpV b.lo a.lo < 0))) = true then b.lo else a.lo) ∈ _ ∧ _
    rw [nn_append]
    cases h1 : a.has with
    | false =>
      cases h2 : b.has with
      | false => intro h; cases h
      | true =>
        intro _
        have e : nn l = [] := by have := ha.has; rw [h1] at this; simpa using this
        rw [e]
        exact hb.lo h2
    | true =>
      intro _
      have la := ha.lo h1
      cases h2 : b.has with
      | false =>
        have e : nn m = [] := by have := hb.has; rw [h2] at this; simpa using this
        rw [e, List.append_nil]
        exact la
      | true =>
        have lb := hb.lo h2
        by_cases c : cmpV b.lo a.lo < 0
        · simp only [decide_eq_true c]
          refine ⟨List.mem_append.2 (.inr lb.1), fun w hw => ?_⟩
          rcases List.mem_append.1 hw with hw | hw
          · exact leV_trans (leV_lt c) (la.2 w hw)
          · exact lb.2 w hw
        · simp only [decide_eq_false c]
          refine ⟨List.mem_append.2 (.inl la.1), fun w hw => ?_⟩
          rcases List.mem_append.1 hw with hw | hw
          · exact la.2 w hw
          · exact leV_trans (leV_not c) (lb.2 w hw)
  · show (a.has || b.has) = true → (if (!a.has || (b.has && decide (cmpV b.hi a.hi > 0))) = true then b.hi else a.hi) ∈ _ ∧ _
    rw [nn_append]
    cases h1 : a.has with
    | false =>
      cases h2 : b.has with
      | false => intro h; cases h
      | true =>
        intro _
        have e : nn l = [] := by have := ha.has; rw [h1] at this; simpa using this
        rw [e]
        exact hb.hi h2
    | true =>
      intro _
      have la := ha.hi h1
      cases h2 : b.has with
      | false =>
        have e : nn m = [] := by have := hb.has; rw [h2] at this; simpa using this
        rw [e, List.append_nil]
        exact la
      | true =>
        have lb := hb.hi h2
        by_cases c : cmpV b.hi a.hi > 0
        · simp only [decide_eq_true c]
          refine ⟨List.mem_append.2 (.inr lb.1), fun w hw => ?_⟩
          rcases List.mem_append.1 hw with hw | hw
          · exact leV_trans (la.2 w hw) (leV_gt c)
          · exact lb.2 w hw
        · simp only [decide_eq_false c]
          refine ⟨List.mem_append.2 (.inl la.1), fun w hw => ?_⟩
          rcases List.mem_append.1 hw with hw | hw
          · exact la.2 w hw
          · exact leV_trans (lb.2 w hw) (show leV b.hi a.hi from by unfold leV; omega)
  · show (a.has || b.has) = false → (if (!a.has || (b.has && decide (cmpV b.lo a.lo < 0))) = true then b.lo else a.lo) = nullV ∧ (if (!a.has || (b.has && decide (cmpV b.hi a.hi > 0))) = true then b.hi else a.hi) = nullV
    intro h
    rw [Bool.or_eq_false_iff] at h
    rw [h.1, h.2]
    exact hb.no h.2
  · show a.sum + b.sum = _
    rw [ha.sum, hb.sum, numsV_append, sumL_append]
end
section
set_option linter.unusedVariables false
set_option linter.unusedSimpArgs false
open Go.RowKit
attribute [local irreducible] Spec SpecF SpecN
attribute [local irreducible] AWp evOps evD
theorem contains_mono {k : Int} {l L : List Vl} {a c : Bd} (ha : IsS l a) (hc : IsS L c) (gl : Gd k l) (gL : Gd k L) (hL : L.length ≤ 1000) (hn : nullsN l ≤ nullsN L) (hs : ∀ w ∈ nn l, w ∈ nn L) {v : Vl} (h : containsB a v = true) : containsB c v = true := by
  unfold containsB at h ⊢
  split at h
  · cases h
  split at h
  · cases h
  rename_i hw
  rw [hc.valid gL hL, if_neg (by decide), if_neg hw]
  cases hv : isNull v with
  | true =>
    rw [hv, if_pos rfl] at h
    rw [if_pos rfl]
    rw [decide_eq_true_eq] at h ⊢
    rw [ha.nulls] at h
    rw [hc.nulls]
    omega
  | false =>
    rw [hv, if_neg (by decide)] at h
    rw [if_neg (by decide)]
    split at h
    · cases h
    rename_i hh
    have hh : a.has = true := by simpa using hh
    split at h
    · cases h
    rename_i hk
    split at h
    · cases h
    rename_i h1
    have h1 : leV a.lo v := by
      have : decide (cmpV a.lo v ≤ 0) = true := by simpa using h1
      exact (of_decide_eq_true this : cmpV a.lo v ≤ 0)
    have h2 : leV v a.hi := (of_decide_eq_true h : cmpV v a.hi ≤ 0)
    have al := ha.lo hh
    have ah := ha.hi hh
    have hch : c.has = true := hc.has.2 (List.ne_nil_of_mem (hs _ al.1))
    have cl := hc.lo hch
    have ch := hc.hi hch
    have m1 := mem_nn.1 al.1
    have m2 := mem_nn.1 cl.1
    have k1 := gl.kind _ m1.1 m1.2
    have k2 := gL.kind _ m2.1 m2.2
    have hkv : v.k = k := by
      have : v.k = a.lo.k := by simpa using hk
      rw [this, k1]
    rw [hch, if_neg (by decide), hkv, k2, if_neg (by simp), if_neg (by rw [decide_eq_true (show cmpV c.lo v ≤ 0 from leV_trans (cl.2 _ (hs _ al.1)) h1)]; decide)]
    exact decide_eq_true (leV_trans h2 (ch.2 _ (hs _ ah.1)))
set_option maxHeartbeats 16000000 in
set_option maxRecDepth 100000 in
theorem f5_spec (kd : Int) (hkd : 0 ≤ kd ∧ kd < 256) (b0 b1 b2 : List Int) (hb0 : ∀ x ∈ b0, 0 ≤ x ∧ x < 256) (hb1 : ∀ x ∈ b1, 0 ≤ x ∧ x < 256) (hb2 : ∀ x ∈ b2, 0 ≤ x ∧ x < 256) : Spec Tryd.prog 5 [litI .u8 kd, .agg [.d (bytesD b0), .d (bytesD b1), .d (bytesD b2)]] (litB true) := by
  have h7 := f7_spec
  have t0 := Int.tmod_nonneg 3 hkd.1
  have t1 := Int.tmod_lt_of_pos kd (b := 3) (by decide)
  have w1 : IntKind.i64.wrap (kd.tmod 3) = kd.tmod 3 := wrap_id (by omega)
  have w2 : IntKind.i64.wrap (1 + kd.tmod 3) = 1 + kd.tmod 3 := wrap_id (by omega)
  have hK : 1 + kd.tmod 3 = 1 ∨ 1 + kd.tmod 3 = 2 ∨ 1 + kd.tmod 3 = 3 := by omega
  obtain ⟨K, hKK⟩ : ∃ K, 1 + kd.tmod 3 = K := ⟨_, rfl⟩
  rw [hKK] at hK w2
  have w2' : IntKind.i64.wrap (1 + kd.tmod 3) = K := by rw [hKK]; exact w2
  have v0 := f25_spec K b0 hb0
  have v1 := f25_spec K b1 hb1
  have v2 := f25_spec K b2 hb2
  have g0 := valsM_gd hK hb0
  have g1 := valsM_gd hK hb1
  have g2 := valsM_gd hK hb2
  have l0 := valsM_len K b0
  have l1 := valsM_len K b1
  have l2 := valsM_len K b2
  generalize valsM K b0 = l at *
  generalize valsM K b1 = m at *
  generalize valsM K b2 = n at *
  obtain ⟨x, hx, ix⟩ := ofM_is g0 (by omega)
  obtain ⟨y, hy, iy⟩ := ofM_is g1 (by omega)
  obtain ⟨z, hz, iz⟩ := ofM_is g2 (by omega)
  have g01 := g0.append g1
  have g12 := g1.append g2
  have g10 := g1.append g0
  have len01 : (l ++ m).length ≤ 24 := by rw [List.length_append]; omega
  have len12 : (m ++ n).length ≤ 24 := by rw [List.length_append]; omega
  have len10 : (m ++ l).length ≤ 24 := by rw [List.length_append]; omega
  obtain ⟨c, hc, ic⟩ := merge_is ix iy g0 g1 (by omega) (by omega)
  obtain ⟨c1, hc1, ic1⟩ := merge_is iy ix g1 g0 (by omega) (by omega)
  obtain ⟨e, he, ie⟩ := merge_is iy iz g1 g2 (by omega) (by omega)
  obtain ⟨d, hd, id'⟩ := merge_is ic iz g01 g2 (by omega) (by omega)
  obtain ⟨d1, hd1, id1⟩ := merge_is ix ie g0 g12 (by omega) (by omega)
  obtain ⟨c2, hc2, ic2⟩ := ofM_is g01 (by omega)
  have gE : Gd K ([] : List Vl) := ⟨(fun v hv => by cases hv), (fun v hv => by cases hv), (fun v hv => by cases hv)⟩
  have iE : IsS [] zeroBd := ⟨Is.zero, rfl⟩
  obtain ⟨x1, hx1, ix1⟩ := merge_is ix iE g0 gE (by omega) (by simp)
  rw [List.append_nil] at ix1
  have q1 : c1 = c := ic1.perm ic List.perm_append_comm
  have q2 : c2 = c := ic2.perm ic (List.Perm.refl _)
  have q3 : d1 = d := id1.perm id' (by rw [List.append_assoc])
  have q4 : x1 = x := ix1.perm ix (List.Perm.refl _)
  subst q1 q2 q3 q4
  have okx := ix.ok g0 (by omega)
  have oky := iy.ok g1 (by omega)
  have okz := iz.ok g2 (by omega)
  have okc := ic.ok g01 (by omega)
  have oke := ie.ok g12 (by omega)
  have okE : BdOk zeroBd := ⟨ok_null', ok_null', by decide⟩
  have p0 := f12_spec l g0.ok (by omega)
  have p1 := f12_spec m g1.ok (by omega)
  have p2 := f12_spec n g2.ok (by omega)
  have p3 := f12_spec (l ++ m) g01.ok (by omega)
  rw [hx] at p0
  rw [hy] at p1
  rw [hz] at p2
  rw [hc2, vls, List.map_append] at p3
  have m0 := f14_spec _ _ okx oky
  have m1 := f14_spec _ _ oky okx
  have m2 := f14_spec _ _ okc okz
  have m3 := f14_spec _ _ oky okz
  have m4 := f14_spec _ _ okx oke
  have m5 := f14_spec _ _ okx okE
  rw [hc] at m0
  rw [hc1] at m1
  rw [hd] at m2
  rw [he] at m3
  rw [hd1] at m4
  rw [hx1] at m5
  have cx : ∀ v, containsB x1 v = true → containsB c2 v = true := fun v h => contains_mono ix ic g0 g01 (by omega) (by rw [nullsN_append]; omega) (fun w hw => by rw [nn_append]; exact List.mem_append.2 (.inl hw)) h
  have cy : ∀ v, containsB y v = true → containsB c2 v = true := fun v h => contains_mono iy ic g1 g01 (by omega) (by rw [nullsN_append]; omega) (fun w hw => by rw [nn_append]; exact List.mem_append.2 (.inr hw)) h
  simp only [got, bd] at p0 p1 p2 p3 m0 m1 m2 m3 m4 m5
  clear hx hy hz hc hc1 he hd hd1 hc2 hx1 ix1 ic1 ic2 id1
  refine spec_of_awp (fn := Tryd.f5) Tryd.func5 (by kernel_rfl) rfl ?_
  intro w0 C0
  simp only [Tryd.ntmps5, litI, litB, litS, List.length_cons, List.length_nil, Nat.reduceAdd, Nat.reduceSub, List.replicate_succ, List.replicate_zero, List.cons_append, List.nil_append]
  repeat' first
    | ((fail_if_success show AWp _ (Code.seq (Code.region 8 _ _) _) _ _); refine awp_seq ?_)
    | refine awp_block ?_
    | refine awp_skip ?_
    | (refine reg _ (by (simp only [List.map_cons, List.map_nil]; rfl)) rfl ?_; intro K hK)
    | (refine awp_cond _ (by rfl) ?_ ?_ <;> (intro hb; first | (cases hb; done) | (have ht : true = true := hb; clear ht hb) | (have ht : false = false := hb; clear ht hb) | (simp only [hb]) | skip))
    | (refine awp_exit ?_; simp only [thenA, blockA, scopeA, reduceIte, RetQ, Nat.reduceEqDiff])
    | (refine awp_ret ?_; simp only [thenA, blockA, scopeA, RetQ])
    | (refine ev_nil (hK _ ?_); clear hK K)
    | (apply ev_call0; (case hys => (simp only [go_sem, w1, w2', beq_self_eq_true, Bool.and_self, Int.reduceToNat]; try rfl)); (case hs => first | exact h7 .. | exact v0 .. | exact v1 .. | exact v2 .. | exact p0 .. | exact p1 .. | exact p2 .. | exact m0 ..); (case hok | hσ => (simp only [go_sem, w1, w2', beq_self_eq_true, Bool.and_self, Int.reduceToNat]; try rfl)))
    | (apply regD; (case hd => (simp only [List.map_cons, List.map_nil]; rfl)); (case hok => rfl); (case' h => (intro K hK; (repeat' first
        | (apply evd_nil; refine (hK _ ?_); clear hK K)
        | (apply evd_guardU0; (case hj | hu | hσ => (simp only [go_sem, w1, w2', beq_self_eq_true, Bool.and_self, Int.reduceToNat]; try rfl)))
        | (apply evd_guardU; (case hj | hu | hσ => (simp only [go_sem, w1, w2', beq_self_eq_true, Bool.and_self, Int.reduceToNat]; try rfl)))
        | (apply evd_skipT0; (case hj | hb | hσ => (simp only [go_sem, w1, w2', beq_self_eq_true, Bool.and_self, Int.reduceToNat]; try rfl)))
        | (apply evd_skipF0; (case hj | hb | hσ => (simp only [go_sem, w1, w2', beq_self_eq_true, Bool.and_self, Int.reduceToNat]; try rfl)))
        | (apply evd_skipT; (case hj | hb | hσ => (simp only [go_sem, w1, w2', beq_self_eq_true, Bool.and_self, Int.reduceToNat]; try rfl)))
        | (apply evd_skipF; (case hj | hb | hσ => (simp only [go_sem, w1, w2', beq_self_eq_true, Bool.and_self, Int.reduceToNat]; try rfl)))
        | (apply evd_guardT; (case hj | hb => (simp only [go_sem, w1, w2', beq_self_eq_true, Bool.and_self, Int.reduceToNat]; try rfl)); (case' h2 => (intro hb; first | (cases hb; done) | (simp only [hb]) | skip)); (case' h1 => (intro hb; first | (cases hb; done) | (simp only [hb]) | skip)))
        | (apply evd_guardF; (case hj | hb => (simp only [go_sem, w1, w2', beq_self_eq_true, Bool.and_self, Int.reduceToNat]; try rfl)); (case' h2 => (intro hb; first | (cases hb; done) | (simp only [hb]) | skip)); (case' h1 => (intro hb; first | (cases hb; done) | (simp only [hb]) | skip)))
        | (apply evd_call0; (case hi | hys => (simp only [go_sem, w1, w2', beq_self_eq_true, Bool.and_self, Int.reduceToNat]; try rfl)); (case hs => first | exact h7 .. | exact v0 .. | exact v1 .. | exact v2 .. | exact p0 .. | exact p1 .. | exact p2 .. | exact m0 ..); (case hok | hw | hσ => (simp only [go_sem, w1, w2', beq_self_eq_true, Bool.and_self, Int.reduceToNat]; try rfl)))
        | (apply evd_step0; (case hr | hi | hσ => (simp only [go_sem, w1, w2', beq_self_eq_true, Bool.and_self, Int.reduceToNat]; try rfl)); (case hc => (first | trivial | exact look_ok (by kernel_rfl) (by kernel_rfl) | decide | (simp only [inB, sliceOk, appendOk, rowsOk]; omega) | (simp [inB, sliceOk, appendOk, rowsOk]; omega))))
        | (apply evd_step; (case hr | hi => (simp only [go_sem, w1, w2', beq_self_eq_true, Bool.and_self, Int.reduceToNat]; try rfl)); (case hc => (first | trivial | exact look_ok (by kernel_rfl) (by kernel_rfl) | decide | (simp only [inB, sliceOk, appendOk, rowsOk]; omega) | (simp [inB, sliceOk, appendOk, rowsOk]; omega))); (case hw | hσ => (intro g u; simp only [go_sem, w1, w2', beq_self_eq_true, Bool.and_self, Int.reduceToNat]; try rfl)); (case' hk => (intro g u; (try clear u); (try clear g))))
        | fail))); (case hB => kernel_rfl))
    | (apply ev_step0; (case hr | hσ => (simp only [go_sem, w1, w2', beq_self_eq_true, Bool.and_self, Int.reduceToNat]; try rfl)); (case hc => (first | trivial | exact look_ok (by kernel_rfl) (by kernel_rfl) | decide | (simp only [inB, sliceOk, appendOk, rowsOk]; omega) | (simp [inB, sliceOk, appendOk, rowsOk]; omega))))
    | (apply ev_step; (case hr => (simp only [go_sem, w1, w2', beq_self_eq_true, Bool.and_self, Int.reduceToNat]; try rfl)); (case hσ => (intro g u; simp only [go_sem, w1, w2', beq_self_eq_true, Bool.and_self, Int.reduceToNat]; try rfl)); (case hc => (first | trivial | exact look_ok (by kernel_rfl) (by kernel_rfl) | decide | (simp only [inB, sliceOk, appendOk, rowsOk]; omega) | (simp [inB, sliceOk, appendOk, rowsOk]; omega))); intro g u; (try clear u); (try clear g))
    | fail
  rename_i g3 g10 g11 g12
  revert g; intro g13
  repeat' first
    | refine awp_seq ?_
    | refine awp_block ?_
    | refine awp_skip ?_
    | (refine reg _ (by (simp only [List.map_cons, List.map_nil]; rfl)) rfl ?_; intro K hK)
    | (refine awp_cond _ (by rfl) ?_ ?_ <;> (intro hb; first | (cases hb; done) | (have ht : true = true := hb; clear ht hb) | (have ht : false = false := hb; clear ht hb) | (simp only [hb]) | skip))
    | (refine awp_exit ?_; simp only [thenA, blockA, scopeA, reduceIte, RetQ, Nat.reduceEqDiff])
    | (refine awp_ret ?_; simp only [thenA, blockA, scopeA, RetQ])
    | (refine ev_nil (hK _ ?_); clear hK K)
    | (apply ev_call0; (case hys => (simp only [go_sem, beq_self_eq_true, Bool.and_self, Int.reduceToNat]; try rfl)); (case hs => first | exact p3 .. | exact m1 .. | exact m2 .. | exact m3 .. | exact m4 .. | exact m5 ..); (case hok | hσ => (simp only [go_sem, beq_self_eq_true, Bool.and_self, Int.reduceToNat]; try rfl)))
    | (apply regD; (case hd => (simp only [List.map_cons, List.map_nil]; rfl)); (case hok => rfl); (case' h => (intro K hK; (repeat' first
        | (apply evd_nil; refine (hK _ ?_); clear hK K)
        | (apply evd_guardU0; (case hj | hu | hσ => (simp only [go_sem, beq_self_eq_true, Bool.and_self, Int.reduceToNat]; try rfl)))
        | (apply evd_guardU; (case hj | hu | hσ => (simp only [go_sem, beq_self_eq_true, Bool.and_self, Int.reduceToNat]; try rfl)))
        | (apply evd_skipT0; (case hj | hb | hσ => (simp only [go_sem, beq_self_eq_true, Bool.and_self, Int.reduceToNat]; try rfl)))
        | (apply evd_skipF0; (case hj | hb | hσ => (simp only [go_sem, beq_self_eq_true, Bool.and_self, Int.reduceToNat]; try rfl)))
        | (apply evd_skipT; (case hj | hb | hσ => (simp only [go_sem, beq_self_eq_true, Bool.and_self, Int.reduceToNat]; try rfl)))
        | (apply evd_skipF; (case hj | hb | hσ => (simp only [go_sem, beq_self_eq_true, Bool.and_self, Int.reduceToNat]; try rfl)))
        | (apply evd_guardT; (case hj | hb => (simp only [go_sem, beq_self_eq_true, Bool.and_self, Int.reduceToNat]; try rfl)); (case' h2 => (intro hb; first | (cases hb; done) | (simp only [hb]) | skip)); (case' h1 => (intro hb; first | (cases hb; done) | (simp only [hb]) | skip)))
        | (apply evd_guardF; (case hj | hb => (simp only [go_sem, beq_self_eq_true, Bool.and_self, Int.reduceToNat]; try rfl)); (case' h2 => (intro hb; first | (cases hb; done) | (simp only [hb]) | skip)); (case' h1 => (intro hb; first | (cases hb; done) | (simp only [hb]) | skip)))
        | (apply evd_call0; (case hi | hys => (simp only [go_sem, beq_self_eq_true, Bool.and_self, Int.reduceToNat]; try rfl)); (case hs => first | exact p3 .. | exact m1 .. | exact m2 .. | exact m3 .. | exact m4 .. | exact m5 ..); (case hok | hw | hσ => (simp only [go_sem, beq_self_eq_true, Bool.and_self, Int.reduceToNat]; try rfl)))
        | (apply evd_step0; (case hr | hi | hσ => (simp only [go_sem, beq_self_eq_true, Bool.and_self, Int.reduceToNat]; try rfl)); (case hc => (first | trivial | exact look_ok (by kernel_rfl) (by kernel_rfl) | decide | (simp only [inB, sliceOk, appendOk, rowsOk]; omega) | (simp [inB, sliceOk, appendOk, rowsOk]; omega))))
        | (apply evd_step; (case hr | hi => (simp only [go_sem, beq_self_eq_true, Bool.and_self, Int.reduceToNat]; try rfl)); (case hc => (first | trivial | exact look_ok (by kernel_rfl) (by kernel_rfl) | decide | (simp only [inB, sliceOk, appendOk, rowsOk]; omega) | (simp [inB, sliceOk, appendOk, rowsOk]; omega))); (case hw | hσ => (intro g u; simp only [go_sem, beq_self_eq_true, Bool.and_self, Int.reduceToNat]; try rfl)); (case' hk => (intro g u; (try clear u); (try clear g))))
        | fail))); (case hB => kernel_rfl))
    | (apply ev_step0; (case hr | hσ => (simp only [go_sem, beq_self_eq_true, Bool.and_self, Int.reduceToNat]; try rfl)); (case hc => (first | trivial | exact look_ok (by kernel_rfl) (by kernel_rfl) | decide | (simp only [inB, sliceOk, appendOk, rowsOk]; omega) | (simp [inB, sliceOk, appendOk, rowsOk]; omega))))
    | (apply ev_step; (case hr => (simp only [go_sem, beq_self_eq_true, Bool.and_self, Int.reduceToNat]; try rfl)); (case hσ => (intro g u; simp only [go_sem, beq_self_eq_true, Bool.and_self, Int.reduceToNat]; try rfl)); (case hc => (first | trivial | exact look_ok (by kernel_rfl) (by kernel_rfl) | decide | (simp only [inB, sliceOk, appendOk, rowsOk]; omega) | (simp [inB, sliceOk, appendOk, rowsOk]; omega))); intro g u; (try clear u); (try clear g))
    | fail
  refine awp_loopI (fun j : Nat => j ≤ n.length) (fun j => n.length - j) (fun j => ⟨[.any, .any, .any, .any, litB false, litB true, .any, .any, .any, .d (vls n), .ptr 10 g10 0, .ptr 11 g11 0, .any, .ptr 13 g13 0, litI .i64 j, .any, .any, .any, .any, .any, .any, .any, .any, .any, .any, .any, .any, .any, .any, .any, .any, .any, .any, .any, .any, .any, .any, .any, .any, .any, .any, .any, .any, .any, .any, .any, .any, .any, .any, .any, .any, .any, .any, .any, .any, .any, .any, .any, .any, .any, .any, .any, .any, .any, .any, .any, .any, .any, .any, .any, .any, .any, .any, .any, .any, .any, .any, .any, .any, .any, .any, .any, .any, .any, .any, .any, .any, .any, .any, .any, .any, .any, .any, .any, .any, .any, .any, .any, .any, .any, .any, .any, .any, .any, .any, .any, .any, .any, .any, .any, .any, .any, .any, .any, .any, .any, .any, .any, .any, .any, .any, .any, .any, .any, .any, .any, .any, .any, .any, .any, .any, .any, .any, .any, .any, .any, .any, .any, .any, .any], [.no, .no, .no, .no, .no, .no, .no, .no, .no, .no, .box g10 (got (x1, 0)), .box g11 (got (y, 0)), .no, .box g13 (got (c2, 0)), .no, .no, .no, .no, .no, .no, .no, .no, .no, .no, .no, .no, .no, .no, .no, .no, .no, .no, .no, .no, .no, .no, .no, .no, .no, .no, .no, .no, .no, .no, .no, .no, .no, .no, .no, .no, .no, .no, .no, .no, .no, .no, .no, .no, .no, .no, .no, .no, .no, .no, .no, .no, .no, .no, .no, .no, .no, .no, .no, .no, .no, .no, .no, .no, .no, .no, .no, .no, .no, .no, .no, .no, .no, .no, .no, .no, .no, .no, .no, .no, .no, .no, .no, .no, .no, .no, .no, .no, .no, .no, .no, .no, .no, .no, .no, .no, .no, .no, .no, .no, .no, .no, .no, .no, .no, .no, .no, .no, .no, .no, .no, .no, .no, .no, .no, .no, .no, .no, .no, .no, .no, .no, .no, .no, .no, .no]⟩) 0 (by omega) ?_ ?_
  · refine Wk.mk ?_ ?_
    all_goals (repeat' first | exact trivial | exact LeA.refl _ | exact LeA.any _ | exact LeO.refl _ | exact LeO.no _ | exact LeA.nil _ | exact LeA.nilOwn _ | exact LeO.nil _ _ _ | refine LeO.box ?_ | (refine LeA.i ?_; (first | rfl | (push_cast; rfl) | (rw [wrap_id (by omega)]; push_cast; omega) | (simp [wrap_id]; omega))) | refine ⟨?_, ?_⟩)
  intro i hi
  simp only [litI, litB, litS, got] at hi ⊢
  by_cases hlt : i < n.length
  rotate_left
  have hdec : decide ((i : Int) < (n.length : Int)) = false := by simp; omega
  · repeat' first
      | refine awp_seq ?_
      | refine awp_block ?_
      | refine awp_skip ?_
      | (refine reg _ (by (simp only [List.map_cons, List.map_nil]; rfl)) rfl ?_; intro K hK)
      | (refine awp_cond _ (by rfl) ?_ ?_ <;> (intro hb; first | (cases hb; done) | (have ht : true = true := hb; clear ht hb) | (have ht : false = false := hb; clear ht hb) | (simp only [hb]) | skip))
      | (refine awp_exit ?_; simp only [thenA, blockA, scopeA, reduceIte, RetQ, Nat.reduceEqDiff])
      | (refine awp_ret ?_; simp only [thenA, blockA, scopeA, RetQ])
      | (refine ev_nil (hK _ ?_); clear hK K)
      | (apply ev_step0; (case hr | hσ => (simp only [go_sem, hdec]; try rfl)); (case hc => (first | trivial | exact look_ok (by kernel_rfl) (by kernel_rfl) | decide | (simp only [inB, sliceOk, appendOk, rowsOk]; omega) | (simp [inB, sliceOk, appendOk, rowsOk]; omega))))
      | (apply ev_step; (case hr => (simp only [go_sem, hdec]; try rfl)); (case hσ => (intro g u; simp only [go_sem, hdec]; try rfl)); (case hc => (first | trivial | exact look_ok (by kernel_rfl) (by kernel_rfl) | decide | (simp only [inB, sliceOk, appendOk, rowsOk]; omega) | (simp [inB, sliceOk, appendOk, rowsOk]; omega))); intro g u; (try clear u); (try clear g))
      | fail
    all_goals (refine resR_one T_ok rfl _ (by (simp only [go_sem, resA]; rfl)) (by first | trivial | (simp only [go_sem, resA])) (by first | trivial | (simp only [go_sem])) ?_; simp only [go_sem])
    exact LeA.refl _
  have hdec : decide ((i : Int) < (n.length : Int)) = true := by simp; omega
  have hx := vls_at n hlt
  have hm := g2.ok _ (mem_at n dV hlt)
  generalize n.getD i dV = v at *
  have r0 := f18_spec x1 v okx hm.s
  have r1 := f18_spec y v oky hm.s
  have r2 := f18_spec c2 v okc hm.s
  have cxv := cx v
  have cyv := cy v
  simp only [bd] at r0 r1 r2
  have w5 : IntKind.i64.wrap ((i : Int) + 1) = ((i + 1 : Nat) : Int) := by rw [wrap_id (by omega)]; push_cast; rfl
  cases q0 : containsB x1 v with
  | true =>
    rw [q0] at r0
    rw [cxv q0] at r2
    repeat' first
      | refine awp_seq ?_
      | refine awp_block ?_
      | refine awp_skip ?_
      | (refine reg _ (by (simp only [List.map_cons, List.map_nil]; rfl)) rfl ?_; intro K hK)
      | (refine awp_cond _ (by rfl) ?_ ?_ <;> (intro hb; first | (cases hb; done) | (have ht : true = true := hb; clear ht hb) | (have ht : false = false := hb; clear ht hb) | (simp only [hb]) | skip))
      | (refine awp_exit ?_; simp only [thenA, blockA, scopeA, reduceIte, RetQ, Nat.reduceEqDiff])
      | (refine awp_ret ?_; simp only [thenA, blockA, scopeA, RetQ])
      | (refine ev_nil (hK _ ?_); clear hK K)
      | (apply ev_call0; (case hys => (simp only [go_sem, hdec, hx, w5]; try rfl)); (case hs => first | exact r0 .. | exact r2 ..); (case hok | hσ => (simp only [go_sem, hdec, hx, w5]; try rfl)))
      | (apply regD; (case hd => (simp only [List.map_cons, List.map_nil]; rfl)); (case hok => rfl); (case' h => (intro K hK; (repeat' first
        | (apply evd_nil; refine (hK _ ?_); clear hK K)
        | (apply evd_guardU0; (case hj | hu | hσ => (simp only [go_sem, hdec, hx, w5]; try rfl)))
        | (apply evd_guardU; (case hj | hu | hσ => (simp only [go_sem, hdec, hx, w5]; try rfl)))
        | (apply evd_skipT0; (case hj | hb | hσ => (simp only [go_sem, hdec, hx, w5]; try rfl)))
        | (apply evd_skipF0; (case hj | hb | hσ => (simp only [go_sem, hdec, hx, w5]; try rfl)))
        | (apply evd_skipT; (case hj | hb | hσ => (simp only [go_sem, hdec, hx, w5]; try rfl)))
        | (apply evd_skipF; (case hj | hb | hσ => (simp only [go_sem, hdec, hx, w5]; try rfl)))
        | (apply evd_guardT; (case hj | hb => (simp only [go_sem, hdec, hx, w5]; try rfl)); (case' h2 => (intro hb; first | (cases hb; done) | (simp only [hb]) | skip)); (case' h1 => (intro hb; first | (cases hb; done) | (simp only [hb]) | skip)))
        | (apply evd_guardF; (case hj | hb => (simp only [go_sem, hdec, hx, w5]; try rfl)); (case' h2 => (intro hb; first | (cases hb; done) | (simp only [hb]) | skip)); (case' h1 => (intro hb; first | (cases hb; done) | (simp only [hb]) | skip)))
        | (apply evd_call0; (case hi | hys => (simp only [go_sem, hdec, hx, w5]; try rfl)); (case hs => first | exact r0 .. | exact r2 ..); (case hok | hw | hσ => (simp only [go_sem, hdec, hx, w5]; try rfl)))
        | (apply evd_step0; (case hr | hi | hσ => (simp only [go_sem, hdec, hx, w5]; try rfl)); (case hc => (first | trivial | exact look_ok (by kernel_rfl) (by kernel_rfl) | decide | (simp only [inB, sliceOk, appendOk, rowsOk]; omega) | (simp [inB, sliceOk, appendOk, rowsOk]; omega))))
        | (apply evd_step; (case hr | hi => (simp only [go_sem, hdec, hx, w5]; try rfl)); (case hc => (first | trivial | exact look_ok (by kernel_rfl) (by kernel_rfl) | decide | (simp only [inB, sliceOk, appendOk, rowsOk]; omega) | (simp [inB, sliceOk, appendOk, rowsOk]; omega))); (case hw | hσ => (intro g u; simp only [go_sem, hdec, hx, w5]; try rfl)); (case' hk => (intro g u; (try clear u); (try clear g))))
        | fail))); (case hB => kernel_rfl))
      | (apply ev_step0; (case hr | hσ => (simp only [go_sem, hdec, hx, w5]; try rfl)); (case hc => (first | trivial | exact look_ok (by kernel_rfl) (by kernel_rfl) | decide | (simp only [inB, sliceOk, appendOk, rowsOk]; omega) | (simp [inB, sliceOk, appendOk, rowsOk]; omega))))
      | (apply ev_step; (case hr => (simp only [go_sem, hdec, hx, w5]; try rfl)); (case hσ => (intro g u; simp only [go_sem, hdec, hx, w5]; try rfl)); (case hc => (first | trivial | exact look_ok (by kernel_rfl) (by kernel_rfl) | decide | (simp only [inB, sliceOk, appendOk, rowsOk]; omega) | (simp [inB, sliceOk, appendOk, rowsOk]; omega))); intro g u; (try clear u); (try clear g))
      | fail
    refine Exists.intro (i + 1) ⟨by omega, by omega, ?_⟩
    refine Wk.mk ?_ ?_
    all_goals (repeat' first | exact trivial | exact LeA.refl _ | exact LeA.any _ | exact LeO.refl _ | exact LeO.no _ | exact LeA.nil _ | exact LeA.nilOwn _ | exact LeO.nil _ _ _ | refine LeO.box ?_ | (refine LeA.i ?_; (first | rfl | (push_cast; rfl) | (rw [wrap_id (by omega)]; push_cast; omega) | (simp [wrap_id]; omega))) | refine ⟨?_, ?_⟩)
  | false =>
  rw [q0] at r0
  cases q1 : containsB y v with
  | true =>
    rw [q1] at r1
    rw [cyv q1] at r2
    repeat' first
      | refine awp_seq ?_
      | refine awp_block ?_
      | refine awp_skip ?_
      | (refine reg _ (by (simp only [List.map_cons, List.map_nil]; rfl)) rfl ?_; intro K hK)
      | (refine awp_cond _ (by rfl) ?_ ?_ <;> (intro hb; first | (cases hb; done) | (have ht : true = true := hb; clear ht hb) | (have ht : false = false := hb; clear ht hb) | (simp only [hb]) | skip))
      | (refine awp_exit ?_; simp only [thenA, blockA, scopeA, reduceIte, RetQ, Nat.reduceEqDiff])
      | (refine awp_ret ?_; simp only [thenA, blockA, scopeA, RetQ])
      | (refine ev_nil (hK _ ?_); clear hK K)
      | (apply ev_call0; (case hys => (simp only [go_sem, hdec, hx, w5]; try rfl)); (case hs => first | exact r0 .. | exact r1 .. | exact r2 ..); (case hok | hσ => (simp only [go_sem, hdec, hx, w5]; try rfl)))
      | (apply regD; (case hd => (simp only [List.map_cons, List.map_nil]; rfl)); (case hok => rfl); (case' h => (intro K hK; (repeat' first
        | (apply evd_nil; refine (hK _ ?_); clear hK K)
        | (apply evd_guardU0; (case hj | hu | hσ => (simp only [go_sem, hdec, hx, w5]; try rfl)))
        | (apply evd_guardU; (case hj | hu | hσ => (simp only [go_sem, hdec, hx, w5]; try rfl)))
        | (apply evd_skipT0; (case hj | hb | hσ => (simp only [go_sem, hdec, hx, w5]; try rfl)))
        | (apply evd_skipF0; (case hj | hb | hσ => (simp only [go_sem, hdec, hx, w5]; try rfl)))
        | (apply evd_skipT; (case hj | hb | hσ => (simp only [go_sem, hdec, hx, w5]; try rfl)))
        | (apply evd_skipF; (case hj | hb | hσ => (simp only [go_sem, hdec, hx, w5]; try rfl)))
        | (apply evd_guardT; (case hj | hb => (simp only [go_sem, hdec, hx, w5]; try rfl)); (case' h2 => (intro hb; first | (cases hb; done) | (simp only [hb]) | skip)); (case' h1 => (intro hb; first | (cases hb; done) | (simp only [hb]) | skip)))
        | (apply evd_guardF; (case hj | hb => (simp only [go_sem, hdec, hx, w5]; try rfl)); (case' h2 => (intro hb; first | (cases hb; done) | (simp only [hb]) | skip)); (case' h1 => (intro hb; first | (cases hb; done) | (simp only [hb]) | skip)))
        | (apply evd_call0; (case hi | hys => (simp only [go_sem, hdec, hx, w5]; try rfl)); (case hs => first | exact r0 .. | exact r1 .. | exact r2 ..); (case hok | hw | hσ => (simp only [go_sem, hdec, hx, w5]; try rfl)))
        | (apply evd_step0; (case hr | hi | hσ => (simp only [go_sem, hdec, hx, w5]; try rfl)); (case hc => (first | trivial | exact look_ok (by kernel_rfl) (by kernel_rfl) | decide | (simp only [inB, sliceOk, appendOk, rowsOk]; omega) | (simp [inB, sliceOk, appendOk, rowsOk]; omega))))
        | (apply evd_step; (case hr | hi => (simp only [go_sem, hdec, hx, w5]; try rfl)); (case hc => (first | trivial | exact look_ok (by kernel_rfl) (by kernel_rfl) | decide | (simp only [inB, sliceOk, appendOk, rowsOk]; omega) | (simp [inB, sliceOk, appendOk, rowsOk]; omega))); (case hw | hσ => (intro g u; simp only [go_sem, hdec, hx, w5]; try rfl)); (case' hk => (intro g u; (try clear u); (try clear g))))
        | fail))); (case hB => kernel_rfl))
      | (apply ev_step0; (case hr | hσ => (simp only [go_sem, hdec, hx, w5]; try rfl)); (case hc => (first | trivial | exact look_ok (by kernel_rfl) (by kernel_rfl) | decide | (simp only [inB, sliceOk, appendOk, rowsOk]; omega) | (simp [inB, sliceOk, appendOk, rowsOk]; omega))))
      | (apply ev_step; (case hr => (simp only [go_sem, hdec, hx, w5]; try rfl)); (case hσ => (intro g u; simp only [go_sem, hdec, hx, w5]; try rfl)); (case hc => (first | trivial | exact look_ok (by kernel_rfl) (by kernel_rfl) | decide | (simp only [inB, sliceOk, appendOk, rowsOk]; omega) | (simp [inB, sliceOk, appendOk, rowsOk]; omega))); intro g u; (try clear u); (try clear g))
      | fail
    refine Exists.intro (i + 1) ⟨by omega, by omega, ?_⟩
    refine Wk.mk ?_ ?_
    all_goals (repeat' first | exact trivial | exact LeA.refl _ | exact LeA.any _ | exact LeO.refl _ | exact LeO.no _ | exact LeA.nil _ | exact LeA.nilOwn _ | exact LeO.nil _ _ _ | refine LeO.box ?_ | (refine LeA.i ?_; (first | rfl | (push_cast; rfl) | (rw [wrap_id (by omega)]; push_cast; omega) | (simp [wrap_id]; omega))) | refine ⟨?_, ?_⟩)
  | false =>
    rw [q1] at r1
    repeat' first
      | refine awp_seq ?_
      | refine awp_block ?_
      | refine awp_skip ?_
      | (refine reg _ (by (simp only [List.map_cons, List.map_nil]; rfl)) rfl ?_; intro K hK)
      | (refine awp_cond _ (by rfl) ?_ ?_ <;> (intro hb; first | (cases hb; done) | (have ht : true = true := hb; clear ht hb) | (have ht : false = false := hb; clear ht hb) | (simp only [hb]) | skip))
      | (refine awp_exit ?_; simp only [thenA, blockA, scopeA, reduceIte, RetQ, Nat.reduceEqDiff])
      | (refine awp_ret ?_; simp only [thenA, blockA, scopeA, RetQ])
      | (refine ev_nil (hK _ ?_); clear hK K)
      | (apply ev_call0; (case hys => (simp only [go_sem, hdec, hx, w5]; try rfl)); (case hs => first | exact r0 .. | exact r1 ..); (case hok | hσ => (simp only [go_sem, hdec, hx, w5]; try rfl)))
      | (apply regD; (case hd => (simp only [List.map_cons, List.map_nil]; rfl)); (case hok => rfl); (case' h => (intro K hK; (repeat' first
        | (apply evd_nil; refine (hK _ ?_); clear hK K)
        | (apply evd_guardU0; (case hj | hu | hσ => (simp only [go_sem, hdec, hx, w5]; try rfl)))
        | (apply evd_guardU; (case hj | hu | hσ => (simp only [go_sem, hdec, hx, w5]; try rfl)))
        | (apply evd_skipT0; (case hj | hb | hσ => (simp only [go_sem, hdec, hx, w5]; try rfl)))
        | (apply evd_skipF0; (case hj | hb | hσ => (simp only [go_sem, hdec, hx, w5]; try rfl)))
        | (apply evd_skipT; (case hj | hb | hσ => (simp only [go_sem, hdec, hx, w5]; try rfl)))
        | (apply evd_skipF; (case hj | hb | hσ => (simp only [go_sem, hdec, hx, w5]; try rfl)))
        | (apply evd_guardT; (case hj | hb => (simp only [go_sem, hdec, hx, w5]; try rfl)); (case' h2 => (intro hb; first | (cases hb; done) | (simp only [hb]) | skip)); (case' h1 => (intro hb; first | (cases hb; done) | (simp only [hb]) | skip)))
        | (apply evd_guardF; (case hj | hb => (simp only [go_sem, hdec, hx, w5]; try rfl)); (case' h2 => (intro hb; first | (cases hb; done) | (simp only [hb]) | skip)); (case' h1 => (intro hb; first | (cases hb; done) | (simp only [hb]) | skip)))
        | (apply evd_call0; (case hi | hys => (simp only [go_sem, hdec, hx, w5]; try rfl)); (case hs => first | exact r0 .. | exact r1 ..); (case hok | hw | hσ => (simp only [go_sem, hdec, hx, w5]; try rfl)))
        | (apply evd_step0; (case hr | hi | hσ => (simp only [go_sem, hdec, hx, w5]; try rfl)); (case hc => (first | trivial | exact look_ok (by kernel_rfl) (by kernel_rfl) | decide | (simp only [inB, sliceOk, appendOk, rowsOk]; omega) | (simp [inB, sliceOk, appendOk, rowsOk]; omega))))
        | (apply evd_step; (case hr | hi => (simp only [go_sem, hdec, hx, w5]; try rfl)); (case hc => (first | trivial | exact look_ok (by kernel_rfl) (by kernel_rfl) | decide | (simp only [inB, sliceOk, appendOk, rowsOk]; omega) | (simp [inB, sliceOk, appendOk, rowsOk]; omega))); (case hw | hσ => (intro g u; simp only [go_sem, hdec, hx, w5]; try rfl)); (case' hk => (intro g u; (try clear u); (try clear g))))
        | fail))); (case hB => kernel_rfl))
      | (apply ev_step0; (case hr | hσ => (simp only [go_sem, hdec, hx, w5]; try rfl)); (case hc => (first | trivial | exact look_ok (by kernel_rfl) (by kernel_rfl) | decide | (simp only [inB, sliceOk, appendOk, rowsOk]; omega) | (simp [inB, sliceOk, appendOk, rowsOk]; omega))))
      | (apply ev_step; (case hr => (simp only [go_sem, hdec, hx, w5]; try rfl)); (case hσ => (intro g u; simp only [go_sem, hdec, hx, w5]; try rfl)); (case hc => (first | trivial | exact look_ok (by kernel_rfl) (by kernel_rfl) | decide | (simp only [inB, sliceOk, appendOk, rowsOk]; omega) | (simp [inB, sliceOk, appendOk, rowsOk]; omega))); intro g u; (try clear u); (try clear g))
      | fail
    refine Exists.intro (i + 1) ⟨by omega, by omega, ?_⟩
    refine Wk.mk ?_ ?_
    all_goals (repeat' first | exact trivial | exact LeA.refl _ | exact LeA.any _ | exact LeO.refl _ | exact LeO.no _ | exact LeA.nil _ | exact LeA.nilOwn _ | exact LeO.nil _ _ _ | refine LeO.box ?_ | (refine LeA.i ?_; (first | rfl | (push_cast; rfl) | (rw [wrap_id (by omega)]; push_cast; omega) | (simp [wrap_id]; omega))) | refine ⟨?_, ?_⟩)
end
section
set_option linter.unusedVariables false
set_option linter.unusedSimpArgs false
open Go.RowKit
theorem gNull : Tryd.prog.globalNamed "chapman/bounds.null" = some 0 := by kernel_rfl
theorem tNull : (Tryd.prog.globals[0]?).map (·.type) = some 26 := by kernel_rfl
theorem gLogic : Tryd.prog.globalNamed "chapman/bounds.logic" = some 1 := by kernel_rfl
theorem tLogic : (Tryd.prog.globals[1]?).map (·.type) = some 111 := by kernel_rfl
theorem gStrict : Tryd.prog.globalNamed "chapman/bounds.strict" = some 2 := by kernel_rfl
theorem tStrict : (Tryd.prog.globals[2]?).map (·.type) = some 111 := by kernel_rfl
theorem gBools : Tryd.prog.globalNamed "chapman/bounds.bools" = some 3 := by kernel_rfl
theorem tBools : (Tryd.prog.globals[3]?).map (·.type) = some 112 := by kernel_rfl
theorem gChecks : Tryd.prog.globalNamed "chapman/value.checks" = some 4 := by kernel_rfl
theorem tChecks : (Tryd.prog.globals[4]?).map (·.type) = some 124 := by kernel_rfl
theorem c3 : Tryd.prog.cellsOf 3 = 1 := by kernel_rfl
theorem c9 : Tryd.prog.cellsOf 9 = 1 := by kernel_rfl
theorem c26 : Tryd.prog.cellsOf 26 = 3 := by kernel_rfl
theorem c103 : Tryd.prog.cellsOf 103 = 1 := by kernel_rfl
theorem c124 : Tryd.prog.cellsOf 124 = 4 := by kernel_rfl
theorem list3 {α : Type} {l : List α} (h : l.length = 3) : ∃ a b c, l = [a, b, c] := by
  match l, h with
  | [a, b, c], _ => exact ⟨a, b, c, rfl⟩
theorem list4 {α : Type} {l : List α} (h : l.length = 4) : ∃ a b c d, l = [a, b, c, d] := by
  match l, h with
  | [a, b, c, d], _ => exact ⟨a, b, c, d, rfl⟩
theorem val26 {H : Type} {enc : TypeId × Value → H} {w : World} {base : Nat} {sp : Nat → Bool} {held : Bool} {fuel : Nat} {cs : List Value} {a b : Int} {s : List UInt8} {p : List MemPlace}
    (h : DataW.trod enc Tryd.prog w base sp held fuel 26 cs = some (.agg [.lit (.int .i64 a), .lit (.int .i64 b), .lit (.string s)], p)) : cs = [.int .i64 a, .int .i64 b, .string ⟨s.toArray⟩] := by
  obtain ⟨xs, m, rfl, hx, hlen, hxl, hel⟩ := DataW.trod_struct Tryd.underlying26 h
  rw [c26] at hlen
  obtain ⟨k0, k1, k2, rfl⟩ := list3 hlen
  have hxl : xs.length = 3 := hxl
  obtain ⟨x0, x1, x2, rfl⟩ := list3 hxl
  have h0 := hel 0 { name := "K", type := 3, offset := 0, embedded := false, tag := "", pkgPath := "", byteOffset := 0 } rfl
  have h1 := hel 1 { name := "I", type := 3, offset := 1, embedded := false, tag := "", pkgPath := "", byteOffset := 8 } rfl
  have h2 := hel 2 { name := "S", type := 9, offset := 2, embedded := false, tag := "", pkgPath := "", byteOffset := 16 } rfl
  simp only [c3, c9, List.drop_zero, List.drop_succ_cons, List.take_succ_cons, List.take_zero, List.getElem?_cons_zero, List.getElem?_cons_succ] at h0 h1 h2
  obtain ⟨n0, e0, r0, _⟩ := DataW.trod_int Tryd.underlying3 h0
  obtain ⟨n1, e1, r1, _⟩ := DataW.trod_int Tryd.underlying3 h1
  obtain ⟨s2, e2, r2, _⟩ := DataW.trod_string Tryd.underlying9 h2
  simp only [Prod.mk.injEq, DataW.agg.injEq, List.map_cons, List.map_nil, List.cons.injEq, r0, r1, r2, DataW.lit.injEq, Lit.int.injEq, Lit.string.injEq, true_and, and_true] at hx
  obtain ⟨⟨hx0, hx1, hx2⟩, _⟩ := hx
  replace e0 := (List.cons.inj e0).1
  replace e1 := (List.cons.inj e1).1
  replace e2 := (List.cons.inj e2).1
  rw [e0, e1, e2, hx0, hx1, hx2]
theorem fn_name {w : World} {base : Nat} {sp : Nat → Bool} {fuel t : Nat} {x : Value} {b : UInt8} {r : List UInt8} {q : List MemPlace} {f0 : FuncId} {ps rs : Array TypeId} {va : Bool} (ht : Tryd.prog.underlying t = some (.func ps rs va)) (hone : ((List.range Tryd.prog.funcs.size).filter fun f => (Tryd.prog.funcs[f]?).any (·.name.toUTF8.data.toList == b :: r)) = [f0])
    (hf : x.formed Tryd.prog t = true) (h : DataW.trod (funcToken Tryd.prog) Tryd.prog w base sp true fuel t x.cells.toList = some (.held (b :: r), q)) : x = .func (.func f0) #[] #[] := by
  rw [formed_one ht rfl hf] at h
  exact func_of_trod ht hone h
theorem one105 : ((List.range Tryd.prog.funcs.size).filter fun f => (Tryd.prog.funcs[f]?).any (·.name.toUTF8.data.toList == [40, 99, 104, 97, 112, 109, 97, 110, 47, 98, 111, 117, 110, 100, 115, 46, 115, 112, 97, 110, 41, 46, 97, 110, 100])) = [105] := by kernel_rfl
theorem one106 : ((List.range Tryd.prog.funcs.size).filter fun f => (Tryd.prog.funcs[f]?).any (·.name.toUTF8.data.toList == [40, 99, 104, 97, 112, 109, 97, 110, 47, 98, 111, 117, 110, 100, 115, 46, 115, 112, 97, 110, 41, 46, 111, 114])) = [106] := by kernel_rfl
theorem one107 : ((List.range Tryd.prog.funcs.size).filter fun f => (Tryd.prog.funcs[f]?).any (·.name.toUTF8.data.toList == [40, 99, 104, 97, 112, 109, 97, 110, 47, 98, 111, 117, 110, 100, 115, 46, 115, 112, 97, 110, 41, 46, 110, 111, 116])) = [107] := by kernel_rfl
theorem one108 : ((List.range Tryd.prog.funcs.size).filter fun f => (Tryd.prog.funcs[f]?).any (·.name.toUTF8.data.toList == [40, 99, 104, 97, 112, 109, 97, 110, 47, 98, 111, 117, 110, 100, 115, 46, 115, 112, 97, 110, 41, 46, 105, 115, 78, 117, 108, 108])) = [108] := by kernel_rfl
def glogicF : Lit × DataW (List UInt8) → Value × Value := fun x => match x.1 with
  | .int _ n => (.int .i64 n, if n = 6 then .func (.func 105) #[] #[] else if n = 7 then .func (.func 106) #[] #[] else if n = 8 then .func (.func 107) #[] #[] else if n = 9 then .func (.func 108) #[] #[] else .nilFunc)
  | _ => (.nilFunc, .nilFunc)
theorem laid_logic {W : World} (h : funcsAt Tryd.prog W "chapman/bounds.logic" (.map [(.int .i64 6, .iface "func" (.lit (.string [40, 99, 104, 97, 112, 109, 97, 110, 47, 98, 111, 117, 110, 100, 115, 46, 115, 112, 97, 110, 41, 46, 97, 110, 100]))), (.int .i64 7, .iface "func" (.lit (.string [40, 99, 104, 97, 112, 109, 97, 110, 47, 98, 111, 117, 110, 100, 115, 46, 115, 112, 97, 110, 41, 46, 111, 114]))), (.int .i64 8, .iface "func" (.lit (.string [40, 99, 104, 97, 112, 109, 97, 110, 47, 98, 111, 117, 110, 100, 115, 46, 115, 112, 97, 110, 41, 46, 110, 111, 116]))), (.int .i64 9, .iface "func" (.lit (.string [40, 99, 104, 97, 112, 109, 97, 110, 47, 98, 111, 117, 110, 100, 115, 46, 115, 112, 97, 110, 41, 46, 105, 115, 78, 117, 108, 108])))])) : ∃ b en cl, W.cell? ⟨1, 0, none⟩ = some (.map (some b)) ∧ W.heap[b]? = some (.map en cl) ∧ (en.toList.map fun e => (e.key, e.val)).Perm [(.int .i64 6, .func (.func 105) #[] #[]), (.int .i64 7, .func (.func 106) #[] #[]), (.int .i64 8, .func (.func 107) #[] #[]), (.int .i64 9, .func (.func 108) #[] #[])] := by
  obtain ⟨g, t, cs, fuel, p, hg, ht, hv, hd⟩ := h
  obtain rfl := Option.some.inj (gLogic.symm.trans hg)
  obtain rfl := Option.some.inj (tLogic.symm.trans ht)
  have hd' : DataW.trod (funcToken Tryd.prog) Tryd.prog W 0 (fun _ => true) true fuel 111 cs.toList = some (.map [(.int .i64 6, .held [40, 99, 104, 97, 112, 109, 97, 110, 47, 98, 111, 117, 110, 100, 115, 46, 115, 112, 97, 110, 41, 46, 97, 110, 100]), (.int .i64 7, .held [40, 99, 104, 97, 112, 109, 97, 110, 47, 98, 111, 117, 110, 100, 115, 46, 115, 112, 97, 110, 41, 46, 111, 114]), (.int .i64 8, .held [40, 99, 104, 97, 112, 109, 97, 110, 47, 98, 111, 117, 110, 100, 115, 46, 115, 112, 97, 110, 41, 46, 110, 111, 116]), (.int .i64 9, .held [40, 99, 104, 97, 112, 109, 97, 110, 47, 98, 111, 117, 110, 100, 115, 46, 115, 112, 97, 110, 41, 46, 105, 115, 78, 117, 108, 108])], p) := hd
  obtain ⟨b, es, cl, hcs, hb, hp⟩ := map_open Tryd.underlying111 hd' glogicF (fun n x key d q hk hf hr hm => by
    simp only [List.mem_cons, List.not_mem_nil, or_false, Prod.mk.injEq] at hm
    rcases hm with ⟨rfl, rfl⟩ | ⟨rfl, rfl⟩ | ⟨rfl, rfl⟩ | ⟨rfl, rfl⟩
    · rw [key_int Tryd.underlying3 hk, fn_name Tryd.underlying109 one105 hf hr]; rfl
    · rw [key_int Tryd.underlying3 hk, fn_name Tryd.underlying109 one106 hf hr]; rfl
    · rw [key_int Tryd.underlying3 hk, fn_name Tryd.underlying109 one107 hf hr]; rfl
    · rw [key_int Tryd.underlying3 hk, fn_name Tryd.underlying109 one108 hf hr]; rfl)
  refine ⟨b, es, cl, ?_, hb, hp⟩
  have := World.var?_cell hg hv 0
  rw [Array.eq_one_of_toList hcs] at this
  simpa using this
theorem one110 : ((List.range Tryd.prog.funcs.size).filter fun f => (Tryd.prog.funcs[f]?).any (·.name.toUTF8.data.toList == [40, 99, 104, 97, 112, 109, 97, 110, 47, 98, 111, 117, 110, 100, 115, 46, 115, 112, 97, 110, 41, 46, 101, 113, 117, 97, 108])) = [110] := by kernel_rfl
theorem one111 : ((List.range Tryd.prog.funcs.size).filter fun f => (Tryd.prog.funcs[f]?).any (·.name.toUTF8.data.toList == [40, 99, 104, 97, 112, 109, 97, 110, 47, 98, 111, 117, 110, 100, 115, 46, 115, 112, 97, 110, 41, 46, 108, 101, 115, 115])) = [111] := by kernel_rfl
theorem one112 : ((List.range Tryd.prog.funcs.size).filter fun f => (Tryd.prog.funcs[f]?).any (·.name.toUTF8.data.toList == [40, 99, 104, 97, 112, 109, 97, 110, 47, 98, 111, 117, 110, 100, 115, 46, 115, 112, 97, 110, 41, 46, 109, 111, 115, 116])) = [112] := by kernel_rfl
theorem one114 : ((List.range Tryd.prog.funcs.size).filter fun f => (Tryd.prog.funcs[f]?).any (·.name.toUTF8.data.toList == [40, 99, 104, 97, 112, 109, 97, 110, 47, 98, 111, 117, 110, 100, 115, 46, 115, 112, 97, 110, 41, 46, 112, 108, 117, 115])) = [114] := by kernel_rfl
theorem one115 : ((List.range Tryd.prog.funcs.size).filter fun f => (Tryd.prog.funcs[f]?).any (·.name.toUTF8.data.toList == [40, 99, 104, 97, 112, 109, 97, 110, 47, 98, 111, 117, 110, 100, 115, 46, 115, 112, 97, 110, 41, 46, 109, 105, 110, 117, 115])) = [115] := by kernel_rfl
theorem one113 : ((List.range Tryd.prog.funcs.size).filter fun f => (Tryd.prog.funcs[f]?).any (·.name.toUTF8.data.toList == [40, 99, 104, 97, 112, 109, 97, 110, 47, 98, 111, 117, 110, 100, 115, 46, 115, 112, 97, 110, 41, 46, 112, 114, 101, 102, 105, 120])) = [113] := by kernel_rfl
def gstrictF : Lit × DataW (List UInt8) → Value × Value := fun x => match x.1 with
  | .int _ n => (.int .i64 n, if n = 3 then .func (.func 110) #[] #[] else if n = 4 then .func (.func 111) #[] #[] else if n = 5 then .func (.func 112) #[] #[] else if n = 10 then .func (.func 114) #[] #[] else if n = 11 then .func (.func 115) #[] #[] else if n = 12 then .func (.func 113) #[] #[] else .nilFunc)
  | _ => (.nilFunc, .nilFunc)
theorem laid_strict {W : World} (h : funcsAt Tryd.prog W "chapman/bounds.strict" (.map [(.int .i64 3, .iface "func" (.lit (.string [40, 99, 104, 97, 112, 109, 97, 110, 47, 98, 111, 117, 110, 100, 115, 46, 115, 112, 97, 110, 41, 46, 101, 113, 117, 97, 108]))), (.int .i64 4, .iface "func" (.lit (.string [40, 99, 104, 97, 112, 109, 97, 110, 47, 98, 111, 117, 110, 100, 115, 46, 115, 112, 97, 110, 41, 46, 108, 101, 115, 115]))), (.int .i64 5, .iface "func" (.lit (.string [40, 99, 104, 97, 112, 109, 97, 110, 47, 98, 111, 117, 110, 100, 115, 46, 115, 112, 97, 110, 41, 46, 109, 111, 115, 116]))), (.int .i64 10, .iface "func" (.lit (.string [40, 99, 104, 97, 112, 109, 97, 110, 47, 98, 111, 117, 110, 100, 115, 46, 115, 112, 97, 110, 41, 46, 112, 108, 117, 115]))), (.int .i64 11, .iface "func" (.lit (.string [40, 99, 104, 97, 112, 109, 97, 110, 47, 98, 111, 117, 110, 100, 115, 46, 115, 112, 97, 110, 41, 46, 109, 105, 110, 117, 115]))), (.int .i64 12, .iface "func" (.lit (.string [40, 99, 104, 97, 112, 109, 97, 110, 47, 98, 111, 117, 110, 100, 115, 46, 115, 112, 97, 110, 41, 46, 112, 114, 101, 102, 105, 120])))])) : ∃ b en cl, W.cell? ⟨2, 0, none⟩ = some (.map (some b)) ∧ W.heap[b]? = some (.map en cl) ∧ (en.toList.map fun e => (e.key, e.val)).Perm [(.int .i64 3, .func (.func 110) #[] #[]), (.int .i64 4, .func (.func 111) #[] #[]), (.int .i64 5, .func (.func 112) #[] #[]), (.int .i64 10, .func (.func 114) #[] #[]), (.int .i64 11, .func (.func 115) #[] #[]), (.int .i64 12, .func (.func 113) #[] #[])] := by
  obtain ⟨g, t, cs, fuel, p, hg, ht, hv, hd⟩ := h
  obtain rfl := Option.some.inj (gStrict.symm.trans hg)
  obtain rfl := Option.some.inj (tStrict.symm.trans ht)
  have hd' : DataW.trod (funcToken Tryd.prog) Tryd.prog W 0 (fun _ => true) true fuel 111 cs.toList = some (.map [(.int .i64 3, .held [40, 99, 104, 97, 112, 109, 97, 110, 47, 98, 111, 117, 110, 100, 115, 46, 115, 112, 97, 110, 41, 46, 101, 113, 117, 97, 108]), (.int .i64 4, .held [40, 99, 104, 97, 112, 109, 97, 110, 47, 98, 111, 117, 110, 100, 115, 46, 115, 112, 97, 110, 41, 46, 108, 101, 115, 115]), (.int .i64 5, .held [40, 99, 104, 97, 112, 109, 97, 110, 47, 98, 111, 117, 110, 100, 115, 46, 115, 112, 97, 110, 41, 46, 109, 111, 115, 116]), (.int .i64 10, .held [40, 99, 104, 97, 112, 109, 97, 110, 47, 98, 111, 117, 110, 100, 115, 46, 115, 112, 97, 110, 41, 46, 112, 108, 117, 115]), (.int .i64 11, .held [40, 99, 104, 97, 112, 109, 97, 110, 47, 98, 111, 117, 110, 100, 115, 46, 115, 112, 97, 110, 41, 46, 109, 105, 110, 117, 115]), (.int .i64 12, .held [40, 99, 104, 97, 112, 109, 97, 110, 47, 98, 111, 117, 110, 100, 115, 46, 115, 112, 97, 110, 41, 46, 112, 114, 101, 102, 105, 120])], p) := hd
  obtain ⟨b, es, cl, hcs, hb, hp⟩ := map_open Tryd.underlying111 hd' gstrictF (fun n x key d q hk hf hr hm => by
    simp only [List.mem_cons, List.not_mem_nil, or_false, Prod.mk.injEq] at hm
    rcases hm with ⟨rfl, rfl⟩ | ⟨rfl, rfl⟩ | ⟨rfl, rfl⟩ | ⟨rfl, rfl⟩ | ⟨rfl, rfl⟩ | ⟨rfl, rfl⟩
    · rw [key_int Tryd.underlying3 hk, fn_name Tryd.underlying109 one110 hf hr]; rfl
    · rw [key_int Tryd.underlying3 hk, fn_name Tryd.underlying109 one111 hf hr]; rfl
    · rw [key_int Tryd.underlying3 hk, fn_name Tryd.underlying109 one112 hf hr]; rfl
    · rw [key_int Tryd.underlying3 hk, fn_name Tryd.underlying109 one114 hf hr]; rfl
    · rw [key_int Tryd.underlying3 hk, fn_name Tryd.underlying109 one115 hf hr]; rfl
    · rw [key_int Tryd.underlying3 hk, fn_name Tryd.underlying109 one113 hf hr]; rfl)
  refine ⟨b, es, cl, ?_, hb, hp⟩
  have := World.var?_cell hg hv 0
  rw [Array.eq_one_of_toList hcs] at this
  simpa using this
def gboolsF {H : Type} : Lit × DataW H → Value × Value := fun x => match x.1 with
  | .bool b => (.bool b, .agg #[.int .i64 1, .int .i64 (if b = true then 1 else 0), .string ⟨#[]⟩])
  | _ => (.nilFunc, .nilFunc)
theorem laid_bools {W : World} {t cs fuel p} (ht : (Tryd.prog.globals[3]?).map (·.type) = some t) (hv : W.var? Tryd.prog "chapman/bounds.bools" = some cs) (hd : DataW.trod (fun _ => ()) Tryd.prog W 0 (fun _ => true) false fuel t cs.toList = some (.map [(.bool false, .agg [.lit (.int .i64 1), .lit (.int .i64 0), .lit (.string [])]), (.bool true, .agg [.lit (.int .i64 1), .lit (.int .i64 1), .lit (.string [])])], p)) :
    ∃ b en cl, W.cell? ⟨3, 0, none⟩ = some (.map (some b)) ∧ W.heap[b]? = some (.map en cl) ∧ (en.toList.map fun e => (e.key, e.val)).Perm [(.bool false, .agg #[.int .i64 1, .int .i64 0, .string ⟨#[]⟩]), (.bool true, .agg #[.int .i64 1, .int .i64 1, .string ⟨#[]⟩])] := by
  obtain rfl := Option.some.inj (tBools.symm.trans ht)
  obtain ⟨b, es, cl, hcs, hb, hp⟩ := map_open Tryd.underlying112 hd gboolsF (fun n x key d q hk hf hr hm => by
    obtain ⟨ar, har⟩ := formed_agg Tryd.underlying26 hf
    simp only [List.mem_cons, List.not_mem_nil, or_false, Prod.mk.injEq] at hm
    rcases hm with ⟨rfl, rfl⟩ | ⟨rfl, rfl⟩
    · have e := val26 hr
      rw [har] at e ⊢
      have e' : ar.toList = _ := e
      rw [key_bool Tryd.underlying4 hk, ← Array.toArray_toList (xs := ar), e']; rfl
    · have e := val26 hr
      rw [har] at e ⊢
      have e' : ar.toList = _ := e
      rw [key_bool Tryd.underlying4 hk, ← Array.toArray_toList (xs := ar), e']; rfl)
  refine ⟨b, es, cl, ?_, hb, hp⟩
  have := World.var?_cell gBools hv 0
  rw [Array.eq_one_of_toList hcs] at this
  simpa using this
theorem laid_null {W : World} {t cs fuel p} (ht : (Tryd.prog.globals[0]?).map (·.type) = some t) (hv : W.var? Tryd.prog "chapman/bounds.null" = some cs) (hd : DataW.trod (fun _ => ()) Tryd.prog W 0 (fun _ => true) false fuel t cs.toList = some (.agg [.lit (.int .i64 0), .lit (.int .i64 0), .lit (.string [])], p)) :
    ∀ i v, [Value.int .i64 0, .int .i64 0, .string ⟨#[]⟩][i]? = some v → W.cell? ⟨0, i, none⟩ = some v := by
  obtain rfl := Option.some.inj (tNull.symm.trans ht)
  have e := val26 hd
  intro i v hi
  rw [World.var?_cell gNull hv i, ← Array.getElem?_toList, e]
  exact hi
theorem one120 : ((List.range Tryd.prog.funcs.size).filter fun f => (Tryd.prog.funcs[f]?).any (·.name.toUTF8.data.toList == [99, 104, 97, 112, 109, 97, 110, 47, 118, 97, 108, 117, 101, 46, 99, 104, 101, 99, 107, 115, 36, 49])) = [120] := by kernel_rfl
theorem one121 : ((List.range Tryd.prog.funcs.size).filter fun f => (Tryd.prog.funcs[f]?).any (·.name.toUTF8.data.toList == [99, 104, 97, 112, 109, 97, 110, 47, 118, 97, 108, 117, 101, 46, 99, 104, 101, 99, 107, 115, 36, 50])) = [121] := by kernel_rfl
theorem one122 : ((List.range Tryd.prog.funcs.size).filter fun f => (Tryd.prog.funcs[f]?).any (·.name.toUTF8.data.toList == [99, 104, 97, 112, 109, 97, 110, 47, 118, 97, 108, 117, 101, 46, 99, 104, 101, 99, 107, 115, 36, 51])) = [122] := by kernel_rfl
theorem one123 : ((List.range Tryd.prog.funcs.size).filter fun f => (Tryd.prog.funcs[f]?).any (·.name.toUTF8.data.toList == [99, 104, 97, 112, 109, 97, 110, 47, 118, 97, 108, 117, 101, 46, 99, 104, 101, 99, 107, 115, 36, 52])) = [123] := by kernel_rfl
theorem laid_checks {W : World} (h : funcsAt Tryd.prog W "chapman/value.checks" (.agg [.iface "func" (.lit (.string [99, 104, 97, 112, 109, 97, 110, 47, 118, 97, 108, 117, 101, 46, 99, 104, 101, 99, 107, 115, 36, 49])), .iface "func" (.lit (.string [99, 104, 97, 112, 109, 97, 110, 47, 118, 97, 108, 117, 101, 46, 99, 104, 101, 99, 107, 115, 36, 50])), .iface "func" (.lit (.string [99, 104, 97, 112, 109, 97, 110, 47, 118, 97, 108, 117, 101, 46, 99, 104, 101, 99, 107, 115, 36, 51])), .iface "func" (.lit (.string [99, 104, 97, 112, 109, 97, 110, 47, 118, 97, 108, 117, 101, 46, 99, 104, 101, 99, 107, 115, 36, 52]))])) : ∀ i v, [Value.func (.func 120) #[] #[], Value.func (.func 121) #[] #[], Value.func (.func 122) #[] #[], Value.func (.func 123) #[] #[]][i]? = some v → W.cell? ⟨4, i, none⟩ = some v := by
  obtain ⟨g, t, cs, fuel, p, hg, ht, hv, hd⟩ := h
  obtain rfl := Option.some.inj (gChecks.symm.trans hg)
  obtain rfl := Option.some.inj (tChecks.symm.trans ht)
  have hd' : DataW.trod (funcToken Tryd.prog) Tryd.prog W 0 (fun _ => true) true fuel 124 cs.toList = some (.agg [.held [99, 104, 97, 112, 109, 97, 110, 47, 118, 97, 108, 117, 101, 46, 99, 104, 101, 99, 107, 115, 36, 49], .held [99, 104, 97, 112, 109, 97, 110, 47, 118, 97, 108, 117, 101, 46, 99, 104, 101, 99, 107, 115, 36, 50], .held [99, 104, 97, 112, 109, 97, 110, 47, 118, 97, 108, 117, 101, 46, 99, 104, 101, 99, 107, 115, 36, 51], .held [99, 104, 97, 112, 109, 97, 110, 47, 118, 97, 108, 117, 101, 46, 99, 104, 101, 99, 107, 115, 36, 52]], p) := hd
  obtain ⟨xs, m, rfl, hx, hlen, hxl, hel⟩ := DataW.trod_array Tryd.underlying124 hd'
  rw [c124] at hlen
  obtain ⟨k0, k1, k2, k3, e⟩ := list4 hlen
  obtain ⟨x0, x1, x2, x3, rfl⟩ := list4 hxl
  have h0 := hel 0 (by decide)
  have h1 := hel 1 (by decide)
  have h2 := hel 2 (by decide)
  have h3 := hel 3 (by decide)
  rw [e] at h0 h1 h2 h3
  simp only [c103, Nat.zero_mul, Nat.one_mul, Nat.mul_one, List.drop_zero, List.drop_succ_cons, List.take_succ_cons, List.take_zero, List.getElem?_cons_zero, List.getElem?_cons_succ] at h0 h1 h2 h3
  simp only [Prod.mk.injEq, DataW.agg.injEq, List.map_cons, List.map_nil, List.cons.injEq, and_true] at hx
  obtain ⟨⟨hx0, hx1, hx2, hx3⟩, _⟩ := hx
  obtain ⟨d0, p0⟩ := x0
  obtain ⟨d1, p1⟩ := x1
  obtain ⟨d2, p2⟩ := x2
  obtain ⟨d3, p3⟩ := x3
  simp only at hx0 hx1 hx2 hx3
  subst hx0 hx1 hx2 hx3
  obtain rfl := func_of_trod Tryd.underlying103 one120 h0
  obtain rfl := func_of_trod Tryd.underlying103 one121 h1
  obtain rfl := func_of_trod Tryd.underlying103 one122 h2
  obtain rfl := func_of_trod Tryd.underlying103 one123 h3
  intro i v hi
  rw [World.var?_cell hg hv i, ← Array.getElem?_toList, e]
  exact hi
end
section
set_option linter.unusedVariables false
set_option linter.unusedSimpArgs false
open Go.RowKit
abbrev laidL : List (String × DataW Unit) := [("chapman/value.checks", Rows.laid_chapman_value_checks), ("chapman/bounds.null", Rows.laid_chapman_bounds_null), ("chapman/bounds.bools", Rows.laid_chapman_bounds_bools), ("chapman/bounds.logic", Rows.laid_chapman_bounds_logic), ("chapman/bounds.strict", Rows.laid_chapman_bounds_strict)]
theorem heap_lt {W : World} {b : Nat} {o : Obj} (h : W.heap[b]? = some o) : b < W.heap.size := by
  by_cases hg : b < W.heap.size
  · exact hg
  · rw [Array.getElem?_eq_none (by omega)] at h; cases h
theorem laid_M0 {W : World} (h : laidMetH Tryd.prog laidL W) : Laid (M0 W) := by
  have h1 := (laidMetH_iff.1 h).1
  have e : (laidL.filter fun x => x.2.handleName?.isNone) = [("chapman/bounds.null", Rows.laid_chapman_bounds_null), ("chapman/bounds.bools", Rows.laid_chapman_bounds_bools)] := by kernel_rfl
  rw [e] at h1
  obtain ⟨ps, ⟨g0, t0, cs0, f0, p0, q0, hg0, ht0, hv0, hd0, ⟨g3, t3, cs3, f3, p3, q3, hg3, ht3, hv3, hd3, _, _⟩, _⟩, _, _⟩ := h1
  obtain rfl := Option.some.inj (gNull.symm.trans hg0)
  obtain rfl := Option.some.inj (gBools.symm.trans hg3)
  have a0 := laid_null ht0 hv0 hd0
  obtain ⟨b3, en3, cl3, c3', hb3, hp3⟩ := laid_bools ht3 hv3 hd3
  have a4 := laid_checks (h.funcs (n := "chapman/value.checks") (.head _))
  obtain ⟨b1, en1, cl1, c1', hb1, hp1⟩ := laid_logic (h.funcs (n := "chapman/bounds.logic") (.tail _ (.tail _ (.tail _ (.head _)))))
  obtain ⟨b2, en2, cl2, c2', hb2, hp2⟩ := laid_strict (h.funcs (n := "chapman/bounds.strict") (.tail _ (.tail _ (.tail _ (.tail _ (.head _))))))
  intro p hp
  simp only [globs, List.mem_cons, List.not_mem_nil, or_false] at hp
  rcases hp with rfl | rfl | rfl | rfl | rfl
  · refine ⟨repCell (a0 0 _ rfl) ?_, repCell (a0 1 _ rfl) ?_, repCell (a0 2 _ rfl) ?_, trivial⟩
    all_goals (simp only [Rep]; exact ⟨trivial, rfl⟩)
  · refine ⟨repCell c1' ?_, trivial⟩
    simp only [Rep]
    exact ⟨b1, en1, cl1, rfl, heap_lt hb1, hb1, hp1⟩
  · refine ⟨repCell c2' ?_, trivial⟩
    simp only [Rep]
    exact ⟨b2, en2, cl2, rfl, heap_lt hb2, hb2, hp2⟩
  · refine ⟨repCell c3' ?_, trivial⟩
    simp only [Rep]
    exact ⟨b3, en3, cl3, rfl, heap_lt hb3, hb3, hp3⟩
  · refine ⟨repCell (a4 0 _ rfl) ?_, repCell (a4 1 _ rfl) ?_, repCell (a4 2 _ rfl) ?_, repCell (a4 3 _ rfl) ?_, trivial⟩
    all_goals (simp only [Rep]; exact ⟨trivial, rfl⟩)
set_option maxRecDepth 100000 in
theorem door_met (os : Os) (args : Array Value) : laidMetH Tryd.prog laidL ((World.doorLaid Tryd.prog 96 os).forCall (fun _ _ => 0) ⟨#[], args, []⟩).memory :=
  laidMetH_of_parts3 (fuel := 8) (laidMet_of_run' 8 (by kernel_rfl) (by kernel_rfl)) (by kernel_rfl) (by kernel_rfl)
end
section
set_option linter.unusedVariables false
set_option linter.unusedSimpArgs false
open Go.RowKit
theorem ty5 {f : Nat} {ds : List Dat} (h : tyR T (f + 1) 5 ds) : ∃ n : Int, ds = [.lit (.int .u8 n)] ∧ 0 ≤ n ∧ n < 256 := by
  simp only [tyR, T5, ti5] at h
  obtain ⟨n, h1, h2⟩ := h
  have := bounds_u8 h2
  exact ⟨n, h1, by omega⟩
theorem cut_eqs {ds a r : List Dat} {k : Nat} (h1 : ds.take k = a) (h2 : ds.drop k = r) : ds = a ++ r := by
  rw [← h1, ← h2, List.take_append_drop]
theorem ty23 {f : Nat} {ds : List Dat} (h : tyR T (f + 2) 23 ds) : ∃ b : List Int, ds = [bytesD b] ∧ ∀ x ∈ b, 0 ≤ x ∧ x < 256 := by
  rw [tyR] at h
  simp only [T23, ti23, T5, ti5] at h
  obtain ⟨rows, rfl, h⟩ := h
  obtain ⟨l, rfl, hl⟩ := rows_of (f := fun n : Int => [Dat.lit (.int .u8 n)]) (Q := fun x => 0 ≤ x ∧ x < 256) h fun r hr => ty5 hr
  exact ⟨l, rfl, hl⟩
theorem ty24 {f : Nat} {ds : List Dat} (h : tyR T (f + 3) 24 ds) : ∃ b c d : List Int, ds = [bytesD b, bytesD c, bytesD d] ∧ (∀ x ∈ b, 0 ≤ x ∧ x < 256) ∧ (∀ x ∈ c, 0 ≤ x ∧ x < 256) ∧ ∀ x ∈ d, 0 ≤ x ∧ x < 256 := by
  rw [tyR] at h
  simp only [T24, ti24, T23, ti23, List.replicate_succ, List.replicate_zero, StructR] at h
  obtain ⟨h1, h2, h3, h4⟩ := h
  obtain ⟨b, h1, hb⟩ := ty23 h1
  obtain ⟨c, h2, hc⟩ := ty23 h2
  obtain ⟨d, h3, hd⟩ := ty23 h3
  exact ⟨b, c, d, cut_eqs h1 (cut_eqs h2 (cut_eqs h3 h4)), hb, hc, hd⟩
theorem tyRs_one {f t : Nat} {ts : List Nat} {dss : List (List Dat)} (h : tyRs T f (t :: ts) dss) : ∃ ds r, dss = ds :: r ∧ tyR T f t ds ∧ tyRs T f ts r := by
  cases dss with
  | nil => exact h.elim
  | cons ds r => exact ⟨ds, r, rfl, h.1, h.2⟩
theorem tyRs_nil {f : Nat} {dss : List (List Dat)} (h : tyRs T f [] dss) : dss = [] := by
  cases dss with
  | nil => rfl
  | cons ds r => exact h.elim
end
section
set_option linter.unusedVariables false
set_option linter.unusedSimpArgs false
open Go.RowKit
theorem law5_spec : ∀ dss, tyRs T 8 [5, 24] dss → Spec Tryd.prog 5 (avTys T [5, 24] dss) (.d (.lit (.bool true))) := by
  intro dss h
  obtain ⟨d0, r0, rfl, h0, h⟩ := tyRs_one h
  obtain ⟨d1, r1, rfl, h1, h⟩ := tyRs_one h
  obtain rfl := tyRs_nil h
  obtain ⟨k, rfl, hk⟩ := ty5 h0
  obtain ⟨b, c, d, rfl, hb, hc, hd⟩ := ty24 h1
  have := f5_spec k hk b c d hb hc hd
  simp only [avTys, avTy, T5, ti5, T24, ti24, List.map_cons, List.map_nil, List.headD_cons, if_true, Bool.false_eq_true, if_false]
  exact this
end
end Go.Proofs.YtopigomfhggkoaaDoor.A
