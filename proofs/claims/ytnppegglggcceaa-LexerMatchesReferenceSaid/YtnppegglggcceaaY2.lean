/- Lists of tokens that are alike: the walk. Texts that are scanned: the walk. Tokens of a source: what is scanned at an offset. The tokens of a source: the walk of Lex. lexed, same: the walks. A builder of strings that the caller has made: the walks of what writes to it. (The shapes of these proofs follow the kit's shelf, whose own contracts do not serve this program's copy check.) A byte, a rune written to a builder that the caller has made: the walks. (The shapes of these proofs follow the kit's shelf, whose own contracts do not serve this program's copy check.) The spelling of a valid text: the walk, at the kit's level (the builder of strings is the call's own). Spell, Join: the walks; short sources. Joined tokens: the walks. The fixed calls: the walk. The law on errors: the walk. Data of the arguments' types; the law on errors. -/
import Derived.Test.YtnppegglggcceaaY1
import Derived.Test.YtnppegglggcceaaV11
import Derived.WalkKit
import Derived.BigCall
import Derived.Test.YtnppegglggcceaaR2
namespace Go.Proofs.Ytnppegglggcceaa.A
attribute [local go_sem] Nat.reduceAdd Nat.reduceSub Nat.reduceMul Nat.reduceLT Nat.reduceLeDiff Nat.reduceEqDiff Nat.reduceBEq reduceIte reduceCtorEq e_step_none e_slotU e_slotB e_move e_assign e_pick e_unOp e_binOp e_alloc e_box e_build e_buildSlice e_load e_store e_fieldAddr e_field e_indexAddr e_index e_slice e_sliceM e_makeSlice e_makeFunc e_convert e_extract e_nilCheck e_len e_append e_max e_min e_call e_callV e_fn e_cap_ptr e_cap_lit e_cap_sl e_cap_fn e_fnOf_clo e_fnOf_fn e_flat_fn e_clo e_ev_tmp e_ev_int e_ev_bool e_ev_string e_ev_slice e_ev_nilFunc e_ev_nilIface e_ev_pointer e_ev_agg e_ev_func e_pickT e_pickF e_not e_neg e_add e_sub e_mul e_quo e_rem e_eql e_neq e_lss e_leq e_gtr e_geq e_shl e_shr e_and e_or e_xor e_andNot e_beq e_bne e_sadd e_seql e_sneq e_b2_d e_b2_nil e_b2_nnil e_b2_agg e_lits_nil e_lits_cons e_litC e_eqR e_eqArr e_eqOnes_nil e_eqOnes_cons e_eqO_e e_eqO_n e_eqV4 e_eqV3 e_eqV2 e_eqV1 e_eqFs_nil e_eqFs_cons e_and2 e_eq1 e_eqL_i e_eqL_s e_eqL_b e_allocR e_boxR e_box_agg e_box_d e_box_own e_box_clo e_one_nil e_one_d e_one_own e_one_clo e_one_ptr e_cells_agg e_cells_d e_cells_own e_cells_clo e_cells_ptr e_ob_own e_ob_ptr e_ob_elo e_ob_d e_ob_el e_ob_agg e_load_box e_load_fzb e_load_el e_load_elo e_storeX_ptr e_storeX_d e_storeX_own e_storeX_agg e_storeX_el e_storeC' e_notIn_nil e_notIn_cons e_store_box e_storeB e_store_elo e_store_elo_agg e_storeE e_fa_ptr e_fa_el e_fa_elo e_faR e_fd e_fdR e_ia_d e_ia_row e_ia_fz e_ia_ptr e_ia_el e_ix_s e_ix_a e_len_s e_len_nil e_len_d e_len_row e_len_fz e_conv_i e_conv_s e_conv_own e_conv_sl e_extr e_maxR e_minR e_nil_ptr e_nil_el e_nil_elo e_rows_nil e_rows_d e_rows_row e_rows_fz e_rok_nil e_rok_d e_rok_row e_rok_fz e_app_row e_appR e_app_nil e_appN e_make e_bnd_none e_bnd_some e_optmap_none e_optmap_some e_slR e_slRe e_sl_s e_sl_d e_slM_d e_sl_nil e_sl_row e_sl_fz e_fill_nil e_fill_cons e_fill1 e_placeS e_plS e_placeE e_buildO e_build1 e_build2 e_build3 e_bindD e_bs e_bsR e_allD_nil e_allD_cons e_allD_el e_allD_clo e_allD2 e_allD1 e_chunk0 e_chunkS e_clP_nil e_clP_cons e_cl_d e_cl_any e_cl_el e_cl_agg e_cl_tup e_cl_clo e_cl_own e_clOwn_row e_clOwn_fz e_cl_ptr e_clPtr_box e_clBox e_clPtr_fzb e_clL_nil e_clL_cons e_ok_d e_ok_any e_ok_el e_ok_agg e_ok_tup e_ok_clo e_ok_own e_okOwn_row e_okOwn_fz e_ok_ptr e_okPtr_box e_okPtr_fzb e_okL_nil e_okL_cons e_ids_d e_ids_any e_ids_el e_ids_own e_ids_ptr e_ids_agg e_ids_tup e_ids_clo e_idsL_nil e_idsL_cons e_frz_nil e_frz_cons e_frz_row e_frz_fz e_frz_fzb e_frz_box e_frzB e_flat_lit e_flat_sl e_flat_agg e_flat_tup e_flat_any e_flat_clo e_flatL_nil e_flatL_cons e_new_lit e_new_agg e_new_tup e_new_own e_newOwn_row e_newL_nil e_newL_cons e_objD e_setMany e_takeA e_zerosA e_gdL e_idsG e_idsOp e_callV' e_callN' e_callF' e_o_move e_o_assign e_o_pick e_o_unOp e_o_binOp e_o_alloc e_o_box e_o_build e_o_buildSlice e_o_load e_o_store e_o_fieldAddr e_o_field e_o_indexAddr e_o_index e_o_slice0 e_o_slice1 e_o_slice2 e_o_slice3 e_o_sliceM e_o_makeSlice e_o_makeFunc
attribute [local go_sem] e_o_convert e_o_extract e_o_nilCheck e_o_bcall e_o_vcall litI litB litS List.map_cons List.map_nil List.getD_cons_zero List.getD_cons_succ List.getD_nil List.getElem?_cons_zero List.getElem?_cons_succ List.getElem?_nil Option.getD_some Option.getD_none Option.map_some Option.map_none List.length_cons List.length_nil List.all_cons List.all_nil Bool.and_true Bool.true_and and_true true_and and_self List.take_zero List.take_succ_cons List.drop_zero List.drop_succ_cons List.nil_append List.cons_append List.append_nil List.replicate_succ List.replicate_zero List.flatten_cons List.flatten_nil Nat.zero_add Nat.add_zero Nat.mul_one Nat.zero_mul Nat.one_mul Nat.mul_zero List.set_cons_zero List.set_cons_succ List.foldl_cons List.foldl_nil appendOk rowsOk inB sliceOk cutRows mtake mdrop List.length_append List.length_take List.length_drop if_true if_false or_false or_true true_or Bool.not_true Bool.not_false Bool.false_eq_true List.length_map Int.toNat_natCast Int.toNat_zero Int.toNat_one eq_self St.after St.put applyEff R0 T1 T2 T3 T4 T5 T6 T7 T8 T9 T12 T21 T22 T25 T26 T28 T31 T35 T37 T41 T52 T58 T62 T66 T73 T76 T77 T79 T80 T87 T95 ti1 ti2 ti3 ti4 ti5 ti6 ti7 ti8 ti9 ti12 ti21 ti22 ti25 ti26 ti28 ti31 ti35 ti37 ti41 ti52 ti58 ti62 ti66 ti73 ti76 ti77 ti79 ti80 ti87 ti95
section
set_option linter.unusedVariables false
set_option linter.unusedSimpArgs false
open Go.RowKit
attribute [local irreducible] AWp evOps evD
def tkAl (x y : Tok) : Bool := x.k == y.k && x.s.toList == y.s.toList
def alikeT : List Tok → List Tok → Bool
  | x :: l, y :: m => tkAl x y && alikeT l m
  | _, _ => true
set_option maxHeartbeats 4000000 in
theorem f26_spec (l m : List Tok) (hb : l.length ≤ 1000000) : Spec Try.prog 26 [.d (tksD l), .d (tksD m)] (litB (decide (l.length = m.length) && alikeT l m)) := by
  by_cases hlm : l.length = m.length
  rotate_left
  · have d0 : ((l.length : Int) != (m.length : Int)) = true := by simp; omega
    rw [decide_eq_false hlm, Bool.false_and]
    refine spec_of_awp (fn := Try.f26) Try.func26 (by kernel_rfl) rfl ?_
    intro w0 C0
    simp only [Try.ntmps26, litI, litB, litS, List.length_cons, List.length_nil, Nat.reduceAdd, Nat.reduceSub, List.replicate_succ, List.replicate_zero, List.cons_append, List.nil_append]
    repeat' first
      | refine awp_seq ?_
      | refine awp_block ?_
      | refine awp_skip ?_
      | (refine reg _ (by (simp only [List.map_cons, List.map_nil]; rfl)) rfl ?_; intro K hK)
      | (refine awp_cond _ (by rfl) ?_ ?_ <;> (intro hb; first | (cases hb; done) | (have ht : true = true := hb; clear ht hb) | (have ht : false = false := hb; clear ht hb) | (simp only [hb]) | skip))
      | (refine awp_exit ?_; simp only [thenA, blockA, scopeA, reduceIte, RetQ, Nat.reduceEqDiff])
      | (refine awp_ret ?_; simp only [thenA, blockA, scopeA, RetQ])
      | (refine ev_nil (hK _ ?_); clear hK K)
      | (apply ev_step0; (case hr | hσ => (simp only [go_sem, d0]; try rfl)); (case hc => (first | trivial | decide | (simp only [inB, sliceOk, appendOk, rowsOk]; omega) | (simp [inB, sliceOk, appendOk, rowsOk]; omega))))
      | (apply ev_step; (case hr => (simp only [go_sem, d0]; try rfl)); (case hσ => (intro g u; simp only [go_sem, d0]; try rfl)); (case hc => (first | trivial | decide | (simp only [inB, sliceOk, appendOk, rowsOk]; omega) | (simp [inB, sliceOk, appendOk, rowsOk]; omega))); intro g u; (try clear u); (try clear g))
      | fail
    all_goals (refine resR_one T_ok rfl _ (by (simp only [go_sem, resA]; rfl)) (by first | trivial | (simp only [go_sem, resA])) (by first | trivial | (simp only [go_sem])) ?_; simp only [go_sem])
    exact LeA.refl _
  have d0 : ((l.length : Int) != (m.length : Int)) = false := by simp; omega
  rw [decide_eq_true hlm, Bool.true_and]
  obtain ⟨z, hz⟩ : ∃ z, alikeT l m = z := ⟨_, rfl⟩
  rw [hz]
  refine spec_of_awp (fn := Try.f26) Try.func26 (by kernel_rfl) rfl ?_
  intro w0 C0
  simp only [Try.ntmps26, litI, litB, litS, List.length_cons, List.length_nil, Nat.reduceAdd, Nat.reduceSub, List.replicate_succ, List.replicate_zero, List.cons_append, List.nil_append]
  repeat' first
    | refine awp_seq ?_
    | refine awp_block ?_
    | refine awp_skip ?_
    | (refine reg _ (by (simp only [List.map_cons, List.map_nil]; rfl)) rfl ?_; intro K hK)
    | (refine awp_cond _ (by rfl) ?_ ?_ <;> (intro hb; first | (cases hb; done) | (have ht : true = true := hb; clear ht hb) | (have ht : false = false := hb; clear ht hb) | (simp only [hb]) | skip))
    | (refine awp_exit ?_; simp only [thenA, blockA, scopeA, reduceIte, RetQ, Nat.reduceEqDiff])
    | (refine awp_ret ?_; simp only [thenA, blockA, scopeA, RetQ])
    | (refine ev_nil (hK _ ?_); clear hK K)
    | (apply ev_step0; (case hr | hσ => (simp only [go_sem, d0]; try rfl)); (case hc => (first | trivial | decide | (simp only [inB, sliceOk, appendOk, rowsOk]; omega) | (simp [inB, sliceOk, appendOk, rowsOk]; omega))))
    | (apply ev_step; (case hr => (simp only [go_sem, d0]; try rfl)); (case hσ => (intro g u; simp only [go_sem, d0]; try rfl)); (case hc => (first | trivial | decide | (simp only [inB, sliceOk, appendOk, rowsOk]; omega) | (simp [inB, sliceOk, appendOk, rowsOk]; omega))); intro g u; (try clear u); (try clear g))
    | fail
  refine awp_loopI (fun i : Nat => i ≤ l.length ∧ z = alikeT (l.drop i) (m.drop i)) (fun i => l.length - i) (fun i => ⟨[.d (tksD l), .d (tksD m), .any, .any, .any, litI .i64 i, .any, .any, .any, .any, .any, .any, .any, .any, .any, .any, .any, .any, .any, .any, .any, .any, .any, .any, .any, .any, .any, .any, .any, .any, .any, .any, .any, .any, .any, .any, .any, .any, .any, .any, .any], [.no, .no, .no, .no, .no, .no, .no, .no, .no, .no, .no, .no, .no, .no, .no, .no, .no, .no, .no, .no, .no, .no, .no, .no, .no, .no, .no, .no, .no, .no, .no, .no, .no, .no, .no, .no, .no, .no, .no, .no, .no]⟩) 0 ⟨by omega, hz.symm⟩ ?_ ?_
  · refine Wk.mk ?_ ?_
    all_goals (repeat' first | exact trivial | exact LeA.refl _ | exact LeA.any _ | exact LeO.refl _ | exact LeO.no _ | exact LeA.nil _ | exact LeA.nilOwn _ | exact LeO.nil _ _ _ | refine LeO.box ?_ | (refine LeA.i ?_; (first | rfl | (push_cast; rfl) | (rw [wrap_id (by omega)]; push_cast; omega) | (simp [wrap_id]; omega))) | refine ⟨?_, ?_⟩)
  rintro i ⟨hi, hfi⟩
  simp only [litI, litB] at hi hfi ⊢
  by_cases h1 : i < l.length
  · have d1 : decide ((i : Int) < (l.length : Int)) = true := decide_eq_true (by omega)
    have hx := tks_at l h1
    have hy := tks_at m (i := i) (by omega)
    rw [tk_drop l h1, tk_drop m (by omega)] at hfi
    have him : i < m.length := by omega
    generalize l.getD i tkN = x at *
    generalize m.getD i tkN = y at *
    simp only [alikeT, tkAl] at hfi
    have f1 : (x.k != y.k) = !(x.k == y.k) := rfl
    obtain ⟨b2, f2⟩ : ∃ b, (x.s.toList == y.s.toList) = b := ⟨_, rfl⟩
    rw [f2] at hfi
    generalize (x.k == y.k) = b1 at *
    cases b1 with
    | false =>
      rw [Bool.false_and, Bool.false_and] at hfi
      subst hfi
      repeat' first
        | refine awp_seq ?_
        | refine awp_block ?_
        | refine awp_skip ?_
        | (refine reg _ (by (simp only [List.map_cons, List.map_nil]; rfl)) rfl ?_; intro K hK)
        | (refine awp_cond _ (by rfl) ?_ ?_ <;> (intro hb; first | (cases hb; done) | (have ht : true = true := hb; clear ht hb) | (have ht : false = false := hb; clear ht hb) | (simp only [hb]) | skip))
        | (refine awp_exit ?_; simp only [thenA, blockA, scopeA, reduceIte, RetQ, Nat.reduceEqDiff])
        | (refine awp_ret ?_; simp only [thenA, blockA, scopeA, RetQ])
        | (refine ev_nil (hK _ ?_); clear hK K)
        | (apply regD; (case hd => (simp only [List.map_cons, List.map_nil]; rfl)); (case hok => rfl); (case' h => (intro K hK; (repeat' first
        | (apply evd_nil; refine (hK _ ?_); clear hK K)
        | (apply evd_guardU0; (case hj | hu | hσ => (simp only [go_sem, d1, hx, hy, f1, Bool.not_false]; try rfl)))
        | (apply evd_guardU; (case hj | hu | hσ => (simp only [go_sem, d1, hx, hy, f1, Bool.not_false]; try rfl)))
        | (apply evd_skipT0; (case hj | hb | hσ => (simp only [go_sem, d1, hx, hy, f1, Bool.not_false]; try rfl)))
        | (apply evd_skipF0; (case hj | hb | hσ => (simp only [go_sem, d1, hx, hy, f1, Bool.not_false]; try rfl)))
        | (apply evd_skipT; (case hj | hb | hσ => (simp only [go_sem, d1, hx, hy, f1, Bool.not_false]; try rfl)))
        | (apply evd_skipF; (case hj | hb | hσ => (simp only [go_sem, d1, hx, hy, f1, Bool.not_false]; try rfl)))
        | (apply evd_guardT; (case hj | hb => (simp only [go_sem, d1, hx, hy, f1, Bool.not_false]; try rfl)); (case' h2 => (intro hb; first | (cases hb; done) | (simp only [hb]) | skip)); (case' h1 => (intro hb; first | (cases hb; done) | (simp only [hb]) | skip)))
        | (apply evd_guardF; (case hj | hb => (simp only [go_sem, d1, hx, hy, f1, Bool.not_false]; try rfl)); (case' h2 => (intro hb; first | (cases hb; done) | (simp only [hb]) | skip)); (case' h1 => (intro hb; first | (cases hb; done) | (simp only [hb]) | skip)))
        | (apply evd_step0; (case hr | hi | hσ => (simp only [go_sem, d1, hx, hy, f1, Bool.not_false]; try rfl)); (case hc => (first | trivial | decide | (simp only [inB, sliceOk, appendOk, rowsOk]; omega) | (simp [inB, sliceOk, appendOk, rowsOk]; omega))))
        | (apply evd_step; (case hr | hi => (simp only [go_sem, d1, hx, hy, f1, Bool.not_false]; try rfl)); (case hc => (first | trivial | decide | (simp only [inB, sliceOk, appendOk, rowsOk]; omega) | (simp [inB, sliceOk, appendOk, rowsOk]; omega))); (case hw | hσ => (intro g u; simp only [go_sem, d1, hx, hy, f1, Bool.not_false]; try rfl)); (case' hk => (intro g u; (try clear u); (try clear g))))
        | fail))); (case hB => kernel_rfl))
        | (apply ev_step0; (case hr | hσ => (simp only [go_sem, d1, hx, hy, f1, Bool.not_false]; try rfl)); (case hc => (first | trivial | decide | (simp only [inB, sliceOk, appendOk, rowsOk]; omega) | (simp [inB, sliceOk, appendOk, rowsOk]; omega))))
        | (apply ev_step; (case hr => (simp only [go_sem, d1, hx, hy, f1, Bool.not_false]; try rfl)); (case hσ => (intro g u; simp only [go_sem, d1, hx, hy, f1, Bool.not_false]; try rfl)); (case hc => (first | trivial | decide | (simp only [inB, sliceOk, appendOk, rowsOk]; omega) | (simp [inB, sliceOk, appendOk, rowsOk]; omega))); intro g u; (try clear u); (try clear g))
        | fail
      all_goals (refine resR_one T_ok rfl _ (by (simp only [go_sem, resA]; rfl)) (by first | trivial | (simp only [go_sem, resA])) (by first | trivial | (simp only [go_sem])) ?_; simp only [go_sem])
      exact LeA.refl _
    | true =>
    cases b2 with
    | false =>
      rw [Bool.true_and, Bool.false_and] at hfi
      subst hfi
      repeat' first
        | refine awp_seq ?_
        | refine awp_block ?_
        | refine awp_skip ?_
        | (refine reg _ (by (simp only [List.map_cons, List.map_nil]; rfl)) rfl ?_; intro K hK)
        | (refine awp_cond _ (by rfl) ?_ ?_ <;> (intro hb; first | (cases hb; done) | (have ht : true = true := hb; clear ht hb) | (have ht : false = false := hb; clear ht hb) | (simp only [hb]) | skip))
        | (refine awp_exit ?_; simp only [thenA, blockA, scopeA, reduceIte, RetQ, Nat.reduceEqDiff])
        | (refine awp_ret ?_; simp only [thenA, blockA, scopeA, RetQ])
        | (refine ev_nil (hK _ ?_); clear hK K)
        | (apply regD; (case hd => (simp only [List.map_cons, List.map_nil]; rfl)); (case hok => rfl); (case' h => (intro K hK; (repeat' first
        | (apply evd_nil; refine (hK _ ?_); clear hK K)
        | (apply evd_guardU0; (case hj | hu | hσ => (simp only [go_sem, d1, hx, hy, f1, f2, Bool.not_false, Bool.not_true]; try rfl)))
        | (apply evd_guardU; (case hj | hu | hσ => (simp only [go_sem, d1, hx, hy, f1, f2, Bool.not_false, Bool.not_true]; try rfl)))
        | (apply evd_skipT0; (case hj | hb | hσ => (simp only [go_sem, d1, hx, hy, f1, f2, Bool.not_false, Bool.not_true]; try rfl)))
        | (apply evd_skipF0; (case hj | hb | hσ => (simp only [go_sem, d1, hx, hy, f1, f2, Bool.not_false, Bool.not_true]; try rfl)))
        | (apply evd_skipT; (case hj | hb | hσ => (simp only [go_sem, d1, hx, hy, f1, f2, Bool.not_false, Bool.not_true]; try rfl)))
        | (apply evd_skipF; (case hj | hb | hσ => (simp only [go_sem, d1, hx, hy, f1, f2, Bool.not_false, Bool.not_true]; try rfl)))
        | (apply evd_guardT; (case hj | hb => (simp only [go_sem, d1, hx, hy, f1, f2, Bool.not_false, Bool.not_true]; try rfl)); (case' h2 => (intro hb; first | (cases hb; done) | (simp only [hb]) | skip)); (case' h1 => (intro hb; first | (cases hb; done) | (simp only [hb]) | skip)))
        | (apply evd_guardF; (case hj | hb => (simp only [go_sem, d1, hx, hy, f1, f2, Bool.not_false, Bool.not_true]; try rfl)); (case' h2 => (intro hb; first | (cases hb; done) | (simp only [hb]) | skip)); (case' h1 => (intro hb; first | (cases hb; done) | (simp only [hb]) | skip)))
        | (apply evd_step0; (case hr | hi | hσ => (simp only [go_sem, d1, hx, hy, f1, f2, Bool.not_false, Bool.not_true]; try rfl)); (case hc => (first | trivial | decide | (simp only [inB, sliceOk, appendOk, rowsOk]; omega) | (simp [inB, sliceOk, appendOk, rowsOk]; omega))))
        | (apply evd_step; (case hr | hi => (simp only [go_sem, d1, hx, hy, f1, f2, Bool.not_false, Bool.not_true]; try rfl)); (case hc => (first | trivial | decide | (simp only [inB, sliceOk, appendOk, rowsOk]; omega) | (simp [inB, sliceOk, appendOk, rowsOk]; omega))); (case hw | hσ => (intro g u; simp only [go_sem, d1, hx, hy, f1, f2, Bool.not_false, Bool.not_true]; try rfl)); (case' hk => (intro g u; (try clear u); (try clear g))))
        | fail))); (case hB => kernel_rfl))
        | (apply ev_step0; (case hr | hσ => (simp only [go_sem, d1, hx, hy, f1, f2, Bool.not_false, Bool.not_true]; try rfl)); (case hc => (first | trivial | decide | (simp only [inB, sliceOk, appendOk, rowsOk]; omega) | (simp [inB, sliceOk, appendOk, rowsOk]; omega))))
        | (apply ev_step; (case hr => (simp only [go_sem, d1, hx, hy, f1, f2, Bool.not_false, Bool.not_true]; try rfl)); (case hσ => (intro g u; simp only [go_sem, d1, hx, hy, f1, f2, Bool.not_false, Bool.not_true]; try rfl)); (case hc => (first | trivial | decide | (simp only [inB, sliceOk, appendOk, rowsOk]; omega) | (simp [inB, sliceOk, appendOk, rowsOk]; omega))); intro g u; (try clear u); (try clear g))
        | fail
      all_goals (refine resR_one T_ok rfl _ (by (simp only [go_sem, resA]; rfl)) (by first | trivial | (simp only [go_sem, resA])) (by first | trivial | (simp only [go_sem])) ?_; simp only [go_sem])
      exact LeA.refl _
    | true =>
      rw [Bool.true_and, Bool.true_and] at hfi
      repeat' first
        | refine awp_seq ?_
        | refine awp_block ?_
        | refine awp_skip ?_
        | (refine reg _ (by (simp only [List.map_cons, List.map_nil]; rfl)) rfl ?_; intro K hK)
        | (refine awp_cond _ (by rfl) ?_ ?_ <;> (intro hb; first | (cases hb; done) | (have ht : true = true := hb; clear ht hb) | (have ht : false = false := hb; clear ht hb) | (simp only [hb]) | skip))
        | (refine awp_exit ?_; simp only [thenA, blockA, scopeA, reduceIte, RetQ, Nat.reduceEqDiff])
        | (refine awp_ret ?_; simp only [thenA, blockA, scopeA, RetQ])
        | (refine ev_nil (hK _ ?_); clear hK K)
        | (apply regD; (case hd => (simp only [List.map_cons, List.map_nil]; rfl)); (case hok => rfl); (case' h => (intro K hK; (repeat' first
        | (apply evd_nil; refine (hK _ ?_); clear hK K)
        | (apply evd_guardU0; (case hj | hu | hσ => (simp only [go_sem, d1, hx, hy, f1, f2, Bool.not_true]; try rfl)))
        | (apply evd_guardU; (case hj | hu | hσ => (simp only [go_sem, d1, hx, hy, f1, f2, Bool.not_true]; try rfl)))
        | (apply evd_skipT0; (case hj | hb | hσ => (simp only [go_sem, d1, hx, hy, f1, f2, Bool.not_true]; try rfl)))
        | (apply evd_skipF0; (case hj | hb | hσ => (simp only [go_sem, d1, hx, hy, f1, f2, Bool.not_true]; try rfl)))
        | (apply evd_skipT; (case hj | hb | hσ => (simp only [go_sem, d1, hx, hy, f1, f2, Bool.not_true]; try rfl)))
        | (apply evd_skipF; (case hj | hb | hσ => (simp only [go_sem, d1, hx, hy, f1, f2, Bool.not_true]; try rfl)))
        | (apply evd_guardT; (case hj | hb => (simp only [go_sem, d1, hx, hy, f1, f2, Bool.not_true]; try rfl)); (case' h2 => (intro hb; first | (cases hb; done) | (simp only [hb]) | skip)); (case' h1 => (intro hb; first | (cases hb; done) | (simp only [hb]) | skip)))
        | (apply evd_guardF; (case hj | hb => (simp only [go_sem, d1, hx, hy, f1, f2, Bool.not_true]; try rfl)); (case' h2 => (intro hb; first | (cases hb; done) | (simp only [hb]) | skip)); (case' h1 => (intro hb; first | (cases hb; done) | (simp only [hb]) | skip)))
        | (apply evd_step0; (case hr | hi | hσ => (simp only [go_sem, d1, hx, hy, f1, f2, Bool.not_true]; try rfl)); (case hc => (first | trivial | decide | (simp only [inB, sliceOk, appendOk, rowsOk]; omega) | (simp [inB, sliceOk, appendOk, rowsOk]; omega))))
        | (apply evd_step; (case hr | hi => (simp only [go_sem, d1, hx, hy, f1, f2, Bool.not_true]; try rfl)); (case hc => (first | trivial | decide | (simp only [inB, sliceOk, appendOk, rowsOk]; omega) | (simp [inB, sliceOk, appendOk, rowsOk]; omega))); (case hw | hσ => (intro g u; simp only [go_sem, d1, hx, hy, f1, f2, Bool.not_true]; try rfl)); (case' hk => (intro g u; (try clear u); (try clear g))))
        | fail))); (case hB => kernel_rfl))
        | (apply ev_step0; (case hr | hσ => (simp only [go_sem, d1, hx, hy, f1, f2, Bool.not_true]; try rfl)); (case hc => (first | trivial | decide | (simp only [inB, sliceOk, appendOk, rowsOk]; omega) | (simp [inB, sliceOk, appendOk, rowsOk]; omega))))
        | (apply ev_step; (case hr => (simp only [go_sem, d1, hx, hy, f1, f2, Bool.not_true]; try rfl)); (case hσ => (intro g u; simp only [go_sem, d1, hx, hy, f1, f2, Bool.not_true]; try rfl)); (case hc => (first | trivial | decide | (simp only [inB, sliceOk, appendOk, rowsOk]; omega) | (simp [inB, sliceOk, appendOk, rowsOk]; omega))); intro g u; (try clear u); (try clear g))
        | fail
      refine Exists.intro (i + 1) ⟨⟨by omega, hfi⟩, by omega, ?_⟩
      refine Wk.mk ?_ ?_
      all_goals (repeat' first | exact trivial | exact LeA.refl _ | exact LeA.any _ | exact LeO.refl _ | exact LeO.no _ | exact LeA.nil _ | exact LeA.nilOwn _ | exact LeO.nil _ _ _ | refine LeO.box ?_ | (refine LeA.i ?_; (first | rfl | (push_cast; rfl) | (rw [wrap_id (by omega)]; push_cast; omega) | (simp [wrap_id]; omega))) | refine ⟨?_, ?_⟩)
  · have d1 : decide ((i : Int) < (l.length : Int)) = false := decide_eq_false (by omega)
    rw [List.drop_eq_nil_of_le (by omega)] at hfi
    have hzt : z = true := by rw [hfi]; simp [alikeT]
    subst hzt
    repeat' first
      | refine awp_seq ?_
      | refine awp_block ?_
      | refine awp_skip ?_
      | (refine reg _ (by (simp only [List.map_cons, List.map_nil]; rfl)) rfl ?_; intro K hK)
      | (refine awp_cond _ (by rfl) ?_ ?_ <;> (intro hb; first | (cases hb; done) | (have ht : true = true := hb; clear ht hb) | (have ht : false = false := hb; clear ht hb) | (simp only [hb]) | skip))
      | (refine awp_exit ?_; simp only [thenA, blockA, scopeA, reduceIte, RetQ, Nat.reduceEqDiff])
      | (refine awp_ret ?_; simp only [thenA, blockA, scopeA, RetQ])
      | (refine ev_nil (hK _ ?_); clear hK K)
      | (apply regD; (case hd => (simp only [List.map_cons, List.map_nil]; rfl)); (case hok => rfl); (case' h => (intro K hK; (repeat' first
        | (apply evd_nil; refine (hK _ ?_); clear hK K)
        | (apply evd_guardU0; (case hj | hu | hσ => (simp only [go_sem, d1]; try rfl)))
        | (apply evd_guardU; (case hj | hu | hσ => (simp only [go_sem, d1]; try rfl)))
        | (apply evd_skipT0; (case hj | hb | hσ => (simp only [go_sem, d1]; try rfl)))
        | (apply evd_skipF0; (case hj | hb | hσ => (simp only [go_sem, d1]; try rfl)))
        | (apply evd_skipT; (case hj | hb | hσ => (simp only [go_sem, d1]; try rfl)))
        | (apply evd_skipF; (case hj | hb | hσ => (simp only [go_sem, d1]; try rfl)))
        | (apply evd_guardT; (case hj | hb => (simp only [go_sem, d1]; try rfl)); (case' h2 => (intro hb; first | (cases hb; done) | (simp only [hb]) | skip)); (case' h1 => (intro hb; first | (cases hb; done) | (simp only [hb]) | skip)))
        | (apply evd_guardF; (case hj | hb => (simp only [go_sem, d1]; try rfl)); (case' h2 => (intro hb; first | (cases hb; done) | (simp only [hb]) | skip)); (case' h1 => (intro hb; first | (cases hb; done) | (simp only [hb]) | skip)))
        | (apply evd_step0; (case hr | hi | hσ => (simp only [go_sem, d1]; try rfl)); (case hc => (first | trivial | decide | (simp only [inB, sliceOk, appendOk, rowsOk]; omega) | (simp [inB, sliceOk, appendOk, rowsOk]; omega))))
        | (apply evd_step; (case hr | hi => (simp only [go_sem, d1]; try rfl)); (case hc => (first | trivial | decide | (simp only [inB, sliceOk, appendOk, rowsOk]; omega) | (simp [inB, sliceOk, appendOk, rowsOk]; omega))); (case hw | hσ => (intro g u; simp only [go_sem, d1]; try rfl)); (case' hk => (intro g u; (try clear u); (try clear g))))
        | fail))); (case hB => kernel_rfl))
      | (apply ev_step0; (case hr | hσ => (simp only [go_sem, d1]; try rfl)); (case hc => (first | trivial | decide | (simp only [inB, sliceOk, appendOk, rowsOk]; omega) | (simp [inB, sliceOk, appendOk, rowsOk]; omega))))
      | (apply ev_step; (case hr => (simp only [go_sem, d1]; try rfl)); (case hσ => (intro g u; simp only [go_sem, d1]; try rfl)); (case hc => (first | trivial | decide | (simp only [inB, sliceOk, appendOk, rowsOk]; omega) | (simp [inB, sliceOk, appendOk, rowsOk]; omega))); intro g u; (try clear u); (try clear g))
      | fail
    all_goals (refine resR_one T_ok rfl _ (by (simp only [go_sem, resA]; rfl)) (by first | trivial | (simp only [go_sem, resA])) (by first | trivial | (simp only [go_sem])) ?_; simp only [go_sem])
    exact LeA.refl _
end
section
set_option linter.unusedVariables false
set_option linter.unusedSimpArgs false
open Go.RowKit
attribute [local irreducible] AWp evOps evD
set_option maxHeartbeats 8000000 in
theorem f51_spec (s : ByteArray) (a : Nat) (hs : s.size ≤ 20000) (ha : a < s.size) : Spec Try.prog 51 [litS s, litI .i64 (a : Int)] (.tup [litS ⟨(textC (scanT false ((bs s).drop (a + 1))).1).toArray⟩, litI .i64 ((a + 1 + (scanT false ((bs s).drop (a + 1))).2 : Nat) : Int)]) := by
  have hl := bs_len s
  obtain ⟨O, hO⟩ : ∃ O, (scanT false ((bs s).drop (a + 1))).1 = O := ⟨_, rfl⟩
  obtain ⟨z, hz⟩ : ∃ z, a + 1 + (scanT false ((bs s).drop (a + 1))).2 = z := ⟨_, rfl⟩
  rw [hO, hz]
  have wA : IntKind.i64.wrap ((a : Int) + 1) = ((a + 1 : Nat) : Int) := by rw [wrap_id (by omega)]; push_cast; rfl
  refine spec_of_awp (fn := Try.f51) Try.func51 (by kernel_rfl) rfl ?_
  intro w0 C0
  simp only [Try.ntmps51, litI, litB, litS, List.length_cons, List.length_nil, Nat.reduceAdd, Nat.reduceSub, List.replicate_succ, List.replicate_zero, List.cons_append, List.nil_append]
  repeat' first
    | refine awp_seq ?_
    | refine awp_block ?_
    | refine awp_skip ?_
    | (refine reg _ (by (simp only [List.map_cons, List.map_nil]; rfl)) rfl ?_; intro K hK)
    | (refine awp_cond _ (by rfl) ?_ ?_ <;> (intro hb; first | (cases hb; done) | (have ht : true = true := hb; clear ht hb) | (have ht : false = false := hb; clear ht hb) | (simp only [hb]) | skip))
    | (refine awp_exit ?_; simp only [thenA, blockA, scopeA, reduceIte, RetQ, Nat.reduceEqDiff])
    | (refine awp_ret ?_; simp only [thenA, blockA, scopeA, RetQ])
    | (refine ev_nil (hK _ ?_); clear hK K)
    | (apply ev_guardU; (case hj | hu | hσ => (simp only [go_sem, wA]; try rfl)))
    | (refine ev_guardT _ _ (by (simp only [go_sem, wA]; rfl)) (by (simp only [go_sem, wA]; rfl)) ?_ ?_ <;> (intro hb; first | (cases hb; done) | (have ht : true = true := hb; clear ht hb) | (have ht : false = false := hb; clear ht hb) | (simp only [hb]) | skip))
    | (refine ev_guardF _ _ (by (simp only [go_sem, wA]; rfl)) (by (simp only [go_sem, wA]; rfl)) ?_ ?_ <;> (intro hb; first | (cases hb; done) | (have ht : true = true := hb; clear ht hb) | (have ht : false = false := hb; clear ht hb) | (simp only [hb]) | skip))
    | (apply ev_step0; (case hr | hσ => (simp only [go_sem, wA]; try rfl)); (case hc => (first | trivial | decide | (simp only [inB, sliceOk, appendOk, rowsOk]; omega) | (simp [inB, sliceOk, appendOk, rowsOk]; omega))))
    | (apply ev_step; (case hr => (simp only [go_sem, wA]; try rfl)); (case hσ => (intro g u; simp only [go_sem, wA]; try rfl)); (case hc => (first | trivial | decide | (simp only [inB, sliceOk, appendOk, rowsOk]; omega) | (simp [inB, sliceOk, appendOk, rowsOk]; omega))); intro g u; (try clear u); (try clear g))
    | fail
  refine awp_loopI (fun j : Nat × Bs × Value => j.1 ≤ s.size ∧ j.2.1.length ≤ j.1 ∧ z = j.1 + (scanT false ((bs s).drop j.1)).2 ∧ O = (scanT false ((bs s).drop j.1)).1.map (j.2.1 ++ ·)) (fun j => s.size - j.1) (fun j => ⟨[litS s, litI .i64 j.1, .any, .any, .any, .any, .own 6 j.2.2, .any, .any, .any, .any, .any, .any, .any, .any, .any, .any, .any, .any, .any, .any, .any, .any, .any, .any, .any, .any, .any, .any, .any, .any, .any, .any, .any, .any, .any, .any, .any, .any, .any, .any, .any, .any, .any, .any, .any, .any, .any, .any, .any, .any, .any, .any, .any, .any, .any, .any, .any, .any], [.no, .no, .no, .no, .no, .no, .row j.2.2 5 1 (j.2.1.map byD), .no, .no, .no, .no, .no, .no, .no, .no, .no, .no, .no, .no, .no, .no, .no, .no, .no, .no, .no, .no, .no, .no, .no, .no, .no, .no, .no, .no, .no, .no, .no, .no, .no, .no, .no, .no, .no, .no, .no, .no, .no, .no, .no, .no, .no, .no, .no, .no, .no, .no, .no, .no]⟩) (a + 1, [], .slice none 0 0) ⟨by show a + 1 ≤ _; omega, by simp, hz.symm, by rw [hO]; cases O <;> rfl⟩ ?_ ?_
  · refine Wk.mk ?_ ?_
    all_goals (repeat' first | exact trivial | exact LeA.refl _ | exact LeA.any _ | exact LeO.refl _ | exact LeO.no _ | exact LeA.nil _ | exact LeA.nilOwn _ | exact LeO.nil _ _ _ | refine LeO.box ?_ | (refine LeA.i ?_; (first | rfl | (push_cast; rfl) | (rw [wrap_id (by omega)]; push_cast; omega) | (simp [wrap_id]; omega))) | refine ⟨?_, ?_⟩)
  rintro ⟨i, acc, v⟩ ⟨hi, hal, hzi, hOi⟩
  simp only [litI, litB, litS] at hi hal hzi hOi ⊢
  by_cases h1 : i < s.size
  rotate_left
  · have d1 : decide ((i : Int) < (s.size : Int)) = false := decide_eq_false (by omega)
    have d2 : decide ((i : Int) ≥ (s.size : Int)) = true := decide_eq_true (by omega)
    rw [List.drop_eq_nil_of_le (by omega)] at hzi hOi
    simp only [scanT, Option.map_none, Nat.add_zero] at hzi hOi
    subst hOi
    repeat' first
      | refine awp_seq ?_
      | refine awp_block ?_
      | refine awp_skip ?_
      | (refine reg _ (by (simp only [List.map_cons, List.map_nil]; rfl)) rfl ?_; intro K hK)
      | (refine awp_cond _ (by rfl) ?_ ?_ <;> (intro hb; first | (cases hb; done) | (have ht : true = true := hb; clear ht hb) | (have ht : false = false := hb; clear ht hb) | (simp only [hb]) | skip))
      | (refine awp_exit ?_; simp only [thenA, blockA, scopeA, reduceIte, RetQ, Nat.reduceEqDiff])
      | (refine awp_ret ?_; simp only [thenA, blockA, scopeA, RetQ])
      | (refine ev_nil (hK _ ?_); clear hK K)
      | (apply ev_guardU; (case hj | hu | hσ => (simp only [go_sem, d1, d2]; try rfl)))
      | (refine ev_guardT _ _ (by (simp only [go_sem, d1, d2]; rfl)) (by (simp only [go_sem, d1, d2]; rfl)) ?_ ?_ <;> (intro hb; first | (cases hb; done) | (have ht : true = true := hb; clear ht hb) | (have ht : false = false := hb; clear ht hb) | (simp only [hb]) | skip))
      | (refine ev_guardF _ _ (by (simp only [go_sem, d1, d2]; rfl)) (by (simp only [go_sem, d1, d2]; rfl)) ?_ ?_ <;> (intro hb; first | (cases hb; done) | (have ht : true = true := hb; clear ht hb) | (have ht : false = false := hb; clear ht hb) | (simp only [hb]) | skip))
      | (apply ev_step0; (case hr | hσ => (simp only [go_sem, d1, d2]; try rfl)); (case hc => (first | trivial | decide | (simp only [inB, sliceOk, appendOk, rowsOk]; omega) | (simp [inB, sliceOk, appendOk, rowsOk]; omega))))
      | (apply ev_step; (case hr => (simp only [go_sem, d1, d2]; try rfl)); (case hσ => (intro g u; simp only [go_sem, d1, d2]; try rfl)); (case hc => (first | trivial | decide | (simp only [inB, sliceOk, appendOk, rowsOk]; omega) | (simp [inB, sliceOk, appendOk, rowsOk]; omega))); intro g u; (try clear u); (try clear g))
      | fail
    all_goals (refine resR_more T_ok rfl (by decide) _ (by (simp only [go_sem, resA]; rfl)) (by (intro rv hrv; simp only [List.mem_cons, List.not_mem_nil, or_false] at hrv; rcases hrv with rfl | rfl <;> first | trivial | simp only [go_sem, resA])) (by first | trivial | (simp only [go_sem])) ?_; simp only [go_sem])
    exact ⟨LeA.refl _, LeA.i (by rw [hzi]), trivial⟩
  have d1 : decide ((i : Int) < (s.size : Int)) = true := decide_eq_true (by omega)
  have hx := byteAt_nat s i
  have hdr := drop_one (bs s) (i := i) (by omega)
  have w1 : IntKind.i64.wrap ((i : Int) + 1) = ((i + 1 : Nat) : Int) := by rw [wrap_id (by omega)]; push_cast; rfl
  rw [hdr] at hzi hOi
  have e1 : ((((bs s).getD i 0).toNat : Int) == 34) = ((bs s).getD i 0 == 34) := u8_eq _ 34
  have e2 : ((((bs s).getD i 0).toNat : Int) == 92) = ((bs s).getD i 0 == 92) := u8_eq _ 92
  generalize (bs s).getD i 0 = x at *
  by_cases h34 : x = 34
  · subst h34
    have f1 : (((34 : UInt8).toNat : Int) != 34) = false := rfl
    have d2 : decide ((i : Int) ≥ (s.size : Int)) = false := decide_eq_false (by omega)
    simp only [scanT, if_true, Option.map_some, List.append_nil] at hzi hOi
    subst hOi
    have hb := bytes_map acc
    have hk := isBytes_map acc
    clear e1 e2
    generalize ((34 : UInt8).toNat : Int) = y at *
    repeat' first
      | refine awp_seq ?_
      | refine awp_block ?_
      | refine awp_skip ?_
      | (refine reg _ (by (simp only [List.map_cons, List.map_nil]; rfl)) rfl ?_; intro K hK)
      | (refine awp_cond _ (by rfl) ?_ ?_ <;> (intro hb; first | (cases hb; done) | (have ht : true = true := hb; clear ht hb) | (have ht : false = false := hb; clear ht hb) | (simp only [hb]) | skip))
      | (refine awp_exit ?_; simp only [thenA, blockA, scopeA, reduceIte, RetQ, Nat.reduceEqDiff])
      | (refine awp_ret ?_; simp only [thenA, blockA, scopeA, RetQ])
      | (refine ev_nil (hK _ ?_); clear hK K)
      | (apply ev_guardU; (case hj | hu | hσ => (simp only [go_sem, d1, d2, hx, f1, hb, w1]; try rfl)))
      | (refine ev_guardT _ _ (by (simp only [go_sem, d1, d2, hx, f1, hb, w1]; rfl)) (by (simp only [go_sem, d1, d2, hx, f1, hb, w1]; rfl)) ?_ ?_ <;> (intro hb; first | (cases hb; done) | (have ht : true = true := hb; clear ht hb) | (have ht : false = false := hb; clear ht hb) | (simp only [hb]) | skip))
      | (refine ev_guardF _ _ (by (simp only [go_sem, d1, d2, hx, f1, hb, w1]; rfl)) (by (simp only [go_sem, d1, d2, hx, f1, hb, w1]; rfl)) ?_ ?_ <;> (intro hb; first | (cases hb; done) | (have ht : true = true := hb; clear ht hb) | (have ht : false = false := hb; clear ht hb) | (simp only [hb]) | skip))
      | (apply ev_step0; (case hr | hσ => (simp only [go_sem, d1, d2, hx, f1, hb, w1]; try rfl)); (case hc => (first | trivial | decide | (simp only [inB, sliceOk, appendOk, rowsOk]; omega) | (simp [inB, sliceOk, appendOk, rowsOk]; omega))))
      | (apply ev_step; (case hr => (simp only [go_sem, d1, d2, hx, f1, hb, w1]; try rfl)); (case hσ => (intro g u; simp only [go_sem, d1, d2, hx, f1, hb, w1]; try rfl)); (case hc => (first | trivial | decide | (simp only [inB, sliceOk, appendOk, rowsOk]; omega) | (simp [inB, sliceOk, appendOk, rowsOk]; omega))); intro g u; (try clear u); (try clear g))
      | fail
    all_goals (refine resR_more T_ok rfl (by decide) _ (by (simp only [go_sem, resA]; rfl)) (by (intro rv hrv; simp only [List.mem_cons, List.not_mem_nil, or_false] at hrv; rcases hrv with rfl | rfl <;> first | trivial | simp only [go_sem, resA])) (by first | trivial | (simp only [go_sem])) ?_; simp only [go_sem])
    exact ⟨LeA.refl _, LeA.i (by rw [hzi]), trivial⟩
  have f1 : ((x.toNat : Int) != 34) = true := by rw [bne, e1]; simpa using h34
  by_cases h92 : x = 92
  · subst h92
    have f2 : (((92 : UInt8).toNat : Int) == 92) = true := rfl
    simp only [scanT, if_neg h34, if_true] at hzi hOi
    clear e1 e2
    generalize ((92 : UInt8).toNat : Int) = y at *
    by_cases h2 : i + 1 < s.size
    rotate_left
    · have d3 : (((i + 1 : Nat) : Int) == (s.size : Int)) = true := by rw [beq_iff_eq]; omega
      rw [List.drop_eq_nil_of_le (by omega)] at hzi hOi
      simp only [scanT, Option.map_none, Nat.zero_add] at hzi hOi
      subst hOi
      repeat' first
        | refine awp_seq ?_
        | refine awp_block ?_
        | refine awp_skip ?_
        | (refine reg _ (by (simp only [List.map_cons, List.map_nil]; rfl)) rfl ?_; intro K hK)
        | (refine awp_cond _ (by rfl) ?_ ?_ <;> (intro hb; first | (cases hb; done) | (have ht : true = true := hb; clear ht hb) | (have ht : false = false := hb; clear ht hb) | (simp only [hb]) | skip))
        | (refine awp_exit ?_; simp only [thenA, blockA, scopeA, reduceIte, RetQ, Nat.reduceEqDiff])
        | (refine awp_ret ?_; simp only [thenA, blockA, scopeA, RetQ])
        | (refine ev_nil (hK _ ?_); clear hK K)
        | (apply ev_guardU; (case hj | hu | hσ => (simp only [go_sem, d1, d3, hx, f1, f2, w1]; try rfl)))
        | (refine ev_guardT _ _ (by (simp only [go_sem, d1, d3, hx, f1, f2, w1]; rfl)) (by (simp only [go_sem, d1, d3, hx, f1, f2, w1]; rfl)) ?_ ?_ <;> (intro hb; first | (cases hb; done) | (have ht : true = true := hb; clear ht hb) | (have ht : false = false := hb; clear ht hb) | (simp only [hb]) | skip))
        | (refine ev_guardF _ _ (by (simp only [go_sem, d1, d3, hx, f1, f2, w1]; rfl)) (by (simp only [go_sem, d1, d3, hx, f1, f2, w1]; rfl)) ?_ ?_ <;> (intro hb; first | (cases hb; done) | (have ht : true = true := hb; clear ht hb) | (have ht : false = false := hb; clear ht hb) | (simp only [hb]) | skip))
        | (apply ev_step0; (case hr | hσ => (simp only [go_sem, d1, d3, hx, f1, f2, w1]; try rfl)); (case hc => (first | trivial | decide | (simp only [inB, sliceOk, appendOk, rowsOk]; omega) | (simp [inB, sliceOk, appendOk, rowsOk]; omega))))
        | (apply ev_step; (case hr => (simp only [go_sem, d1, d3, hx, f1, f2, w1]; try rfl)); (case hσ => (intro g u; simp only [go_sem, d1, d3, hx, f1, f2, w1]; try rfl)); (case hc => (first | trivial | decide | (simp only [inB, sliceOk, appendOk, rowsOk]; omega) | (simp [inB, sliceOk, appendOk, rowsOk]; omega))); intro g u; (try clear u); (try clear g))
        | fail
      all_goals (refine resR_more T_ok rfl (by decide) _ (by (simp only [go_sem, resA]; rfl)) (by (intro rv hrv; simp only [List.mem_cons, List.not_mem_nil, or_false] at hrv; rcases hrv with rfl | rfl <;> first | trivial | simp only [go_sem, resA])) (by first | trivial | (simp only [go_sem])) ?_; simp only [go_sem])
      exact ⟨LeA.refl _, LeA.i (by rw [hzi]), trivial⟩
    have d3 : (((i + 1 : Nat) : Int) == (s.size : Int)) = false := by rw [beq_eq_false_iff_ne]; omega
    have hx2 := byteAt_nat s (i + 1)
    rw [drop_one (bs s) (i := i + 1) (by omega), show i + 1 + 1 = i + 2 from rfl] at hzi hOi
    have w2 : IntKind.i64.wrap (((i + 1 : Nat) : Int) + 1) = ((i + 2 : Nat) : Int) := by rw [wrap_id (by omega)]; push_cast; omega
    have e1 : ((((bs s).getD (i + 1) 0).toNat : Int) == 34) = ((bs s).getD (i + 1) 0 == 34) := u8_eq _ 34
    have e2 : ((((bs s).getD (i + 1) 0).toNat : Int) == 92) = ((bs s).getD (i + 1) 0 == 92) := u8_eq _ 92
    generalize (bs s).getD (i + 1) 0 = c at *
    by_cases hc34 : c = 34
    · have f3 : ((c.toNat : Int) != 34) = false := by rw [bne, e1, hc34]; rfl
      simp only [scanT, if_pos (show c = 34 ∨ c = 92 from .inl hc34)] at hzi hOi
      clear e1 e2
      repeat' first
        | refine awp_seq ?_
        | refine awp_block ?_
        | refine awp_skip ?_
        | (refine reg _ (by (simp only [List.map_cons, List.map_nil]; rfl)) rfl ?_; intro K hK)
        | (refine awp_cond _ (by rfl) ?_ ?_ <;> (intro hb; first | (cases hb; done) | (have ht : true = true := hb; clear ht hb) | (have ht : false = false := hb; clear ht hb) | (simp only [hb]) | skip))
        | (refine awp_exit ?_; simp only [thenA, blockA, scopeA, reduceIte, RetQ, Nat.reduceEqDiff])
        | (refine awp_ret ?_; simp only [thenA, blockA, scopeA, RetQ])
        | (refine ev_nil (hK _ ?_); clear hK K)
        | (apply ev_guardU; (case hj | hu | hσ => (simp only [go_sem, d1, d3, hx, hx2, f1, f2, f3, w1, w2]; try rfl)))
        | (refine ev_guardT _ _ (by (simp only [go_sem, d1, d3, hx, hx2, f1, f2, f3, w1, w2]; rfl)) (by (simp only [go_sem, d1, d3, hx, hx2, f1, f2, f3, w1, w2]; rfl)) ?_ ?_ <;> (intro hb; first | (cases hb; done) | (have ht : true = true := hb; clear ht hb) | (have ht : false = false := hb; clear ht hb) | (simp only [hb]) | skip))
        | (refine ev_guardF _ _ (by (simp only [go_sem, d1, d3, hx, hx2, f1, f2, f3, w1, w2]; rfl)) (by (simp only [go_sem, d1, d3, hx, hx2, f1, f2, f3, w1, w2]; rfl)) ?_ ?_ <;> (intro hb; first | (cases hb; done) | (have ht : true = true := hb; clear ht hb) | (have ht : false = false := hb; clear ht hb) | (simp only [hb]) | skip))
        | (apply ev_step0; (case hr | hσ => (simp only [go_sem, d1, d3, hx, hx2, f1, f2, f3, w1, w2]; try rfl)); (case hc => (first | trivial | decide | (simp only [inB, sliceOk, appendOk, rowsOk]; omega) | (simp [inB, sliceOk, appendOk, rowsOk]; omega))))
        | (apply ev_step; (case hr => (simp only [go_sem, d1, d3, hx, hx2, f1, f2, f3, w1, w2]; try rfl)); (case hσ => (intro g u; simp only [go_sem, d1, d3, hx, hx2, f1, f2, f3, w1, w2]; try rfl)); (case hc => (first | trivial | decide | (simp only [inB, sliceOk, appendOk, rowsOk]; omega) | (simp [inB, sliceOk, appendOk, rowsOk]; omega))); intro g u; (try clear u); (try clear g))
        | fail
      refine Exists.intro (i + 2, acc ++ [c], u) ⟨⟨by show i + 2 ≤ _; omega, by simp; omega, by simp only; omega, ?_⟩, by show _ - (i + 2) < _ - i; omega, ?_⟩
      · rw [hOi]
        cases (scanT false ((bs s).drop (i + 2))).1 <;> simp
      simp only [List.map_append, List.map_cons, List.map_nil]
      refine Wk.mk ?_ ?_
      all_goals (repeat' first | exact trivial | exact LeA.refl _ | exact LeA.any _ | exact LeO.refl _ | exact LeO.no _ | exact LeA.nil _ | exact LeA.nilOwn _ | exact LeO.nil _ _ _ | refine LeO.box ?_ | (refine LeA.i ?_; (first | rfl | (push_cast; rfl) | (rw [wrap_id (by omega)]; push_cast; omega) | (simp [wrap_id]; omega))) | refine ⟨?_, ?_⟩)
    have f3 : ((c.toNat : Int) != 34) = true := by rw [bne, e1]; simpa using hc34
    by_cases hc92 : c = 92
    · have f4 : ((c.toNat : Int) != 92) = false := by rw [bne, e2, hc92]; rfl
      simp only [scanT, if_pos (show c = 34 ∨ c = 92 from .inr hc92)] at hzi hOi
      clear e1 e2
      repeat' first
        | refine awp_seq ?_
        | refine awp_block ?_
        | refine awp_skip ?_
        | (refine reg _ (by (simp only [List.map_cons, List.map_nil]; rfl)) rfl ?_; intro K hK)
        | (refine awp_cond _ (by rfl) ?_ ?_ <;> (intro hb; first | (cases hb; done) | (have ht : true = true := hb; clear ht hb) | (have ht : false = false := hb; clear ht hb) | (simp only [hb]) | skip))
        | (refine awp_exit ?_; simp only [thenA, blockA, scopeA, reduceIte, RetQ, Nat.reduceEqDiff])
        | (refine awp_ret ?_; simp only [thenA, blockA, scopeA, RetQ])
        | (refine ev_nil (hK _ ?_); clear hK K)
        | (apply ev_guardU; (case hj | hu | hσ => (simp only [go_sem, d1, d3, hx, hx2, f1, f2, f3, f4, w1, w2]; try rfl)))
        | (refine ev_guardT _ _ (by (simp only [go_sem, d1, d3, hx, hx2, f1, f2, f3, f4, w1, w2]; rfl)) (by (simp only [go_sem, d1, d3, hx, hx2, f1, f2, f3, f4, w1, w2]; rfl)) ?_ ?_ <;> (intro hb; first | (cases hb; done) | (have ht : true = true := hb; clear ht hb) | (have ht : false = false := hb; clear ht hb) | (simp only [hb]) | skip))
        | (refine ev_guardF _ _ (by (simp only [go_sem, d1, d3, hx, hx2, f1, f2, f3, f4, w1, w2]; rfl)) (by (simp only [go_sem, d1, d3, hx, hx2, f1, f2, f3, f4, w1, w2]; rfl)) ?_ ?_ <;> (intro hb; first | (cases hb; done) | (have ht : true = true := hb; clear ht hb) | (have ht : false = false := hb; clear ht hb) | (simp only [hb]) | skip))
        | (apply ev_step0; (case hr | hσ => (simp only [go_sem, d1, d3, hx, hx2, f1, f2, f3, f4, w1, w2]; try rfl)); (case hc => (first | trivial | decide | (simp only [inB, sliceOk, appendOk, rowsOk]; omega) | (simp [inB, sliceOk, appendOk, rowsOk]; omega))))
        | (apply ev_step; (case hr => (simp only [go_sem, d1, d3, hx, hx2, f1, f2, f3, f4, w1, w2]; try rfl)); (case hσ => (intro g u; simp only [go_sem, d1, d3, hx, hx2, f1, f2, f3, f4, w1, w2]; try rfl)); (case hc => (first | trivial | decide | (simp only [inB, sliceOk, appendOk, rowsOk]; omega) | (simp [inB, sliceOk, appendOk, rowsOk]; omega))); intro g u; (try clear u); (try clear g))
        | fail
      refine Exists.intro (i + 2, acc ++ [c], u) ⟨⟨by show i + 2 ≤ _; omega, by simp; omega, by simp only; omega, ?_⟩, by show _ - (i + 2) < _ - i; omega, ?_⟩
      · rw [hOi]
        cases (scanT false ((bs s).drop (i + 2))).1 <;> simp
      simp only [List.map_append, List.map_cons, List.map_nil]
      refine Wk.mk ?_ ?_
      all_goals (repeat' first | exact trivial | exact LeA.refl _ | exact LeA.any _ | exact LeO.refl _ | exact LeO.no _ | exact LeA.nil _ | exact LeA.nilOwn _ | exact LeO.nil _ _ _ | refine LeO.box ?_ | (refine LeA.i ?_; (first | rfl | (push_cast; rfl) | (rw [wrap_id (by omega)]; push_cast; omega) | (simp [wrap_id]; omega))) | refine ⟨?_, ?_⟩)
    · have f4 : ((c.toNat : Int) != 92) = true := by rw [bne, e2]; simpa using hc92
      simp only [scanT, if_neg (show ¬ (c = 34 ∨ c = 92) from fun h => h.elim hc34 hc92), Option.map_none] at hzi hOi
      subst hOi
      clear e1 e2
      repeat' first
        | refine awp_seq ?_
        | refine awp_block ?_
        | refine awp_skip ?_
        | (refine reg _ (by (simp only [List.map_cons, List.map_nil]; rfl)) rfl ?_; intro K hK)
        | (refine awp_cond _ (by rfl) ?_ ?_ <;> (intro hb; first | (cases hb; done) | (have ht : true = true := hb; clear ht hb) | (have ht : false = false := hb; clear ht hb) | (simp only [hb]) | skip))
        | (refine awp_exit ?_; simp only [thenA, blockA, scopeA, reduceIte, RetQ, Nat.reduceEqDiff])
        | (refine awp_ret ?_; simp only [thenA, blockA, scopeA, RetQ])
        | (refine ev_nil (hK _ ?_); clear hK K)
        | (apply ev_guardU; (case hj | hu | hσ => (simp only [go_sem, d1, d3, hx, hx2, f1, f2, f3, f4, w1, w2]; try rfl)))
        | (refine ev_guardT _ _ (by (simp only [go_sem, d1, d3, hx, hx2, f1, f2, f3, f4, w1, w2]; rfl)) (by (simp only [go_sem, d1, d3, hx, hx2, f1, f2, f3, f4, w1, w2]; rfl)) ?_ ?_ <;> (intro hb; first | (cases hb; done) | (have ht : true = true := hb; clear ht hb) | (have ht : false = false := hb; clear ht hb) | (simp only [hb]) | skip))
        | (refine ev_guardF _ _ (by (simp only [go_sem, d1, d3, hx, hx2, f1, f2, f3, f4, w1, w2]; rfl)) (by (simp only [go_sem, d1, d3, hx, hx2, f1, f2, f3, f4, w1, w2]; rfl)) ?_ ?_ <;> (intro hb; first | (cases hb; done) | (have ht : true = true := hb; clear ht hb) | (have ht : false = false := hb; clear ht hb) | (simp only [hb]) | skip))
        | (apply ev_step0; (case hr | hσ => (simp only [go_sem, d1, d3, hx, hx2, f1, f2, f3, f4, w1, w2]; try rfl)); (case hc => (first | trivial | decide | (simp only [inB, sliceOk, appendOk, rowsOk]; omega) | (simp [inB, sliceOk, appendOk, rowsOk]; omega))))
        | (apply ev_step; (case hr => (simp only [go_sem, d1, d3, hx, hx2, f1, f2, f3, f4, w1, w2]; try rfl)); (case hσ => (intro g u; simp only [go_sem, d1, d3, hx, hx2, f1, f2, f3, f4, w1, w2]; try rfl)); (case hc => (first | trivial | decide | (simp only [inB, sliceOk, appendOk, rowsOk]; omega) | (simp [inB, sliceOk, appendOk, rowsOk]; omega))); intro g u; (try clear u); (try clear g))
        | fail
      all_goals (refine resR_more T_ok rfl (by decide) _ (by (simp only [go_sem, resA]; rfl)) (by (intro rv hrv; simp only [List.mem_cons, List.not_mem_nil, or_false] at hrv; rcases hrv with rfl | rfl <;> first | trivial | simp only [go_sem, resA])) (by first | trivial | (simp only [go_sem])) ?_; simp only [go_sem])
      exact ⟨LeA.refl _, LeA.i (by rw [hzi]), trivial⟩
  · have f2 : ((x.toNat : Int) == 92) = false := by rw [e2]; simpa using h92
    simp only [scanT, if_neg h34, if_neg h92] at hzi hOi
    clear e1 e2
    repeat' first
      | refine awp_seq ?_
      | refine awp_block ?_
      | refine awp_skip ?_
      | (refine reg _ (by (simp only [List.map_cons, List.map_nil]; rfl)) rfl ?_; intro K hK)
      | (refine awp_cond _ (by rfl) ?_ ?_ <;> (intro hb; first | (cases hb; done) | (have ht : true = true := hb; clear ht hb) | (have ht : false = false := hb; clear ht hb) | (simp only [hb]) | skip))
      | (refine awp_exit ?_; simp only [thenA, blockA, scopeA, reduceIte, RetQ, Nat.reduceEqDiff])
      | (refine awp_ret ?_; simp only [thenA, blockA, scopeA, RetQ])
      | (refine ev_nil (hK _ ?_); clear hK K)
      | (apply ev_guardU; (case hj | hu | hσ => (simp only [go_sem, d1, hx, f1, f2, w1]; try rfl)))
      | (refine ev_guardT _ _ (by (simp only [go_sem, d1, hx, f1, f2, w1]; rfl)) (by (simp only [go_sem, d1, hx, f1, f2, w1]; rfl)) ?_ ?_ <;> (intro hb; first | (cases hb; done) | (have ht : true = true := hb; clear ht hb) | (have ht : false = false := hb; clear ht hb) | (simp only [hb]) | skip))
      | (refine ev_guardF _ _ (by (simp only [go_sem, d1, hx, f1, f2, w1]; rfl)) (by (simp only [go_sem, d1, hx, f1, f2, w1]; rfl)) ?_ ?_ <;> (intro hb; first | (cases hb; done) | (have ht : true = true := hb; clear ht hb) | (have ht : false = false := hb; clear ht hb) | (simp only [hb]) | skip))
      | (apply ev_step0; (case hr | hσ => (simp only [go_sem, d1, hx, f1, f2, w1]; try rfl)); (case hc => (first | trivial | decide | (simp only [inB, sliceOk, appendOk, rowsOk]; omega) | (simp [inB, sliceOk, appendOk, rowsOk]; omega))))
      | (apply ev_step; (case hr => (simp only [go_sem, d1, hx, f1, f2, w1]; try rfl)); (case hσ => (intro g u; simp only [go_sem, d1, hx, f1, f2, w1]; try rfl)); (case hc => (first | trivial | decide | (simp only [inB, sliceOk, appendOk, rowsOk]; omega) | (simp [inB, sliceOk, appendOk, rowsOk]; omega))); intro g u; (try clear u); (try clear g))
      | fail
    refine Exists.intro (i + 1, acc ++ [x], u) ⟨⟨by show i + 1 ≤ _; omega, by simp; omega, by simp only; omega, ?_⟩, by show _ - (i + 1) < _ - i; omega, ?_⟩
    · rw [hOi]
      cases (scanT false ((bs s).drop (i + 1))).1 <;> simp
    simp only [List.map_append, List.map_cons, List.map_nil]
    refine Wk.mk ?_ ?_
    all_goals (repeat' first | exact trivial | exact LeA.refl _ | exact LeA.any _ | exact LeO.refl _ | exact LeO.no _ | exact LeA.nil _ | exact LeA.nilOwn _ | exact LeO.nil _ _ _ | refine LeO.box ?_ | (refine LeA.i ?_; (first | rfl | (push_cast; rfl) | (rw [wrap_id (by omega)]; push_cast; omega) | (simp [wrap_id]; omega))) | refine ⟨?_, ?_⟩)
theorem f55_spec (l : List Tok) : Spec Try.prog 55 [.d (tksD l)] (.d (tksD l)) := by
  refine spec_of_awp (fn := Try.f55) Try.func55 (by kernel_rfl) rfl ?_
  intro w0 C0
  simp only [Try.ntmps55, litI, litB, litS, List.length_cons, List.length_nil, Nat.reduceAdd, Nat.reduceSub, List.replicate_succ, List.replicate_zero, List.cons_append, List.nil_append]
  repeat' first
    | refine awp_seq ?_
    | refine awp_block ?_
    | refine awp_skip ?_
    | (refine reg _ (by (simp only [List.map_cons, List.map_nil]; rfl)) rfl ?_; intro K hK)
    | (refine awp_cond _ (by rfl) ?_ ?_ <;> (intro hb; first | (cases hb; done) | (have ht : true = true := hb; clear ht hb) | (have ht : false = false := hb; clear ht hb) | (simp only [hb]) | skip))
    | (refine awp_exit ?_; simp only [thenA, blockA, scopeA, reduceIte, RetQ, Nat.reduceEqDiff])
    | (refine awp_ret ?_; simp only [thenA, blockA, scopeA, RetQ])
    | (refine ev_nil (hK _ ?_); clear hK K)
    | (apply ev_step0; (case hr | hσ => (simp only [go_sem]; try rfl)); (case hc => (first | trivial | decide | (simp only [inB, sliceOk, appendOk, rowsOk]; omega) | (simp [inB, sliceOk, appendOk, rowsOk]; omega))))
    | (apply ev_step; (case hr => (simp only [go_sem]; try rfl)); (case hσ => (intro g u; simp only [go_sem]; try rfl)); (case hc => (first | trivial | decide | (simp only [inB, sliceOk, appendOk, rowsOk]; omega) | (simp [inB, sliceOk, appendOk, rowsOk]; omega))); intro g u; (try clear u); (try clear g))
    | fail
  all_goals (refine resR_one T_ok rfl _ (by (simp only [go_sem, resA]; rfl)) (by first | trivial | (simp only [go_sem, resA])) (by first | trivial | (simp only [go_sem])) ?_; simp only [go_sem])
  exact LeA.refl _
end
section
set_option linter.unusedVariables false
set_option linter.unusedSimpArgs false
open Go.RowKit
theorem sub_size (s : ByteArray) (a b : Nat) (h : a + b ≤ s.size) : (subS s a (a + b)).size = b := by
  rw [← bs_len, bs_sub, List.length_take, List.length_drop, bs_len]; omega
theorem kind_cases (b : UInt8) : kindB b = 1 ∨ kindB b = 2 ∨ kindB b = 3 ∨ kindB b = 4 := by
  unfold kindB
  split
  · exact .inl rfl
  · split
    · exact .inr (.inl rfl)
    · split
      · exact .inr (.inr (.inl rfl))
      · exact .inr (.inr (.inr rfl))
theorem bs_mk (l : Bs) : bs ⟨l.toArray⟩ = l := by simp [bs]
/-- What the function for the kind of a byte yields. -/
theorem scan_fn (s : ByteArray) (a : Nat) (hs : s.size ≤ 20000) (ha : a < s.size) : ∃ (c : ByteArray) (e : Nat), Spec Try.prog (48 + kindB ((bs s).getD a 0)) [litS s, litI .i64 (a : Int)] (.tup [litS c, litI .i64 (e : Int)]) ∧
    bs c = (scanB ((bs s).drop a)).1 ∧ e ≤ s.size ∧ c.size ≤ 20000 ∧ (validB (kindB ((bs s).getD a 0)) (bs c) = true → e = a + (scanB ((bs s).drop a)).2) := by
  have hl := bs_len s
  have hdr := drop_one (bs s) (i := a) (by omega)
  have h49 := f49_spec s a (by omega) (by omega)
  have h50 := f50_spec s a (by omega) (by omega)
  have h51 := f51_spec s a hs ha
  have h52 := f52_spec s a (by omega) ha
  have l1 := runN_le wordB ((bs s).drop a)
  have l2 := numN_le ((bs s).drop a)
  have l3 := signN_le (l := (bs s).drop a) (by rw [List.length_drop]; omega)
  have l4 := scanT_le false ((bs s).drop (a + 1))
  have l5 := scanT_len false ((bs s).drop (a + 1))
  rw [List.length_drop] at l1 l2 l3 l4
  generalize hb : (bs s).getD a 0 = b at *
  by_cases h1 : letterB b = true
  · have hk : kindB b = 1 := by rw [kindB, if_pos h1]
    have hsc : scanB ((bs s).drop a) = (((bs s).drop a).take (runN wordB ((bs s).drop a)), runN wordB ((bs s).drop a)) := by
      rw [hdr]; simp only [scanB, if_pos h1]
    refine ⟨_, _, by rw [hk]; exact h49, ?_, by omega, ?_, fun _ => by rw [hsc]⟩
    · rw [bs_sub, hsc, Nat.add_sub_cancel_left]
    · rw [sub_size _ _ _ (by omega)]; omega
  by_cases h2 : digitB b = true
  · have hk : kindB b = 2 := by rw [kindB, if_neg h1, if_pos h2]
    have hsc : scanB ((bs s).drop a) = (if letterB (((bs s).drop a).getD (numN ((bs s).drop a)) 0) = true then [] else ((bs s).drop a).take (numN ((bs s).drop a)), numN ((bs s).drop a)) := by
      rw [hdr]; simp only [scanB, if_neg h1, if_pos h2]
    refine ⟨_, _, by rw [hk]; exact h50, ?_, by omega, ?_, fun _ => by rw [hsc]⟩
    · rw [hsc]
      simp only
      split
      · rfl
      · rw [bs_sub, Nat.add_sub_cancel_left]
    · split
      · exact Nat.zero_le _
      · rw [sub_size _ _ _ (by omega)]; omega
  by_cases h3 : b = 34
  · have hk : kindB b = 3 := by rw [kindB, if_neg h1, if_neg h2, if_pos h3]
    have hsc : scanB ((bs s).drop a) = match quoteF false ((bs s).drop (a + 1)) with | none => ([0], 0) | some x => (x.1, x.2 + 1) := by
      rw [hdr]; simp only [scanB, if_neg h1, if_neg h2, if_pos h3]; rfl
    rw [scanT_quote] at hsc
    refine ⟨_, _, by rw [hk]; exact h51, ?_, by omega, ?_, ?_⟩
    · rw [bs_mk, hsc]
      cases (scanT false ((bs s).drop (a + 1))).1 <;> rfl
    · rw [← bs_len, bs_mk]
      cases hq : (scanT false ((bs s).drop (a + 1))).1 with
      | none => show 1 ≤ _; omega
      | some c => have := l5 c hq; show c.length ≤ _; omega
    · rw [bs_mk, hsc, hk]
      cases (scanT false ((bs s).drop (a + 1))).1 with
      | none => intro h; exact absurd h (by decide)
      | some c =>
        intro _
        show a + 1 + (scanT false ((bs s).drop (a + 1))).2 = a + ((scanT false ((bs s).drop (a + 1))).2 + 1)
        omega
  have hk : kindB b = 4 := by rw [kindB, if_neg h1, if_neg h2, if_neg h3]
  have hsc : scanB ((bs s).drop a) = if b = 60 ∧ ((bs s).drop (a + 1)).getD 0 0 = 61 then ([60, 61], 2) else ([b], 1) := by
    rw [hdr]; simp only [scanB, if_neg h1, if_neg h2, if_neg h3]
  have hpre : [60, 61].isPrefixOf ((bs s).drop a) = decide (b = 60 ∧ ((bs s).drop (a + 1)).getD 0 0 = 61) := by
    rw [hdr]
    cases hd : (bs s).drop (a + 1) with
    | nil => simp [List.isPrefixOf]
    | cons c l =>
      rw [Bool.eq_iff_iff, decide_eq_true_eq]
      simp only [List.isPrefixOf, Bool.and_eq_true, beq_iff_eq, List.getD_cons_zero]
      exact ⟨fun h => ⟨h.1.symm, h.2.1.symm⟩, fun h => ⟨h.1.symm, h.2.symm, trivial⟩⟩
  refine ⟨_, _, by rw [hk]; exact h52, ?_, by omega, ?_, fun _ => ?_⟩
  · rw [bs_sub, Nat.add_sub_cancel_left, hsc]
    unfold signN
    rw [hpre]
    by_cases hc : b = 60 ∧ ((bs s).drop (a + 1)).getD 0 0 = 61
    · rw [if_pos hc, if_pos (decide_eq_true hc), hdr]
      have hx := hc.2
      cases hd : (bs s).drop (a + 1) with
      | nil => rw [hd] at hx; exact absurd hx (by decide)
      | cons c l =>
        rw [hd] at hx
        have hx' : c = 61 := hx
        rw [hc.1, hx']
        rfl
    · rw [if_neg hc, if_neg (by simpa using hc), hdr]
      rfl
  · rw [sub_size _ _ _ (by omega)]; omega
  · rw [hsc]
    unfold signN
    rw [hpre]
    by_cases hc : b = 60 ∧ ((bs s).drop (a + 1)).getD 0 0 = 61
    · rw [if_pos hc, if_pos (decide_eq_true hc)]
    · rw [if_neg hc, if_neg (by simpa using hc)]
/-- A token as it lies in memory. -/
def toTok (t : Tk) : Tok := ⟨(t.1 : Int), ⟨t.2.1.toArray⟩, (t.2.2 : Int)⟩
theorem lexTk_step (f a : Nat) (l : Bs) (h : l ≠ []) : lexTk (f + 1) a l = match tokB l with
    | none => ([], some a)
    | some x => ((x.1, x.2.1, a) :: (lexTk f (a + x.2.2 + skipF false (l.drop x.2.2)) ((l.drop x.2.2).drop (skipF false (l.drop x.2.2)))).1, (lexTk f (a + x.2.2 + skipF false (l.drop x.2.2)) ((l.drop x.2.2).drop (skipF false (l.drop x.2.2)))).2) := by
  simp only [lexTk, if_neg h]
  rfl
/-- One step along a source. -/
theorem lex_at (s : Bs) (a : Nat) (ha : a < s.length) : lexTk (s.length + 1) a (s.drop a) = if validB (kindB (s.getD a 0)) (scanB (s.drop a)).1 = true then
      ((kindB (s.getD a 0), (scanB (s.drop a)).1, a) :: (lexTk (s.length + 1) (a + (scanB (s.drop a)).2 + skipF false (s.drop (a + (scanB (s.drop a)).2))) (s.drop (a + (scanB (s.drop a)).2 + skipF false (s.drop (a + (scanB (s.drop a)).2))))).1,
        (lexTk (s.length + 1) (a + (scanB (s.drop a)).2 + skipF false (s.drop (a + (scanB (s.drop a)).2))) (s.drop (a + (scanB (s.drop a)).2 + skipF false (s.drop (a + (scanB (s.drop a)).2))))).2)
    else ([], some a) := by
  have hdr := drop_one s ha
  have hts := tokB_scan (b := s.getD a 0) (l := s.drop (a + 1))
  rw [← hdr] at hts
  rw [lexTk_step _ _ _ (by rw [hdr]; simp)]
  by_cases hv : validB (kindB (s.getD a 0)) (scanB (s.drop a)).1 = true
  · rw [if_pos hv] at hts
    rw [if_pos hv, hts]
    have hn : 1 ≤ (scanB (s.drop a)).2 := (tokB_len hts).1
    simp only [List.drop_drop]
    rw [lexTk_fuel s.length (s.length + 1) _ _ (by rw [List.length_drop]; omega) (by rw [List.length_drop]; omega)]
  · rw [if_neg hv] at hts
    rw [if_neg hv, hts]
end
section
set_option linter.unusedVariables false
set_option linter.unusedSimpArgs false
open Go.RowKit
attribute [local irreducible] AWp evOps evD
/-- What Lex answers: tokens, an error's offset, an error. -/
def lexL (s : ByteArray) : List Tok := match (lexB (bs s)).2 with | none => (lexB (bs s)).1.map toTok | some _ => []
def lexP (s : ByteArray) : Int := match (lexB (bs s)).2 with | none => 0 | some p => (p : Int)
def lexE (s : ByteArray) : Int := match (lexB (bs s)).2 with | none => 0 | some _ => 5
set_option maxHeartbeats 4000000 in
theorem f28_big (s : ByteArray) (hs : 20000 < s.size) : Spec Try.prog 28 [litS s] (.tup [.d (tksD []), litI .i64 0, litI .i64 2]) := by
  have d0 : decide ((s.size : Int) > 20000) = true := decide_eq_true (by omega)
  refine spec_of_awp (fn := Try.f28) Try.func28 (by kernel_rfl) rfl ?_
  intro w0 C0
  simp only [Try.ntmps28, litI, litB, litS, List.length_cons, List.length_nil, Nat.reduceAdd, Nat.reduceSub, List.replicate_succ, List.replicate_zero, List.cons_append, List.nil_append]
  repeat' first
    | refine awp_seq ?_
    | refine awp_block ?_
    | refine awp_skip ?_
    | (refine reg _ (by (simp only [List.map_cons, List.map_nil]; rfl)) rfl ?_; intro K hK)
    | (refine awp_cond _ (by rfl) ?_ ?_ <;> (intro hb; first | (cases hb; done) | (have ht : true = true := hb; clear ht hb) | (have ht : false = false := hb; clear ht hb) | (simp only [hb]) | skip))
    | (refine awp_exit ?_; simp only [thenA, blockA, scopeA, reduceIte, RetQ, Nat.reduceEqDiff])
    | (refine awp_ret ?_; simp only [thenA, blockA, scopeA, RetQ])
    | (refine ev_nil (hK _ ?_); clear hK K)
    | (apply ev_step0; (case hr | hσ => (simp only [go_sem, d0]; try rfl)); (case hc => (first | trivial | decide | (simp only [inB, sliceOk, appendOk, rowsOk]; omega) | (simp [inB, sliceOk, appendOk, rowsOk]; omega))))
    | (apply ev_step; (case hr => (simp only [go_sem, d0]; try rfl)); (case hσ => (intro g u; simp only [go_sem, d0]; try rfl)); (case hc => (first | trivial | decide | (simp only [inB, sliceOk, appendOk, rowsOk]; omega) | (simp [inB, sliceOk, appendOk, rowsOk]; omega))); intro g u; (try clear u); (try clear g))
    | fail
  all_goals (refine resR_more T_ok rfl (by decide) _ (by (simp only [go_sem, resA]; rfl)) (by (intro rv hrv; simp only [List.mem_cons, List.not_mem_nil, or_false] at hrv; rcases hrv with rfl | rfl | rfl <;> first | trivial | simp only [go_sem, resA])) (by first | trivial | (simp only [go_sem])) ?_; simp only [go_sem])
  exact ⟨LeA.nil _, LeA.refl _, LeA.refl _, trivial⟩
abbrev fnsA : List AV := [.d (.lit .nilFunc), .d (.lit (.func (.func 49) #[] #[])), .d (.lit (.func (.func 50) #[] #[])), .d (.lit (.func (.func 51) #[] #[])), .d (.lit (.func (.func 52) #[] #[]))]
set_option maxHeartbeats 16000000 in
theorem f28_spec (s : ByteArray) (hs : s.size ≤ 20000) : Spec Try.prog 28 [litS s] (.tup [.d (tksD (lexL s)), litI .i64 (lexP s), litI .i64 (lexE s)]) := by
  have hl := bs_len s
  have d0 : decide ((s.size : Int) > 20000) = false := decide_eq_false (by omega)
  have h53 := f53_spec s 0 (by omega) (by omega)
  have hLL : lexB (bs s) = lexTk ((bs s).length + 1) (skipF false (bs s)) ((bs s).drop (skipF false (bs s))) := rfl
  have hk0 := skipF_le false (bs s)
  have hlL : lexL s = match (lexB (bs s)).2 with | none => (lexB (bs s)).1.map toTok | some _ => [] := rfl
  have hlP : lexP s = match (lexB (bs s)).2 with | none => 0 | some p => (p : Int) := rfl
  have hlE : lexE s = match (lexB (bs s)).2 with | none => 0 | some _ => 5 := rfl
  rw [List.drop_zero, Nat.zero_add] at h53
  generalize lexB (bs s) = L at *
  generalize lexL s = oL at *
  generalize lexP s = oP at *
  generalize lexE s = oE at *
  generalize skipF false (bs s) = k0 at *
  refine spec_of_awp (fn := Try.f28) Try.func28 (by kernel_rfl) rfl ?_
  intro w0 C0
  simp only [Try.ntmps28, litI, litB, litS, List.length_cons, List.length_nil, Nat.reduceAdd, Nat.reduceSub, List.replicate_succ, List.replicate_zero, List.cons_append, List.nil_append]
  repeat' first
    | refine awp_seq ?_
    | refine awp_block ?_
    | refine awp_skip ?_
    | (refine reg _ (by (simp only [List.map_cons, List.map_nil]; rfl)) rfl ?_; intro K hK)
    | (refine awp_cond _ (by rfl) ?_ ?_ <;> (intro hb; first | (cases hb; done) | (have ht : true = true := hb; clear ht hb) | (have ht : false = false := hb; clear ht hb) | (simp only [hb]) | skip))
    | (refine awp_exit ?_; simp only [thenA, blockA, scopeA, reduceIte, RetQ, Nat.reduceEqDiff])
    | (refine awp_ret ?_; simp only [thenA, blockA, scopeA, RetQ])
    | (refine ev_nil (hK _ ?_); clear hK K)
    | (apply ev_call0; (case hys => (simp only [go_sem, d0]; try rfl)); (case hs => first | exact h53 ..); (case hok | hσ => (simp only [go_sem, d0]; try rfl)))
    | (apply ev_callC; (case hf | hys => (simp only [go_sem, d0]; try rfl)); (case hs => first | exact h53 ..); (case hok | hσ => (simp only [go_sem, d0]; try rfl)))
    | (apply ev_step0; (case hr | hσ => (simp only [go_sem, d0]; try rfl)); (case hc => (first | trivial | decide | (simp only [inB, sliceOk, appendOk, rowsOk]; omega) | (simp [inB, sliceOk, appendOk, rowsOk]; omega))))
    | (apply ev_step; (case hr => (simp only [go_sem, d0]; try rfl)); (case hσ => (intro g u; simp only [go_sem, d0]; try rfl)); (case hc => (first | trivial | decide | (simp only [inB, sliceOk, appendOk, rowsOk]; omega) | (simp [inB, sliceOk, appendOk, rowsOk]; omega))); intro g u; (try clear u); (try clear g))
    | fail
  refine awp_loopI (fun j : Nat × List Tk × Value => j.1 ≤ s.size ∧ j.2.1.length ≤ j.1 ∧ L = (j.2.1 ++ (lexTk ((bs s).length + 1) j.1 ((bs s).drop j.1)).1, (lexTk ((bs s).length + 1) j.1 ((bs s).drop j.1)).2)) (fun j => s.size - j.1) (fun j => ⟨[.any, .any, .any, .any, .any, .ptr 5 g 0, litS s, .own 7 j.2.2, litI .i64 j.1, .any, .any, .any, .any, .any, .any, .any, .any, .any, .any, .any, .any, .any, .any, .any, .any, .any, .any, .any, .any, .any, .any, .any, .any, .any, .any, .any, .any, .any, .any, .any, .any, .any, .any, .any, .any, .any, .any, .any, .any, .any, .any, .any, .any, .any], [.no, .no, .no, .no, .no, .box g fnsA, .no, .row j.2.2 35 3 (j.2.1.map (fun t => tkD (toTok t))), .no, .no, .no, .no, .no, .no, .no, .no, .no, .no, .no, .no, .no, .no, .no, .no, .no, .no, .no, .no, .no, .no, .no, .no, .no, .no, .no, .no, .no, .no, .no, .no, .no, .no, .no, .no, .no, .no, .no, .no, .no, .no, .no, .no, .no, .no]⟩) (k0, [], .slice none 0 0) ⟨by show k0 ≤ _; omega, by simp, hLL⟩ ?_ ?_
  · refine Wk.mk ?_ ?_
    all_goals (repeat' first | exact trivial | exact LeA.refl _ | exact LeA.any _ | exact LeO.refl _ | exact LeO.no _ | exact LeA.nil _ | exact LeA.nilOwn _ | exact LeO.nil _ _ _ | refine LeO.box ?_ | (refine LeA.i ?_; (first | rfl | (push_cast; rfl) | (rw [wrap_id (by omega)]; push_cast; omega) | (simp [wrap_id]; omega))) | refine ⟨?_, ?_⟩)
  rintro ⟨i, acc, v⟩ ⟨hi, hal, hLi⟩
  simp only [litI, litB, litS, fnsA] at hi hal hLi ⊢
  by_cases h1 : i < s.size
  rotate_left
  · have d1 : decide ((i : Int) < (s.size : Int)) = false := decide_eq_false (by omega)
    rw [List.drop_eq_nil_of_le (by omega)] at hLi
    have hLi' : L = (acc, none) := by rw [hLi]; simp [lexTk]
    subst hLi'
    subst hlL hlP hlE
    have hmm : acc.map (fun t => tkD (toTok t)) = (acc.map toTok).map tkD := by rw [List.map_map]; rfl
    have h55 := f55_spec (acc.map toTok)
    rw [hmm]
    repeat' first
      | refine awp_seq ?_
      | refine awp_block ?_
      | refine awp_skip ?_
      | (refine reg _ (by (simp only [List.map_cons, List.map_nil]; rfl)) rfl ?_; intro K hK)
      | (refine awp_cond _ (by rfl) ?_ ?_ <;> (intro hb; first | (cases hb; done) | (have ht : true = true := hb; clear ht hb) | (have ht : false = false := hb; clear ht hb) | (simp only [hb]) | skip))
      | (refine awp_exit ?_; simp only [thenA, blockA, scopeA, reduceIte, RetQ, Nat.reduceEqDiff])
      | (refine awp_ret ?_; simp only [thenA, blockA, scopeA, RetQ])
      | (refine ev_nil (hK _ ?_); clear hK K)
      | (apply ev_call0; (case hys => (simp only [go_sem, d1]; try rfl)); (case hs => first | exact h55 ..); (case hok | hσ => (simp only [go_sem, d1]; try rfl)))
      | (apply ev_callC; (case hf | hys => (simp only [go_sem, d1]; try rfl)); (case hs => first | exact h55 ..); (case hok | hσ => (simp only [go_sem, d1]; try rfl)))
      | (apply ev_step0; (case hr | hσ => (simp only [go_sem, d1]; try rfl)); (case hc => (first | trivial | decide | (simp only [inB, sliceOk, appendOk, rowsOk]; omega) | (simp [inB, sliceOk, appendOk, rowsOk]; omega))))
      | (apply ev_step; (case hr => (simp only [go_sem, d1]; try rfl)); (case hσ => (intro g u; simp only [go_sem, d1]; try rfl)); (case hc => (first | trivial | decide | (simp only [inB, sliceOk, appendOk, rowsOk]; omega) | (simp [inB, sliceOk, appendOk, rowsOk]; omega))); intro g u; (try clear u); (try clear g))
      | fail
    all_goals (refine resR_more T_ok rfl (by decide) _ (by (simp only [go_sem, resA]; rfl)) (by (intro rv hrv; simp only [List.mem_cons, List.not_mem_nil, or_false] at hrv; rcases hrv with rfl | rfl | rfl <;> first | trivial | simp only [go_sem, resA])) (by first | trivial | (simp only [go_sem])) ?_; simp only [go_sem])
    exact ⟨LeA.refl _, LeA.refl _, LeA.refl _, trivial⟩
  have d1 : decide ((i : Int) < (s.size : Int)) = true := decide_eq_true (by omega)
  have hx := byteAt_nat s i
  have h54 := f54_spec ((bs s).getD i 0)
  obtain ⟨c, e, hsp, hc, he, hcs, hev⟩ := scan_fn s i hs h1
  have hat := lex_at (bs s) i (by omega)
  have h14 := f14_spec (kindB ((bs s).getD i 0) : Int) c i (by omega)
  have hvz : validZ (kindB ((bs s).getD i 0) : Int) (bs c) = validB (kindB ((bs s).getD i 0)) (scanB ((bs s).drop i)).1 := by rw [← hc]; rfl
  rw [hvz] at h14
  rw [hat] at hLi
  rw [hc] at hev
  have hkc := kind_cases ((bs s).getD i 0)
  have hdr := drop_one (bs s) (i := i) (by omega)
  have hfn := IsFn.lit (48 + kindB ((bs s).getD i 0))
  generalize (bs s).getD i 0 = x at *
  have hcc : c = ⟨(scanB ((bs s).drop i)).1.toArray⟩ := by rw [← hc]
  have hn1 : validB (kindB x) (scanB ((bs s).drop i)).1 = true → 1 ≤ (scanB ((bs s).drop i)).2 := fun hv => by
    have hts := tokB_scan (b := x) (l := (bs s).drop (i + 1))
    rw [← hdr, if_pos hv] at hts
    exact (tokB_len hts).1
  generalize scanB ((bs s).drop i) = sc at *
  generalize kindB x = k at *
  have h53b := f53_spec s e (by omega) he
  have hske := skipF_le false ((bs s).drop e)
  rw [List.length_drop] at hske
  cases hv : validB k sc.1 with
  | false =>
    rw [hv] at h14 hLi
    simp only [Bool.false_eq_true, if_false, List.append_nil] at hLi
    subst hLi
    subst hlL hlP hlE
    rcases hkc with rfl | rfl | rfl | rfl
    all_goals
      simp only [Nat.reduceAdd] at hsp hfn
      repeat' first
        | refine awp_seq ?_
        | refine awp_block ?_
        | refine awp_skip ?_
        | (refine reg _ (by (simp only [List.map_cons, List.map_nil]; rfl)) rfl ?_; intro K hK)
        | (refine awp_cond _ (by rfl) ?_ ?_ <;> (intro hb; first | (cases hb; done) | (have ht : true = true := hb; clear ht hb) | (have ht : false = false := hb; clear ht hb) | (simp only [hb]) | skip))
        | (refine awp_exit ?_; simp only [thenA, blockA, scopeA, reduceIte, RetQ, Nat.reduceEqDiff])
        | (refine awp_ret ?_; simp only [thenA, blockA, scopeA, RetQ])
        | (refine ev_nil (hK _ ?_); clear hK K)
        | (apply ev_call0; (case hys => (simp only [go_sem, d1, hx, Int.reduceToNat, Int.cast_ofNat_Int]; try rfl)); (case hs => first | exact h54 .. | exact h14 ..); (case hok | hσ => (simp only [go_sem, d1, hx, Int.reduceToNat, Int.cast_ofNat_Int]; try rfl)))
        | (apply ev_callC; (case hf | hys => (simp only [go_sem, d1, hx, Int.reduceToNat, Int.cast_ofNat_Int]; try rfl)); (case hs => first | exact h54 .. | exact h14 ..); (case hok | hσ => (simp only [go_sem, d1, hx, Int.reduceToNat, Int.cast_ofNat_Int]; try rfl)))
        | refine ev_callFn hfn _ _ (by (simp only [go_sem, d1, hx, Int.reduceToNat, Int.cast_ofNat_Int])) (by (simp only [go_sem, d1, hx, Int.reduceToNat, Int.cast_ofNat_Int]; try rfl)) (hsp) (by (simp only [go_sem, d1, hx, Int.reduceToNat, Int.cast_ofNat_Int])) _ (by (simp only [go_sem, d1, hx, Int.reduceToNat, Int.cast_ofNat_Int]; rfl)) ?_
        | (apply ev_step0; (case hr | hσ => (simp only [go_sem, d1, hx, Int.reduceToNat, Int.cast_ofNat_Int]; try rfl)); (case hc => (first | trivial | decide | (simp only [inB, sliceOk, appendOk, rowsOk]; omega) | (simp [inB, sliceOk, appendOk, rowsOk]; omega))))
        | (apply ev_step; (case hr => (simp only [go_sem, d1, hx, Int.reduceToNat, Int.cast_ofNat_Int]; try rfl)); (case hσ => (intro g u; simp only [go_sem, d1, hx, Int.reduceToNat, Int.cast_ofNat_Int]; try rfl)); (case hc => (first | trivial | decide | (simp only [inB, sliceOk, appendOk, rowsOk]; omega) | (simp [inB, sliceOk, appendOk, rowsOk]; omega))); intro g u; (try clear u); (try clear g))
        | fail
      all_goals (refine resR_more T_ok rfl (by decide) _ (by (simp only [go_sem, resA]; rfl)) (by (intro rv hrv; simp only [List.mem_cons, List.not_mem_nil, or_false] at hrv; rcases hrv with rfl | rfl | rfl <;> first | trivial | simp only [go_sem, resA])) (by first | trivial | (simp only [go_sem])) ?_; simp only [go_sem])
      exact ⟨LeA.nil _, LeA.refl _, LeA.refl _, trivial⟩
  | true =>
    rw [hv] at h14 hLi hev hn1
    have hev' := hev rfl
    have hn1' := hn1 rfl
    subst hev'
    simp only [if_true] at hLi
    rcases hkc with rfl | rfl | rfl | rfl
    all_goals
      simp only [Nat.reduceAdd] at hsp hfn
      repeat' first
        | refine awp_seq ?_
        | refine awp_block ?_
        | refine awp_skip ?_
        | (refine reg _ (by (simp only [List.map_cons, List.map_nil]; rfl)) rfl ?_; intro K hK)
        | (refine awp_cond _ (by rfl) ?_ ?_ <;> (intro hb; first | (cases hb; done) | (have ht : true = true := hb; clear ht hb) | (have ht : false = false := hb; clear ht hb) | (simp only [hb]) | skip))
        | (refine awp_exit ?_; simp only [thenA, blockA, scopeA, reduceIte, RetQ, Nat.reduceEqDiff])
        | (refine awp_ret ?_; simp only [thenA, blockA, scopeA, RetQ])
        | (refine ev_nil (hK _ ?_); clear hK K)
        | (apply ev_call0; (case hys => (simp only [go_sem, d1, hx, Int.reduceToNat, Int.cast_ofNat_Int]; try rfl)); (case hs => first | exact h54 .. | exact h14 .. | exact h53b ..); (case hok | hσ => (simp only [go_sem, d1, hx, Int.reduceToNat, Int.cast_ofNat_Int]; try rfl)))
        | (apply ev_callC; (case hf | hys => (simp only [go_sem, d1, hx, Int.reduceToNat, Int.cast_ofNat_Int]; try rfl)); (case hs => first | exact h54 .. | exact h14 .. | exact h53b ..); (case hok | hσ => (simp only [go_sem, d1, hx, Int.reduceToNat, Int.cast_ofNat_Int]; try rfl)))
        | refine ev_callFn hfn _ _ (by (simp only [go_sem, d1, hx, Int.reduceToNat, Int.cast_ofNat_Int])) (by (simp only [go_sem, d1, hx, Int.reduceToNat, Int.cast_ofNat_Int]; try rfl)) (hsp) (by (simp only [go_sem, d1, hx, Int.reduceToNat, Int.cast_ofNat_Int])) _ (by (simp only [go_sem, d1, hx, Int.reduceToNat, Int.cast_ofNat_Int]; rfl)) ?_
        | (apply ev_step0; (case hr | hσ => (simp only [go_sem, d1, hx, Int.reduceToNat, Int.cast_ofNat_Int]; try rfl)); (case hc => (first | trivial | decide | (simp only [inB, sliceOk, appendOk, rowsOk]; omega) | (simp [inB, sliceOk, appendOk, rowsOk]; omega))))
        | (apply ev_step; (case hr => (simp only [go_sem, d1, hx, Int.reduceToNat, Int.cast_ofNat_Int]; try rfl)); (case hσ => (intro g u; simp only [go_sem, d1, hx, Int.reduceToNat, Int.cast_ofNat_Int]; try rfl)); (case hc => (first | trivial | decide | (simp only [inB, sliceOk, appendOk, rowsOk]; omega) | (simp [inB, sliceOk, appendOk, rowsOk]; omega))); intro g u; (try clear u); (try clear g))
        | fail
      refine Exists.intro (i + sc.2 + skipF false ((bs s).drop (i + sc.2)), acc ++ [(_, sc.1, i)], u) ⟨⟨by simp only; omega, by simp; omega, by rw [hLi, List.append_assoc]; rfl⟩, by simp only; omega, ?_⟩
      simp only [List.map_append, List.map_cons, List.map_nil, toTok, hcc]
      refine Wk.mk ?_ ?_
      all_goals (repeat' first | exact trivial | exact LeA.refl _ | exact LeA.any _ | exact LeO.refl _ | exact LeO.no _ | exact LeA.nil _ | exact LeA.nilOwn _ | exact LeO.nil _ _ _ | refine LeO.box ?_ | (refine LeA.i ?_; (first | rfl | (push_cast; rfl) | (rw [wrap_id (by omega)]; push_cast; omega) | (simp [wrap_id]; omega))) | refine ⟨?_, ?_⟩)
end
section
set_option linter.unusedVariables false
set_option linter.unusedSimpArgs false
open Go.RowKit
attribute [local irreducible] AWp evOps evD
/-- What the law's lexed answers. -/
abbrev lxA (l : List Tok) (a e : Int) : AV := .agg [.d (tksD l), litI .i64 a, litI .i64 e]
theorem f12_of (s : ByteArray) (l : List Tok) (a e : Int) (hb : l.length ≤ 1000000) (h28 : Spec Try.prog 28 [litS s] (.tup [.d (tksD l), litI .i64 a, litI .i64 e])) : Spec Try.prog 12 [litS s] (lxA l a e) := by
  have h29 := f29_spec l hb
  refine spec_of_awp (fn := Try.f12) Try.func12 (by kernel_rfl) rfl ?_
  intro w0 C0
  simp only [Try.ntmps12, litI, litB, litS, List.length_cons, List.length_nil, Nat.reduceAdd, Nat.reduceSub, List.replicate_succ, List.replicate_zero, List.cons_append, List.nil_append]
  repeat' first
    | refine awp_seq ?_
    | refine awp_block ?_
    | refine awp_skip ?_
    | (refine reg _ (by (simp only [List.map_cons, List.map_nil]; rfl)) rfl ?_; intro K hK)
    | (refine awp_cond _ (by rfl) ?_ ?_ <;> (intro hb; first | (cases hb; done) | (have ht : true = true := hb; clear ht hb) | (have ht : false = false := hb; clear ht hb) | (simp only [hb]) | skip))
    | (refine awp_exit ?_; simp only [thenA, blockA, scopeA, reduceIte, RetQ, Nat.reduceEqDiff])
    | (refine awp_ret ?_; simp only [thenA, blockA, scopeA, RetQ])
    | (refine ev_nil (hK _ ?_); clear hK K)
    | (apply ev_call0; (case hys => (simp only [go_sem]; try rfl)); (case hs => first | exact h28 .. | exact h29 ..); (case hok | hσ => (simp only [go_sem]; try rfl)))
    | (apply ev_step0; (case hr | hσ => (simp only [go_sem]; try rfl)); (case hc => (first | trivial | decide | (simp only [inB, sliceOk, appendOk, rowsOk]; omega) | (simp [inB, sliceOk, appendOk, rowsOk]; omega))))
    | (apply ev_step; (case hr => (simp only [go_sem]; try rfl)); (case hσ => (intro g u; simp only [go_sem]; try rfl)); (case hc => (first | trivial | decide | (simp only [inB, sliceOk, appendOk, rowsOk]; omega) | (simp [inB, sliceOk, appendOk, rowsOk]; omega))); intro g u; (try clear u); (try clear g))
    | fail
  all_goals (refine resR_one T_ok rfl _ (by (simp only [go_sem, resA]; rfl)) (by first | trivial | (simp only [go_sem, resA])) (by first | trivial | (simp only [go_sem])) ?_; simp only [go_sem])
  exact LeA.refl _
theorem lexTk_len : ∀ (f a : Nat) (l : Bs), (lexTk f a l).1.length ≤ f
  | 0, _, _ => Nat.le_refl _
  | f + 1, a, l => by
    simp only [lexTk]
    split
    · exact Nat.zero_le _
    · split
      · exact Nat.zero_le _
      · have := lexTk_len f
        simp only [List.length_cons]
        exact Nat.succ_le_succ (this _ _)
theorem lexL_len (s : ByteArray) : (lexL s).length ≤ s.size + 1 := by
  unfold lexL
  split
  · rw [List.length_map, ← bs_len]; exact lexTk_len _ _ _
  · exact Nat.zero_le _
theorem f12_spec (s : ByteArray) (hs : s.size ≤ 20000) : Spec Try.prog 12 [litS s] (lxA (lexL s) (lexP s) (lexE s)) :=
  f12_of s _ _ _ (by have := lexL_len s; omega) (f28_spec s hs)
theorem f12_big (s : ByteArray) (hs : 20000 < s.size) : Spec Try.prog 12 [litS s] (lxA [] 0 2) :=
  f12_of s _ _ _ (Nat.zero_le _) (f28_big s hs)
def sameV (l m : List Tok) (a b e f : Int) : Bool := e == f && (a == b && (decide (l.length = m.length) && sameT l m))
set_option maxHeartbeats 4000000 in
theorem f19_spec (l m : List Tok) (a b e f : Int) (hb : l.length ≤ 1000000) : Spec Try.prog 19 [lxA l a e, lxA m b f] (litB (sameV l m a b e f)) := by
  have h45 := f45_spec l m hb
  unfold sameV
  generalize (decide (l.length = m.length) && sameT l m) = q at *
  cases h1 : e == f with
  | false =>
    rw [Bool.false_and]
    refine spec_of_awp (fn := Try.f19) Try.func19 (by kernel_rfl) rfl ?_
    intro w0 C0
    simp only [Try.ntmps19, litI, litB, litS, List.length_cons, List.length_nil, Nat.reduceAdd, Nat.reduceSub, List.replicate_succ, List.replicate_zero, List.cons_append, List.nil_append]
    repeat' first
      | refine awp_seq ?_
      | refine awp_block ?_
      | refine awp_skip ?_
      | (refine reg _ (by (simp only [List.map_cons, List.map_nil]; rfl)) rfl ?_; intro K hK)
      | (refine awp_cond _ (by rfl) ?_ ?_ <;> (intro hb; first | (cases hb; done) | (have ht : true = true := hb; clear ht hb) | (have ht : false = false := hb; clear ht hb) | (simp only [hb]) | skip))
      | (refine awp_exit ?_; simp only [thenA, blockA, scopeA, reduceIte, RetQ, Nat.reduceEqDiff])
      | (refine awp_ret ?_; simp only [thenA, blockA, scopeA, RetQ])
      | (refine ev_nil (hK _ ?_); clear hK K)
      | (apply ev_guardU; (case hj | hu | hσ => (simp only [go_sem, h1]; try rfl)))
      | (refine ev_guardT _ _ (by (simp only [go_sem, h1]; rfl)) (by (simp only [go_sem, h1]; rfl)) ?_ ?_ <;> (intro hb; first | (cases hb; done) | (have ht : true = true := hb; clear ht hb) | (have ht : false = false := hb; clear ht hb) | (simp only [hb]) | skip))
      | (refine ev_guardF _ _ (by (simp only [go_sem, h1]; rfl)) (by (simp only [go_sem, h1]; rfl)) ?_ ?_ <;> (intro hb; first | (cases hb; done) | (have ht : true = true := hb; clear ht hb) | (have ht : false = false := hb; clear ht hb) | (simp only [hb]) | skip))
      | (apply ev_step0; (case hr | hσ => (simp only [go_sem, h1]; try rfl)); (case hc => (first | trivial | decide | (simp only [inB, sliceOk, appendOk, rowsOk]; omega) | (simp [inB, sliceOk, appendOk, rowsOk]; omega))))
      | (apply ev_step; (case hr => (simp only [go_sem, h1]; try rfl)); (case hσ => (intro g u; simp only [go_sem, h1]; try rfl)); (case hc => (first | trivial | decide | (simp only [inB, sliceOk, appendOk, rowsOk]; omega) | (simp [inB, sliceOk, appendOk, rowsOk]; omega))); intro g u; (try clear u); (try clear g))
      | fail
    all_goals (refine resR_one T_ok rfl _ (by (simp only [go_sem, resA]; rfl)) (by first | trivial | (simp only [go_sem, resA])) (by first | trivial | (simp only [go_sem])) ?_; simp only [go_sem])
    exact LeA.refl _
  | true =>
  cases h2 : a == b with
  | false =>
    rw [Bool.true_and, Bool.false_and]
    refine spec_of_awp (fn := Try.f19) Try.func19 (by kernel_rfl) rfl ?_
    intro w0 C0
    simp only [Try.ntmps19, litI, litB, litS, List.length_cons, List.length_nil, Nat.reduceAdd, Nat.reduceSub, List.replicate_succ, List.replicate_zero, List.cons_append, List.nil_append]
    repeat' first
      | refine awp_seq ?_
      | refine awp_block ?_
      | refine awp_skip ?_
      | (refine reg _ (by (simp only [List.map_cons, List.map_nil]; rfl)) rfl ?_; intro K hK)
      | (refine awp_cond _ (by rfl) ?_ ?_ <;> (intro hb; first | (cases hb; done) | (have ht : true = true := hb; clear ht hb) | (have ht : false = false := hb; clear ht hb) | (simp only [hb]) | skip))
      | (refine awp_exit ?_; simp only [thenA, blockA, scopeA, reduceIte, RetQ, Nat.reduceEqDiff])
      | (refine awp_ret ?_; simp only [thenA, blockA, scopeA, RetQ])
      | (refine ev_nil (hK _ ?_); clear hK K)
      | (apply ev_guardU; (case hj | hu | hσ => (simp only [go_sem, h1, h2]; try rfl)))
      | (refine ev_guardT _ _ (by (simp only [go_sem, h1, h2]; rfl)) (by (simp only [go_sem, h1, h2]; rfl)) ?_ ?_ <;> (intro hb; first | (cases hb; done) | (have ht : true = true := hb; clear ht hb) | (have ht : false = false := hb; clear ht hb) | (simp only [hb]) | skip))
      | (refine ev_guardF _ _ (by (simp only [go_sem, h1, h2]; rfl)) (by (simp only [go_sem, h1, h2]; rfl)) ?_ ?_ <;> (intro hb; first | (cases hb; done) | (have ht : true = true := hb; clear ht hb) | (have ht : false = false := hb; clear ht hb) | (simp only [hb]) | skip))
      | (apply ev_step0; (case hr | hσ => (simp only [go_sem, h1, h2]; try rfl)); (case hc => (first | trivial | decide | (simp only [inB, sliceOk, appendOk, rowsOk]; omega) | (simp [inB, sliceOk, appendOk, rowsOk]; omega))))
      | (apply ev_step; (case hr => (simp only [go_sem, h1, h2]; try rfl)); (case hσ => (intro g u; simp only [go_sem, h1, h2]; try rfl)); (case hc => (first | trivial | decide | (simp only [inB, sliceOk, appendOk, rowsOk]; omega) | (simp [inB, sliceOk, appendOk, rowsOk]; omega))); intro g u; (try clear u); (try clear g))
      | fail
    all_goals (refine resR_one T_ok rfl _ (by (simp only [go_sem, resA]; rfl)) (by first | trivial | (simp only [go_sem, resA])) (by first | trivial | (simp only [go_sem])) ?_; simp only [go_sem])
    exact LeA.refl _
  | true =>
    rw [Bool.true_and, Bool.true_and]
    refine spec_of_awp (fn := Try.f19) Try.func19 (by kernel_rfl) rfl ?_
    intro w0 C0
    simp only [Try.ntmps19, litI, litB, litS, List.length_cons, List.length_nil, Nat.reduceAdd, Nat.reduceSub, List.replicate_succ, List.replicate_zero, List.cons_append, List.nil_append]
    repeat' first
      | refine awp_seq ?_
      | refine awp_block ?_
      | refine awp_skip ?_
      | (refine reg _ (by (simp only [List.map_cons, List.map_nil]; rfl)) rfl ?_; intro K hK)
      | (refine awp_cond _ (by rfl) ?_ ?_ <;> (intro hb; first | (cases hb; done) | (have ht : true = true := hb; clear ht hb) | (have ht : false = false := hb; clear ht hb) | (simp only [hb]) | skip))
      | (refine awp_exit ?_; simp only [thenA, blockA, scopeA, reduceIte, RetQ, Nat.reduceEqDiff])
      | (refine awp_ret ?_; simp only [thenA, blockA, scopeA, RetQ])
      | (refine ev_nil (hK _ ?_); clear hK K)
      | (apply ev_guardU; (case hj | hu | hσ => (simp only [go_sem, h1, h2]; try rfl)))
      | (refine ev_guardT _ _ (by (simp only [go_sem, h1, h2]; rfl)) (by (simp only [go_sem, h1, h2]; rfl)) ?_ ?_ <;> (intro hb; first | (cases hb; done) | (have ht : true = true := hb; clear ht hb) | (have ht : false = false := hb; clear ht hb) | (simp only [hb]) | skip))
      | (refine ev_guardF _ _ (by (simp only [go_sem, h1, h2]; rfl)) (by (simp only [go_sem, h1, h2]; rfl)) ?_ ?_ <;> (intro hb; first | (cases hb; done) | (have ht : true = true := hb; clear ht hb) | (have ht : false = false := hb; clear ht hb) | (simp only [hb]) | skip))
      | (apply ev_call0; (case hys => (simp only [go_sem, h1, h2]; try rfl)); (case hs => first | exact h45 ..); (case hok | hσ => (simp only [go_sem, h1, h2]; try rfl)))
      | (apply ev_step0; (case hr | hσ => (simp only [go_sem, h1, h2]; try rfl)); (case hc => (first | trivial | decide | (simp only [inB, sliceOk, appendOk, rowsOk]; omega) | (simp [inB, sliceOk, appendOk, rowsOk]; omega))))
      | (apply ev_step; (case hr => (simp only [go_sem, h1, h2]; try rfl)); (case hσ => (intro g u; simp only [go_sem, h1, h2]; try rfl)); (case hc => (first | trivial | decide | (simp only [inB, sliceOk, appendOk, rowsOk]; omega) | (simp [inB, sliceOk, appendOk, rowsOk]; omega))); intro g u; (try clear u); (try clear g))
      | fail
    all_goals (refine resR_one T_ok rfl _ (by (simp only [go_sem, resA]; rfl)) (by first | trivial | (simp only [go_sem, resA])) (by first | trivial | (simp only [go_sem])) ?_; simp only [go_sem])
    exact LeA.refl _
end
section
set_option linter.unusedVariables false
set_option linter.unusedSimpArgs false
open Go.RowKit Go.Shelf
set_option maxHeartbeats 1000000 in
set_option maxRecDepth 100000 in
theorem cc_used (b : Nat) (w : World) (h0 : w.cell? ⟨b, 0, none⟩ = some (.pointer (some ⟨b, 0, none⟩))) :
    Calls Try.prog 62 #[.pointer (some ⟨b, 0, none⟩)] w fun e w' => e = .returned (.tuple #[]) ∧ w' = w := by
  obtain ⟨j, hj, _⟩ := Option.map_eq_some_iff.1 Try.Builder_Extra_169.sizeBuilder
  go_enter Try.func62, Try.ntmps62
  go_wp2
  rw [Lib.run_neq_ptr_same w _ Try.underlying62 hj]
  go_wp2
  go_end0
  exact ⟨rfl, rfl⟩
set_option maxHeartbeats 1000000 in
set_option maxRecDepth 100000 in
theorem cc_fresh (b : Nat) (w : World) (h0 : w.cell? ⟨b, 0, none⟩ = some (.pointer none)) (hsh : w.shape? b = some (64, 2)) (hfz : w.frozen? ⟨b, 0, none⟩ = false) :
    Calls Try.prog 62 #[.pointer (some ⟨b, 0, none⟩)] w fun e w' => e = .returned (.tuple #[]) ∧ w' = w.setCell ⟨b, 0, none⟩ (.pointer (some ⟨b, 0, none⟩)) := by
  obtain ⟨j, hj, hjs⟩ := Option.map_eq_some_iff.1 Try.Builder_Extra_169.sizeBuilder
  go_enter Try.func62, Try.ntmps62
  go_wp2
  rw [Lib.run_to_unsafe w ⟨b, 0, none⟩ Try.underlying62 Try.underlying93 hj (by rw [hjs]; decide) hsh (Nat.zero_lt_succ 1)]
  simp only [Result.andThen]
  rw [Oper.upon_value]
  go_wp2
  rw [run_callFunc_extern Try.func77 (by kernel_rfl) (by kernel_rfl) (by kernel_rfl) (e := Extern.AbiNoEscape.same) (by kernel_rfl)]
  rw [Lib.run_noEscape]
  simp only [Result.andThen]
  rw [Oper.upon_value]
  go_wp2
  rw [Lib.run_from_unsafe w ⟨b, 0, none⟩ Try.underlying93 Try.underlying62 hj hsh Try.Builder_Extra_169.liesBuilder]
  simp only [Result.andThen]
  rw [Oper.upon_value]
  go_wp2
  go_end0
  exact ⟨rfl, rfl⟩
theorem cc_any (B b : Nat) (bs : List Value) (w : World) (h : Lib.IsBuilderF 64 5 B b bs w) :
    Calls Try.prog 62 #[.pointer (some ⟨b, 0, none⟩)] w fun e w' => e = .returned (.tuple #[]) ∧ (Lib.BuilderAtF 64 5 B b (.pointer (some ⟨b, 0, none⟩)) bs w' ∧ Below B w w' ∧ Lib.OthersKept 5 (some b) w w') := by
  rcases h with h | h
  · refine (cc_fresh b w h.cell0 h.shape h.frozen0).mono ?_
    rintro e w' ⟨rfl, rfl⟩
    exact ⟨rfl, h.used _, (Below.refl B w).setCell (p := ⟨b, 0, none⟩) h.1 _, (Lib.OthersKept.refl _ _ w).setCell ⟨b, 0, none⟩ rfl _⟩
  · refine (cc_used b w h.cell0).mono ?_
    rintro e w' ⟨rfl, rfl⟩
    exact ⟨rfl, h, Below.refl B _, Lib.OthersKept.refl _ _ _⟩
end
section
set_option linter.unusedVariables false
set_option linter.unusedSimpArgs false
open Go.RowKit Go.Shelf
set_option maxHeartbeats 2000000 in
set_option maxRecDepth 100000 in
theorem wr_byte (B b : Nat) (bs : List Value) (c : Int) (w : World) (h : Lib.IsBuilderF 64 5 B b bs w) (hlen : bs.length + 1 ≤ 140737488355328) (hBw : B ≤ w.heap.size) :
    Calls Try.prog 42 #[.pointer (some ⟨b, 0, none⟩), .int .u8 c] w fun e w' => e = .returned .nilIface ∧ (Lib.BuilderAtF 64 5 B b (.pointer (some ⟨b, 0, none⟩)) (bs ++ [.int .u8 c]) w' ∧ Below B w w' ∧ Lib.OthersKept 5 (some b) w w') := by
  obtain ⟨i0, hi, hz0, hz1, hz2⟩ := info_parts Try.Builder_Extra_169.infoByte
  go_enter Try.func42, Try.ntmps42
  go_wp2_with (go_at_call 62; refine (cc_any B b bs _ h).mono ?_)
  rintro e w1 ⟨rfl, h1, hb1, hk1⟩
  obtain ⟨hB, v, hbk, hown, hne⟩ := h1
  have c0 : w1.cell? ⟨b, 0, none⟩ = some (.pointer (some ⟨b, 0, none⟩)) := by rw [Lib.cell_of_heap hbk]; rfl
  have c1 : w1.cell? ⟨b, 1, none⟩ = some v := by rw [Lib.cell_of_heap hbk]; rfl
  go_wp2_with (at_builtin; refine wpList_append_ownF _ rfl _ _ 41 rfl B 5 i0 (.int .u8 0) 1 1 Try.underlying41 hi hz0 hz1 hz2 rfl (by decide) _ _ _ rfl (hown.alloc _) ⟨w1.heap.size, 0, none⟩ 1 1 [.int .u8 c] rfl rfl ?c1 ?c2 ?c3 ?c4 ?c5 ?_)
  case c1 =>
    intro j u hj
    match j, hj with
    | 0, hj => simp at hj; subst hj; simp [Addr.add]
  case c2 => intro u hu; simp at hu; subst hu; rfl
  case c3 => unfold maxLen; omega
  case c4 => omega
  case c5 => have := hb1.size; simp; omega
  intro v' w2 hown' hgrow _
  have hlt : b < w1.heap.size := by
    rcases Nat.lt_or_ge b w1.heap.size with h' | h'
    · exact h'
    · simp [Array.getElem?_eq_none h'] at hbk
  have hb2 : w2.heap[b]? = some (.cells #[.pointer (some ⟨b, 0, none⟩), v] 64 (0, 0)) := by
    rw [hgrow.block b (by simp; omega) (fun e => hne e.symm), Lib.alloc_old w1 _ b hlt]
    exact hbk
  have d0 : w2.cell? ⟨b, 0, none⟩ = some (.pointer (some ⟨b, 0, none⟩)) := by rw [Lib.cell_of_heap hb2]; rfl
  have d1 : w2.cell? ⟨b, 1, none⟩ = some v := by rw [Lib.cell_of_heap hb2]; rfl
  have f1 : w2.frozen? ⟨b, 1, none⟩ = false := Lib.frozen_of_heap hb2 1
  obtain ⟨g, cap, rfl⟩ : ∃ g cap, v' = .slice (some ⟨g, 0, none⟩) (bs.length + 1) cap := by
    rcases hown'.2 with ⟨_, h0⟩ | ⟨g, cap, cur, fz, hv, _⟩
    · omega
    · exact ⟨g, cap, hv⟩
  go_wp2
  go_ret
  refine ⟨rfl, ?_, ?_, ((hk1.alloc _).grown hgrow (Lib.ownsRowF_kind (hown.alloc _))).setCell ⟨b, 1, none⟩ rfl _⟩
  · exact Lib.BuilderAtF.put (T := 64) (e := 5) hB hb2 (bs' := bs ++ [.int .u8 c]) (by simpa using hown') (by decide)
  · exact ((hb1.alloc (by have := hb1.size; omega) _).grown hgrow (by have := hb1.size; simp; omega) (fun k hk => (hown.lt k hk).1)).setCell (p := ⟨b, 1, none⟩) hB _
set_option maxHeartbeats 4000000 in
set_option maxRecDepth 100000 in
theorem wr_rune (B b : Nat) (bs : List Value) (r : Int) (hr0 : -2147483648 ≤ r) (hr1 : r ≤ 2147483647) (w : World) (h : Lib.IsBuilderF 64 5 B b bs w) (hlen : bs.length + 4 ≤ 140737488355328) (hBw : B ≤ w.heap.size) :
    Calls Try.prog 43 #[.pointer (some ⟨b, 0, none⟩), .int .i32 r] w fun e w' => e = .returned (.tuple #[.int .i64 (Lib.runeCells r).length, .nilIface]) ∧ (Lib.BuilderAtF 64 5 B b (.pointer (some ⟨b, 0, none⟩)) (bs ++ Lib.runeCells r) w' ∧ Below B w w' ∧ Lib.OthersKept 5 (some b) w w') := by
  have hk4 := Lib.runeCells_le r
  go_enter Try.func43, Try.ntmps43
  go_wp2_with (go_at_call 62; refine (cc_any B b bs _ h).mono ?_)
  rintro e w1 ⟨rfl, h1, hb1, hk1⟩
  obtain ⟨hB, v, hbk, hown, hne⟩ := h1
  obtain ⟨ao, cap, rfl⟩ : ∃ ao cap, v = .slice ao bs.length cap := by
    rcases hown.2 with ⟨hv, h0⟩ | ⟨g, cap, cur, fz, hv, _⟩
    · exact ⟨none, 0, by rw [hv, h0]⟩
    · exact ⟨_, _, hv⟩
  have c0 : w1.cell? ⟨b, 0, none⟩ = some (.pointer (some ⟨b, 0, none⟩)) := by rw [Lib.cell_of_heap hbk]; rfl
  have c1 : w1.cell? ⟨b, 1, none⟩ = some (.slice ao bs.length cap) := by rw [Lib.cell_of_heap hbk]; rfl
  go_wp2_with (go_at_call 63; refine (Try.utf8_AppendRune_row B _ bs.length bs r hr0 hr1 _ hown hlen (by have := hb1.size; omega)).mono ?_)
  rintro e w2 ⟨v', rfl, hown', o, hgrow⟩
  have hlt : b < w1.heap.size := by
    rcases Nat.lt_or_ge b w1.heap.size with h' | h'
    · exact h'
    · simp [Array.getElem?_eq_none h'] at hbk
  have hb2 : w2.heap[b]? = some (.cells #[.pointer (some ⟨b, 0, none⟩), .slice ao bs.length cap] 64 (0, 0)) := by
    rw [hgrow.block b (by simp; omega) (fun e => hne e.symm), Lib.alloc_old w1 _ b hlt]
    exact hbk
  have d0 : w2.cell? ⟨b, 0, none⟩ = some (.pointer (some ⟨b, 0, none⟩)) := by rw [Lib.cell_of_heap hb2]; rfl
  have d1 : w2.cell? ⟨b, 1, none⟩ = some (.slice ao bs.length cap) := by rw [Lib.cell_of_heap hb2]; rfl
  have f1 : w2.frozen? ⟨b, 1, none⟩ = false := Lib.frozen_of_heap hb2 1
  obtain ⟨g, cap', rfl⟩ : ∃ g cap', v' = .slice (some ⟨g, 0, none⟩) (bs.length + (Lib.runeCells r).length) cap' := by
    rcases hown'.2 with ⟨_, h0⟩ | ⟨g, cap', cur, fz, hv, _⟩
    · omega
    · exact ⟨g, cap', hv⟩
  go_wp2
  go_ret2
  refine ⟨?_, ?_, ?_, ((hk1.alloc _).grown hgrow (Lib.ownsRowF_kind (hown.alloc _))).setCell ⟨b, 1, none⟩ rfl _⟩
  · have e : ((bs.length : Int) + ((Lib.runeCells r).length : Int) - (bs.length : Int)) = ((Lib.runeCells r).length : Int) := by omega
    simp [e]
  · exact Lib.BuilderAtF.put (T := 64) (e := 5) hB hb2 (bs' := bs ++ Lib.runeCells r) (by simpa using hown') (by decide)
  · exact ((hb1.alloc (by have := hb1.size; omega) _).grown hgrow (by have := hb1.size; simp; omega) (fun k hk => (hown.lt k hk).1)).setCell (p := ⟨b, 1, none⟩) hB _
end
section
set_option linter.unusedVariables false
set_option linter.unusedSimpArgs false
open Go.RowKit
theorem printB_range {x : UInt8} (h : printB x = true) : 32 ≤ x.toNat ∧ x.toNat ≤ 126 := by
  simp only [printB, Bool.and_eq_true, decide_eq_true_eq, UInt8.le_iff_toNat_le] at h
  exact h
theorem escB_snoc (x : UInt8) : ∀ l : Bs, escB (l ++ [x]) = escB l ++ escB [x]
  | [] => by simp [escB]
  | b :: l => by
    rw [List.cons_append]
    simp only [escB, escB_snoc x l]
    split <;> simp
theorem escB_len : ∀ l : Bs, (escB l).length ≤ 2 * l.length
  | [] => Nat.le_refl _
  | b :: l => by
    have := escB_len l
    simp only [escB, List.length_cons]
    split <;> simp <;> omega
theorem runeCells_one {x : UInt8} (h : x.toNat ≤ 126) : Lib.runeCells (x.toNat : Int) = Lib.byteCells [x] := by
  unfold Lib.runeCells
  rw [Lib.encodeRuneZ_one (by omega) (by omega)]
  rfl
set_option maxHeartbeats 8000000 in
set_option maxRecDepth 1000000 in
theorem spell_text (s : ByteArray) (a : Int) (hv : validB 3 (bs s) = true) (w : World) (hW : w.ShapedOpen Try.prog) :
    Calls Try.prog 17 #[.agg #[.int .i64 3, .string s, .int .i64 a]] w fun e w' => e = .returned (.string ⟨(34 :: (escB (bs s) ++ [34])).toArray⟩) ∧ Below w.heap.size w w' := by
  have hl := bs_len s
  rw [valid3_eq] at hv
  simp only [Bool.and_eq_true, decide_eq_true_eq] at hv
  obtain ⟨hsz, hpr⟩ := hv
  have hpr' : ∀ i, i < s.size → 32 ≤ ((bs s).getD i 0).toNat ∧ ((bs s).getD i 0).toNat ≤ 126 := fun i hi => printB_range ((all_get.1 hpr) i (by omega))
  have h14 : ∀ w1 : World, w1.ShapedOpen Try.prog → Calls Try.prog 14 #[.agg #[.int .i64 3, .string s, .int .i64 a]] w1 fun e w' => e = .returned (.bool true) ∧ Below w1.heap.size w1 w' := fun w1 h1 => by
    have hs := f14_spec 3 s a (by omega)
    have he : validZ 3 (bs s) = true := by
      show validB 3 (bs s) = true
      rw [valid3_eq, hpr, decide_eq_true hsz]; rfl
    rw [he] at hs
    exact Spec.call h1 hs (vs := [.agg #[.int .i64 3, .string s, .int .i64 a]]) (by
      simp only [HasL, Has, litI, litS, Rep, and_true]
      exact ⟨[.int .i64 3, .string s, .int .i64 a], rfl, by simp only [HasL, Has, Rep]; exact ⟨⟨rfl, rfl⟩, ⟨rfl, rfl⟩, ⟨rfl, rfl⟩, trivial⟩⟩)
  go_enter Try.func17, Try.ntmps17
  go_wp2_with (go_at_call 14; refine (h14 _ (shaped_below hW ((Below.refl _ w).alloc (Nat.le_refl _) _))).mono ?_)
  rintro e w1 ⟨rfl, hb1⟩
  have hs1 : w.heap.size + 1 ≤ w1.heap.size := by have := hb1.size; simpa using this
  have hB : Below w.heap.size w w1 := ((Below.refl _ w).alloc (Nat.le_refl _) _).trans (hb1.mono (by simp))
  have hk1 : w1.heap[w.heap.size]? = some (.cells #[.int .i64 3, .string s, .int .i64 a] 35 (0, 0)) := by
    rw [hb1.block _ (by simp)]
    exact heap_alloc_new w _
  have c0 : w1.cell? ⟨w.heap.size, 0, none⟩ = some (.int .i64 3) := by rw [Lib.cell_of_heap hk1]; rfl
  have c1 : w1.cell? ⟨w.heap.size, 1, none⟩ = some (.string s) := by rw [Lib.cell_of_heap hk1]; rfl
  have hI0 : Lib.IsBuilderF 64 5 w1.heap.size w1.heap.size [] (w1.alloc (.cells #[.pointer none, .slice none 0 0] 64)) := Lib.IsBuilderF.of (Lib.fresh_isBuilder 64 5 w1)
  go_wp2_with (go_at_call 42; refine (wr_byte w1.heap.size w1.heap.size [] 34 _ hI0 (by simp) (by simp)).mono ?_)
  rintro e w2 ⟨rfl, h2, hb2, hk2⟩
  have hB2 : Below w1.heap.size w1 w2 := ((Below.refl _ w1).alloc (Nat.le_refl _) _).trans hb2
  have hs2 : w1.heap.size + 1 ≤ w2.heap.size := by have := hb2.size; simpa using this
  have hkk : w2.heap[w.heap.size]? = some (.cells #[.int .i64 3, .string s, .int .i64 a] 35 (0, 0)) := by
    rw [hB2.block _ (by omega)]
    exact hk1
  have c2 : w2.cell? ⟨w.heap.size, 1, none⟩ = some (.string s) := by rw [Lib.cell_of_heap hkk]; rfl
  go_wp2
  go_loopw [] (fun wr => ∃ (pos : Nat), pos ≤ s.size ∧ Lib.IsBuilderF 64 5 w1.heap.size w1.heap.size (Lib.byteCells (34 :: escB ((bs s).take pos))) wr ∧ wr.heap[w2.heap.size]? = some (.stringIter s pos) ∧ Below w1.heap.size w1 wr) (fun wr => s.size - wr.iterPos w2.heap.size)
  case atStart =>
    refine ⟨0, Nat.zero_le _, ?_, ?_, hB2.alloc (by omega) _⟩
    · exact (show Lib.IsBuilderF 64 5 w1.heap.size w1.heap.size (Lib.byteCells (34 :: escB ((bs s).take 0))) w2 from Or.inr h2).alloc _
    · have := World.iter_heap w2 s 0
      simpa using this
  case round =>
    obtain ⟨pos, hps, hI, hit, hbw⟩ := hrel
    have hsz : w2.heap.size < wr.heap.size := (Array.getElem?_eq_some_iff.1 hit).1
    have hlen4 : (Lib.byteCells (34 :: escB ((bs s).take pos))).length ≤ 1000 := by
      have h1 := escB_len ((bs s).take pos)
      rw [Lib.byteCells_length, List.length_cons]
      rw [List.length_take] at h1
      omega
    by_cases hp : pos < s.size
    · have hx : (bs s).getD pos 0 = s[pos]'hp := by
        rw [List.getD_eq_getElem?_getD, Array.getElem?_toList, Array.getElem?_eq_getElem hp]; rfl
      have hrg := hpr' pos hp
      rw [hx] at hrg
      have hnx : ∀ ty, (Instr.next (.pointer (some ⟨w2.heap.size, 0, none⟩)) true ty).run Try.prog wr = _ := fun ty => Lib.run_next_ascii_at wr w2.heap.size s pos ty hit hp (by omega)
      have hI2 := hI.iterAt hit (pos + 1)
      have hit2 := Lib.iterAt_heap wr w2.heap.size s pos (pos + 1) hit
      have hbw2 := Lib.below_iterAt hbw (k := w2.heap.size) (by omega) s (pos + 1)
      have hsz2 : w1.heap.size ≤ (wr.iterAt w2.heap.size s (pos + 1)).heap.size := by rw [Lib.iterAt_size]; omega
      have htk : (bs s).take (pos + 1) = (bs s).take pos ++ [s[pos]'hp] := by
        rw [List.take_succ_eq_append_getElem (by omega), ← hx]
        simp [List.getD_eq_getElem?_getD, hl, hp]
      generalize s[pos]'hp = x at *
      by_cases hq : x = 34 ∨ x = 92
      · have hes : escB ((bs s).take (pos + 1)) = escB ((bs s).take pos) ++ [92, x] := by
          rw [htk, escB_snoc]
          simp only [escB, if_pos hq, List.append_nil]
        have hrel : ∀ W, Lib.IsBuilderF 64 5 w1.heap.size w1.heap.size (Lib.byteCells (34 :: escB ((bs s).take pos)) ++ [.int .u8 92] ++ Lib.runeCells (x.toNat : Int)) W → Lib.IsBuilderF 64 5 w1.heap.size w1.heap.size (Lib.byteCells (34 :: escB ((bs s).take (pos + 1)))) W := fun W h => by
          have h4 : Lib.byteCells (34 :: escB ((bs s).take pos)) ++ [.int .u8 92] ++ Lib.runeCells (x.toNat : Int) = Lib.byteCells (34 :: escB ((bs s).take (pos + 1))) := by
            rw [runeCells_one hrg.2, hes]
            simp [Lib.byteCells]
          rw [h4] at h
          exact h
        have h3492 : (x.toNat : Int) = 34 ∨ (x.toNat : Int) = 92 := by
          rcases hq with rfl | rfl
          · exact .inl rfl
          · exact .inr rfl
        rcases h3492 with h34 | h34
        all_goals
          go_wp2_with (go_at_call 42; refine (wr_byte w1.heap.size w1.heap.size _ 92 _ hI2 (by omega) hsz2).mono ?_)
          rintro e W1 ⟨rfl, g1, b1, k1⟩
          have it1 := k1.iter hit2 (by omega)
          have sz1 := b1.size
          go_wp2_with (go_at_call 43; refine (wr_rune w1.heap.size w1.heap.size _ _ (by omega) (by omega) _ (Or.inr g1) (by simp; omega) (by omega)).mono ?_)
          rintro e W2 ⟨rfl, g2, b2, k2⟩
          go_wp2
          go_roundw
          case rel => exact ⟨pos + 1, by omega, hrel W2 (Or.inr (by rw [h34]; exact g2)), k2.iter it1 (by omega), (hbw2.trans b1).trans b2⟩
          case measure =>
            simp only [World.iterPos, k2.iter it1 (by omega), hit]
            omega
      · have hes : escB ((bs s).take (pos + 1)) = escB ((bs s).take pos) ++ [x] := by
          rw [htk, escB_snoc]
          simp only [escB, if_neg hq, List.append_nil]
        have h34 : ¬ (x.toNat : Int) = 34 := fun h => hq (.inl (UInt8.toNat_inj.1 (by show x.toNat = 34; omega)))
        have h92 : ¬ (x.toNat : Int) = 92 := fun h => hq (.inr (UInt8.toNat_inj.1 (by show x.toNat = 92; omega)))
        have h34b : ((x.toNat : Int) == 34) = false := by rw [beq_eq_false_iff_ne]; exact h34
        have h92b : ((x.toNat : Int) == 92) = false := by rw [beq_eq_false_iff_ne]; exact h92
        go_wp2_with (go_at_call 43; refine (wr_rune w1.heap.size w1.heap.size _ _ (by omega) (by omega) _ hI2 (by omega) hsz2).mono ?_)
        rintro e W2 ⟨rfl, g2, b2, k2⟩
        go_wp2
        go_roundw
        case rel =>
          refine ⟨pos + 1, by omega, ?_, k2.iter hit2 (by omega), hbw2.trans b2⟩
          have h4 : Lib.byteCells (34 :: escB ((bs s).take pos)) ++ Lib.runeCells (x.toNat : Int) = Lib.byteCells (34 :: escB ((bs s).take (pos + 1))) := by
            rw [runeCells_one hrg.2, hes]
            simp [Lib.byteCells]
          rw [h4] at g2
          exact Or.inr g2
        case measure =>
          simp only [World.iterPos, k2.iter hit2 (by omega), hit]
          omega
    · have hpe : pos = s.size := by omega
      subst hpe
      have hnx : ∀ ty, (Instr.next (.pointer (some ⟨w2.heap.size, 0, none⟩)) true ty).run Try.prog wr = _ := fun ty => Lib.run_next_end_at wr w2.heap.size s s.size ty hit hp
      rw [List.take_of_length_le (by omega)] at hI hlen4
      go_wp2_with (go_at_call 42; refine (wr_byte w1.heap.size w1.heap.size _ 34 _ hI (by omega) (by omega)).mono ?_)
      rintro e w3 ⟨rfl, h3, b3, _⟩
      have hI3 : Lib.IsBuilderF 64 5 w1.heap.size w1.heap.size (Lib.byteCells (34 :: (escB (bs s) ++ [34]))) w3 := by
        have h4 : Lib.byteCells (34 :: escB (bs s)) ++ [.int .u8 34] = Lib.byteCells (34 :: (escB (bs s) ++ [34])) := by
          simp [Lib.byteCells]
        rw [h4] at h3
        exact Or.inr h3
      go_wp2_with (go_at_call 44; refine (Try.Builder_String_any_k w1.heap.size w1.heap.size _ _ hI3 (by have := b3.size; omega)).mono ?_)
      rintro e w4 ⟨rfl, _, b4, _⟩
      go_wp2
      go_ret
      exact ⟨rfl, hB.trans ((hbw.trans (b3.trans b4)).mono (by omega))⟩
end
section
set_option linter.unusedVariables false
set_option linter.unusedSimpArgs false
open Go.RowKit
attribute [local irreducible] AWp evOps evD
/-- A token's spelling. -/
def spellZ (k : Int) (c : Bs) : Bs := if validZ k c = true then spellB k.toNat c else []
theorem f17_text (s : ByteArray) (a : Int) (hv : validB 3 (bs s) = true) : Spec Try.prog 17 [.agg (tokA 3 s a)] (litS ⟨(spellB 3 (bs s)).toArray⟩) := by
  refine ⟨⟨_, Try.func17, by decide, by decide⟩, fun w hW C hC vs hvs => ?_⟩
  have e : vs = [.agg #[.int .i64 3, .string s, .int .i64 a]] := by
    match vs, hvs with
    | [v], h =>
      simp only [HasL, Has, litI, litS] at h
      obtain ⟨⟨us, rfl, h⟩, _⟩ := h
      match us, h with
      | [x, y, z], h =>
        simp only [HasL, Has, Rep] at h
        rw [h.1.1, h.2.1.1, h.2.2.1.1]
  subst e
  refine (spell_text s a hv w hW).mono ?_
  rintro e w' ⟨rfl, hb⟩
  exact ⟨_, rfl, hb, by simp only [Has, Rep, litS]; exact ⟨rfl, rfl⟩⟩
set_option maxHeartbeats 4000000 in
theorem f17_spec (k : Int) (s : ByteArray) (a : Int) (hs : s.size ≤ 1000000) : Spec Try.prog 17 [.agg (tokA k s a)] (litS ⟨(spellZ k (bs s)).toArray⟩) := by
  have h14 := f14_spec k s a hs
  cases hv : validZ k (bs s) with
  | false =>
    rw [hv] at h14
    have e : spellZ k (bs s) = [] := by rw [spellZ, hv]; rfl
    rw [e]
    refine spec_of_awp (fn := Try.f17) Try.func17 (by kernel_rfl) rfl ?_
    intro w0 C0
    simp only [Try.ntmps17, litI, litB, litS, List.length_cons, List.length_nil, Nat.reduceAdd, Nat.reduceSub, List.replicate_succ, List.replicate_zero, List.cons_append, List.nil_append]
    repeat' first
      | refine awp_seq ?_
      | refine awp_block ?_
      | refine awp_skip ?_
      | (refine reg _ (by (simp only [List.map_cons, List.map_nil]; rfl)) rfl ?_; intro K hK)
      | (refine awp_cond _ (by rfl) ?_ ?_ <;> (intro hb; first | (cases hb; done) | (have ht : true = true := hb; clear ht hb) | (have ht : false = false := hb; clear ht hb) | (simp only [hb]) | skip))
      | (refine awp_exit ?_; simp only [thenA, blockA, scopeA, reduceIte, RetQ, Nat.reduceEqDiff])
      | (refine awp_ret ?_; simp only [thenA, blockA, scopeA, RetQ])
      | (refine ev_nil (hK _ ?_); clear hK K)
      | (apply ev_guardU; (case hj | hu | hσ => (simp only [go_sem]; try rfl)))
      | (refine ev_guardT _ _ (by (simp only [go_sem]; rfl)) (by (simp only [go_sem]; rfl)) ?_ ?_ <;> (intro hb; first | (cases hb; done) | (have ht : true = true := hb; clear ht hb) | (have ht : false = false := hb; clear ht hb) | (simp only [hb]) | skip))
      | (refine ev_guardF _ _ (by (simp only [go_sem]; rfl)) (by (simp only [go_sem]; rfl)) ?_ ?_ <;> (intro hb; first | (cases hb; done) | (have ht : true = true := hb; clear ht hb) | (have ht : false = false := hb; clear ht hb) | (simp only [hb]) | skip))
      | (apply ev_call0; (case hys => (simp only [go_sem]; try rfl)); (case hs => first | exact h14 ..); (case hok | hσ => (simp only [go_sem]; try rfl)))
      | (apply ev_step0; (case hr | hσ => (simp only [go_sem]; try rfl)); (case hc => (first | trivial | decide | (simp only [inB, sliceOk, appendOk, rowsOk]; omega) | (simp [inB, sliceOk, appendOk, rowsOk]; omega))))
      | (apply ev_step; (case hr => (simp only [go_sem]; try rfl)); (case hσ => (intro g u; simp only [go_sem]; try rfl)); (case hc => (first | trivial | decide | (simp only [inB, sliceOk, appendOk, rowsOk]; omega) | (simp [inB, sliceOk, appendOk, rowsOk]; omega))); intro g u; (try clear u); (try clear g))
      | fail
    all_goals (refine resR_one T_ok rfl _ (by (simp only [go_sem, resA]; rfl)) (by first | trivial | (simp only [go_sem, resA])) (by first | trivial | (simp only [go_sem])) ?_; simp only [go_sem])
    exact LeA.refl _
  | true =>
    by_cases h3 : k = 3
    · subst h3
      have e : spellZ 3 (bs s) = spellB 3 (bs s) := by rw [spellZ, hv]; rfl
      rw [e]
      exact f17_text s a hv
    · rw [hv] at h14
      have d3 : (k != 3) = true := by simpa using h3
      have e : (⟨(spellZ k (bs s)).toArray⟩ : ByteArray) = s := by
        have hk : k.toNat ≠ 3 := by omega
        rw [spellZ, hv, if_pos rfl, spellB, if_neg hk]
      rw [e]
      refine spec_of_awp (fn := Try.f17) Try.func17 (by kernel_rfl) rfl ?_
      intro w0 C0
      simp only [Try.ntmps17, litI, litB, litS, List.length_cons, List.length_nil, Nat.reduceAdd, Nat.reduceSub, List.replicate_succ, List.replicate_zero, List.cons_append, List.nil_append]
      repeat' first
        | refine awp_seq ?_
        | refine awp_block ?_
        | refine awp_skip ?_
        | (refine reg _ (by (simp only [List.map_cons, List.map_nil]; rfl)) rfl ?_; intro K hK)
        | (refine awp_cond _ (by rfl) ?_ ?_ <;> (intro hb; first | (cases hb; done) | (have ht : true = true := hb; clear ht hb) | (have ht : false = false := hb; clear ht hb) | (simp only [hb]) | skip))
        | (refine awp_exit ?_; simp only [thenA, blockA, scopeA, reduceIte, RetQ, Nat.reduceEqDiff])
        | (refine awp_ret ?_; simp only [thenA, blockA, scopeA, RetQ])
        | (refine ev_nil (hK _ ?_); clear hK K)
        | (apply ev_guardU; (case hj | hu | hσ => (simp only [go_sem, d3]; try rfl)))
        | (refine ev_guardT _ _ (by (simp only [go_sem, d3]; rfl)) (by (simp only [go_sem, d3]; rfl)) ?_ ?_ <;> (intro hb; first | (cases hb; done) | (have ht : true = true := hb; clear ht hb) | (have ht : false = false := hb; clear ht hb) | (simp only [hb]) | skip))
        | (refine ev_guardF _ _ (by (simp only [go_sem, d3]; rfl)) (by (simp only [go_sem, d3]; rfl)) ?_ ?_ <;> (intro hb; first | (cases hb; done) | (have ht : true = true := hb; clear ht hb) | (have ht : false = false := hb; clear ht hb) | (simp only [hb]) | skip))
        | (apply ev_call0; (case hys => (simp only [go_sem, d3]; try rfl)); (case hs => first | exact h14 ..); (case hok | hσ => (simp only [go_sem, d3]; try rfl)))
        | (apply ev_step0; (case hr | hσ => (simp only [go_sem, d3]; try rfl)); (case hc => (first | trivial | decide | (simp only [inB, sliceOk, appendOk, rowsOk]; omega) | (simp [inB, sliceOk, appendOk, rowsOk]; omega))))
        | (apply ev_step; (case hr => (simp only [go_sem, d3]; try rfl)); (case hσ => (intro g u; simp only [go_sem, d3]; try rfl)); (case hc => (first | trivial | decide | (simp only [inB, sliceOk, appendOk, rowsOk]; omega) | (simp [inB, sliceOk, appendOk, rowsOk]; omega))); intro g u; (try clear u); (try clear g))
        | fail
      all_goals (refine resR_one T_ok rfl _ (by (simp only [go_sem, resA]; rfl)) (by first | trivial | (simp only [go_sem, resA])) (by first | trivial | (simp only [go_sem])) ?_; simp only [go_sem])
      exact LeA.refl _
theorem f11_nil (s : ByteArray) (hs : s.size ≤ 9223372036854775807) : Spec Try.prog 11 [litS s, .d (.lit (.slice none 0 0))] (litB (decide ((s.size : Int) ≤ 2000))) := by
  refine spec_of_awp (fn := Try.f11) Try.func11 (by kernel_rfl) rfl ?_
  intro w0 C0
  simp only [Try.ntmps11, litI, litB, litS, List.length_cons, List.length_nil, Nat.reduceAdd, Nat.reduceSub, List.replicate_succ, List.replicate_zero, List.cons_append, List.nil_append]
  repeat' first
    | refine awp_seq ?_
    | refine awp_block ?_
    | refine awp_skip ?_
    | (refine reg _ (by (simp only [List.map_cons, List.map_nil]; rfl)) rfl ?_; intro K hK)
    | (refine awp_cond _ (by rfl) ?_ ?_ <;> (intro hb; first | (cases hb; done) | (have ht : true = true := hb; clear ht hb) | (have ht : false = false := hb; clear ht hb) | (simp only [hb]) | skip))
    | (refine awp_exit ?_; simp only [thenA, blockA, scopeA, reduceIte, RetQ, Nat.reduceEqDiff])
    | (refine awp_ret ?_; simp only [thenA, blockA, scopeA, RetQ])
    | (refine ev_nil (hK _ ?_); clear hK K)
    | (apply ev_guardU; (case hj | hu | hσ => (simp only [go_sem]; try rfl)))
    | (refine ev_guardT _ _ (by (simp only [go_sem]; rfl)) (by (simp only [go_sem]; rfl)) ?_ ?_ <;> (intro hb; first | (cases hb; done) | (have ht : true = true := hb; clear ht hb) | (have ht : false = false := hb; clear ht hb) | (simp only [hb]) | skip))
    | (refine ev_guardF _ _ (by (simp only [go_sem]; rfl)) (by (simp only [go_sem]; rfl)) ?_ ?_ <;> (intro hb; first | (cases hb; done) | (have ht : true = true := hb; clear ht hb) | (have ht : false = false := hb; clear ht hb) | (simp only [hb]) | skip))
    | (apply ev_step0; (case hr | hσ => (simp only [go_sem]; try rfl)); (case hc => (first | trivial | decide | (simp only [inB, sliceOk, appendOk, rowsOk]; omega) | (simp [inB, sliceOk, appendOk, rowsOk]; omega))))
    | (apply ev_step; (case hr => (simp only [go_sem]; try rfl)); (case hσ => (intro g u; simp only [go_sem]; try rfl)); (case hc => (first | trivial | decide | (simp only [inB, sliceOk, appendOk, rowsOk]; omega) | (simp [inB, sliceOk, appendOk, rowsOk]; omega))); intro g u; (try clear u); (try clear g))
    | fail
  refine awp_loopI (fun i => i = 0) (fun i => 0) (fun i => ⟨[litS s, .d (.lit (.slice none 0 0)), .any, .any, .any, litI .i64 s.size, litI .i64 0, .any, .any, .any, .any, .any, .any, .any, .any, .any, .any, .any, .any, .any, .any, .any, .any, .any, .any, .any, .any, .any, .any, .any], [.no, .no, .no, .no, .no, .no, .no, .no, .no, .no, .no, .no, .no, .no, .no, .no, .no, .no, .no, .no, .no, .no, .no, .no, .no, .no, .no, .no, .no, .no]⟩) 0 rfl ?_ ?_
  · refine Wk.mk ?_ ?_
    all_goals (repeat' first | exact trivial | exact LeA.refl _ | exact LeA.any _ | exact LeO.refl _ | exact LeO.no _ | exact LeA.nil _ | exact LeA.nilOwn _ | exact LeO.nil _ _ _ | refine LeO.box ?_ | (refine LeA.i ?_; (first | rfl | (push_cast; rfl) | (rw [wrap_id (by omega)]; push_cast; omega) | (simp [wrap_id]; omega))) | refine ⟨?_, ?_⟩)
  rintro i rfl
  have d1 : decide ((0 : Int) < 0) = false := rfl
  simp only [litI, litB, litS]
  repeat' first
    | refine awp_seq ?_
    | refine awp_block ?_
    | refine awp_skip ?_
    | (refine reg _ (by (simp only [List.map_cons, List.map_nil]; rfl)) rfl ?_; intro K hK)
    | (refine awp_cond _ (by rfl) ?_ ?_ <;> (intro hb; first | (cases hb; done) | (have ht : true = true := hb; clear ht hb) | (have ht : false = false := hb; clear ht hb) | (simp only [hb]) | skip))
    | (refine awp_exit ?_; simp only [thenA, blockA, scopeA, reduceIte, RetQ, Nat.reduceEqDiff])
    | (refine awp_ret ?_; simp only [thenA, blockA, scopeA, RetQ])
    | (refine ev_nil (hK _ ?_); clear hK K)
    | (apply ev_guardU; (case hj | hu | hσ => (simp only [go_sem, d1]; try rfl)))
    | (refine ev_guardT _ _ (by (simp only [go_sem, d1]; rfl)) (by (simp only [go_sem, d1]; rfl)) ?_ ?_ <;> (intro hb; first | (cases hb; done) | (have ht : true = true := hb; clear ht hb) | (have ht : false = false := hb; clear ht hb) | (simp only [hb]) | skip))
    | (refine ev_guardF _ _ (by (simp only [go_sem, d1]; rfl)) (by (simp only [go_sem, d1]; rfl)) ?_ ?_ <;> (intro hb; first | (cases hb; done) | (have ht : true = true := hb; clear ht hb) | (have ht : false = false := hb; clear ht hb) | (simp only [hb]) | skip))
    | (apply ev_step0; (case hr | hσ => (simp only [go_sem, d1]; try rfl)); (case hc => (first | trivial | decide | (simp only [inB, sliceOk, appendOk, rowsOk]; omega) | (simp [inB, sliceOk, appendOk, rowsOk]; omega))))
    | (apply ev_step; (case hr => (simp only [go_sem, d1]; try rfl)); (case hσ => (intro g u; simp only [go_sem, d1]; try rfl)); (case hc => (first | trivial | decide | (simp only [inB, sliceOk, appendOk, rowsOk]; omega) | (simp [inB, sliceOk, appendOk, rowsOk]; omega))); intro g u; (try clear u); (try clear g))
    | fail
  all_goals (refine resR_one T_ok rfl _ (by (simp only [go_sem, resA]; rfl)) (by first | trivial | (simp only [go_sem, resA])) (by first | trivial | (simp only [go_sem])) ?_; simp only [go_sem])
  exact LeA.refl _
end
section
set_option linter.unusedVariables false
set_option linter.unusedSimpArgs false
open Go.RowKit
attribute [local irreducible] AWp evOps evD
abbrev strD (x : ByteArray) : List Dat := [.lit (.string x)]
theorem f66_spec (xs : List ByteArray) (sep : ByteArray) (hN : xs.length ≤ 140737488355328) (hlen : (Lib.join (xs.map (·.data.toList)) sep.data.toList).length ≤ 140737488355328) : Spec Try.prog 66 [.d (.sl 1 (xs.map strD)), litS sep] (litS ⟨(Lib.join (xs.map (·.data.toList)) sep.data.toList).toArray⟩) := by
  refine ⟨⟨_, Try.func66, by decide, by decide⟩, fun w hW C hC vs hvs => ?_⟩
  match vs, hvs with
  | [v, u], h =>
    simp only [HasL, Has, litS] at h
    obtain ⟨h1, h2, _⟩ := h
    obtain rfl := h2.1
    simp only [Rep, List.length_map] at h1
    obtain ⟨A, c, rfl, hc, hm, hr⟩ := h1
    have none' : xs = [] → Calls Try.prog 66 #[.slice A xs.length c, .string sep] w fun e w' => ∃ v, e = .returned v ∧ Below w.heap.size w w' ∧ Has ⟨w'.heap, fun b => C b ∨ (w.heap.size ≤ b ∧ b < w'.heap.size)⟩ (litS ⟨(Lib.join (xs.map (·.data.toList)) sep.data.toList).toArray⟩) v := by
      rintro rfl
      refine (Try.strings_Join_none A c sep w).mono ?_
      rintro e w' ⟨rfl, rfl⟩
      exact ⟨_, rfl, Below.refl _ _, has_lit_mk _ rfl⟩
    rcases hr with hr | ⟨b, o, rfl, hr⟩
    · exact none' (by simpa using hr)
    · by_cases h0 : xs = []
      · exact none' h0
      · have hcell : ∀ (j : Nat) x, xs[j]? = some x → C b ∧ w.cell? ⟨b, o + j, none⟩ = some (.string x) := fun j x hj => by
          obtain ⟨_, h3⟩ := hr.get j (strD x) (by rw [List.getElem?_map, hj]; rfl)
          simp only [RepCells, Rep, Nat.mul_one] at h3
          obtain ⟨⟨h4, v, h5, rfl, _⟩, _⟩ := h3
          exact ⟨h4, by rw [cellH_cell]; exact h5⟩
        obtain ⟨x, l, rfl⟩ := List.exists_cons_of_ne_nil h0
        have hb := hC b (hcell 0 x rfl).1
        refine (Try.strings_Join b o c (x :: l) sep w (fun j y hj => (hcell j y hj).2) hb hN hc hlen).mono ?_
        rintro e w' ⟨rfl, hb'⟩
        exact ⟨_, rfl, hb', has_lit_mk _ rfl⟩
/-- A token as the program takes it: valid; its spelling. -/
def vT (t : Tok) : Bool := validZ t.k (bs t.s)
def spT (t : Tok) : ByteArray := ⟨(spellZ t.k (bs t.s)).toArray⟩
/-- Joined tokens. -/
def joinL (l : List Tok) : Bs := Lib.join (((l.filter vT).map spT).map (·.data.toList)) [32]
def joinS (l : List Tok) : ByteArray := ⟨(joinL l).toArray⟩
theorem join_len (sep : Bs) (n : Nat) : ∀ l : List Bs, (∀ x ∈ l, x.length + sep.length ≤ n) → (Lib.join l sep).length ≤ n * l.length
  | [], _ => by simp [Lib.join]
  | [x], h => by
    have := h x (by simp)
    rw [Lib.join_one]; simp; omega
  | x :: y :: l, h => by
    have ih := join_len sep n (y :: l) (fun z hz => h z (by simp [hz]))
    have hx := h x (by simp)
    rw [Lib.join_cons] at ih ⊢
    simp only [Lib.joinTail, List.map_cons, List.flatten_cons, List.length_append, List.length_cons, Nat.mul_add, Nat.mul_one] at ih ⊢
    omega
theorem valid_len : ∀ {k : Nat} {c : Bs}, validB k c = true → c.length ≤ 40
  | 0, c, h => by cases h
  | 1, c, h => by
    simp only [validB, Bool.and_eq_true, decide_eq_true_eq] at h
    omega
  | 2, c, h => by
    simp only [validB, Bool.and_eq_true, decide_eq_true_eq] at h
    omega
  | 3, c, h => by
    simp only [validB, Bool.and_eq_true, decide_eq_true_eq] at h
    omega
  | 4, c, h => by
    simp only [validB, Bool.or_eq_true, decide_eq_true_eq, List.any_eq_true] at h
    rcases h with rfl | ⟨b, _, rfl⟩ <;> simp
  | k + 5, c, h => by cases h
theorem spell_len {k : Int} {c : Bs} : (spellZ k c).length ≤ 82 := by
  unfold spellZ
  split
  · rename_i h
    unfold validZ at h
    have h1 := valid_len h
    unfold spellB
    split
    · have := escB_len c
      simp; omega
    · omega
  · exact Nat.zero_le _
theorem joinL_len (l : List Tok) : (joinL l).length ≤ 83 * l.length := by
  unfold joinL
  have h := join_len [32] 83 (((l.filter vT).map spT).map (·.data.toList)) (fun x hx => by
    obtain ⟨y, hy, rfl⟩ := List.mem_map.1 hx
    obtain ⟨t, ht, rfl⟩ := List.mem_map.1 hy
    show (spellZ t.k (bs t.s)).length + 1 ≤ 83
    have := @spell_len t.k (bs t.s)
    omega)
  refine Nat.le_trans h ?_
  rw [List.length_map, List.length_map]
  exact Nat.mul_le_mul_left _ (List.length_filter_le _ _)
set_option maxHeartbeats 8000000 in
theorem f48_spec (l : List Tok) (hb : l.length ≤ 1000000) (hs : ∀ t ∈ l, t.s.size ≤ 1000000) : Spec Try.prog 48 [.d (tksD l)] (litS (joinS l)) := by
  have h66 := f66_spec ((l.filter vT).map spT) ⟨#[32]⟩ (by have := List.length_filter_le vT l; rw [List.length_map]; omega) (by have := joinL_len l; exact Nat.le_trans this (by omega))
  obtain ⟨z, hz⟩ : ∃ z, joinS l = z := ⟨_, rfl⟩
  rw [hz]
  replace h66 : Spec Try.prog 66 [.d (.sl 1 (((l.filter vT).map spT).map strD)), litS ⟨#[32]⟩] (litS z) := by rw [← hz]; exact h66
  clear hz
  refine spec_of_awp (fn := Try.f48) Try.func48 (by kernel_rfl) rfl ?_
  intro w0 C0
  simp only [Try.ntmps48, litI, litB, litS, List.length_cons, List.length_nil, Nat.reduceAdd, Nat.reduceSub, List.replicate_succ, List.replicate_zero, List.cons_append, List.nil_append]
  refine awp_len 0 rfl fun hll => ?_
  simp only [List.length_map] at hll
  repeat' first
    | refine awp_seq ?_
    | refine awp_block ?_
    | refine awp_skip ?_
    | (refine reg _ (by (simp only [List.map_cons, List.map_nil]; rfl)) rfl ?_; intro K hK)
    | (refine awp_cond _ (by rfl) ?_ ?_ <;> (intro hb; first | (cases hb; done) | (have ht : true = true := hb; clear ht hb) | (have ht : false = false := hb; clear ht hb) | (simp only [hb]) | skip))
    | (refine awp_exit ?_; simp only [thenA, blockA, scopeA, reduceIte, RetQ, Nat.reduceEqDiff])
    | (refine awp_ret ?_; simp only [thenA, blockA, scopeA, RetQ])
    | (refine ev_nil (hK _ ?_); clear hK K)
    | (apply ev_step0; (case hr | hσ => (simp only [go_sem]; try rfl)); (case hc => (first | trivial | decide | (simp only [inB, sliceOk, appendOk, rowsOk]; omega) | (simp [inB, sliceOk, appendOk, rowsOk]; omega))))
    | (apply ev_step; (case hr => (simp only [go_sem]; try rfl)); (case hσ => (intro g u; simp only [go_sem]; try rfl)); (case hc => (first | trivial | decide | (simp only [inB, sliceOk, appendOk, rowsOk]; omega) | (simp [inB, sliceOk, appendOk, rowsOk]; omega))); intro g u; (try clear u); (try clear g))
    | fail
  refine awp_loopI (fun j : Nat × Value => j.1 ≤ l.length) (fun j => l.length - j.1) (fun j => ⟨[.any, .any, .any, .own 3 j.2, .any, .any, .d (tksD l), litI .i64 l.length, litI .i64 j.1, .any, .any, .any, .any, .any, .any, .any, .any, .any, .any, .any, .any, .any], [.no, .no, .no, .row j.2 9 1 ((((l.take j.1).filter vT).map spT).map strD), .no, .no, .no, .no, .no, .no, .no, .no, .no, .no, .no, .no, .no, .no, .no, .no, .no, .no]⟩) (0, .slice none 0 0) (by simp) ?_ ?_
  · refine Wk.mk ?_ ?_
    all_goals (repeat' first | exact trivial | exact LeA.refl _ | exact LeA.any _ | exact LeO.refl _ | exact LeO.no _ | exact LeA.nil _ | exact LeA.nilOwn _ | exact LeO.nil _ _ _ | refine LeO.box ?_ | (refine LeA.i ?_; (first | rfl | (push_cast; rfl) | (rw [wrap_id (by omega)]; push_cast; omega) | (simp [wrap_id]; omega))) | refine ⟨?_, ?_⟩)
  rintro ⟨i, v⟩ hi
  simp only [litI, litB] at hi ⊢
  by_cases h1 : i < l.length
  · have d1 : decide ((i : Int) < (l.length : Int)) = true := decide_eq_true (by omega)
    have hx := tks_at l h1
    have ht := tk_take l h1
    have hlt : ((l.take i).filter vT).length ≤ 1000000 := by
      refine Nat.le_trans (List.length_filter_le _ _) ?_
      rw [List.length_take]; omega
    have hxs : (l.getD i tkN).s.size ≤ 1000000 := hs _ (by
      rw [List.getD_eq_getElem?_getD, List.getElem?_eq_getElem h1]
      exact List.getElem_mem h1)
    generalize l.getD i tkN = x at *
    have h14 := f14_spec x.k x.s x.a hxs
    have h17 := f17_spec x.k x.s x.a hxs
    have hv : vT x = validZ x.k (bs x.s) := rfl
    have hsp : spT x = ⟨(spellZ x.k (bs x.s)).toArray⟩ := rfl
    rw [← hsp] at h17
    rw [← hv] at h14
    have hf : ((l.take (i + 1)).filter vT) = (l.take i).filter vT ++ (if vT x = true then [x] else []) := by
      rw [ht, List.filter_append]
      cases hq : vT x <;> simp [hq]
    cases hq : vT x with
    | true =>
      rw [hq] at h14
      rw [hq, if_pos rfl] at hf
      have hlen2 : (l.take i).filter vT = (l.take i).filter vT := rfl
      generalize (l.take i).filter vT = acc at *
      repeat' first
        | refine awp_seq ?_
        | refine awp_block ?_
        | refine awp_skip ?_
        | (refine reg _ (by (simp only [List.map_cons, List.map_nil]; rfl)) rfl ?_; intro K hK)
        | (refine awp_cond _ (by rfl) ?_ ?_ <;> (intro hb; first | (cases hb; done) | (have ht : true = true := hb; clear ht hb) | (have ht : false = false := hb; clear ht hb) | (simp only [hb]) | skip))
        | (refine awp_exit ?_; simp only [thenA, blockA, scopeA, reduceIte, RetQ, Nat.reduceEqDiff])
        | (refine awp_ret ?_; simp only [thenA, blockA, scopeA, RetQ])
        | (refine ev_nil (hK _ ?_); clear hK K)
        | (apply ev_call0; (case hys => (simp only [go_sem, d1, hx]; try rfl)); (case hs => first | exact h14 .. | exact h17 ..); (case hok | hσ => (simp only [go_sem, d1, hx]; try rfl)))
        | (apply ev_step0; (case hr | hσ => (simp only [go_sem, d1, hx]; try rfl)); (case hc => (first | trivial | decide | (simp only [inB, sliceOk, appendOk, rowsOk]; omega) | (simp [inB, sliceOk, appendOk, rowsOk]; omega))))
        | (apply ev_step; (case hr => (simp only [go_sem, d1, hx]; try rfl)); (case hσ => (intro g u; simp only [go_sem, d1, hx]; try rfl)); (case hc => (first | trivial | decide | (simp only [inB, sliceOk, appendOk, rowsOk]; omega) | (simp [inB, sliceOk, appendOk, rowsOk]; omega))); intro g u; (try clear u); (try clear g))
        | fail
      refine Exists.intro (i + 1, u) ⟨by show i + 1 ≤ _; omega, by show _ - (i + 1) < _ - i; omega, ?_⟩
      simp only [hf, List.map_append, List.map_cons, List.map_nil]
      refine Wk.mk ?_ ?_
      all_goals (repeat' first | exact trivial | exact LeA.refl _ | exact LeA.any _ | exact LeO.refl _ | exact LeO.no _ | exact LeA.nil _ | exact LeA.nilOwn _ | exact LeO.nil _ _ _ | refine LeO.box ?_ | (refine LeA.i ?_; (first | rfl | (push_cast; rfl) | (rw [wrap_id (by omega)]; push_cast; omega) | (simp [wrap_id]; omega))) | refine ⟨?_, ?_⟩)
    | false =>
      rw [hq] at h14
      rw [hq, if_neg Bool.false_ne_true, List.append_nil] at hf
      repeat' first
        | refine awp_seq ?_
        | refine awp_block ?_
        | refine awp_skip ?_
        | (refine reg _ (by (simp only [List.map_cons, List.map_nil]; rfl)) rfl ?_; intro K hK)
        | (refine awp_cond _ (by rfl) ?_ ?_ <;> (intro hb; first | (cases hb; done) | (have ht : true = true := hb; clear ht hb) | (have ht : false = false := hb; clear ht hb) | (simp only [hb]) | skip))
        | (refine awp_exit ?_; simp only [thenA, blockA, scopeA, reduceIte, RetQ, Nat.reduceEqDiff])
        | (refine awp_ret ?_; simp only [thenA, blockA, scopeA, RetQ])
        | (refine ev_nil (hK _ ?_); clear hK K)
        | (apply ev_call0; (case hys => (simp only [go_sem, d1, hx]; try rfl)); (case hs => first | exact h14 .. | exact h17 ..); (case hok | hσ => (simp only [go_sem, d1, hx]; try rfl)))
        | (apply ev_step0; (case hr | hσ => (simp only [go_sem, d1, hx]; try rfl)); (case hc => (first | trivial | decide | (simp only [inB, sliceOk, appendOk, rowsOk]; omega) | (simp [inB, sliceOk, appendOk, rowsOk]; omega))))
        | (apply ev_step; (case hr => (simp only [go_sem, d1, hx]; try rfl)); (case hσ => (intro g u; simp only [go_sem, d1, hx]; try rfl)); (case hc => (first | trivial | decide | (simp only [inB, sliceOk, appendOk, rowsOk]; omega) | (simp [inB, sliceOk, appendOk, rowsOk]; omega))); intro g u; (try clear u); (try clear g))
        | fail
      refine Exists.intro (i + 1, v) ⟨by show i + 1 ≤ _; omega, by show _ - (i + 1) < _ - i; omega, ?_⟩
      simp only [hf]
      refine Wk.mk ?_ ?_
      all_goals (repeat' first | exact trivial | exact LeA.refl _ | exact LeA.any _ | exact LeO.refl _ | exact LeO.no _ | exact LeA.nil _ | exact LeA.nilOwn _ | exact LeO.nil _ _ _ | refine LeO.box ?_ | (refine LeA.i ?_; (first | rfl | (push_cast; rfl) | (rw [wrap_id (by omega)]; push_cast; omega) | (simp [wrap_id]; omega))) | refine ⟨?_, ?_⟩)
  · have d1 : decide ((i : Int) < (l.length : Int)) = false := decide_eq_false (by omega)
    have : i = l.length := by omega
    subst this
    rw [List.take_length]
    repeat' first
      | refine awp_seq ?_
      | refine awp_block ?_
      | refine awp_skip ?_
      | (refine reg _ (by (simp only [List.map_cons, List.map_nil]; rfl)) rfl ?_; intro K hK)
      | (refine awp_cond _ (by rfl) ?_ ?_ <;> (intro hb; first | (cases hb; done) | (have ht : true = true := hb; clear ht hb) | (have ht : false = false := hb; clear ht hb) | (simp only [hb]) | skip))
      | (refine awp_exit ?_; simp only [thenA, blockA, scopeA, reduceIte, RetQ, Nat.reduceEqDiff])
      | (refine awp_ret ?_; simp only [thenA, blockA, scopeA, RetQ])
      | (refine ev_nil (hK _ ?_); clear hK K)
      | (apply ev_call0; (case hys => (simp only [go_sem, d1]; try rfl)); (case hs => first | exact h66 ..); (case hok | hσ => (simp only [go_sem, d1]; try rfl)))
      | (apply ev_step0; (case hr | hσ => (simp only [go_sem, d1]; try rfl)); (case hc => (first | trivial | decide | (simp only [inB, sliceOk, appendOk, rowsOk]; omega) | (simp [inB, sliceOk, appendOk, rowsOk]; omega))))
      | (apply ev_step; (case hr => (simp only [go_sem, d1]; try rfl)); (case hσ => (intro g u; simp only [go_sem, d1]; try rfl)); (case hc => (first | trivial | decide | (simp only [inB, sliceOk, appendOk, rowsOk]; omega) | (simp [inB, sliceOk, appendOk, rowsOk]; omega))); intro g u; (try clear u); (try clear g))
      | fail
    all_goals (refine resR_one T_ok rfl _ (by (simp only [go_sem, resA]; rfl)) (by first | trivial | (simp only [go_sem, resA])) (by first | trivial | (simp only [go_sem])) ?_; simp only [go_sem])
    exact LeA.refl _
set_option maxHeartbeats 4000000 in
theorem f21_spec (l : List Tok) (hb : l.length ≤ 1000000) (hs : ∀ t ∈ l, t.s.size ≤ 1000000) : Spec Try.prog 21 [.d (tksD l)] (litS (joinS l)) := by
  have h48 := f48_spec l hb hs
  refine spec_of_awp (fn := Try.f21) Try.func21 (by kernel_rfl) rfl ?_
  intro w0 C0
  simp only [Try.ntmps21, litI, litB, litS, List.length_cons, List.length_nil, Nat.reduceAdd, Nat.reduceSub, List.replicate_succ, List.replicate_zero, List.cons_append, List.nil_append]
  refine awp_len 0 rfl fun hll => ?_
  simp only [List.length_map] at hll
  repeat' first
    | refine awp_seq ?_
    | refine awp_block ?_
    | refine awp_skip ?_
    | (refine reg _ (by (simp only [List.map_cons, List.map_nil]; rfl)) rfl ?_; intro K hK)
    | (refine awp_cond _ (by rfl) ?_ ?_ <;> (intro hb; first | (cases hb; done) | (have ht : true = true := hb; clear ht hb) | (have ht : false = false := hb; clear ht hb) | (simp only [hb]) | skip))
    | (refine awp_exit ?_; simp only [thenA, blockA, scopeA, reduceIte, RetQ, Nat.reduceEqDiff])
    | (refine awp_ret ?_; simp only [thenA, blockA, scopeA, RetQ])
    | (refine ev_nil (hK _ ?_); clear hK K)
    | (apply ev_step0; (case hr | hσ => (simp only [go_sem]; try rfl)); (case hc => (first | trivial | decide | (simp only [inB, sliceOk, appendOk, rowsOk]; omega) | (simp [inB, sliceOk, appendOk, rowsOk]; omega))))
    | (apply ev_step; (case hr => (simp only [go_sem]; try rfl)); (case hσ => (intro g u; simp only [go_sem]; try rfl)); (case hc => (first | trivial | decide | (simp only [inB, sliceOk, appendOk, rowsOk]; omega) | (simp [inB, sliceOk, appendOk, rowsOk]; omega))); intro g u; (try clear u); (try clear g))
    | fail
  refine awp_loopI (fun j : Nat × Value => j.1 ≤ l.length) (fun j => l.length - j.1) (fun j => ⟨[.d (tksD l), .any, .any, .own 5 j.2, litI .i64 j.1, .any, .any, .any, .any, .any, .any, .any, .any, .any, .any, .any, .any, .any, .any, .any, .any, .any], [.no, .no, .no, .no, .no, .row j.2 35 3 ((l.take j.1).map tkD), .no, .no, .no, .no, .no, .no, .no, .no, .no, .no, .no, .no, .no, .no, .no, .no]⟩) (0, u) (by simp) ?_ ?_
  · refine Wk.mk ?_ ?_
    all_goals (repeat' first | exact trivial | exact LeA.refl _ | exact LeA.any _ | exact LeO.refl _ | exact LeO.no _ | exact LeA.nil _ | exact LeA.nilOwn _ | exact LeO.nil _ _ _ | refine LeO.box ?_ | (refine LeA.i ?_; (first | rfl | (push_cast; rfl) | (rw [wrap_id (by omega)]; push_cast; omega) | (simp [wrap_id]; omega))) | refine ⟨?_, ?_⟩)
  rintro ⟨i, v⟩ hi
  simp only [litI, litB] at hi ⊢
  by_cases h1 : i < l.length
  · have d1 : decide ((i : Int) < (l.length : Int)) = true := decide_eq_true (by omega)
    have hx := tks_at l h1
    have ht := tk_take l h1
    have hlt : (l.take i).length = i := by rw [List.length_take]; omega
    generalize l.getD i tkN = x at *
    have h15 := f15_spec x.k x.s x.a
    repeat' first
      | refine awp_seq ?_
      | refine awp_block ?_
      | refine awp_skip ?_
      | (refine reg _ (by (simp only [List.map_cons, List.map_nil]; rfl)) rfl ?_; intro K hK)
      | (refine awp_cond _ (by rfl) ?_ ?_ <;> (intro hb; first | (cases hb; done) | (have ht : true = true := hb; clear ht hb) | (have ht : false = false := hb; clear ht hb) | (simp only [hb]) | skip))
      | (refine awp_exit ?_; simp only [thenA, blockA, scopeA, reduceIte, RetQ, Nat.reduceEqDiff])
      | (refine awp_ret ?_; simp only [thenA, blockA, scopeA, RetQ])
      | (refine ev_nil (hK _ ?_); clear hK K)
      | (apply ev_call0; (case hys => (simp only [go_sem, d1, hx, hlt]; try rfl)); (case hs => first | exact h15 ..); (case hok | hσ => (simp only [go_sem, d1, hx, hlt]; try rfl)))
      | (apply ev_step0; (case hr | hσ => (simp only [go_sem, d1, hx, hlt]; try rfl)); (case hc => (first | trivial | decide | (simp only [inB, sliceOk, appendOk, rowsOk]; omega) | (simp [inB, sliceOk, appendOk, rowsOk]; omega))))
      | (apply ev_step; (case hr => (simp only [go_sem, d1, hx, hlt]; try rfl)); (case hσ => (intro g u; simp only [go_sem, d1, hx, hlt]; try rfl)); (case hc => (first | trivial | decide | (simp only [inB, sliceOk, appendOk, rowsOk]; omega) | (simp [inB, sliceOk, appendOk, rowsOk]; omega))); intro g u; (try clear u); (try clear g))
      | fail
    refine Exists.intro (i + 1, u) ⟨by show i + 1 ≤ _; omega, by show _ - (i + 1) < _ - i; omega, ?_⟩
    simp only [ht, List.map_append, List.map_cons, List.map_nil]
    refine Wk.mk ?_ ?_
    all_goals (repeat' first | exact trivial | exact LeA.refl _ | exact LeA.any _ | exact LeO.refl _ | exact LeO.no _ | exact LeA.nil _ | exact LeA.nilOwn _ | exact LeO.nil _ _ _ | refine LeO.box ?_ | (refine LeA.i ?_; (first | rfl | (push_cast; rfl) | (rw [wrap_id (by omega)]; push_cast; omega) | (simp [wrap_id]; omega))) | refine ⟨?_, ?_⟩)
  · have d1 : decide ((i : Int) < (l.length : Int)) = false := decide_eq_false (by omega)
    have : i = l.length := by omega
    subst this
    rw [List.take_length]
    repeat' first
      | refine awp_seq ?_
      | refine awp_block ?_
      | refine awp_skip ?_
      | (refine reg _ (by (simp only [List.map_cons, List.map_nil]; rfl)) rfl ?_; intro K hK)
      | (refine awp_cond _ (by rfl) ?_ ?_ <;> (intro hb; first | (cases hb; done) | (have ht : true = true := hb; clear ht hb) | (have ht : false = false := hb; clear ht hb) | (simp only [hb]) | skip))
      | (refine awp_exit ?_; simp only [thenA, blockA, scopeA, reduceIte, RetQ, Nat.reduceEqDiff])
      | (refine awp_ret ?_; simp only [thenA, blockA, scopeA, RetQ])
      | (refine ev_nil (hK _ ?_); clear hK K)
      | (apply ev_call0; (case hys => (simp only [go_sem, d1]; try rfl)); (case hs => first | exact h48 ..); (case hok | hσ => (simp only [go_sem, d1]; try rfl)))
      | (apply ev_step0; (case hr | hσ => (simp only [go_sem, d1]; try rfl)); (case hc => (first | trivial | decide | (simp only [inB, sliceOk, appendOk, rowsOk]; omega) | (simp [inB, sliceOk, appendOk, rowsOk]; omega))))
      | (apply ev_step; (case hr => (simp only [go_sem, d1]; try rfl)); (case hσ => (intro g u; simp only [go_sem, d1]; try rfl)); (case hc => (first | trivial | decide | (simp only [inB, sliceOk, appendOk, rowsOk]; omega) | (simp [inB, sliceOk, appendOk, rowsOk]; omega))); intro g u; (try clear u); (try clear g))
      | fail
    all_goals (refine resR_one T_ok rfl _ (by (simp only [go_sem, resA]; rfl)) (by first | trivial | (simp only [go_sem, resA])) (by first | trivial | (simp only [go_sem])) ?_; simp only [go_sem])
    exact LeA.refl _
end
section
set_option linter.unusedVariables false
set_option linter.unusedSimpArgs false
open Go.RowKit
attribute [local irreducible] AWp evOps evD
abbrev exS : ByteArray := ⟨#[115, 101, 116, 32, 116, 40, 49, 41, 32, 61, 32, 34, 97, 92, 34, 98, 34, 59]⟩
abbrev exW : List Tok := [⟨1, ⟨#[115, 101, 116]⟩, 0⟩, ⟨1, ⟨#[116]⟩, 4⟩, ⟨4, ⟨#[40]⟩, 5⟩, ⟨2, ⟨#[49]⟩, 6⟩, ⟨4, ⟨#[41]⟩, 7⟩, ⟨4, ⟨#[61]⟩, 9⟩, ⟨3, ⟨#[97, 34, 98]⟩, 11⟩, ⟨4, ⟨#[59]⟩, 17⟩]
theorem tkEq_self (x : Tok) : tkEq x x = true := by simp [tkEq]
theorem sameT_self : ∀ l, sameT l l = true
  | [] => rfl
  | x :: l => by rw [sameT, tkEq_self, sameT_self l]; rfl
theorem sameV_self (l : List Tok) (a e : Int) : sameV l l a a e e = true := by
  rw [sameV, sameT_self]; simp
theorem ex_lex : lexB (bs exS) = ([(1, bs ⟨#[115, 101, 116]⟩, 0), (1, bs ⟨#[116]⟩, 4), (4, bs ⟨#[40]⟩, 5), (2, bs ⟨#[49]⟩, 6), (4, bs ⟨#[41]⟩, 7), (4, bs ⟨#[61]⟩, 9), (3, bs ⟨#[97, 34, 98]⟩, 11), (4, bs ⟨#[59]⟩, 17)], none) := by decide +kernel
theorem ex_lex2 : lexB (bs ⟨#[97, 32, 36]⟩) = ([(1, [97], 0)], some 2) := by decide +kernel
theorem ex_lex3 : lexB (bs ⟨#[49, 32, 34, 120]⟩) = ([(2, [49], 0)], some 2) := by decide +kernel
theorem ex_lex4 : lexB (bs ⟨#[32, 35, 32, 97]⟩) = ([], none) := by decide +kernel
theorem ex12a : Spec Try.prog 12 [litS exS] (lxA exW 0 0) := by
  have h := f12_spec exS (by decide)
  have e1 : lexL exS = exW := by unfold lexL; rw [ex_lex]; rfl
  have e2 : lexP exS = 0 := by unfold lexP; rw [ex_lex]
  have e3 : lexE exS = 0 := by unfold lexE; rw [ex_lex]
  rw [e1, e2, e3] at h
  exact h
theorem ex12b : Spec Try.prog 12 [litS ⟨#[97, 32, 36]⟩] (lxA [] 2 5) := by
  have h := f12_spec ⟨#[97, 32, 36]⟩ (by decide)
  have e1 : lexL ⟨#[97, 32, 36]⟩ = [] := by unfold lexL; rw [ex_lex2]
  have e2 : lexP ⟨#[97, 32, 36]⟩ = 2 := by unfold lexP; rw [ex_lex2]; rfl
  have e3 : lexE ⟨#[97, 32, 36]⟩ = 5 := by unfold lexE; rw [ex_lex2]
  rw [e1, e2, e3] at h
  exact h
theorem ex12c : Spec Try.prog 12 [litS ⟨#[49, 32, 34, 120]⟩] (lxA [] 2 5) := by
  have h := f12_spec ⟨#[49, 32, 34, 120]⟩ (by decide)
  have e1 : lexL ⟨#[49, 32, 34, 120]⟩ = [] := by unfold lexL; rw [ex_lex3]
  have e2 : lexP ⟨#[49, 32, 34, 120]⟩ = 2 := by unfold lexP; rw [ex_lex3]; rfl
  have e3 : lexE ⟨#[49, 32, 34, 120]⟩ = 5 := by unfold lexE; rw [ex_lex3]
  rw [e1, e2, e3] at h
  exact h
theorem ex12d : Spec Try.prog 12 [litS ⟨#[32, 35, 32, 97]⟩] (lxA [] 0 0) := by
  have h := f12_spec ⟨#[32, 35, 32, 97]⟩ (by decide)
  have e1 : lexL ⟨#[32, 35, 32, 97]⟩ = [] := by unfold lexL; rw [ex_lex4]; rfl
  have e2 : lexP ⟨#[32, 35, 32, 97]⟩ = 0 := by unfold lexP; rw [ex_lex4]
  have e3 : lexE ⟨#[32, 35, 32, 97]⟩ = 0 := by unfold lexE; rw [ex_lex4]
  rw [e1, e2, e3] at h
  exact h
theorem ex19 (l : List Tok) (a e : Int) (hb : l.length ≤ 1000000) : Spec Try.prog 19 [lxA l a e, lxA l a e] (litB true) := by
  have h := f19_spec l l a a e e hb
  rw [sameV_self] at h
  exact h
theorem Spec.args {P : Program} {f : Nat} {xs ys : List AV} {r : AV} (h : LeL xs ys) (hs : Spec P f ys r) : Spec P f xs r := ⟨hs.1, fun w hW C hC vs hvs => hs.2 w hW C hC vs (h.has hvs)⟩
theorem ex19n (a e : Int) : Spec Try.prog 19 [lxA [] a e, .agg [.d (.lit (.slice none 0 0)), litI .i64 a, litI .i64 e]] (litB true) :=
  Spec.args (ys := [lxA [] a e, lxA [] a e]) ⟨LeA.refl _, LeA.agg ⟨LeA.nil _, LeA.refl _, LeA.refl _, trivial⟩, trivial⟩ (ex19 [] a e (by decide))
theorem ex14a : Spec Try.prog 14 [.agg (tokA 1 ⟨#[97, 49]⟩ 0)] (litB true) := by
  have h := f14_spec 1 ⟨#[97, 49]⟩ 0 (by decide)
  rw [show validZ 1 (bs ⟨#[97, 49]⟩) = true from by decide +kernel] at h
  exact h
theorem ex14b : Spec Try.prog 14 [.agg (tokA 1 ⟨#[49, 97]⟩ 0)] (litB false) := by
  have h := f14_spec 1 ⟨#[49, 97]⟩ 0 (by decide)
  rw [show validZ 1 (bs ⟨#[49, 97]⟩) = false from by decide +kernel] at h
  exact h
theorem ex17 : Spec Try.prog 17 [.agg (tokA 3 ⟨#[92]⟩ 0)] (litS ⟨#[34, 92, 92, 34]⟩) := by
  have h := f17_spec 3 ⟨#[92]⟩ 0 (by decide)
  rw [show spellZ 3 (bs ⟨#[92]⟩) = bs ⟨#[34, 92, 92, 34]⟩ from by decide +kernel] at h
  exact h
theorem ex21 : Spec Try.prog 21 [.d (tksD (exW.take 3))] (litS ⟨#[115, 101, 116, 32, 116, 32, 40]⟩) := by
  have h := f21_spec (exW.take 3) (by decide) (by decide)
  rw [show joinS (exW.take 3) = ⟨#[115, 101, 116, 32, 116, 32, 40]⟩ from by unfold joinS; rw [show joinL (exW.take 3) = bs ⟨#[115, 101, 116, 32, 116, 32, 40]⟩ from by decide +kernel]] at h
  exact h
theorem ex13a : Spec Try.prog 13 [litS ⟨#[97, 10, 98]⟩, litI .i64 2] (.agg [litI .i64 2, litI .i64 1]) := f13_spec ⟨#[97, 10, 98]⟩ 2 (by decide)
theorem ex13b : Spec Try.prog 13 [litS ⟨#[]⟩, litI .i64 5] (.agg [litI .i64 1, litI .i64 1]) := f13_spec ⟨#[]⟩ 5 (by decide)
set_option maxHeartbeats 8000000 in
theorem f10_spec : Spec Try.prog 10 [] (litB true) := by
  have h1 := ex12a
  have h2 := ex12b
  have h3 := ex12c
  have h4 := ex12d
  have g1 := ex19 exW 0 0 (by decide)
  have g2 := ex19n 2 5
  have g3 := ex19n 0 0
  have k1 := ex14a
  have k2 := ex14b
  have k3 := ex17
  have k4 := ex21
  have k5 := ex13a
  have k6 := ex13b
  refine spec_of_awp (fn := Try.f10) Try.func10 (by kernel_rfl) rfl ?_
  intro w0 C0
  simp only [Try.ntmps10, litI, litB, litS, List.length_cons, List.length_nil, Nat.reduceAdd, Nat.reduceSub, List.replicate_succ, List.replicate_zero, List.cons_append, List.nil_append]
  repeat' first
    | refine awp_seq ?_
    | refine awp_block ?_
    | refine awp_skip ?_
    | (refine reg _ (by (simp only [List.map_cons, List.map_nil]; rfl)) rfl ?_; intro K hK)
    | (refine awp_cond _ (by rfl) ?_ ?_ <;> (intro hb; first | (cases hb; done) | (have ht : true = true := hb; clear ht hb) | (have ht : false = false := hb; clear ht hb) | (simp only [hb]) | skip))
    | (refine awp_exit ?_; simp only [thenA, blockA, scopeA, reduceIte, RetQ, Nat.reduceEqDiff])
    | (refine awp_ret ?_; simp only [thenA, blockA, scopeA, RetQ])
    | (refine ev_nil (hK _ ?_); clear hK K)
    | (apply ev_guardU; (case hj | hu | hσ => (simp only [go_sem, beq_self_eq_true, Bool.and_self]; try rfl)))
    | (refine ev_guardT _ _ (by (simp only [go_sem, beq_self_eq_true, Bool.and_self]; rfl)) (by (simp only [go_sem, beq_self_eq_true, Bool.and_self]; rfl)) ?_ ?_ <;> (intro hb; first | (cases hb; done) | (have ht : true = true := hb; clear ht hb) | (have ht : false = false := hb; clear ht hb) | (simp only [hb]) | skip))
    | (refine ev_guardF _ _ (by (simp only [go_sem, beq_self_eq_true, Bool.and_self]; rfl)) (by (simp only [go_sem, beq_self_eq_true, Bool.and_self]; rfl)) ?_ ?_ <;> (intro hb; first | (cases hb; done) | (have ht : true = true := hb; clear ht hb) | (have ht : false = false := hb; clear ht hb) | (simp only [hb]) | skip))
    | (apply ev_call0; (case hys => (simp only [go_sem, beq_self_eq_true, Bool.and_self]; try rfl)); (case hs => first | exact h1 .. | exact h2 .. | exact h3 .. | exact h4 .. | exact g1 .. | exact g2 .. | exact g3 .. | exact k1 .. | exact k2 .. | exact k3 .. | exact k4 .. | exact k5 .. | exact k6 ..); (case hok | hσ => (simp only [go_sem, beq_self_eq_true, Bool.and_self]; try rfl)))
    | (apply ev_step0; (case hr | hσ => (simp only [go_sem, beq_self_eq_true, Bool.and_self]; try rfl)); (case hc => (first | trivial | decide | (simp only [inB, sliceOk, appendOk, rowsOk]; omega) | (simp [inB, sliceOk, appendOk, rowsOk]; omega))))
    | (apply ev_step; (case hr => (simp only [go_sem, beq_self_eq_true, Bool.and_self]; try rfl)); (case hσ => (intro g u; simp only [go_sem, beq_self_eq_true, Bool.and_self]; try rfl)); (case hc => (first | trivial | decide | (simp only [inB, sliceOk, appendOk, rowsOk]; omega) | (simp [inB, sliceOk, appendOk, rowsOk]; omega))); intro g u; (try clear u); (try clear g))
    | fail
  all_goals (refine resR_one T_ok rfl _ (by (simp only [go_sem, resA]; rfl)) (by first | trivial | (simp only [go_sem, resA])) (by first | trivial | (simp only [go_sem])) ?_; simp only [go_sem])
  exact LeA.refl _
end
section
set_option linter.unusedVariables false
set_option linter.unusedSimpArgs false
open Go.RowKit
attribute [local irreducible] AWp evOps evD
theorem lex_ok {s : ByteArray} (h : (lexB (bs s)).2 = none) : lexE s = 0 ∧ lexP s = 0 ∧ lexL s = (lexB (bs s)).1.map toTok := by
  unfold lexE lexP lexL
  rw [h]
  exact ⟨rfl, rfl, rfl⟩
theorem lex_no {s : ByteArray} {p : Nat} (h : (lexB (bs s)).2 = some p) : lexE s = 5 ∧ lexP s = (p : Int) ∧ lexL s = [] := by
  unfold lexE lexP lexL
  rw [h]
  exact ⟨rfl, rfl, rfl⟩
set_option maxHeartbeats 8000000 in
theorem f3_spec (s : ByteArray) (k : Int) (hs : s.size ≤ 9223372036854775807) : Spec Try.prog 3 [litS s, litI .u16 k] (litB true) := by
  have h10 := f10_spec
  have h11 := f11_nil s hs
  by_cases h1 : s.size ≤ 2000
  rotate_left
  · rw [decide_eq_false (by omega)] at h11
    refine spec_of_awp (fn := Try.f3) Try.func3 (by kernel_rfl) rfl ?_
    intro w0 C0
    simp only [Try.ntmps3, litI, litB, litS, List.length_cons, List.length_nil, Nat.reduceAdd, Nat.reduceSub, List.replicate_succ, List.replicate_zero, List.cons_append, List.nil_append]
    repeat' first
      | refine awp_seq ?_
      | refine awp_block ?_
      | refine awp_skip ?_
      | (refine reg _ (by (simp only [List.map_cons, List.map_nil]; rfl)) rfl ?_; intro K hK)
      | (refine awp_cond _ (by rfl) ?_ ?_ <;> (intro hb; first | (cases hb; done) | (have ht : true = true := hb; clear ht hb) | (have ht : false = false := hb; clear ht hb) | (simp only [hb]) | skip))
      | (refine awp_exit ?_; simp only [thenA, blockA, scopeA, reduceIte, RetQ, Nat.reduceEqDiff])
      | (refine awp_ret ?_; simp only [thenA, blockA, scopeA, RetQ])
      | (refine ev_nil (hK _ ?_); clear hK K)
      | (apply ev_guardU; (case hj | hu | hσ => (simp only [go_sem]; try rfl)))
      | (refine ev_guardT _ _ (by (simp only [go_sem]; rfl)) (by (simp only [go_sem]; rfl)) ?_ ?_ <;> (intro hb; first | (cases hb; done) | (have ht : true = true := hb; clear ht hb) | (have ht : false = false := hb; clear ht hb) | (simp only [hb]) | skip))
      | (refine ev_guardF _ _ (by (simp only [go_sem]; rfl)) (by (simp only [go_sem]; rfl)) ?_ ?_ <;> (intro hb; first | (cases hb; done) | (have ht : true = true := hb; clear ht hb) | (have ht : false = false := hb; clear ht hb) | (simp only [hb]) | skip))
      | (apply ev_call0; (case hys => (simp only [go_sem]; try rfl)); (case hs => first | exact h10 .. | exact h11 ..); (case hok | hσ => (simp only [go_sem]; try rfl)))
      | (apply ev_step0; (case hr | hσ => (simp only [go_sem]; try rfl)); (case hc => (first | trivial | decide | (simp only [inB, sliceOk, appendOk, rowsOk]; omega) | (simp [inB, sliceOk, appendOk, rowsOk]; omega))))
      | (apply ev_step; (case hr => (simp only [go_sem]; try rfl)); (case hσ => (intro g u; simp only [go_sem]; try rfl)); (case hc => (first | trivial | decide | (simp only [inB, sliceOk, appendOk, rowsOk]; omega) | (simp [inB, sliceOk, appendOk, rowsOk]; omega))); intro g u; (try clear u); (try clear g))
      | fail
    all_goals (refine resR_one T_ok rfl _ (by (simp only [go_sem, resA]; rfl)) (by first | trivial | (simp only [go_sem, resA])) (by first | trivial | (simp only [go_sem])) ?_; simp only [go_sem])
    exact LeA.refl _
  rw [decide_eq_true (by omega)] at h11
  have h12 := f12_spec s (by omega)
  have hl := bs_len s
  cases hB : (lexB (bs s)).2 with
  | none =>
    obtain ⟨e1, e2, e3⟩ := lex_ok hB
    rw [e1, e2, e3] at h12
    refine spec_of_awp (fn := Try.f3) Try.func3 (by kernel_rfl) rfl ?_
    intro w0 C0
    simp only [Try.ntmps3, litI, litB, litS, List.length_cons, List.length_nil, Nat.reduceAdd, Nat.reduceSub, List.replicate_succ, List.replicate_zero, List.cons_append, List.nil_append]
    repeat' first
      | refine awp_seq ?_
      | refine awp_block ?_
      | refine awp_skip ?_
      | (refine reg _ (by (simp only [List.map_cons, List.map_nil]; rfl)) rfl ?_; intro K hK)
      | (refine awp_cond _ (by rfl) ?_ ?_ <;> (intro hb; first | (cases hb; done) | (have ht : true = true := hb; clear ht hb) | (have ht : false = false := hb; clear ht hb) | (simp only [hb]) | skip))
      | (refine awp_exit ?_; simp only [thenA, blockA, scopeA, reduceIte, RetQ, Nat.reduceEqDiff])
      | (refine awp_ret ?_; simp only [thenA, blockA, scopeA, RetQ])
      | (refine ev_nil (hK _ ?_); clear hK K)
      | (apply ev_guardU; (case hj | hu | hσ => (simp only [go_sem]; try rfl)))
      | (refine ev_guardT _ _ (by (simp only [go_sem]; rfl)) (by (simp only [go_sem]; rfl)) ?_ ?_ <;> (intro hb; first | (cases hb; done) | (have ht : true = true := hb; clear ht hb) | (have ht : false = false := hb; clear ht hb) | (simp only [hb]) | skip))
      | (refine ev_guardF _ _ (by (simp only [go_sem]; rfl)) (by (simp only [go_sem]; rfl)) ?_ ?_ <;> (intro hb; first | (cases hb; done) | (have ht : true = true := hb; clear ht hb) | (have ht : false = false := hb; clear ht hb) | (simp only [hb]) | skip))
      | (apply ev_call0; (case hys => (simp only [go_sem]; try rfl)); (case hs => first | exact h10 .. | exact h11 .. | exact h12 ..); (case hok | hσ => (simp only [go_sem]; try rfl)))
      | (apply ev_step0; (case hr | hσ => (simp only [go_sem]; try rfl)); (case hc => (first | trivial | decide | (simp only [inB, sliceOk, appendOk, rowsOk]; omega) | (simp [inB, sliceOk, appendOk, rowsOk]; omega))))
      | (apply ev_step; (case hr => (simp only [go_sem]; try rfl)); (case hσ => (intro g u; simp only [go_sem]; try rfl)); (case hc => (first | trivial | decide | (simp only [inB, sliceOk, appendOk, rowsOk]; omega) | (simp [inB, sliceOk, appendOk, rowsOk]; omega))); intro g u; (try clear u); (try clear g))
      | fail
    all_goals (refine resR_one T_ok rfl _ (by (simp only [go_sem, resA]; rfl)) (by first | trivial | (simp only [go_sem, resA])) (by first | trivial | (simp only [go_sem])) ?_; simp only [go_sem])
    exact LeA.refl _
  | some p =>
    obtain ⟨e1, e2, e3⟩ := lex_no hB
    rw [e1, e2, e3] at h12
    obtain ⟨hp, hB2⟩ := lexB_err hB
    have b2 : bs (s.extract 0 p) = (bs s).take p := by rw [bs_sub, List.drop_zero, Nat.sub_zero]
    have z2 : (s.extract 0 p).size ≤ 2000 := by rw [← bs_len, b2, List.length_take]; omega
    have g12 := f12_spec (s.extract 0 p) (by omega)
    obtain ⟨y1, y2, _⟩ := lex_ok (s := s.extract 0 p) (by rw [b2, hB2])
    rw [y1, y2] at g12
    have b3 : bs (⟨#[32]⟩ ++ s) = 32 :: bs s := by rw [bs_app]; rfl
    have z3 : (⟨#[32]⟩ ++ s : ByteArray).size ≤ 2001 := by rw [← bs_len, b3, List.length_cons]; omega
    have k12 := f12_spec (⟨#[32]⟩ ++ s) (by omega)
    obtain ⟨x1, x2, _⟩ := lex_no (s := ⟨#[32]⟩ ++ s) (p := p + 1) (by rw [b3, lexB_blank, shiftT, hB]; rfl)
    rw [x1, x2] at k12
    have d1 : decide ((p : Int) < 0) = false := decide_eq_false (by omega)
    have d2 : decide ((p : Int) ≥ (s.size : Int)) = false := decide_eq_false (by omega)
    have w1 : IntKind.i64.wrap ((p : Int) + 1) = ((p + 1 : Nat) : Int) := by rw [wrap_id (by omega)]; push_cast; rfl
    refine spec_of_awp (fn := Try.f3) Try.func3 (by kernel_rfl) rfl ?_
    intro w0 C0
    simp only [Try.ntmps3, litI, litB, litS, List.length_cons, List.length_nil, Nat.reduceAdd, Nat.reduceSub, List.replicate_succ, List.replicate_zero, List.cons_append, List.nil_append]
    repeat' first
      | refine awp_seq ?_
      | refine awp_block ?_
      | refine awp_skip ?_
      | (refine reg _ (by (simp only [List.map_cons, List.map_nil]; rfl)) rfl ?_; intro K hK)
      | (refine awp_cond _ (by rfl) ?_ ?_ <;> (intro hb; first | (cases hb; done) | (have ht : true = true := hb; clear ht hb) | (have ht : false = false := hb; clear ht hb) | (simp only [hb]) | skip))
      | (refine awp_exit ?_; simp only [thenA, blockA, scopeA, reduceIte, RetQ, Nat.reduceEqDiff])
      | (refine awp_ret ?_; simp only [thenA, blockA, scopeA, RetQ])
      | (refine ev_nil (hK _ ?_); clear hK K)
      | (apply ev_guardU; (case hj | hu | hσ => (simp only [go_sem, d1, d2, w1, beq_self_eq_true]; try rfl)))
      | (refine ev_guardT _ _ (by (simp only [go_sem, d1, d2, w1, beq_self_eq_true]; rfl)) (by (simp only [go_sem, d1, d2, w1, beq_self_eq_true]; rfl)) ?_ ?_ <;> (intro hb; first | (cases hb; done) | (have ht : true = true := hb; clear ht hb) | (have ht : false = false := hb; clear ht hb) | (simp only [hb]) | skip))
      | (refine ev_guardF _ _ (by (simp only [go_sem, d1, d2, w1, beq_self_eq_true]; rfl)) (by (simp only [go_sem, d1, d2, w1, beq_self_eq_true]; rfl)) ?_ ?_ <;> (intro hb; first | (cases hb; done) | (have ht : true = true := hb; clear ht hb) | (have ht : false = false := hb; clear ht hb) | (simp only [hb]) | skip))
      | (apply ev_call0; (case hys => (simp only [go_sem, d1, d2, w1, beq_self_eq_true]; try rfl)); (case hs => first | exact h10 .. | exact h11 .. | exact h12 .. | exact g12 .. | exact k12 ..); (case hok | hσ => (simp only [go_sem, d1, d2, w1, beq_self_eq_true]; try rfl)))
      | (apply ev_step0; (case hr | hσ => (simp only [go_sem, d1, d2, w1, beq_self_eq_true]; try rfl)); (case hc => (first | trivial | decide | (simp only [inB, sliceOk, appendOk, rowsOk]; omega) | (simp [inB, sliceOk, appendOk, rowsOk]; omega))))
      | (apply ev_step; (case hr => (simp only [go_sem, d1, d2, w1, beq_self_eq_true]; try rfl)); (case hσ => (intro g u; simp only [go_sem, d1, d2, w1, beq_self_eq_true]; try rfl)); (case hc => (first | trivial | decide | (simp only [inB, sliceOk, appendOk, rowsOk]; omega) | (simp [inB, sliceOk, appendOk, rowsOk]; omega))); intro g u; (try clear u); (try clear g))
      | fail
    all_goals (refine resR_one T_ok rfl _ (by (simp only [go_sem, resA]; rfl)) (by first | trivial | (simp only [go_sem, resA])) (by first | trivial | (simp only [go_sem])) ?_; simp only [go_sem])
    exact LeA.refl _
end
section
set_option linter.unusedVariables false
set_option linter.unusedSimpArgs false
open Go.RowKit
theorem ty3 {f : Nat} {ds : List Dat} (h : tyR T (f + 1) 3 ds) : ∃ n : Int, ds = [.lit (.int .i64 n)] := by
  simp only [tyR, T3, ti3] at h
  obtain ⟨n, h1, _⟩ := h
  exact ⟨n, h1⟩
theorem ty5 {f : Nat} {ds : List Dat} (h : tyR T (f + 1) 5 ds) : ∃ b : UInt8, ds = byD b := by
  simp only [tyR, T5, ti5] at h
  obtain ⟨n, h1, h2⟩ := h
  have := bounds_u8 h2
  refine ⟨UInt8.ofNat n.toNat, ?_⟩
  rw [h1, byD]
  have e : ((UInt8.ofNat n.toNat).toNat : Int) = n := by
    rw [UInt8.toNat_ofNat_of_lt' (by simp [UInt8.size]; omega)]; omega
  rw [e]
theorem ty22 {f : Nat} {ds : List Dat} (h : tyR T (f + 1) 22 ds) : ∃ n : Int, ds = [.lit (.int .u16 n)] ∧ 0 ≤ n ∧ n < 65536 := by
  simp only [tyR, T22, ti22] at h
  obtain ⟨n, h1, h2⟩ := h
  have := bounds_u16 h2
  exact ⟨n, h1, by omega⟩
theorem ty9 {f : Nat} {ds : List Dat} (h : tyR T (f + 1) 9 ds) : ∃ s : ByteArray, ds = [.lit (.string s)] ∧ s.size ≤ 9223372036854775807 := by
  simp only [tyR, T9, ti9] at h
  obtain ⟨s, h1, h2⟩ := h
  exact ⟨s, h1, Nat.le_trans h2 (by decide)⟩
theorem ty41 {f : Nat} {ds : List Dat} (h : tyR T (f + 2) 41 ds) : ∃ b : Bs, ds = [.sl 1 (b.map byD)] := by
  rw [tyR] at h
  simp only [T41, ti41, T5, ti5] at h
  obtain ⟨rows, rfl, h⟩ := h
  obtain ⟨l, rfl, hl⟩ := rows_of (f := byD) (Q := fun _ => True) h fun r hr => by
    obtain ⟨b, h⟩ := ty5 hr
    exact ⟨b, h, trivial⟩
  exact ⟨l, rfl⟩
theorem tyRs_one {f t : Nat} {ts : List Nat} {dss : List (List Dat)} (h : tyRs T f (t :: ts) dss) : ∃ ds r, dss = ds :: r ∧ tyR T f t ds ∧ tyRs T f ts r := by
  cases dss with
  | nil => simp [tyRs] at h
  | cons d r => exact ⟨d, r, rfl, h.1, h.2⟩
theorem tyRs_nil {f : Nat} {dss : List (List Dat)} (h : tyRs T f [] dss) : dss = [] := by
  cases dss with
  | nil => rfl
  | cons d r => simp [tyRs] at h
/-- The law, for whatever reads as its arguments. -/
theorem law3_spec : ∀ dss, tyRs T 8 [9, 22] dss → Spec Try.prog 3 (avTys T [9, 22] dss) (.d (.lit (.bool true))) := by
  intro dss h
  obtain ⟨d0, r0, rfl, h0, h⟩ := tyRs_one h
  obtain ⟨d1, r1, rfl, h1, h⟩ := tyRs_one h
  obtain rfl := tyRs_nil h
  obtain ⟨s, rfl, hs⟩ := ty9 h0
  obtain ⟨k, rfl, hk⟩ := ty22 h1
  have := f3_spec s k hs
  simp only [avTys, avTy, T9, ti9, T22, ti22, List.map_cons, List.map_nil, List.headD_cons, if_true, Bool.false_eq_true, if_false]
  exact this
end
end Go.Proofs.Ytnppegglggcceaa.A
