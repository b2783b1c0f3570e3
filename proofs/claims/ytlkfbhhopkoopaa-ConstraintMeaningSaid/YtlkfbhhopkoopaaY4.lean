/- Put, Without: the walks. Words, values of types, key references: the walks. The made rows: plain. The made rows: the walk. The made states: plain. The made states: the walk. -/
import Derived.Test.YtlkfbhhopkoopaaY3
namespace Go.Proofs.Ytlkfbhhopkoopaa.A
attribute [local go_sem] Nat.reduceAdd Nat.reduceSub Nat.reduceMul Nat.reduceLT Nat.reduceLeDiff Nat.reduceEqDiff Nat.reduceBEq reduceIte reduceCtorEq e_step_none e_slotU e_slotB e_move e_assign e_pick e_unOp e_binOp e_alloc e_box e_build e_buildSlice e_load e_store e_fieldAddr e_field e_indexAddr e_index e_slice e_makeSlice e_makeFunc e_convert e_extract e_nilCheck e_len e_append e_max e_min e_call e_callV e_fn e_cap_ptr e_cap_lit e_cap_sl e_cap_fn e_fnOf_clo e_fnOf_fn e_flat_fn e_clo e_ev_tmp e_ev_int e_ev_bool e_ev_string e_ev_slice e_ev_nilFunc e_ev_nilIface e_ev_pointer e_ev_agg e_ev_func e_pickT e_pickF e_not e_neg e_add e_sub e_mul e_quo e_rem e_eql e_neq e_lss e_leq e_gtr e_geq e_shl e_shr e_and e_or e_xor e_andNot e_beq e_bne e_sadd e_seql e_sneq e_b2_d e_b2_nil e_b2_nnil e_b2_agg e_lits_nil e_lits_cons e_litC e_eqR e_eqO_e e_eqO_n e_eqV4 e_eqV3 e_eqV2 e_eqV1 e_eqFs_nil e_eqFs_cons e_and2 e_eq1 e_eqL_i e_eqL_s e_eqL_b e_allocR e_boxR e_box_agg e_box_d e_box_own e_box_clo e_one_nil e_one_d e_one_own e_one_clo e_one_ptr e_cells_agg e_cells_d e_cells_own e_cells_clo e_cells_ptr e_ob_own e_ob_ptr e_ob_elo e_ob_d e_ob_el e_ob_agg e_load_box e_load_fzb e_load_el e_load_elo e_storeX_ptr e_storeX_d e_storeX_own e_storeX_agg e_storeX_el e_storeC' e_notIn_nil e_notIn_cons e_store_box e_storeB e_store_elo e_store_elo_agg e_storeE e_fa_ptr e_fa_el e_fa_elo e_faR e_fd e_fdR e_ia_d e_ia_row e_ia_fz e_ia_ptr e_ia_el e_ix_s e_ix_a e_len_s e_len_nil e_len_d e_len_row e_len_fz e_conv_i e_conv_s e_extr e_maxR e_minR e_nil_ptr e_nil_el e_nil_elo e_rows_nil e_rows_d e_rows_row e_rows_fz e_rok_nil e_rok_d e_rok_row e_rok_fz e_app_row e_appR e_app_nil e_appN e_make e_bnd_none e_bnd_some e_optmap_none e_optmap_some e_slR e_slRe e_sl_s e_sl_d e_sl_nil e_sl_row e_sl_fz e_fill_nil e_fill_cons e_fill1 e_placeS e_plS e_placeE e_buildO e_build1 e_build2 e_build3 e_bindD e_bs e_bsR e_allD_nil e_allD_cons e_allD_el e_allD_clo e_allD2 e_allD1 e_chunk0 e_chunkS e_clP_nil e_clP_cons e_cl_d e_cl_any e_cl_el e_cl_agg e_cl_tup e_cl_clo e_cl_own e_clOwn_row e_clOwn_fz e_cl_ptr e_clPtr_box e_clBox e_clPtr_fzb e_clL_nil e_clL_cons e_ok_d e_ok_any e_ok_el e_ok_agg e_ok_tup e_ok_clo e_ok_own e_okOwn_row e_okOwn_fz e_ok_ptr e_okPtr_box e_okPtr_fzb e_okL_nil e_okL_cons e_ids_d e_ids_any e_ids_el e_ids_own e_ids_ptr e_ids_agg e_ids_tup e_ids_clo e_idsL_nil e_idsL_cons e_frz_nil e_frz_cons e_frz_row e_frz_fz e_frz_fzb e_frz_box e_frzB e_flat_lit e_flat_sl e_flat_agg e_flat_tup e_flat_any e_flat_clo e_flatL_nil e_flatL_cons e_new_lit e_new_agg e_new_tup e_new_own e_newOwn_row e_newL_nil e_newL_cons e_objD e_setMany e_takeA e_zerosA e_gdL e_idsG e_idsOp e_callV' e_callN' e_callF' e_o_move e_o_assign e_o_pick e_o_unOp e_o_binOp e_o_alloc e_o_box e_o_build e_o_buildSlice e_o_load e_o_store e_o_fieldAddr e_o_field e_o_indexAddr e_o_index e_o_slice0 e_o_slice1 e_o_slice2 e_o_slice3 e_o_makeSlice e_o_makeFunc e_o_convert e_o_extract e_o_nilCheck e_o_bcall e_o_vcall litI litB litS
attribute [local go_sem] List.map_cons List.map_nil List.getD_cons_zero List.getD_cons_succ List.getD_nil List.getElem?_cons_zero List.getElem?_cons_succ List.getElem?_nil Option.getD_some Option.getD_none Option.map_some Option.map_none List.length_cons List.length_nil List.all_cons List.all_nil Bool.and_true Bool.true_and and_true true_and and_self List.take_zero List.take_succ_cons List.drop_zero List.drop_succ_cons List.nil_append List.cons_append List.append_nil List.replicate_succ List.replicate_zero List.flatten_cons List.flatten_nil Nat.zero_add Nat.add_zero Nat.mul_one Nat.zero_mul Nat.one_mul Nat.mul_zero List.set_cons_zero List.set_cons_succ List.foldl_cons List.foldl_nil appendOk rowsOk inB sliceOk cutRows mtake mdrop List.length_append List.length_take List.length_drop if_true if_false or_false or_true true_or Bool.not_true Bool.not_false Bool.false_eq_true List.length_map Int.toNat_natCast Int.toNat_zero Int.toNat_one eq_self St.after St.put applyEff R0 T1 T2 T3 T4 T5 T9 T15 T22 T24 T25 T26 T28 T29 T30 T32 T34 T36 T39 T42 T44 T47 T49 T51 T52 T54 T55 T57 T58 T60 T64 T68 T70 T72 T74 T76 T81 T83 T87 T90 T94 T97 T102 T113 T116 T119 T131 T134 T143 T145 T149 T151 T154 ti1 ti2 ti3 ti4 ti5 ti9 ti15 ti22 ti24 ti25 ti26 ti28 ti29 ti30 ti32 ti34 ti36 ti39 ti42 ti44 ti47 ti49 ti51 ti52 ti54 ti55 ti57 ti58 ti60 ti64 ti68 ti70 ti72 ti74 ti76 ti81 ti83 ti87 ti90 ti94 ti97 ti102 ti113 ti116 ti119 ti131 ti134 ti143 ti145 ti149 ti151 ti154
section
set_option linter.unusedVariables false
set_option linter.unusedSimpArgs false
open Go.RowKit
attribute [local irreducible] AWp evOps evD
def putR (n : Nat) (r : Rw) : List Rw → List Rw
  | [] => [r]
  | x :: l => if cmpVs (keyR x n) (keyR r n) < 0 then x :: putR n r l else if (cmpVs (keyR x n) (keyR r n) == 0) = true then x :: l else r :: x :: l
theorem keyR_ok {l : Rw} {n : Nat} (h : RwOk l) : ∀ v ∈ keyR l n, VlOk v := fun v hv => by
  simp only [keyR, List.mem_map] at hv
  obtain ⟨c, hc, rfl⟩ := hv
  exact h.2 c (List.mem_of_mem_take hc)
theorem take_succ' {α : Type} (l : List α) (d : α) {i : Nat} (h : i < l.length) : l.take (i + 1) = l.take i ++ [l.getD i d] := by
  rw [List.take_succ_eq_append_getElem h]; simp [List.getD_eq_getElem?_getD, h]
set_option maxHeartbeats 4000000 in
set_option maxRecDepth 10000 in
theorem f25_spec (l : List Rw) (n : Nat) (r : Rw) (hl : ∀ x ∈ l, RwOk x) (hr : RwOk r) (hll : l.length ≤ 1000) : Spec Try.prog 25 [.d (rwsD l), litI .i64 (n : Int), .agg (rwA r)] (.d (rwsD (putR n r l))) := by
  have h21r := f21_spec r n hr.1
  have okr : ∀ v ∈ keyR r n, VlOk v := keyR_ok hr
  refine spec_of_awp (fn := Try.f25) Try.func25 (by kernel_rfl) rfl ?_
  intro w0 C0
  simp only [Try.ntmps25, litI, litB, litS, List.length_cons, List.length_nil, Nat.reduceAdd, Nat.reduceSub, List.replicate_succ, List.replicate_zero, List.cons_append, List.nil_append]
  repeat' first
    | refine awp_seq ?_
    | refine awp_block ?_
    | refine awp_skip ?_
    | (refine reg _ (by (simp only [List.map_cons, List.map_nil]; rfl)) rfl ?_; intro K hK)
    | (refine awp_cond _ (by rfl) ?_ ?_ <;> (intro hb; first | (cases hb; done) | (have ht : true = true := hb; clear ht hb) | (have ht : false = false := hb; clear ht hb) | (simp only [hb]) | skip))
    | (refine awp_exit ?_; simp only [thenA, blockA, scopeA, reduceIte, RetQ, Nat.reduceEqDiff])
    | (refine awp_ret ?_; simp only [thenA, blockA, scopeA, RetQ])
    | (refine ev_nil (hK _ ?_); clear hK K)
    | (apply ev_step0; (case hr | hσ => (simp only [go_sem]; try rfl)); (case hc => (first | trivial | decide | (simp only [inB, sliceOk, appendOk, rowsOk]; omega) | (simp [inB, sliceOk, appendOk, rowsOk]; omega))))
    | (apply ev_step; (case hr => (simp only [go_sem]; try rfl)); (case hσ => (intro g u; simp only [go_sem]; try rfl)); (case hc => (first | trivial | decide | (simp only [inB, sliceOk, appendOk, rowsOk]; omega) | (simp [inB, sliceOk, appendOk, rowsOk]; omega))); intro g u; (try clear u); (try clear g))
    | fail
  refine awp_loopI (fun i : Nat => i ≤ l.length ∧ putR n r l = l.take i ++ putR n r (l.drop i)) (fun i => l.length - i) (fun i => ⟨[.d (rwsD l), litI .i64 n, .any, .any, .any, .ptr 5 g 0, .d (.lit (.slice none 0 0)), litI .i64 i, .any, .any, .any, .any, .any, .any, .any, .any, .any, .any, .any, .any, .any, .any, .any, .any, .any, .any, .any, .any, .any, .any, .any, .any, .any, .any, .any, .any, .any, .any, .any, .any, .any, .any, .any, .any, .any, .any, .any, .any, .any, .any, .any, .any, .any, .any, .any, .any], [.no, .no, .no, .no, .no, .box g (rwA r), .no, .no, .no, .no, .no, .no, .no, .no, .no, .no, .no, .no, .no, .no, .no, .no, .no, .no, .no, .no, .no, .no, .no, .no, .no, .no, .no, .no, .no, .no, .no, .no, .no, .no, .no, .no, .no, .no, .no, .no, .no, .no, .no, .no, .no, .no, .no, .no, .no, .no]⟩) 0 ⟨by omega, by simp⟩ ?_ ?_
  · refine Wk.mk ?_ ?_
    all_goals (repeat' first | exact trivial | exact LeA.refl _ | exact LeA.any _ | exact LeO.refl _ | exact LeO.no _ | exact LeA.nil _ | exact LeA.nilOwn _ | exact LeO.nil _ _ _ | refine LeO.box ?_ | (refine LeA.i ?_; (first | rfl | (push_cast; rfl) | (rw [wrap_id (by omega)]; push_cast; omega) | (simp [wrap_id]; omega))) | refine ⟨?_, ?_⟩)
  rintro i ⟨hi, hP⟩
  simp only [litI, litB] at hi hP ⊢
  by_cases h1 : i < l.length
  · have d1 : decide ((i : Int) < (l.length : Int)) = true := decide_eq_true (by omega)
    have hx := rws_at l h1
    have ho := hl _ (getD_mem' h1 [])
    have htk := take_succ' l [] h1
    rw [drop_at l [] h1] at hP
    have hdr := drop_at l [] h1
    simp only [putR] at hP
    generalize l.getD i [] = x at *
    have h21 := f21_spec x n ho.1
    have h55 := f55_spec (keyR x n) (keyR r n) (keyR_ok ho) okr
    have h47 := f47_spec (keyR x n) (keyR r n) (keyR_ok ho) okr
    generalize keyR x n = kx at *
    generalize keyR r n = kr at *
    by_cases hc : cmpVs kx kr < 0
    · have d2 : decide (cmpVs kx kr < 0) = true := decide_eq_true hc
      rw [if_pos hc] at hP
      repeat' first
        | refine awp_seq ?_
        | refine awp_block ?_
        | refine awp_skip ?_
        | (refine reg _ (by (simp only [List.map_cons, List.map_nil]; rfl)) rfl ?_; intro K hK)
        | (refine awp_cond _ (by rfl) ?_ ?_ <;> (intro hb; first | (cases hb; done) | (have ht : true = true := hb; clear ht hb) | (have ht : false = false := hb; clear ht hb) | (simp only [hb]) | skip))
        | (refine awp_exit ?_; simp only [thenA, blockA, scopeA, reduceIte, RetQ, Nat.reduceEqDiff])
        | (refine awp_ret ?_; simp only [thenA, blockA, scopeA, RetQ])
        | (refine ev_nil (hK _ ?_); clear hK K)
        | (apply regD; (case hd => (simp only [List.map_cons, List.map_nil]; rfl)); (case hok => rfl); (case' h => (intro K hK; (repeat' first
        | (apply evd_nil; refine (hK _ ?_); clear hK K)
        | (apply evd_guardU0; (case hj | hu | hσ => (simp only [go_sem, d1, hx, d2]; try rfl)))
        | (apply evd_guardU; (case hj | hu | hσ => (simp only [go_sem, d1, hx, d2]; try rfl)))
        | (apply evd_skipT0; (case hj | hb | hσ => (simp only [go_sem, d1, hx, d2]; try rfl)))
        | (apply evd_skipF0; (case hj | hb | hσ => (simp only [go_sem, d1, hx, d2]; try rfl)))
        | (apply evd_skipT; (case hj | hb | hσ => (simp only [go_sem, d1, hx, d2]; try rfl)))
        | (apply evd_skipF; (case hj | hb | hσ => (simp only [go_sem, d1, hx, d2]; try rfl)))
        | (apply evd_guardT; (case hj | hb => (simp only [go_sem, d1, hx, d2]; try rfl)); (case' h2 => (intro hb; first | (cases hb; done) | (simp only [hb]) | skip)); (case' h1 => (intro hb; first | (cases hb; done) | (simp only [hb]) | skip)))
        | (apply evd_guardF; (case hj | hb => (simp only [go_sem, d1, hx, d2]; try rfl)); (case' h2 => (intro hb; first | (cases hb; done) | (simp only [hb]) | skip)); (case' h1 => (intro hb; first | (cases hb; done) | (simp only [hb]) | skip)))
        | (apply evd_call0; (case hi | hys => (simp only [go_sem, d1, hx, d2]; try rfl)); (case hs => first | exact h21r .. | exact h21 .. | exact h55 .. | exact h47 ..); (case hok | hw | hσ => (simp only [go_sem, d1, hx, d2]; try rfl)))
        | (apply evd_step0; (case hr | hi | hσ => (simp only [go_sem, d1, hx, d2]; try rfl)); (case hc => (first | trivial | decide | (simp only [inB, sliceOk, appendOk, rowsOk]; omega) | (simp [inB, sliceOk, appendOk, rowsOk]; omega))))
        | (apply evd_step; (case hr | hi => (simp only [go_sem, d1, hx, d2]; try rfl)); (case hc => (first | trivial | decide | (simp only [inB, sliceOk, appendOk, rowsOk]; omega) | (simp [inB, sliceOk, appendOk, rowsOk]; omega))); (case hw | hσ => (intro g u; simp only [go_sem, d1, hx, d2]; try rfl)); (case' hk => (intro g u; (try clear u); (try clear g))))
        | fail))); (case hB => kernel_rfl))
        | (apply ev_step0; (case hr | hσ => (simp only [go_sem, d1, hx, d2]; try rfl)); (case hc => (first | trivial | decide | (simp only [inB, sliceOk, appendOk, rowsOk]; omega) | (simp [inB, sliceOk, appendOk, rowsOk]; omega))))
        | (apply ev_step; (case hr => (simp only [go_sem, d1, hx, d2]; try rfl)); (case hσ => (intro g u; simp only [go_sem, d1, hx, d2]; try rfl)); (case hc => (first | trivial | decide | (simp only [inB, sliceOk, appendOk, rowsOk]; omega) | (simp [inB, sliceOk, appendOk, rowsOk]; omega))); intro g u; (try clear u); (try clear g))
        | fail
      refine Exists.intro (i + 1) ⟨⟨by omega, ?_⟩, by omega, ?_⟩
      · rw [hP, htk, List.append_assoc]; rfl
      · refine Wk.mk ?_ ?_
        all_goals (repeat' first | exact trivial | exact LeA.refl _ | exact LeA.any _ | exact LeO.refl _ | exact LeO.no _ | exact LeA.nil _ | exact LeA.nilOwn _ | exact LeO.nil _ _ _ | refine LeO.box ?_ | (refine LeA.i ?_; (first | rfl | (push_cast; rfl) | (rw [wrap_id (by omega)]; push_cast; omega) | (simp [wrap_id]; omega))) | refine ⟨?_, ?_⟩)
    · have d2 : decide (cmpVs kx kr < 0) = false := decide_eq_false hc
      rw [if_neg hc] at hP
      cases he : (cmpVs kx kr == 0) with
      | true =>
        rw [he, if_pos rfl, ← hdr, List.take_append_drop] at hP
        repeat' first
          | refine awp_seq ?_
          | refine awp_block ?_
          | refine awp_skip ?_
          | (refine reg _ (by (simp only [List.map_cons, List.map_nil]; rfl)) rfl ?_; intro K hK)
          | (refine awp_cond _ (by rfl) ?_ ?_ <;> (intro hb; first | (cases hb; done) | (have ht : true = true := hb; clear ht hb) | (have ht : false = false := hb; clear ht hb) | (simp only [hb]) | skip))
          | (refine awp_exit ?_; simp only [thenA, blockA, scopeA, reduceIte, RetQ, Nat.reduceEqDiff])
          | (refine awp_ret ?_; simp only [thenA, blockA, scopeA, RetQ])
          | (refine ev_nil (hK _ ?_); clear hK K)
          | (apply regD; (case hd => (simp only [List.map_cons, List.map_nil]; rfl)); (case hok => rfl); (case' h => (intro K hK; (repeat' first
        | (apply evd_nil; refine (hK _ ?_); clear hK K)
        | (apply evd_guardU0; (case hj | hu | hσ => (simp only [go_sem, d1, hx, d2, he]; try rfl)))
        | (apply evd_guardU; (case hj | hu | hσ => (simp only [go_sem, d1, hx, d2, he]; try rfl)))
        | (apply evd_skipT0; (case hj | hb | hσ => (simp only [go_sem, d1, hx, d2, he]; try rfl)))
        | (apply evd_skipF0; (case hj | hb | hσ => (simp only [go_sem, d1, hx, d2, he]; try rfl)))
        | (apply evd_skipT; (case hj | hb | hσ => (simp only [go_sem, d1, hx, d2, he]; try rfl)))
        | (apply evd_skipF; (case hj | hb | hσ => (simp only [go_sem, d1, hx, d2, he]; try rfl)))
        | (apply evd_guardT; (case hj | hb => (simp only [go_sem, d1, hx, d2, he]; try rfl)); (case' h2 => (intro hb; first | (cases hb; done) | (simp only [hb]) | skip)); (case' h1 => (intro hb; first | (cases hb; done) | (simp only [hb]) | skip)))
        | (apply evd_guardF; (case hj | hb => (simp only [go_sem, d1, hx, d2, he]; try rfl)); (case' h2 => (intro hb; first | (cases hb; done) | (simp only [hb]) | skip)); (case' h1 => (intro hb; first | (cases hb; done) | (simp only [hb]) | skip)))
        | (apply evd_call0; (case hi | hys => (simp only [go_sem, d1, hx, d2, he]; try rfl)); (case hs => first | exact h21r .. | exact h21 .. | exact h55 .. | exact h47 ..); (case hok | hw | hσ => (simp only [go_sem, d1, hx, d2, he]; try rfl)))
        | (apply evd_step0; (case hr | hi | hσ => (simp only [go_sem, d1, hx, d2, he]; try rfl)); (case hc => (first | trivial | decide | (simp only [inB, sliceOk, appendOk, rowsOk]; omega) | (simp [inB, sliceOk, appendOk, rowsOk]; omega))))
        | (apply evd_step; (case hr | hi => (simp only [go_sem, d1, hx, d2, he]; try rfl)); (case hc => (first | trivial | decide | (simp only [inB, sliceOk, appendOk, rowsOk]; omega) | (simp [inB, sliceOk, appendOk, rowsOk]; omega))); (case hw | hσ => (intro g u; simp only [go_sem, d1, hx, d2, he]; try rfl)); (case' hk => (intro g u; (try clear u); (try clear g))))
        | fail))); (case hB => kernel_rfl))
          | (apply ev_step0; (case hr | hσ => (simp only [go_sem, d1, hx, d2, he]; try rfl)); (case hc => (first | trivial | decide | (simp only [inB, sliceOk, appendOk, rowsOk]; omega) | (simp [inB, sliceOk, appendOk, rowsOk]; omega))))
          | (apply ev_step; (case hr => (simp only [go_sem, d1, hx, d2, he]; try rfl)); (case hσ => (intro g u; simp only [go_sem, d1, hx, d2, he]; try rfl)); (case hc => (first | trivial | decide | (simp only [inB, sliceOk, appendOk, rowsOk]; omega) | (simp [inB, sliceOk, appendOk, rowsOk]; omega))); intro g u; (try clear u); (try clear g))
          | fail
        all_goals (refine resR_one T_ok rfl _ (by (simp only [go_sem, resA]; rfl)) (by first | trivial | (simp only [go_sem, resA])) (by first | trivial | (simp only [go_sem])) ?_; simp only [go_sem])
        exact LeA.s (by rw [hP])
      | false =>
        rw [he, if_neg Bool.false_ne_true, ← hdr] at hP
        repeat' first
          | refine awp_seq ?_
          | refine awp_block ?_
          | refine awp_skip ?_
          | (refine reg _ (by (simp only [List.map_cons, List.map_nil]; rfl)) rfl ?_; intro K hK)
          | (refine awp_cond _ (by rfl) ?_ ?_ <;> (intro hb; first | (cases hb; done) | (have ht : true = true := hb; clear ht hb) | (have ht : false = false := hb; clear ht hb) | (simp only [hb]) | skip))
          | (refine awp_exit ?_; simp only [thenA, blockA, scopeA, reduceIte, RetQ, Nat.reduceEqDiff])
          | (refine awp_ret ?_; simp only [thenA, blockA, scopeA, RetQ])
          | (refine ev_nil (hK _ ?_); clear hK K)
          | (apply regD; (case hd => (simp only [List.map_cons, List.map_nil]; rfl)); (case hok => rfl); (case' h => (intro K hK; (repeat' first
        | (apply evd_nil; refine (hK _ ?_); clear hK K)
        | (apply evd_guardU0; (case hj | hu | hσ => (simp only [go_sem, d1, hx, d2, he]; try rfl)))
        | (apply evd_guardU; (case hj | hu | hσ => (simp only [go_sem, d1, hx, d2, he]; try rfl)))
        | (apply evd_skipT0; (case hj | hb | hσ => (simp only [go_sem, d1, hx, d2, he]; try rfl)))
        | (apply evd_skipF0; (case hj | hb | hσ => (simp only [go_sem, d1, hx, d2, he]; try rfl)))
        | (apply evd_skipT; (case hj | hb | hσ => (simp only [go_sem, d1, hx, d2, he]; try rfl)))
        | (apply evd_skipF; (case hj | hb | hσ => (simp only [go_sem, d1, hx, d2, he]; try rfl)))
        | (apply evd_guardT; (case hj | hb => (simp only [go_sem, d1, hx, d2, he]; try rfl)); (case' h2 => (intro hb; first | (cases hb; done) | (simp only [hb]) | skip)); (case' h1 => (intro hb; first | (cases hb; done) | (simp only [hb]) | skip)))
        | (apply evd_guardF; (case hj | hb => (simp only [go_sem, d1, hx, d2, he]; try rfl)); (case' h2 => (intro hb; first | (cases hb; done) | (simp only [hb]) | skip)); (case' h1 => (intro hb; first | (cases hb; done) | (simp only [hb]) | skip)))
        | (apply evd_call0; (case hi | hys => (simp only [go_sem, d1, hx, d2, he]; try rfl)); (case hs => first | exact h21r .. | exact h21 .. | exact h55 .. | exact h47 ..); (case hok | hw | hσ => (simp only [go_sem, d1, hx, d2, he]; try rfl)))
        | (apply evd_step0; (case hr | hi | hσ => (simp only [go_sem, d1, hx, d2, he]; try rfl)); (case hc => (first | trivial | decide | (simp only [inB, sliceOk, appendOk, rowsOk]; omega) | (simp [inB, sliceOk, appendOk, rowsOk]; omega))))
        | (apply evd_step; (case hr | hi => (simp only [go_sem, d1, hx, d2, he]; try rfl)); (case hc => (first | trivial | decide | (simp only [inB, sliceOk, appendOk, rowsOk]; omega) | (simp [inB, sliceOk, appendOk, rowsOk]; omega))); (case hw | hσ => (intro g u; simp only [go_sem, d1, hx, d2, he]; try rfl)); (case' hk => (intro g u; (try clear u); (try clear g))))
        | fail))); (case hB => kernel_rfl))
          | (apply ev_step0; (case hr | hσ => (simp only [go_sem, d1, hx, d2, he]; try rfl)); (case hc => (first | trivial | decide | (simp only [inB, sliceOk, appendOk, rowsOk]; omega) | (simp [inB, sliceOk, appendOk, rowsOk]; omega))))
          | (apply ev_step; (case hr => (simp only [go_sem, d1, hx, d2, he]; try rfl)); (case hσ => (intro g u; simp only [go_sem, d1, hx, d2, he]; try rfl)); (case hc => (first | trivial | decide | (simp only [inB, sliceOk, appendOk, rowsOk]; omega) | (simp [inB, sliceOk, appendOk, rowsOk]; omega))); intro g u; (try clear u); (try clear g))
          | fail
        all_goals (refine resR_one T_ok rfl _ (by (simp only [go_sem, resA]; rfl)) (by first | trivial | (simp only [go_sem, resA])) (by first | trivial | (simp only [go_sem])) ?_; simp only [go_sem])
        refine LeA.s ?_
        rw [hP]
        simp
  · have d1 : decide ((i : Int) < (l.length : Int)) = false := decide_eq_false (by omega)
    have : i = l.length := by omega
    subst this
    rw [List.take_length, List.drop_length] at hP
    simp only [putR] at hP
    repeat' first
      | refine awp_seq ?_
      | refine awp_block ?_
      | refine awp_skip ?_
      | (refine reg _ (by (simp only [List.map_cons, List.map_nil]; rfl)) rfl ?_; intro K hK)
      | (refine awp_cond _ (by rfl) ?_ ?_ <;> (intro hb; first | (cases hb; done) | (have ht : true = true := hb; clear ht hb) | (have ht : false = false := hb; clear ht hb) | (simp only [hb]) | skip))
      | (refine awp_exit ?_; simp only [thenA, blockA, scopeA, reduceIte, RetQ, Nat.reduceEqDiff])
      | (refine awp_ret ?_; simp only [thenA, blockA, scopeA, RetQ])
      | (refine ev_nil (hK _ ?_); clear hK K)
      | (apply regD; (case hd => (simp only [List.map_cons, List.map_nil]; rfl)); (case hok => rfl); (case' h => (intro K hK; (repeat' first
        | (apply evd_nil; refine (hK _ ?_); clear hK K)
        | (apply evd_guardU0; (case hj | hu | hσ => (simp only [go_sem, d1]; try rfl)))
        | (apply evd_guardU; (case hj | hu | hσ => (simp only [go_sem, d1]; try rfl)))
        | (apply evd_skipT0; (case hj | hb | hσ => (simp only [go_sem, d1]; try rfl)))
        | (apply evd_skipF0; (case hj | hb | hσ => (simp only [go_sem, d1]; try rfl)))
        | (apply evd_skipT; (case hj | hb | hσ => (simp only [go_sem, d1]; try rfl)))
        | (apply evd_skipF; (case hj | hb | hσ => (simp only [go_sem, d1]; try rfl)))
        | (apply evd_guardT; (case hj | hb => (simp only [go_sem, d1]; try rfl)); (case' h2 => (intro hb; first | (cases hb; done) | (simp only [hb]) | skip)); (case' h1 => (intro hb; first | (cases hb; done) | (simp only [hb]) | skip)))
        | (apply evd_guardF; (case hj | hb => (simp only [go_sem, d1]; try rfl)); (case' h2 => (intro hb; first | (cases hb; done) | (simp only [hb]) | skip)); (case' h1 => (intro hb; first | (cases hb; done) | (simp only [hb]) | skip)))
        | (apply evd_step0; (case hr | hi | hσ => (simp only [go_sem, d1]; try rfl)); (case hc => (first | trivial | decide | (simp only [inB, sliceOk, appendOk, rowsOk]; omega) | (simp [inB, sliceOk, appendOk, rowsOk]; omega))))
        | (apply evd_step; (case hr | hi => (simp only [go_sem, d1]; try rfl)); (case hc => (first | trivial | decide | (simp only [inB, sliceOk, appendOk, rowsOk]; omega) | (simp [inB, sliceOk, appendOk, rowsOk]; omega))); (case hw | hσ => (intro g u; simp only [go_sem, d1]; try rfl)); (case' hk => (intro g u; (try clear u); (try clear g))))
        | fail))); (case hB => kernel_rfl))
      | (apply ev_step0; (case hr | hσ => (simp only [go_sem, d1]; try rfl)); (case hc => (first | trivial | decide | (simp only [inB, sliceOk, appendOk, rowsOk]; omega) | (simp [inB, sliceOk, appendOk, rowsOk]; omega))))
      | (apply ev_step; (case hr => (simp only [go_sem, d1]; try rfl)); (case hσ => (intro g u; simp only [go_sem, d1]; try rfl)); (case hc => (first | trivial | decide | (simp only [inB, sliceOk, appendOk, rowsOk]; omega) | (simp [inB, sliceOk, appendOk, rowsOk]; omega))); intro g u; (try clear u); (try clear g))
      | fail
    all_goals (refine resR_one T_ok rfl _ (by (simp only [go_sem, resA]; rfl)) (by first | trivial | (simp only [go_sem, resA])) (by first | trivial | (simp only [go_sem])) ?_; simp only [go_sem])
    refine LeA.s ?_
    rw [hP]
    simp
def withoutR (st : Stt) (t i : Nat) : Stt := st.set t ((st.getD t []).take i ++ (st.getD t []).drop (i + 1))
set_option maxHeartbeats 4000000 in
set_option maxRecDepth 10000 in
theorem f26_spec (st : Stt) (t i : Nat) (ht : t < st.length) (hst : st.length ≤ 1000) (hi : i < (st.getD t []).length) (hll : (st.getD t []).length ≤ 1000) : Spec Try.prog 26 [.agg (stA st), litI .i64 (t : Int), litI .i64 (i : Int)] (.agg (stA (withoutR st t i))) := by
  have hx := stt_at st ht
  rw [withoutR]
  have e1 : (((i : Int) + 1).toNat) = i + 1 := by omega
  generalize hl : st.getD t [] = l at *
  have hm : (st.map fun t => [rwsD t]).set t [rwsD (l.take i ++ l.drop (i + 1))] = (st.set t (l.take i ++ l.drop (i + 1))).map fun t => [rwsD t] := by rw [List.map_set]
  have w1 : IntKind.i64.wrap ((i : Int) + 1) = ((i + 1 : Nat) : Int) := by rw [wrap_id (by omega)]; push_cast; rfl
  refine spec_of_awp (fn := Try.f26) Try.func26 (by kernel_rfl) rfl ?_
  intro w0 C0
  simp only [Try.ntmps26, litI, litB, litS, List.length_cons, List.length_nil, Nat.reduceAdd, Nat.reduceSub, List.replicate_succ, List.replicate_zero, List.cons_append, List.nil_append]
  repeat' first
    | refine awp_seq ?_
    | refine awp_block ?_
    | refine awp_skip ?_
    | (refine reg _ (by (simp only [List.map_cons, List.map_nil]; rfl)) rfl ?_; intro K hK)
    | (refine awp_cond _ (by rfl) ?_ ?_ <;> (intro hb; first | (cases hb; done) | (have ht : true = true := hb; clear ht hb) | (have ht : false = false := hb; clear ht hb) | (simp only [hb]) | skip))
    | (refine awp_exit ?_; simp only [thenA, blockA, scopeA, reduceIte, RetQ, Nat.reduceEqDiff])
    | (refine awp_ret ?_; simp only [thenA, blockA, scopeA, RetQ])
    | (refine ev_nil (hK _ ?_); clear hK K)
    | (apply regD; (case hd => (simp only [List.map_cons, List.map_nil]; rfl)); (case hok => rfl); (case' h => (intro K hK; (repeat' first
        | (apply evd_nil; refine (hK _ ?_); clear hK K)
        | (apply evd_step0; (case hr | hi | hσ => (simp only [go_sem, hx, w1]; try rfl)); (case hc => (first | trivial | decide | (simp only [inB, sliceOk, appendOk, rowsOk]; omega) | (simp [inB, sliceOk, appendOk, rowsOk]; omega))))
        | (apply evd_step; (case hr | hi => (simp only [go_sem, hx, w1]; try rfl)); (case hc => (first | trivial | decide | (simp only [inB, sliceOk, appendOk, rowsOk]; omega) | (simp [inB, sliceOk, appendOk, rowsOk]; omega))); (case hw | hσ => (intro g u; simp only [go_sem, hx, w1]; try rfl)); (case' hk => (intro g u; (try clear u); (try clear g))))
        | fail))); (case hB => kernel_rfl))
    | (apply ev_step0; (case hr | hσ => (simp only [go_sem, hx, w1]; try rfl)); (case hc => (first | trivial | decide | (simp only [inB, sliceOk, appendOk, rowsOk]; omega) | (simp [inB, sliceOk, appendOk, rowsOk]; omega))))
    | (apply ev_step; (case hr => (simp only [go_sem, hx, w1]; try rfl)); (case hσ => (intro g u; simp only [go_sem, hx, w1]; try rfl)); (case hc => (first | trivial | decide | (simp only [inB, sliceOk, appendOk, rowsOk]; omega) | (simp [inB, sliceOk, appendOk, rowsOk]; omega))); intro g u; (try clear u); (try clear g))
    | fail
  all_goals (refine resR_one T_ok rfl _ (by (simp only [go_sem, resA]; rfl)) (by first | trivial | (simp only [go_sem, resA])) (by first | trivial | (simp only [go_sem])) ?_; simp only [go_sem])
  refine LeA.agg ⟨?_, trivial⟩
  refine LeA.s ?_
  rw [← hm]
  simp [rwsD]
end
section
set_option linter.unusedVariables false
set_option linter.unusedSimpArgs false
open Go.RowKit
attribute [local irreducible] AWp evOps evD
def wordsL : List ByteArray := [⟨#[]⟩, ⟨#[97]⟩, ⟨#[98]⟩, ⟨#[97, 98]⟩, ⟨#[97, 32, 98]⟩, ⟨#[98, 32, 97, 32, 99]⟩, ⟨#[120, 45, 121]⟩, ⟨#[45]⟩, ⟨#[49, 50]⟩, ⟨#[45, 48, 46, 53]⟩, ⟨#[97, 34, 98]⟩, ⟨#[92]⟩, ⟨#[48]⟩, ⟨#[55, 46, 50, 53]⟩, ⟨#[97, 98, 99, 100, 101, 102, 103, 104, 105, 106, 107, 108, 109, 110, 111, 112, 113, 114, 115, 116, 117, 118, 119, 120, 121, 122, 97, 98, 99, 100, 101, 102, 103, 104, 105, 106, 107, 108, 109, 110]⟩]
def wordM (n : Int) : ByteArray := wordsL.getD (n.tmod 15).toNat ⟨#[]⟩
theorem wordsL_at {i : Nat} (h : i < 15) : (wordsL.map fun b => [Dat.lit (.string b)]).getD i [] = [.lit (.string (wordsL.getD i ⟨#[]⟩))] := by
  have : i < wordsL.length := h
  simp only [List.getD_eq_getElem?_getD, List.getElem?_map, List.getElem?_eq_getElem this]; rfl
set_option maxHeartbeats 4000000 in
theorem f77_spec (n : Int) (hn : 0 ≤ n) : Spec Try.prog 77 [litI .i64 n] (litS (wordM n)) := by
  have h1 := Int.tmod_nonneg 15 hn
  have h2 := Int.tmod_lt_of_pos n (b := 15) (by decide)
  rw [wordM]
  obtain ⟨k, hk⟩ : ∃ k : Nat, n.tmod 15 = k := ⟨(n.tmod 15).toNat, by omega⟩
  have hx := wordsL_at (i := k) (by omega)
  rw [hk, Int.toNat_natCast]
  generalize wordsL.getD k ⟨#[]⟩ = b at *
  simp only [wordsL, List.map_cons, List.map_nil] at hx
  refine spec_of_awp (fn := Try.f77) Try.func77 (by kernel_rfl) rfl ?_
  intro w0 C0
  simp only [Try.ntmps77, litI, litB, litS, List.length_cons, List.length_nil, Nat.reduceAdd, Nat.reduceSub, List.replicate_succ, List.replicate_zero, List.cons_append, List.nil_append]
  repeat' first
    | refine awp_seq ?_
    | refine awp_block ?_
    | refine awp_skip ?_
    | (refine reg _ (by (simp only [List.map_cons, List.map_nil]; rfl)) rfl ?_; intro K hK)
    | (refine awp_cond _ (by rfl) ?_ ?_ <;> (intro hb; first | (cases hb; done) | (have ht : true = true := hb; clear ht hb) | (have ht : false = false := hb; clear ht hb) | (simp only [hb]) | skip))
    | (refine awp_exit ?_; simp only [thenA, blockA, scopeA, reduceIte, RetQ, Nat.reduceEqDiff])
    | (refine awp_ret ?_; simp only [thenA, blockA, scopeA, RetQ])
    | (refine ev_nil (hK _ ?_); clear hK K)
    | (apply ev_step0; (case hr | hσ => (simp only [go_sem, hk, hx]; try rfl)); (case hc => (first | trivial | decide | (simp only [inB, sliceOk, appendOk, rowsOk]; omega) | (simp [inB, sliceOk, appendOk, rowsOk]; omega))))
    | (apply ev_step; (case hr => (simp only [go_sem, hk, hx]; try rfl)); (case hσ => (intro g u; simp only [go_sem, hk, hx]; try rfl)); (case hc => (first | trivial | decide | (simp only [inB, sliceOk, appendOk, rowsOk]; omega) | (simp [inB, sliceOk, appendOk, rowsOk]; omega))); intro g u; (try clear u); (try clear g))
    | fail
  all_goals (refine resR_one T_ok rfl _ (by (simp only [go_sem, resA]; rfl)) (by first | trivial | (simp only [go_sem, resA])) (by first | trivial | (simp only [go_sem])) ?_; simp only [go_sem])
  exact LeA.refl _
/-- The value of a type that two bytes describe. -/
def valM (t : Ty) (a b : Int) : Vl :=
  if (t.null && (a.tmod 5 == 0)) = true then nullV
  else if (t.k == 1) = true then boolV (b.tmod 2 == 1)
  else if (t.k == 2) = true then (if (a.tmod 4 == 1) = true then ⟨2, (b.tmod 40 - 12) * stepV t.scale.toNat, ⟨#[]⟩⟩ else ⟨2, (b.tmod 40 - 12) * 1000000, ⟨#[]⟩⟩)
  else ⟨3, 0, wordM b⟩
theorem wrap_u8 {n : Int} (h : 0 ≤ n ∧ n < 256) : IntKind.u8.wrap n = n := by
  simp [IntKind.wrap, IntKind.bits, IntKind.signed]; omega
set_option maxHeartbeats 4000000 in
set_option maxRecDepth 10000 in
theorem f59_spec (t : Ty) (a b : Int) (ht : 0 ≤ t.scale ∧ t.scale ≤ 6) (ha : 0 ≤ a ∧ a < 256) (hb : 0 ≤ b ∧ b < 256) : Spec Try.prog 59 [.agg (tyA t), .agg [litI .u8 a, litI .u8 b]] (.agg (vl (valM t a b))) := by
  obtain ⟨k, sc, nu⟩ := t
  obtain ⟨sn, rfl⟩ : ∃ sn : Nat, sc = sn := ⟨sc.toNat, by simp only at ht; omega⟩
  simp only at ht
  have h74 := f74_spec (b.tmod 2 == 1)
  have h76 := f76_spec sn (by omega)
  have hst := stepV_bd sn
  have hb40 := Int.tmod_lt_of_pos b (b := 40) (by decide)
  have hb40' := Int.tmod_nonneg 40 hb.1
  have h60 := f60_spec (b.tmod 40 - 12) (by omega)
  have h77 := f77_spec b hb.1
  have w1 : IntKind.i64.wrap (b.tmod 40) = b.tmod 40 := wrap_id (by omega)
  have w2 : IntKind.i64.wrap (b.tmod 40 - 12) = b.tmod 40 - 12 := wrap_id (by omega)
  have w3 : IntKind.i64.wrap ((b.tmod 40 - 12) * stepV sn) = (b.tmod 40 - 12) * stepV sn := by
    have e1 : (b.tmod 40 - 12) * stepV sn ≤ 27 * stepV sn := Int.mul_le_mul_of_nonneg_right (by omega) hst.1
    have e2 : -12 * stepV sn ≤ (b.tmod 40 - 12) * stepV sn := Int.mul_le_mul_of_nonneg_right (by omega) hst.1
    exact wrap_id (by omega)
  have w4 : IntKind.i64.wrap b = b := wrap_id (by omega)
  unfold valM
  simp only [Int.toNat_natCast]
  generalize stepV sn = sv at *
  generalize wordM b = wd at *
  cases h0 : (nu && (a.tmod 5 == 0)) with
  | true =>
    have hnu : nu = true := by cases nu <;> simp at h0 ⊢
    have ha5 : (a.tmod 5 == 0) = true := by cases nu <;> simp_all
    subst hnu
    rw [if_pos rfl]
    refine spec_of_awp (fn := Try.f59) Try.func59 (by kernel_rfl) rfl ?_
    intro w0 C0
    simp only [Try.ntmps59, litI, litB, litS, List.length_cons, List.length_nil, Nat.reduceAdd, Nat.reduceSub, List.replicate_succ, List.replicate_zero, List.cons_append, List.nil_append]
    repeat' first
      | refine awp_seq ?_
      | refine awp_block ?_
      | refine awp_skip ?_
      | (refine reg _ (by (simp only [List.map_cons, List.map_nil]; rfl)) rfl ?_; intro K hK)
      | (refine awp_cond _ (by rfl) ?_ ?_ <;> (intro hb; first | (cases hb; done) | (have ht : true = true := hb; clear ht hb) | (have ht : false = false := hb; clear ht hb) | (simp only [hb]) | skip))
      | (refine awp_exit ?_; simp only [thenA, blockA, scopeA, reduceIte, RetQ, Nat.reduceEqDiff])
      | (refine awp_ret ?_; simp only [thenA, blockA, scopeA, RetQ])
      | (refine ev_nil (hK _ ?_); clear hK K)
      | (apply ev_guardU; (case hj | hu | hσ => (simp only [go_sem, ha5]; try rfl)))
      | (refine ev_guardT _ _ (by (simp only [go_sem, ha5]; rfl)) (by (simp only [go_sem, ha5]; rfl)) ?_ ?_ <;> (intro hb; first | (cases hb; done) | (have ht : true = true := hb; clear ht hb) | (have ht : false = false := hb; clear ht hb) | (simp only [hb]) | skip))
      | (refine ev_guardF _ _ (by (simp only [go_sem, ha5]; rfl)) (by (simp only [go_sem, ha5]; rfl)) ?_ ?_ <;> (intro hb; first | (cases hb; done) | (have ht : true = true := hb; clear ht hb) | (have ht : false = false := hb; clear ht hb) | (simp only [hb]) | skip))
      | (apply ev_call0; (case hys => (simp only [go_sem, ha5]; try rfl)); (case hs => first | exact f31_spec ..); (case hok | hσ => (simp only [go_sem, ha5]; try rfl)))
      | (apply ev_step0; (case hr | hσ => (simp only [go_sem, ha5]; try rfl)); (case hc => (first | trivial | decide | (simp only [inB, sliceOk, appendOk, rowsOk]; omega) | (simp [inB, sliceOk, appendOk, rowsOk]; omega))))
      | (apply ev_step; (case hr => (simp only [go_sem, ha5]; try rfl)); (case hσ => (intro g u; simp only [go_sem, ha5]; try rfl)); (case hc => (first | trivial | decide | (simp only [inB, sliceOk, appendOk, rowsOk]; omega) | (simp [inB, sliceOk, appendOk, rowsOk]; omega))); intro g u; (try clear u); (try clear g))
      | fail
    all_goals (refine resR_one T_ok rfl _ (by (simp only [go_sem, resA]; rfl)) (by first | trivial | (simp only [go_sem, resA])) (by first | trivial | (simp only [go_sem])) ?_; simp only [go_sem])
    exact LeA.refl _
  | false =>
  rw [if_neg Bool.false_ne_true]
  cases h1 : (k == 1) with
  | true =>
    rw [if_pos rfl]
    cases nu
    all_goals
      (try (rw [Bool.true_and] at h0))
      refine spec_of_awp (fn := Try.f59) Try.func59 (by kernel_rfl) rfl ?_
      intro w0 C0
      simp only [Try.ntmps59, litI, litB, litS, List.length_cons, List.length_nil, Nat.reduceAdd, Nat.reduceSub, List.replicate_succ, List.replicate_zero, List.cons_append, List.nil_append]
      repeat' first
        | refine awp_seq ?_
        | refine awp_block ?_
        | refine awp_skip ?_
        | (refine reg _ (by (simp only [List.map_cons, List.map_nil]; rfl)) rfl ?_; intro K hK)
        | (refine awp_cond _ (by rfl) ?_ ?_ <;> (intro hb; first | (cases hb; done) | (have ht : true = true := hb; clear ht hb) | (have ht : false = false := hb; clear ht hb) | (simp only [hb]) | skip))
        | (refine awp_exit ?_; simp only [thenA, blockA, scopeA, reduceIte, RetQ, Nat.reduceEqDiff])
        | (refine awp_ret ?_; simp only [thenA, blockA, scopeA, RetQ])
        | (refine ev_nil (hK _ ?_); clear hK K)
        | (apply ev_guardU; (case hj | hu | hσ => (simp only [go_sem, h0, h1]; try rfl)))
        | (refine ev_guardT _ _ (by (simp only [go_sem, h0, h1]; rfl)) (by (simp only [go_sem, h0, h1]; rfl)) ?_ ?_ <;> (intro hb; first | (cases hb; done) | (have ht : true = true := hb; clear ht hb) | (have ht : false = false := hb; clear ht hb) | (simp only [hb]) | skip))
        | (refine ev_guardF _ _ (by (simp only [go_sem, h0, h1]; rfl)) (by (simp only [go_sem, h0, h1]; rfl)) ?_ ?_ <;> (intro hb; first | (cases hb; done) | (have ht : true = true := hb; clear ht hb) | (have ht : false = false := hb; clear ht hb) | (simp only [hb]) | skip))
        | (apply ev_call0; (case hys => (simp only [go_sem, h0, h1]; try rfl)); (case hs => first | exact h74 ..); (case hok | hσ => (simp only [go_sem, h0, h1]; try rfl)))
        | (apply ev_step0; (case hr | hσ => (simp only [go_sem, h0, h1]; try rfl)); (case hc => (first | trivial | decide | (simp only [inB, sliceOk, appendOk, rowsOk]; omega) | (simp [inB, sliceOk, appendOk, rowsOk]; omega))))
        | (apply ev_step; (case hr => (simp only [go_sem, h0, h1]; try rfl)); (case hσ => (intro g u; simp only [go_sem, h0, h1]; try rfl)); (case hc => (first | trivial | decide | (simp only [inB, sliceOk, appendOk, rowsOk]; omega) | (simp [inB, sliceOk, appendOk, rowsOk]; omega))); intro g u; (try clear u); (try clear g))
        | fail
      all_goals (refine resR_one T_ok rfl _ (by (simp only [go_sem, resA]; rfl)) (by first | trivial | (simp only [go_sem, resA])) (by first | trivial | (simp only [go_sem])) ?_; simp only [go_sem])
      exact LeA.refl _
  | false =>
  rw [if_neg Bool.false_ne_true]
  cases h2 : (k == 2) with
  | false =>
    rw [if_neg Bool.false_ne_true]
    cases nu
    all_goals
      (try (rw [Bool.true_and] at h0))
      refine spec_of_awp (fn := Try.f59) Try.func59 (by kernel_rfl) rfl ?_
      intro w0 C0
      simp only [Try.ntmps59, litI, litB, litS, List.length_cons, List.length_nil, Nat.reduceAdd, Nat.reduceSub, List.replicate_succ, List.replicate_zero, List.cons_append, List.nil_append]
      repeat' first
        | refine awp_seq ?_
        | refine awp_block ?_
        | refine awp_skip ?_
        | (refine reg _ (by (simp only [List.map_cons, List.map_nil]; rfl)) rfl ?_; intro K hK)
        | (refine awp_cond _ (by rfl) ?_ ?_ <;> (intro hb; first | (cases hb; done) | (have ht : true = true := hb; clear ht hb) | (have ht : false = false := hb; clear ht hb) | (simp only [hb]) | skip))
        | (refine awp_exit ?_; simp only [thenA, blockA, scopeA, reduceIte, RetQ, Nat.reduceEqDiff])
        | (refine awp_ret ?_; simp only [thenA, blockA, scopeA, RetQ])
        | (refine ev_nil (hK _ ?_); clear hK K)
        | (apply ev_guardU; (case hj | hu | hσ => (simp only [go_sem, h0, h1, h2, w4]; try rfl)))
        | (refine ev_guardT _ _ (by (simp only [go_sem, h0, h1, h2, w4]; rfl)) (by (simp only [go_sem, h0, h1, h2, w4]; rfl)) ?_ ?_ <;> (intro hb; first | (cases hb; done) | (have ht : true = true := hb; clear ht hb) | (have ht : false = false := hb; clear ht hb) | (simp only [hb]) | skip))
        | (refine ev_guardF _ _ (by (simp only [go_sem, h0, h1, h2, w4]; rfl)) (by (simp only [go_sem, h0, h1, h2, w4]; rfl)) ?_ ?_ <;> (intro hb; first | (cases hb; done) | (have ht : true = true := hb; clear ht hb) | (have ht : false = false := hb; clear ht hb) | (simp only [hb]) | skip))
        | (apply ev_call0; (case hys => (simp only [go_sem, h0, h1, h2, w4]; try rfl)); (case hs => first | exact h77 .. | exact f75_spec ..); (case hok | hσ => (simp only [go_sem, h0, h1, h2, w4]; try rfl)))
        | (apply ev_step0; (case hr | hσ => (simp only [go_sem, h0, h1, h2, w4]; try rfl)); (case hc => (first | trivial | decide | (simp only [inB, sliceOk, appendOk, rowsOk]; omega) | (simp [inB, sliceOk, appendOk, rowsOk]; omega))))
        | (apply ev_step; (case hr => (simp only [go_sem, h0, h1, h2, w4]; try rfl)); (case hσ => (intro g u; simp only [go_sem, h0, h1, h2, w4]; try rfl)); (case hc => (first | trivial | decide | (simp only [inB, sliceOk, appendOk, rowsOk]; omega) | (simp [inB, sliceOk, appendOk, rowsOk]; omega))); intro g u; (try clear u); (try clear g))
        | fail
      all_goals (refine resR_one T_ok rfl _ (by (simp only [go_sem, resA]; rfl)) (by first | trivial | (simp only [go_sem, resA])) (by first | trivial | (simp only [go_sem])) ?_; simp only [go_sem])
      exact LeA.refl _
  | true =>
  rw [if_pos rfl]
  cases h3 : (a.tmod 4 == 1) with
  | true =>
    rw [if_pos rfl]
    cases nu
    all_goals
      (try (rw [Bool.true_and] at h0))
      refine spec_of_awp (fn := Try.f59) Try.func59 (by kernel_rfl) rfl ?_
      intro w0 C0
      simp only [Try.ntmps59, litI, litB, litS, List.length_cons, List.length_nil, Nat.reduceAdd, Nat.reduceSub, List.replicate_succ, List.replicate_zero, List.cons_append, List.nil_append]
      repeat' first
        | refine awp_seq ?_
        | refine awp_block ?_
        | refine awp_skip ?_
        | (refine reg _ (by (simp only [List.map_cons, List.map_nil]; rfl)) rfl ?_; intro K hK)
        | (refine awp_cond _ (by rfl) ?_ ?_ <;> (intro hb; first | (cases hb; done) | (have ht : true = true := hb; clear ht hb) | (have ht : false = false := hb; clear ht hb) | (simp only [hb]) | skip))
        | (refine awp_exit ?_; simp only [thenA, blockA, scopeA, reduceIte, RetQ, Nat.reduceEqDiff])
        | (refine awp_ret ?_; simp only [thenA, blockA, scopeA, RetQ])
        | (refine ev_nil (hK _ ?_); clear hK K)
        | (apply ev_guardU; (case hj | hu | hσ => (simp only [go_sem, h0, h1, h2, h3, w1, w2, w3]; try rfl)))
        | (refine ev_guardT _ _ (by (simp only [go_sem, h0, h1, h2, h3, w1, w2, w3]; rfl)) (by (simp only [go_sem, h0, h1, h2, h3, w1, w2, w3]; rfl)) ?_ ?_ <;> (intro hb; first | (cases hb; done) | (have ht : true = true := hb; clear ht hb) | (have ht : false = false := hb; clear ht hb) | (simp only [hb]) | skip))
        | (refine ev_guardF _ _ (by (simp only [go_sem, h0, h1, h2, h3, w1, w2, w3]; rfl)) (by (simp only [go_sem, h0, h1, h2, h3, w1, w2, w3]; rfl)) ?_ ?_ <;> (intro hb; first | (cases hb; done) | (have ht : true = true := hb; clear ht hb) | (have ht : false = false := hb; clear ht hb) | (simp only [hb]) | skip))
        | (apply ev_call0; (case hys => (simp only [go_sem, h0, h1, h2, h3, w1, w2, w3]; try rfl)); (case hs => first | exact h76 .. | exact f29_spec ..); (case hok | hσ => (simp only [go_sem, h0, h1, h2, h3, w1, w2, w3]; try rfl)))
        | (apply ev_step0; (case hr | hσ => (simp only [go_sem, h0, h1, h2, h3, w1, w2, w3]; try rfl)); (case hc => (first | trivial | decide | (simp only [inB, sliceOk, appendOk, rowsOk]; omega) | (simp [inB, sliceOk, appendOk, rowsOk]; omega))))
        | (apply ev_step; (case hr => (simp only [go_sem, h0, h1, h2, h3, w1, w2, w3]; try rfl)); (case hσ => (intro g u; simp only [go_sem, h0, h1, h2, h3, w1, w2, w3]; try rfl)); (case hc => (first | trivial | decide | (simp only [inB, sliceOk, appendOk, rowsOk]; omega) | (simp [inB, sliceOk, appendOk, rowsOk]; omega))); intro g u; (try clear u); (try clear g))
        | fail
      all_goals (refine resR_one T_ok rfl _ (by (simp only [go_sem, resA]; rfl)) (by first | trivial | (simp only [go_sem, resA])) (by first | trivial | (simp only [go_sem])) ?_; simp only [go_sem])
      exact LeA.refl _
  | false =>
    rw [if_neg Bool.false_ne_true]
    cases nu
    all_goals
      (try (rw [Bool.true_and] at h0))
      refine spec_of_awp (fn := Try.f59) Try.func59 (by kernel_rfl) rfl ?_
      intro w0 C0
      simp only [Try.ntmps59, litI, litB, litS, List.length_cons, List.length_nil, Nat.reduceAdd, Nat.reduceSub, List.replicate_succ, List.replicate_zero, List.cons_append, List.nil_append]
      repeat' first
        | refine awp_seq ?_
        | refine awp_block ?_
        | refine awp_skip ?_
        | (refine reg _ (by (simp only [List.map_cons, List.map_nil]; rfl)) rfl ?_; intro K hK)
        | (refine awp_cond _ (by rfl) ?_ ?_ <;> (intro hb; first | (cases hb; done) | (have ht : true = true := hb; clear ht hb) | (have ht : false = false := hb; clear ht hb) | (simp only [hb]) | skip))
        | (refine awp_exit ?_; simp only [thenA, blockA, scopeA, reduceIte, RetQ, Nat.reduceEqDiff])
        | (refine awp_ret ?_; simp only [thenA, blockA, scopeA, RetQ])
        | (refine ev_nil (hK _ ?_); clear hK K)
        | (apply ev_guardU; (case hj | hu | hσ => (simp only [go_sem, h0, h1, h2, h3, w1, w2, w3]; try rfl)))
        | (refine ev_guardT _ _ (by (simp only [go_sem, h0, h1, h2, h3, w1, w2, w3]; rfl)) (by (simp only [go_sem, h0, h1, h2, h3, w1, w2, w3]; rfl)) ?_ ?_ <;> (intro hb; first | (cases hb; done) | (have ht : true = true := hb; clear ht hb) | (have ht : false = false := hb; clear ht hb) | (simp only [hb]) | skip))
        | (refine ev_guardF _ _ (by (simp only [go_sem, h0, h1, h2, h3, w1, w2, w3]; rfl)) (by (simp only [go_sem, h0, h1, h2, h3, w1, w2, w3]; rfl)) ?_ ?_ <;> (intro hb; first | (cases hb; done) | (have ht : true = true := hb; clear ht hb) | (have ht : false = false := hb; clear ht hb) | (simp only [hb]) | skip))
        | (apply ev_call0; (case hys => (simp only [go_sem, h0, h1, h2, h3, w1, w2, w3]; try rfl)); (case hs => first | exact h60 ..); (case hok | hσ => (simp only [go_sem, h0, h1, h2, h3, w1, w2, w3]; try rfl)))
        | (apply ev_step0; (case hr | hσ => (simp only [go_sem, h0, h1, h2, h3, w1, w2, w3]; try rfl)); (case hc => (first | trivial | decide | (simp only [inB, sliceOk, appendOk, rowsOk]; omega) | (simp [inB, sliceOk, appendOk, rowsOk]; omega))))
        | (apply ev_step; (case hr => (simp only [go_sem, h0, h1, h2, h3, w1, w2, w3]; try rfl)); (case hσ => (intro g u; simp only [go_sem, h0, h1, h2, h3, w1, w2, w3]; try rfl)); (case hc => (first | trivial | decide | (simp only [inB, sliceOk, appendOk, rowsOk]; omega) | (simp [inB, sliceOk, appendOk, rowsOk]; omega))); intro g u; (try clear u); (try clear g))
        | fail
      all_goals (refine resR_one T_ok rfl _ (by (simp only [go_sem, resA]; rfl)) (by first | trivial | (simp only [go_sem, resA])) (by first | trivial | (simp only [go_sem])) ?_; simp only [go_sem])
      exact LeA.refl _
def isKeyR (s : Sch) (r : Rf) : Bool := decide (r.column + keyN s r.to ≤ keyN s r.table)
theorem f61_spec (s : Sch) (r : Rf) (h1 : r.to < s.tables.length) (h2 : r.table < s.tables.length) (hb : r.column + keyN s r.to ≤ 1000) : Spec Try.prog 61 [.agg (schA s), .agg [litI .i64 (r.table : Int), litI .i64 (r.column : Int), litI .i64 (r.to : Int)]] (litB (isKeyR s r)) := by
  have hx := tbs_at s.tables h1
  have hy := tbs_at s.tables h2
  obtain ⟨t, ht⟩ : ∃ t, s.tables.getD r.to tbN = t := ⟨_, rfl⟩
  obtain ⟨u, hu⟩ : ∃ t, s.tables.getD r.table tbN = t := ⟨_, rfl⟩
  have e0 : isKeyR s r = decide (r.column + t.key ≤ u.key) := by simp only [isKeyR, keyN, ht, hu]
  rw [e0]
  simp only [keyN] at hb
  rw [ht] at hx hb
  rw [hu] at hy
  have w1 : IntKind.i64.wrap ((r.column : Int) + (t.key : Int)) = ((r.column + t.key : Nat) : Int) := by rw [wrap_id (by omega)]; push_cast; rfl
  have e : decide (((r.column + t.key : Nat) : Int) ≤ (u.key : Int)) = decide (r.column + t.key ≤ u.key) := decide_eq_decide.2 (by omega)
  refine spec_of_awp (fn := Try.f61) Try.func61 (by kernel_rfl) rfl ?_
  intro w0 C0
  simp only [Try.ntmps61, litI, litB, litS, List.length_cons, List.length_nil, Nat.reduceAdd, Nat.reduceSub, List.replicate_succ, List.replicate_zero, List.cons_append, List.nil_append]
  repeat' first
    | refine awp_seq ?_
    | refine awp_block ?_
    | refine awp_skip ?_
    | (refine reg _ (by (simp only [List.map_cons, List.map_nil]; rfl)) rfl ?_; intro K hK)
    | (refine awp_cond _ (by rfl) ?_ ?_ <;> (intro hb; first | (cases hb; done) | (have ht : true = true := hb; clear ht hb) | (have ht : false = false := hb; clear ht hb) | (simp only [hb]) | skip))
    | (refine awp_exit ?_; simp only [thenA, blockA, scopeA, reduceIte, RetQ, Nat.reduceEqDiff])
    | (refine awp_ret ?_; simp only [thenA, blockA, scopeA, RetQ])
    | (refine ev_nil (hK _ ?_); clear hK K)
    | (apply regD; (case hd => (simp only [List.map_cons, List.map_nil]; rfl)); (case hok => rfl); (case' h => (intro K hK; (repeat' first
        | (apply evd_nil; refine (hK _ ?_); clear hK K)
        | (apply evd_step0; (case hr | hi | hσ => (simp only [go_sem, hx, hy, w1, e]; try rfl)); (case hc => (first | trivial | decide | (simp only [inB, sliceOk, appendOk, rowsOk]; omega) | (simp [inB, sliceOk, appendOk, rowsOk]; omega))))
        | (apply evd_step; (case hr | hi => (simp only [go_sem, hx, hy, w1, e]; try rfl)); (case hc => (first | trivial | decide | (simp only [inB, sliceOk, appendOk, rowsOk]; omega) | (simp [inB, sliceOk, appendOk, rowsOk]; omega))); (case hw | hσ => (intro g u; simp only [go_sem, hx, hy, w1, e]; try rfl)); (case' hk => (intro g u; (try clear u); (try clear g))))
        | fail))); (case hB => kernel_rfl))
    | (apply ev_step0; (case hr | hσ => (simp only [go_sem, hx, hy, w1, e]; try rfl)); (case hc => (first | trivial | decide | (simp only [inB, sliceOk, appendOk, rowsOk]; omega) | (simp [inB, sliceOk, appendOk, rowsOk]; omega))))
    | (apply ev_step; (case hr => (simp only [go_sem, hx, hy, w1, e]; try rfl)); (case hσ => (intro g u; simp only [go_sem, hx, hy, w1, e]; try rfl)); (case hc => (first | trivial | decide | (simp only [inB, sliceOk, appendOk, rowsOk]; omega) | (simp [inB, sliceOk, appendOk, rowsOk]; omega))); intro g u; (try clear u); (try clear g))
    | fail
  all_goals (refine resR_one T_ok rfl _ (by (simp only [go_sem, resA]; rfl)) (by first | trivial | (simp only [go_sem, resA])) (by first | trivial | (simp only [go_sem])) ?_; simp only [go_sem])
  exact LeA.refl _
end
section
set_option linter.unusedVariables false
set_option linter.unusedSimpArgs false
open Go.RowKit
attribute [local irreducible] AWp evOps evD
def colZ : Col := ⟨⟨#[]⟩, ⟨0, 0, false⟩, 0, nullV⟩
theorem cols_at (l : List Col) {i : Nat} (h : i < l.length) : (l.map colD).getD i [] = colD (l.getD i colZ) := by
  simp [List.getD_eq_getElem?_getD, h]
theorem atB_bd {b : List Int} (hb : ∀ x ∈ b, 0 ≤ x ∧ x < 256) (i : Nat) : 0 ≤ atB b i ∧ atB b i < 256 := by
  rcases Nat.lt_or_ge i b.length with h | h
  · exact hb _ (getD_mem' h 0)
  · simp [atB, List.getD_eq_getElem?_getD, List.getElem?_eq_none h]
def cellV (t : Tb) (b : List Int) (i : Nat) : Vl :=
  if (decide (i < t.key) && ((valM (t.cols.getD i colZ).ty (atB b (1 + i)) (atB b (2 + i))).k == 2)) = true then ⟨2, (atB b (2 + i)).tmod 4 * 1000000, ⟨#[]⟩⟩ else valM (t.cols.getD i colZ).ty (atB b (1 + i)) (atB b (2 + i))
def baseC (t : Tb) (b : List Int) (n : Nat) : Rw := (List.range n).map fun i => ⟨cellV t b i, 0, 0⟩
theorem baseC_succ (t : Tb) (b : List Int) (n : Nat) : baseC t b (n + 1) = baseC t b n ++ [⟨cellV t b n, 0, 0⟩] := by
  simp [baseC, List.range_succ]
theorem baseC_len (t : Tb) (b : List Int) (n : Nat) : (baseC t b n).length = n := by simp [baseC]
def setV (l : Rw) (i : Nat) (v : Vl) : Rw := l.set i { l.getD i nullC with v := v }
def putVs (l : Rw) (c : Nat) : List Vl → Rw
  | [] => l
  | v :: vs => putVs (setV l c v) (c + 1) vs
theorem putVs_snoc (v : Vl) : ∀ (vs : List Vl) (l : Rw) (c : Nat), putVs l c (vs ++ [v]) = setV (putVs l c vs) (c + vs.length) v
  | [], _, _ => rfl
  | x :: vs, l, c => by
    simp only [List.cons_append, putVs, List.length_cons]
    rw [putVs_snoc v vs, show c + (vs.length + 1) = c + 1 + vs.length from by omega]
theorem setV_len (l : Rw) (i : Nat) (v : Vl) : (setV l i v).length = l.length := by simp [setV]
theorem putVs_len : ∀ (vs : List Vl) (l : Rw) (c : Nat), (putVs l c vs).length = l.length
  | [], _, _ => rfl
  | v :: vs, l, c => by simp only [putVs]; rw [putVs_len vs, setV_len]
/-- The key that a made row refers to, or nulls. -/
def keyM (s : Sch) (st : Stt) (b : List Int) (r : Rf) : List Vl :=
  keyR ((st.getD r.to []).getD ((atB b 0).tmod ((st.getD r.to []).length : Int)).toNat []) (keyN s r.to)
def nullM (s : Sch) (b : List Int) (r : Rf) : Bool := ((atB b 0).tmod 8 == 1) && !isKeyR s r
def refRow (s : Sch) (st : Stt) (tno : Nat) (b : List Int) (row : Rw) (r : Rf) : Rw :=
  if ((r.table : Int) != (tno : Int)) = true then row
  else if (((st.getD r.to []).length : Int) == 0) = true then row
  else if ((atB b 0).tmod 8 == 0) = true then row
  else putVs row r.column (if nullM s b r = true then (keyM s st b r).map (fun _ => nullV) else keyM s st b r)
theorem refRow_len (s : Sch) (st : Stt) (tno : Nat) (b : List Int) (row : Rw) (r : Rf) : (refRow s st tno b row r).length = row.length := by
  unfold refRow
  split
  · rfl
  · split
    · rfl
    · split
      · rfl
      · exact putVs_len ..
def rowM (s : Sch) (st : Stt) (tno : Nat) (b : List Int) : Rw := s.refs.foldl (refRow s st tno b) (baseC (s.tables.getD tno tbN) b (colN s tno))
def rowTo (s : Sch) (st : Stt) (tno : Nat) (b : List Int) (i : Nat) : Rw := (s.refs.take i).foldl (refRow s st tno b) (baseC (s.tables.getD tno tbN) b (colN s tno))
theorem rowTo_succ (s : Sch) (st : Stt) (tno : Nat) (b : List Int) {i : Nat} (h : i < s.refs.length) : rowTo s st tno b (i + 1) = refRow s st tno b (rowTo s st tno b i) (s.refs.getD i rfN) := by
  rw [rowTo, take_succ' _ rfN h, List.foldl_append]; rfl
theorem foldl_len {s : Sch} {st : Stt} {tno : Nat} {b : List Int} : ∀ (l : List Rf) (row : Rw), (l.foldl (refRow s st tno b) row).length = row.length
  | [], _ => rfl
  | r :: l, row => by rw [List.foldl_cons, foldl_len l, refRow_len]
theorem rowTo_len (s : Sch) (st : Stt) (tno : Nat) (b : List Int) (i : Nat) : (rowTo s st tno b i).length = colN s tno := by
  rw [rowTo, foldl_len, baseC_len]
/-- The key while nulls are written into it. -/
def mixK (a k : List Vl) (j : Nat) : List Vl := a.take j ++ k.drop j
theorem mixK_len {a k : List Vl} (h : a.length = k.length) (j : Nat) : (mixK a k j).length = k.length := by simp [mixK]; omega
theorem mixK_getD {a k : List Vl} (h : a.length = k.length) {j : Nat} (hj : j < k.length) : (mixK a k j).getD j nullV = k.getD j nullV := by
  simp [mixK, List.getD_eq_getElem?_getD, List.getElem?_append, h, Nat.min_eq_left (Nat.le_of_lt hj)]
theorem mixK_getD' {a k : List Vl} (h : a.length = k.length) {j : Nat} (hj : j < k.length) : (mixK a k (j + 1)).getD j nullV = a.getD j nullV := by
  simp only [mixK, List.getD_eq_getElem?_getD, List.getElem?_append, List.length_take]
  rw [if_pos (by omega), List.getElem?_take, if_pos (by omega)]
theorem mixK_set {a k : List Vl} (h : a.length = k.length) {j : Nat} (hj : j < k.length) : (mixK a k j).set j (a.getD j nullV) = mixK a k (j + 1) := by
  have hl : (a.take j).length = j := by simp; omega
  rw [mixK, mixK, List.set_append, if_neg (by omega), hl, Nat.sub_self, drop_at k nullV hj, List.set_cons_zero, take_succ' a nullV (by omega), List.append_assoc]; rfl
theorem mixK_same (k : List Vl) (j : Nat) : mixK k k j = k := List.take_append_drop j k
set_option maxHeartbeats 4000000 in
theorem f21_own (l : List Cl) (n : Nat) (hb0 : l.length ≤ 1000) : SpecF Try.prog 21 [.agg (rwA l), litI .i64 (n : Int)] 70 3 ((keyR l n).map vlD) := by
  refine specF_of_awp (fn := Try.f21) Try.func21 (by kernel_rfl) rfl ?_
  intro w0 C0
  simp only [Try.ntmps21, litI, litB, litS, List.length_cons, List.length_nil, Nat.reduceAdd, Nat.reduceSub, List.replicate_succ, List.replicate_zero, List.cons_append, List.nil_append]
  repeat' first
    | refine awp_seq ?_
    | refine awp_block ?_
    | refine awp_skip ?_
    | (refine reg _ (by (simp only [List.map_cons, List.map_nil]; rfl)) rfl ?_; intro K hK)
    | (refine awp_cond _ (by rfl) ?_ ?_ <;> (intro hb; first | (cases hb; done) | (have ht : true = true := hb; clear ht hb) | (have ht : false = false := hb; clear ht hb) | (simp only [hb]) | skip))
    | (refine awp_exit ?_; simp only [thenA, blockA, scopeA, reduceIte, RetQ, Nat.reduceEqDiff])
    | (refine awp_ret ?_; simp only [thenA, blockA, scopeA, RetQ])
    | (refine ev_nil (hK _ ?_); clear hK K)
    | (apply ev_guardU; (case hj | hu | hσ => (simp only [go_sem]; try rfl)))
    | (refine ev_guardT _ _ (by (simp only [go_sem]; rfl)) (by (simp only [go_sem]; rfl)) ?_ ?_ <;> (intro hb; first | (cases hb; done) | (have ht : true = true := hb; clear ht hb) | (have ht : false = false := hb; clear ht hb) | (simp only [hb]) | skip))
    | (refine ev_guardF _ _ (by (simp only [go_sem]; rfl)) (by (simp only [go_sem]; rfl)) ?_ ?_ <;> (intro hb; first | (cases hb; done) | (have ht : true = true := hb; clear ht hb) | (have ht : false = false := hb; clear ht hb) | (simp only [hb]) | skip))
    | (apply ev_step0; (case hr | hσ => (simp only [go_sem]; try rfl)); (case hc => (first | trivial | decide | (simp only [inB, sliceOk, appendOk, rowsOk]; omega) | (simp [inB, sliceOk, appendOk, rowsOk]; omega))))
    | (apply ev_step; (case hr => (simp only [go_sem]; try rfl)); (case hσ => (intro g u; simp only [go_sem]; try rfl)); (case hc => (first | trivial | decide | (simp only [inB, sliceOk, appendOk, rowsOk]; omega) | (simp [inB, sliceOk, appendOk, rowsOk]; omega))); intro g u; (try clear u); (try clear g))
    | fail
  refine awp_loopI (fun j : Nat × Value => j.1 ≤ n ∧ j.1 ≤ l.length) (fun j => l.length - j.1) (fun j => ⟨[.any, litI .i64 (n : Int), .ptr 2 g 0, .any, .d (.lit (.slice none 0 0)), .own 7 j.2, litI .i64 j.1, .any, .any, .any, .any, .any, .any, .any, .any, .any, .any, .any, .any, .any, .any, .any, .any, .any, .any, .any, .any, .any, .any, .any], [.no, .no, .box g (rwA l), .no, .no, .no, .no, .row j.2 70 3 ((keyR l j.1).map vlD), .no, .no, .no, .no, .no, .no, .no, .no, .no, .no, .no, .no, .no, .no, .no, .no, .no, .no, .no, .no, .no, .no]⟩) (0, u) ⟨by simp, by simp⟩ ?_ ?_
  · refine Wk.mk ?_ ?_
    all_goals (repeat' first | exact trivial | exact LeA.refl _ | exact LeA.any _ | exact LeO.refl _ | exact LeO.no _ | exact LeA.nil _ | exact LeA.nilOwn _ | exact LeO.nil _ _ _ | refine LeO.box ?_ | (refine LeA.i ?_; (first | rfl | (push_cast; rfl) | (rw [wrap_id (by omega)]; push_cast; omega) | (simp [keyR, wrap_id]; omega))) | refine ⟨?_, ?_⟩)
  rintro ⟨i, v⟩ ⟨hi, hj⟩
  simp only [litI, litB] at hi hj ⊢
  have hkl : (keyR l i).length = i := by simp [keyR]; omega
  by_cases h1 : i < n
  · have d1 : decide ((i : Int) < (n : Int)) = true := decide_eq_true (by omega)
    by_cases h2 : i < l.length
    · have d2 : decide ((i : Int) < (l.length : Int)) = true := decide_eq_true (by omega)
      have hx := cls_at l h2
      have hs : keyR l (i + 1) = keyR l i ++ [(l.getD i nullC).v] := keyR_succ l h2
      generalize l.getD i nullC = x at *
      generalize keyR l i = kl at *
      repeat' first
        | refine awp_seq ?_
        | refine awp_block ?_
        | refine awp_skip ?_
        | (refine reg _ (by (simp only [List.map_cons, List.map_nil]; rfl)) rfl ?_; intro K hK)
        | (refine awp_cond _ (by rfl) ?_ ?_ <;> (intro hb; first | (cases hb; done) | (have ht : true = true := hb; clear ht hb) | (have ht : false = false := hb; clear ht hb) | (simp only [hb]) | skip))
        | (refine awp_exit ?_; simp only [thenA, blockA, scopeA, reduceIte, RetQ, Nat.reduceEqDiff])
        | (refine awp_ret ?_; simp only [thenA, blockA, scopeA, RetQ])
        | (refine ev_nil (hK _ ?_); clear hK K)
        | (apply ev_guardU; (case hj | hu | hσ => (simp only [go_sem, d1, d2, hx, hkl]; try rfl)))
        | (refine ev_guardT _ _ (by (simp only [go_sem, d1, d2, hx, hkl]; rfl)) (by (simp only [go_sem, d1, d2, hx, hkl]; rfl)) ?_ ?_ <;> (intro hb; first | (cases hb; done) | (have ht : true = true := hb; clear ht hb) | (have ht : false = false := hb; clear ht hb) | (simp only [hb]) | skip))
        | (refine ev_guardF _ _ (by (simp only [go_sem, d1, d2, hx, hkl]; rfl)) (by (simp only [go_sem, d1, d2, hx, hkl]; rfl)) ?_ ?_ <;> (intro hb; first | (cases hb; done) | (have ht : true = true := hb; clear ht hb) | (have ht : false = false := hb; clear ht hb) | (simp only [hb]) | skip))
        | (apply ev_step0; (case hr | hσ => (simp only [go_sem, d1, d2, hx, hkl]; try rfl)); (case hc => (first | trivial | decide | (simp only [inB, sliceOk, appendOk, rowsOk]; omega) | (simp [inB, sliceOk, appendOk, rowsOk]; omega))))
        | (apply ev_step; (case hr => (simp only [go_sem, d1, d2, hx, hkl]; try rfl)); (case hσ => (intro g u; simp only [go_sem, d1, d2, hx, hkl]; try rfl)); (case hc => (first | trivial | decide | (simp only [inB, sliceOk, appendOk, rowsOk]; omega) | (simp [inB, sliceOk, appendOk, rowsOk]; omega))); intro g u; (try clear u); (try clear g))
        | fail
      refine Exists.intro (i + 1, u) ⟨⟨by show i + 1 ≤ n; omega, by show i + 1 ≤ l.length; omega⟩, by show l.length - (i + 1) < l.length - i; omega, ?_⟩
      simp only [hs, List.map_append, List.map_cons, List.map_nil]
      refine Wk.mk ?_ ?_
      all_goals (repeat' first | exact trivial | exact LeA.refl _ | exact LeA.any _ | exact LeO.refl _ | exact LeO.no _ | exact LeA.nil _ | exact LeA.nilOwn _ | exact LeO.nil _ _ _ | refine LeO.box ?_ | (refine LeA.i ?_; (first | rfl | (push_cast; rfl) | (rw [wrap_id (by omega)]; push_cast; omega) | (simp [wrap_id]; omega))) | refine ⟨?_, ?_⟩)
    · have d2 : decide ((i : Int) < (l.length : Int)) = false := decide_eq_false (by omega)
      repeat' first
        | refine awp_seq ?_
        | refine awp_block ?_
        | refine awp_skip ?_
        | (refine reg _ (by (simp only [List.map_cons, List.map_nil]; rfl)) rfl ?_; intro K hK)
        | (refine awp_cond _ (by rfl) ?_ ?_ <;> (intro hb; first | (cases hb; done) | (have ht : true = true := hb; clear ht hb) | (have ht : false = false := hb; clear ht hb) | (simp only [hb]) | skip))
        | (refine awp_exit ?_; simp only [thenA, blockA, scopeA, reduceIte, RetQ, Nat.reduceEqDiff])
        | (refine awp_ret ?_; simp only [thenA, blockA, scopeA, RetQ])
        | (refine ev_nil (hK _ ?_); clear hK K)
        | (apply ev_guardU; (case hj | hu | hσ => (simp only [go_sem, d1, d2]; try rfl)))
        | (refine ev_guardT _ _ (by (simp only [go_sem, d1, d2]; rfl)) (by (simp only [go_sem, d1, d2]; rfl)) ?_ ?_ <;> (intro hb; first | (cases hb; done) | (have ht : true = true := hb; clear ht hb) | (have ht : false = false := hb; clear ht hb) | (simp only [hb]) | skip))
        | (refine ev_guardF _ _ (by (simp only [go_sem, d1, d2]; rfl)) (by (simp only [go_sem, d1, d2]; rfl)) ?_ ?_ <;> (intro hb; first | (cases hb; done) | (have ht : true = true := hb; clear ht hb) | (have ht : false = false := hb; clear ht hb) | (simp only [hb]) | skip))
        | (apply ev_step0; (case hr | hσ => (simp only [go_sem, d1, d2]; try rfl)); (case hc => (first | trivial | decide | (simp only [inB, sliceOk, appendOk, rowsOk]; omega) | (simp [inB, sliceOk, appendOk, rowsOk]; omega))))
        | (apply ev_step; (case hr => (simp only [go_sem, d1, d2]; try rfl)); (case hσ => (intro g u; simp only [go_sem, d1, d2]; try rfl)); (case hc => (first | trivial | decide | (simp only [inB, sliceOk, appendOk, rowsOk]; omega) | (simp [inB, sliceOk, appendOk, rowsOk]; omega))); intro g u; (try clear u); (try clear g))
        | fail
      have e : keyR l n = keyR l i := by rw [keyR, keyR, List.take_of_length_le (by omega), List.take_of_length_le (by omega)]
      rw [e]
      exact resF_one T_ok rfl rfl rfl
  · have d1 : decide ((i : Int) < (n : Int)) = false := decide_eq_false (by omega)
    have : i = n := by omega
    subst this
    repeat' first
      | refine awp_seq ?_
      | refine awp_block ?_
      | refine awp_skip ?_
      | (refine reg _ (by (simp only [List.map_cons, List.map_nil]; rfl)) rfl ?_; intro K hK)
      | (refine awp_cond _ (by rfl) ?_ ?_ <;> (intro hb; first | (cases hb; done) | (have ht : true = true := hb; clear ht hb) | (have ht : false = false := hb; clear ht hb) | (simp only [hb]) | skip))
      | (refine awp_exit ?_; simp only [thenA, blockA, scopeA, reduceIte, RetQ, Nat.reduceEqDiff])
      | (refine awp_ret ?_; simp only [thenA, blockA, scopeA, RetQ])
      | (refine ev_nil (hK _ ?_); clear hK K)
      | (apply ev_guardU; (case hj | hu | hσ => (simp only [go_sem, d1]; try rfl)))
      | (refine ev_guardT _ _ (by (simp only [go_sem, d1]; rfl)) (by (simp only [go_sem, d1]; rfl)) ?_ ?_ <;> (intro hb; first | (cases hb; done) | (have ht : true = true := hb; clear ht hb) | (have ht : false = false := hb; clear ht hb) | (simp only [hb]) | skip))
      | (refine ev_guardF _ _ (by (simp only [go_sem, d1]; rfl)) (by (simp only [go_sem, d1]; rfl)) ?_ ?_ <;> (intro hb; first | (cases hb; done) | (have ht : true = true := hb; clear ht hb) | (have ht : false = false := hb; clear ht hb) | (simp only [hb]) | skip))
      | (apply ev_step0; (case hr | hσ => (simp only [go_sem, d1]; try rfl)); (case hc => (first | trivial | decide | (simp only [inB, sliceOk, appendOk, rowsOk]; omega) | (simp [inB, sliceOk, appendOk, rowsOk]; omega))))
      | (apply ev_step; (case hr => (simp only [go_sem, d1]; try rfl)); (case hσ => (intro g u; simp only [go_sem, d1]; try rfl)); (case hc => (first | trivial | decide | (simp only [inB, sliceOk, appendOk, rowsOk]; omega) | (simp [inB, sliceOk, appendOk, rowsOk]; omega))); intro g u; (try clear u); (try clear g))
      | fail
    exact resF_one T_ok rfl rfl rfl
end
section
set_option linter.unusedVariables false
set_option linter.unusedSimpArgs false
open Go.RowKit
attribute [local irreducible] AWp evOps evD
set_option maxHeartbeats 16000000 in
set_option maxRecDepth 10000 in
theorem f36_new (s : Sch) (st : Stt) (tno : Nat) (b : List Int) (h : SchOk s) (hs : StOk s st) (hb : ∀ x ∈ b, 0 ≤ x ∧ x < 256) (ht : tno < s.tables.length) : SpecN Try.prog 36 [.agg (schA s), .agg (stA st), .agg [litI .i64 (tno : Int), .d (bytesD b)]] (.agg (rwA (rowM s st tno b))) := by
  have hrl := h.rlen
  have htm : s.tables.getD tno tbN ∈ s.tables := getD_mem' ht _
  have hty := h.types _ htm
  have hkc := h.keys _ ht
  have hx := tbs_at s.tables ht
  have a0 := f34_spec b hb 0
  have a0b := atB_bd hb 0
  have hrow := rowTo_len s st tno b
  have hrM : rowM s st tno b = rowTo s st tno b s.refs.length := by rw [rowTo, List.take_length]; rfl
  have hr0 : rowTo s st tno b 0 = baseC (s.tables.getD tno tbN) b (colN s tno) := by simp [rowTo]
  have hrS := fun i hi => rowTo_succ s st tno b (i := i) hi
  rw [hrM]
  have hcn : colN s tno = (s.tables.getD tno tbN).cols.length := rfl
  simp only [colN, keyN] at hkc hrow hr0
  generalize s.tables.getD tno tbN = t at *
  generalize hq0 : atB b 0 = q0 at *
  refine specN_of_awp (fn := Try.f36) Try.func36 (by kernel_rfl) rfl ?_
  intro w0 C0
  simp only [Try.ntmps36, litI, litB, litS, List.length_cons, List.length_nil, Nat.reduceAdd, Nat.reduceSub, List.replicate_succ, List.replicate_zero, List.cons_append, List.nil_append]
  repeat' first
    | refine awp_seq ?_
    | refine awp_block ?_
    | refine awp_skip ?_
    | (refine reg _ (by (simp only [List.map_cons, List.map_nil]; rfl)) rfl ?_; intro K hK)
    | (refine awp_cond _ (by rfl) ?_ ?_ <;> (intro hb; first | (cases hb; done) | (have ht : true = true := hb; clear ht hb) | (have ht : false = false := hb; clear ht hb) | (simp only [hb]) | skip))
    | (refine awp_exit ?_; simp only [thenA, blockA, scopeA, reduceIte, RetQ, Nat.reduceEqDiff])
    | (refine awp_ret ?_; simp only [thenA, blockA, scopeA, RetQ])
    | (refine ev_nil (hK _ ?_); clear hK K)
    | (apply ev_guardU; (case hj | hu | hσ => (simp only [go_sem, hx]; try rfl)))
    | (refine ev_guardT _ _ (by (simp only [go_sem, hx]; rfl)) (by (simp only [go_sem, hx]; rfl)) ?_ ?_ <;> (intro hb; first | (cases hb; done) | (have ht : true = true := hb; clear ht hb) | (have ht : false = false := hb; clear ht hb) | (simp only [hb]) | skip))
    | (refine ev_guardF _ _ (by (simp only [go_sem, hx]; rfl)) (by (simp only [go_sem, hx]; rfl)) ?_ ?_ <;> (intro hb; first | (cases hb; done) | (have ht : true = true := hb; clear ht hb) | (have ht : false = false := hb; clear ht hb) | (simp only [hb]) | skip))
    | (apply ev_step0; (case hr | hσ => (simp only [go_sem, hx]; try rfl)); (case hc => (first | trivial | decide | (simp only [inB, sliceOk, appendOk, rowsOk]; omega) | (simp [inB, sliceOk, appendOk, rowsOk]; omega))))
    | (apply ev_step; (case hr => (simp only [go_sem, hx]; try rfl)); (case hσ => (intro g u; simp only [go_sem, hx]; try rfl)); (case hc => (first | trivial | decide | (simp only [inB, sliceOk, appendOk, rowsOk]; omega) | (simp [inB, sliceOk, appendOk, rowsOk]; omega))); intro g u; (try clear u); (try clear g))
    | fail
  rename_i g3 g4 g5 g6 g7
  refine awp_loopI (fun j : Nat × Value => j.1 ≤ t.cols.length) (fun j => t.cols.length - j.1) (fun j => ⟨[.any, .any, .any, .ptr 3 g3 0, .ptr 4 g4 0, .ptr 5 g5 0, .ptr 6 g6 0, .ptr 7 g7 0, .ptr 8 g 0, litI .i64 j.1, .any, .any, .any, .any, .any, .any, .any, .any, .any, .any, .any, .any, .any, .any, .any, .any, .any, .any, .any, .any, .any, .any, .any, .any, .any, .any, .any, .any, .any, .any, .any, .any, .any, .any, .any, .any, .any, .any, .any, .any, .any, .any, .any, .any, .any, .any, .any, .any, .any, .any, .any, .any, .any, .any, .any, .any, .any, .any, .any, .any, .any, .any, .any, .any, .any, .any, .any, .any, .any, .any, .any, .any, .any, .any, .any, .any, .any, .any, .any, .any, .any, .any, .any, .any, .any, .any, .any, .any, .any, .any, .any, .any, .any, .any, .any, .any, .any, .any, .any, .any, .any, .any, .any, .any, .any, .any, .any, .any, .any, .any, .any, .any, .any, .any, .any, .any, .any, .any, .any, .any, .any, .any, .any, .any, .any, .any, .any, .any, .any, .any, .any, .any, .any, .any, .any, .any, .any, .any, .any, .any, .any, .any, .any, .any, .any, .any, .any, .any, .any, .any, .any, .any, .any, .any, .any, .any, .any, .any, .any, .any, .any, .any, .any, .any], [.no, .no, .no, .box g3 (schA s), .box g4 (stA st), .box g5 [litI .i64 (tno : Int), .d (bytesD b)], .box g6 [.d (.lit (.slice none 0 0)), .d (.lit (.slice none 0 0)), .d (.lit (.slice none 0 0))], .box g7 [.own 70 j.2, .d (.lit (.slice none 0 0)), .d (.lit (.slice none 0 0))], .box g (tbA t), .no, .no, .no, .no, .no, .no, .no, .no, .no, .no, .no, .no, .no, .no, .no, .no, .no, .no, .no, .no, .no, .no, .no, .no, .no, .no, .no, .no, .no, .no, .no, .no, .no, .no, .no, .no, .no, .no, .no, .no, .no, .no, .no, .no, .no, .no, .no, .no, .no, .no, .no, .no, .no, .no, .no, .no, .no, .no, .no, .no, .no, .row j.2 74 5 ((baseC t b j.1).map clD), .no, .no, .no, .no, .no, .no, .no, .no, .no, .no, .no, .no, .no, .no, .no, .no, .no, .no, .no, .no, .no, .no, .no, .no, .no, .no, .no, .no, .no, .no, .no, .no, .no, .no, .no, .no, .no, .no, .no, .no, .no, .no, .no, .no, .no, .no, .no, .no, .no, .no, .no, .no, .no, .no, .no, .no, .no, .no, .no, .no, .no, .no, .no, .no, .no, .no, .no, .no, .no, .no, .no, .no, .no, .no, .no, .no, .no, .no, .no, .no, .no, .no, .no, .no, .no, .no, .no, .no, .no, .no, .no, .no, .no, .no, .no, .no, .no, .no, .no, .no, .no, .no, .no]⟩) (0, .slice none 0 0) (by simp) ?_ ?_
  · refine Wk.mk ?_ ?_
    all_goals (repeat' first | exact trivial | exact LeA.refl _ | exact LeA.any _ | exact LeO.refl _ | exact LeO.no _ | exact LeA.nil _ | exact LeA.nilOwn _ | exact LeO.nil _ _ _ | refine LeO.box ?_ | (refine LeA.i ?_; (first | rfl | (push_cast; rfl) | (rw [wrap_id (by omega)]; push_cast; omega) | (simp [wrap_id]; omega))) | refine ⟨?_, ?_⟩)
  rintro ⟨i, v⟩ hi
  simp only [litI, litB] at hi ⊢
  by_cases h1 : i < t.cols.length
  · have d1 : decide ((i : Int) < (t.cols.length : Int)) = true := decide_eq_true (by omega)
    have hc := cols_at t.cols h1
    have hcm : t.cols.getD i colZ ∈ t.cols := getD_mem' h1 _
    have htc := hty _ hcm
    have a1 := f34_spec b hb (1 + i)
    have a2 := f34_spec b hb (2 + i)
    have b1 := atB_bd hb (1 + i)
    have b2 := atB_bd hb (2 + i)
    have e1 : IntKind.i64.wrap (1 + (i : Int)) = ((1 + i : Nat) : Int) := by rw [wrap_id (by omega)]; push_cast; rfl
    have e2 : IntKind.i64.wrap (2 + (i : Int)) = ((2 + i : Nat) : Int) := by rw [wrap_id (by omega)]; push_cast; rfl
    have hbs := baseC_succ t b i
    have hbl := baseC_len t b i
    unfold cellV at hbs
    generalize t.cols.getD i colZ = c at *
    generalize atB b (1 + i) = x1 at *
    generalize atB b (2 + i) = x2 at *
    generalize baseC t b i = base at *
    have w1 := wrap_u8 b1
    have w2 := wrap_u8 b2
    have w3 : IntKind.i64.wrap x2 = x2 := wrap_id (by omega)
    have h4 := Int.tmod_lt_of_pos x2 (b := 4) (by decide)
    have h4' := Int.tmod_nonneg 4 b2.1
    have h59 := f59_spec c.ty x1 x2 htc b1 b2
    have h60 := f60_spec (x2.tmod 4) (by omega)
    generalize valM c.ty x1 x2 = w at *
    cases hk : decide ((i : Int) < (t.key : Int)) with
    | false =>
      have hk' : decide (i < t.key) = false := by rw [← hk]; exact decide_eq_decide.2 (by omega)
      rw [hk', Bool.false_and, if_neg Bool.false_ne_true] at hbs
      repeat' first
        | refine awp_seq ?_
        | refine awp_block ?_
        | refine awp_skip ?_
        | (refine reg _ (by (simp only [List.map_cons, List.map_nil]; rfl)) rfl ?_; intro K hK)
        | (refine awp_cond _ (by rfl) ?_ ?_ <;> (intro hb; first | (cases hb; done) | (have ht : true = true := hb; clear ht hb) | (have ht : false = false := hb; clear ht hb) | (simp only [hb]) | skip))
        | (refine awp_exit ?_; simp only [thenA, blockA, scopeA, reduceIte, RetQ, Nat.reduceEqDiff])
        | (refine awp_ret ?_; simp only [thenA, blockA, scopeA, RetQ])
        | (refine ev_nil (hK _ ?_); clear hK K)
        | (apply ev_guardU; (case hj | hu | hσ => (simp only [go_sem, d1, hc, e1, e2, w1, w2, w3, hk, hbl]; try rfl)))
        | (refine ev_guardT _ _ (by (simp only [go_sem, d1, hc, e1, e2, w1, w2, w3, hk, hbl]; rfl)) (by (simp only [go_sem, d1, hc, e1, e2, w1, w2, w3, hk, hbl]; rfl)) ?_ ?_ <;> (intro hb; first | (cases hb; done) | (have ht : true = true := hb; clear ht hb) | (have ht : false = false := hb; clear ht hb) | (simp only [hb]) | skip))
        | (refine ev_guardF _ _ (by (simp only [go_sem, d1, hc, e1, e2, w1, w2, w3, hk, hbl]; rfl)) (by (simp only [go_sem, d1, hc, e1, e2, w1, w2, w3, hk, hbl]; rfl)) ?_ ?_ <;> (intro hb; first | (cases hb; done) | (have ht : true = true := hb; clear ht hb) | (have ht : false = false := hb; clear ht hb) | (simp only [hb]) | skip))
        | (apply ev_call0; (case hys => (simp only [go_sem, d1, hc, e1, e2, w1, w2, w3, hk, hbl]; try rfl)); (case hs => first | exact a1 .. | exact a2 .. | exact h59 .. | exact h60 ..); (case hok | hσ => (simp only [go_sem, d1, hc, e1, e2, w1, w2, w3, hk, hbl]; try rfl)))
        | (apply regD; (case hd => (simp only [List.map_cons, List.map_nil]; rfl)); (case hok => rfl); (case' h => (intro K hK; (repeat' first
        | (apply evd_nil; refine (hK _ ?_); clear hK K)
        | (apply evd_call0; (case hi | hys => (simp only [go_sem, d1, hc, e1, e2, w1, w2, w3, hk, hbl]; try rfl)); (case hs => first | exact a1 .. | exact a2 .. | exact h59 .. | exact h60 ..); (case hok | hw | hσ => (simp only [go_sem, d1, hc, e1, e2, w1, w2, w3, hk, hbl]; try rfl)))
        | (apply evd_step0; (case hr | hi | hσ => (simp only [go_sem, d1, hc, e1, e2, w1, w2, w3, hk, hbl]; try rfl)); (case hc => (first | trivial | decide | (simp only [inB, sliceOk, appendOk, rowsOk]; omega) | (simp [inB, sliceOk, appendOk, rowsOk]; omega))))
        | (apply evd_step; (case hr | hi => (simp only [go_sem, d1, hc, e1, e2, w1, w2, w3, hk, hbl]; try rfl)); (case hc => (first | trivial | decide | (simp only [inB, sliceOk, appendOk, rowsOk]; omega) | (simp [inB, sliceOk, appendOk, rowsOk]; omega))); (case hw | hσ => (intro g u; simp only [go_sem, d1, hc, e1, e2, w1, w2, w3, hk, hbl]; try rfl)); (case' hk => (intro g u; (try clear u); (try clear g))))
        | fail))); (case hB => kernel_rfl))
        | (apply ev_step0; (case hr | hσ => (simp only [go_sem, d1, hc, e1, e2, w1, w2, w3, hk, hbl]; try rfl)); (case hc => (first | trivial | decide | (simp only [inB, sliceOk, appendOk, rowsOk]; omega) | (simp [inB, sliceOk, appendOk, rowsOk]; omega))))
        | (apply ev_step; (case hr => (simp only [go_sem, d1, hc, e1, e2, w1, w2, w3, hk, hbl]; try rfl)); (case hσ => (intro g u; simp only [go_sem, d1, hc, e1, e2, w1, w2, w3, hk, hbl]; try rfl)); (case hc => (first | trivial | decide | (simp only [inB, sliceOk, appendOk, rowsOk]; omega) | (simp [inB, sliceOk, appendOk, rowsOk]; omega))); intro g u; (try clear u); (try clear g))
        | fail
      refine Exists.intro (i + 1, u) ⟨by show i + 1 ≤ _; omega, by show _ - (i + 1) < _ - i; omega, ?_⟩
      simp only [hbs, List.map_append, List.map_cons, List.map_nil]
      refine Wk.mk ?_ ?_
      all_goals (repeat' first | exact trivial | exact LeA.refl _ | exact LeA.any _ | exact LeO.refl _ | exact LeO.no _ | exact LeA.nil _ | exact LeA.nilOwn _ | exact LeO.nil _ _ _ | refine LeO.box ?_ | (refine LeA.i ?_; (first | rfl | (push_cast; rfl) | (rw [wrap_id (by omega)]; push_cast; omega) | (simp [wrap_id]; omega))) | refine ⟨?_, ?_⟩)
    | true =>
      have hk' : decide (i < t.key) = true := by rw [← hk]; exact decide_eq_decide.2 (by omega)
      rw [hk', Bool.true_and] at hbs
      cases hv : (w.k == 2) with
      | false =>
        rw [hv, if_neg Bool.false_ne_true] at hbs
        repeat' first
          | refine awp_seq ?_
          | refine awp_block ?_
          | refine awp_skip ?_
          | (refine reg _ (by (simp only [List.map_cons, List.map_nil]; rfl)) rfl ?_; intro K hK)
          | (refine awp_cond _ (by rfl) ?_ ?_ <;> (intro hb; first | (cases hb; done) | (have ht : true = true := hb; clear ht hb) | (have ht : false = false := hb; clear ht hb) | (simp only [hb]) | skip))
          | (refine awp_exit ?_; simp only [thenA, blockA, scopeA, reduceIte, RetQ, Nat.reduceEqDiff])
          | (refine awp_ret ?_; simp only [thenA, blockA, scopeA, RetQ])
          | (refine ev_nil (hK _ ?_); clear hK K)
          | (apply ev_guardU; (case hj | hu | hσ => (simp only [go_sem, d1, hc, e1, e2, w1, w2, w3, hk, hv, hbl]; try rfl)))
          | (refine ev_guardT _ _ (by (simp only [go_sem, d1, hc, e1, e2, w1, w2, w3, hk, hv, hbl]; rfl)) (by (simp only [go_sem, d1, hc, e1, e2, w1, w2, w3, hk, hv, hbl]; rfl)) ?_ ?_ <;> (intro hb; first | (cases hb; done) | (have ht : true = true := hb; clear ht hb) | (have ht : false = false := hb; clear ht hb) | (simp only [hb]) | skip))
          | (refine ev_guardF _ _ (by (simp only [go_sem, d1, hc, e1, e2, w1, w2, w3, hk, hv, hbl]; rfl)) (by (simp only [go_sem, d1, hc, e1, e2, w1, w2, w3, hk, hv, hbl]; rfl)) ?_ ?_ <;> (intro hb; first | (cases hb; done) | (have ht : true = true := hb; clear ht hb) | (have ht : false = false := hb; clear ht hb) | (simp only [hb]) | skip))
          | (apply ev_call0; (case hys => (simp only [go_sem, d1, hc, e1, e2, w1, w2, w3, hk, hv, hbl]; try rfl)); (case hs => first | exact a1 .. | exact a2 .. | exact h59 .. | exact h60 ..); (case hok | hσ => (simp only [go_sem, d1, hc, e1, e2, w1, w2, w3, hk, hv, hbl]; try rfl)))
          | (apply regD; (case hd => (simp only [List.map_cons, List.map_nil]; rfl)); (case hok => rfl); (case' h => (intro K hK; (repeat' first
        | (apply evd_nil; refine (hK _ ?_); clear hK K)
        | (apply evd_call0; (case hi | hys => (simp only [go_sem, d1, hc, e1, e2, w1, w2, w3, hk, hv, hbl]; try rfl)); (case hs => first | exact a1 .. | exact a2 .. | exact h59 .. | exact h60 ..); (case hok | hw | hσ => (simp only [go_sem, d1, hc, e1, e2, w1, w2, w3, hk, hv, hbl]; try rfl)))
        | (apply evd_step0; (case hr | hi | hσ => (simp only [go_sem, d1, hc, e1, e2, w1, w2, w3, hk, hv, hbl]; try rfl)); (case hc => (first | trivial | decide | (simp only [inB, sliceOk, appendOk, rowsOk]; omega) | (simp [inB, sliceOk, appendOk, rowsOk]; omega))))
        | (apply evd_step; (case hr | hi => (simp only [go_sem, d1, hc, e1, e2, w1, w2, w3, hk, hv, hbl]; try rfl)); (case hc => (first | trivial | decide | (simp only [inB, sliceOk, appendOk, rowsOk]; omega) | (simp [inB, sliceOk, appendOk, rowsOk]; omega))); (case hw | hσ => (intro g u; simp only [go_sem, d1, hc, e1, e2, w1, w2, w3, hk, hv, hbl]; try rfl)); (case' hk => (intro g u; (try clear u); (try clear g))))
        | fail))); (case hB => kernel_rfl))
          | (apply ev_step0; (case hr | hσ => (simp only [go_sem, d1, hc, e1, e2, w1, w2, w3, hk, hv, hbl]; try rfl)); (case hc => (first | trivial | decide | (simp only [inB, sliceOk, appendOk, rowsOk]; omega) | (simp [inB, sliceOk, appendOk, rowsOk]; omega))))
          | (apply ev_step; (case hr => (simp only [go_sem, d1, hc, e1, e2, w1, w2, w3, hk, hv, hbl]; try rfl)); (case hσ => (intro g u; simp only [go_sem, d1, hc, e1, e2, w1, w2, w3, hk, hv, hbl]; try rfl)); (case hc => (first | trivial | decide | (simp only [inB, sliceOk, appendOk, rowsOk]; omega) | (simp [inB, sliceOk, appendOk, rowsOk]; omega))); intro g u; (try clear u); (try clear g))
          | fail
        refine Exists.intro (i + 1, u) ⟨by show i + 1 ≤ _; omega, by show _ - (i + 1) < _ - i; omega, ?_⟩
        simp only [hbs, List.map_append, List.map_cons, List.map_nil]
        refine Wk.mk ?_ ?_
        all_goals (repeat' first | exact trivial | exact LeA.refl _ | exact LeA.any _ | exact LeO.refl _ | exact LeO.no _ | exact LeA.nil _ | exact LeA.nilOwn _ | exact LeO.nil _ _ _ | refine LeO.box ?_ | (refine LeA.i ?_; (first | rfl | (push_cast; rfl) | (rw [wrap_id (by omega)]; push_cast; omega) | (simp [wrap_id]; omega))) | refine ⟨?_, ?_⟩)
      | true =>
        rw [hv, if_pos rfl] at hbs
        repeat' first
          | refine awp_seq ?_
          | refine awp_block ?_
          | refine awp_skip ?_
          | (refine reg _ (by (simp only [List.map_cons, List.map_nil]; rfl)) rfl ?_; intro K hK)
          | (refine awp_cond _ (by rfl) ?_ ?_ <;> (intro hb; first | (cases hb; done) | (have ht : true = true := hb; clear ht hb) | (have ht : false = false := hb; clear ht hb) | (simp only [hb]) | skip))
          | (refine awp_exit ?_; simp only [thenA, blockA, scopeA, reduceIte, RetQ, Nat.reduceEqDiff])
          | (refine awp_ret ?_; simp only [thenA, blockA, scopeA, RetQ])
          | (refine ev_nil (hK _ ?_); clear hK K)
          | (apply ev_guardU; (case hj | hu | hσ => (simp only [go_sem, d1, hc, e1, e2, w1, w2, w3, hk, hv, hbl]; try rfl)))
          | (refine ev_guardT _ _ (by (simp only [go_sem, d1, hc, e1, e2, w1, w2, w3, hk, hv, hbl]; rfl)) (by (simp only [go_sem, d1, hc, e1, e2, w1, w2, w3, hk, hv, hbl]; rfl)) ?_ ?_ <;> (intro hb; first | (cases hb; done) | (have ht : true = true := hb; clear ht hb) | (have ht : false = false := hb; clear ht hb) | (simp only [hb]) | skip))
          | (refine ev_guardF _ _ (by (simp only [go_sem, d1, hc, e1, e2, w1, w2, w3, hk, hv, hbl]; rfl)) (by (simp only [go_sem, d1, hc, e1, e2, w1, w2, w3, hk, hv, hbl]; rfl)) ?_ ?_ <;> (intro hb; first | (cases hb; done) | (have ht : true = true := hb; clear ht hb) | (have ht : false = false := hb; clear ht hb) | (simp only [hb]) | skip))
          | (apply ev_call0; (case hys => (simp only [go_sem, d1, hc, e1, e2, w1, w2, w3, hk, hv, hbl]; try rfl)); (case hs => first | exact a1 .. | exact a2 .. | exact h59 .. | exact h60 ..); (case hok | hσ => (simp only [go_sem, d1, hc, e1, e2, w1, w2, w3, hk, hv, hbl]; try rfl)))
          | (apply regD; (case hd => (simp only [List.map_cons, List.map_nil]; rfl)); (case hok => rfl); (case' h => (intro K hK; (repeat' first
        | (apply evd_nil; refine (hK _ ?_); clear hK K)
        | (apply evd_call0; (case hi | hys => (simp only [go_sem, d1, hc, e1, e2, w1, w2, w3, hk, hv, hbl]; try rfl)); (case hs => first | exact a1 .. | exact a2 .. | exact h59 .. | exact h60 ..); (case hok | hw | hσ => (simp only [go_sem, d1, hc, e1, e2, w1, w2, w3, hk, hv, hbl]; try rfl)))
        | (apply evd_step0; (case hr | hi | hσ => (simp only [go_sem, d1, hc, e1, e2, w1, w2, w3, hk, hv, hbl]; try rfl)); (case hc => (first | trivial | decide | (simp only [inB, sliceOk, appendOk, rowsOk]; omega) | (simp [inB, sliceOk, appendOk, rowsOk]; omega))))
        | (apply evd_step; (case hr | hi => (simp only [go_sem, d1, hc, e1, e2, w1, w2, w3, hk, hv, hbl]; try rfl)); (case hc => (first | trivial | decide | (simp only [inB, sliceOk, appendOk, rowsOk]; omega) | (simp [inB, sliceOk, appendOk, rowsOk]; omega))); (case hw | hσ => (intro g u; simp only [go_sem, d1, hc, e1, e2, w1, w2, w3, hk, hv, hbl]; try rfl)); (case' hk => (intro g u; (try clear u); (try clear g))))
        | fail))); (case hB => kernel_rfl))
          | (apply ev_step0; (case hr | hσ => (simp only [go_sem, d1, hc, e1, e2, w1, w2, w3, hk, hv, hbl]; try rfl)); (case hc => (first | trivial | decide | (simp only [inB, sliceOk, appendOk, rowsOk]; omega) | (simp [inB, sliceOk, appendOk, rowsOk]; omega))))
          | (apply ev_step; (case hr => (simp only [go_sem, d1, hc, e1, e2, w1, w2, w3, hk, hv, hbl]; try rfl)); (case hσ => (intro g u; simp only [go_sem, d1, hc, e1, e2, w1, w2, w3, hk, hv, hbl]; try rfl)); (case hc => (first | trivial | decide | (simp only [inB, sliceOk, appendOk, rowsOk]; omega) | (simp [inB, sliceOk, appendOk, rowsOk]; omega))); intro g u; (try clear u); (try clear g))
          | fail
        refine Exists.intro (i + 1, u) ⟨by show i + 1 ≤ _; omega, by show _ - (i + 1) < _ - i; omega, ?_⟩
        simp only [hbs, List.map_append, List.map_cons, List.map_nil]
        refine Wk.mk ?_ ?_
        all_goals (repeat' first | exact trivial | exact LeA.refl _ | exact LeA.any _ | exact LeO.refl _ | exact LeO.no _ | exact LeA.nil _ | exact LeA.nilOwn _ | exact LeO.nil _ _ _ | refine LeO.box ?_ | (refine LeA.i ?_; (first | rfl | (push_cast; rfl) | (rw [wrap_id (by omega)]; push_cast; omega) | (simp [wrap_id]; omega))) | refine ⟨?_, ?_⟩)
  have d1 : decide ((i : Int) < (t.cols.length : Int)) = false := decide_eq_false (by omega)
  have : i = t.cols.length := by omega
  subst this
  rw [← hr0]
  clear hr0 hty
  generalize rowTo s st tno b = rw at *
  repeat' first
    | refine awp_seq ?_
    | refine awp_block ?_
    | refine awp_skip ?_
    | (refine reg _ (by (simp only [List.map_cons, List.map_nil]; rfl)) rfl ?_; intro K hK)
    | (refine awp_cond _ (by rfl) ?_ ?_ <;> (intro hb; first | (cases hb; done) | (have ht : true = true := hb; clear ht hb) | (have ht : false = false := hb; clear ht hb) | (simp only [hb]) | skip))
    | (refine awp_exit ?_; simp only [thenA, blockA, scopeA, reduceIte, RetQ, Nat.reduceEqDiff])
    | (refine awp_ret ?_; simp only [thenA, blockA, scopeA, RetQ])
    | (refine ev_nil (hK _ ?_); clear hK K)
    | (apply ev_guardU; (case hj | hu | hσ => (simp only [go_sem, d1]; try rfl)))
    | (refine ev_guardT _ _ (by (simp only [go_sem, d1]; rfl)) (by (simp only [go_sem, d1]; rfl)) ?_ ?_ <;> (intro hb; first | (cases hb; done) | (have ht : true = true := hb; clear ht hb) | (have ht : false = false := hb; clear ht hb) | (simp only [hb]) | skip))
    | (refine ev_guardF _ _ (by (simp only [go_sem, d1]; rfl)) (by (simp only [go_sem, d1]; rfl)) ?_ ?_ <;> (intro hb; first | (cases hb; done) | (have ht : true = true := hb; clear ht hb) | (have ht : false = false := hb; clear ht hb) | (simp only [hb]) | skip))
    | (apply regD; (case hd => (simp only [List.map_cons, List.map_nil]; rfl)); (case hok => rfl); (case' h => (intro K hK; (repeat' first
        | (apply evd_nil; refine (hK _ ?_); clear hK K)
        | (apply evd_step0; (case hr | hi | hσ => (simp only [go_sem, d1]; try rfl)); (case hc => (first | trivial | decide | (simp only [inB, sliceOk, appendOk, rowsOk]; omega) | (simp [inB, sliceOk, appendOk, rowsOk]; omega))))
        | (apply evd_step; (case hr | hi => (simp only [go_sem, d1]; try rfl)); (case hc => (first | trivial | decide | (simp only [inB, sliceOk, appendOk, rowsOk]; omega) | (simp [inB, sliceOk, appendOk, rowsOk]; omega))); (case hw | hσ => (intro g u; simp only [go_sem, d1]; try rfl)); (case' hk => (intro g u; (try clear u); (try clear g))))
        | fail))); (case hB => kernel_rfl))
    | (apply ev_step0; (case hr | hσ => (simp only [go_sem, d1]; try rfl)); (case hc => (first | trivial | decide | (simp only [inB, sliceOk, appendOk, rowsOk]; omega) | (simp [inB, sliceOk, appendOk, rowsOk]; omega))))
    | (apply ev_step; (case hr => (simp only [go_sem, d1]; try rfl)); (case hσ => (intro g u; simp only [go_sem, d1]; try rfl)); (case hc => (first | trivial | decide | (simp only [inB, sliceOk, appendOk, rowsOk]; omega) | (simp [inB, sliceOk, appendOk, rowsOk]; omega))); intro g u; (try clear u); (try clear g))
    | fail
  refine awp_loopI (fun j : Nat × Value => j.1 ≤ s.refs.length) (fun j => s.refs.length - j.1) (fun j => ⟨[.any, .any, .any, .ptr 3 g3 0, .ptr 4 g4 0, .ptr 5 g5 0, .ptr 6 g6 0, .ptr 7 g7 0, .any, .any, .any, .any, litI .i64 j.1, .any, .any, .any, .any, .any, .any, .any, .any, .any, .any, .any, .any, .any, .any, .any, .any, .any, .any, .any, .any, .any, .any, .any, .any, .any, .any, .any, .any, .any, .any, .any, .any, .any, .any, .any, .any, .any, .any, .any, .any, .any, .any, .any, .any, .any, .any, .any, .any, .any, .any, .any, .any, .any, .any, .any, .any, .any, .any, .any, .any, .any, .any, .any, .any, .any, .any, .any, .any, .any, .any, .any, .any, .any, .any, .any, .any, .any, .any, .any, .any, .any, .any, .any, .any, .any, .any, .any, .any, .any, .any, .any, .any, .any, .any, .any, .any, .any, .any, .any, .any, .any, .any, .any, .any, .any, .any, .any, .any, .any, .any, .any, .any, .any, .any, .any, .any, .any, .any, .any, .any, .any, .any, .any, .any, .any, .any, .any, .any, .any, .any, .any, .any, .any, .any, .any, .any, .any, .any, .any, .any, .any, .any, .any, .any, .any, .any, .any, .any, .any, .any, .any, .any, .any, .any, .any, .any, .any, .any, .any, .any, .any], [.no, .no, .no, .box g3 (schA s), .box g4 (stA st), .box g5 [litI .i64 (tno : Int), .d (bytesD b)], .box g6 [.d (.lit (.slice none 0 0)), .d (.lit (.slice none 0 0)), .d (.lit (.slice none 0 0))], .box g7 [.own 70 j.2, .d (.lit (.slice none 0 0)), .d (.lit (.slice none 0 0))], .no, .no, .no, .no, .no, .no, .no, .no, .no, .no, .no, .no, .no, .no, .no, .no, .no, .no, .no, .no, .no, .no, .no, .no, .no, .no, .no, .no, .no, .no, .no, .no, .no, .no, .no, .no, .no, .no, .no, .no, .no, .no, .no, .no, .no, .no, .no, .no, .no, .no, .no, .no, .no, .no, .no, .no, .no, .no, .no, .no, .no, .no, .row j.2 74 5 ((rw j.1).map clD), .no, .no, .no, .no, .no, .no, .no, .no, .no, .no, .no, .no, .no, .no, .no, .no, .no, .no, .no, .no, .no, .no, .no, .no, .no, .no, .no, .no, .no, .no, .no, .no, .no, .no, .no, .no, .no, .no, .no, .no, .no, .no, .no, .no, .no, .no, .no, .no, .no, .no, .no, .no, .no, .no, .no, .no, .no, .no, .no, .no, .no, .no, .no, .no, .no, .no, .no, .no, .no, .no, .no, .no, .no, .no, .no, .no, .no, .no, .no, .no, .no, .no, .no, .no, .no, .no, .no, .no, .no, .no, .no, .no, .no, .no, .no, .no, .no, .no, .no, .no, .no, .no, .no]⟩) (0, v) (by simp) ?_ ?_
  · refine Wk.mk ?_ ?_
    all_goals (repeat' first | exact trivial | exact LeA.refl _ | exact LeA.any _ | exact LeO.refl _ | exact LeO.no _ | exact LeA.nil _ | exact LeA.nilOwn _ | exact LeO.nil _ _ _ | refine LeO.box ?_ | (refine LeA.i ?_; (first | rfl | (push_cast; rfl) | (rw [wrap_id (by omega)]; push_cast; omega) | (simp [wrap_id]; omega))) | refine ⟨?_, ?_⟩)
  rintro ⟨i, v⟩ hi
  simp only [litI, litB] at hi ⊢
  by_cases h1 : i < s.refs.length
  rotate_left
  · have d1 : decide ((i : Int) < (s.refs.length : Int)) = false := decide_eq_false (by omega)
    have : i = s.refs.length := by omega
    subst this
    repeat' first
      | refine awp_seq ?_
      | refine awp_block ?_
      | refine awp_skip ?_
      | (refine reg _ (by (simp only [List.map_cons, List.map_nil]; rfl)) rfl ?_; intro K hK)
      | (refine awp_cond _ (by rfl) ?_ ?_ <;> (intro hb; first | (cases hb; done) | (have ht : true = true := hb; clear ht hb) | (have ht : false = false := hb; clear ht hb) | (simp only [hb]) | skip))
      | (refine awp_exit ?_; simp only [thenA, blockA, scopeA, reduceIte, RetQ, Nat.reduceEqDiff])
      | (refine awp_ret ?_; simp only [thenA, blockA, scopeA, RetQ])
      | (refine ev_nil (hK _ ?_); clear hK K)
      | (apply ev_guardU; (case hj | hu | hσ => (simp only [go_sem, d1]; try rfl)))
      | (refine ev_guardT _ _ (by (simp only [go_sem, d1]; rfl)) (by (simp only [go_sem, d1]; rfl)) ?_ ?_ <;> (intro hb; first | (cases hb; done) | (have ht : true = true := hb; clear ht hb) | (have ht : false = false := hb; clear ht hb) | (simp only [hb]) | skip))
      | (refine ev_guardF _ _ (by (simp only [go_sem, d1]; rfl)) (by (simp only [go_sem, d1]; rfl)) ?_ ?_ <;> (intro hb; first | (cases hb; done) | (have ht : true = true := hb; clear ht hb) | (have ht : false = false := hb; clear ht hb) | (simp only [hb]) | skip))
      | (apply regD; (case hd => (simp only [List.map_cons, List.map_nil]; rfl)); (case hok => rfl); (case' h => (intro K hK; (repeat' first
        | (apply evd_nil; refine (hK _ ?_); clear hK K)
        | (apply evd_step0; (case hr | hi | hσ => (simp only [go_sem, d1]; try rfl)); (case hc => (first | trivial | decide | (simp only [inB, sliceOk, appendOk, rowsOk]; omega) | (simp [inB, sliceOk, appendOk, rowsOk]; omega))))
        | (apply evd_step; (case hr | hi => (simp only [go_sem, d1]; try rfl)); (case hc => (first | trivial | decide | (simp only [inB, sliceOk, appendOk, rowsOk]; omega) | (simp [inB, sliceOk, appendOk, rowsOk]; omega))); (case hw | hσ => (intro g u; simp only [go_sem, d1]; try rfl)); (case' hk => (intro g u; (try clear u); (try clear g))))
        | fail))); (case hB => kernel_rfl))
      | (apply ev_step0; (case hr | hσ => (simp only [go_sem, d1]; try rfl)); (case hc => (first | trivial | decide | (simp only [inB, sliceOk, appendOk, rowsOk]; omega) | (simp [inB, sliceOk, appendOk, rowsOk]; omega))))
      | (apply ev_step; (case hr => (simp only [go_sem, d1]; try rfl)); (case hσ => (intro g u; simp only [go_sem, d1]; try rfl)); (case hc => (first | trivial | decide | (simp only [inB, sliceOk, appendOk, rowsOk]; omega) | (simp [inB, sliceOk, appendOk, rowsOk]; omega))); intro g u; (try clear u); (try clear g))
      | fail
    all_goals (refine resN_one T_ok rfl _ (by (simp only [go_sem, resA]; rfl)) (by first | trivial | (simp only [go_sem, resA])) (by (simp only [go_sem]; first | trivial | exact flatRows_map (fun _ => rfl) _)) ?_; simp only [go_sem])
    exact LeA.refl _
  have d1 : decide ((i : Int) < (s.refs.length : Int)) = true := decide_eq_true (by omega)
  have hx := rfs_at s.refs h1
  obtain ⟨r, hr, r1, r2, r3, r4, r5, r6⟩ := ref_at h h1 hs
  have r7 := (h.refs _ (getD_mem' h1 rfN)).2.1
  rw [hr] at hx r7
  have hS := hrS i h1
  rw [hr] at hS
  have hz := stt_at st r6
  cases c1 : ((r.table : Int) != (tno : Int)) with
  | true =>
    rw [refRow, if_pos c1] at hS
    repeat' first
      | refine awp_seq ?_
      | refine awp_block ?_
      | refine awp_skip ?_
      | (refine reg _ (by (simp only [List.map_cons, List.map_nil]; rfl)) rfl ?_; intro K hK)
      | (refine awp_cond _ (by rfl) ?_ ?_ <;> (intro hb; first | (cases hb; done) | (have ht : true = true := hb; clear ht hb) | (have ht : false = false := hb; clear ht hb) | (simp only [hb]) | skip))
      | (refine awp_exit ?_; simp only [thenA, blockA, scopeA, reduceIte, RetQ, Nat.reduceEqDiff])
      | (refine awp_ret ?_; simp only [thenA, blockA, scopeA, RetQ])
      | (refine ev_nil (hK _ ?_); clear hK K)
      | (apply ev_guardU; (case hj | hu | hσ => (simp only [go_sem, d1, hx, c1]; try rfl)))
      | (refine ev_guardT _ _ (by (simp only [go_sem, d1, hx, c1]; rfl)) (by (simp only [go_sem, d1, hx, c1]; rfl)) ?_ ?_ <;> (intro hb; first | (cases hb; done) | (have ht : true = true := hb; clear ht hb) | (have ht : false = false := hb; clear ht hb) | (simp only [hb]) | skip))
      | (refine ev_guardF _ _ (by (simp only [go_sem, d1, hx, c1]; rfl)) (by (simp only [go_sem, d1, hx, c1]; rfl)) ?_ ?_ <;> (intro hb; first | (cases hb; done) | (have ht : true = true := hb; clear ht hb) | (have ht : false = false := hb; clear ht hb) | (simp only [hb]) | skip))
      | (apply regD; (case hd => (simp only [List.map_cons, List.map_nil]; rfl)); (case hok => rfl); (case' h => (intro K hK; (repeat' first
        | (apply evd_nil; refine (hK _ ?_); clear hK K)
        | (apply evd_step0; (case hr | hi | hσ => (simp only [go_sem, d1, hx, c1]; try rfl)); (case hc => (first | trivial | decide | (simp only [inB, sliceOk, appendOk, rowsOk]; omega) | (simp [inB, sliceOk, appendOk, rowsOk]; omega))))
        | (apply evd_step; (case hr | hi => (simp only [go_sem, d1, hx, c1]; try rfl)); (case hc => (first | trivial | decide | (simp only [inB, sliceOk, appendOk, rowsOk]; omega) | (simp [inB, sliceOk, appendOk, rowsOk]; omega))); (case hw | hσ => (intro g u; simp only [go_sem, d1, hx, c1]; try rfl)); (case' hk => (intro g u; (try clear u); (try clear g))))
        | fail))); (case hB => kernel_rfl))
      | (apply ev_step0; (case hr | hσ => (simp only [go_sem, d1, hx, c1]; try rfl)); (case hc => (first | trivial | decide | (simp only [inB, sliceOk, appendOk, rowsOk]; omega) | (simp [inB, sliceOk, appendOk, rowsOk]; omega))))
      | (apply ev_step; (case hr => (simp only [go_sem, d1, hx, c1]; try rfl)); (case hσ => (intro g u; simp only [go_sem, d1, hx, c1]; try rfl)); (case hc => (first | trivial | decide | (simp only [inB, sliceOk, appendOk, rowsOk]; omega) | (simp [inB, sliceOk, appendOk, rowsOk]; omega))); intro g u; (try clear u); (try clear g))
      | fail
    refine Exists.intro (i + 1, v) ⟨by show i + 1 ≤ _; omega, by show _ - (i + 1) < _ - i; omega, ?_⟩
    simp only [hS]
    refine Wk.mk ?_ ?_
    all_goals (repeat' first | exact trivial | exact LeA.refl _ | exact LeA.any _ | exact LeO.refl _ | exact LeO.no _ | exact LeA.nil _ | exact LeA.nilOwn _ | exact LeO.nil _ _ _ | refine LeO.box ?_ | (refine LeA.i ?_; (first | rfl | (push_cast; rfl) | (rw [wrap_id (by omega)]; push_cast; omega) | (simp [wrap_id]; omega))) | refine ⟨?_, ?_⟩)
  | false =>
  have etno : r.table = tno := by have := c1; simp at this; omega
  rw [refRow, if_neg (by rw [c1]; exact Bool.false_ne_true)] at hS
  have c2 : decide ((r.to : Int) ≥ (tno : Int)) = false := decide_eq_false (by omega)
  cases c3 : (((st.getD r.to []).length : Int) == 0) with
  | true =>
    rw [if_pos c3] at hS
    repeat' first
      | refine awp_seq ?_
      | refine awp_block ?_
      | refine awp_skip ?_
      | (refine reg _ (by (simp only [List.map_cons, List.map_nil]; rfl)) rfl ?_; intro K hK)
      | (refine awp_cond _ (by rfl) ?_ ?_ <;> (intro hb; first | (cases hb; done) | (have ht : true = true := hb; clear ht hb) | (have ht : false = false := hb; clear ht hb) | (simp only [hb]) | skip))
      | (refine awp_exit ?_; simp only [thenA, blockA, scopeA, reduceIte, RetQ, Nat.reduceEqDiff])
      | (refine awp_ret ?_; simp only [thenA, blockA, scopeA, RetQ])
      | (refine ev_nil (hK _ ?_); clear hK K)
      | (apply ev_guardU; (case hj | hu | hσ => (simp only [go_sem, d1, hx, hz, c1, c2, c3]; try rfl)))
      | (refine ev_guardT _ _ (by (simp only [go_sem, d1, hx, hz, c1, c2, c3]; rfl)) (by (simp only [go_sem, d1, hx, hz, c1, c2, c3]; rfl)) ?_ ?_ <;> (intro hb; first | (cases hb; done) | (have ht : true = true := hb; clear ht hb) | (have ht : false = false := hb; clear ht hb) | (simp only [hb]) | skip))
      | (refine ev_guardF _ _ (by (simp only [go_sem, d1, hx, hz, c1, c2, c3]; rfl)) (by (simp only [go_sem, d1, hx, hz, c1, c2, c3]; rfl)) ?_ ?_ <;> (intro hb; first | (cases hb; done) | (have ht : true = true := hb; clear ht hb) | (have ht : false = false := hb; clear ht hb) | (simp only [hb]) | skip))
      | (apply regD; (case hd => (simp only [List.map_cons, List.map_nil]; rfl)); (case hok => rfl); (case' h => (intro K hK; (repeat' first
        | (apply evd_nil; refine (hK _ ?_); clear hK K)
        | (apply evd_step0; (case hr | hi | hσ => (simp only [go_sem, d1, hx, hz, c1, c2, c3]; try rfl)); (case hc => (first | trivial | decide | (simp only [inB, sliceOk, appendOk, rowsOk]; omega) | (simp [inB, sliceOk, appendOk, rowsOk]; omega))))
        | (apply evd_step; (case hr | hi => (simp only [go_sem, d1, hx, hz, c1, c2, c3]; try rfl)); (case hc => (first | trivial | decide | (simp only [inB, sliceOk, appendOk, rowsOk]; omega) | (simp [inB, sliceOk, appendOk, rowsOk]; omega))); (case hw | hσ => (intro g u; simp only [go_sem, d1, hx, hz, c1, c2, c3]; try rfl)); (case' hk => (intro g u; (try clear u); (try clear g))))
        | fail))); (case hB => kernel_rfl))
      | (apply ev_step0; (case hr | hσ => (simp only [go_sem, d1, hx, hz, c1, c2, c3]; try rfl)); (case hc => (first | trivial | decide | (simp only [inB, sliceOk, appendOk, rowsOk]; omega) | (simp [inB, sliceOk, appendOk, rowsOk]; omega))))
      | (apply ev_step; (case hr => (simp only [go_sem, d1, hx, hz, c1, c2, c3]; try rfl)); (case hσ => (intro g u; simp only [go_sem, d1, hx, hz, c1, c2, c3]; try rfl)); (case hc => (first | trivial | decide | (simp only [inB, sliceOk, appendOk, rowsOk]; omega) | (simp [inB, sliceOk, appendOk, rowsOk]; omega))); intro g u; (try clear u); (try clear g))
      | fail
    refine Exists.intro (i + 1, v) ⟨by show i + 1 ≤ _; omega, by show _ - (i + 1) < _ - i; omega, ?_⟩
    simp only [hS]
    refine Wk.mk ?_ ?_
    all_goals (repeat' first | exact trivial | exact LeA.refl _ | exact LeA.any _ | exact LeO.refl _ | exact LeO.no _ | exact LeA.nil _ | exact LeA.nilOwn _ | exact LeO.nil _ _ _ | refine LeO.box ?_ | (refine LeA.i ?_; (first | rfl | (push_cast; rfl) | (rw [wrap_id (by omega)]; push_cast; omega) | (simp [wrap_id]; omega))) | refine ⟨?_, ?_⟩)
  | false =>
  rw [if_neg (by rw [c3]; exact Bool.false_ne_true)] at hS
  rw [hq0] at hS
  cases c4 : (q0.tmod 8 == 0) with
  | true =>
    rw [if_pos c4] at hS
    repeat' first
      | refine awp_seq ?_
      | refine awp_block ?_
      | refine awp_skip ?_
      | (refine reg _ (by (simp only [List.map_cons, List.map_nil]; rfl)) rfl ?_; intro K hK)
      | (refine awp_cond _ (by rfl) ?_ ?_ <;> (intro hb; first | (cases hb; done) | (have ht : true = true := hb; clear ht hb) | (have ht : false = false := hb; clear ht hb) | (simp only [hb]) | skip))
      | (refine awp_exit ?_; simp only [thenA, blockA, scopeA, reduceIte, RetQ, Nat.reduceEqDiff])
      | (refine awp_ret ?_; simp only [thenA, blockA, scopeA, RetQ])
      | (refine ev_nil (hK _ ?_); clear hK K)
      | (apply ev_guardU; (case hj | hu | hσ => (simp only [go_sem, d1, hx, hz, c1, c2, c3, c4]; try rfl)))
      | (refine ev_guardT _ _ (by (simp only [go_sem, d1, hx, hz, c1, c2, c3, c4]; rfl)) (by (simp only [go_sem, d1, hx, hz, c1, c2, c3, c4]; rfl)) ?_ ?_ <;> (intro hb; first | (cases hb; done) | (have ht : true = true := hb; clear ht hb) | (have ht : false = false := hb; clear ht hb) | (simp only [hb]) | skip))
      | (refine ev_guardF _ _ (by (simp only [go_sem, d1, hx, hz, c1, c2, c3, c4]; rfl)) (by (simp only [go_sem, d1, hx, hz, c1, c2, c3, c4]; rfl)) ?_ ?_ <;> (intro hb; first | (cases hb; done) | (have ht : true = true := hb; clear ht hb) | (have ht : false = false := hb; clear ht hb) | (simp only [hb]) | skip))
      | (apply ev_call0; (case hys => (simp only [go_sem, d1, hx, hz, c1, c2, c3, c4]; try rfl)); (case hs => first | exact a0 ..); (case hok | hσ => (simp only [go_sem, d1, hx, hz, c1, c2, c3, c4]; try rfl)))
      | (apply regD; (case hd => (simp only [List.map_cons, List.map_nil]; rfl)); (case hok => rfl); (case' h => (intro K hK; (repeat' first
        | (apply evd_nil; refine (hK _ ?_); clear hK K)
        | (apply evd_call0; (case hi | hys => (simp only [go_sem, d1, hx, hz, c1, c2, c3, c4]; try rfl)); (case hs => first | exact a0 ..); (case hok | hw | hσ => (simp only [go_sem, d1, hx, hz, c1, c2, c3, c4]; try rfl)))
        | (apply evd_step0; (case hr | hi | hσ => (simp only [go_sem, d1, hx, hz, c1, c2, c3, c4]; try rfl)); (case hc => (first | trivial | decide | (simp only [inB, sliceOk, appendOk, rowsOk]; omega) | (simp [inB, sliceOk, appendOk, rowsOk]; omega))))
        | (apply evd_step; (case hr | hi => (simp only [go_sem, d1, hx, hz, c1, c2, c3, c4]; try rfl)); (case hc => (first | trivial | decide | (simp only [inB, sliceOk, appendOk, rowsOk]; omega) | (simp [inB, sliceOk, appendOk, rowsOk]; omega))); (case hw | hσ => (intro g u; simp only [go_sem, d1, hx, hz, c1, c2, c3, c4]; try rfl)); (case' hk => (intro g u; (try clear u); (try clear g))))
        | fail))); (case hB => kernel_rfl))
      | (apply ev_step0; (case hr | hσ => (simp only [go_sem, d1, hx, hz, c1, c2, c3, c4]; try rfl)); (case hc => (first | trivial | decide | (simp only [inB, sliceOk, appendOk, rowsOk]; omega) | (simp [inB, sliceOk, appendOk, rowsOk]; omega))))
      | (apply ev_step; (case hr => (simp only [go_sem, d1, hx, hz, c1, c2, c3, c4]; try rfl)); (case hσ => (intro g u; simp only [go_sem, d1, hx, hz, c1, c2, c3, c4]; try rfl)); (case hc => (first | trivial | decide | (simp only [inB, sliceOk, appendOk, rowsOk]; omega) | (simp [inB, sliceOk, appendOk, rowsOk]; omega))); intro g u; (try clear u); (try clear g))
      | fail
    refine Exists.intro (i + 1, v) ⟨by show i + 1 ≤ _; omega, by show _ - (i + 1) < _ - i; omega, ?_⟩
    simp only [hS]
    refine Wk.mk ?_ ?_
    all_goals (repeat' first | exact trivial | exact LeA.refl _ | exact LeA.any _ | exact LeO.refl _ | exact LeO.no _ | exact LeA.nil _ | exact LeA.nilOwn _ | exact LeO.nil _ _ _ | refine LeO.box ?_ | (refine LeA.i ?_; (first | rfl | (push_cast; rfl) | (rw [wrap_id (by omega)]; push_cast; omega) | (simp [wrap_id]; omega))) | refine ⟨?_, ?_⟩)
  | false =>
  rw [if_neg (by rw [c4]; exact Bool.false_ne_true)] at hS
  have hrows := hs.rows _ r2
  have hkto := h.keys _ r2
  have hto := tbs_at s.tables r2
  have h61 := f61_spec s r r2 r1 (by omega)
  simp only [nullM, keyM, keyN, hq0] at hS
  simp only [keyN] at hkto r3
  have hcl : (t.cols.length : Nat) = colN s r.table := by rw [etno]; exact hcn.symm
  generalize st.getD r.to [] = rows at *
  generalize s.tables.getD r.to tbN = tt at *
  have hl0 : 0 < rows.length := by have : rows.length ≠ 0 := by simpa using c3
                                   omega
  have q1 := Int.tmod_lt_of_pos q0 (b := rows.length) (by omega)
  have q2 := Int.tmod_nonneg (rows.length : Int) a0b.1
  obtain ⟨m, hm⟩ : ∃ m : Nat, q0.tmod (rows.length : Int) = m := ⟨(q0.tmod (rows.length : Int)).toNat, by omega⟩
  rw [hm, Int.toNat_natCast] at hS
  have hml : m < rows.length := by omega
  have hy := rws_at rows hml
  have hro := hrows _ (getD_mem' hml [])
  generalize rows.getD m [] = l at *
  have h21 := f21_own l tt.key (by have := hro.1; omega)
  have hkl : (keyR l tt.key).length = tt.key := by rw [keyR_len, hro.1]; omega
  generalize keyR l tt.key = k0 at *
  have hc5 : (if ((q0.tmod 8 == 1) && !isKeyR s r) = true then k0.map (fun _ => nullV) else k0).length = k0.length := by split <;> simp
  generalize hkf : (if ((q0.tmod 8 == 1) && !isKeyR s r) = true then k0.map (fun _ => nullV) else k0) = kf at *
  repeat' first
    | refine awp_seq ?_
    | refine awp_block ?_
    | refine awp_skip ?_
    | (refine reg _ (by (simp only [List.map_cons, List.map_nil]; rfl)) rfl ?_; intro K hK)
    | (refine awp_cond _ (by rfl) ?_ ?_ <;> (intro hb; first | (cases hb; done) | (have ht : true = true := hb; clear ht hb) | (have ht : false = false := hb; clear ht hb) | (simp only [hb]) | skip))
    | (refine awp_exit ?_; simp only [thenA, blockA, scopeA, reduceIte, RetQ, Nat.reduceEqDiff])
    | (refine awp_ret ?_; simp only [thenA, blockA, scopeA, RetQ])
    | (refine ev_nil (hK _ ?_); clear hK K)
    | (apply ev_guardU; (case hj | hu | hσ => (simp only [go_sem, d1, hx, hz, c1, c2, c3, c4, hm, hy, hto]; try rfl)))
    | (refine ev_guardT _ _ (by (simp only [go_sem, d1, hx, hz, c1, c2, c3, c4, hm, hy, hto]; rfl)) (by (simp only [go_sem, d1, hx, hz, c1, c2, c3, c4, hm, hy, hto]; rfl)) ?_ ?_ <;> (intro hb; first | (cases hb; done) | (have ht : true = true := hb; clear ht hb) | (have ht : false = false := hb; clear ht hb) | (simp only [hb]) | skip))
    | (refine ev_guardF _ _ (by (simp only [go_sem, d1, hx, hz, c1, c2, c3, c4, hm, hy, hto]; rfl)) (by (simp only [go_sem, d1, hx, hz, c1, c2, c3, c4, hm, hy, hto]; rfl)) ?_ ?_ <;> (intro hb; first | (cases hb; done) | (have ht : true = true := hb; clear ht hb) | (have ht : false = false := hb; clear ht hb) | (simp only [hb]) | skip))
    | (apply ev_call0; (case hys => (simp only [go_sem, d1, hx, hz, c1, c2, c3, c4, hm, hy, hto]; try rfl)); (case hs => first | exact a0 ..); (case hok | hσ => (simp only [go_sem, d1, hx, hz, c1, c2, c3, c4, hm, hy, hto]; try rfl)))
    | (apply ev_callF0; (case hys => (simp only [go_sem, d1, hx, hz, c1, c2, c3, c4, hm, hy, hto]; try rfl)); (case hs => first | exact h21 ..); (case hok => (simp only [go_sem, d1, hx, hz, c1, c2, c3, c4, hm, hy, hto]; try rfl)); (case hd => simp); (case hσ => (intro u; simp only [go_sem, d1, hx, hz, c1, c2, c3, c4, hm, hy, hto]; try rfl)); intro u)
    | (apply regD; (case hd => (simp only [List.map_cons, List.map_nil]; rfl)); (case hok => rfl); (case' h => (intro K hK; (repeat' first
        | (apply evd_nil; refine (hK _ ?_); clear hK K)
        | (apply evd_call0; (case hi | hys => (simp only [go_sem, d1, hx, hz, c1, c2, c3, c4, hm, hy, hto]; try rfl)); (case hs => first | exact a0 ..); (case hok | hw | hσ => (simp only [go_sem, d1, hx, hz, c1, c2, c3, c4, hm, hy, hto]; try rfl)))
        | (apply evd_callF0; (case hi | hys => (simp only [go_sem, d1, hx, hz, c1, c2, c3, c4, hm, hy, hto]; try rfl)); (case hs => first | exact h21 ..); (case hok => (simp only [go_sem, d1, hx, hz, c1, c2, c3, c4, hm, hy, hto]; try rfl)); (case hd => simp); (case hw | hσ => (intro u; simp only [go_sem, d1, hx, hz, c1, c2, c3, c4, hm, hy, hto]; try rfl)); (case' hk => intro u))
        | (apply evd_step0; (case hr | hi | hσ => (simp only [go_sem, d1, hx, hz, c1, c2, c3, c4, hm, hy, hto]; try rfl)); (case hc => (first | trivial | decide | (simp only [inB, sliceOk, appendOk, rowsOk]; omega) | (simp [inB, sliceOk, appendOk, rowsOk]; omega))))
        | (apply evd_step; (case hr | hi => (simp only [go_sem, d1, hx, hz, c1, c2, c3, c4, hm, hy, hto]; try rfl)); (case hc => (first | trivial | decide | (simp only [inB, sliceOk, appendOk, rowsOk]; omega) | (simp [inB, sliceOk, appendOk, rowsOk]; omega))); (case hw | hσ => (intro g u; simp only [go_sem, d1, hx, hz, c1, c2, c3, c4, hm, hy, hto]; try rfl)); (case' hk => (intro g u; (try clear u); (try clear g))))
        | fail))); (case hB => kernel_rfl))
    | (apply ev_step0; (case hr | hσ => (simp only [go_sem, d1, hx, hz, c1, c2, c3, c4, hm, hy, hto]; try rfl)); (case hc => (first | trivial | decide | (simp only [inB, sliceOk, appendOk, rowsOk]; omega) | (simp [inB, sliceOk, appendOk, rowsOk]; omega))))
    | (apply ev_step; (case hr => (simp only [go_sem, d1, hx, hz, c1, c2, c3, c4, hm, hy, hto]; try rfl)); (case hσ => (intro g u; simp only [go_sem, d1, hx, hz, c1, c2, c3, c4, hm, hy, hto]; try rfl)); (case hc => (first | trivial | decide | (simp only [inB, sliceOk, appendOk, rowsOk]; omega) | (simp [inB, sliceOk, appendOk, rowsOk]; omega))); intro g u; (try clear u); (try clear g))
    | fail
  have hkfl : kf.length = k0.length := hc5
  have hmx0 := fun j => mixK_len hkfl j
  refine awp_loopI (fun j : Nat => j ≤ k0.length) (fun j => k0.length - j) (fun j => ⟨[.any, .any, .any, .ptr 3 g3 0, .ptr 4 g4 0, .ptr 5 g5 0, .ptr 6 g6 0, .ptr 7 g7 0, .any, .any, .any, .any, litI .i64 i, .ptr 13 g 0, .own 139 u, litI .i64 j, .any, .any, .any, .any, .any, .any, .any, .any, .any, .any, .any, .any, .any, .any, .any, .any, .any, .any, .any, .any, .any, .any, .any, .any, .any, .any, .any, .any, .any, .any, .any, .any, .any, .any, .any, .any, .any, .any, .any, .any, .any, .any, .any, .any, .any, .any, .any, .any, .any, .any, .any, .any, .any, .any, .any, .any, .any, .any, .any, .any, .any, .any, .any, .any, .any, .any, .any, .any, .any, .any, .any, .any, .any, .any, .any, .any, .any, .any, .any, .any, .any, .any, .any, .any, .any, .any, .any, .any, .any, .any, .any, .any, .any, .any, .any, .any, .any, .any, .any, .any, .any, .any, .any, .any, .any, .any, .any, .any, .any, .any, .any, .any, .any, .any, .any, .any, .any, .any, .any, .any, .any, .any, .any, .any, .any, .any, .any, .any, .any, .any, .any, .any, .any, .any, .any, .any, .any, .any, .any, .any, .any, .any, .any, .any, .any, .any, .any, .any, .any, .any, .any, .any, .any, .any, .any, .any, .any, .any], [.no, .no, .no, .box g3 (schA s), .box g4 (stA st), .box g5 [litI .i64 (tno : Int), .d (bytesD b)], .box g6 [.d (.lit (.slice none 0 0)), .d (.lit (.slice none 0 0)), .d (.lit (.slice none 0 0))], .box g7 [.own 70 v, .d (.lit (.slice none 0 0)), .d (.lit (.slice none 0 0))], .no, .no, .no, .no, .no, .box g [litI .i64 (r.table : Int), litI .i64 (r.column : Int), litI .i64 (r.to : Int)], .no, .no, .no, .no, .no, .no, .no, .no, .no, .no, .no, .no, .no, .no, .no, .no, .no, .no, .no, .no, .no, .no, .no, .no, .no, .no, .no, .no, .no, .no, .no, .no, .no, .no, .no, .no, .no, .no, .no, .no, .no, .no, .no, .no, .no, .no, .no, .no, .no, .no, .no, .no, .no, .no, .no, .no, .row v 74 5 ((putVs (rw i) r.column (kf.take j)).map clD), .no, .no, .no, .no, .no, .no, .no, .no, .no, .no, .no, .no, .no, .no, .no, .no, .no, .no, .no, .no, .no, .no, .no, .no, .no, .no, .no, .no, .no, .no, .no, .no, .no, .no, .no, .no, .no, .no, .no, .no, .no, .no, .no, .no, .no, .no, .no, .no, .no, .no, .no, .no, .no, .no, .no, .no, .no, .no, .no, .no, .no, .no, .no, .no, .no, .no, .no, .no, .row u 70 3 ((mixK kf k0 j).map vlD), .no, .no, .no, .no, .no, .no, .no, .no, .no, .no, .no, .no, .no, .no, .no, .no, .no, .no, .no, .no, .no, .no, .no, .no, .no, .no, .no, .no, .no, .no, .no, .no, .no, .no]⟩) 0 (by omega) ?_ ?_
  · refine Wk.mk ?_ ?_
    all_goals (repeat' first | exact trivial | exact LeA.refl _ | exact LeA.any _ | exact LeO.refl _ | exact LeO.no _ | exact LeA.nil _ | exact LeA.nilOwn _ | exact LeO.nil _ _ _ | refine LeO.box ?_ | (refine LeA.i ?_; (first | rfl | (push_cast; rfl) | (rw [wrap_id (by omega)]; push_cast; omega) | (simp [wrap_id]; omega))) | refine ⟨?_, ?_⟩)
  intro j hj
  simp only [litI, litB] at hj ⊢
  by_cases h2 : j < k0.length
  rotate_left
  · have d2 : decide ((j : Int) < (k0.length : Int)) = false := decide_eq_false (by omega)
    rw [List.take_of_length_le (by omega)]
    have hmj := hmx0 j
    rw [← hS]
    repeat' first
      | refine awp_seq ?_
      | refine awp_block ?_
      | refine awp_skip ?_
      | (refine reg _ (by (simp only [List.map_cons, List.map_nil]; rfl)) rfl ?_; intro K hK)
      | (refine awp_cond _ (by rfl) ?_ ?_ <;> (intro hb; first | (cases hb; done) | (have ht : true = true := hb; clear ht hb) | (have ht : false = false := hb; clear ht hb) | (simp only [hb]) | skip))
      | (refine awp_exit ?_; simp only [thenA, blockA, scopeA, reduceIte, RetQ, Nat.reduceEqDiff])
      | (refine awp_ret ?_; simp only [thenA, blockA, scopeA, RetQ])
      | (refine ev_nil (hK _ ?_); clear hK K)
      | (apply ev_guardU; (case hj | hu | hσ => (simp only [go_sem, d2, hmj]; try rfl)))
      | (refine ev_guardT _ _ (by (simp only [go_sem, d2, hmj]; rfl)) (by (simp only [go_sem, d2, hmj]; rfl)) ?_ ?_ <;> (intro hb; first | (cases hb; done) | (have ht : true = true := hb; clear ht hb) | (have ht : false = false := hb; clear ht hb) | (simp only [hb]) | skip))
      | (refine ev_guardF _ _ (by (simp only [go_sem, d2, hmj]; rfl)) (by (simp only [go_sem, d2, hmj]; rfl)) ?_ ?_ <;> (intro hb; first | (cases hb; done) | (have ht : true = true := hb; clear ht hb) | (have ht : false = false := hb; clear ht hb) | (simp only [hb]) | skip))
      | (apply regD; (case hd => (simp only [List.map_cons, List.map_nil]; rfl)); (case hok => rfl); (case' h => (intro K hK; (repeat' first
        | (apply evd_nil; refine (hK _ ?_); clear hK K)
        | (apply evd_step0; (case hr | hi | hσ => (simp only [go_sem, d2, hmj]; try rfl)); (case hc => (first | trivial | decide | (simp only [inB, sliceOk, appendOk, rowsOk]; omega) | (simp [inB, sliceOk, appendOk, rowsOk]; omega))))
        | (apply evd_step; (case hr | hi => (simp only [go_sem, d2, hmj]; try rfl)); (case hc => (first | trivial | decide | (simp only [inB, sliceOk, appendOk, rowsOk]; omega) | (simp [inB, sliceOk, appendOk, rowsOk]; omega))); (case hw | hσ => (intro g u; simp only [go_sem, d2, hmj]; try rfl)); (case' hk => (intro g u; (try clear u); (try clear g))))
        | fail))); (case hB => kernel_rfl))
      | (apply ev_step0; (case hr | hσ => (simp only [go_sem, d2, hmj]; try rfl)); (case hc => (first | trivial | decide | (simp only [inB, sliceOk, appendOk, rowsOk]; omega) | (simp [inB, sliceOk, appendOk, rowsOk]; omega))))
      | (apply ev_step; (case hr => (simp only [go_sem, d2, hmj]; try rfl)); (case hσ => (intro g u; simp only [go_sem, d2, hmj]; try rfl)); (case hc => (first | trivial | decide | (simp only [inB, sliceOk, appendOk, rowsOk]; omega) | (simp [inB, sliceOk, appendOk, rowsOk]; omega))); intro g u; (try clear u); (try clear g))
      | fail
    refine Exists.intro (i + 1, v) ⟨by show i + 1 ≤ _; omega, by show _ - (i + 1) < _ - i; omega, ?_⟩
    refine Wk.mk ?_ ?_
    all_goals (repeat' first | exact trivial | exact LeA.refl _ | exact LeA.any _ | exact LeO.refl _ | exact LeO.no _ | exact LeA.nil _ | exact LeA.nilOwn _ | exact LeO.nil _ _ _ | refine LeO.box ?_ | (refine LeA.i ?_; (first | rfl | (push_cast; rfl) | (rw [wrap_id (by omega)]; push_cast; omega) | (simp [wrap_id]; omega))) | refine ⟨?_, ?_⟩)
  have d2 : decide ((j : Int) < (k0.length : Int)) = true := decide_eq_true (by omega)
  have w1 : IntKind.i64.wrap ((r.column : Int) + (j : Int)) = ((r.column + j : Nat) : Int) := by rw [wrap_id (by omega)]; push_cast; rfl
  have hPs : putVs (rw i) r.column (kf.take (j + 1)) = setV (putVs (rw i) r.column (kf.take j)) (r.column + j) (kf.getD j nullV) := by
    rw [take_succ' kf nullV (by omega), putVs_snoc, List.length_take, Nat.min_eq_left (by omega)]
  have hPl : (putVs (rw i) r.column (kf.take j)).length = t.cols.length := by rw [putVs_len]; exact hrow i
  generalize putVs (rw i) r.column (kf.take j) = pj at *
  generalize hpj : putVs (rw i) r.column (kf.take (j + 1)) = pj' at *
  have hcj : r.column + j < pj.length := by omega
  have hg := cls_at pj hcj
  have hst2 : ∀ kv : Vl, (pj.map clD).set (r.column + j) (clD ⟨kv, (pj.getD (r.column + j) nullC).st, (pj.getD (r.column + j) nullC).sq⟩) = (setV pj (r.column + j) kv).map clD := fun kv => by
    rw [setV, List.map_set]
  have hst3 := hst2 (kf.getD j nullV)
  rw [← hPs] at hst3
  clear hst2 hPs
  generalize pj.getD (r.column + j) nullC = x at *
  have hmg : ((mixK kf k0 j).map vlD).getD j [] = vlD (k0.getD j nullV) := by rw [vls_at _ (by rw [hmx0]; exact h2), mixK_getD hkfl h2]
  have hmg' : ((mixK kf k0 (j + 1)).map vlD).getD j [] = vlD (kf.getD j nullV) := by rw [vls_at _ (by rw [hmx0]; exact h2), mixK_getD' hkfl h2]
  have hms : ((mixK kf k0 j).map vlD).set j (vlD (kf.getD j nullV)) = (mixK kf k0 (j + 1)).map vlD := by rw [← mixK_set hkfl h2, List.map_set]
  have hmj := hmx0 j
  have hmj' := hmx0 (j + 1)
  cases c5 : ((q0.tmod 8 == 1) && !isKeyR s r) with
  | true =>
    have c6 : (q0.tmod 8 == 1) = true := by simp only [Bool.and_eq_true] at c5; exact c5.1
    have c7 : isKeyR s r = false := by simp only [Bool.and_eq_true, Bool.not_eq_true'] at c5; exact c5.2
    have hkj : kf.getD j nullV = nullV := by
      rw [← hkf, if_pos c5]
      simp [List.getD_eq_getElem?_getD, h2]
    rw [hkj] at hst3 hmg' hms
    generalize mixK kf k0 j = mj at *
    generalize hmj1 : mixK kf k0 (j + 1) = mj' at *
    repeat' first
      | refine awp_seq ?_
      | refine awp_block ?_
      | refine awp_skip ?_
      | (refine reg _ (by (simp only [List.map_cons, List.map_nil]; rfl)) rfl ?_; intro K hK)
      | (refine awp_cond _ (by rfl) ?_ ?_ <;> (intro hb; first | (cases hb; done) | (have ht : true = true := hb; clear ht hb) | (have ht : false = false := hb; clear ht hb) | (simp only [hb]) | skip))
      | (refine awp_exit ?_; simp only [thenA, blockA, scopeA, reduceIte, RetQ, Nat.reduceEqDiff])
      | (refine awp_ret ?_; simp only [thenA, blockA, scopeA, RetQ])
      | (refine ev_nil (hK _ ?_); clear hK K)
      | (apply ev_guardU; (case hj | hu | hσ => (simp only [go_sem, hmj, hmj', hmg, hmg', hms, hg, hPl, hst3, w1, d2, c6, c7]; try rfl)))
      | (refine ev_guardT _ _ (by (simp only [go_sem, hmj, hmj', hmg, hmg', hms, hg, hPl, hst3, w1, d2, c6, c7]; rfl)) (by (simp only [go_sem, hmj, hmj', hmg, hmg', hms, hg, hPl, hst3, w1, d2, c6, c7]; rfl)) ?_ ?_ <;> (intro hb; first | (cases hb; done) | (have ht : true = true := hb; clear ht hb) | (have ht : false = false := hb; clear ht hb) | (simp only [hb]) | skip))
      | (refine ev_guardF _ _ (by (simp only [go_sem, hmj, hmj', hmg, hmg', hms, hg, hPl, hst3, w1, d2, c6, c7]; rfl)) (by (simp only [go_sem, hmj, hmj', hmg, hmg', hms, hg, hPl, hst3, w1, d2, c6, c7]; rfl)) ?_ ?_ <;> (intro hb; first | (cases hb; done) | (have ht : true = true := hb; clear ht hb) | (have ht : false = false := hb; clear ht hb) | (simp only [hb]) | skip))
      | (apply ev_call0; (case hys => (simp only [go_sem, hmj, hmj', hmg, hmg', hms, hg, hPl, hst3, w1, d2, c6, c7]; try rfl)); (case hs => first | exact a0 .. | exact h61 .. | exact f31_spec ..); (case hok | hσ => (simp only [go_sem, hmj, hmj', hmg, hmg', hms, hg, hPl, hst3, w1, d2, c6, c7]; try rfl)))
      | (apply regD; (case hd => (simp only [List.map_cons, List.map_nil]; rfl)); (case hok => rfl); (case' h => (intro K hK; (repeat' first
        | (apply evd_nil; refine (hK _ ?_); clear hK K)
        | (apply evd_call0; (case hi | hys => (simp only [go_sem, hmj, hmj', hmg, hmg', hms, hg, hPl, hst3, w1, d2, c6, c7]; try rfl)); (case hs => first | exact a0 .. | exact h61 .. | exact f31_spec ..); (case hok | hw | hσ => (simp only [go_sem, hmj, hmj', hmg, hmg', hms, hg, hPl, hst3, w1, d2, c6, c7]; try rfl)))
        | (apply evd_step0; (case hr | hi | hσ => (simp only [go_sem, hmj, hmj', hmg, hmg', hms, hg, hPl, hst3, w1, d2, c6, c7]; try rfl)); (case hc => (first | trivial | decide | (simp only [inB, sliceOk, appendOk, rowsOk]; omega) | (simp [inB, sliceOk, appendOk, rowsOk]; omega))))
        | (apply evd_step; (case hr | hi => (simp only [go_sem, hmj, hmj', hmg, hmg', hms, hg, hPl, hst3, w1, d2, c6, c7]; try rfl)); (case hc => (first | trivial | decide | (simp only [inB, sliceOk, appendOk, rowsOk]; omega) | (simp [inB, sliceOk, appendOk, rowsOk]; omega))); (case hw | hσ => (intro g u; simp only [go_sem, hmj, hmj', hmg, hmg', hms, hg, hPl, hst3, w1, d2, c6, c7]; try rfl)); (case' hk => (intro g u; (try clear u); (try clear g))))
        | fail))); (case hB => kernel_rfl))
      | (apply ev_step0; (case hr | hσ => (simp only [go_sem, hmj, hmj', hmg, hmg', hms, hg, hPl, hst3, w1, d2, c6, c7]; try rfl)); (case hc => (first | trivial | decide | (simp only [inB, sliceOk, appendOk, rowsOk]; omega) | (simp [inB, sliceOk, appendOk, rowsOk]; omega))))
      | (apply ev_step; (case hr => (simp only [go_sem, hmj, hmj', hmg, hmg', hms, hg, hPl, hst3, w1, d2, c6, c7]; try rfl)); (case hσ => (intro g u; simp only [go_sem, hmj, hmj', hmg, hmg', hms, hg, hPl, hst3, w1, d2, c6, c7]; try rfl)); (case hc => (first | trivial | decide | (simp only [inB, sliceOk, appendOk, rowsOk]; omega) | (simp [inB, sliceOk, appendOk, rowsOk]; omega))); intro g u; (try clear u); (try clear g))
      | fail
    refine Exists.intro (j + 1) ⟨by omega, by omega, ?_⟩
    simp only [hpj, hmj1]
    refine Wk.mk ?_ ?_
    all_goals (repeat' first | exact trivial | exact LeA.refl _ | exact LeA.any _ | exact LeO.refl _ | exact LeO.no _ | exact LeA.nil _ | exact LeA.nilOwn _ | exact LeO.nil _ _ _ | refine LeO.box ?_ | (refine LeA.i ?_; (first | rfl | (push_cast; rfl) | (rw [wrap_id (by omega)]; push_cast; omega) | (simp [wrap_id]; omega))) | refine ⟨?_, ?_⟩)
  | false =>
    rw [if_neg (by rw [c5]; exact Bool.false_ne_true)] at hkf
    subst hkf
    simp only [mixK_same] at hmg hmj ⊢
    clear hms hmg' hmj'
    generalize k0.getD j nullV = kv at *
    cases c6 : (q0.tmod 8 == 1) with
    | false =>
      repeat' first
        | refine awp_seq ?_
        | refine awp_block ?_
        | refine awp_skip ?_
        | (refine reg _ (by (simp only [List.map_cons, List.map_nil]; rfl)) rfl ?_; intro K hK)
        | (refine awp_cond _ (by rfl) ?_ ?_ <;> (intro hb; first | (cases hb; done) | (have ht : true = true := hb; clear ht hb) | (have ht : false = false := hb; clear ht hb) | (simp only [hb]) | skip))
        | (refine awp_exit ?_; simp only [thenA, blockA, scopeA, reduceIte, RetQ, Nat.reduceEqDiff])
        | (refine awp_ret ?_; simp only [thenA, blockA, scopeA, RetQ])
        | (refine ev_nil (hK _ ?_); clear hK K)
        | (apply ev_guardU; (case hj | hu | hσ => (simp only [go_sem, hmj, hmg, hg, hPl, hst3, w1, d2, c6]; try rfl)))
        | (refine ev_guardT _ _ (by (simp only [go_sem, hmj, hmg, hg, hPl, hst3, w1, d2, c6]; rfl)) (by (simp only [go_sem, hmj, hmg, hg, hPl, hst3, w1, d2, c6]; rfl)) ?_ ?_ <;> (intro hb; first | (cases hb; done) | (have ht : true = true := hb; clear ht hb) | (have ht : false = false := hb; clear ht hb) | (simp only [hb]) | skip))
        | (refine ev_guardF _ _ (by (simp only [go_sem, hmj, hmg, hg, hPl, hst3, w1, d2, c6]; rfl)) (by (simp only [go_sem, hmj, hmg, hg, hPl, hst3, w1, d2, c6]; rfl)) ?_ ?_ <;> (intro hb; first | (cases hb; done) | (have ht : true = true := hb; clear ht hb) | (have ht : false = false := hb; clear ht hb) | (simp only [hb]) | skip))
        | (apply ev_call0; (case hys => (simp only [go_sem, hmj, hmg, hg, hPl, hst3, w1, d2, c6]; try rfl)); (case hs => first | exact a0 .. | exact h61 .. | exact f31_spec ..); (case hok | hσ => (simp only [go_sem, hmj, hmg, hg, hPl, hst3, w1, d2, c6]; try rfl)))
        | (apply regD; (case hd => (simp only [List.map_cons, List.map_nil]; rfl)); (case hok => rfl); (case' h => (intro K hK; (repeat' first
        | (apply evd_nil; refine (hK _ ?_); clear hK K)
        | (apply evd_call0; (case hi | hys => (simp only [go_sem, hmj, hmg, hg, hPl, hst3, w1, d2, c6]; try rfl)); (case hs => first | exact a0 .. | exact h61 .. | exact f31_spec ..); (case hok | hw | hσ => (simp only [go_sem, hmj, hmg, hg, hPl, hst3, w1, d2, c6]; try rfl)))
        | (apply evd_step0; (case hr | hi | hσ => (simp only [go_sem, hmj, hmg, hg, hPl, hst3, w1, d2, c6]; try rfl)); (case hc => (first | trivial | decide | (simp only [inB, sliceOk, appendOk, rowsOk]; omega) | (simp [inB, sliceOk, appendOk, rowsOk]; omega))))
        | (apply evd_step; (case hr | hi => (simp only [go_sem, hmj, hmg, hg, hPl, hst3, w1, d2, c6]; try rfl)); (case hc => (first | trivial | decide | (simp only [inB, sliceOk, appendOk, rowsOk]; omega) | (simp [inB, sliceOk, appendOk, rowsOk]; omega))); (case hw | hσ => (intro g u; simp only [go_sem, hmj, hmg, hg, hPl, hst3, w1, d2, c6]; try rfl)); (case' hk => (intro g u; (try clear u); (try clear g))))
        | fail))); (case hB => kernel_rfl))
        | (apply ev_step0; (case hr | hσ => (simp only [go_sem, hmj, hmg, hg, hPl, hst3, w1, d2, c6]; try rfl)); (case hc => (first | trivial | decide | (simp only [inB, sliceOk, appendOk, rowsOk]; omega) | (simp [inB, sliceOk, appendOk, rowsOk]; omega))))
        | (apply ev_step; (case hr => (simp only [go_sem, hmj, hmg, hg, hPl, hst3, w1, d2, c6]; try rfl)); (case hσ => (intro g u; simp only [go_sem, hmj, hmg, hg, hPl, hst3, w1, d2, c6]; try rfl)); (case hc => (first | trivial | decide | (simp only [inB, sliceOk, appendOk, rowsOk]; omega) | (simp [inB, sliceOk, appendOk, rowsOk]; omega))); intro g u; (try clear u); (try clear g))
        | fail
      refine Exists.intro (j + 1) ⟨by omega, by omega, ?_⟩
      simp only [hpj, mixK_same]
      refine Wk.mk ?_ ?_
      all_goals (repeat' first | exact trivial | exact LeA.refl _ | exact LeA.any _ | exact LeO.refl _ | exact LeO.no _ | exact LeA.nil _ | exact LeA.nilOwn _ | exact LeO.nil _ _ _ | refine LeO.box ?_ | (refine LeA.i ?_; (first | rfl | (push_cast; rfl) | (rw [wrap_id (by omega)]; push_cast; omega) | (simp [wrap_id]; omega))) | refine ⟨?_, ?_⟩)
    | true =>
      have c7 : isKeyR s r = true := by rw [c6, Bool.true_and] at c5; simpa using c5
      repeat' first
        | refine awp_seq ?_
        | refine awp_block ?_
        | refine awp_skip ?_
        | (refine reg _ (by (simp only [List.map_cons, List.map_nil]; rfl)) rfl ?_; intro K hK)
        | (refine awp_cond _ (by rfl) ?_ ?_ <;> (intro hb; first | (cases hb; done) | (have ht : true = true := hb; clear ht hb) | (have ht : false = false := hb; clear ht hb) | (simp only [hb]) | skip))
        | (refine awp_exit ?_; simp only [thenA, blockA, scopeA, reduceIte, RetQ, Nat.reduceEqDiff])
        | (refine awp_ret ?_; simp only [thenA, blockA, scopeA, RetQ])
        | (refine ev_nil (hK _ ?_); clear hK K)
        | (apply ev_guardU; (case hj | hu | hσ => (simp only [go_sem, hmj, hmg, hg, hPl, hst3, w1, d2, c6, c7]; try rfl)))
        | (refine ev_guardT _ _ (by (simp only [go_sem, hmj, hmg, hg, hPl, hst3, w1, d2, c6, c7]; rfl)) (by (simp only [go_sem, hmj, hmg, hg, hPl, hst3, w1, d2, c6, c7]; rfl)) ?_ ?_ <;> (intro hb; first | (cases hb; done) | (have ht : true = true := hb; clear ht hb) | (have ht : false = false := hb; clear ht hb) | (simp only [hb]) | skip))
        | (refine ev_guardF _ _ (by (simp only [go_sem, hmj, hmg, hg, hPl, hst3, w1, d2, c6, c7]; rfl)) (by (simp only [go_sem, hmj, hmg, hg, hPl, hst3, w1, d2, c6, c7]; rfl)) ?_ ?_ <;> (intro hb; first | (cases hb; done) | (have ht : true = true := hb; clear ht hb) | (have ht : false = false := hb; clear ht hb) | (simp only [hb]) | skip))
        | (apply ev_call0; (case hys => (simp only [go_sem, hmj, hmg, hg, hPl, hst3, w1, d2, c6, c7]; try rfl)); (case hs => first | exact a0 .. | exact h61 .. | exact f31_spec ..); (case hok | hσ => (simp only [go_sem, hmj, hmg, hg, hPl, hst3, w1, d2, c6, c7]; try rfl)))
        | (apply regD; (case hd => (simp only [List.map_cons, List.map_nil]; rfl)); (case hok => rfl); (case' h => (intro K hK; (repeat' first
        | (apply evd_nil; refine (hK _ ?_); clear hK K)
        | (apply evd_call0; (case hi | hys => (simp only [go_sem, hmj, hmg, hg, hPl, hst3, w1, d2, c6, c7]; try rfl)); (case hs => first | exact a0 .. | exact h61 .. | exact f31_spec ..); (case hok | hw | hσ => (simp only [go_sem, hmj, hmg, hg, hPl, hst3, w1, d2, c6, c7]; try rfl)))
        | (apply evd_step0; (case hr | hi | hσ => (simp only [go_sem, hmj, hmg, hg, hPl, hst3, w1, d2, c6, c7]; try rfl)); (case hc => (first | trivial | decide | (simp only [inB, sliceOk, appendOk, rowsOk]; omega) | (simp [inB, sliceOk, appendOk, rowsOk]; omega))))
        | (apply evd_step; (case hr | hi => (simp only [go_sem, hmj, hmg, hg, hPl, hst3, w1, d2, c6, c7]; try rfl)); (case hc => (first | trivial | decide | (simp only [inB, sliceOk, appendOk, rowsOk]; omega) | (simp [inB, sliceOk, appendOk, rowsOk]; omega))); (case hw | hσ => (intro g u; simp only [go_sem, hmj, hmg, hg, hPl, hst3, w1, d2, c6, c7]; try rfl)); (case' hk => (intro g u; (try clear u); (try clear g))))
        | fail))); (case hB => kernel_rfl))
        | (apply ev_step0; (case hr | hσ => (simp only [go_sem, hmj, hmg, hg, hPl, hst3, w1, d2, c6, c7]; try rfl)); (case hc => (first | trivial | decide | (simp only [inB, sliceOk, appendOk, rowsOk]; omega) | (simp [inB, sliceOk, appendOk, rowsOk]; omega))))
        | (apply ev_step; (case hr => (simp only [go_sem, hmj, hmg, hg, hPl, hst3, w1, d2, c6, c7]; try rfl)); (case hσ => (intro g u; simp only [go_sem, hmj, hmg, hg, hPl, hst3, w1, d2, c6, c7]; try rfl)); (case hc => (first | trivial | decide | (simp only [inB, sliceOk, appendOk, rowsOk]; omega) | (simp [inB, sliceOk, appendOk, rowsOk]; omega))); intro g u; (try clear u); (try clear g))
        | fail
      refine Exists.intro (j + 1) ⟨by omega, by omega, ?_⟩
      simp only [hpj, mixK_same]
      refine Wk.mk ?_ ?_
      all_goals (repeat' first | exact trivial | exact LeA.refl _ | exact LeA.any _ | exact LeO.refl _ | exact LeO.no _ | exact LeA.nil _ | exact LeA.nilOwn _ | exact LeO.nil _ _ _ | refine LeO.box ?_ | (refine LeA.i ?_; (first | rfl | (push_cast; rfl) | (rw [wrap_id (by omega)]; push_cast; omega) | (simp [wrap_id]; omega))) | refine ⟨?_, ?_⟩)
end
section
set_option linter.unusedVariables false
set_option linter.unusedSimpArgs false
open Go.RowKit
theorem putR_mem {n : Nat} {r x : Rw} : ∀ {l : List Rw}, x ∈ putR n r l → x = r ∨ x ∈ l
  | [], h => by simp only [putR, List.mem_singleton] at h; exact .inl h
  | y :: l, h => by
    simp only [putR] at h
    split at h
    · rcases List.mem_cons.1 h with rfl | h
      · exact .inr (List.mem_cons_self ..)
      · rcases putR_mem h with h | h
        · exact .inl h
        · exact .inr (List.mem_cons_of_mem _ h)
    · split at h
      · exact .inr h
      · rcases List.mem_cons.1 h with rfl | h
        · exact .inl rfl
        · exact .inr h
theorem putR_len (n : Nat) (r : Rw) : ∀ l : List Rw, l.length ≤ (putR n r l).length ∧ (putR n r l).length ≤ l.length + 1
  | [] => by simp [putR]
  | y :: l => by
    have := putR_len n r l
    simp only [putR]
    split
    · simp only [List.length_cons]; omega
    · split <;> simp
theorem putR_srt {n : Nat} {r : Rw} : ∀ {l : List Rw}, Srt n l → Srt n (putR n r l)
  | [], _ => by simp [putR, Srt]
  | y :: l, h => by
    have h' := List.pairwise_cons.1 h
    simp only [putR]
    split
    · rename_i hlt
      refine List.pairwise_cons.2 ⟨fun x hx => ?_, putR_srt h'.2⟩
      rcases putR_mem hx with rfl | hx
      · exact hlt
      · exact h'.1 x hx
    · split
      · exact h
      · rename_i hn he
        have hgt : cmpVs (keyR r n) (keyR y n) < 0 := by
          rw [cmpVs_cmp.anti]
          have : cmpVs (keyR y n) (keyR r n) ≠ 0 := by simpa using he
          omega
        refine List.pairwise_cons.2 ⟨fun x hx => ?_, h⟩
        rcases List.mem_cons.1 hx with rfl | hx
        · exact hgt
        · exact cmpVs_cmp.trans _ _ _ hgt (h'.1 x hx)
/-- Values as made rows have them. -/
def VOk (v : Vl) : Prop := VlOk v ∧ -1000000000 ≤ v.i ∧ v.i ≤ 1000000000 ∧ (v.k = 0 → v = nullV)
theorem VOk.null : VOk nullV := by refine ⟨?_, by decide, by decide, fun _ => rfl⟩; show (0 : Nat) ≤ _; omega
theorem wordM_sz (n : Int) : (wordM n).size ≤ 40 := by
  have : ∀ b ∈ wordsL, b.size ≤ 40 := by decide
  rw [wordM, List.getD_eq_getElem?_getD]
  cases h : wordsL[(n.tmod 15).toNat]? with
  | none => decide
  | some b => exact this b (List.mem_of_getElem? h)
theorem valM_ok (t : Ty) (a b : Int) (ht : 0 ≤ t.scale ∧ t.scale ≤ 6) (hb : 0 ≤ b ∧ b < 256) : VOk (valM t a b) := by
  have h1 := Int.tmod_lt_of_pos b (b := 40) (by decide)
  have h2 := Int.tmod_nonneg 40 hb.1
  have hst := stepV_bd t.scale.toNat
  unfold valM
  split
  · exact VOk.null
  · split
    · unfold boolV
      refine ⟨?_, ?_, ?_, fun h => absurd h (by show ¬ (1 : Int) = 0; decide)⟩
      · show (0 : Nat) ≤ _; omega
      · show _ ≤ (if (b.tmod 2 == 1) = true then (1 : Int) else 0); split <;> omega
      · show (if (b.tmod 2 == 1) = true then (1 : Int) else 0) ≤ _; split <;> omega
    · split
      · split
        · have e1 : (b.tmod 40 - 12) * stepV t.scale.toNat ≤ 27 * stepV t.scale.toNat := Int.mul_le_mul_of_nonneg_right (by omega) hst.1
          have e2 : -12 * stepV t.scale.toNat ≤ (b.tmod 40 - 12) * stepV t.scale.toNat := Int.mul_le_mul_of_nonneg_right (by omega) hst.1
          refine ⟨?_, ?_, ?_, fun h => absurd h (by show ¬ (2 : Int) = 0; decide)⟩
          · show (0 : Nat) ≤ _; omega
          · show _ ≤ (b.tmod 40 - 12) * stepV t.scale.toNat; omega
          · show (b.tmod 40 - 12) * stepV t.scale.toNat ≤ _; omega
        · refine ⟨?_, ?_, ?_, fun h => absurd h (by show ¬ (2 : Int) = 0; decide)⟩
          · show (0 : Nat) ≤ _; omega
          · show _ ≤ (b.tmod 40 - 12) * 1000000; omega
          · show (b.tmod 40 - 12) * 1000000 ≤ _; omega
      · refine ⟨?_, by show (_ : Int) ≤ 0; omega, by show (0 : Int) ≤ _; omega, fun h => absurd h (by show ¬ (3 : Int) = 0; decide)⟩
        have := wordM_sz b
        show (wordM b).size ≤ _
        omega
def RowV (n : Nat) (r : Rw) : Prop := r.length = n ∧ ∀ c ∈ r, VOk c.v
theorem RowV.ok {n : Nat} {r : Rw} (h : RowV n r) : RowOk n r := ⟨h.1, fun c hc => ⟨(h.2 c hc).1, by have := (h.2 c hc).2.1; omega, by have := (h.2 c hc).2.2.1; omega⟩⟩
theorem cellV_ok {t : Tb} {b : List Int} (hb : ∀ x ∈ b, 0 ≤ x ∧ x < 256) (ht : ∀ c ∈ t.cols, 0 ≤ c.ty.scale ∧ c.ty.scale ≤ 6) {i : Nat} (hi : i < t.cols.length) : VOk (cellV t b i) := by
  have b2 := atB_bd hb (2 + i)
  unfold cellV
  split
  · have h1 := Int.tmod_lt_of_pos (atB b (2 + i)) (b := 4) (by decide)
    have h2 := Int.tmod_nonneg 4 b2.1
    refine ⟨?_, ?_, ?_, fun h => absurd h (by show ¬ (2 : Int) = 0; decide)⟩
    · show (0 : Nat) ≤ _; omega
    · show _ ≤ (atB b (2 + i)).tmod 4 * 1000000; omega
    · show (atB b (2 + i)).tmod 4 * 1000000 ≤ _; omega
  · exact valM_ok _ _ _ (ht _ (getD_mem' hi _)) b2
theorem RowV.setV {n : Nat} {l : Rw} (h : RowV n l) (i : Nat) {v : Vl} (hv : VOk v) : RowV n (setV l i v) :=
  ⟨by rw [setV_len]; exact h.1, fun c hc => by
    rcases List.mem_or_eq_of_mem_set hc with hc | rfl
    · exact h.2 c hc
    · exact hv⟩
theorem RowV.putVs {n : Nat} : ∀ (vs : List Vl) {l : Rw} (c : Nat), RowV n l → (∀ v ∈ vs, VOk v) → RowV n (putVs l c vs)
  | [], _, _, h, _ => h
  | v :: vs, l, c, h, hv => RowV.putVs vs (c + 1) (h.setV c (hv v (List.mem_cons_self ..))) fun x hx => hv x (List.mem_cons_of_mem _ hx)
/-- States as they are made. -/
structure StV (s : Sch) (st : Stt) : Prop where
  len : st.length = s.tables.length
  rows : ∀ t, t < s.tables.length → ∀ r ∈ st.getD t [], RowV (colN s t) r
  srt : ∀ t, t < s.tables.length → Srt (keyN s t) (st.getD t [])
theorem keyR_v {l : Rw} {n m : Nat} (h : RowV m l) : ∀ v ∈ keyR l n, VOk v := fun v hv => by
  simp only [keyR, List.mem_map] at hv
  obtain ⟨c, hc, rfl⟩ := hv
  exact h.2 c (List.mem_of_mem_take hc)
theorem refRow_ok {s : Sch} {st : Stt} {tno : Nat} {b : List Int} {row : Rw} {r : Rf} {n : Nat} (h : StV s st) (hr : r.to < s.tables.length) (hrow : RowV n row) : RowV n (refRow s st tno b row r) := by
  unfold refRow
  split
  · exact hrow
  · split
    · exact hrow
    · split
      · exact hrow
      · refine hrow.putVs _ _ ?_
        have hk : ∀ v ∈ keyM s st b r, VOk v := by
          unfold keyM
          rcases Nat.lt_or_ge ((atB b 0).tmod ((st.getD r.to []).length : Int)).toNat (st.getD r.to []).length with hl | hl
          · exact keyR_v (h.rows _ hr _ (getD_mem' hl []))
          · rw [List.getD_eq_getElem?_getD, List.getElem?_eq_none hl]
            intro v hv; simp [keyR] at hv
        split
        · intro v hv
          obtain ⟨_, _, rfl⟩ := List.mem_map.1 hv
          exact VOk.null
        · exact hk
theorem foldl_ok {s : Sch} {st : Stt} {tno : Nat} {b : List Int} {n : Nat} (h : StV s st) : ∀ (l : List Rf) (row : Rw), (∀ r ∈ l, r.to < s.tables.length) → RowV n row → RowV n (l.foldl (refRow s st tno b) row)
  | [], _, _, hr => hr
  | r :: l, row, hl, hr => foldl_ok h l _ (fun x hx => hl x (List.mem_cons_of_mem _ hx)) (refRow_ok h (hl r (List.mem_cons_self ..)) hr)
theorem rowM_ok {s : Sch} {st : Stt} {tno : Nat} {b : List Int} (hs : SchOk s) (h : StV s st) (hb : ∀ x ∈ b, 0 ≤ x ∧ x < 256) (ht : tno < s.tables.length) : RowV (colN s tno) (rowM s st tno b) := by
  refine foldl_ok h _ _ (fun r hr => ?_) ⟨baseC_len .., fun c hc => ?_⟩
  · have := hs.refs r hr; omega
  · simp only [baseC, List.mem_map, List.mem_range] at hc
    obtain ⟨i, hi, rfl⟩ := hc
    exact cellV_ok hb (hs.types _ (getD_mem' ht _)) hi
theorem getD_set' {st : Stt} {t : Nat} (ht : t < st.length) (l : List Rw) (i : Nat) : (st.set t l).getD i [] = if t = i then l else st.getD i [] := by
  simp only [List.getD_eq_getElem?_getD, List.getElem?_set]
  by_cases h : t = i
  · subst h; simp [ht]
  · simp [h]
/-- The number of rows. -/
def cnt (st : Stt) : Nat := (st.map List.length).sum
theorem cnt_set : ∀ {st : Stt} {t : Nat} (ht : t < st.length) (l : List Rw), cnt (st.set t l) + (st.getD t []).length = cnt st + l.length
  | [], t, ht, _ => by simp at ht
  | x :: st, 0, _, l => by simp [cnt]; omega
  | x :: st, t + 1, ht, l => by
    have := cnt_set (st := st) (t := t) (by simpa using ht) l
    simp only [cnt, List.set_cons_succ, List.map_cons, List.sum_cons, List.getD_cons_succ] at *
    omega
theorem cnt_le {st : Stt} : ∀ (t : Nat), (st.getD t []).length ≤ cnt st := by
  induction st with
  | nil => intro t; simp [cnt]
  | cons x st ih =>
    intro t
    cases t with
    | zero => simp [cnt]
    | succ t => have := ih t; simp only [cnt, List.getD_cons_succ, List.map_cons, List.sum_cons] at *; omega
theorem StV.ok {s : Sch} {st : Stt} (h : StV s st) (hc : cnt st ≤ 1000) : StOk s st :=
  ⟨h.len, fun t _ => by have := cnt_le (st := st) t; omega, fun t ht r hr => (h.rows t ht r hr).ok⟩
theorem StV.set {s : Sch} {st : Stt} (h : StV s st) {t : Nat} (ht : t < s.tables.length) {l : List Rw} (hl : ∀ r ∈ l, RowV (colN s t) r) (hs : Srt (keyN s t) l) : StV s (st.set t l) where
  len := by rw [List.length_set]; exact h.len
  rows i hi r hr := by
    rw [getD_set' (by rw [h.len]; exact ht)] at hr
    split at hr
    · rename_i e; subst e; exact hl r hr
    · exact h.rows i hi r hr
  srt i hi := by
    rw [getD_set' (by rw [h.len]; exact ht)]
    split
    · rename_i e; subst e; exact hs
    · exact h.srt i hi
/-- One more row. -/
def stepM (s : Sch) (b : List Int) (t : Nat) (x : Stt × Nat) : Stt × Nat :=
  if x.2 + 8 ≤ b.length then (x.1.set t (putR (keyN s t) (rowM s x.1 t ((b.drop x.2).take 8)) (x.1.getD t [])), x.2 + 8) else x
def iterM (s : Sch) (b : List Int) (t : Nat) : Nat → Stt × Nat → Stt × Nat
  | 0, x => x
  | n + 1, x => iterM s b t n (stepM s b t x)
def mAt (s : Sch) (b : List Int) : Nat → Stt × Nat
  | 0 => (List.replicate s.tables.length [], 0)
  | t + 1 => iterM s b t 5 (mAt s b t)
def madeM (s : Sch) (b : List Int) : Stt := (mAt s b s.tables.length).1
theorem iterM_stop {s : Sch} {b : List Int} {t : Nat} {x : Stt × Nat} (h : ¬ x.2 + 8 ≤ b.length) : ∀ n, iterM s b t n x = x
  | 0 => rfl
  | n + 1 => by simp only [iterM, stepM, if_neg h]; exact iterM_stop h n
structure MOk (s : Sch) (x : Stt × Nat) : Prop where
  v : StV s x.1
  cnt : cnt x.1 * 8 ≤ x.2
theorem drop_by {b : List Int} (hb : ∀ x ∈ b, 0 ≤ x ∧ x < 256) (i n : Nat) : ∀ x ∈ (b.drop i).take n, 0 ≤ x ∧ x < 256 := fun x hx => hb x (List.mem_of_mem_drop (List.mem_of_mem_take hx))
theorem stepM_ok {s : Sch} {b : List Int} {t : Nat} {x : Stt × Nat} (hs : SchOk s) (hb : ∀ x ∈ b, 0 ≤ x ∧ x < 256) (ht : t < s.tables.length) (h : MOk s x) : MOk s (stepM s b t x) ∧ (stepM s b t x).2 ≤ x.2 + 8 := by
  unfold stepM
  split
  · have hr := rowM_ok hs h.v (drop_by hb x.2 8) ht
    have htl : t < x.1.length := by rw [h.v.len]; exact ht
    refine ⟨⟨h.v.set ht (fun r hr' => ?_) (putR_srt (h.v.srt t ht)), ?_⟩, Nat.le_refl _⟩
    · rcases putR_mem hr' with rfl | hr'
      · exact hr
      · exact h.v.rows t ht r hr'
    · have h1 := cnt_set htl (putR (keyN s t) (rowM s x.1 t ((b.drop x.2).take 8)) (x.1.getD t []))
      have h2 := putR_len (keyN s t) (rowM s x.1 t ((b.drop x.2).take 8)) (x.1.getD t [])
      have h3 := h.cnt
      show A.cnt (x.1.set t _) * 8 ≤ x.2 + 8
      omega
  · exact ⟨h, by omega⟩
theorem iterM_ok {s : Sch} {b : List Int} {t : Nat} (hs : SchOk s) (hb : ∀ x ∈ b, 0 ≤ x ∧ x < 256) (ht : t < s.tables.length) : ∀ (n : Nat) {x : Stt × Nat}, MOk s x → MOk s (iterM s b t n x) ∧ (iterM s b t n x).2 ≤ x.2 + 8 * n
  | 0, x, h => ⟨h, by show x.2 ≤ _; omega⟩
  | n + 1, x, h => by
    have h1 := stepM_ok hs hb ht h
    have h2 := iterM_ok hs hb ht n h1.1
    exact ⟨h2.1, by have := h2.2; have := h1.2; show (iterM s b t n _).2 ≤ _; omega⟩
theorem mAt_ok {s : Sch} {b : List Int} (hs : SchOk s) (hb : ∀ x ∈ b, 0 ≤ x ∧ x < 256) : ∀ (t : Nat), t ≤ s.tables.length → MOk s (mAt s b t) ∧ (mAt s b t).2 ≤ 40 * t
  | 0, _ => by
    have hg : ∀ t, (List.replicate s.tables.length ([] : List Rw)).getD t [] = [] := fun t => by
      simp only [List.getD_eq_getElem?_getD, List.getElem?_replicate]; split <;> rfl
    have hc : ∀ n, cnt (List.replicate n []) = 0 := fun n => by
      induction n with
      | zero => rfl
      | succ n ih => simp [cnt, List.replicate_succ]
    refine ⟨⟨⟨by simp [mAt], fun t _ r hr => ?_, fun t _ => ?_⟩, ?_⟩, by simp [mAt]⟩
    · simp only [mAt] at hr; rw [hg] at hr; simp at hr
    · simp only [mAt]; rw [hg]; simp [Srt]
    · simp only [mAt]; rw [hc]; omega
  | t + 1, h => by
    have h1 := mAt_ok hs hb t (by omega)
    have h2 := iterM_ok hs hb (t := t) (by omega) 5 h1.1
    exact ⟨h2.1, by have := h2.2; have := h1.2; show (iterM s b t 5 _).2 ≤ _; omega⟩
theorem madeM_ok {s : Sch} {b : List Int} (hs : SchOk s) (hb : ∀ x ∈ b, 0 ≤ x ∧ x < 256) : StV s (madeM s b) ∧ cnt (madeM s b) ≤ 15 := by
  have h := mAt_ok hs hb s.tables.length (Nat.le_refl _)
  have := hs.tlen
  have := h.1.cnt
  exact ⟨h.1.v, by show cnt (mAt s b s.tables.length).1 ≤ 15; omega⟩
end
section
set_option linter.unusedVariables false
set_option linter.unusedSimpArgs false
open Go.RowKit
attribute [local irreducible] AWp evOps evD
theorem nils_map (n : Nat) : (List.replicate n ([] : List Rw)).map (fun t => [rwsD t]) = List.replicate n [.sl 3 []] := by
  rw [List.map_replicate]; rfl
theorem StV.rwok {s : Sch} {st : Stt} (h : StV s st) (hs : SchOk s) {t : Nat} (ht : t < s.tables.length) : ∀ r ∈ st.getD t [], RwOk r := fun r hr => by
  have := (hs.keys t ht).2.2.2
  exact (h.rows t ht r hr).ok.rw (by omega)
set_option maxHeartbeats 16000000 in
set_option maxRecDepth 10000 in
theorem f11_spec (s : Sch) (b : List Int) (h : SchOk s) (hb : ∀ x ∈ b, 0 ≤ x ∧ x < 256) : Spec Try.prog 11 [.agg (schA s), .d (bytesD b)] (.agg (stA (madeM s b))) := by
  have htl := h.tlen
  refine spec_of_awp (fn := Try.f11) Try.func11 (by kernel_rfl) rfl ?_
  intro w0 C0
  simp only [Try.ntmps11, litI, litB, litS, List.length_cons, List.length_nil, Nat.reduceAdd, Nat.reduceSub, List.replicate_succ, List.replicate_zero, List.cons_append, List.nil_append]
  refine awp_len 1 rfl fun hbl => ?_
  simp only [List.length_map] at hbl
  repeat' first
    | refine awp_seq ?_
    | refine awp_block ?_
    | refine awp_skip ?_
    | (refine reg _ (by (simp only [List.map_cons, List.map_nil]; rfl)) rfl ?_; intro K hK)
    | (refine awp_cond _ (by rfl) ?_ ?_ <;> (intro hb; first | (cases hb; done) | (have ht : true = true := hb; clear ht hb) | (have ht : false = false := hb; clear ht hb) | (simp only [hb]) | skip))
    | (refine awp_exit ?_; simp only [thenA, blockA, scopeA, reduceIte, RetQ, Nat.reduceEqDiff])
    | (refine awp_ret ?_; simp only [thenA, blockA, scopeA, RetQ])
    | (refine ev_nil (hK _ ?_); clear hK K)
    | (apply ev_guardU; (case hj | hu | hσ => (simp only [go_sem]; try rfl)))
    | (refine ev_guardT _ _ (by (simp only [go_sem]; rfl)) (by (simp only [go_sem]; rfl)) ?_ ?_ <;> (intro hb; first | (cases hb; done) | (have ht : true = true := hb; clear ht hb) | (have ht : false = false := hb; clear ht hb) | (simp only [hb]) | skip))
    | (refine ev_guardF _ _ (by (simp only [go_sem]; rfl)) (by (simp only [go_sem]; rfl)) ?_ ?_ <;> (intro hb; first | (cases hb; done) | (have ht : true = true := hb; clear ht hb) | (have ht : false = false := hb; clear ht hb) | (simp only [hb]) | skip))
    | (apply ev_step0; (case hr | hσ => (simp only [go_sem]; try rfl)); (case hc => (first | trivial | decide | (simp only [inB, sliceOk, appendOk, rowsOk]; omega) | (simp [inB, sliceOk, appendOk, rowsOk]; omega))))
    | (apply ev_step; (case hr => (simp only [go_sem]; try rfl)); (case hσ => (intro g u; simp only [go_sem]; try rfl)); (case hc => (first | trivial | decide | (simp only [inB, sliceOk, appendOk, rowsOk]; omega) | (simp [inB, sliceOk, appendOk, rowsOk]; omega))); intro g u; (try clear u); (try clear g))
    | fail
  rename_i g2 g4
  refine awp_loopI (fun t : Nat => t ≤ s.tables.length) (fun t => s.tables.length - t) (fun t => ⟨[.any, .d (bytesD b), .ptr 2 g2 0, .any, .ptr 4 g4 0, .ptr 5 g 0, litI .i64 ((mAt s b t).2 : Int), litI .i64 t, .any, .any, .any, .any, .any, .any, .any, .any, .any, .any, .any, .any, .any, .any, .any, .any, .any, .any, .any, .any, .any, .any, .any, .any, .any, .any, .any, .any, .any, .any, .any, .any, .any, .any, .any, .any, .any, .any, .any, .any, .any, .any, .any, .any, .any, .any, .any, .any, .any, .any, .any, .any, .any], [.no, .no, .box g2 (schA s), .no, .box g4 [.d (.lit (.slice none 0 0))], .box g [.own 12 u], .no, .no, .no, .no, .no, .no, .row u 51 1 ((mAt s b t).1.map fun t => [rwsD t]), .no, .no, .no, .no, .no, .no, .no, .no, .no, .no, .no, .no, .no, .no, .no, .no, .no, .no, .no, .no, .no, .no, .no, .no, .no, .no, .no, .no, .no, .no, .no, .no, .no, .no, .no, .no, .no, .no, .no, .no, .no, .no, .no, .no, .no, .no, .no, .no]⟩) 0 (by omega) ?_ ?_
  · have e : ((mAt s b 0).1.map fun t => [rwsD t]) = List.replicate s.tables.length [.sl 3 []] := nils_map _
    rw [e]
    refine Wk.mk ?_ ?_
    all_goals (repeat' first | exact trivial | exact LeA.refl _ | exact LeA.any _ | exact LeO.refl _ | exact LeO.no _ | exact LeO.rows (LeR.nils 3 _) | refine ⟨?_, ?_⟩)
  intro t ht
  simp only [litI, litB] at ht ⊢
  by_cases h1 : t < s.tables.length
  rotate_left
  · have d1 : decide ((t : Int) < (s.tables.length : Int)) = false := decide_eq_false (by omega)
    have : t = s.tables.length := by omega
    subst this
    repeat' first
      | refine awp_seq ?_
      | refine awp_block ?_
      | refine awp_skip ?_
      | (refine reg _ (by (simp only [List.map_cons, List.map_nil]; rfl)) rfl ?_; intro K hK)
      | (refine awp_cond _ (by rfl) ?_ ?_ <;> (intro hb; first | (cases hb; done) | (have ht : true = true := hb; clear ht hb) | (have ht : false = false := hb; clear ht hb) | (simp only [hb]) | skip))
      | (refine awp_exit ?_; simp only [thenA, blockA, scopeA, reduceIte, RetQ, Nat.reduceEqDiff])
      | (refine awp_ret ?_; simp only [thenA, blockA, scopeA, RetQ])
      | (refine ev_nil (hK _ ?_); clear hK K)
      | (apply ev_guardU; (case hj | hu | hσ => (simp only [go_sem, d1]; try rfl)))
      | (refine ev_guardT _ _ (by (simp only [go_sem, d1]; rfl)) (by (simp only [go_sem, d1]; rfl)) ?_ ?_ <;> (intro hb; first | (cases hb; done) | (have ht : true = true := hb; clear ht hb) | (have ht : false = false := hb; clear ht hb) | (simp only [hb]) | skip))
      | (refine ev_guardF _ _ (by (simp only [go_sem, d1]; rfl)) (by (simp only [go_sem, d1]; rfl)) ?_ ?_ <;> (intro hb; first | (cases hb; done) | (have ht : true = true := hb; clear ht hb) | (have ht : false = false := hb; clear ht hb) | (simp only [hb]) | skip))
      | (apply regD; (case hd => (simp only [List.map_cons, List.map_nil]; rfl)); (case hok => rfl); (case' h => (intro K hK; (repeat' first
        | (apply evd_nil; refine (hK _ ?_); clear hK K)
        | (apply evd_step0; (case hr | hi | hσ => (simp only [go_sem, d1]; try rfl)); (case hc => (first | trivial | decide | (simp only [inB, sliceOk, appendOk, rowsOk]; omega) | (simp [inB, sliceOk, appendOk, rowsOk]; omega))))
        | (apply evd_step; (case hr | hi => (simp only [go_sem, d1]; try rfl)); (case hc => (first | trivial | decide | (simp only [inB, sliceOk, appendOk, rowsOk]; omega) | (simp [inB, sliceOk, appendOk, rowsOk]; omega))); (case hw | hσ => (intro g u; simp only [go_sem, d1]; try rfl)); (case' hk => (intro g u; (try clear u); (try clear g))))
        | fail))); (case hB => kernel_rfl))
      | (apply ev_step0; (case hr | hσ => (simp only [go_sem, d1]; try rfl)); (case hc => (first | trivial | decide | (simp only [inB, sliceOk, appendOk, rowsOk]; omega) | (simp [inB, sliceOk, appendOk, rowsOk]; omega))))
      | (apply ev_step; (case hr => (simp only [go_sem, d1]; try rfl)); (case hσ => (intro g u; simp only [go_sem, d1]; try rfl)); (case hc => (first | trivial | decide | (simp only [inB, sliceOk, appendOk, rowsOk]; omega) | (simp [inB, sliceOk, appendOk, rowsOk]; omega))); intro g u; (try clear u); (try clear g))
      | fail
    all_goals (refine resR_one T_ok rfl _ (by (simp only [go_sem, resA]; rfl)) (by first | trivial | (simp only [go_sem, resA])) (by first | trivial | (simp only [go_sem])) ?_; simp only [go_sem])
    exact LeA.agg ⟨LeA.refl _, trivial⟩
  have d1 : decide ((t : Int) < (s.tables.length : Int)) = true := decide_eq_true (by omega)
  have hM := mAt_ok h hb t ht
  have hN : mAt s b (t + 1) = iterM s b t 5 (mAt s b t) := rfl
  have hkt := tbs_at s.tables h1
  have hkn : (s.tables.getD t tbN).key = keyN s t := rfl
  generalize s.tables.getD t tbN = tb at *
  generalize mAt s b t = x0 at *
  generalize hx5 : mAt s b (t + 1) = x5 at *
  obtain ⟨hM, hx2⟩ := hM
  repeat' first
    | refine awp_seq ?_
    | refine awp_block ?_
    | refine awp_skip ?_
    | (refine reg _ (by (simp only [List.map_cons, List.map_nil]; rfl)) rfl ?_; intro K hK)
    | (refine awp_cond _ (by rfl) ?_ ?_ <;> (intro hb; first | (cases hb; done) | (have ht : true = true := hb; clear ht hb) | (have ht : false = false := hb; clear ht hb) | (simp only [hb]) | skip))
    | (refine awp_exit ?_; simp only [thenA, blockA, scopeA, reduceIte, RetQ, Nat.reduceEqDiff])
    | (refine awp_ret ?_; simp only [thenA, blockA, scopeA, RetQ])
    | (refine ev_nil (hK _ ?_); clear hK K)
    | (apply ev_guardU; (case hj | hu | hσ => (simp only [go_sem, d1]; try rfl)))
    | (refine ev_guardT _ _ (by (simp only [go_sem, d1]; rfl)) (by (simp only [go_sem, d1]; rfl)) ?_ ?_ <;> (intro hb; first | (cases hb; done) | (have ht : true = true := hb; clear ht hb) | (have ht : false = false := hb; clear ht hb) | (simp only [hb]) | skip))
    | (refine ev_guardF _ _ (by (simp only [go_sem, d1]; rfl)) (by (simp only [go_sem, d1]; rfl)) ?_ ?_ <;> (intro hb; first | (cases hb; done) | (have ht : true = true := hb; clear ht hb) | (have ht : false = false := hb; clear ht hb) | (simp only [hb]) | skip))
    | (apply regD; (case hd => (simp only [List.map_cons, List.map_nil]; rfl)); (case hok => rfl); (case' h => (intro K hK; (repeat' first
        | (apply evd_nil; refine (hK _ ?_); clear hK K)
        | (apply evd_step0; (case hr | hi | hσ => (simp only [go_sem, d1]; try rfl)); (case hc => (first | trivial | decide | (simp only [inB, sliceOk, appendOk, rowsOk]; omega) | (simp [inB, sliceOk, appendOk, rowsOk]; omega))))
        | (apply evd_step; (case hr | hi => (simp only [go_sem, d1]; try rfl)); (case hc => (first | trivial | decide | (simp only [inB, sliceOk, appendOk, rowsOk]; omega) | (simp [inB, sliceOk, appendOk, rowsOk]; omega))); (case hw | hσ => (intro g u; simp only [go_sem, d1]; try rfl)); (case' hk => (intro g u; (try clear u); (try clear g))))
        | fail))); (case hB => kernel_rfl))
    | (apply ev_step0; (case hr | hσ => (simp only [go_sem, d1]; try rfl)); (case hc => (first | trivial | decide | (simp only [inB, sliceOk, appendOk, rowsOk]; omega) | (simp [inB, sliceOk, appendOk, rowsOk]; omega))))
    | (apply ev_step; (case hr => (simp only [go_sem, d1]; try rfl)); (case hσ => (intro g u; simp only [go_sem, d1]; try rfl)); (case hc => (first | trivial | decide | (simp only [inB, sliceOk, appendOk, rowsOk]; omega) | (simp [inB, sliceOk, appendOk, rowsOk]; omega))); intro g u; (try clear u); (try clear g))
    | fail
  refine awp_loopI (fun j : Nat × (Stt × Nat) => j.1 ≤ 5 ∧ MOk s j.2 ∧ j.2.2 ≤ 40 * t + 8 * j.1 ∧ iterM s b t (5 - j.1) j.2 = x5) (fun j => 5 - j.1) (fun j => ⟨[.any, .d (bytesD b), .ptr 2 g2 0, .any, .ptr 4 g4 0, .ptr 5 g 0, litI .i64 (j.2.2 : Int), litI .i64 t, litI .i64 j.1, .any, .any, .any, .any, .any, .any, .any, .any, .any, .any, .any, .any, .any, .any, .any, .any, .any, .any, .any, .any, .any, .any, .any, .any, .any, .any, .any, .any, .any, .any, .any, .any, .any, .any, .any, .any, .any, .any, .any, .any, .any, .any, .any, .any, .any, .any, .any, .any, .any, .any, .any, .any], [.no, .no, .box g2 (schA s), .no, .box g4 [.d (.lit (.slice none 0 0))], .box g [.own 12 u], .no, .no, .no, .no, .no, .no, .row u 51 1 (j.2.1.map fun t => [rwsD t]), .no, .no, .no, .no, .no, .no, .no, .no, .no, .no, .no, .no, .no, .no, .no, .no, .no, .no, .no, .no, .no, .no, .no, .no, .no, .no, .no, .no, .no, .no, .no, .no, .no, .no, .no, .no, .no, .no, .no, .no, .no, .no, .no, .no, .no, .no, .no, .no]⟩) (0, x0) ⟨by simp, hM, by simpa using hx2, hN.symm⟩ ?_ ?_
  · refine Wk.mk ?_ ?_
    all_goals (repeat' first | exact trivial | exact LeA.refl _ | exact LeA.any _ | exact LeO.refl _ | exact LeO.no _ | exact LeA.nil _ | exact LeA.nilOwn _ | exact LeO.nil _ _ _ | refine LeO.box ?_ | (refine LeA.i ?_; (first | rfl | (push_cast; rfl) | (rw [wrap_id (by omega)]; push_cast; omega) | (simp [wrap_id]; omega))) | refine ⟨?_, ?_⟩)
  rintro ⟨i, x⟩ ⟨hi, hMx, hat, hit⟩
  simp only [litI, litB] at hi hMx hat hit ⊢
  by_cases h5 : i < 5
  rotate_left
  · have d2 : decide ((i : Int) < 5) = false := decide_eq_false (by omega)
    have : i = 5 := by omega
    subst this
    have hit' : x = x5 := hit
    subst hit'
    repeat' first
      | refine awp_seq ?_
      | refine awp_block ?_
      | refine awp_skip ?_
      | (refine reg _ (by (simp only [List.map_cons, List.map_nil]; rfl)) rfl ?_; intro K hK)
      | (refine awp_cond _ (by rfl) ?_ ?_ <;> (intro hb; first | (cases hb; done) | (have ht : true = true := hb; clear ht hb) | (have ht : false = false := hb; clear ht hb) | (simp only [hb]) | skip))
      | (refine awp_exit ?_; simp only [thenA, blockA, scopeA, reduceIte, RetQ, Nat.reduceEqDiff])
      | (refine awp_ret ?_; simp only [thenA, blockA, scopeA, RetQ])
      | (refine ev_nil (hK _ ?_); clear hK K)
      | (apply ev_guardU; (case hj | hu | hσ => (simp only [go_sem, d2]; try rfl)))
      | (refine ev_guardT _ _ (by (simp only [go_sem, d2]; rfl)) (by (simp only [go_sem, d2]; rfl)) ?_ ?_ <;> (intro hb; first | (cases hb; done) | (have ht : true = true := hb; clear ht hb) | (have ht : false = false := hb; clear ht hb) | (simp only [hb]) | skip))
      | (refine ev_guardF _ _ (by (simp only [go_sem, d2]; rfl)) (by (simp only [go_sem, d2]; rfl)) ?_ ?_ <;> (intro hb; first | (cases hb; done) | (have ht : true = true := hb; clear ht hb) | (have ht : false = false := hb; clear ht hb) | (simp only [hb]) | skip))
      | (apply regD; (case hd => (simp only [List.map_cons, List.map_nil]; rfl)); (case hok => rfl); (case' h => (intro K hK; (repeat' first
        | (apply evd_nil; refine (hK _ ?_); clear hK K)
        | (apply evd_step0; (case hr | hi | hσ => (simp only [go_sem, d2]; try rfl)); (case hc => (first | trivial | decide | (simp only [inB, sliceOk, appendOk, rowsOk]; omega) | (simp [inB, sliceOk, appendOk, rowsOk]; omega))))
        | (apply evd_step; (case hr | hi => (simp only [go_sem, d2]; try rfl)); (case hc => (first | trivial | decide | (simp only [inB, sliceOk, appendOk, rowsOk]; omega) | (simp [inB, sliceOk, appendOk, rowsOk]; omega))); (case hw | hσ => (intro g u; simp only [go_sem, d2]; try rfl)); (case' hk => (intro g u; (try clear u); (try clear g))))
        | fail))); (case hB => kernel_rfl))
      | (apply ev_step0; (case hr | hσ => (simp only [go_sem, d2]; try rfl)); (case hc => (first | trivial | decide | (simp only [inB, sliceOk, appendOk, rowsOk]; omega) | (simp [inB, sliceOk, appendOk, rowsOk]; omega))))
      | (apply ev_step; (case hr => (simp only [go_sem, d2]; try rfl)); (case hσ => (intro g u; simp only [go_sem, d2]; try rfl)); (case hc => (first | trivial | decide | (simp only [inB, sliceOk, appendOk, rowsOk]; omega) | (simp [inB, sliceOk, appendOk, rowsOk]; omega))); intro g u; (try clear u); (try clear g))
      | fail
    refine Exists.intro (t + 1) ⟨by omega, by omega, ?_⟩
    simp only [hx5]
    refine Wk.mk ?_ ?_
    all_goals (repeat' first | exact trivial | exact LeA.refl _ | exact LeA.any _ | exact LeO.refl _ | exact LeO.no _ | exact LeA.nil _ | exact LeA.nilOwn _ | exact LeO.nil _ _ _ | refine LeO.box ?_ | (refine LeA.i ?_; (first | rfl | (push_cast; rfl) | (rw [wrap_id (by omega)]; push_cast; omega) | (simp [wrap_id]; omega))) | refine ⟨?_, ?_⟩)
  have d2 : decide ((i : Int) < 5) = true := decide_eq_true (by omega)
  have e8 : IntKind.i64.wrap ((x.2 : Int) + 8) = ((x.2 + 8 : Nat) : Int) := by rw [wrap_id (by omega)]; push_cast; rfl
  have h5' : 5 - i = (5 - (i + 1)) + 1 := by omega
  rw [h5', iterM] at hit
  by_cases h8 : x.2 + 8 ≤ b.length
  rotate_left
  · have d3 : decide (((x.2 + 8 : Nat) : Int) ≤ (b.length : Int)) = false := decide_eq_false (by omega)
    have hst : stepM s b t x = x := by rw [stepM, if_neg h8]
    rw [hst, iterM_stop h8] at hit
    subst hit
    repeat' first
      | refine awp_seq ?_
      | refine awp_block ?_
      | refine awp_skip ?_
      | (refine reg _ (by (simp only [List.map_cons, List.map_nil]; rfl)) rfl ?_; intro K hK)
      | (refine awp_cond _ (by rfl) ?_ ?_ <;> (intro hb; first | (cases hb; done) | (have ht : true = true := hb; clear ht hb) | (have ht : false = false := hb; clear ht hb) | (simp only [hb]) | skip))
      | (refine awp_exit ?_; simp only [thenA, blockA, scopeA, reduceIte, RetQ, Nat.reduceEqDiff])
      | (refine awp_ret ?_; simp only [thenA, blockA, scopeA, RetQ])
      | (refine ev_nil (hK _ ?_); clear hK K)
      | (apply ev_guardU; (case hj | hu | hσ => (simp only [go_sem, d2, d3, e8]; try rfl)))
      | (refine ev_guardT _ _ (by (simp only [go_sem, d2, d3, e8]; rfl)) (by (simp only [go_sem, d2, d3, e8]; rfl)) ?_ ?_ <;> (intro hb; first | (cases hb; done) | (have ht : true = true := hb; clear ht hb) | (have ht : false = false := hb; clear ht hb) | (simp only [hb]) | skip))
      | (refine ev_guardF _ _ (by (simp only [go_sem, d2, d3, e8]; rfl)) (by (simp only [go_sem, d2, d3, e8]; rfl)) ?_ ?_ <;> (intro hb; first | (cases hb; done) | (have ht : true = true := hb; clear ht hb) | (have ht : false = false := hb; clear ht hb) | (simp only [hb]) | skip))
      | (apply regD; (case hd => (simp only [List.map_cons, List.map_nil]; rfl)); (case hok => rfl); (case' h => (intro K hK; (repeat' first
        | (apply evd_nil; refine (hK _ ?_); clear hK K)
        | (apply evd_step0; (case hr | hi | hσ => (simp only [go_sem, d2, d3, e8]; try rfl)); (case hc => (first | trivial | decide | (simp only [inB, sliceOk, appendOk, rowsOk]; omega) | (simp [inB, sliceOk, appendOk, rowsOk]; omega))))
        | (apply evd_step; (case hr | hi => (simp only [go_sem, d2, d3, e8]; try rfl)); (case hc => (first | trivial | decide | (simp only [inB, sliceOk, appendOk, rowsOk]; omega) | (simp [inB, sliceOk, appendOk, rowsOk]; omega))); (case hw | hσ => (intro g u; simp only [go_sem, d2, d3, e8]; try rfl)); (case' hk => (intro g u; (try clear u); (try clear g))))
        | fail))); (case hB => kernel_rfl))
      | (apply ev_step0; (case hr | hσ => (simp only [go_sem, d2, d3, e8]; try rfl)); (case hc => (first | trivial | decide | (simp only [inB, sliceOk, appendOk, rowsOk]; omega) | (simp [inB, sliceOk, appendOk, rowsOk]; omega))))
      | (apply ev_step; (case hr => (simp only [go_sem, d2, d3, e8]; try rfl)); (case hσ => (intro g u; simp only [go_sem, d2, d3, e8]; try rfl)); (case hc => (first | trivial | decide | (simp only [inB, sliceOk, appendOk, rowsOk]; omega) | (simp [inB, sliceOk, appendOk, rowsOk]; omega))); intro g u; (try clear u); (try clear g))
      | fail
    refine Exists.intro (t + 1) ⟨by omega, by omega, ?_⟩
    simp only [hx5]
    refine Wk.mk ?_ ?_
    all_goals (repeat' first | exact trivial | exact LeA.refl _ | exact LeA.any _ | exact LeO.refl _ | exact LeO.no _ | exact LeA.nil _ | exact LeA.nilOwn _ | exact LeO.nil _ _ _ | refine LeO.box ?_ | (refine LeA.i ?_; (first | rfl | (push_cast; rfl) | (rw [wrap_id (by omega)]; push_cast; omega) | (simp [wrap_id]; omega))) | refine ⟨?_, ?_⟩)
  have d3 : decide (((x.2 + 8 : Nat) : Int) ≤ (b.length : Int)) = true := decide_eq_true (by omega)
  have hSt := (stepM_ok h hb h1 hMx)
  have hxl : t < x.1.length := by rw [hMx.v.len]; exact h1
  have hc := hMx.cnt
  have hx := stt_at x.1 hxl
  have h36 := f36_new s x.1 t ((b.drop x.2).take 8) h (hMx.v.ok (by omega)) (drop_by hb _ _) h1
  have hro := rowM_ok (b := (b.drop x.2).take 8) h hMx.v (drop_by hb _ _) h1
  have h25 := f25_spec (x.1.getD t []) (keyN s t) (rowM s x.1 t ((b.drop x.2).take 8)) (hMx.v.rwok h h1) (hro.ok.rw (by have := (h.keys t h1).2.2.2; omega)) (by have := cnt_le (st := x.1) t; omega)
  have hse : stepM s b t x = (x.1.set t (putR (keyN s t) (rowM s x.1 t ((b.drop x.2).take 8)) (x.1.getD t [])), x.2 + 8) := by rw [stepM, if_pos h8]
  rw [hse] at hit hSt
  have hss : (x.1.map fun t => [rwsD t]).set t [rwsD (putR (keyN s t) (rowM s x.1 t ((b.drop x.2).take 8)) (x.1.getD t []))] = (x.1.set t (putR (keyN s t) (rowM s x.1 t ((b.drop x.2).take 8)) (x.1.getD t []))).map fun t => [rwsD t] := by rw [List.map_set]
  have hbs : List.drop x.2 (List.take (x.2 + 8) b) = List.take 8 (List.drop x.2 b) := by rw [List.drop_take]; congr 1; omega
  have hkn' : ((tb.key : Nat) : Int) = ((keyN s t : Nat) : Int) := by rw [hkn]
  generalize rowM s x.1 t ((b.drop x.2).take 8) = rw at *
  generalize keyN s t = kn at *
  obtain ⟨nx, hnx⟩ : ∃ nx, putR kn rw (x.1.getD t []) = nx := ⟨_, rfl⟩
  rw [hnx] at h25 hss hit hSt
  repeat' first
    | refine awp_seq ?_
    | refine awp_block ?_
    | refine awp_skip ?_
    | (refine reg _ (by (simp only [List.map_cons, List.map_nil]; rfl)) rfl ?_; intro K hK)
    | (refine awp_cond _ (by rfl) ?_ ?_ <;> (intro hb; first | (cases hb; done) | (have ht : true = true := hb; clear ht hb) | (have ht : false = false := hb; clear ht hb) | (simp only [hb]) | skip))
    | (refine awp_exit ?_; simp only [thenA, blockA, scopeA, reduceIte, RetQ, Nat.reduceEqDiff])
    | (refine awp_ret ?_; simp only [thenA, blockA, scopeA, RetQ])
    | (refine ev_nil (hK _ ?_); clear hK K)
    | (apply ev_guardU; (case hj | hu | hσ => (simp only [go_sem, d2, d3, e8, hkt, hx, hbs, hss, hkn']; try rfl)))
    | (refine ev_guardT _ _ (by (simp only [go_sem, d2, d3, e8, hkt, hx, hbs, hss, hkn']; rfl)) (by (simp only [go_sem, d2, d3, e8, hkt, hx, hbs, hss, hkn']; rfl)) ?_ ?_ <;> (intro hb; first | (cases hb; done) | (have ht : true = true := hb; clear ht hb) | (have ht : false = false := hb; clear ht hb) | (simp only [hb]) | skip))
    | (refine ev_guardF _ _ (by (simp only [go_sem, d2, d3, e8, hkt, hx, hbs, hss, hkn']; rfl)) (by (simp only [go_sem, d2, d3, e8, hkt, hx, hbs, hss, hkn']; rfl)) ?_ ?_ <;> (intro hb; first | (cases hb; done) | (have ht : true = true := hb; clear ht hb) | (have ht : false = false := hb; clear ht hb) | (simp only [hb]) | skip))
    | (apply regD; (case hd => (simp only [List.map_cons, List.map_nil]; rfl)); (case hok => rfl); (case' h => (intro K hK; (repeat' first
        | (apply evd_nil; refine (hK _ ?_); clear hK K)
        | (apply evd_callN0; (case hi | hys => (simp only [go_sem, d2, d3, e8, hkt, hx, hbs, hss, hkn']; try rfl)); (case hs => first | exact h36 ..); (case hok | hσ => (simp only [go_sem, d2, d3, e8, hkt, hx, hbs, hss, hkn']; try rfl)))
        | (apply evd_call0; (case hi | hys => (simp only [go_sem, d2, d3, e8, hkt, hx, hbs, hss, hkn']; try rfl)); (case hs => first | exact h25 ..); (case hok | hw | hσ => (simp only [go_sem, d2, d3, e8, hkt, hx, hbs, hss, hkn']; try rfl)))
        | (apply evd_step0; (case hr | hi | hσ => (simp only [go_sem, d2, d3, e8, hkt, hx, hbs, hss, hkn']; try rfl)); (case hc => (first | trivial | decide | (simp only [inB, sliceOk, appendOk, rowsOk]; omega) | (simp [inB, sliceOk, appendOk, rowsOk]; omega))))
        | (apply evd_step; (case hr | hi => (simp only [go_sem, d2, d3, e8, hkt, hx, hbs, hss, hkn']; try rfl)); (case hc => (first | trivial | decide | (simp only [inB, sliceOk, appendOk, rowsOk]; omega) | (simp [inB, sliceOk, appendOk, rowsOk]; omega))); (case hw | hσ => (intro g u; simp only [go_sem, d2, d3, e8, hkt, hx, hbs, hss, hkn']; try rfl)); (case' hk => (intro g u; (try clear u); (try clear g))))
        | fail))); (case hB => kernel_rfl))
    | (apply ev_step0; (case hr | hσ => (simp only [go_sem, d2, d3, e8, hkt, hx, hbs, hss, hkn']; try rfl)); (case hc => (first | trivial | decide | (simp only [inB, sliceOk, appendOk, rowsOk]; omega) | (simp [inB, sliceOk, appendOk, rowsOk]; omega))))
    | (apply ev_step; (case hr => (simp only [go_sem, d2, d3, e8, hkt, hx, hbs, hss, hkn']; try rfl)); (case hσ => (intro g u; simp only [go_sem, d2, d3, e8, hkt, hx, hbs, hss, hkn']; try rfl)); (case hc => (first | trivial | decide | (simp only [inB, sliceOk, appendOk, rowsOk]; omega) | (simp [inB, sliceOk, appendOk, rowsOk]; omega))); intro g u; (try clear u); (try clear g))
    | fail
  refine Exists.intro (i + 1, (x.1.set t nx, x.2 + 8)) ⟨⟨by show i + 1 ≤ 5; omega, hSt.1, by show x.2 + 8 ≤ 40 * t + 8 * (i + 1); have hat' : x.2 ≤ 40 * t + 8 * i := hat; omega, hit⟩, by show 5 - (i + 1) < 5 - i; omega, ?_⟩
  refine Wk.mk ?_ ?_
  all_goals (repeat' first | exact trivial | exact LeA.refl _ | exact LeA.any _ | exact LeO.refl _ | exact LeO.no _ | exact LeA.nil _ | exact LeA.nilOwn _ | exact LeO.nil _ _ _ | refine LeO.box ?_ | (refine LeA.i ?_; (first | rfl | (push_cast; rfl) | (rw [wrap_id (by omega)]; push_cast; omega) | (simp [wrap_id]; omega))) | refine ⟨?_, ?_⟩)
end
end Go.Proofs.Ytlkfbhhopkoopaa.A
