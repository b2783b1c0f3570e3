/- The law on lines: the walk. The law on concatenated sources: the walk. Tokens and white space that bytes describe: the walks. The law on joined tokens: the walk. The law on white space between tokens: the walk. The law on what tokens cover: the walk. The reference's spelling, joined tokens, lines: the walks. -/
import Derived.Test.YtnppegglggcceaaY2
namespace Go.Proofs.Ytnppegglggcceaa.A
attribute [local go_sem] Nat.reduceAdd Nat.reduceSub Nat.reduceMul Nat.reduceLT Nat.reduceLeDiff Nat.reduceEqDiff Nat.reduceBEq reduceIte reduceCtorEq e_step_none e_slotU e_slotB e_move e_assign e_pick e_unOp e_binOp e_alloc e_box e_build e_buildSlice e_load e_store e_fieldAddr e_field e_indexAddr e_index e_slice e_sliceM e_makeSlice e_makeFunc e_convert e_extract e_nilCheck e_len e_append e_max e_min e_call e_callV e_fn e_cap_ptr e_cap_lit e_cap_sl e_cap_fn e_fnOf_clo e_fnOf_fn e_flat_fn e_clo e_ev_tmp e_ev_int e_ev_bool e_ev_string e_ev_slice e_ev_nilFunc e_ev_nilIface e_ev_pointer e_ev_agg e_ev_func e_pickT e_pickF e_not e_neg e_add e_sub e_mul e_quo e_rem e_eql e_neq e_lss e_leq e_gtr e_geq e_shl e_shr e_and e_or e_xor e_andNot e_beq e_bne e_sadd e_seql e_sneq e_b2_d e_b2_nil e_b2_nnil e_b2_agg e_lits_nil e_lits_cons e_litC e_eqR e_eqArr e_eqOnes_nil e_eqOnes_cons e_eqO_e e_eqO_n e_eqV4 e_eqV3 e_eqV2 e_eqV1 e_eqFs_nil e_eqFs_cons e_and2 e_eq1 e_eqL_i e_eqL_s e_eqL_b e_allocR e_boxR e_box_agg e_box_d e_box_own e_box_clo e_one_nil e_one_d e_one_own e_one_clo e_one_ptr e_cells_agg e_cells_d e_cells_own e_cells_clo e_cells_ptr e_ob_own e_ob_ptr e_ob_elo e_ob_d e_ob_el e_ob_agg e_load_box e_load_fzb e_load_el e_load_elo e_storeX_ptr e_storeX_d e_storeX_own e_storeX_agg e_storeX_el e_storeC' e_notIn_nil e_notIn_cons e_store_box e_storeB e_store_elo e_store_elo_agg e_storeE e_fa_ptr e_fa_el e_fa_elo e_faR e_fd e_fdR e_ia_d e_ia_row e_ia_fz e_ia_ptr e_ia_el e_ix_s e_ix_a e_len_s e_len_nil e_len_d e_len_row e_len_fz e_conv_i e_conv_s e_conv_own e_conv_sl e_extr e_maxR e_minR e_nil_ptr e_nil_el e_nil_elo e_rows_nil e_rows_d e_rows_row e_rows_fz e_rok_nil e_rok_d e_rok_row e_rok_fz e_app_row e_appR e_app_nil e_appN e_make e_bnd_none e_bnd_some e_optmap_none e_optmap_some e_slR e_slRe e_sl_s e_sl_d e_slM_d e_sl_nil e_sl_row e_sl_fz e_fill_nil e_fill_cons e_fill1 e_placeS e_plS e_placeE e_buildO e_build1 e_build2 e_build3 e_bindD e_bs e_bsR e_allD_nil e_allD_cons e_allD_el e_allD_clo e_allD2 e_allD1 e_chunk0 e_chunkS e_clP_nil e_clP_cons e_cl_d e_cl_any e_cl_el e_cl_agg e_cl_tup e_cl_clo e_cl_own e_clOwn_row e_clOwn_fz e_cl_ptr e_clPtr_box e_clBox e_clPtr_fzb e_clL_nil e_clL_cons e_ok_d e_ok_any e_ok_el e_ok_agg e_ok_tup e_ok_clo e_ok_own e_okOwn_row e_okOwn_fz e_ok_ptr e_okPtr_box e_okPtr_fzb e_okL_nil e_okL_cons e_ids_d e_ids_any e_ids_el e_ids_own e_ids_ptr e_ids_agg e_ids_tup e_ids_clo e_idsL_nil e_idsL_cons e_frz_nil e_frz_cons e_frz_row e_frz_fz e_frz_fzb e_frz_box e_frzB e_flat_lit e_flat_sl e_flat_agg e_flat_tup e_flat_any e_flat_clo e_flatL_nil e_flatL_cons e_new_lit e_new_agg e_new_tup e_new_own e_newOwn_row e_newL_nil e_newL_cons e_objD e_setMany e_takeA e_zerosA e_gdL e_idsG e_idsOp e_callV' e_callN' e_callF' e_o_move e_o_assign e_o_pick e_o_unOp e_o_binOp e_o_alloc e_o_box e_o_build e_o_buildSlice e_o_load e_o_store e_o_fieldAddr e_o_field e_o_indexAddr e_o_index e_o_slice0 e_o_slice1 e_o_slice2 e_o_slice3 e_o_sliceM e_o_makeSlice e_o_makeFunc
attribute [local go_sem] e_o_convert e_o_extract e_o_nilCheck e_o_bcall e_o_vcall litI litB litS List.map_cons List.map_nil List.getD_cons_zero List.getD_cons_succ List.getD_nil List.getElem?_cons_zero List.getElem?_cons_succ List.getElem?_nil Option.getD_some Option.getD_none Option.map_some Option.map_none List.length_cons List.length_nil List.all_cons List.all_nil Bool.and_true Bool.true_and and_true true_and and_self List.take_zero List.take_succ_cons List.drop_zero List.drop_succ_cons List.nil_append List.cons_append List.append_nil List.replicate_succ List.replicate_zero List.flatten_cons List.flatten_nil Nat.zero_add Nat.add_zero Nat.mul_one Nat.zero_mul Nat.one_mul Nat.mul_zero List.set_cons_zero List.set_cons_succ List.foldl_cons List.foldl_nil appendOk rowsOk inB sliceOk cutRows mtake mdrop List.length_append List.length_take List.length_drop if_true if_false or_false or_true true_or Bool.not_true Bool.not_false Bool.false_eq_true List.length_map Int.toNat_natCast Int.toNat_zero Int.toNat_one eq_self St.after St.put applyEff R0 T1 T2 T3 T4 T5 T6 T7 T8 T9 T12 T21 T22 T25 T26 T28 T31 T35 T37 T41 T52 T58 T62 T66 T73 T76 T77 T79 T80 T87 T95 ti1 ti2 ti3 ti4 ti5 ti6 ti7 ti8 ti9 ti12 ti21 ti22 ti25 ti26 ti28 ti31 ti35 ti37 ti41 ti52 ti58 ti62 ti66 ti73 ti76 ti77 ti79 ti80 ti87 ti95
section
set_option linter.unusedVariables false
set_option linter.unusedSimpArgs false
open Go.RowKit
attribute [local irreducible] AWp evOps evD
theorem feeds_snoc1 (l : Bs) {k : Nat} (h : k < l.length) : feeds (l.take (k + 1)) = feeds (l.take k) + (if l.getD k 0 = 10 then 1 else 0) := by
  have : l.take (k + 1) = l.take k ++ [l.getD k 0] := by
    rw [List.take_succ_eq_append_getElem h]; simp [List.getD_eq_getElem?_getD, h]
  rw [this, feeds_snoc]
theorem feeds_len : ∀ l : Bs, feeds l ≤ l.length
  | [] => Nat.le_refl _
  | b :: l => by
    have := feeds_len l
    simp only [feeds, List.length_cons]; split <;> omega
set_option maxHeartbeats 16000000 in
theorem f4_spec (s : ByteArray) (k : Int) (hs : s.size ≤ 9223372036854775807) (hk : 0 ≤ k ∧ k < 65536) : Spec Try.prog 4 [litS s, litI .u16 k] (litB true) := by
  have h10 := f10_spec
  have h11 := f11_nil s hs
  by_cases h1 : s.size ≤ 2000
  rotate_left
  · rw [decide_eq_false (by omega)] at h11
    refine spec_of_awp (fn := Try.f4) Try.func4 (by kernel_rfl) rfl ?_
    intro w0 C0
    simp only [Try.ntmps4, litI, litB, litS, List.length_cons, List.length_nil, Nat.reduceAdd, Nat.reduceSub, List.replicate_succ, List.replicate_zero, List.cons_append, List.nil_append]
    repeat' first
      | refine awp_seq ?_
      | refine awp_block ?_
      | refine awp_skip ?_
      | (refine reg _ (by (simp only [List.map_cons, List.map_nil]; rfl)) rfl ?_; intro K hK)
      | (refine awp_cond _ (by rfl) ?_ ?_ <;> (intro hb; first | (cases hb; done) | (have ht : true = true := hb; clear ht hb) | (have ht : false = false := hb; clear ht hb) | (simp only [hb]) | skip))
      | (refine awp_exit ?_; simp only [thenA, blockA, scopeA, reduceIte, RetQ, Nat.reduceEqDiff])
      | (refine awp_ret ?_; simp only [thenA, blockA, scopeA, RetQ])
      | (refine ev_nil (hK _ ?_); clear hK K)
      | (apply ev_guardU; (case hj | hu | hσ => (simp only [go_sem]; try rfl)))
      | (refine ev_guardT _ _ (by (simp only [go_sem]; rfl)) (by (simp only [go_sem]; rfl)) ?_ ?_ <;> (intro hb; first | (cases hb; done) | (have ht : true = true := hb; clear ht hb) | (have ht : false = false := hb; clear ht hb) | (simp only [hb]) | skip))
      | (refine ev_guardF _ _ (by (simp only [go_sem]; rfl)) (by (simp only [go_sem]; rfl)) ?_ ?_ <;> (intro hb; first | (cases hb; done) | (have ht : true = true := hb; clear ht hb) | (have ht : false = false := hb; clear ht hb) | (simp only [hb]) | skip))
      | (apply ev_call0; (case hys => (simp only [go_sem]; try rfl)); (case hs => first | exact h10 .. | exact h11 ..); (case hok | hσ => (simp only [go_sem]; try rfl)))
      | (apply ev_step0; (case hr | hσ => (simp only [go_sem]; try rfl)); (case hc => (first | trivial | decide | (simp only [inB, sliceOk, appendOk, rowsOk]; omega) | (simp [inB, sliceOk, appendOk, rowsOk]; omega))))
      | (apply ev_step; (case hr => (simp only [go_sem]; try rfl)); (case hσ => (intro g u; simp only [go_sem]; try rfl)); (case hc => (first | trivial | decide | (simp only [inB, sliceOk, appendOk, rowsOk]; omega) | (simp [inB, sliceOk, appendOk, rowsOk]; omega))); intro g u; (try clear u); (try clear g))
      | fail
    all_goals (refine resR_one T_ok rfl _ (by (simp only [go_sem, resA]; rfl)) (by first | trivial | (simp only [go_sem, resA])) (by first | trivial | (simp only [go_sem])) ?_; simp only [go_sem])
    exact LeA.refl _
  rw [decide_eq_true (by omega)] at h11
  have hl := bs_len s
  have wk : IntKind.i64.wrap k = k := wrap_id (by omega)
  have wl : IntKind.i64.wrap ((s.size : Int) + 1) = ((s.size + 1 : Nat) : Int) := by rw [wrap_id (by omega)]; push_cast; rfl
  obtain ⟨i, hi, hir⟩ : ∃ i : Nat, i ≤ s.size ∧ k.tmod ((s.size + 1 : Nat) : Int) = (i : Int) := by
    have h2 := Int.tmod_nonneg ((s.size + 1 : Nat) : Int) hk.1
    have h3 := Int.tmod_lt_of_pos k (b := ((s.size + 1 : Nat) : Int)) (by omega)
    exact ⟨(k.tmod ((s.size + 1 : Nat) : Int)).toNat, by omega, by omega⟩
  have a1 : atN s.size (i : Int) = i := by unfold atN; omega
  have a2 : atN s.size (-1 - (i : Int)) = 0 := by unfold atN; omega
  have a3 : atN s.size ((s.size : Int) + (i : Int)) = s.size := by unfold atN; omega
  have a4 : atN s.size (s.size : Int) = s.size := by unfold atN; omega
  have l1 := f13_spec s (i : Int) (by omega)
  have l2 := f13_spec s (-1 - (i : Int)) (by omega)
  have l3 := f13_spec s ((s.size : Int) + (i : Int)) (by omega)
  have l4 := f13_spec s (s.size : Int) (by omega)
  rw [a1] at l1
  rw [a2] at l2
  rw [a3] at l3
  rw [a4] at l4
  have e2 : ((1 + feeds ((bs s).take 0) : Nat) : Int) = 1 := rfl
  have e3 : ((0 : Nat) : Int) + 1 - (behind ((bs s).take 0) : Int) = 1 := rfl
  rw [e2, e3] at l2
  have hrb := readN_behind (bs s) i
  have hfr := feeds_read (bs s) (feeds ((bs s).take i)) (feeds_take _ _)
  have hbl := behind_le ((bs s).take i)
  rw [List.length_take] at hbl
  generalize ((1 + feeds ((bs s).take s.size) : Nat) : Int) = x3 at *
  generalize (s.size : Int) + 1 - (behind ((bs s).take s.size) : Int) = x4 at *
  rw [hrb] at hfr
  have hFl := Nat.le_trans (feeds_take (bs s) i) (feeds_len (bs s))
  generalize behind ((bs s).take i) = B at *
  generalize feeds ((bs s).take i) = F at *
  have w2 : IntKind.i64.wrap (-1 - (i : Int)) = -1 - (i : Int) := wrap_id (by omega)
  have w3 : IntKind.i64.wrap ((s.size : Int) + (i : Int)) = (s.size : Int) + (i : Int) := wrap_id (by omega)
  refine spec_of_awp (fn := Try.f4) Try.func4 (by kernel_rfl) rfl ?_
  intro w0 C0
  simp only [Try.ntmps4, litI, litB, litS, List.length_cons, List.length_nil, Nat.reduceAdd, Nat.reduceSub, List.replicate_succ, List.replicate_zero, List.cons_append, List.nil_append]
  repeat' first
    | refine awp_seq ?_
    | refine awp_block ?_
    | refine awp_skip ?_
    | (refine reg _ (by (simp only [List.map_cons, List.map_nil]; rfl)) rfl ?_; intro K hK)
    | (refine awp_cond _ (by rfl) ?_ ?_ <;> (intro hb; first | (cases hb; done) | (have ht : true = true := hb; clear ht hb) | (have ht : false = false := hb; clear ht hb) | (simp only [hb]) | skip))
    | (refine awp_exit ?_; simp only [thenA, blockA, scopeA, reduceIte, RetQ, Nat.reduceEqDiff])
    | (refine awp_ret ?_; simp only [thenA, blockA, scopeA, RetQ])
    | (refine ev_nil (hK _ ?_); clear hK K)
    | (apply ev_guardU; (case hj | hu | hσ => (simp only [go_sem, wk, wl, hir]; try rfl)))
    | (refine ev_guardT _ _ (by (simp only [go_sem, wk, wl, hir]; rfl)) (by (simp only [go_sem, wk, wl, hir]; rfl)) ?_ ?_ <;> (intro hb; first | (cases hb; done) | (have ht : true = true := hb; clear ht hb) | (have ht : false = false := hb; clear ht hb) | (simp only [hb]) | skip))
    | (refine ev_guardF _ _ (by (simp only [go_sem, wk, wl, hir]; rfl)) (by (simp only [go_sem, wk, wl, hir]; rfl)) ?_ ?_ <;> (intro hb; first | (cases hb; done) | (have ht : true = true := hb; clear ht hb) | (have ht : false = false := hb; clear ht hb) | (simp only [hb]) | skip))
    | (apply ev_call0; (case hys => (simp only [go_sem, wk, wl, hir]; try rfl)); (case hs => first | exact h10 .. | exact h11 .. | exact l1 ..); (case hok | hσ => (simp only [go_sem, wk, wl, hir]; try rfl)))
    | (apply ev_step0; (case hr | hσ => (simp only [go_sem, wk, wl, hir]; try rfl)); (case hc => (first | trivial | decide | (simp only [inB, sliceOk, appendOk, rowsOk]; omega) | (simp [inB, sliceOk, appendOk, rowsOk]; omega))))
    | (apply ev_step; (case hr => (simp only [go_sem, wk, wl, hir]; try rfl)); (case hσ => (intro g u; simp only [go_sem, wk, wl, hir]; try rfl)); (case hc => (first | trivial | decide | (simp only [inB, sliceOk, appendOk, rowsOk]; omega) | (simp [inB, sliceOk, appendOk, rowsOk]; omega))); intro g u; (try clear u); (try clear g))
    | fail
  refine awp_loopI (fun j : Nat => j ≤ s.size ∧ feeds ((bs s).take j) ≤ F ∧ B = j + readN (F - feeds ((bs s).take j)) ((bs s).drop j)) (fun j => s.size - j) (fun j => ⟨[litS s, .any, .any, .any, .any, litB true, litI .i64 i, .ptr 7 g 0, litI .i64 j, litI .i64 ((1 + feeds ((bs s).take j) : Nat) : Int), litI .i64 j, .any, .any, .any, .any, .any, .any, .any, .any, .any, .any, .any, .any, .any, .any, .any, .any, .any, .any, .any, .any, .any, .any, .any, .any, .any, .any, .any, .any, .any, .any, .any, .any, .any, .any, .any, .any, .any, .any, .any, .any, .any, .any, .any, .any, .any, .any, .any, .any, .any, .any, .any, .any, .any, .any, .any, .any, .any, .any, .any, .any, .any, .any, .any, .any, .any, .any, .any, .any, .any, .any, .any, .any, .any, .any, .any, .any, .any, .any, .any, .any, .any, .any, .any], [.no, .no, .no, .no, .no, .no, .no, .box g [litI .i64 ((1 + F : Nat) : Int), litI .i64 ((i : Int) + 1 - (B : Int))], .no, .no, .no, .no, .no, .no, .no, .no, .no, .no, .no, .no, .no, .no, .no, .no, .no, .no, .no, .no, .no, .no, .no, .no, .no, .no, .no, .no, .no, .no, .no, .no, .no, .no, .no, .no, .no, .no, .no, .no, .no, .no, .no, .no, .no, .no, .no, .no, .no, .no, .no, .no, .no, .no, .no, .no, .no, .no, .no, .no, .no, .no, .no, .no, .no, .no, .no, .no, .no, .no, .no, .no, .no, .no, .no, .no, .no, .no, .no, .no, .no, .no, .no, .no, .no, .no]⟩) 0 ⟨by omega, by simp [feeds], by simp [feeds, hrb]⟩ ?_ ?_
  · refine Wk.mk ?_ ?_
    all_goals (repeat' first | exact trivial | exact LeA.refl _ | exact LeA.any _ | exact LeO.refl _ | exact LeO.no _ | exact LeA.nil _ | exact LeA.nilOwn _ | exact LeO.nil _ _ _ | refine LeO.box ?_ | (refine LeA.i ?_; (first | rfl | (push_cast; rfl) | (rw [wrap_id (by omega)]; push_cast; omega) | (simp [wrap_id]; omega))) | refine ⟨?_, ?_⟩)
  rintro j ⟨hj, hjF, hjB⟩
  simp only [litI, litB, litS] at hj hjF hjB ⊢
  by_cases hx : j < s.size ∧ feeds ((bs s).take j) < F
  · obtain ⟨h2, h3⟩ := hx
    have d1 : decide ((j : Int) < (s.size : Int)) = true := decide_eq_true (by omega)
    have d2 : decide (((1 + feeds ((bs s).take j) : Nat) : Int) < ((1 + F : Nat) : Int)) = true := decide_eq_true (by omega)
    have hb := byteAt_nat s j
    have hfs := feeds_snoc1 (bs s) (k := j) (by omega)
    obtain ⟨m, hm⟩ : ∃ m, F - feeds ((bs s).take j) = m + 1 := ⟨F - feeds ((bs s).take j) - 1, by omega⟩
    rw [hm, drop_one (bs s) (i := j) (by omega)] at hjB
    have e1 : ((((bs s).getD j 0).toNat : Int) == 10) = ((bs s).getD j 0 == 10) := u8_eq _ 10
    generalize (bs s).getD j 0 = x at *
    have w4 : IntKind.i64.wrap ((j : Int) + 1) = ((j + 1 : Nat) : Int) := by rw [wrap_id (by omega)]; push_cast; rfl
    by_cases h10' : x = 10
    · have f1 : ((x.toNat : Int) == 10) = true := by rw [e1, h10']; rfl
      have w5 : IntKind.i64.wrap (((1 + feeds ((bs s).take j) : Nat) : Int) + 1) = ((1 + feeds ((bs s).take (j + 1)) : Nat) : Int) := by
        rw [wrap_id (by omega), hfs, if_pos h10']; omega
      simp only [readN, if_pos h10'] at hjB
      clear e1
      repeat' first
        | refine awp_seq ?_
        | refine awp_block ?_
        | refine awp_skip ?_
        | (refine reg _ (by (simp only [List.map_cons, List.map_nil]; rfl)) rfl ?_; intro K hK)
        | (refine awp_cond _ (by rfl) ?_ ?_ <;> (intro hb; first | (cases hb; done) | (have ht : true = true := hb; clear ht hb) | (have ht : false = false := hb; clear ht hb) | (simp only [hb]) | skip))
        | (refine awp_exit ?_; simp only [thenA, blockA, scopeA, reduceIte, RetQ, Nat.reduceEqDiff])
        | (refine awp_ret ?_; simp only [thenA, blockA, scopeA, RetQ])
        | (refine ev_nil (hK _ ?_); clear hK K)
        | (apply ev_guardU; (case hj | hu | hσ => (simp only [go_sem, d1, d2, hb, f1, w4, w5]; try rfl)))
        | (refine ev_guardT _ _ (by (simp only [go_sem, d1, d2, hb, f1, w4, w5]; rfl)) (by (simp only [go_sem, d1, d2, hb, f1, w4, w5]; rfl)) ?_ ?_ <;> (intro hb; first | (cases hb; done) | (have ht : true = true := hb; clear ht hb) | (have ht : false = false := hb; clear ht hb) | (simp only [hb]) | skip))
        | (refine ev_guardF _ _ (by (simp only [go_sem, d1, d2, hb, f1, w4, w5]; rfl)) (by (simp only [go_sem, d1, d2, hb, f1, w4, w5]; rfl)) ?_ ?_ <;> (intro hb; first | (cases hb; done) | (have ht : true = true := hb; clear ht hb) | (have ht : false = false := hb; clear ht hb) | (simp only [hb]) | skip))
        | (apply ev_step0; (case hr | hσ => (simp only [go_sem, d1, d2, hb, f1, w4, w5]; try rfl)); (case hc => (first | trivial | decide | (simp only [inB, sliceOk, appendOk, rowsOk]; omega) | (simp [inB, sliceOk, appendOk, rowsOk]; omega))))
        | (apply ev_step; (case hr => (simp only [go_sem, d1, d2, hb, f1, w4, w5]; try rfl)); (case hσ => (intro g u; simp only [go_sem, d1, d2, hb, f1, w4, w5]; try rfl)); (case hc => (first | trivial | decide | (simp only [inB, sliceOk, appendOk, rowsOk]; omega) | (simp [inB, sliceOk, appendOk, rowsOk]; omega))); intro g u; (try clear u); (try clear g))
        | fail
      refine Exists.intro (j + 1) ⟨⟨by omega, by rw [hfs, if_pos h10']; omega, by rw [hfs, if_pos h10', show F - (feeds ((bs s).take j) + 1) = m from by omega]; omega⟩, by omega, ?_⟩
      refine Wk.mk ?_ ?_
      all_goals (repeat' first | exact trivial | exact LeA.refl _ | exact LeA.any _ | exact LeO.refl _ | exact LeO.no _ | exact LeA.nil _ | exact LeA.nilOwn _ | exact LeO.nil _ _ _ | refine LeO.box ?_ | (refine LeA.i ?_; (first | rfl | (push_cast; rfl) | (rw [wrap_id (by omega)]; push_cast; omega) | (simp [wrap_id]; omega))) | refine ⟨?_, ?_⟩)
    · have f1 : ((x.toNat : Int) == 10) = false := by rw [e1]; simpa using h10'
      have hfs' : feeds ((bs s).take (j + 1)) = feeds ((bs s).take j) := by rw [hfs, if_neg h10']; rfl
      clear hfs
      simp only [readN, if_neg h10'] at hjB
      clear e1
      rw [← hfs'] at d2 hm ⊢
      repeat' first
        | refine awp_seq ?_
        | refine awp_block ?_
        | refine awp_skip ?_
        | (refine reg _ (by (simp only [List.map_cons, List.map_nil]; rfl)) rfl ?_; intro K hK)
        | (refine awp_cond _ (by rfl) ?_ ?_ <;> (intro hb; first | (cases hb; done) | (have ht : true = true := hb; clear ht hb) | (have ht : false = false := hb; clear ht hb) | (simp only [hb]) | skip))
        | (refine awp_exit ?_; simp only [thenA, blockA, scopeA, reduceIte, RetQ, Nat.reduceEqDiff])
        | (refine awp_ret ?_; simp only [thenA, blockA, scopeA, RetQ])
        | (refine ev_nil (hK _ ?_); clear hK K)
        | (apply ev_guardU; (case hj | hu | hσ => (simp only [go_sem, d1, d2, hb, f1, w4]; try rfl)))
        | (refine ev_guardT _ _ (by (simp only [go_sem, d1, d2, hb, f1, w4]; rfl)) (by (simp only [go_sem, d1, d2, hb, f1, w4]; rfl)) ?_ ?_ <;> (intro hb; first | (cases hb; done) | (have ht : true = true := hb; clear ht hb) | (have ht : false = false := hb; clear ht hb) | (simp only [hb]) | skip))
        | (refine ev_guardF _ _ (by (simp only [go_sem, d1, d2, hb, f1, w4]; rfl)) (by (simp only [go_sem, d1, d2, hb, f1, w4]; rfl)) ?_ ?_ <;> (intro hb; first | (cases hb; done) | (have ht : true = true := hb; clear ht hb) | (have ht : false = false := hb; clear ht hb) | (simp only [hb]) | skip))
        | (apply ev_step0; (case hr | hσ => (simp only [go_sem, d1, d2, hb, f1, w4]; try rfl)); (case hc => (first | trivial | decide | (simp only [inB, sliceOk, appendOk, rowsOk]; omega) | (simp [inB, sliceOk, appendOk, rowsOk]; omega))))
        | (apply ev_step; (case hr => (simp only [go_sem, d1, d2, hb, f1, w4]; try rfl)); (case hσ => (intro g u; simp only [go_sem, d1, d2, hb, f1, w4]; try rfl)); (case hc => (first | trivial | decide | (simp only [inB, sliceOk, appendOk, rowsOk]; omega) | (simp [inB, sliceOk, appendOk, rowsOk]; omega))); intro g u; (try clear u); (try clear g))
        | fail
      refine Exists.intro (j + 1) ⟨⟨by omega, by omega, by rw [hm]; omega⟩, by omega, ?_⟩
      refine Wk.mk ?_ ?_
      all_goals (repeat' first | exact trivial | exact LeA.refl _ | exact LeA.any _ | exact LeO.refl _ | exact LeO.no _ | exact LeA.nil _ | exact LeA.nilOwn _ | exact LeO.nil _ _ _ | refine LeO.box ?_ | (refine LeA.i ?_; (first | rfl | (push_cast; rfl) | (rw [wrap_id (by omega)]; push_cast; omega) | (simp [wrap_id]; omega))) | refine ⟨?_, ?_⟩)
  · have hend : feeds ((bs s).take j) = F ∧ B = j := by
      by_cases h2 : j < s.size
      · have h3 : feeds ((bs s).take j) = F := by
          apply Classical.byContradiction; intro hne
          exact hx ⟨h2, by omega⟩
        rw [h3, Nat.sub_self] at hjB
        exact ⟨h3, by rw [hjB]; simp [readN]⟩
      · have h4 : (bs s).drop j = [] := List.drop_eq_nil_of_le (by omega)
        rw [h4] at hjB
        have h5 : B = j := by
          rw [hjB]
          cases F - feeds ((bs s).take j) <;> rfl
        rw [← h5]
        exact ⟨hfr, rfl⟩
    obtain ⟨h2, rfl⟩ := hend
    rw [h2]
    have d2 : decide (((1 + F : Nat) : Int) < ((1 + F : Nat) : Int)) = false := decide_eq_false (by omega)
    have d3 : decide (((1 + F : Nat) : Int) ≥ 1) = true := decide_eq_true (by omega)
    have d4 : decide ((i : Int) + 1 - (B : Int) ≥ 1) = true := decide_eq_true (by omega)
    have w4 : IntKind.i64.wrap ((B : Int) + ((i : Int) + 1 - (B : Int))) = (i : Int) + 1 := by rw [wrap_id (by omega)]; omega
    have w5 : IntKind.i64.wrap ((i : Int) + 1 - 1) = (i : Int) := by rw [wrap_id (by omega)]; omega
    obtain ⟨b, d1⟩ : ∃ b, decide ((B : Int) < (s.size : Int)) = b := ⟨_, rfl⟩
    generalize ((1 + F : Nat) : Int) = p0 at *
    generalize (i : Int) + 1 - (B : Int) = p1 at *
    cases b
    all_goals
      repeat' first
        | refine awp_seq ?_
        | refine awp_block ?_
        | refine awp_skip ?_
        | (refine reg _ (by (simp only [List.map_cons, List.map_nil]; rfl)) rfl ?_; intro K hK)
        | (refine awp_cond _ (by rfl) ?_ ?_ <;> (intro hb; first | (cases hb; done) | (have ht : true = true := hb; clear ht hb) | (have ht : false = false := hb; clear ht hb) | (simp only [hb]) | skip))
        | (refine awp_exit ?_; simp only [thenA, blockA, scopeA, reduceIte, RetQ, Nat.reduceEqDiff])
        | (refine awp_ret ?_; simp only [thenA, blockA, scopeA, RetQ])
        | (refine ev_nil (hK _ ?_); clear hK K)
        | (apply ev_guardU; (case hj | hu | hσ => (simp only [go_sem, d1, d2, d3, d4, w2, w3, w4, w5, beq_self_eq_true, Bool.and_self]; try rfl)))
        | (refine ev_guardT _ _ (by (simp only [go_sem, d1, d2, d3, d4, w2, w3, w4, w5, beq_self_eq_true, Bool.and_self]; rfl)) (by (simp only [go_sem, d1, d2, d3, d4, w2, w3, w4, w5, beq_self_eq_true, Bool.and_self]; rfl)) ?_ ?_ <;> (intro hb; first | (cases hb; done) | (have ht : true = true := hb; clear ht hb) | (have ht : false = false := hb; clear ht hb) | (simp only [hb]) | skip))
        | (refine ev_guardF _ _ (by (simp only [go_sem, d1, d2, d3, d4, w2, w3, w4, w5, beq_self_eq_true, Bool.and_self]; rfl)) (by (simp only [go_sem, d1, d2, d3, d4, w2, w3, w4, w5, beq_self_eq_true, Bool.and_self]; rfl)) ?_ ?_ <;> (intro hb; first | (cases hb; done) | (have ht : true = true := hb; clear ht hb) | (have ht : false = false := hb; clear ht hb) | (simp only [hb]) | skip))
        | (apply ev_call0; (case hys => (simp only [go_sem, d1, d2, d3, d4, w2, w3, w4, w5, beq_self_eq_true, Bool.and_self]; try rfl)); (case hs => first | exact l2 .. | exact l3 .. | exact l4 ..); (case hok | hσ => (simp only [go_sem, d1, d2, d3, d4, w2, w3, w4, w5, beq_self_eq_true, Bool.and_self]; try rfl)))
        | (apply ev_step0; (case hr | hσ => (simp only [go_sem, d1, d2, d3, d4, w2, w3, w4, w5, beq_self_eq_true, Bool.and_self]; try rfl)); (case hc => (first | trivial | decide | (simp only [inB, sliceOk, appendOk, rowsOk]; omega) | (simp [inB, sliceOk, appendOk, rowsOk]; omega))))
        | (apply ev_step; (case hr => (simp only [go_sem, d1, d2, d3, d4, w2, w3, w4, w5, beq_self_eq_true, Bool.and_self]; try rfl)); (case hσ => (intro g u; simp only [go_sem, d1, d2, d3, d4, w2, w3, w4, w5, beq_self_eq_true, Bool.and_self]; try rfl)); (case hc => (first | trivial | decide | (simp only [inB, sliceOk, appendOk, rowsOk]; omega) | (simp [inB, sliceOk, appendOk, rowsOk]; omega))); intro g u; (try clear u); (try clear g))
        | fail
      all_goals (refine resR_one T_ok rfl _ (by (simp only [go_sem, resA]; rfl)) (by first | trivial | (simp only [go_sem, resA])) (by first | trivial | (simp only [go_sem])) ?_; simp only [go_sem])
      exact LeA.refl _
end
section
set_option linter.unusedVariables false
set_option linter.unusedSimpArgs false
open Go.RowKit
attribute [local irreducible] AWp evOps evD
theorem cov_off (s : Bs) : ∀ (l : List Tk) (e : Nat), cov s e l → ∀ t ∈ l, t.2.2 ≤ s.length
  | [], _, _, t, ht => by cases ht
  | u :: l, e, h, t, ht => by
    simp only [cov] at h
    rcases List.mem_cons.1 ht with rfl | ht
    · omega
    · exact cov_off s l _ h.2.2.2.2.2.2 t ht
/-- A token further on. -/
def shTok (d : Nat) (t : Tok) : Tok := ⟨t.k, t.s, t.a + (d : Int)⟩
theorem toTok_sh (d : Nat) (t : Tk) : toTok (t.1, t.2.1, t.2.2 + d) = shTok d (toTok t) := by
  simp [toTok, shTok]
set_option maxHeartbeats 16000000 in
theorem f9_spec (a b : ByteArray) (hsa : a.size ≤ 9223372036854775807) (hsb : b.size ≤ 9223372036854775807) : Spec Try.prog 9 [litS a, litS b] (litB true) := by
  have h10 := f10_spec
  have h11 := f11_nil a hsa
  have g11 := f11_nil b hsb
  by_cases h1 : a.size ≤ 2000
  rotate_left
  · rw [decide_eq_false (by omega)] at h11
    refine spec_of_awp (fn := Try.f9) Try.func9 (by kernel_rfl) rfl ?_
    intro w0 C0
    simp only [Try.ntmps9, litI, litB, litS, List.length_cons, List.length_nil, Nat.reduceAdd, Nat.reduceSub, List.replicate_succ, List.replicate_zero, List.cons_append, List.nil_append]
    repeat' first
      | refine awp_seq ?_
      | refine awp_block ?_
      | refine awp_skip ?_
      | (refine reg _ (by (simp only [List.map_cons, List.map_nil]; rfl)) rfl ?_; intro K hK)
      | (refine awp_cond _ (by rfl) ?_ ?_ <;> (intro hb; first | (cases hb; done) | (have ht : true = true := hb; clear ht hb) | (have ht : false = false := hb; clear ht hb) | (simp only [hb]) | skip))
      | (refine awp_exit ?_; simp only [thenA, blockA, scopeA, reduceIte, RetQ, Nat.reduceEqDiff])
      | (refine awp_ret ?_; simp only [thenA, blockA, scopeA, RetQ])
      | (refine ev_nil (hK _ ?_); clear hK K)
      | (apply ev_guardU; (case hj | hu | hσ => (simp only [go_sem]; try rfl)))
      | (refine ev_guardT _ _ (by (simp only [go_sem]; rfl)) (by (simp only [go_sem]; rfl)) ?_ ?_ <;> (intro hb; first | (cases hb; done) | (have ht : true = true := hb; clear ht hb) | (have ht : false = false := hb; clear ht hb) | (simp only [hb]) | skip))
      | (refine ev_guardF _ _ (by (simp only [go_sem]; rfl)) (by (simp only [go_sem]; rfl)) ?_ ?_ <;> (intro hb; first | (cases hb; done) | (have ht : true = true := hb; clear ht hb) | (have ht : false = false := hb; clear ht hb) | (simp only [hb]) | skip))
      | (apply ev_call0; (case hys => (simp only [go_sem]; try rfl)); (case hs => first | exact h10 .. | exact h11 ..); (case hok | hσ => (simp only [go_sem]; try rfl)))
      | (apply ev_step0; (case hr | hσ => (simp only [go_sem]; try rfl)); (case hc => (first | trivial | decide | (simp only [inB, sliceOk, appendOk, rowsOk]; omega) | (simp [inB, sliceOk, appendOk, rowsOk]; omega))))
      | (apply ev_step; (case hr => (simp only [go_sem]; try rfl)); (case hσ => (intro g u; simp only [go_sem]; try rfl)); (case hc => (first | trivial | decide | (simp only [inB, sliceOk, appendOk, rowsOk]; omega) | (simp [inB, sliceOk, appendOk, rowsOk]; omega))); intro g u; (try clear u); (try clear g))
      | fail
    all_goals (refine resR_one T_ok rfl _ (by (simp only [go_sem, resA]; rfl)) (by first | trivial | (simp only [go_sem, resA])) (by first | trivial | (simp only [go_sem])) ?_; simp only [go_sem])
    exact LeA.refl _
  rw [decide_eq_true (by omega)] at h11
  by_cases h2 : b.size ≤ 2000
  rotate_left
  · rw [decide_eq_false (by omega)] at g11
    refine spec_of_awp (fn := Try.f9) Try.func9 (by kernel_rfl) rfl ?_
    intro w0 C0
    simp only [Try.ntmps9, litI, litB, litS, List.length_cons, List.length_nil, Nat.reduceAdd, Nat.reduceSub, List.replicate_succ, List.replicate_zero, List.cons_append, List.nil_append]
    repeat' first
      | refine awp_seq ?_
      | refine awp_block ?_
      | refine awp_skip ?_
      | (refine reg _ (by (simp only [List.map_cons, List.map_nil]; rfl)) rfl ?_; intro K hK)
      | (refine awp_cond _ (by rfl) ?_ ?_ <;> (intro hb; first | (cases hb; done) | (have ht : true = true := hb; clear ht hb) | (have ht : false = false := hb; clear ht hb) | (simp only [hb]) | skip))
      | (refine awp_exit ?_; simp only [thenA, blockA, scopeA, reduceIte, RetQ, Nat.reduceEqDiff])
      | (refine awp_ret ?_; simp only [thenA, blockA, scopeA, RetQ])
      | (refine ev_nil (hK _ ?_); clear hK K)
      | (apply ev_guardU; (case hj | hu | hσ => (simp only [go_sem]; try rfl)))
      | (refine ev_guardT _ _ (by (simp only [go_sem]; rfl)) (by (simp only [go_sem]; rfl)) ?_ ?_ <;> (intro hb; first | (cases hb; done) | (have ht : true = true := hb; clear ht hb) | (have ht : false = false := hb; clear ht hb) | (simp only [hb]) | skip))
      | (refine ev_guardF _ _ (by (simp only [go_sem]; rfl)) (by (simp only [go_sem]; rfl)) ?_ ?_ <;> (intro hb; first | (cases hb; done) | (have ht : true = true := hb; clear ht hb) | (have ht : false = false := hb; clear ht hb) | (simp only [hb]) | skip))
      | (apply ev_call0; (case hys => (simp only [go_sem]; try rfl)); (case hs => first | exact h10 .. | exact h11 .. | exact g11 ..); (case hok | hσ => (simp only [go_sem]; try rfl)))
      | (apply ev_step0; (case hr | hσ => (simp only [go_sem]; try rfl)); (case hc => (first | trivial | decide | (simp only [inB, sliceOk, appendOk, rowsOk]; omega) | (simp [inB, sliceOk, appendOk, rowsOk]; omega))))
      | (apply ev_step; (case hr => (simp only [go_sem]; try rfl)); (case hσ => (intro g u; simp only [go_sem]; try rfl)); (case hc => (first | trivial | decide | (simp only [inB, sliceOk, appendOk, rowsOk]; omega) | (simp [inB, sliceOk, appendOk, rowsOk]; omega))); intro g u; (try clear u); (try clear g))
      | fail
    all_goals (refine resR_one T_ok rfl _ (by (simp only [go_sem, resA]; rfl)) (by first | trivial | (simp only [go_sem, resA])) (by first | trivial | (simp only [go_sem])) ?_; simp only [go_sem])
    exact LeA.refl _
  rw [decide_eq_true (by omega)] at g11
  have hla := bs_len a
  have hlb := bs_len b
  have ba : bs (a ++ ⟨#[10]⟩ ++ b) = bs a ++ 10 :: bs b := by rw [bs_app, bs_app, List.append_assoc]; rfl
  have z1 : (a ++ ⟨#[10]⟩ : ByteArray).size = a.size + 1 := by rw [← bs_len, bs_app, List.length_append, hla]; rfl
  have z2 : (a ++ ⟨#[10]⟩ ++ b : ByteArray).size = a.size + 1 + b.size := by rw [← bs_len, ba, List.length_append, List.length_cons, hla, hlb]; omega
  have x12 := f12_spec a (by omega)
  have y12 := f12_spec b (by omega)
  have z12 := f12_spec (a ++ ⟨#[10]⟩ ++ b) (by omega)
  have zc : a.size + (⟨#[10]⟩ : ByteArray).size ≤ 9223372036854775807 := by show a.size + 1 ≤ _; omega
  have zd : (a ++ ⟨#[10]⟩ : ByteArray).size + b.size ≤ 9223372036854775807 := by rw [z1]; omega
  cases hA : (lexB (bs a)).2 with
  | some p =>
    obtain ⟨e1, e2, e3⟩ := lex_no hA
    rw [e1, e2, e3] at x12
    generalize lexL b = l1 at *
    generalize lexP b = l2 at *
    generalize lexE b = l3 at *
    generalize lexL (a ++ ⟨#[10]⟩ ++ b) = l4 at *
    generalize lexP (a ++ ⟨#[10]⟩ ++ b) = l5 at *
    generalize lexE (a ++ ⟨#[10]⟩ ++ b) = l6 at *
    refine spec_of_awp (fn := Try.f9) Try.func9 (by kernel_rfl) rfl ?_
    intro w0 C0
    simp only [Try.ntmps9, litI, litB, litS, List.length_cons, List.length_nil, Nat.reduceAdd, Nat.reduceSub, List.replicate_succ, List.replicate_zero, List.cons_append, List.nil_append]
    repeat' first
      | refine awp_seq ?_
      | refine awp_block ?_
      | refine awp_skip ?_
      | (refine reg _ (by (simp only [List.map_cons, List.map_nil]; rfl)) rfl ?_; intro K hK)
      | (refine awp_cond _ (by rfl) ?_ ?_ <;> (intro hb; first | (cases hb; done) | (have ht : true = true := hb; clear ht hb) | (have ht : false = false := hb; clear ht hb) | (simp only [hb]) | skip))
      | (refine awp_exit ?_; simp only [thenA, blockA, scopeA, reduceIte, RetQ, Nat.reduceEqDiff])
      | (refine awp_ret ?_; simp only [thenA, blockA, scopeA, RetQ])
      | (refine ev_nil (hK _ ?_); clear hK K)
      | (apply ev_guardU; (case hj | hu | hσ => (simp only [go_sem]; try rfl)))
      | (refine ev_guardT _ _ (by (simp only [go_sem]; rfl)) (by (simp only [go_sem]; rfl)) ?_ ?_ <;> (intro hb; first | (cases hb; done) | (have ht : true = true := hb; clear ht hb) | (have ht : false = false := hb; clear ht hb) | (simp only [hb]) | skip))
      | (refine ev_guardF _ _ (by (simp only [go_sem]; rfl)) (by (simp only [go_sem]; rfl)) ?_ ?_ <;> (intro hb; first | (cases hb; done) | (have ht : true = true := hb; clear ht hb) | (have ht : false = false := hb; clear ht hb) | (simp only [hb]) | skip))
      | (apply ev_call0; (case hys => (simp only [go_sem]; try rfl)); (case hs => first | exact h10 .. | exact h11 .. | exact g11 .. | exact x12 .. | exact y12 .. | exact z12 ..); (case hok | hσ => (simp only [go_sem]; try rfl)))
      | (apply ev_step0; (case hr | hσ => (simp only [go_sem]; try rfl)); (case hc => (first | trivial | decide | (simp only [inB, sliceOk, appendOk, rowsOk]; omega) | (simp [inB, sliceOk, appendOk, rowsOk]; omega))))
      | (apply ev_step; (case hr => (simp only [go_sem]; try rfl)); (case hσ => (intro g u; simp only [go_sem]; try rfl)); (case hc => (first | trivial | decide | (simp only [inB, sliceOk, appendOk, rowsOk]; omega) | (simp [inB, sliceOk, appendOk, rowsOk]; omega))); intro g u; (try clear u); (try clear g))
      | fail
    all_goals (refine resR_one T_ok rfl _ (by (simp only [go_sem, resA]; rfl)) (by first | trivial | (simp only [go_sem, resA])) (by first | trivial | (simp only [go_sem])) ?_; simp only [go_sem])
    exact LeA.refl _
  | none =>
  obtain ⟨e1, e2, e3⟩ := lex_ok hA
  rw [e1, e2, e3] at x12
  have hZ := lexB_app (bs b) hA
  rw [← ba] at hZ
  cases hB : (lexB (bs b)).2 with
  | some p =>
    obtain ⟨f1, f2, f3⟩ := lex_no hB
    rw [f1, f2, f3] at y12
    obtain ⟨g1, g2, g3⟩ := lex_no (s := a ++ ⟨#[10]⟩ ++ b) (p := p + (a.size + 1)) (by rw [hZ, shiftT, hB, hla]; rfl)
    rw [g1, g2, g3] at z12
    obtain ⟨hp, _⟩ := lexB_err hB
    have w1 : IntKind.i64.wrap ((p : Int) + (a.size : Int)) = ((p + a.size : Nat) : Int) := by rw [wrap_id (by omega)]; push_cast; rfl
    have w2 : IntKind.i64.wrap (((p + a.size : Nat) : Int) + 1) = ((p + (a.size + 1) : Nat) : Int) := by rw [wrap_id (by omega)]; omega
    refine spec_of_awp (fn := Try.f9) Try.func9 (by kernel_rfl) rfl ?_
    intro w0 C0
    simp only [Try.ntmps9, litI, litB, litS, List.length_cons, List.length_nil, Nat.reduceAdd, Nat.reduceSub, List.replicate_succ, List.replicate_zero, List.cons_append, List.nil_append]
    repeat' first
      | refine awp_seq ?_
      | refine awp_block ?_
      | refine awp_skip ?_
      | (refine reg _ (by (simp only [List.map_cons, List.map_nil]; rfl)) rfl ?_; intro K hK)
      | (refine awp_cond _ (by rfl) ?_ ?_ <;> (intro hb; first | (cases hb; done) | (have ht : true = true := hb; clear ht hb) | (have ht : false = false := hb; clear ht hb) | (simp only [hb]) | skip))
      | (refine awp_exit ?_; simp only [thenA, blockA, scopeA, reduceIte, RetQ, Nat.reduceEqDiff])
      | (refine awp_ret ?_; simp only [thenA, blockA, scopeA, RetQ])
      | (refine ev_nil (hK _ ?_); clear hK K)
      | (apply ev_guardU; (case hj | hu | hσ => (simp only [go_sem, w1, w2, beq_self_eq_true]; try rfl)))
      | (refine ev_guardT _ _ (by (simp only [go_sem, w1, w2, beq_self_eq_true]; rfl)) (by (simp only [go_sem, w1, w2, beq_self_eq_true]; rfl)) ?_ ?_ <;> (intro hb; first | (cases hb; done) | (have ht : true = true := hb; clear ht hb) | (have ht : false = false := hb; clear ht hb) | (simp only [hb]) | skip))
      | (refine ev_guardF _ _ (by (simp only [go_sem, w1, w2, beq_self_eq_true]; rfl)) (by (simp only [go_sem, w1, w2, beq_self_eq_true]; rfl)) ?_ ?_ <;> (intro hb; first | (cases hb; done) | (have ht : true = true := hb; clear ht hb) | (have ht : false = false := hb; clear ht hb) | (simp only [hb]) | skip))
      | (apply ev_call0; (case hys => (simp only [go_sem, w1, w2, beq_self_eq_true]; try rfl)); (case hs => first | exact h10 .. | exact h11 .. | exact g11 .. | exact x12 .. | exact y12 .. | exact z12 ..); (case hok | hσ => (simp only [go_sem, w1, w2, beq_self_eq_true]; try rfl)))
      | (apply ev_step0; (case hr | hσ => (simp only [go_sem, w1, w2, beq_self_eq_true]; try rfl)); (case hc => (first | trivial | decide | (simp only [inB, sliceOk, appendOk, rowsOk]; omega) | (simp [inB, sliceOk, appendOk, rowsOk]; omega))))
      | (apply ev_step; (case hr => (simp only [go_sem, w1, w2, beq_self_eq_true]; try rfl)); (case hσ => (intro g u; simp only [go_sem, w1, w2, beq_self_eq_true]; try rfl)); (case hc => (first | trivial | decide | (simp only [inB, sliceOk, appendOk, rowsOk]; omega) | (simp [inB, sliceOk, appendOk, rowsOk]; omega))); intro g u; (try clear u); (try clear g))
      | fail
    all_goals (refine resR_one T_ok rfl _ (by (simp only [go_sem, resA]; rfl)) (by first | trivial | (simp only [go_sem, resA])) (by first | trivial | (simp only [go_sem])) ?_; simp only [go_sem])
    exact LeA.refl _
  | none =>
    obtain ⟨f1, f2, f3⟩ := lex_ok hB
    rw [f1, f2, f3] at y12
    obtain ⟨g1, g2, g3⟩ := lex_ok (s := a ++ ⟨#[10]⟩ ++ b) (by rw [hZ, shiftT, hB]; rfl)
    rw [g1, g2, g3] at z12
    have hoff : ∀ t ∈ (lexB (bs b)).1.map toTok, 0 ≤ t.a ∧ t.a ≤ 2000 := fun t ht => by
      obtain ⟨u, hu, rfl⟩ := List.mem_map.1 ht
      have := cov_off _ _ _ (lexB_cov hB) u hu
      show 0 ≤ (u.2.2 : Int) ∧ (u.2.2 : Int) ≤ 2000
      omega
    have hlenA : ((lexB (bs a)).1.map toTok).length ≤ 2001 := by rw [List.length_map]; exact Nat.le_trans (lexTk_len _ _ _) (by omega)
    have hlenB : ((lexB (bs b)).1.map toTok).length ≤ 2001 := by rw [List.length_map]; exact Nat.le_trans (lexTk_len _ _ _) (by omega)
    have hzl : (lexB (bs (a ++ ⟨#[10]⟩ ++ b))).1.map toTok = (lexB (bs a)).1.map toTok ++ ((lexB (bs b)).1.map toTok).map (shTok (a.size + 1)) := by
      rw [hZ, shiftT, hla, List.map_append, List.map_map, List.map_map]
      rfl
    rw [hzl] at z12
    generalize (lexB (bs a)).1.map toTok = LA at *
    generalize (lexB (bs b)).1.map toTok = LB at *
    have h19 := ex19 (LA ++ LB.map (shTok (a.size + 1))) 0 0 (by rw [List.length_append, List.length_map]; omega)
    have w1 : IntKind.i64.wrap ((a.size : Int) + 1) = ((a.size + 1 : Nat) : Int) := by rw [wrap_id (by omega)]; push_cast; rfl
    refine spec_of_awp (fn := Try.f9) Try.func9 (by kernel_rfl) rfl ?_
    intro w0 C0
    simp only [Try.ntmps9, litI, litB, litS, List.length_cons, List.length_nil, Nat.reduceAdd, Nat.reduceSub, List.replicate_succ, List.replicate_zero, List.cons_append, List.nil_append]
    repeat' first
      | refine awp_seq ?_
      | refine awp_block ?_
      | refine awp_skip ?_
      | (refine reg _ (by (simp only [List.map_cons, List.map_nil]; rfl)) rfl ?_; intro K hK)
      | (refine awp_cond _ (by rfl) ?_ ?_ <;> (intro hb; first | (cases hb; done) | (have ht : true = true := hb; clear ht hb) | (have ht : false = false := hb; clear ht hb) | (simp only [hb]) | skip))
      | (refine awp_exit ?_; simp only [thenA, blockA, scopeA, reduceIte, RetQ, Nat.reduceEqDiff])
      | (refine awp_ret ?_; simp only [thenA, blockA, scopeA, RetQ])
      | (refine ev_nil (hK _ ?_); clear hK K)
      | (apply ev_guardU; (case hj | hu | hσ => (simp only [go_sem, w1]; try rfl)))
      | (refine ev_guardT _ _ (by (simp only [go_sem, w1]; rfl)) (by (simp only [go_sem, w1]; rfl)) ?_ ?_ <;> (intro hb; first | (cases hb; done) | (have ht : true = true := hb; clear ht hb) | (have ht : false = false := hb; clear ht hb) | (simp only [hb]) | skip))
      | (refine ev_guardF _ _ (by (simp only [go_sem, w1]; rfl)) (by (simp only [go_sem, w1]; rfl)) ?_ ?_ <;> (intro hb; first | (cases hb; done) | (have ht : true = true := hb; clear ht hb) | (have ht : false = false := hb; clear ht hb) | (simp only [hb]) | skip))
      | (apply ev_call0; (case hys => (simp only [go_sem, w1]; try rfl)); (case hs => first | exact h10 .. | exact h11 .. | exact g11 .. | exact x12 .. | exact y12 .. | exact z12 ..); (case hok | hσ => (simp only [go_sem, w1]; try rfl)))
      | (apply ev_step0; (case hr | hσ => (simp only [go_sem, w1]; try rfl)); (case hc => (first | trivial | decide | (simp only [inB, sliceOk, appendOk, rowsOk]; omega) | (simp [inB, sliceOk, appendOk, rowsOk]; omega))))
      | (apply ev_step; (case hr => (simp only [go_sem, w1]; try rfl)); (case hσ => (intro g u; simp only [go_sem, w1]; try rfl)); (case hc => (first | trivial | decide | (simp only [inB, sliceOk, appendOk, rowsOk]; omega) | (simp [inB, sliceOk, appendOk, rowsOk]; omega))); intro g u; (try clear u); (try clear g))
      | fail
    rename_i g6 g7 u0
    refine awp_loopI (fun j : Nat × Value => j.1 ≤ LB.length) (fun j => LB.length - j.1) (fun j => ⟨[litS a, .any, .any, .any, .any, litB true, .any, .ptr 7 g7 0, .ptr 8 g 0, .own 57 j.2, litI .i64 j.1, .any, .any, .any, .any, .any, .any, .any, .any, .any, .any, .any, .any, .any, .any, .any, .any, .any, .any, .any, .any, .any, .any, .any, .any, .any, .any, .any, .any, .any, .any, .any, .any, .any, .any, .any, .any, .any, .any, .any, .any, .any, .any, .any, .any, .any, .any, .any, .any, .any, .any, .any, .any, .any, .any, .any, .any, .any, .any, .any, .any, .any, .any, .any, .any, .any, .any, .any, .any, .any, .any, .any, .any, .any, .any, .any, .any, .any, .any, .any, .any], [.no, .no, .no, .no, .no, .no, .no, .box g7 [.d (tksD LB), litI .i64 0, litI .i64 0], .box g [.d (tksD (LA ++ LB.map (shTok (a.size + 1)))), litI .i64 0, litI .i64 0], .no, .no, .no, .no, .no, .no, .no, .no, .no, .no, .no, .no, .no, .no, .no, .no, .no, .no, .no, .no, .no, .no, .no, .no, .no, .no, .no, .no, .no, .no, .no, .no, .no, .no, .no, .no, .no, .no, .no, .no, .no, .no, .no, .no, .no, .no, .no, .no, .row j.2 37 3 ((LA ++ (LB.take j.1).map (shTok (a.size + 1))).map tkD), .no, .no, .no, .no, .no, .no, .no, .no, .no, .no, .no, .no, .no, .no, .no, .no, .no, .no, .no, .no, .no, .no, .no, .no, .no, .no, .no, .no, .no, .no, .no, .no, .no]⟩) (0, u) (by simp) ?_ ?_
    · simp only [List.take_zero, List.map_nil, List.append_nil]
      refine Wk.mk ?_ ?_
      all_goals (repeat' first | exact trivial | exact LeA.refl _ | exact LeA.any _ | exact LeO.refl _ | exact LeO.no _ | exact LeA.nil _ | exact LeA.nilOwn _ | exact LeO.nil _ _ _ | refine LeO.box ?_ | (refine LeA.i ?_; (first | rfl | (push_cast; rfl) | (rw [wrap_id (by omega)]; push_cast; omega) | (simp [wrap_id]; omega))) | refine ⟨?_, ?_⟩)
    rintro ⟨j, v⟩ hj
    simp only [litI, litB, litS] at hj ⊢
    by_cases h3 : j < LB.length
    · have d1 : decide ((j : Int) < (LB.length : Int)) = true := decide_eq_true (by omega)
      have hx := tks_at LB h3
      have ht := tk_take LB h3
      have hlt : (LA ++ (LB.take j).map (shTok (a.size + 1))).length ≤ 5000 := by rw [List.length_append, List.length_map, List.length_take]; omega
      have hxo := hoff (LB.getD j tkN) (by
        rw [List.getD_eq_getElem?_getD, List.getElem?_eq_getElem h3]
        exact List.getElem_mem h3)
      generalize LB.getD j tkN = x at *
      have w2 : IntKind.i64.wrap (x.a + ((a.size + 1 : Nat) : Int)) = x.a + ((a.size + 1 : Nat) : Int) := wrap_id (by omega)
      have hm : (LA ++ (LB.take (j + 1)).map (shTok (a.size + 1))).map tkD = (LA ++ (LB.take j).map (shTok (a.size + 1))).map tkD ++ [[.lit (.int .i64 x.k), .lit (.string x.s), .lit (.int .i64 (x.a + ((a.size + 1 : Nat) : Int)))]] := by
        rw [ht]; simp [shTok]
      generalize LA ++ (LB.take j).map (shTok (a.size + 1)) = acc at *
      repeat' first
        | refine awp_seq ?_
        | refine awp_block ?_
        | refine awp_skip ?_
        | (refine reg _ (by (simp only [List.map_cons, List.map_nil]; rfl)) rfl ?_; intro K hK)
        | (refine awp_cond _ (by rfl) ?_ ?_ <;> (intro hb; first | (cases hb; done) | (have ht : true = true := hb; clear ht hb) | (have ht : false = false := hb; clear ht hb) | (simp only [hb]) | skip))
        | (refine awp_exit ?_; simp only [thenA, blockA, scopeA, reduceIte, RetQ, Nat.reduceEqDiff])
        | (refine awp_ret ?_; simp only [thenA, blockA, scopeA, RetQ])
        | (refine ev_nil (hK _ ?_); clear hK K)
        | (apply ev_guardU; (case hj | hu | hσ => (simp only [go_sem, d1, hx, w1, w2]; try rfl)))
        | (refine ev_guardT _ _ (by (simp only [go_sem, d1, hx, w1, w2]; rfl)) (by (simp only [go_sem, d1, hx, w1, w2]; rfl)) ?_ ?_ <;> (intro hb; first | (cases hb; done) | (have ht : true = true := hb; clear ht hb) | (have ht : false = false := hb; clear ht hb) | (simp only [hb]) | skip))
        | (refine ev_guardF _ _ (by (simp only [go_sem, d1, hx, w1, w2]; rfl)) (by (simp only [go_sem, d1, hx, w1, w2]; rfl)) ?_ ?_ <;> (intro hb; first | (cases hb; done) | (have ht : true = true := hb; clear ht hb) | (have ht : false = false := hb; clear ht hb) | (simp only [hb]) | skip))
        | (apply ev_step0; (case hr | hσ => (simp only [go_sem, d1, hx, w1, w2]; try rfl)); (case hc => (first | trivial | decide | (simp only [inB, sliceOk, appendOk, rowsOk]; omega) | (simp [inB, sliceOk, appendOk, rowsOk]; omega))))
        | (apply ev_step; (case hr => (simp only [go_sem, d1, hx, w1, w2]; try rfl)); (case hσ => (intro g u; simp only [go_sem, d1, hx, w1, w2]; try rfl)); (case hc => (first | trivial | decide | (simp only [inB, sliceOk, appendOk, rowsOk]; omega) | (simp [inB, sliceOk, appendOk, rowsOk]; omega))); intro g u; (try clear u); (try clear g))
        | fail
      refine Exists.intro (j + 1, u) ⟨by show j + 1 ≤ _; omega, by show _ - (j + 1) < _ - j; omega, ?_⟩
      simp only [hm]
      refine Wk.mk ?_ ?_
      all_goals (repeat' first | exact trivial | exact LeA.refl _ | exact LeA.any _ | exact LeO.refl _ | exact LeO.no _ | exact LeA.nil _ | exact LeA.nilOwn _ | exact LeO.nil _ _ _ | refine LeO.box ?_ | (refine LeA.i ?_; (first | rfl | (push_cast; rfl) | (rw [wrap_id (by omega)]; push_cast; omega) | (simp [wrap_id]; omega))) | refine ⟨?_, ?_⟩)
    · have d1 : decide ((j : Int) < (LB.length : Int)) = false := decide_eq_false (by omega)
      have : j = LB.length := by omega
      subst this
      rw [List.take_length]
      repeat' first
        | refine awp_seq ?_
        | refine awp_block ?_
        | refine awp_skip ?_
        | (refine reg _ (by (simp only [List.map_cons, List.map_nil]; rfl)) rfl ?_; intro K hK)
        | (refine awp_cond _ (by rfl) ?_ ?_ <;> (intro hb; first | (cases hb; done) | (have ht : true = true := hb; clear ht hb) | (have ht : false = false := hb; clear ht hb) | (simp only [hb]) | skip))
        | (refine awp_exit ?_; simp only [thenA, blockA, scopeA, reduceIte, RetQ, Nat.reduceEqDiff])
        | (refine awp_ret ?_; simp only [thenA, blockA, scopeA, RetQ])
        | (refine ev_nil (hK _ ?_); clear hK K)
        | (apply ev_guardU; (case hj | hu | hσ => (simp only [go_sem, d1]; try rfl)))
        | (refine ev_guardT _ _ (by (simp only [go_sem, d1]; rfl)) (by (simp only [go_sem, d1]; rfl)) ?_ ?_ <;> (intro hb; first | (cases hb; done) | (have ht : true = true := hb; clear ht hb) | (have ht : false = false := hb; clear ht hb) | (simp only [hb]) | skip))
        | (refine ev_guardF _ _ (by (simp only [go_sem, d1]; rfl)) (by (simp only [go_sem, d1]; rfl)) ?_ ?_ <;> (intro hb; first | (cases hb; done) | (have ht : true = true := hb; clear ht hb) | (have ht : false = false := hb; clear ht hb) | (simp only [hb]) | skip))
        | (apply ev_call0; (case hys => (simp only [go_sem, d1]; try rfl)); (case hs => first | exact h19 ..); (case hok | hσ => (simp only [go_sem, d1]; try rfl)))
        | (apply ev_step0; (case hr | hσ => (simp only [go_sem, d1]; try rfl)); (case hc => (first | trivial | decide | (simp only [inB, sliceOk, appendOk, rowsOk]; omega) | (simp [inB, sliceOk, appendOk, rowsOk]; omega))))
        | (apply ev_step; (case hr => (simp only [go_sem, d1]; try rfl)); (case hσ => (intro g u; simp only [go_sem, d1]; try rfl)); (case hc => (first | trivial | decide | (simp only [inB, sliceOk, appendOk, rowsOk]; omega) | (simp [inB, sliceOk, appendOk, rowsOk]; omega))); intro g u; (try clear u); (try clear g))
        | fail
      all_goals (refine resR_one T_ok rfl _ (by (simp only [go_sem, resA]; rfl)) (by first | trivial | (simp only [go_sem, resA])) (by first | trivial | (simp only [go_sem])) ?_; simp only [go_sem])
      exact LeA.refl _
end
section
set_option linter.unusedVariables false
set_option linter.unusedSimpArgs false
open Go.RowKit
attribute [local irreducible] AWp evOps evD
theorem tab_at (l : List Bs) {n : Nat} (h : n < l.length) : (l.map fun c => strD ⟨c.toArray⟩).getD n [] = strD ⟨(l.getD n []).toArray⟩ := by
  simp [List.getD_eq_getElem?_getD, h]
theorem tmod_nat (a b : Nat) : ((a : Int)).tmod (b : Int) = ((a % b : Nat) : Int) := (Int.ofNat_tmod a b).symm
theorem u8_small (x : UInt8) : x.toNat < 256 := x.toNat_lt
/-- The white space that a byte describes, as a string. -/
def spS (x : UInt8) : ByteArray := ⟨(spB x.toNat).toArray⟩
set_option maxHeartbeats 4000000 in
theorem f27_spec (x : UInt8) : Spec Try.prog 27 [byA x] (litS (spS x)) := by
  have hm : (x.toNat : Int).tmod 7 = ((x.toNat % 7 : Nat) : Int) := tmod_nat x.toNat 7
  have hx := tab_at spacesM (n := x.toNat % 7) (Nat.mod_lt _ (by decide))
  have hs : spS x = ⟨(spacesM.getD (x.toNat % 7) []).toArray⟩ := rfl
  have hlt : x.toNat % 7 < 7 := Nat.mod_lt _ (by decide)
  rw [hs]
  generalize spacesM.getD (x.toNat % 7) [] = c at *
  generalize x.toNat % 7 = n at *
  simp only [spacesM, List.map_cons, List.map_nil] at hx
  refine spec_of_awp (fn := Try.f27) Try.func27 (by kernel_rfl) rfl ?_
  intro w0 C0
  simp only [Try.ntmps27, litI, litB, litS, List.length_cons, List.length_nil, Nat.reduceAdd, Nat.reduceSub, List.replicate_succ, List.replicate_zero, List.cons_append, List.nil_append]
  repeat' first
    | refine awp_seq ?_
    | refine awp_block ?_
    | refine awp_skip ?_
    | (refine reg _ (by (simp only [List.map_cons, List.map_nil]; rfl)) rfl ?_; intro K hK)
    | (refine awp_cond _ (by rfl) ?_ ?_ <;> (intro hb; first | (cases hb; done) | (have ht : true = true := hb; clear ht hb) | (have ht : false = false := hb; clear ht hb) | (simp only [hb]) | skip))
    | (refine awp_exit ?_; simp only [thenA, blockA, scopeA, reduceIte, RetQ, Nat.reduceEqDiff])
    | (refine awp_ret ?_; simp only [thenA, blockA, scopeA, RetQ])
    | (refine ev_nil (hK _ ?_); clear hK K)
    | (apply ev_step0; (case hr | hσ => (simp only [go_sem, hm, hx]; try rfl)); (case hc => (first | trivial | decide | (simp only [inB, sliceOk, appendOk, rowsOk]; omega) | (simp [inB, sliceOk, appendOk, rowsOk]; omega))))
    | (apply ev_step; (case hr => (simp only [go_sem, hm, hx]; try rfl)); (case hσ => (intro g u; simp only [go_sem, hm, hx]; try rfl)); (case hc => (first | trivial | decide | (simp only [inB, sliceOk, appendOk, rowsOk]; omega) | (simp [inB, sliceOk, appendOk, rowsOk]; omega))); intro g u; (try clear u); (try clear g))
    | fail
  all_goals (refine resR_one T_ok rfl _ (by (simp only [go_sem, resA]; rfl)) (by first | trivial | (simp only [go_sem, resA])) (by first | trivial | (simp only [go_sem])) ?_; simp only [go_sem])
  exact LeA.refl _
/-- A made token. -/
def mTok (t : Nat × Bs) : Tok := ⟨(t.1 : Int), ⟨t.2.toArray⟩, 0⟩
theorem made_none {m : Nat} {l : List Nat} (h : m = 0 ∨ l.length ≤ 1) : madeT m l = [] := by
  match m, l, h with
  | 0, l, _ => simp [madeT]
  | m + 1, [], _ => simp [madeT]
  | m + 1, [a], _ => simp [madeT]
  | m + 1, a :: k :: l, h => simp at h
theorem byte_at (b : Bs) {i : Nat} (h : i < b.length) : (b.map byD).getD i [] = byD (b.getD i 0) := by
  simp [List.getD_eq_getElem?_getD, h]
theorem made_len : ∀ (m : Nat) (l : List Nat), (madeT m l).length ≤ m
  | m + 1, a :: k :: l => by
    have := made_len m l
    simp only [madeT, List.length_cons]; omega
  | 0, l => by simp [madeT]
  | m + 1, [] => by simp [madeT]
  | m + 1, [a] => by simp [madeT]
set_option maxHeartbeats 16000000 in
theorem f25_spec (b : Bs) : Spec Try.prog 25 [.d (.sl 1 (b.map byD))] (.d (tksD ((madeT 30 (b.map UInt8.toNat)).map mTok))) := by
  obtain ⟨R, hR⟩ : ∃ R, madeT 30 (b.map UInt8.toNat) = R := ⟨_, rfl⟩
  rw [hR]
  refine spec_of_awp (fn := Try.f25) Try.func25 (by kernel_rfl) rfl ?_
  intro w0 C0
  simp only [Try.ntmps25, litI, litB, litS, List.length_cons, List.length_nil, Nat.reduceAdd, Nat.reduceSub, List.replicate_succ, List.replicate_zero, List.cons_append, List.nil_append]
  refine awp_len 0 rfl fun hll => ?_
  simp only [List.length_map] at hll
  repeat' first
    | refine awp_seq ?_
    | refine awp_block ?_
    | refine awp_skip ?_
    | (refine reg _ (by (simp only [List.map_cons, List.map_nil]; rfl)) rfl ?_; intro K hK)
    | (refine awp_cond _ (by rfl) ?_ ?_ <;> (intro hb; first | (cases hb; done) | (have ht : true = true := hb; clear ht hb) | (have ht : false = false := hb; clear ht hb) | (simp only [hb]) | skip))
    | (refine awp_exit ?_; simp only [thenA, blockA, scopeA, reduceIte, RetQ, Nat.reduceEqDiff])
    | (refine awp_ret ?_; simp only [thenA, blockA, scopeA, RetQ])
    | (refine ev_nil (hK _ ?_); clear hK K)
    | (apply ev_guardU; (case hj | hu | hσ => (simp only [go_sem]; try rfl)))
    | (refine ev_guardT _ _ (by (simp only [go_sem]; rfl)) (by (simp only [go_sem]; rfl)) ?_ ?_ <;> (intro hb; first | (cases hb; done) | (have ht : true = true := hb; clear ht hb) | (have ht : false = false := hb; clear ht hb) | (simp only [hb]) | skip))
    | (refine ev_guardF _ _ (by (simp only [go_sem]; rfl)) (by (simp only [go_sem]; rfl)) ?_ ?_ <;> (intro hb; first | (cases hb; done) | (have ht : true = true := hb; clear ht hb) | (have ht : false = false := hb; clear ht hb) | (simp only [hb]) | skip))
    | (apply ev_step0; (case hr | hσ => (simp only [go_sem]; try rfl)); (case hc => (first | trivial | decide | (simp only [inB, sliceOk, appendOk, rowsOk]; omega) | (simp [inB, sliceOk, appendOk, rowsOk]; omega))))
    | (apply ev_step; (case hr => (simp only [go_sem]; try rfl)); (case hσ => (intro g u; simp only [go_sem]; try rfl)); (case hc => (first | trivial | decide | (simp only [inB, sliceOk, appendOk, rowsOk]; omega) | (simp [inB, sliceOk, appendOk, rowsOk]; omega))); intro g u; (try clear u); (try clear g))
    | fail
  refine awp_loopI (fun j : Nat × List (Nat × Bs) × Value => j.1 ≤ 30 ∧ j.2.1.length ≤ j.1 ∧ R = j.2.1 ++ madeT (30 - j.1) ((b.drop (2 * j.1)).map UInt8.toNat)) (fun j => 30 - j.1) (fun j => ⟨[.d (.sl 1 (b.map byD)), .any, .any, .own 7 j.2.2, litI .i64 ((2 * j.1 : Nat) : Int), .any, .any, .any, .any, .any, .any, .any, .any, .any, .any, .any, .any, .any, .any, .any, .any, .any, .any, .any, .any, .any, .any, .any, .any, .any, .any, .any, .any, .any, .any, .any, .any, .any, .any, .any, .any, .any, .any, .any, .any, .any, .any, .any, .any, .any, .any, .any, .any, .any, .any, .any, .any, .any, .any, .any, .any, .any, .any, .any, .any, .any, .any, .any, .any, .any], [.no, .no, .no, .no, .no, .no, .no, .row j.2.2 37 3 (j.2.1.map (fun t => tkD (mTok t))), .no, .no, .no, .no, .no, .no, .no, .no, .no, .no, .no, .no, .no, .no, .no, .no, .no, .no, .no, .no, .no, .no, .no, .no, .no, .no, .no, .no, .no, .no, .no, .no, .no, .no, .no, .no, .no, .no, .no, .no, .no, .no, .no, .no, .no, .no, .no, .no, .no, .no, .no, .no, .no, .no, .no, .no, .no, .no, .no, .no, .no, .no]⟩) (0, [], u) ⟨by simp, by simp, by simp [hR]⟩ ?_ ?_
  · refine Wk.mk ?_ ?_
    all_goals (repeat' first | exact trivial | exact LeA.refl _ | exact LeA.any _ | exact LeO.refl _ | exact LeO.no _ | exact LeA.nil _ | exact LeA.nilOwn _ | exact LeO.nil _ _ _ | refine LeO.box ?_ | (refine LeA.i ?_; (first | rfl | (push_cast; rfl) | (rw [wrap_id (by omega)]; push_cast; omega) | (simp [wrap_id]; omega))) | refine ⟨?_, ?_⟩)
  rintro ⟨j, acc, v⟩ ⟨hj, hal, hRj⟩
  simp only [litI, litB, litS] at hj hal hRj ⊢
  have w1 : IntKind.i64.wrap (((2 * j : Nat) : Int) + 1) = ((2 * j + 1 : Nat) : Int) := by rw [wrap_id (by omega)]; push_cast; omega
  by_cases hx : 2 * j + 1 < b.length ∧ j < 30
  rotate_left
  · have he : acc = R := by
      rw [hRj, made_none (by
        rw [List.length_map, List.length_drop]
        by_cases h : j < 30
        · right
          apply Classical.byContradiction; intro hc
          exact hx ⟨by omega, h⟩
        · left; omega), List.append_nil]
    have hmm : acc.map (fun t => tkD (mTok t)) = (R.map mTok).map tkD := by rw [he, List.map_map]; rfl
    rw [hmm]
    by_cases h1 : 2 * j + 1 < b.length
    · have d1 : decide (((2 * j + 1 : Nat) : Int) < (b.length : Int)) = true := decide_eq_true (by omega)
      have d2 : decide (((2 * j : Nat) : Int) < 60) = false := decide_eq_false (fun h => hx ⟨h1, by omega⟩)
      repeat' first
        | refine awp_seq ?_
        | refine awp_block ?_
        | refine awp_skip ?_
        | (refine reg _ (by (simp only [List.map_cons, List.map_nil]; rfl)) rfl ?_; intro K hK)
        | (refine awp_cond _ (by rfl) ?_ ?_ <;> (intro hb; first | (cases hb; done) | (have ht : true = true := hb; clear ht hb) | (have ht : false = false := hb; clear ht hb) | (simp only [hb]) | skip))
        | (refine awp_exit ?_; simp only [thenA, blockA, scopeA, reduceIte, RetQ, Nat.reduceEqDiff])
        | (refine awp_ret ?_; simp only [thenA, blockA, scopeA, RetQ])
        | (refine ev_nil (hK _ ?_); clear hK K)
        | (apply ev_guardU; (case hj | hu | hσ => (simp only [go_sem, w1, d1, d2]; try rfl)))
        | (refine ev_guardT _ _ (by (simp only [go_sem, w1, d1, d2]; rfl)) (by (simp only [go_sem, w1, d1, d2]; rfl)) ?_ ?_ <;> (intro hb; first | (cases hb; done) | (have ht : true = true := hb; clear ht hb) | (have ht : false = false := hb; clear ht hb) | (simp only [hb]) | skip))
        | (refine ev_guardF _ _ (by (simp only [go_sem, w1, d1, d2]; rfl)) (by (simp only [go_sem, w1, d1, d2]; rfl)) ?_ ?_ <;> (intro hb; first | (cases hb; done) | (have ht : true = true := hb; clear ht hb) | (have ht : false = false := hb; clear ht hb) | (simp only [hb]) | skip))
        | (apply ev_step0; (case hr | hσ => (simp only [go_sem, w1, d1, d2]; try rfl)); (case hc => (first | trivial | decide | (simp only [inB, sliceOk, appendOk, rowsOk]; omega) | (simp [inB, sliceOk, appendOk, rowsOk]; omega))))
        | (apply ev_step; (case hr => (simp only [go_sem, w1, d1, d2]; try rfl)); (case hσ => (intro g u; simp only [go_sem, w1, d1, d2]; try rfl)); (case hc => (first | trivial | decide | (simp only [inB, sliceOk, appendOk, rowsOk]; omega) | (simp [inB, sliceOk, appendOk, rowsOk]; omega))); intro g u; (try clear u); (try clear g))
        | fail
      all_goals (refine resR_one T_ok rfl _ (by (simp only [go_sem, resA]; rfl)) (by first | trivial | (simp only [go_sem, resA])) (by first | trivial | (simp only [go_sem])) ?_; simp only [go_sem])
      exact LeA.refl _
    · have d1 : decide (((2 * j + 1 : Nat) : Int) < (b.length : Int)) = false := decide_eq_false (by omega)
      repeat' first
        | refine awp_seq ?_
        | refine awp_block ?_
        | refine awp_skip ?_
        | (refine reg _ (by (simp only [List.map_cons, List.map_nil]; rfl)) rfl ?_; intro K hK)
        | (refine awp_cond _ (by rfl) ?_ ?_ <;> (intro hb; first | (cases hb; done) | (have ht : true = true := hb; clear ht hb) | (have ht : false = false := hb; clear ht hb) | (simp only [hb]) | skip))
        | (refine awp_exit ?_; simp only [thenA, blockA, scopeA, reduceIte, RetQ, Nat.reduceEqDiff])
        | (refine awp_ret ?_; simp only [thenA, blockA, scopeA, RetQ])
        | (refine ev_nil (hK _ ?_); clear hK K)
        | (apply ev_guardU; (case hj | hu | hσ => (simp only [go_sem, w1, d1]; try rfl)))
        | (refine ev_guardT _ _ (by (simp only [go_sem, w1, d1]; rfl)) (by (simp only [go_sem, w1, d1]; rfl)) ?_ ?_ <;> (intro hb; first | (cases hb; done) | (have ht : true = true := hb; clear ht hb) | (have ht : false = false := hb; clear ht hb) | (simp only [hb]) | skip))
        | (refine ev_guardF _ _ (by (simp only [go_sem, w1, d1]; rfl)) (by (simp only [go_sem, w1, d1]; rfl)) ?_ ?_ <;> (intro hb; first | (cases hb; done) | (have ht : true = true := hb; clear ht hb) | (have ht : false = false := hb; clear ht hb) | (simp only [hb]) | skip))
        | (apply ev_step0; (case hr | hσ => (simp only [go_sem, w1, d1]; try rfl)); (case hc => (first | trivial | decide | (simp only [inB, sliceOk, appendOk, rowsOk]; omega) | (simp [inB, sliceOk, appendOk, rowsOk]; omega))))
        | (apply ev_step; (case hr => (simp only [go_sem, w1, d1]; try rfl)); (case hσ => (intro g u; simp only [go_sem, w1, d1]; try rfl)); (case hc => (first | trivial | decide | (simp only [inB, sliceOk, appendOk, rowsOk]; omega) | (simp [inB, sliceOk, appendOk, rowsOk]; omega))); intro g u; (try clear u); (try clear g))
        | fail
      all_goals (refine resR_one T_ok rfl _ (by (simp only [go_sem, resA]; rfl)) (by first | trivial | (simp only [go_sem, resA])) (by first | trivial | (simp only [go_sem])) ?_; simp only [go_sem])
      exact LeA.refl _
  obtain ⟨h1, h2⟩ := hx
  have d1 : decide (((2 * j + 1 : Nat) : Int) < (b.length : Int)) = true := decide_eq_true (by omega)
  have d2 : decide (((2 * j : Nat) : Int) < 60) = true := decide_eq_true (by omega)
  have hy := byte_at b (i := 2 * j) (by omega)
  have hz := byte_at b (i := 2 * j + 1) h1
  have hdr : b.drop (2 * j) = b.getD (2 * j) 0 :: b.getD (2 * j + 1) 0 :: b.drop (2 * (j + 1)) := by
    rw [drop_one b (i := 2 * j) (by omega), drop_one b (i := 2 * j + 1) h1]; rfl
  obtain ⟨m, hm⟩ : ∃ m, 30 - j = m + 1 := ⟨30 - j - 1, by omega⟩
  have hm' : 30 - (j + 1) = m := by omega
  rw [hm, hdr] at hRj
  simp only [List.map_cons, madeT] at hRj
  have hys := u8_small (b.getD (2 * j) 0)
  have hzs := u8_small (b.getD (2 * j + 1) 0)
  generalize b.getD (2 * j) 0 = y at *
  generalize b.getD (2 * j + 1) 0 = z at *
  have wz : IntKind.i64.wrap (z.toNat : Int) = (z.toNat : Int) := wrap_id (by omega)
  have hym : (y.toNat : Int).tmod 4 = ((y.toNat % 4 : Nat) : Int) := tmod_nat y.toNat 4
  have hz6 : (z.toNat : Int).tmod 6 = ((z.toNat % 6 : Nat) : Int) := tmod_nat z.toNat 6
  have hz12 : (z.toNat : Int).tmod 12 = ((z.toNat % 12 : Nat) : Int) := tmod_nat z.toNat 12
  have hn6 : z.toNat % 6 < 6 := Nat.mod_lt _ (by decide)
  have hn12 : z.toNat % 12 < 12 := Nat.mod_lt _ (by decide)
  have t1 := tab_at wordsM (n := z.toNat % 6) hn6
  have t2 := tab_at numsM (n := z.toNat % 6) hn6
  have t3 := tab_at textsM (n := z.toNat % 6) hn6
  have t4 := tab_at signsM (n := z.toNat % 12) hn12
  have hy4 : y.toNat % 4 < 4 := Nat.mod_lt _ (by decide)
  have w5 : IntKind.i64.wrap (((2 * j : Nat) : Int) + 2) = ((2 * (j + 1) : Nat) : Int) := by rw [wrap_id (by omega)]; push_cast; omega
  simp only [tokM] at hRj
  generalize wordsM.getD (z.toNat % 6) [] = c1 at *
  generalize numsM.getD (z.toNat % 6) [] = c2 at *
  generalize textsM.getD (z.toNat % 6) [] = c3 at *
  generalize signsM.getD (z.toNat % 12) [] = c4 at *
  generalize z.toNat % 6 = n6 at *
  generalize z.toNat % 12 = n12 at *
  simp only [wordsM, numsM, textsM, signsM, List.map_cons, List.map_nil] at t1 t2 t3 t4
  generalize y.toNat % 4 = q at *
  match q, hy4 with
  | 0, _ =>
    have g1 : IntKind.i64.wrap ((0 : Nat) : Int) = 0 := wrap_id (by decide)
    have g2 : IntKind.i64.wrap (1 + 0) = 1 := wrap_id (by decide)
    repeat' first
      | refine awp_seq ?_
      | refine awp_block ?_
      | refine awp_skip ?_
      | (refine reg _ (by (simp only [List.map_cons, List.map_nil]; rfl)) rfl ?_; intro K hK)
      | (refine awp_cond _ (by rfl) ?_ ?_ <;> (intro hb; first | (cases hb; done) | (have ht : true = true := hb; clear ht hb) | (have ht : false = false := hb; clear ht hb) | (simp only [hb]) | skip))
      | (refine awp_exit ?_; simp only [thenA, blockA, scopeA, reduceIte, RetQ, Nat.reduceEqDiff])
      | (refine awp_ret ?_; simp only [thenA, blockA, scopeA, RetQ])
      | (refine ev_nil (hK _ ?_); clear hK K)
      | (apply ev_guardU; (case hj | hu | hσ => (simp only [go_sem, w1, d1, d2, hy, hz, wz, hym, hz6, t1, g1, g2, w5, Int.reduceBEq]; try rfl)))
      | (refine ev_guardT _ _ (by (simp only [go_sem, w1, d1, d2, hy, hz, wz, hym, hz6, t1, g1, g2, w5, Int.reduceBEq]; rfl)) (by (simp only [go_sem, w1, d1, d2, hy, hz, wz, hym, hz6, t1, g1, g2, w5, Int.reduceBEq]; rfl)) ?_ ?_ <;> (intro hb; first | (cases hb; done) | (have ht : true = true := hb; clear ht hb) | (have ht : false = false := hb; clear ht hb) | (simp only [hb]) | skip))
      | (refine ev_guardF _ _ (by (simp only [go_sem, w1, d1, d2, hy, hz, wz, hym, hz6, t1, g1, g2, w5, Int.reduceBEq]; rfl)) (by (simp only [go_sem, w1, d1, d2, hy, hz, wz, hym, hz6, t1, g1, g2, w5, Int.reduceBEq]; rfl)) ?_ ?_ <;> (intro hb; first | (cases hb; done) | (have ht : true = true := hb; clear ht hb) | (have ht : false = false := hb; clear ht hb) | (simp only [hb]) | skip))
      | (apply ev_step0; (case hr | hσ => (simp only [go_sem, w1, d1, d2, hy, hz, wz, hym, hz6, t1, g1, g2, w5, Int.reduceBEq]; try rfl)); (case hc => (first | trivial | decide | (simp only [inB, sliceOk, appendOk, rowsOk]; omega) | (simp [inB, sliceOk, appendOk, rowsOk]; omega))))
      | (apply ev_step; (case hr => (simp only [go_sem, w1, d1, d2, hy, hz, wz, hym, hz6, t1, g1, g2, w5, Int.reduceBEq]; try rfl)); (case hσ => (intro g u; simp only [go_sem, w1, d1, d2, hy, hz, wz, hym, hz6, t1, g1, g2, w5, Int.reduceBEq]; try rfl)); (case hc => (first | trivial | decide | (simp only [inB, sliceOk, appendOk, rowsOk]; omega) | (simp [inB, sliceOk, appendOk, rowsOk]; omega))); intro g u; (try clear u); (try clear g))
      | fail
    refine Exists.intro (j + 1, acc ++ [(1, c1)], u) ⟨⟨by simp only; omega, by simp; omega, by rw [hm', hRj, List.append_assoc]; rfl⟩, by simp only; omega, ?_⟩
    simp only [List.map_append, List.map_cons, List.map_nil, mTok]
    refine Wk.mk ?_ ?_
    all_goals (repeat' first | exact trivial | exact LeA.refl _ | exact LeA.any _ | exact LeO.refl _ | exact LeO.no _ | exact LeA.nil _ | exact LeA.nilOwn _ | exact LeO.nil _ _ _ | refine LeO.box ?_ | (refine LeA.i ?_; (first | rfl | (push_cast; rfl) | (rw [wrap_id (by omega)]; push_cast; omega) | (simp [wrap_id]; omega))) | refine ⟨?_, ?_⟩)
  | 1, _ =>
    have g1 : IntKind.i64.wrap ((1 : Nat) : Int) = 1 := wrap_id (by decide)
    have g2 : IntKind.i64.wrap (1 + 1) = 2 := wrap_id (by decide)
    repeat' first
      | refine awp_seq ?_
      | refine awp_block ?_
      | refine awp_skip ?_
      | (refine reg _ (by (simp only [List.map_cons, List.map_nil]; rfl)) rfl ?_; intro K hK)
      | (refine awp_cond _ (by rfl) ?_ ?_ <;> (intro hb; first | (cases hb; done) | (have ht : true = true := hb; clear ht hb) | (have ht : false = false := hb; clear ht hb) | (simp only [hb]) | skip))
      | (refine awp_exit ?_; simp only [thenA, blockA, scopeA, reduceIte, RetQ, Nat.reduceEqDiff])
      | (refine awp_ret ?_; simp only [thenA, blockA, scopeA, RetQ])
      | (refine ev_nil (hK _ ?_); clear hK K)
      | (apply ev_guardU; (case hj | hu | hσ => (simp only [go_sem, w1, d1, d2, hy, hz, wz, hym, hz6, t2, g1, g2, w5, Int.reduceBEq]; try rfl)))
      | (refine ev_guardT _ _ (by (simp only [go_sem, w1, d1, d2, hy, hz, wz, hym, hz6, t2, g1, g2, w5, Int.reduceBEq]; rfl)) (by (simp only [go_sem, w1, d1, d2, hy, hz, wz, hym, hz6, t2, g1, g2, w5, Int.reduceBEq]; rfl)) ?_ ?_ <;> (intro hb; first | (cases hb; done) | (have ht : true = true := hb; clear ht hb) | (have ht : false = false := hb; clear ht hb) | (simp only [hb]) | skip))
      | (refine ev_guardF _ _ (by (simp only [go_sem, w1, d1, d2, hy, hz, wz, hym, hz6, t2, g1, g2, w5, Int.reduceBEq]; rfl)) (by (simp only [go_sem, w1, d1, d2, hy, hz, wz, hym, hz6, t2, g1, g2, w5, Int.reduceBEq]; rfl)) ?_ ?_ <;> (intro hb; first | (cases hb; done) | (have ht : true = true := hb; clear ht hb) | (have ht : false = false := hb; clear ht hb) | (simp only [hb]) | skip))
      | (apply ev_step0; (case hr | hσ => (simp only [go_sem, w1, d1, d2, hy, hz, wz, hym, hz6, t2, g1, g2, w5, Int.reduceBEq]; try rfl)); (case hc => (first | trivial | decide | (simp only [inB, sliceOk, appendOk, rowsOk]; omega) | (simp [inB, sliceOk, appendOk, rowsOk]; omega))))
      | (apply ev_step; (case hr => (simp only [go_sem, w1, d1, d2, hy, hz, wz, hym, hz6, t2, g1, g2, w5, Int.reduceBEq]; try rfl)); (case hσ => (intro g u; simp only [go_sem, w1, d1, d2, hy, hz, wz, hym, hz6, t2, g1, g2, w5, Int.reduceBEq]; try rfl)); (case hc => (first | trivial | decide | (simp only [inB, sliceOk, appendOk, rowsOk]; omega) | (simp [inB, sliceOk, appendOk, rowsOk]; omega))); intro g u; (try clear u); (try clear g))
      | fail
    refine Exists.intro (j + 1, acc ++ [(2, c2)], u) ⟨⟨by simp only; omega, by simp; omega, by rw [hm', hRj, List.append_assoc]; rfl⟩, by simp only; omega, ?_⟩
    simp only [List.map_append, List.map_cons, List.map_nil, mTok]
    refine Wk.mk ?_ ?_
    all_goals (repeat' first | exact trivial | exact LeA.refl _ | exact LeA.any _ | exact LeO.refl _ | exact LeO.no _ | exact LeA.nil _ | exact LeA.nilOwn _ | exact LeO.nil _ _ _ | refine LeO.box ?_ | (refine LeA.i ?_; (first | rfl | (push_cast; rfl) | (rw [wrap_id (by omega)]; push_cast; omega) | (simp [wrap_id]; omega))) | refine ⟨?_, ?_⟩)
  | 2, _ =>
    have g1 : IntKind.i64.wrap ((2 : Nat) : Int) = 2 := wrap_id (by decide)
    have g2 : IntKind.i64.wrap (1 + 2) = 3 := wrap_id (by decide)
    repeat' first
      | refine awp_seq ?_
      | refine awp_block ?_
      | refine awp_skip ?_
      | (refine reg _ (by (simp only [List.map_cons, List.map_nil]; rfl)) rfl ?_; intro K hK)
      | (refine awp_cond _ (by rfl) ?_ ?_ <;> (intro hb; first | (cases hb; done) | (have ht : true = true := hb; clear ht hb) | (have ht : false = false := hb; clear ht hb) | (simp only [hb]) | skip))
      | (refine awp_exit ?_; simp only [thenA, blockA, scopeA, reduceIte, RetQ, Nat.reduceEqDiff])
      | (refine awp_ret ?_; simp only [thenA, blockA, scopeA, RetQ])
      | (refine ev_nil (hK _ ?_); clear hK K)
      | (apply ev_guardU; (case hj | hu | hσ => (simp only [go_sem, w1, d1, d2, hy, hz, wz, hym, hz6, t3, g1, g2, w5, Int.reduceBEq]; try rfl)))
      | (refine ev_guardT _ _ (by (simp only [go_sem, w1, d1, d2, hy, hz, wz, hym, hz6, t3, g1, g2, w5, Int.reduceBEq]; rfl)) (by (simp only [go_sem, w1, d1, d2, hy, hz, wz, hym, hz6, t3, g1, g2, w5, Int.reduceBEq]; rfl)) ?_ ?_ <;> (intro hb; first | (cases hb; done) | (have ht : true = true := hb; clear ht hb) | (have ht : false = false := hb; clear ht hb) | (simp only [hb]) | skip))
      | (refine ev_guardF _ _ (by (simp only [go_sem, w1, d1, d2, hy, hz, wz, hym, hz6, t3, g1, g2, w5, Int.reduceBEq]; rfl)) (by (simp only [go_sem, w1, d1, d2, hy, hz, wz, hym, hz6, t3, g1, g2, w5, Int.reduceBEq]; rfl)) ?_ ?_ <;> (intro hb; first | (cases hb; done) | (have ht : true = true := hb; clear ht hb) | (have ht : false = false := hb; clear ht hb) | (simp only [hb]) | skip))
      | (apply ev_step0; (case hr | hσ => (simp only [go_sem, w1, d1, d2, hy, hz, wz, hym, hz6, t3, g1, g2, w5, Int.reduceBEq]; try rfl)); (case hc => (first | trivial | decide | (simp only [inB, sliceOk, appendOk, rowsOk]; omega) | (simp [inB, sliceOk, appendOk, rowsOk]; omega))))
      | (apply ev_step; (case hr => (simp only [go_sem, w1, d1, d2, hy, hz, wz, hym, hz6, t3, g1, g2, w5, Int.reduceBEq]; try rfl)); (case hσ => (intro g u; simp only [go_sem, w1, d1, d2, hy, hz, wz, hym, hz6, t3, g1, g2, w5, Int.reduceBEq]; try rfl)); (case hc => (first | trivial | decide | (simp only [inB, sliceOk, appendOk, rowsOk]; omega) | (simp [inB, sliceOk, appendOk, rowsOk]; omega))); intro g u; (try clear u); (try clear g))
      | fail
    refine Exists.intro (j + 1, acc ++ [(3, c3)], u) ⟨⟨by simp only; omega, by simp; omega, by rw [hm', hRj, List.append_assoc]; rfl⟩, by simp only; omega, ?_⟩
    simp only [List.map_append, List.map_cons, List.map_nil, mTok]
    refine Wk.mk ?_ ?_
    all_goals (repeat' first | exact trivial | exact LeA.refl _ | exact LeA.any _ | exact LeO.refl _ | exact LeO.no _ | exact LeA.nil _ | exact LeA.nilOwn _ | exact LeO.nil _ _ _ | refine LeO.box ?_ | (refine LeA.i ?_; (first | rfl | (push_cast; rfl) | (rw [wrap_id (by omega)]; push_cast; omega) | (simp [wrap_id]; omega))) | refine ⟨?_, ?_⟩)
  | 3, _ =>
    have g1 : IntKind.i64.wrap ((3 : Nat) : Int) = 3 := wrap_id (by decide)
    have g2 : IntKind.i64.wrap (1 + 3) = 4 := wrap_id (by decide)
    repeat' first
      | refine awp_seq ?_
      | refine awp_block ?_
      | refine awp_skip ?_
      | (refine reg _ (by (simp only [List.map_cons, List.map_nil]; rfl)) rfl ?_; intro K hK)
      | (refine awp_cond _ (by rfl) ?_ ?_ <;> (intro hb; first | (cases hb; done) | (have ht : true = true := hb; clear ht hb) | (have ht : false = false := hb; clear ht hb) | (simp only [hb]) | skip))
      | (refine awp_exit ?_; simp only [thenA, blockA, scopeA, reduceIte, RetQ, Nat.reduceEqDiff])
      | (refine awp_ret ?_; simp only [thenA, blockA, scopeA, RetQ])
      | (refine ev_nil (hK _ ?_); clear hK K)
      | (apply ev_guardU; (case hj | hu | hσ => (simp only [go_sem, w1, d1, d2, hy, hz, wz, hym, hz12, t4, g1, g2, w5, Int.reduceBEq]; try rfl)))
      | (refine ev_guardT _ _ (by (simp only [go_sem, w1, d1, d2, hy, hz, wz, hym, hz12, t4, g1, g2, w5, Int.reduceBEq]; rfl)) (by (simp only [go_sem, w1, d1, d2, hy, hz, wz, hym, hz12, t4, g1, g2, w5, Int.reduceBEq]; rfl)) ?_ ?_ <;> (intro hb; first | (cases hb; done) | (have ht : true = true := hb; clear ht hb) | (have ht : false = false := hb; clear ht hb) | (simp only [hb]) | skip))
      | (refine ev_guardF _ _ (by (simp only [go_sem, w1, d1, d2, hy, hz, wz, hym, hz12, t4, g1, g2, w5, Int.reduceBEq]; rfl)) (by (simp only [go_sem, w1, d1, d2, hy, hz, wz, hym, hz12, t4, g1, g2, w5, Int.reduceBEq]; rfl)) ?_ ?_ <;> (intro hb; first | (cases hb; done) | (have ht : true = true := hb; clear ht hb) | (have ht : false = false := hb; clear ht hb) | (simp only [hb]) | skip))
      | (apply ev_step0; (case hr | hσ => (simp only [go_sem, w1, d1, d2, hy, hz, wz, hym, hz12, t4, g1, g2, w5, Int.reduceBEq]; try rfl)); (case hc => (first | trivial | decide | (simp only [inB, sliceOk, appendOk, rowsOk]; omega) | (simp [inB, sliceOk, appendOk, rowsOk]; omega))))
      | (apply ev_step; (case hr => (simp only [go_sem, w1, d1, d2, hy, hz, wz, hym, hz12, t4, g1, g2, w5, Int.reduceBEq]; try rfl)); (case hσ => (intro g u; simp only [go_sem, w1, d1, d2, hy, hz, wz, hym, hz12, t4, g1, g2, w5, Int.reduceBEq]; try rfl)); (case hc => (first | trivial | decide | (simp only [inB, sliceOk, appendOk, rowsOk]; omega) | (simp [inB, sliceOk, appendOk, rowsOk]; omega))); intro g u; (try clear u); (try clear g))
      | fail
    refine Exists.intro (j + 1, acc ++ [(4, c4)], u) ⟨⟨by simp only; omega, by simp; omega, by rw [hm', hRj, List.append_assoc]; rfl⟩, by simp only; omega, ?_⟩
    simp only [List.map_append, List.map_cons, List.map_nil, mTok]
    refine Wk.mk ?_ ?_
    all_goals (repeat' first | exact trivial | exact LeA.refl _ | exact LeA.any _ | exact LeO.refl _ | exact LeO.no _ | exact LeA.nil _ | exact LeA.nilOwn _ | exact LeO.nil _ _ _ | refine LeO.box ?_ | (refine LeA.i ?_; (first | rfl | (push_cast; rfl) | (rw [wrap_id (by omega)]; push_cast; omega) | (simp [wrap_id]; omega))) | refine ⟨?_, ?_⟩)
end
section
set_option linter.unusedVariables false
set_option linter.unusedSimpArgs false
open Go.RowKit
attribute [local irreducible] AWp evOps evD
def tkKS (t : Tok) : Int × ByteArray := (t.k, t.s)
theorem joinL_congr {l m : List Tok} (h : l.map tkKS = m.map tkKS) : joinL l = joinL m := by
  have key : ∀ l : List Tok, (l.filter vT).map spT = ((l.map tkKS).filter fun p => validZ p.1 (bs p.2)).map fun p => ⟨(spellZ p.1 (bs p.2)).toArray⟩ := by
    intro l
    induction l with
    | nil => rfl
    | cons t l ih =>
      have hv : vT t = validZ (tkKS t).1 (bs (tkKS t).2) := rfl
      simp only [List.map_cons, List.filter_cons, ← hv]
      cases vT t
      · simpa using ih
      · simp only [if_true, List.map_cons, ih]; rfl
  unfold joinL
  rw [key l, key m, h]
theorem alike_same : ∀ {l m : List Tok}, l.map tkKS = m.map tkKS → alikeT l m = true
  | [], [], _ => rfl
  | [], y :: m, h => by simp at h
  | x :: l, [], h => by simp at h
  | x :: l, y :: m, h => by
    simp only [List.map_cons, List.cons.injEq, tkKS, Prod.mk.injEq] at h
    simp only [alikeT, tkAl, h.1.1, h.1.2, beq_self_eq_true, Bool.true_and]
    exact alike_same h.2
theorem toTok_KS {X : List Tk} {R : List (Nat × Bs)} (h : X.map (fun t => (t.1, t.2.1)) = R) : (X.map toTok).map tkKS = (R.map mTok).map tkKS := by
  rw [← h, List.map_map, List.map_map, List.map_map]
  rfl
theorem join_made {R : List (Nat × Bs)} (h : ∀ t ∈ R, validB t.1 t.2 = true) : bs (joinS (R.map mTok)) = joinT R := by
  unfold joinS
  rw [bs_mk, ← joinT_lib]
  unfold joinL
  congr 1
  have hf : (R.map mTok).filter vT = R.map mTok := by
    rw [List.filter_eq_self]
    intro t ht
    obtain ⟨u, hu, rfl⟩ := List.mem_map.1 ht
    exact h u hu
  rw [hf, List.map_map, List.map_map]
  refine List.map_congr_left fun t ht => ?_
  show spellZ (t.1 : Int) t.2 = spellB t.1 t.2
  unfold spellZ
  have : validZ (t.1 : Int) t.2 = true := h t ht
  rw [if_pos this]
  rfl
theorem made_small {R : List (Nat × Bs)} (h : ∀ t ∈ R, validB t.1 t.2 = true) : ∀ t ∈ R.map mTok, t.s.size ≤ 1000000 := fun t ht => by
  obtain ⟨u, hu, rfl⟩ := List.mem_map.1 ht
  have := valid_len (h u hu)
  show (ByteArray.mk u.2.toArray).size ≤ _
  rw [← bs_len, bs_mk]; omega
theorem small_of_KS {l m : List Tok} (h : l.map tkKS = m.map tkKS) (hm : ∀ t ∈ m, t.s.size ≤ 1000000) : ∀ t ∈ l, t.s.size ≤ 1000000 := fun t ht => by
  have : tkKS t ∈ m.map tkKS := by rw [← h]; exact List.mem_map_of_mem ht
  obtain ⟨u, hu, he⟩ := List.mem_map.1 this
  have e : u.s = t.s := congrArg Prod.snd he
  rw [← e]; exact hm u hu
set_option maxHeartbeats 8000000 in
theorem f7_spec (b : Bs) : Spec Try.prog 7 [.d (.sl 1 (b.map byD))] (litB true) := by
  have h10 := f10_spec
  have h25 := f25_spec b
  have hv := madeT_valid 30 (b.map UInt8.toNat)
  have hlen := made_len 30 (b.map UInt8.toNat)
  generalize madeT 30 (b.map UInt8.toNat) = R at *
  have hsm := made_small hv
  have hlR : (R.map mTok).length ≤ 30 := by rw [List.length_map]; exact hlen
  have h21 := f21_spec (R.map mTok) (by omega) hsm
  have hjs : (joinS (R.map mTok)).size ≤ 2500 := by
    rw [← bs_len]
    have := joinL_len (R.map mTok)
    rw [joinS, bs_mk]; omega
  have h12 := f12_spec (joinS (R.map mTok)) (by omega)
  have hjm := join_made hv
  obtain ⟨hn, hm⟩ := lexB_join hv
  rw [← hjm] at hn hm
  obtain ⟨e1, e2, e3⟩ := lex_ok hn
  have hll := lexL_len (joinS (R.map mTok))
  rw [e3] at hll
  rw [e1, e2, e3] at h12
  have hks := toTok_KS hm
  generalize (lexB (bs (joinS (R.map mTok)))).1.map toTok = X at *
  have hlX : X.length = (R.map mTok).length := by have := congrArg List.length hks; simpa using this
  have h26 := f26_spec X (R.map mTok) (by omega)
  rw [alike_same hks, decide_eq_true hlX] at h26
  have g21 := f21_spec X (by omega) (small_of_KS hks hsm)
  have hje : joinS X = joinS (R.map mTok) := by unfold joinS; rw [joinL_congr hks]
  rw [hje] at g21
  generalize joinS (R.map mTok) = J at *
  refine spec_of_awp (fn := Try.f7) Try.func7 (by kernel_rfl) rfl ?_
  intro w0 C0
  simp only [Try.ntmps7, litI, litB, litS, List.length_cons, List.length_nil, Nat.reduceAdd, Nat.reduceSub, List.replicate_succ, List.replicate_zero, List.cons_append, List.nil_append]
  repeat' first
    | refine awp_seq ?_
    | refine awp_block ?_
    | refine awp_skip ?_
    | (refine reg _ (by (simp only [List.map_cons, List.map_nil]; rfl)) rfl ?_; intro K hK)
    | (refine awp_cond _ (by rfl) ?_ ?_ <;> (intro hb; first | (cases hb; done) | (have ht : true = true := hb; clear ht hb) | (have ht : false = false := hb; clear ht hb) | (simp only [hb]) | skip))
    | (refine awp_exit ?_; simp only [thenA, blockA, scopeA, reduceIte, RetQ, Nat.reduceEqDiff])
    | (refine awp_ret ?_; simp only [thenA, blockA, scopeA, RetQ])
    | (refine ev_nil (hK _ ?_); clear hK K)
    | (apply ev_guardU; (case hj | hu | hσ => (simp only [go_sem, beq_self_eq_true, Bool.and_self]; try rfl)))
    | (refine ev_guardT _ _ (by (simp only [go_sem, beq_self_eq_true, Bool.and_self]; rfl)) (by (simp only [go_sem, beq_self_eq_true, Bool.and_self]; rfl)) ?_ ?_ <;> (intro hb; first | (cases hb; done) | (have ht : true = true := hb; clear ht hb) | (have ht : false = false := hb; clear ht hb) | (simp only [hb]) | skip))
    | (refine ev_guardF _ _ (by (simp only [go_sem, beq_self_eq_true, Bool.and_self]; rfl)) (by (simp only [go_sem, beq_self_eq_true, Bool.and_self]; rfl)) ?_ ?_ <;> (intro hb; first | (cases hb; done) | (have ht : true = true := hb; clear ht hb) | (have ht : false = false := hb; clear ht hb) | (simp only [hb]) | skip))
    | (apply ev_call0; (case hys => (simp only [go_sem, beq_self_eq_true, Bool.and_self]; try rfl)); (case hs => first | exact h10 .. | exact h25 .. | exact h21 .. | exact h12 .. | exact h26 .. | exact g21 ..); (case hok | hσ => (simp only [go_sem, beq_self_eq_true, Bool.and_self]; try rfl)))
    | (apply ev_step0; (case hr | hσ => (simp only [go_sem, beq_self_eq_true, Bool.and_self]; try rfl)); (case hc => (first | trivial | decide | (simp only [inB, sliceOk, appendOk, rowsOk]; omega) | (simp [inB, sliceOk, appendOk, rowsOk]; omega))))
    | (apply ev_step; (case hr => (simp only [go_sem, beq_self_eq_true, Bool.and_self]; try rfl)); (case hσ => (intro g u; simp only [go_sem, beq_self_eq_true, Bool.and_self]; try rfl)); (case hc => (first | trivial | decide | (simp only [inB, sliceOk, appendOk, rowsOk]; omega) | (simp [inB, sliceOk, appendOk, rowsOk]; omega))); intro g u; (try clear u); (try clear g))
    | fail
  all_goals (refine resR_one T_ok rfl _ (by (simp only [go_sem, resA]; rfl)) (by first | trivial | (simp only [go_sem, resA])) (by first | trivial | (simp only [go_sem])) ?_; simp only [go_sem])
  exact LeA.refl _
/-- The law, for whatever reads as its arguments. -/
theorem law7_spec : ∀ dss, tyRs T 8 [41] dss → Spec Try.prog 7 (avTys T [41] dss) (.d (.lit (.bool true))) := by
  intro dss h
  obtain ⟨d0, r0, rfl, h0, h⟩ := tyRs_one h
  obtain rfl := tyRs_nil h
  obtain ⟨b, rfl⟩ := ty41 h0
  have := f7_spec b
  simp only [avTys, avTy, T41, ti41, List.map_cons, List.map_nil, List.headD_cons, if_true, Bool.false_eq_true, if_false]
  exact this
end
section
set_option linter.unusedVariables false
set_option linter.unusedSimpArgs false
open Go.RowKit
attribute [local irreducible] AWp evOps evD
theorem spS_bs (x : UInt8) : bs (spS x) = spB x.toNat := bs_mk _
theorem spB_len (n : Nat) : (spB n).length ≤ 6 := by
  have h : ∀ i, i < 7 → (spacesM.getD i []).length ≤ 6 := by decide
  exact h _ (Nat.mod_lt _ (by decide))
theorem app_size (a b : ByteArray) : (a ++ b).size = a.size + b.size := by
  rw [← bs_len, bs_app, List.length_append, bs_len, bs_len]
set_option maxHeartbeats 16000000 in
theorem f8_spec (b c : Bs) : Spec Try.prog 8 [.d (.sl 1 (b.map byD)), .d (.sl 1 (c.map byD))] (litB true) := by
  have h10 := f10_spec
  have h25 := f25_spec b
  have hv := madeT_valid 30 (b.map UInt8.toNat)
  have hlen := made_len 30 (b.map UInt8.toNat)
  generalize madeT 30 (b.map UInt8.toNat) = R at *
  obtain ⟨hn, hm⟩ := lexB_spaces (c.map UInt8.toNat) hv R.length
  have hks := toTok_KS hm
  have hlR : (R.map mTok).length = R.length := List.length_map _
  generalize hT : lay (layS (c.map UInt8.toNat) 0 R) (wsAt (c.map UInt8.toNat) R.length) = TT at *
  refine spec_of_awp (fn := Try.f8) Try.func8 (by kernel_rfl) rfl ?_
  intro w0 C0
  simp only [Try.ntmps8, litI, litB, litS, List.length_cons, List.length_nil, Nat.reduceAdd, Nat.reduceSub, List.replicate_succ, List.replicate_zero, List.cons_append, List.nil_append]
  refine awp_len 1 rfl fun hll => ?_
  simp only [List.length_map] at hll
  repeat' first
    | refine awp_seq ?_
    | refine awp_block ?_
    | refine awp_skip ?_
    | (refine reg _ (by (simp only [List.map_cons, List.map_nil]; rfl)) rfl ?_; intro K hK)
    | (refine awp_cond _ (by rfl) ?_ ?_ <;> (intro hb; first | (cases hb; done) | (have ht : true = true := hb; clear ht hb) | (have ht : false = false := hb; clear ht hb) | (simp only [hb]) | skip))
    | (refine awp_exit ?_; simp only [thenA, blockA, scopeA, reduceIte, RetQ, Nat.reduceEqDiff])
    | (refine awp_ret ?_; simp only [thenA, blockA, scopeA, RetQ])
    | (refine ev_nil (hK _ ?_); clear hK K)
    | (apply ev_guardU; (case hj | hu | hσ => (simp only [go_sem]; try rfl)))
    | (refine ev_guardT _ _ (by (simp only [go_sem]; rfl)) (by (simp only [go_sem]; rfl)) ?_ ?_ <;> (intro hb; first | (cases hb; done) | (have ht : true = true := hb; clear ht hb) | (have ht : false = false := hb; clear ht hb) | (simp only [hb]) | skip))
    | (refine ev_guardF _ _ (by (simp only [go_sem]; rfl)) (by (simp only [go_sem]; rfl)) ?_ ?_ <;> (intro hb; first | (cases hb; done) | (have ht : true = true := hb; clear ht hb) | (have ht : false = false := hb; clear ht hb) | (simp only [hb]) | skip))
    | (apply ev_call0; (case hys => (simp only [go_sem]; try rfl)); (case hs => first | exact h10 .. | exact h25 ..); (case hok | hσ => (simp only [go_sem]; try rfl)))
    | (apply ev_step0; (case hr | hσ => (simp only [go_sem]; try rfl)); (case hc => (first | trivial | decide | (simp only [inB, sliceOk, appendOk, rowsOk]; omega) | (simp [inB, sliceOk, appendOk, rowsOk]; omega))))
    | (apply ev_step; (case hr => (simp only [go_sem]; try rfl)); (case hσ => (intro g u; simp only [go_sem]; try rfl)); (case hc => (first | trivial | decide | (simp only [inB, sliceOk, appendOk, rowsOk]; omega) | (simp [inB, sliceOk, appendOk, rowsOk]; omega))); intro g u; (try clear u); (try clear g))
    | fail
  refine awp_loopI (fun j : Nat × ByteArray => j.1 ≤ R.length + 1 ∧ j.2.size ≤ 101 * j.1 ∧ TT = bs j.2 ++ (if j.1 ≤ R.length then lay (layS (c.map UInt8.toNat) j.1 (R.drop j.1)) (wsAt (c.map UInt8.toNat) R.length) else [])) (fun j => R.length + 1 - j.1) (fun j => ⟨[.any, .d (.sl 1 (c.map byD)), .any, .any, .any, litB true, .d (tksD (R.map mTok)), litS j.2, litI .i64 j.1, .any, .any, .any, .any, .any, .any, .any, .any, .any, .any, .any, .any, .any, .any, .any, .any, .any, .any, .any, .any, .any, .any, .any, .any, .any, .any, .any, .any, .any, .any, .any, .any, .any, .any, .any, .any, .any, .any, .any, .any, .any, .any, .any, .any, .any, .any, .any, .any, .any, .any, .any, .any, .any, .any, .any, .any, .any, .any, .any, .any, .any, .any, .any, .any], [.no, .no, .no, .no, .no, .no, .no, .no, .no, .no, .no, .no, .no, .no, .no, .no, .no, .no, .no, .no, .no, .no, .no, .no, .no, .no, .no, .no, .no, .no, .no, .no, .no, .no, .no, .no, .no, .no, .no, .no, .no, .no, .no, .no, .no, .no, .no, .no, .no, .no, .no, .no, .no, .no, .no, .no, .no, .no, .no, .no, .no, .no, .no, .no, .no, .no, .no, .no, .no, .no, .no, .no, .no]⟩) (0, ⟨#[]⟩) ⟨by simp, by show (0 : Nat) ≤ _; omega, by simp [hT, bs]⟩ ?_ ?_
  · refine Wk.mk ?_ ?_
    all_goals (repeat' first | exact trivial | exact LeA.refl _ | exact LeA.any _ | exact LeO.refl _ | exact LeO.no _ | exact LeA.nil _ | exact LeA.nilOwn _ | exact LeO.nil _ _ _ | refine LeO.box ?_ | (refine LeA.i ?_; (first | rfl | (push_cast; rfl) | (rw [wrap_id (by omega)]; push_cast; omega) | (simp [wrap_id]; omega))) | refine ⟨?_, ?_⟩)
  rintro ⟨i, sv⟩ ⟨hi, hsz, hTi⟩
  simp only [litI, litB, litS] at hi hsz hTi ⊢
  by_cases h1 : i ≤ R.length
  rotate_left
  · have d1 : decide ((i : Int) ≤ (R.length : Int)) = false := decide_eq_false (by omega)
    rw [if_neg h1, List.append_nil] at hTi
    subst hTi
    have h12 := f12_spec sv (by omega)
    obtain ⟨e1, e2, e3⟩ := lex_ok hn
    have hll2 := lexL_len sv
    rw [e3] at hll2
    rw [e1, e2, e3] at h12
    generalize (lexB (bs sv)).1.map toTok = X at *
    have hlX : X.length = (R.map mTok).length := by have := congrArg List.length hks; simpa using this
    have h26 := f26_spec X (R.map mTok) (by omega)
    rw [alike_same hks, decide_eq_true hlX] at h26
    repeat' first
      | refine awp_seq ?_
      | refine awp_block ?_
      | refine awp_skip ?_
      | (refine reg _ (by (simp only [List.map_cons, List.map_nil]; rfl)) rfl ?_; intro K hK)
      | (refine awp_cond _ (by rfl) ?_ ?_ <;> (intro hb; first | (cases hb; done) | (have ht : true = true := hb; clear ht hb) | (have ht : false = false := hb; clear ht hb) | (simp only [hb]) | skip))
      | (refine awp_exit ?_; simp only [thenA, blockA, scopeA, reduceIte, RetQ, Nat.reduceEqDiff])
      | (refine awp_ret ?_; simp only [thenA, blockA, scopeA, RetQ])
      | (refine ev_nil (hK _ ?_); clear hK K)
      | (apply ev_guardU; (case hj | hu | hσ => (simp only [go_sem, d1, beq_self_eq_true, Bool.and_self]; try rfl)))
      | (refine ev_guardT _ _ (by (simp only [go_sem, d1, beq_self_eq_true, Bool.and_self]; rfl)) (by (simp only [go_sem, d1, beq_self_eq_true, Bool.and_self]; rfl)) ?_ ?_ <;> (intro hb; first | (cases hb; done) | (have ht : true = true := hb; clear ht hb) | (have ht : false = false := hb; clear ht hb) | (simp only [hb]) | skip))
      | (refine ev_guardF _ _ (by (simp only [go_sem, d1, beq_self_eq_true, Bool.and_self]; rfl)) (by (simp only [go_sem, d1, beq_self_eq_true, Bool.and_self]; rfl)) ?_ ?_ <;> (intro hb; first | (cases hb; done) | (have ht : true = true := hb; clear ht hb) | (have ht : false = false := hb; clear ht hb) | (simp only [hb]) | skip))
      | (apply ev_call0; (case hys => (simp only [go_sem, d1, beq_self_eq_true, Bool.and_self]; try rfl)); (case hs => first | exact h12 .. | exact h26 ..); (case hok | hσ => (simp only [go_sem, d1, beq_self_eq_true, Bool.and_self]; try rfl)))
      | (apply ev_step0; (case hr | hσ => (simp only [go_sem, d1, beq_self_eq_true, Bool.and_self]; try rfl)); (case hc => (first | trivial | decide | (simp only [inB, sliceOk, appendOk, rowsOk]; omega) | (simp [inB, sliceOk, appendOk, rowsOk]; omega))))
      | (apply ev_step; (case hr => (simp only [go_sem, d1, beq_self_eq_true, Bool.and_self]; try rfl)); (case hσ => (intro g u; simp only [go_sem, d1, beq_self_eq_true, Bool.and_self]; try rfl)); (case hc => (first | trivial | decide | (simp only [inB, sliceOk, appendOk, rowsOk]; omega) | (simp [inB, sliceOk, appendOk, rowsOk]; omega))); intro g u; (try clear u); (try clear g))
      | fail
    all_goals (refine resR_one T_ok rfl _ (by (simp only [go_sem, resA]; rfl)) (by first | trivial | (simp only [go_sem, resA])) (by first | trivial | (simp only [go_sem])) ?_; simp only [go_sem])
    exact LeA.refl _
  have d1 : decide ((i : Int) ≤ (R.length : Int)) = true := decide_eq_true (by omega)
  rw [if_pos h1] at hTi
  have sp0 : bs sv = bs sv ++ spTo (c.map UInt8.toNat) i 0 := by simp [spTo]
  repeat' first
    | refine awp_seq ?_
    | refine awp_block ?_
    | refine awp_skip ?_
    | (refine reg _ (by (simp only [List.map_cons, List.map_nil]; rfl)) rfl ?_; intro K hK)
    | (refine awp_cond _ (by rfl) ?_ ?_ <;> (intro hb; first | (cases hb; done) | (have ht : true = true := hb; clear ht hb) | (have ht : false = false := hb; clear ht hb) | (simp only [hb]) | skip))
    | (refine awp_exit ?_; simp only [thenA, blockA, scopeA, reduceIte, RetQ, Nat.reduceEqDiff])
    | (refine awp_ret ?_; simp only [thenA, blockA, scopeA, RetQ])
    | (refine ev_nil (hK _ ?_); clear hK K)
    | (apply ev_guardU; (case hj | hu | hσ => (simp only [go_sem, d1]; try rfl)))
    | (refine ev_guardT _ _ (by (simp only [go_sem, d1]; rfl)) (by (simp only [go_sem, d1]; rfl)) ?_ ?_ <;> (intro hb; first | (cases hb; done) | (have ht : true = true := hb; clear ht hb) | (have ht : false = false := hb; clear ht hb) | (simp only [hb]) | skip))
    | (refine ev_guardF _ _ (by (simp only [go_sem, d1]; rfl)) (by (simp only [go_sem, d1]; rfl)) ?_ ?_ <;> (intro hb; first | (cases hb; done) | (have ht : true = true := hb; clear ht hb) | (have ht : false = false := hb; clear ht hb) | (simp only [hb]) | skip))
    | (apply ev_step0; (case hr | hσ => (simp only [go_sem, d1]; try rfl)); (case hc => (first | trivial | decide | (simp only [inB, sliceOk, appendOk, rowsOk]; omega) | (simp [inB, sliceOk, appendOk, rowsOk]; omega))))
    | (apply ev_step; (case hr => (simp only [go_sem, d1]; try rfl)); (case hσ => (intro g u; simp only [go_sem, d1]; try rfl)); (case hc => (first | trivial | decide | (simp only [inB, sliceOk, appendOk, rowsOk]; omega) | (simp [inB, sliceOk, appendOk, rowsOk]; omega))); intro g u; (try clear u); (try clear g))
    | fail
  refine awp_loopI (fun j : Nat × ByteArray => j.1 ≤ 3 ∧ j.1 ≤ c.length ∧ j.2.size ≤ 101 * i + 6 * j.1 ∧ bs j.2 = bs sv ++ spTo (c.map UInt8.toNat) i j.1) (fun j => 3 - j.1) (fun j => ⟨[.any, .d (.sl 1 (c.map byD)), .any, .any, .any, litB true, .d (tksD (R.map mTok)), litS j.2, litI .i64 i, litI .i64 j.1, .any, .any, .any, .any, .any, .any, .any, .any, .any, .any, .any, .any, .any, .any, .any, .any, .any, .any, .any, .any, .any, .any, .any, .any, .any, .any, .any, .any, .any, .any, .any, .any, .any, .any, .any, .any, .any, .any, .any, .any, .any, .any, .any, .any, .any, .any, .any, .any, .any, .any, .any, .any, .any, .any, .any, .any, .any, .any, .any, .any, .any, .any, .any], [.no, .no, .no, .no, .no, .no, .no, .no, .no, .no, .no, .no, .no, .no, .no, .no, .no, .no, .no, .no, .no, .no, .no, .no, .no, .no, .no, .no, .no, .no, .no, .no, .no, .no, .no, .no, .no, .no, .no, .no, .no, .no, .no, .no, .no, .no, .no, .no, .no, .no, .no, .no, .no, .no, .no, .no, .no, .no, .no, .no, .no, .no, .no, .no, .no, .no, .no, .no, .no, .no, .no, .no, .no]⟩) (0, sv) ⟨by simp, by simp, by simp only; omega, sp0⟩ ?_ ?_
  · refine Wk.mk ?_ ?_
    all_goals (repeat' first | exact trivial | exact LeA.refl _ | exact LeA.any _ | exact LeO.refl _ | exact LeO.no _ | exact LeA.nil _ | exact LeA.nilOwn _ | exact LeO.nil _ _ _ | refine LeO.box ?_ | (refine LeA.i ?_; (first | rfl | (push_cast; rfl) | (rw [wrap_id (by omega)]; push_cast; omega) | (simp [wrap_id]; omega))) | refine ⟨?_, ?_⟩)
  rintro ⟨k, sk⟩ ⟨hk, hkc, hkz, hkb⟩
  simp only [litI, litB, litS] at hk hkc hkz hkb ⊢
  by_cases h2 : k < 3 ∧ k < c.length
  · obtain ⟨h3, h4⟩ := h2
    have d2 : decide ((k : Int) < 3) = true := decide_eq_true (by omega)
    have d3 : decide ((k : Int) < (c.length : Int)) = true := decide_eq_true (by omega)
    have hmod : (3 * i + k) % c.length < c.length := Nat.mod_lt _ (by omega)
    have w1 : IntKind.i64.wrap (3 * (i : Int)) = ((3 * i : Nat) : Int) := by rw [wrap_id (by omega)]; push_cast; rfl
    have w2 : IntKind.i64.wrap (((3 * i : Nat) : Int) + (k : Int)) = ((3 * i + k : Nat) : Int) := by rw [wrap_id (by omega)]; push_cast; rfl
    have w3 : ((3 * i + k : Nat) : Int).tmod (c.length : Int) = (((3 * i + k) % c.length : Nat) : Int) := tmod_nat _ _
    have w4 : IntKind.i64.wrap ((k : Int) + 1) = ((k + 1 : Nat) : Int) := by rw [wrap_id (by omega)]; push_cast; rfl
    have hx := byte_at c hmod
    have hgd : (c.map UInt8.toNat).getD ((3 * i + k) % (c.map UInt8.toNat).length) 0 = (c.getD ((3 * i + k) % c.length) 0).toNat := by
      rw [List.length_map]
      simp [List.getD_eq_getElem?_getD, hmod]
    have hst : spTo (c.map UInt8.toNat) i (k + 1) = spTo (c.map UInt8.toNat) i k ++ spB (c.getD ((3 * i + k) % c.length) 0).toNat := by
      show spTo _ i k ++ spB _ = _
      rw [hgd]
    generalize c.getD ((3 * i + k) % c.length) 0 = x at *
    have h27 := f27_spec x
    have hbx := spS_bs x
    have hzx : (spS x).size ≤ 6 := by rw [← bs_len, hbx]; exact spB_len _
    generalize spS x = sx at *
    have hz2 := app_size sk sx
    generalize (3 * i + k) % c.length = q at *
    repeat' first
      | refine awp_seq ?_
      | refine awp_block ?_
      | refine awp_skip ?_
      | (refine reg _ (by (simp only [List.map_cons, List.map_nil]; rfl)) rfl ?_; intro K hK)
      | (refine awp_cond _ (by rfl) ?_ ?_ <;> (intro hb; first | (cases hb; done) | (have ht : true = true := hb; clear ht hb) | (have ht : false = false := hb; clear ht hb) | (simp only [hb]) | skip))
      | (refine awp_exit ?_; simp only [thenA, blockA, scopeA, reduceIte, RetQ, Nat.reduceEqDiff])
      | (refine awp_ret ?_; simp only [thenA, blockA, scopeA, RetQ])
      | (refine ev_nil (hK _ ?_); clear hK K)
      | (apply ev_guardU; (case hj | hu | hσ => (simp only [go_sem, d2, d3, w1, w2, w3, w4, hx]; try rfl)))
      | (refine ev_guardT _ _ (by (simp only [go_sem, d2, d3, w1, w2, w3, w4, hx]; rfl)) (by (simp only [go_sem, d2, d3, w1, w2, w3, w4, hx]; rfl)) ?_ ?_ <;> (intro hb; first | (cases hb; done) | (have ht : true = true := hb; clear ht hb) | (have ht : false = false := hb; clear ht hb) | (simp only [hb]) | skip))
      | (refine ev_guardF _ _ (by (simp only [go_sem, d2, d3, w1, w2, w3, w4, hx]; rfl)) (by (simp only [go_sem, d2, d3, w1, w2, w3, w4, hx]; rfl)) ?_ ?_ <;> (intro hb; first | (cases hb; done) | (have ht : true = true := hb; clear ht hb) | (have ht : false = false := hb; clear ht hb) | (simp only [hb]) | skip))
      | (apply ev_call0; (case hys => (simp only [go_sem, d2, d3, w1, w2, w3, w4, hx]; try rfl)); (case hs => first | exact h27 ..); (case hok | hσ => (simp only [go_sem, d2, d3, w1, w2, w3, w4, hx]; try rfl)))
      | (apply ev_step0; (case hr | hσ => (simp only [go_sem, d2, d3, w1, w2, w3, w4, hx]; try rfl)); (case hc => (first | trivial | decide | (simp only [inB, sliceOk, appendOk, rowsOk]; omega) | (simp [inB, sliceOk, appendOk, rowsOk]; omega))))
      | (apply ev_step; (case hr => (simp only [go_sem, d2, d3, w1, w2, w3, w4, hx]; try rfl)); (case hσ => (intro g u; simp only [go_sem, d2, d3, w1, w2, w3, w4, hx]; try rfl)); (case hc => (first | trivial | decide | (simp only [inB, sliceOk, appendOk, rowsOk]; omega) | (simp [inB, sliceOk, appendOk, rowsOk]; omega))); intro g u; (try clear u); (try clear g))
      | fail
    refine Exists.intro (k + 1, sk ++ sx) ⟨⟨by simp only; omega, by simp only; omega, by simp only; omega, by rw [bs_app, hkb, hbx, hst, List.append_assoc]⟩, by simp only; omega, ?_⟩
    refine Wk.mk ?_ ?_
    all_goals (repeat' first | exact trivial | exact LeA.refl _ | exact LeA.any _ | exact LeO.refl _ | exact LeO.no _ | exact LeA.nil _ | exact LeA.nilOwn _ | exact LeO.nil _ _ _ | refine LeO.box ?_ | (refine LeA.i ?_; (first | rfl | (push_cast; rfl) | (rw [wrap_id (by omega)]; push_cast; omega) | (simp [wrap_id]; omega))) | refine ⟨?_, ?_⟩)
  · have hmin : k = min 3 (c.map UInt8.toNat).length := by rw [List.length_map]; omega
    have hws : bs (sk ++ ⟨#[32]⟩) = bs sv ++ wsAt (c.map UInt8.toNat) i := by
      rw [bs_app, hkb, hmin, wsAt, List.append_assoc]
    have hz1 := app_size sk ⟨#[32]⟩
    have hz1' : (sk ++ ⟨#[32]⟩ : ByteArray).size ≤ 101 * i + 19 := by
      rw [hz1]; show sk.size + 1 ≤ _; omega
    have hc0 : sk.size + (⟨#[32]⟩ : ByteArray).size ≤ 9223372036854775807 := by show sk.size + 1 ≤ _; omega
    have w5 : IntKind.i64.wrap ((i : Int) + 1) = ((i + 1 : Nat) : Int) := by rw [wrap_id (by omega)]; push_cast; rfl
    generalize hsw : sk ++ ⟨#[32]⟩ = sw at *
    obtain ⟨b2, d2⟩ : ∃ b, decide ((k : Int) < 3) = b := ⟨_, rfl⟩
    obtain ⟨b3, d3⟩ : ∃ b, decide ((k : Int) < (c.length : Int)) = b := ⟨_, rfl⟩
    have hbb : b2 = true → b3 = false := fun h => by
      rw [h] at d2
      have := of_decide_eq_true d2
      rw [← d3]
      exact decide_eq_false (by omega)
    by_cases h5 : i < R.length
    · have d4 : decide ((i : Int) < (R.length : Int)) = true := decide_eq_true (by omega)
      have hx := tks_at (R.map mTok) (i := i) (by omega)
      have hgd : (R.map mTok).getD i tkN = mTok (R.getD i (0, [])) := by simp [List.getD_eq_getElem?_getD, h5]
      have hdr : R.drop i = R.getD i (0, []) :: R.drop (i + 1) := by
        rw [List.drop_eq_getElem_cons h5]; simp [List.getD_eq_getElem?_getD, h5]
      have hvx := hv (R.getD i (0, [])) (by
        rw [List.getD_eq_getElem?_getD, List.getElem?_eq_getElem h5]
        exact List.getElem_mem h5)
      rw [hdr] at hTi
      simp only [layS, lay] at hTi
      rw [hgd] at hx
      generalize R.getD i (0, []) = t at *
      have hvl := valid_len hvx
      have h15 := f15_spec (t.1 : Int) ⟨t.2.toArray⟩ 0
      have h17 := f17_spec (t.1 : Int) ⟨t.2.toArray⟩ 0 (by rw [← bs_len, bs_mk]; omega)
      have hsz2 : spellZ (t.1 : Int) (bs ⟨t.2.toArray⟩) = spellB t.1 t.2 := by
        rw [bs_mk]
        unfold spellZ
        have : validZ (t.1 : Int) t.2 = true := hvx
        rw [if_pos this]; rfl
      have hsl := @spell_len (t.1 : Int) (bs ⟨t.2.toArray⟩)
      rw [hsz2] at h17 hsl
      have hzp : (⟨(spellB t.1 t.2).toArray⟩ : ByteArray).size ≤ 82 := by rw [← bs_len, bs_mk]; exact hsl
      have hbp : bs ⟨(spellB t.1 t.2).toArray⟩ = spellB t.1 t.2 := bs_mk _
      simp only [mTok, tkD] at hx
      generalize (⟨(spellB t.1 t.2).toArray⟩ : ByteArray) = sp at *
      have hz3 := app_size sw sp
      have hnext : i + 1 ≤ R.length + 1 ∧ (sw ++ sp).size ≤ 101 * (i + 1) ∧ TT = bs (sw ++ sp) ++ (if i + 1 ≤ R.length then lay (layS (c.map UInt8.toNat) (i + 1) (R.drop (i + 1))) (wsAt (c.map UInt8.toNat) R.length) else []) := by
        refine ⟨by omega, by omega, ?_⟩
        rw [if_pos (by omega), bs_app, hws, hbp, hTi]
        simp [List.append_assoc]
      have hcond : sw.size + sp.size ≤ 9223372036854775807 := by omega
      cases b2
      · repeat' first
          | refine awp_seq ?_
          | refine awp_block ?_
          | refine awp_skip ?_
          | (refine reg _ (by (simp only [List.map_cons, List.map_nil]; rfl)) rfl ?_; intro K hK)
          | (refine awp_cond _ (by rfl) ?_ ?_ <;> (intro hb; first | (cases hb; done) | (have ht : true = true := hb; clear ht hb) | (have ht : false = false := hb; clear ht hb) | (simp only [hb]) | skip))
          | (refine awp_exit ?_; simp only [thenA, blockA, scopeA, reduceIte, RetQ, Nat.reduceEqDiff])
          | (refine awp_ret ?_; simp only [thenA, blockA, scopeA, RetQ])
          | (refine ev_nil (hK _ ?_); clear hK K)
          | (apply ev_guardU; (case hj | hu | hσ => (simp only [go_sem, d2, d3, d4, hx, w5, hsw]; try rfl)))
          | (refine ev_guardT _ _ (by (simp only [go_sem, d2, d3, d4, hx, w5, hsw]; rfl)) (by (simp only [go_sem, d2, d3, d4, hx, w5, hsw]; rfl)) ?_ ?_ <;> (intro hb; first | (cases hb; done) | (have ht : true = true := hb; clear ht hb) | (have ht : false = false := hb; clear ht hb) | (simp only [hb]) | skip))
          | (refine ev_guardF _ _ (by (simp only [go_sem, d2, d3, d4, hx, w5, hsw]; rfl)) (by (simp only [go_sem, d2, d3, d4, hx, w5, hsw]; rfl)) ?_ ?_ <;> (intro hb; first | (cases hb; done) | (have ht : true = true := hb; clear ht hb) | (have ht : false = false := hb; clear ht hb) | (simp only [hb]) | skip))
          | (apply ev_call0; (case hys => (simp only [go_sem, d2, d3, d4, hx, w5, hsw]; try rfl)); (case hs => first | exact h15 .. | exact h17 ..); (case hok | hσ => (simp only [go_sem, d2, d3, d4, hx, w5, hsw]; try rfl)))
          | (apply ev_step0; (case hr | hσ => (simp only [go_sem, d2, d3, d4, hx, w5, hsw]; try rfl)); (case hc => (first | trivial | decide | (simp only [inB, sliceOk, appendOk, rowsOk]; omega) | (simp [inB, sliceOk, appendOk, rowsOk]; omega))))
          | (apply ev_step; (case hr => (simp only [go_sem, d2, d3, d4, hx, w5, hsw]; try rfl)); (case hσ => (intro g u; simp only [go_sem, d2, d3, d4, hx, w5, hsw]; try rfl)); (case hc => (first | trivial | decide | (simp only [inB, sliceOk, appendOk, rowsOk]; omega) | (simp [inB, sliceOk, appendOk, rowsOk]; omega))); intro g u; (try clear u); (try clear g))
          | fail
        refine Exists.intro (i + 1, sw ++ sp) ⟨hnext, by simp only; omega, ?_⟩
        refine Wk.mk ?_ ?_
        all_goals (repeat' first | exact trivial | exact LeA.refl _ | exact LeA.any _ | exact LeO.refl _ | exact LeO.no _ | exact LeA.nil _ | exact LeA.nilOwn _ | exact LeO.nil _ _ _ | refine LeO.box ?_ | (refine LeA.i ?_; (first | rfl | (push_cast; rfl) | (rw [wrap_id (by omega)]; push_cast; omega) | (simp [wrap_id]; omega))) | refine ⟨?_, ?_⟩)
      · obtain rfl := hbb rfl
        repeat' first
          | refine awp_seq ?_
          | refine awp_block ?_
          | refine awp_skip ?_
          | (refine reg _ (by (simp only [List.map_cons, List.map_nil]; rfl)) rfl ?_; intro K hK)
          | (refine awp_cond _ (by rfl) ?_ ?_ <;> (intro hb; first | (cases hb; done) | (have ht : true = true := hb; clear ht hb) | (have ht : false = false := hb; clear ht hb) | (simp only [hb]) | skip))
          | (refine awp_exit ?_; simp only [thenA, blockA, scopeA, reduceIte, RetQ, Nat.reduceEqDiff])
          | (refine awp_ret ?_; simp only [thenA, blockA, scopeA, RetQ])
          | (refine ev_nil (hK _ ?_); clear hK K)
          | (apply ev_guardU; (case hj | hu | hσ => (simp only [go_sem, d2, d3, d4, hx, w5, hsw]; try rfl)))
          | (refine ev_guardT _ _ (by (simp only [go_sem, d2, d3, d4, hx, w5, hsw]; rfl)) (by (simp only [go_sem, d2, d3, d4, hx, w5, hsw]; rfl)) ?_ ?_ <;> (intro hb; first | (cases hb; done) | (have ht : true = true := hb; clear ht hb) | (have ht : false = false := hb; clear ht hb) | (simp only [hb]) | skip))
          | (refine ev_guardF _ _ (by (simp only [go_sem, d2, d3, d4, hx, w5, hsw]; rfl)) (by (simp only [go_sem, d2, d3, d4, hx, w5, hsw]; rfl)) ?_ ?_ <;> (intro hb; first | (cases hb; done) | (have ht : true = true := hb; clear ht hb) | (have ht : false = false := hb; clear ht hb) | (simp only [hb]) | skip))
          | (apply ev_call0; (case hys => (simp only [go_sem, d2, d3, d4, hx, w5, hsw]; try rfl)); (case hs => first | exact h15 .. | exact h17 ..); (case hok | hσ => (simp only [go_sem, d2, d3, d4, hx, w5, hsw]; try rfl)))
          | (apply ev_step0; (case hr | hσ => (simp only [go_sem, d2, d3, d4, hx, w5, hsw]; try rfl)); (case hc => (first | trivial | decide | (simp only [inB, sliceOk, appendOk, rowsOk]; omega) | (simp [inB, sliceOk, appendOk, rowsOk]; omega))))
          | (apply ev_step; (case hr => (simp only [go_sem, d2, d3, d4, hx, w5, hsw]; try rfl)); (case hσ => (intro g u; simp only [go_sem, d2, d3, d4, hx, w5, hsw]; try rfl)); (case hc => (first | trivial | decide | (simp only [inB, sliceOk, appendOk, rowsOk]; omega) | (simp [inB, sliceOk, appendOk, rowsOk]; omega))); intro g u; (try clear u); (try clear g))
          | fail
        refine Exists.intro (i + 1, sw ++ sp) ⟨hnext, by simp only; omega, ?_⟩
        refine Wk.mk ?_ ?_
        all_goals (repeat' first | exact trivial | exact LeA.refl _ | exact LeA.any _ | exact LeO.refl _ | exact LeO.no _ | exact LeA.nil _ | exact LeA.nilOwn _ | exact LeO.nil _ _ _ | refine LeO.box ?_ | (refine LeA.i ?_; (first | rfl | (push_cast; rfl) | (rw [wrap_id (by omega)]; push_cast; omega) | (simp [wrap_id]; omega))) | refine ⟨?_, ?_⟩)
    · have d4 : decide ((i : Int) < (R.length : Int)) = false := decide_eq_false (by omega)
      have hie : i = R.length := by omega
      have hnext : i + 1 ≤ R.length + 1 ∧ sw.size ≤ 101 * (i + 1) ∧ TT = bs sw ++ (if i + 1 ≤ R.length then lay (layS (c.map UInt8.toNat) (i + 1) (R.drop (i + 1))) (wsAt (c.map UInt8.toNat) R.length) else []) := by
        refine ⟨by omega, by omega, ?_⟩
        rw [if_neg (by omega), List.append_nil, hTi, hws, hie, List.drop_length]
        rfl
      cases b2
      · repeat' first
          | refine awp_seq ?_
          | refine awp_block ?_
          | refine awp_skip ?_
          | (refine reg _ (by (simp only [List.map_cons, List.map_nil]; rfl)) rfl ?_; intro K hK)
          | (refine awp_cond _ (by rfl) ?_ ?_ <;> (intro hb; first | (cases hb; done) | (have ht : true = true := hb; clear ht hb) | (have ht : false = false := hb; clear ht hb) | (simp only [hb]) | skip))
          | (refine awp_exit ?_; simp only [thenA, blockA, scopeA, reduceIte, RetQ, Nat.reduceEqDiff])
          | (refine awp_ret ?_; simp only [thenA, blockA, scopeA, RetQ])
          | (refine ev_nil (hK _ ?_); clear hK K)
          | (apply ev_guardU; (case hj | hu | hσ => (simp only [go_sem, d2, d3, d4, w5, hsw]; try rfl)))
          | (refine ev_guardT _ _ (by (simp only [go_sem, d2, d3, d4, w5, hsw]; rfl)) (by (simp only [go_sem, d2, d3, d4, w5, hsw]; rfl)) ?_ ?_ <;> (intro hb; first | (cases hb; done) | (have ht : true = true := hb; clear ht hb) | (have ht : false = false := hb; clear ht hb) | (simp only [hb]) | skip))
          | (refine ev_guardF _ _ (by (simp only [go_sem, d2, d3, d4, w5, hsw]; rfl)) (by (simp only [go_sem, d2, d3, d4, w5, hsw]; rfl)) ?_ ?_ <;> (intro hb; first | (cases hb; done) | (have ht : true = true := hb; clear ht hb) | (have ht : false = false := hb; clear ht hb) | (simp only [hb]) | skip))
          | (apply ev_step0; (case hr | hσ => (simp only [go_sem, d2, d3, d4, w5, hsw]; try rfl)); (case hc => (first | trivial | decide | (simp only [inB, sliceOk, appendOk, rowsOk]; omega) | (simp [inB, sliceOk, appendOk, rowsOk]; omega))))
          | (apply ev_step; (case hr => (simp only [go_sem, d2, d3, d4, w5, hsw]; try rfl)); (case hσ => (intro g u; simp only [go_sem, d2, d3, d4, w5, hsw]; try rfl)); (case hc => (first | trivial | decide | (simp only [inB, sliceOk, appendOk, rowsOk]; omega) | (simp [inB, sliceOk, appendOk, rowsOk]; omega))); intro g u; (try clear u); (try clear g))
          | fail
        refine Exists.intro (i + 1, sw) ⟨hnext, by simp only; omega, ?_⟩
        refine Wk.mk ?_ ?_
        all_goals (repeat' first | exact trivial | exact LeA.refl _ | exact LeA.any _ | exact LeO.refl _ | exact LeO.no _ | exact LeA.nil _ | exact LeA.nilOwn _ | exact LeO.nil _ _ _ | refine LeO.box ?_ | (refine LeA.i ?_; (first | rfl | (push_cast; rfl) | (rw [wrap_id (by omega)]; push_cast; omega) | (simp [wrap_id]; omega))) | refine ⟨?_, ?_⟩)
      · obtain rfl := hbb rfl
        repeat' first
          | refine awp_seq ?_
          | refine awp_block ?_
          | refine awp_skip ?_
          | (refine reg _ (by (simp only [List.map_cons, List.map_nil]; rfl)) rfl ?_; intro K hK)
          | (refine awp_cond _ (by rfl) ?_ ?_ <;> (intro hb; first | (cases hb; done) | (have ht : true = true := hb; clear ht hb) | (have ht : false = false := hb; clear ht hb) | (simp only [hb]) | skip))
          | (refine awp_exit ?_; simp only [thenA, blockA, scopeA, reduceIte, RetQ, Nat.reduceEqDiff])
          | (refine awp_ret ?_; simp only [thenA, blockA, scopeA, RetQ])
          | (refine ev_nil (hK _ ?_); clear hK K)
          | (apply ev_guardU; (case hj | hu | hσ => (simp only [go_sem, d2, d3, d4, w5, hsw]; try rfl)))
          | (refine ev_guardT _ _ (by (simp only [go_sem, d2, d3, d4, w5, hsw]; rfl)) (by (simp only [go_sem, d2, d3, d4, w5, hsw]; rfl)) ?_ ?_ <;> (intro hb; first | (cases hb; done) | (have ht : true = true := hb; clear ht hb) | (have ht : false = false := hb; clear ht hb) | (simp only [hb]) | skip))
          | (refine ev_guardF _ _ (by (simp only [go_sem, d2, d3, d4, w5, hsw]; rfl)) (by (simp only [go_sem, d2, d3, d4, w5, hsw]; rfl)) ?_ ?_ <;> (intro hb; first | (cases hb; done) | (have ht : true = true := hb; clear ht hb) | (have ht : false = false := hb; clear ht hb) | (simp only [hb]) | skip))
          | (apply ev_step0; (case hr | hσ => (simp only [go_sem, d2, d3, d4, w5, hsw]; try rfl)); (case hc => (first | trivial | decide | (simp only [inB, sliceOk, appendOk, rowsOk]; omega) | (simp [inB, sliceOk, appendOk, rowsOk]; omega))))
          | (apply ev_step; (case hr => (simp only [go_sem, d2, d3, d4, w5, hsw]; try rfl)); (case hσ => (intro g u; simp only [go_sem, d2, d3, d4, w5, hsw]; try rfl)); (case hc => (first | trivial | decide | (simp only [inB, sliceOk, appendOk, rowsOk]; omega) | (simp [inB, sliceOk, appendOk, rowsOk]; omega))); intro g u; (try clear u); (try clear g))
          | fail
        refine Exists.intro (i + 1, sw) ⟨hnext, by simp only; omega, ?_⟩
        refine Wk.mk ?_ ?_
        all_goals (repeat' first | exact trivial | exact LeA.refl _ | exact LeA.any _ | exact LeO.refl _ | exact LeO.no _ | exact LeA.nil _ | exact LeA.nilOwn _ | exact LeO.nil _ _ _ | refine LeO.box ?_ | (refine LeA.i ?_; (first | rfl | (push_cast; rfl) | (rw [wrap_id (by omega)]; push_cast; omega) | (simp [wrap_id]; omega))) | refine ⟨?_, ?_⟩)
/-- The law, for whatever reads as its arguments. -/
theorem law8_spec : ∀ dss, tyRs T 8 [41, 41] dss → Spec Try.prog 8 (avTys T [41, 41] dss) (.d (.lit (.bool true))) := by
  intro dss h
  obtain ⟨d0, r0, rfl, h0, h⟩ := tyRs_one h
  obtain ⟨d1, r1, rfl, h1, h⟩ := tyRs_one h
  obtain rfl := tyRs_nil h
  obtain ⟨b, rfl⟩ := ty41 h0
  obtain ⟨c, rfl⟩ := ty41 h1
  have := f8_spec b c
  simp only [avTys, avTy, T41, ti41, List.map_cons, List.map_nil, List.headD_cons, if_true, Bool.false_eq_true, if_false]
  exact this
end
section
set_option linter.unusedVariables false
set_option linter.unusedSimpArgs false
open Go.RowKit
attribute [local irreducible] AWp evOps evD
theorem toks_at (L : List Tk) {i : Nat} (h : i < L.length) : (L.map toTok).getD i tkN = toTok (L.getD i (0, [], 0)) := by
  simp [List.getD_eq_getElem?_getD, h]
theorem tks_drop (L : List Tk) {i : Nat} (h : i < L.length) : L.drop i = L.getD i (0, [], 0) :: L.drop (i + 1) := by
  rw [List.drop_eq_getElem_cons h]; simp [List.getD_eq_getElem?_getD, h]
theorem blank_of (s : ByteArray) (a b : Nat) (hb : b ≤ s.size) (h : skipF false (((bs s).drop a).take (b - a)) = b - a) (hab : a ≤ b) : (((skipF false (bs (s.extract a b)) : Nat) : Int) == ((s.extract a b).size : Int)) = true := by
  have hl : (s.extract a b).size = b - a := by rw [← bs_len, bs_sub, List.length_take, List.length_drop, bs_len]; omega
  rw [bs_sub, h, hl, beq_self_eq_true]
theorem ba_eq {x : ByteArray} {l : Bs} (h : bs x = l) : x = ⟨l.toArray⟩ := by rw [← h]
set_option maxHeartbeats 16000000 in
set_option maxRecDepth 100000 in
theorem f6_spec (s : ByteArray) (hs : s.size ≤ 9223372036854775807) : Spec Try.prog 6 [litS s] (litB true) := by
  have h10 := f10_spec
  have h11 := f11_nil s hs
  by_cases h1 : s.size ≤ 2000
  rotate_left
  · rw [decide_eq_false (by omega)] at h11
    refine spec_of_awp (fn := Try.f6) Try.func6 (by kernel_rfl) rfl ?_
    intro w0 C0
    simp only [Try.ntmps6, litI, litB, litS, List.length_cons, List.length_nil, Nat.reduceAdd, Nat.reduceSub, List.replicate_succ, List.replicate_zero, List.cons_append, List.nil_append]
    repeat' first
      | refine awp_seq ?_
      | refine awp_block ?_
      | refine awp_skip ?_
      | (refine reg _ (by (simp only [List.map_cons, List.map_nil]; rfl)) rfl ?_; intro K hK)
      | (refine awp_cond _ (by rfl) ?_ ?_ <;> (intro hb; first | (cases hb; done) | (have ht : true = true := hb; clear ht hb) | (have ht : false = false := hb; clear ht hb) | (simp only [hb]) | skip))
      | (refine awp_exit ?_; simp only [thenA, blockA, scopeA, reduceIte, RetQ, Nat.reduceEqDiff])
      | (refine awp_ret ?_; simp only [thenA, blockA, scopeA, RetQ])
      | (refine ev_nil (hK _ ?_); clear hK K)
      | (apply ev_guardU; (case hj | hu | hσ => (simp only [go_sem]; try rfl)))
      | (refine ev_guardT _ _ (by (simp only [go_sem]; rfl)) (by (simp only [go_sem]; rfl)) ?_ ?_ <;> (intro hb; first | (cases hb; done) | (have ht : true = true := hb; clear ht hb) | (have ht : false = false := hb; clear ht hb) | (simp only [hb]) | skip))
      | (refine ev_guardF _ _ (by (simp only [go_sem]; rfl)) (by (simp only [go_sem]; rfl)) ?_ ?_ <;> (intro hb; first | (cases hb; done) | (have ht : true = true := hb; clear ht hb) | (have ht : false = false := hb; clear ht hb) | (simp only [hb]) | skip))
      | (apply ev_call0; (case hys => (simp only [go_sem]; try rfl)); (case hs => first | exact h10 .. | exact h11 ..); (case hok | hσ => (simp only [go_sem]; try rfl)))
      | (apply ev_step0; (case hr | hσ => (simp only [go_sem]; try rfl)); (case hc => (first | trivial | decide | (simp only [inB, sliceOk, appendOk, rowsOk]; omega) | (simp [inB, sliceOk, appendOk, rowsOk]; omega))))
      | (apply ev_step; (case hr => (simp only [go_sem]; try rfl)); (case hσ => (intro g u; simp only [go_sem]; try rfl)); (case hc => (first | trivial | decide | (simp only [inB, sliceOk, appendOk, rowsOk]; omega) | (simp [inB, sliceOk, appendOk, rowsOk]; omega))); intro g u; (try clear u); (try clear g))
      | fail
    all_goals (refine resR_one T_ok rfl _ (by (simp only [go_sem, resA]; rfl)) (by first | trivial | (simp only [go_sem, resA])) (by first | trivial | (simp only [go_sem])) ?_; simp only [go_sem])
    exact LeA.refl _
  rw [decide_eq_true (by omega)] at h11
  have h12 := f12_spec s (by omega)
  have hl := bs_len s
  cases hB : (lexB (bs s)).2 with
  | some p =>
    obtain ⟨e1, e2, e3⟩ := lex_no hB
    rw [e1, e2, e3] at h12
    obtain ⟨hp, _⟩ := lexB_err hB
    have d1 : decide ((p : Int) ≥ 0) = true := decide_eq_true (by omega)
    have d2 : decide ((p : Int) < (s.size : Int)) = true := decide_eq_true (by omega)
    refine spec_of_awp (fn := Try.f6) Try.func6 (by kernel_rfl) rfl ?_
    intro w0 C0
    simp only [Try.ntmps6, litI, litB, litS, List.length_cons, List.length_nil, Nat.reduceAdd, Nat.reduceSub, List.replicate_succ, List.replicate_zero, List.cons_append, List.nil_append]
    repeat' first
      | refine awp_seq ?_
      | refine awp_block ?_
      | refine awp_skip ?_
      | (refine reg _ (by (simp only [List.map_cons, List.map_nil]; rfl)) rfl ?_; intro K hK)
      | (refine awp_cond _ (by rfl) ?_ ?_ <;> (intro hb; first | (cases hb; done) | (have ht : true = true := hb; clear ht hb) | (have ht : false = false := hb; clear ht hb) | (simp only [hb]) | skip))
      | (refine awp_exit ?_; simp only [thenA, blockA, scopeA, reduceIte, RetQ, Nat.reduceEqDiff])
      | (refine awp_ret ?_; simp only [thenA, blockA, scopeA, RetQ])
      | (refine ev_nil (hK _ ?_); clear hK K)
      | (apply ev_guardU; (case hj | hu | hσ => (simp only [go_sem, d1, d2, beq_self_eq_true, Int.reduceBNe, Int.reduceBEq]; try rfl)))
      | (refine ev_guardT _ _ (by (simp only [go_sem, d1, d2, beq_self_eq_true, Int.reduceBNe, Int.reduceBEq]; rfl)) (by (simp only [go_sem, d1, d2, beq_self_eq_true, Int.reduceBNe, Int.reduceBEq]; rfl)) ?_ ?_ <;> (intro hb; first | (cases hb; done) | (have ht : true = true := hb; clear ht hb) | (have ht : false = false := hb; clear ht hb) | (simp only [hb]) | skip))
      | (refine ev_guardF _ _ (by (simp only [go_sem, d1, d2, beq_self_eq_true, Int.reduceBNe, Int.reduceBEq]; rfl)) (by (simp only [go_sem, d1, d2, beq_self_eq_true, Int.reduceBNe, Int.reduceBEq]; rfl)) ?_ ?_ <;> (intro hb; first | (cases hb; done) | (have ht : true = true := hb; clear ht hb) | (have ht : false = false := hb; clear ht hb) | (simp only [hb]) | skip))
      | (apply ev_call0; (case hys => (simp only [go_sem, d1, d2, beq_self_eq_true, Int.reduceBNe, Int.reduceBEq]; try rfl)); (case hs => first | exact h10 .. | exact h11 .. | exact h12 ..); (case hok | hσ => (simp only [go_sem, d1, d2, beq_self_eq_true, Int.reduceBNe, Int.reduceBEq]; try rfl)))
      | (apply ev_step0; (case hr | hσ => (simp only [go_sem, d1, d2, beq_self_eq_true, Int.reduceBNe, Int.reduceBEq]; try rfl)); (case hc => (first | trivial | decide | (simp only [inB, sliceOk, appendOk, rowsOk]; omega) | (simp [inB, sliceOk, appendOk, rowsOk]; omega))))
      | (apply ev_step; (case hr => (simp only [go_sem, d1, d2, beq_self_eq_true, Int.reduceBNe, Int.reduceBEq]; try rfl)); (case hσ => (intro g u; simp only [go_sem, d1, d2, beq_self_eq_true, Int.reduceBNe, Int.reduceBEq]; try rfl)); (case hc => (first | trivial | decide | (simp only [inB, sliceOk, appendOk, rowsOk]; omega) | (simp [inB, sliceOk, appendOk, rowsOk]; omega))); intro g u; (try clear u); (try clear g))
      | fail
    all_goals (refine resR_one T_ok rfl _ (by (simp only [go_sem, resA]; rfl)) (by first | trivial | (simp only [go_sem, resA])) (by first | trivial | (simp only [go_sem])) ?_; simp only [go_sem])
    exact LeA.refl _
  | none =>
    obtain ⟨e1, e2, e3⟩ := lex_ok hB
    rw [e1, e2, e3] at h12
    have hcov := lexB_cov hB
    have hLl : (lexB (bs s)).1.length ≤ 2001 := Nat.le_trans (lexTk_len _ _ _) (by omega)
    generalize (lexB (bs s)).1 = L at *
    refine spec_of_awp (fn := Try.f6) Try.func6 (by kernel_rfl) rfl ?_
    intro w0 C0
    simp only [Try.ntmps6, litI, litB, litS, List.length_cons, List.length_nil, Nat.reduceAdd, Nat.reduceSub, List.replicate_succ, List.replicate_zero, List.cons_append, List.nil_append]
    repeat' first
      | refine awp_seq ?_
      | refine awp_block ?_
      | refine awp_skip ?_
      | (refine reg _ (by (simp only [List.map_cons, List.map_nil]; rfl)) rfl ?_; intro K hK)
      | (refine awp_cond _ (by rfl) ?_ ?_ <;> (intro hb; first | (cases hb; done) | (have ht : true = true := hb; clear ht hb) | (have ht : false = false := hb; clear ht hb) | (simp only [hb]) | skip))
      | (refine awp_exit ?_; simp only [thenA, blockA, scopeA, reduceIte, RetQ, Nat.reduceEqDiff])
      | (refine awp_ret ?_; simp only [thenA, blockA, scopeA, RetQ])
      | (refine ev_nil (hK _ ?_); clear hK K)
      | (apply ev_guardU; (case hj | hu | hσ => (simp only [go_sem, Int.reduceBNe]; try rfl)))
      | (refine ev_guardT _ _ (by (simp only [go_sem, Int.reduceBNe]; rfl)) (by (simp only [go_sem, Int.reduceBNe]; rfl)) ?_ ?_ <;> (intro hb; first | (cases hb; done) | (have ht : true = true := hb; clear ht hb) | (have ht : false = false := hb; clear ht hb) | (simp only [hb]) | skip))
      | (refine ev_guardF _ _ (by (simp only [go_sem, Int.reduceBNe]; rfl)) (by (simp only [go_sem, Int.reduceBNe]; rfl)) ?_ ?_ <;> (intro hb; first | (cases hb; done) | (have ht : true = true := hb; clear ht hb) | (have ht : false = false := hb; clear ht hb) | (simp only [hb]) | skip))
      | (apply ev_call0; (case hys => (simp only [go_sem, Int.reduceBNe]; try rfl)); (case hs => first | exact h10 .. | exact h11 .. | exact h12 ..); (case hok | hσ => (simp only [go_sem, Int.reduceBNe]; try rfl)))
      | (apply ev_step0; (case hr | hσ => (simp only [go_sem, Int.reduceBNe]; try rfl)); (case hc => (first | trivial | decide | (simp only [inB, sliceOk, appendOk, rowsOk]; omega) | (simp [inB, sliceOk, appendOk, rowsOk]; omega))))
      | (apply ev_step; (case hr => (simp only [go_sem, Int.reduceBNe]; try rfl)); (case hσ => (intro g u; simp only [go_sem, Int.reduceBNe]; try rfl)); (case hc => (first | trivial | decide | (simp only [inB, sliceOk, appendOk, rowsOk]; omega) | (simp [inB, sliceOk, appendOk, rowsOk]; omega))); intro g u; (try clear u); (try clear g))
      | fail
    refine awp_loopI (fun j : Nat × Nat => j.1 ≤ L.length ∧ cov (bs s) j.2 (L.drop j.1)) (fun j => L.length - j.1) (fun j => ⟨[litS s, .any, .any, litB true, .ptr 4 g 0, litI .i64 j.2, litI .i64 j.1, .any, .any, .any, .any, .any, .any, .any, .any, .any, .any, .any, .any, .any, .any, .any, .any, .any, .any, .any, .any, .any, .any, .any, .any, .any, .any, .any, .any, .any, .any, .any, .any, .any, .any, .any, .any, .any, .any, .any, .any, .any, .any, .any, .any, .any, .any, .any, .any, .any, .any, .any, .any, .any, .any, .any, .any, .any, .any, .any, .any, .any, .any, .any, .any, .any, .any, .any, .any, .any, .any, .any, .any, .any, .any, .any, .any, .any, .any, .any, .any, .any, .any, .any, .any, .any, .any, .any, .any, .any, .any, .any, .any, .any, .any, .any, .any, .any, .any, .any, .any, .any, .any, .any, .any, .any, .any, .any, .any, .any, .any, .any, .any, .any, .any, .any, .any, .any, .any, .any, .any, .any], [.no, .no, .no, .no, .box g [.d (tksD (L.map toTok)), litI .i64 0, litI .i64 0], .no, .no, .no, .no, .no, .no, .no, .no, .no, .no, .no, .no, .no, .no, .no, .no, .no, .no, .no, .no, .no, .no, .no, .no, .no, .no, .no, .no, .no, .no, .no, .no, .no, .no, .no, .no, .no, .no, .no, .no, .no, .no, .no, .no, .no, .no, .no, .no, .no, .no, .no, .no, .no, .no, .no, .no, .no, .no, .no, .no, .no, .no, .no, .no, .no, .no, .no, .no, .no, .no, .no, .no, .no, .no, .no, .no, .no, .no, .no, .no, .no, .no, .no, .no, .no, .no, .no, .no, .no, .no, .no, .no, .no, .no, .no, .no, .no, .no, .no, .no, .no, .no, .no, .no, .no, .no, .no, .no, .no, .no, .no, .no, .no, .no, .no, .no, .no, .no, .no, .no, .no, .no, .no]⟩) (0, 0) ⟨by simp, hcov⟩ ?_ ?_
    · refine Wk.mk ?_ ?_
      all_goals (repeat' first | exact trivial | exact LeA.refl _ | exact LeA.any _ | exact LeO.refl _ | exact LeO.no _ | exact LeA.nil _ | exact LeA.nilOwn _ | exact LeO.nil _ _ _ | refine LeO.box ?_ | (refine LeA.i ?_; (first | rfl | (push_cast; rfl) | (rw [wrap_id (by omega)]; push_cast; omega) | (simp [wrap_id]; omega))) | refine ⟨?_, ?_⟩)
    rintro ⟨i, e⟩ ⟨hi, hc⟩
    simp only [litI, litB, litS] at hi hc ⊢
    have hlm : (L.map toTok).length = L.length := List.length_map _
    by_cases h2 : i < L.length
    · have d1 : decide ((i : Int) < (L.length : Int)) = true := decide_eq_true (by omega)
      have hx := tks_at (L.map toTok) (i := i) (by omega)
      rw [toks_at L h2] at hx
      rw [tks_drop L h2] at hc
      generalize L.getD i (0, [], 0) = t at *
      simp only [cov] at hc
      obtain ⟨c1, c2, c3, c4, c5, c6, c7⟩ := hc
      have hvl := valid_len c3
      have hz : (⟨t.2.1.toArray⟩ : ByteArray).size ≤ 1000000 := by rw [← bs_len, bs_mk]; omega
      have hvz : validZ (t.1 : Int) t.2.1 = true := c3
      have hsz2 : spellZ (t.1 : Int) t.2.1 = spellB t.1 t.2.1 := by
        unfold spellZ
        rw [if_pos hvz]; rfl
      have h15 := f15_spec (t.1 : Int) ⟨t.2.1.toArray⟩ (t.2.2 : Int)
      have h17 := f17_spec (t.1 : Int) ⟨t.2.1.toArray⟩ (t.2.2 : Int) hz
      have h16 := f16_spec (t.1 : Int) ⟨t.2.1.toArray⟩ (t.2.2 : Int) hz
      have h14 := f14_spec (t.1 : Int) ⟨t.2.1.toArray⟩ (t.2.2 : Int) hz
      rw [bs_mk, hvz] at h14 h16
      rw [bs_mk, hsz2] at h17
      have hn : (⟨(spellB t.1 t.2.1).toArray⟩ : ByteArray).size = (spellB t.1 t.2.1).length := by rw [← bs_len, bs_mk]
      have heq : s.extract t.2.2 (t.2.2 + (spellB t.1 t.2.1).length) = ⟨(spellB t.1 t.2.1).toArray⟩ := by
        have h5 : bs (s.extract t.2.2 (t.2.2 + (spellB t.1 t.2.1).length)) = spellB t.1 t.2.1 := by
          rw [bs_sub, Nat.add_sub_cancel_left]; exact c4
        exact ba_eq h5
      have h24 := f24_spec (s.extract e t.2.2) (by rw [← bs_len, bs_sub, List.length_take, List.length_drop]; omega)
      rw [blank_of s e t.2.2 (by omega) c6 c1] at h24
      simp only [toTok, tkD] at hx
      generalize (⟨(spellB t.1 t.2.1).toArray⟩ : ByteArray) = sp at *
      generalize (spellB t.1 t.2.1).length = n at *
      generalize (⟨t.2.1.toArray⟩ : ByteArray) = cc at *
      generalize ((t.1 : Nat) : Int) = kk at *
      have d2 : decide ((t.2.2 : Int) < (e : Int)) = false := decide_eq_false (by omega)
      have w1 : IntKind.i64.wrap ((s.size : Int) - (n : Int)) = (s.size : Int) - (n : Int) := wrap_id (by omega)
      have d3 : decide ((t.2.2 : Int) > (s.size : Int) - (n : Int)) = false := decide_eq_false (by omega)
      have d4 : ((n : Int) == 0) = false := by rw [beq_eq_false_iff_ne]; omega
      have w2 : IntKind.i64.wrap ((t.2.2 : Int) + (n : Int)) = ((t.2.2 + n : Nat) : Int) := by rw [wrap_id (by omega)]; push_cast; rfl
      generalize t.2.2 = a at *
      repeat' first
        | refine awp_seq ?_
        | refine awp_block ?_
        | refine awp_skip ?_
        | (refine reg _ (by (simp only [List.map_cons, List.map_nil]; rfl)) rfl ?_; intro K hK)
        | (refine awp_cond _ (by rfl) ?_ ?_ <;> (intro hb; first | (cases hb; done) | (have ht : true = true := hb; clear ht hb) | (have ht : false = false := hb; clear ht hb) | (simp only [hb]) | skip))
        | (refine awp_exit ?_; simp only [thenA, blockA, scopeA, reduceIte, RetQ, Nat.reduceEqDiff])
        | (refine awp_ret ?_; simp only [thenA, blockA, scopeA, RetQ])
        | (refine ev_nil (hK _ ?_); clear hK K)
        | (apply ev_guardU; (case hj | hu | hσ => (simp only [go_sem, d1, hx, hn, d2, w1, d3, d4, w2, heq, beq_self_eq_true, Bool.not_true, Bool.not_false]; try rfl)))
        | (refine ev_guardT _ _ (by (simp only [go_sem, d1, hx, hn, d2, w1, d3, d4, w2, heq, beq_self_eq_true, Bool.not_true, Bool.not_false]; rfl)) (by (simp only [go_sem, d1, hx, hn, d2, w1, d3, d4, w2, heq, beq_self_eq_true, Bool.not_true, Bool.not_false]; rfl)) ?_ ?_ <;> (intro hb; first | (cases hb; done) | (have ht : true = true := hb; clear ht hb) | (have ht : false = false := hb; clear ht hb) | (simp only [hb]) | skip))
        | (refine ev_guardF _ _ (by (simp only [go_sem, d1, hx, hn, d2, w1, d3, d4, w2, heq, beq_self_eq_true, Bool.not_true, Bool.not_false]; rfl)) (by (simp only [go_sem, d1, hx, hn, d2, w1, d3, d4, w2, heq, beq_self_eq_true, Bool.not_true, Bool.not_false]; rfl)) ?_ ?_ <;> (intro hb; first | (cases hb; done) | (have ht : true = true := hb; clear ht hb) | (have ht : false = false := hb; clear ht hb) | (simp only [hb]) | skip))
        | (apply ev_call0; (case hys => (simp only [go_sem, d1, hx, hn, d2, w1, d3, d4, w2, heq, beq_self_eq_true, Bool.not_true, Bool.not_false]; try rfl)); (case hs => first | exact h15 .. | exact h17 .. | exact h16 .. | exact h14 .. | exact h24 ..); (case hok | hσ => (simp only [go_sem, d1, hx, hn, d2, w1, d3, d4, w2, heq, beq_self_eq_true, Bool.not_true, Bool.not_false]; try rfl)))
        | (apply regD; (case hd => (simp only [List.map_cons, List.map_nil]; rfl)); (case hok => rfl); (case' h => (intro K hK; (repeat' first
        | (apply evd_nil; refine (hK _ ?_); clear hK K)
        | (apply evd_guardU0; (case hj | hu | hσ => (simp only [go_sem, d1, hx, hn, d2, w1, d3, d4, w2, heq, beq_self_eq_true, Bool.not_true, Bool.not_false]; try rfl)))
        | (apply evd_guardU; (case hj | hu | hσ => (simp only [go_sem, d1, hx, hn, d2, w1, d3, d4, w2, heq, beq_self_eq_true, Bool.not_true, Bool.not_false]; try rfl)))
        | (apply evd_skipT0; (case hj | hb | hσ => (simp only [go_sem, d1, hx, hn, d2, w1, d3, d4, w2, heq, beq_self_eq_true, Bool.not_true, Bool.not_false]; try rfl)))
        | (apply evd_skipF0; (case hj | hb | hσ => (simp only [go_sem, d1, hx, hn, d2, w1, d3, d4, w2, heq, beq_self_eq_true, Bool.not_true, Bool.not_false]; try rfl)))
        | (apply evd_skipT; (case hj | hb | hσ => (simp only [go_sem, d1, hx, hn, d2, w1, d3, d4, w2, heq, beq_self_eq_true, Bool.not_true, Bool.not_false]; try rfl)))
        | (apply evd_skipF; (case hj | hb | hσ => (simp only [go_sem, d1, hx, hn, d2, w1, d3, d4, w2, heq, beq_self_eq_true, Bool.not_true, Bool.not_false]; try rfl)))
        | (apply evd_guardT; (case hj | hb => (simp only [go_sem, d1, hx, hn, d2, w1, d3, d4, w2, heq, beq_self_eq_true, Bool.not_true, Bool.not_false]; try rfl)); (case' h2 => (intro hb; first | (cases hb; done) | (simp only [hb]) | skip)); (case' h1 => (intro hb; first | (cases hb; done) | (simp only [hb]) | skip)))
        | (apply evd_guardF; (case hj | hb => (simp only [go_sem, d1, hx, hn, d2, w1, d3, d4, w2, heq, beq_self_eq_true, Bool.not_true, Bool.not_false]; try rfl)); (case' h2 => (intro hb; first | (cases hb; done) | (simp only [hb]) | skip)); (case' h1 => (intro hb; first | (cases hb; done) | (simp only [hb]) | skip)))
        | (apply evd_call0; (case hi | hys => (simp only [go_sem, d1, hx, hn, d2, w1, d3, d4, w2, heq, beq_self_eq_true, Bool.not_true, Bool.not_false]; try rfl)); (case hs => first | exact h15 .. | exact h17 .. | exact h16 .. | exact h14 .. | exact h24 ..); (case hok | hw | hσ => (simp only [go_sem, d1, hx, hn, d2, w1, d3, d4, w2, heq, beq_self_eq_true, Bool.not_true, Bool.not_false]; try rfl)))
        | (apply evd_step0; (case hr | hi | hσ => (simp only [go_sem, d1, hx, hn, d2, w1, d3, d4, w2, heq, beq_self_eq_true, Bool.not_true, Bool.not_false]; try rfl)); (case hc => (first | trivial | decide | (simp only [inB, sliceOk, appendOk, rowsOk]; omega) | (simp [inB, sliceOk, appendOk, rowsOk]; omega))))
        | (apply evd_step; (case hr | hi => (simp only [go_sem, d1, hx, hn, d2, w1, d3, d4, w2, heq, beq_self_eq_true, Bool.not_true, Bool.not_false]; try rfl)); (case hc => (first | trivial | decide | (simp only [inB, sliceOk, appendOk, rowsOk]; omega) | (simp [inB, sliceOk, appendOk, rowsOk]; omega))); (case hw | hσ => (intro g u; simp only [go_sem, d1, hx, hn, d2, w1, d3, d4, w2, heq, beq_self_eq_true, Bool.not_true, Bool.not_false]; try rfl)); (case' hk => (intro g u; (try clear u); (try clear g))))
        | fail))); (case hB => kernel_rfl))
        | (apply ev_step0; (case hr | hσ => (simp only [go_sem, d1, hx, hn, d2, w1, d3, d4, w2, heq, beq_self_eq_true, Bool.not_true, Bool.not_false]; try rfl)); (case hc => (first | trivial | decide | (simp only [inB, sliceOk, appendOk, rowsOk]; omega) | (simp [inB, sliceOk, appendOk, rowsOk]; omega))))
        | (apply ev_step; (case hr => (simp only [go_sem, d1, hx, hn, d2, w1, d3, d4, w2, heq, beq_self_eq_true, Bool.not_true, Bool.not_false]; try rfl)); (case hσ => (intro g u; simp only [go_sem, d1, hx, hn, d2, w1, d3, d4, w2, heq, beq_self_eq_true, Bool.not_true, Bool.not_false]; try rfl)); (case hc => (first | trivial | decide | (simp only [inB, sliceOk, appendOk, rowsOk]; omega) | (simp [inB, sliceOk, appendOk, rowsOk]; omega))); intro g u; (try clear u); (try clear g))
        | fail
      refine Exists.intro (i + 1, a + n) ⟨⟨by simp only; omega, c7⟩, by simp only; omega, ?_⟩
      refine Wk.mk ?_ ?_
      all_goals (repeat' first | exact trivial | exact LeA.refl _ | exact LeA.any _ | exact LeO.refl _ | exact LeO.no _ | exact LeA.nil _ | exact LeA.nilOwn _ | exact LeO.nil _ _ _ | refine LeO.box ?_ | (refine LeA.i ?_; (first | rfl | (push_cast; rfl) | (rw [wrap_id (by omega)]; push_cast; omega) | (simp [wrap_id]; omega))) | refine ⟨?_, ?_⟩)
    · have d1 : decide ((i : Int) < (L.length : Int)) = false := decide_eq_false (by omega)
      rw [List.drop_eq_nil_of_le (by omega)] at hc
      simp only [cov] at hc
      obtain ⟨c1, c2⟩ := hc
      have h24 := f24_spec (s.extract e s.size) (by rw [← bs_len, bs_sub, List.length_take, List.length_drop]; omega)
      rw [blank_of s e s.size (Nat.le_refl _) (by rw [List.take_of_length_le (by rw [List.length_drop]; omega), c1, hl]) (by omega)] at h24
      repeat' first
        | refine awp_seq ?_
        | refine awp_block ?_
        | refine awp_skip ?_
        | (refine reg _ (by (simp only [List.map_cons, List.map_nil]; rfl)) rfl ?_; intro K hK)
        | (refine awp_cond _ (by rfl) ?_ ?_ <;> (intro hb; first | (cases hb; done) | (have ht : true = true := hb; clear ht hb) | (have ht : false = false := hb; clear ht hb) | (simp only [hb]) | skip))
        | (refine awp_exit ?_; simp only [thenA, blockA, scopeA, reduceIte, RetQ, Nat.reduceEqDiff])
        | (refine awp_ret ?_; simp only [thenA, blockA, scopeA, RetQ])
        | (refine ev_nil (hK _ ?_); clear hK K)
        | (apply ev_guardU; (case hj | hu | hσ => (simp only [go_sem, d1, beq_self_eq_true]; try rfl)))
        | (refine ev_guardT _ _ (by (simp only [go_sem, d1, beq_self_eq_true]; rfl)) (by (simp only [go_sem, d1, beq_self_eq_true]; rfl)) ?_ ?_ <;> (intro hb; first | (cases hb; done) | (have ht : true = true := hb; clear ht hb) | (have ht : false = false := hb; clear ht hb) | (simp only [hb]) | skip))
        | (refine ev_guardF _ _ (by (simp only [go_sem, d1, beq_self_eq_true]; rfl)) (by (simp only [go_sem, d1, beq_self_eq_true]; rfl)) ?_ ?_ <;> (intro hb; first | (cases hb; done) | (have ht : true = true := hb; clear ht hb) | (have ht : false = false := hb; clear ht hb) | (simp only [hb]) | skip))
        | (apply ev_call0; (case hys => (simp only [go_sem, d1, beq_self_eq_true]; try rfl)); (case hs => first | exact h24 ..); (case hok | hσ => (simp only [go_sem, d1, beq_self_eq_true]; try rfl)))
        | (apply ev_step0; (case hr | hσ => (simp only [go_sem, d1, beq_self_eq_true]; try rfl)); (case hc => (first | trivial | decide | (simp only [inB, sliceOk, appendOk, rowsOk]; omega) | (simp [inB, sliceOk, appendOk, rowsOk]; omega))))
        | (apply ev_step; (case hr => (simp only [go_sem, d1, beq_self_eq_true]; try rfl)); (case hσ => (intro g u; simp only [go_sem, d1, beq_self_eq_true]; try rfl)); (case hc => (first | trivial | decide | (simp only [inB, sliceOk, appendOk, rowsOk]; omega) | (simp [inB, sliceOk, appendOk, rowsOk]; omega))); intro g u; (try clear u); (try clear g))
        | fail
      all_goals (refine resR_one T_ok rfl _ (by (simp only [go_sem, resA]; rfl)) (by first | trivial | (simp only [go_sem, resA])) (by first | trivial | (simp only [go_sem])) ?_; simp only [go_sem])
      exact LeA.refl _
/-- The law, for whatever reads as its arguments. -/
theorem law6_spec : ∀ dss, tyRs T 8 [9] dss → Spec Try.prog 6 (avTys T [9] dss) (.d (.lit (.bool true))) := by
  intro dss h
  obtain ⟨d0, r0, rfl, h0, h⟩ := tyRs_one h
  obtain rfl := tyRs_nil h
  obtain ⟨s, rfl, hs⟩ := ty9 h0
  have := f6_spec s hs
  simp only [avTys, avTy, T9, ti9, List.map_cons, List.map_nil, List.headD_cons, if_true, Bool.false_eq_true, if_false]
  exact this
end
section
set_option linter.unusedVariables false
set_option linter.unusedSimpArgs false
open Go.RowKit
attribute [local irreducible] AWp evOps evD
theorem sub_one (s : ByteArray) {i : Nat} (h : i < s.size) : s.extract i (i + 1) = ⟨#[(bs s).getD i 0]⟩ := by
  refine ba_eq ?_
  rw [bs_sub, Nat.add_sub_cancel_left, drop_one (bs s) (by rw [bs_len]; exact h)]
  rfl
set_option maxHeartbeats 8000000 in
theorem f18_spec (k : Int) (s : ByteArray) (a : Int) (hs : s.size ≤ 1000000) : Spec Try.prog 18 [.agg (tokA k s a)] (litS ⟨(spellZ k (bs s)).toArray⟩) := by
  have h16 := f16_spec k s a hs
  cases hv : validZ k (bs s) with
  | false =>
    rw [hv] at h16
    have e : spellZ k (bs s) = [] := by rw [spellZ, hv]; rfl
    rw [e]
    refine spec_of_awp (fn := Try.f18) Try.func18 (by kernel_rfl) rfl ?_
    intro w0 C0
    simp only [Try.ntmps18, litI, litB, litS, List.length_cons, List.length_nil, Nat.reduceAdd, Nat.reduceSub, List.replicate_succ, List.replicate_zero, List.cons_append, List.nil_append]
    repeat' first
      | refine awp_seq ?_
      | refine awp_block ?_
      | refine awp_skip ?_
      | (refine reg _ (by (simp only [List.map_cons, List.map_nil]; rfl)) rfl ?_; intro K hK)
      | (refine awp_cond _ (by rfl) ?_ ?_ <;> (intro hb; first | (cases hb; done) | (have ht : true = true := hb; clear ht hb) | (have ht : false = false := hb; clear ht hb) | (simp only [hb]) | skip))
      | (refine awp_exit ?_; simp only [thenA, blockA, scopeA, reduceIte, RetQ, Nat.reduceEqDiff])
      | (refine awp_ret ?_; simp only [thenA, blockA, scopeA, RetQ])
      | (refine ev_nil (hK _ ?_); clear hK K)
      | (apply ev_guardU; (case hj | hu | hσ => (simp only [go_sem]; try rfl)))
      | (refine ev_guardT _ _ (by (simp only [go_sem]; rfl)) (by (simp only [go_sem]; rfl)) ?_ ?_ <;> (intro hb; first | (cases hb; done) | (have ht : true = true := hb; clear ht hb) | (have ht : false = false := hb; clear ht hb) | (simp only [hb]) | skip))
      | (refine ev_guardF _ _ (by (simp only [go_sem]; rfl)) (by (simp only [go_sem]; rfl)) ?_ ?_ <;> (intro hb; first | (cases hb; done) | (have ht : true = true := hb; clear ht hb) | (have ht : false = false := hb; clear ht hb) | (simp only [hb]) | skip))
      | (apply ev_call0; (case hys => (simp only [go_sem]; try rfl)); (case hs => first | exact h16 ..); (case hok | hσ => (simp only [go_sem]; try rfl)))
      | (apply ev_step0; (case hr | hσ => (simp only [go_sem]; try rfl)); (case hc => (first | trivial | decide | (simp only [inB, sliceOk, appendOk, rowsOk]; omega) | (simp [inB, sliceOk, appendOk, rowsOk]; omega))))
      | (apply ev_step; (case hr => (simp only [go_sem]; try rfl)); (case hσ => (intro g u; simp only [go_sem]; try rfl)); (case hc => (first | trivial | decide | (simp only [inB, sliceOk, appendOk, rowsOk]; omega) | (simp [inB, sliceOk, appendOk, rowsOk]; omega))); intro g u; (try clear u); (try clear g))
      | fail
    all_goals (refine resR_one T_ok rfl _ (by (simp only [go_sem, resA]; rfl)) (by first | trivial | (simp only [go_sem, resA])) (by first | trivial | (simp only [go_sem])) ?_; simp only [go_sem])
    exact LeA.refl _
  | true =>
    rw [hv] at h16
    by_cases h3 : k = 3
    rotate_left
    · have d3 : (k != 3) = true := by simpa using h3
      have e : (⟨(spellZ k (bs s)).toArray⟩ : ByteArray) = s := by
        have hk : k.toNat ≠ 3 := by omega
        rw [spellZ, hv, if_pos rfl, spellB, if_neg hk]
      rw [e]
      refine spec_of_awp (fn := Try.f18) Try.func18 (by kernel_rfl) rfl ?_
      intro w0 C0
      simp only [Try.ntmps18, litI, litB, litS, List.length_cons, List.length_nil, Nat.reduceAdd, Nat.reduceSub, List.replicate_succ, List.replicate_zero, List.cons_append, List.nil_append]
      repeat' first
        | refine awp_seq ?_
        | refine awp_block ?_
        | refine awp_skip ?_
        | (refine reg _ (by (simp only [List.map_cons, List.map_nil]; rfl)) rfl ?_; intro K hK)
        | (refine awp_cond _ (by rfl) ?_ ?_ <;> (intro hb; first | (cases hb; done) | (have ht : true = true := hb; clear ht hb) | (have ht : false = false := hb; clear ht hb) | (simp only [hb]) | skip))
        | (refine awp_exit ?_; simp only [thenA, blockA, scopeA, reduceIte, RetQ, Nat.reduceEqDiff])
        | (refine awp_ret ?_; simp only [thenA, blockA, scopeA, RetQ])
        | (refine ev_nil (hK _ ?_); clear hK K)
        | (apply ev_guardU; (case hj | hu | hσ => (simp only [go_sem, d3]; try rfl)))
        | (refine ev_guardT _ _ (by (simp only [go_sem, d3]; rfl)) (by (simp only [go_sem, d3]; rfl)) ?_ ?_ <;> (intro hb; first | (cases hb; done) | (have ht : true = true := hb; clear ht hb) | (have ht : false = false := hb; clear ht hb) | (simp only [hb]) | skip))
        | (refine ev_guardF _ _ (by (simp only [go_sem, d3]; rfl)) (by (simp only [go_sem, d3]; rfl)) ?_ ?_ <;> (intro hb; first | (cases hb; done) | (have ht : true = true := hb; clear ht hb) | (have ht : false = false := hb; clear ht hb) | (simp only [hb]) | skip))
        | (apply ev_call0; (case hys => (simp only [go_sem, d3]; try rfl)); (case hs => first | exact h16 ..); (case hok | hσ => (simp only [go_sem, d3]; try rfl)))
        | (apply ev_step0; (case hr | hσ => (simp only [go_sem, d3]; try rfl)); (case hc => (first | trivial | decide | (simp only [inB, sliceOk, appendOk, rowsOk]; omega) | (simp [inB, sliceOk, appendOk, rowsOk]; omega))))
        | (apply ev_step; (case hr => (simp only [go_sem, d3]; try rfl)); (case hσ => (intro g u; simp only [go_sem, d3]; try rfl)); (case hc => (first | trivial | decide | (simp only [inB, sliceOk, appendOk, rowsOk]; omega) | (simp [inB, sliceOk, appendOk, rowsOk]; omega))); intro g u; (try clear u); (try clear g))
        | fail
      all_goals (refine resR_one T_ok rfl _ (by (simp only [go_sem, resA]; rfl)) (by first | trivial | (simp only [go_sem, resA])) (by first | trivial | (simp only [go_sem])) ?_; simp only [go_sem])
      exact LeA.refl _
    subst h3
    have hl := bs_len s
    have hv40 : s.size ≤ 40 := by have := valid_len (k := 3) (c := bs s) hv; omega
    obtain ⟨z, hz⟩ : ∃ z : Bs, spellZ 3 (bs s) = z := ⟨_, rfl⟩
    have hz2 : z = 34 :: (escB (bs s) ++ [34]) := by rw [← hz, spellZ, hv]; rfl
    rw [hz]
    clear hz
    refine spec_of_awp (fn := Try.f18) Try.func18 (by kernel_rfl) rfl ?_
    intro w0 C0
    simp only [Try.ntmps18, litI, litB, litS, List.length_cons, List.length_nil, Nat.reduceAdd, Nat.reduceSub, List.replicate_succ, List.replicate_zero, List.cons_append, List.nil_append]
    repeat' first
      | refine awp_seq ?_
      | refine awp_block ?_
      | refine awp_skip ?_
      | (refine reg _ (by (simp only [List.map_cons, List.map_nil]; rfl)) rfl ?_; intro K hK)
      | (refine awp_cond _ (by rfl) ?_ ?_ <;> (intro hb; first | (cases hb; done) | (have ht : true = true := hb; clear ht hb) | (have ht : false = false := hb; clear ht hb) | (simp only [hb]) | skip))
      | (refine awp_exit ?_; simp only [thenA, blockA, scopeA, reduceIte, RetQ, Nat.reduceEqDiff])
      | (refine awp_ret ?_; simp only [thenA, blockA, scopeA, RetQ])
      | (refine ev_nil (hK _ ?_); clear hK K)
      | (apply ev_guardU; (case hj | hu | hσ => (simp only [go_sem, Int.reduceBNe]; try rfl)))
      | (refine ev_guardT _ _ (by (simp only [go_sem, Int.reduceBNe]; rfl)) (by (simp only [go_sem, Int.reduceBNe]; rfl)) ?_ ?_ <;> (intro hb; first | (cases hb; done) | (have ht : true = true := hb; clear ht hb) | (have ht : false = false := hb; clear ht hb) | (simp only [hb]) | skip))
      | (refine ev_guardF _ _ (by (simp only [go_sem, Int.reduceBNe]; rfl)) (by (simp only [go_sem, Int.reduceBNe]; rfl)) ?_ ?_ <;> (intro hb; first | (cases hb; done) | (have ht : true = true := hb; clear ht hb) | (have ht : false = false := hb; clear ht hb) | (simp only [hb]) | skip))
      | (apply ev_call0; (case hys => (simp only [go_sem, Int.reduceBNe]; try rfl)); (case hs => first | exact h16 ..); (case hok | hσ => (simp only [go_sem, Int.reduceBNe]; try rfl)))
      | (apply ev_step0; (case hr | hσ => (simp only [go_sem, Int.reduceBNe]; try rfl)); (case hc => (first | trivial | decide | (simp only [inB, sliceOk, appendOk, rowsOk]; omega) | (simp [inB, sliceOk, appendOk, rowsOk]; omega))))
      | (apply ev_step; (case hr => (simp only [go_sem, Int.reduceBNe]; try rfl)); (case hσ => (intro g u; simp only [go_sem, Int.reduceBNe]; try rfl)); (case hc => (first | trivial | decide | (simp only [inB, sliceOk, appendOk, rowsOk]; omega) | (simp [inB, sliceOk, appendOk, rowsOk]; omega))); intro g u; (try clear u); (try clear g))
      | fail
    refine awp_loopI (fun j : Nat × ByteArray => j.1 ≤ s.size ∧ j.2.size ≤ 1 + 2 * j.1 ∧ bs j.2 = 34 :: escB ((bs s).take j.1)) (fun j => s.size - j.1) (fun j => ⟨[.any, .ptr 1 g 0, .any, litS j.2, litI .i64 j.1, .any, .any, .any, .any, .any, .any, .any, .any, .any, .any, .any, .any, .any, .any, .any, .any, .any, .any, .any, .any, .any, .any, .any, .any, .any, .any, .any, .any, .any, .any, .any, .any, .any, .any, .any, .any, .any, .any, .any], [.no, .box g (tokA 3 s a), .no, .no, .no, .no, .no, .no, .no, .no, .no, .no, .no, .no, .no, .no, .no, .no, .no, .no, .no, .no, .no, .no, .no, .no, .no, .no, .no, .no, .no, .no, .no, .no, .no, .no, .no, .no, .no, .no, .no, .no, .no, .no]⟩) (0, ⟨#[34]⟩) ⟨by simp, by show (1 : Nat) ≤ _; omega, by simp [bs, escB]⟩ ?_ ?_
    · refine Wk.mk ?_ ?_
      all_goals (repeat' first | exact trivial | exact LeA.refl _ | exact LeA.any _ | exact LeO.refl _ | exact LeO.no _ | exact LeA.nil _ | exact LeA.nilOwn _ | exact LeO.nil _ _ _ | refine LeO.box ?_ | (refine LeA.i ?_; (first | rfl | (push_cast; rfl) | (rw [wrap_id (by omega)]; push_cast; omega) | (simp [wrap_id]; omega))) | refine ⟨?_, ?_⟩)
    rintro ⟨i, sv⟩ ⟨hi, hvz, hvb⟩
    simp only [litI, litB, litS, tokA] at hi hvz hvb ⊢
    by_cases h1 : i < s.size
    rotate_left
    · have d1 : decide ((i : Int) < (s.size : Int)) = false := decide_eq_false (by omega)
      have hc0 : sv.size + (⟨#[34]⟩ : ByteArray).size ≤ 9223372036854775807 := by show sv.size + 1 ≤ _; omega
      have he : sv ++ ⟨#[34]⟩ = ⟨z.toArray⟩ := ba_eq (by
        rw [bs_app, hvb, List.take_of_length_le (by omega), hz2]; rfl)
      repeat' first
        | refine awp_seq ?_
        | refine awp_block ?_
        | refine awp_skip ?_
        | (refine reg _ (by (simp only [List.map_cons, List.map_nil]; rfl)) rfl ?_; intro K hK)
        | (refine awp_cond _ (by rfl) ?_ ?_ <;> (intro hb; first | (cases hb; done) | (have ht : true = true := hb; clear ht hb) | (have ht : false = false := hb; clear ht hb) | (simp only [hb]) | skip))
        | (refine awp_exit ?_; simp only [thenA, blockA, scopeA, reduceIte, RetQ, Nat.reduceEqDiff])
        | (refine awp_ret ?_; simp only [thenA, blockA, scopeA, RetQ])
        | (refine ev_nil (hK _ ?_); clear hK K)
        | (apply ev_guardU; (case hj | hu | hσ => (simp only [go_sem, d1, he]; try rfl)))
        | (refine ev_guardT _ _ (by (simp only [go_sem, d1, he]; rfl)) (by (simp only [go_sem, d1, he]; rfl)) ?_ ?_ <;> (intro hb; first | (cases hb; done) | (have ht : true = true := hb; clear ht hb) | (have ht : false = false := hb; clear ht hb) | (simp only [hb]) | skip))
        | (refine ev_guardF _ _ (by (simp only [go_sem, d1, he]; rfl)) (by (simp only [go_sem, d1, he]; rfl)) ?_ ?_ <;> (intro hb; first | (cases hb; done) | (have ht : true = true := hb; clear ht hb) | (have ht : false = false := hb; clear ht hb) | (simp only [hb]) | skip))
        | (apply ev_step0; (case hr | hσ => (simp only [go_sem, d1, he]; try rfl)); (case hc => (first | trivial | decide | (simp only [inB, sliceOk, appendOk, rowsOk]; omega) | (simp [inB, sliceOk, appendOk, rowsOk]; omega))))
        | (apply ev_step; (case hr => (simp only [go_sem, d1, he]; try rfl)); (case hσ => (intro g u; simp only [go_sem, d1, he]; try rfl)); (case hc => (first | trivial | decide | (simp only [inB, sliceOk, appendOk, rowsOk]; omega) | (simp [inB, sliceOk, appendOk, rowsOk]; omega))); intro g u; (try clear u); (try clear g))
        | fail
      all_goals (refine resR_one T_ok rfl _ (by (simp only [go_sem, resA]; rfl)) (by first | trivial | (simp only [go_sem, resA])) (by first | trivial | (simp only [go_sem])) ?_; simp only [go_sem])
      exact LeA.refl _
    have d1 : decide ((i : Int) < (s.size : Int)) = true := decide_eq_true (by omega)
    have hx := byteAt_nat s i
    have hse := sub_one s h1
    have w1 : IntKind.i64.wrap ((i : Int) + 1) = ((i + 1 : Nat) : Int) := by rw [wrap_id (by omega)]; push_cast; rfl
    have htk : (bs s).take (i + 1) = (bs s).take i ++ [(bs s).getD i 0] := by
      rw [List.take_succ_eq_append_getElem (by omega)]
      simp [List.getD_eq_getElem?_getD, hl, h1]
    have e1 : ((((bs s).getD i 0).toNat : Int) == 34) = ((bs s).getD i 0 == 34) := u8_eq _ 34
    have e2 : ((((bs s).getD i 0).toNat : Int) == 92) = ((bs s).getD i 0 == 92) := u8_eq _ 92
    generalize (bs s).getD i 0 = x at *
    have hc1 : sv.size + (⟨#[92]⟩ : ByteArray).size ≤ 9223372036854775807 := by show sv.size + 1 ≤ _; omega
    have hz1 := app_size sv ⟨#[92]⟩
    have hz92 : (⟨#[92]⟩ : ByteArray).size = 1 := rfl
    have hzx : (⟨#[x]⟩ : ByteArray).size = 1 := rfl
    have hzs := app_size sv ⟨#[x]⟩
    have hzt := app_size (sv ++ ⟨#[92]⟩) ⟨#[x]⟩
    by_cases hq : x = 34 ∨ x = 92
    · have hn : bs (sv ++ ⟨#[92]⟩ ++ ⟨#[x]⟩) = 34 :: escB ((bs s).take (i + 1)) := by
        rw [bs_app, bs_app, hvb, htk, escB_snoc]
        simp only [escB, if_pos hq]
        simp [bs]
      by_cases h34 : x = 34
      · have f1 : ((x.toNat : Int) == 34) = true := by rw [e1, h34]; rfl
        clear e1 e2
        repeat' first
          | refine awp_seq ?_
          | refine awp_block ?_
          | refine awp_skip ?_
          | (refine reg _ (by (simp only [List.map_cons, List.map_nil]; rfl)) rfl ?_; intro K hK)
          | (refine awp_cond _ (by rfl) ?_ ?_ <;> (intro hb; first | (cases hb; done) | (have ht : true = true := hb; clear ht hb) | (have ht : false = false := hb; clear ht hb) | (simp only [hb]) | skip))
          | (refine awp_exit ?_; simp only [thenA, blockA, scopeA, reduceIte, RetQ, Nat.reduceEqDiff])
          | (refine awp_ret ?_; simp only [thenA, blockA, scopeA, RetQ])
          | (refine ev_nil (hK _ ?_); clear hK K)
          | (apply ev_guardU; (case hj | hu | hσ => (simp only [go_sem, d1, hx, f1, w1, hse]; try rfl)))
          | (refine ev_guardT _ _ (by (simp only [go_sem, d1, hx, f1, w1, hse]; rfl)) (by (simp only [go_sem, d1, hx, f1, w1, hse]; rfl)) ?_ ?_ <;> (intro hb; first | (cases hb; done) | (have ht : true = true := hb; clear ht hb) | (have ht : false = false := hb; clear ht hb) | (simp only [hb]) | skip))
          | (refine ev_guardF _ _ (by (simp only [go_sem, d1, hx, f1, w1, hse]; rfl)) (by (simp only [go_sem, d1, hx, f1, w1, hse]; rfl)) ?_ ?_ <;> (intro hb; first | (cases hb; done) | (have ht : true = true := hb; clear ht hb) | (have ht : false = false := hb; clear ht hb) | (simp only [hb]) | skip))
          | (apply ev_step0; (case hr | hσ => (simp only [go_sem, d1, hx, f1, w1, hse]; try rfl)); (case hc => (first | trivial | decide | (simp only [inB, sliceOk, appendOk, rowsOk]; omega) | (simp [inB, sliceOk, appendOk, rowsOk]; omega))))
          | (apply ev_step; (case hr => (simp only [go_sem, d1, hx, f1, w1, hse]; try rfl)); (case hσ => (intro g u; simp only [go_sem, d1, hx, f1, w1, hse]; try rfl)); (case hc => (first | trivial | decide | (simp only [inB, sliceOk, appendOk, rowsOk]; omega) | (simp [inB, sliceOk, appendOk, rowsOk]; omega))); intro g u; (try clear u); (try clear g))
          | fail
        refine Exists.intro (i + 1, sv ++ ⟨#[92]⟩ ++ ⟨#[x]⟩) ⟨⟨by simp only; omega, by simp only; omega, hn⟩, by simp only; omega, ?_⟩
        refine Wk.mk ?_ ?_
        all_goals (repeat' first | exact trivial | exact LeA.refl _ | exact LeA.any _ | exact LeO.refl _ | exact LeO.no _ | exact LeA.nil _ | exact LeA.nilOwn _ | exact LeO.nil _ _ _ | refine LeO.box ?_ | (refine LeA.i ?_; (first | rfl | (push_cast; rfl) | (rw [wrap_id (by omega)]; push_cast; omega) | (simp [wrap_id]; omega))) | refine ⟨?_, ?_⟩)
      · have f1 : ((x.toNat : Int) == 34) = false := by rw [e1]; simpa using h34
        have f2 : ((x.toNat : Int) == 92) = true := by rw [e2, hq.resolve_left h34]; rfl
        clear e1 e2
        repeat' first
          | refine awp_seq ?_
          | refine awp_block ?_
          | refine awp_skip ?_
          | (refine reg _ (by (simp only [List.map_cons, List.map_nil]; rfl)) rfl ?_; intro K hK)
          | (refine awp_cond _ (by rfl) ?_ ?_ <;> (intro hb; first | (cases hb; done) | (have ht : true = true := hb; clear ht hb) | (have ht : false = false := hb; clear ht hb) | (simp only [hb]) | skip))
          | (refine awp_exit ?_; simp only [thenA, blockA, scopeA, reduceIte, RetQ, Nat.reduceEqDiff])
          | (refine awp_ret ?_; simp only [thenA, blockA, scopeA, RetQ])
          | (refine ev_nil (hK _ ?_); clear hK K)
          | (apply ev_guardU; (case hj | hu | hσ => (simp only [go_sem, d1, hx, f1, f2, w1, hse]; try rfl)))
          | (refine ev_guardT _ _ (by (simp only [go_sem, d1, hx, f1, f2, w1, hse]; rfl)) (by (simp only [go_sem, d1, hx, f1, f2, w1, hse]; rfl)) ?_ ?_ <;> (intro hb; first | (cases hb; done) | (have ht : true = true := hb; clear ht hb) | (have ht : false = false := hb; clear ht hb) | (simp only [hb]) | skip))
          | (refine ev_guardF _ _ (by (simp only [go_sem, d1, hx, f1, f2, w1, hse]; rfl)) (by (simp only [go_sem, d1, hx, f1, f2, w1, hse]; rfl)) ?_ ?_ <;> (intro hb; first | (cases hb; done) | (have ht : true = true := hb; clear ht hb) | (have ht : false = false := hb; clear ht hb) | (simp only [hb]) | skip))
          | (apply ev_step0; (case hr | hσ => (simp only [go_sem, d1, hx, f1, f2, w1, hse]; try rfl)); (case hc => (first | trivial | decide | (simp only [inB, sliceOk, appendOk, rowsOk]; omega) | (simp [inB, sliceOk, appendOk, rowsOk]; omega))))
          | (apply ev_step; (case hr => (simp only [go_sem, d1, hx, f1, f2, w1, hse]; try rfl)); (case hσ => (intro g u; simp only [go_sem, d1, hx, f1, f2, w1, hse]; try rfl)); (case hc => (first | trivial | decide | (simp only [inB, sliceOk, appendOk, rowsOk]; omega) | (simp [inB, sliceOk, appendOk, rowsOk]; omega))); intro g u; (try clear u); (try clear g))
          | fail
        refine Exists.intro (i + 1, sv ++ ⟨#[92]⟩ ++ ⟨#[x]⟩) ⟨⟨by simp only; omega, by simp only; omega, hn⟩, by simp only; omega, ?_⟩
        refine Wk.mk ?_ ?_
        all_goals (repeat' first | exact trivial | exact LeA.refl _ | exact LeA.any _ | exact LeO.refl _ | exact LeO.no _ | exact LeA.nil _ | exact LeA.nilOwn _ | exact LeO.nil _ _ _ | refine LeO.box ?_ | (refine LeA.i ?_; (first | rfl | (push_cast; rfl) | (rw [wrap_id (by omega)]; push_cast; omega) | (simp [wrap_id]; omega))) | refine ⟨?_, ?_⟩)
    · have hn : bs (sv ++ ⟨#[x]⟩) = 34 :: escB ((bs s).take (i + 1)) := by
        rw [bs_app, hvb, htk, escB_snoc]
        simp only [escB, if_neg hq]
        simp [bs]
      have f1 : ((x.toNat : Int) == 34) = false := by rw [e1]; simpa using fun h => hq (.inl h)
      have f2 : ((x.toNat : Int) == 92) = false := by rw [e2]; simpa using fun h => hq (.inr h)
      clear e1 e2
      repeat' first
        | refine awp_seq ?_
        | refine awp_block ?_
        | refine awp_skip ?_
        | (refine reg _ (by (simp only [List.map_cons, List.map_nil]; rfl)) rfl ?_; intro K hK)
        | (refine awp_cond _ (by rfl) ?_ ?_ <;> (intro hb; first | (cases hb; done) | (have ht : true = true := hb; clear ht hb) | (have ht : false = false := hb; clear ht hb) | (simp only [hb]) | skip))
        | (refine awp_exit ?_; simp only [thenA, blockA, scopeA, reduceIte, RetQ, Nat.reduceEqDiff])
        | (refine awp_ret ?_; simp only [thenA, blockA, scopeA, RetQ])
        | (refine ev_nil (hK _ ?_); clear hK K)
        | (apply ev_guardU; (case hj | hu | hσ => (simp only [go_sem, d1, hx, f1, f2, w1, hse]; try rfl)))
        | (refine ev_guardT _ _ (by (simp only [go_sem, d1, hx, f1, f2, w1, hse]; rfl)) (by (simp only [go_sem, d1, hx, f1, f2, w1, hse]; rfl)) ?_ ?_ <;> (intro hb; first | (cases hb; done) | (have ht : true = true := hb; clear ht hb) | (have ht : false = false := hb; clear ht hb) | (simp only [hb]) | skip))
        | (refine ev_guardF _ _ (by (simp only [go_sem, d1, hx, f1, f2, w1, hse]; rfl)) (by (simp only [go_sem, d1, hx, f1, f2, w1, hse]; rfl)) ?_ ?_ <;> (intro hb; first | (cases hb; done) | (have ht : true = true := hb; clear ht hb) | (have ht : false = false := hb; clear ht hb) | (simp only [hb]) | skip))
        | (apply ev_step0; (case hr | hσ => (simp only [go_sem, d1, hx, f1, f2, w1, hse]; try rfl)); (case hc => (first | trivial | decide | (simp only [inB, sliceOk, appendOk, rowsOk]; omega) | (simp [inB, sliceOk, appendOk, rowsOk]; omega))))
        | (apply ev_step; (case hr => (simp only [go_sem, d1, hx, f1, f2, w1, hse]; try rfl)); (case hσ => (intro g u; simp only [go_sem, d1, hx, f1, f2, w1, hse]; try rfl)); (case hc => (first | trivial | decide | (simp only [inB, sliceOk, appendOk, rowsOk]; omega) | (simp [inB, sliceOk, appendOk, rowsOk]; omega))); intro g u; (try clear u); (try clear g))
        | fail
      refine Exists.intro (i + 1, sv ++ ⟨#[x]⟩) ⟨⟨by simp only; omega, by simp only; omega, hn⟩, by simp only; omega, ?_⟩
      refine Wk.mk ?_ ?_
      all_goals (repeat' first | exact trivial | exact LeA.refl _ | exact LeA.any _ | exact LeO.refl _ | exact LeO.no _ | exact LeA.nil _ | exact LeA.nilOwn _ | exact LeO.nil _ _ _ | refine LeO.box ?_ | (refine LeA.i ?_; (first | rfl | (push_cast; rfl) | (rw [wrap_id (by omega)]; push_cast; omega) | (simp [wrap_id]; omega))) | refine ⟨?_, ?_⟩)
end
end Go.Proofs.Ytnppegglggcceaa.A
